/- A search that is being drawn: its box, its two lists, and the reader beside them. Plain laws of memory. -/
import Derived.Test.YtlhcjbgcgbeocaaDoorDraw
namespace Go.Proofs.YtlhcjbgcgbeocaaDoor
open Go.RowKit

def triL : List (Int × Int × Int) → List Value
  | [] => []
  | t :: l => .int .i64 t.1 :: .int .i64 t.2.1 :: .int .i64 t.2.2 :: triL l
def booL (l : List Bool) : List Value := l.map Value.bool
theorem triL_snoc (t : Int × Int × Int) : ∀ l, triL (l ++ [t]) = triL l ++ [.int .i64 t.1, .int .i64 t.2.1, .int .i64 t.2.2]
  | [] => rfl
  | a :: l => by simp [triL, triL_snoc t l]
theorem booL_snoc (b : Bool) (l : List Bool) : booL (l ++ [b]) = booL l ++ [.bool b] := by simp [booL]
theorem triL_get (j : Nat) : ∀ (l : List (Int × Int × Int)) (_ : j < l.length), (triL l)[j * 3]? = some (.int .i64 (l.getD j (0, 0, 0)).1) ∧ (triL l)[j * 3 + 1]? = some (.int .i64 (l.getD j (0, 0, 0)).2.1) ∧ (triL l)[j * 3 + 2]? = some (.int .i64 (l.getD j (0, 0, 0)).2.2) := by
  induction j with
  | zero =>
    intro l h
    match l, h with
    | t :: l, _ => exact ⟨rfl, rfl, rfl⟩
  | succ j ih =>
    intro l h
    match l, h with
    | t :: l, h =>
      have := ih l (by simpa using h)
      rw [show (j + 1) * 3 = j * 3 + 3 by omega]
      simpa [triL] using this

/-- The reader g, the search's box h, its lists u and v, from block B on. -/
structure DrS (B g h : Nat) (w : World) (p : Nat) (sp : Int) (u v : Value) (l : List (Int × Int × Int)) (k : List Bool) : Prop where
  rdr : Rdr w g p
  blk : Blk w h 26 #[.int .i64 sp, u, v]
  pas : Own w B 31 3 u l.length (triL l)
  dep : Own w B 4 1 v k.length (booL k)
  ap : Apart u v
  ord : g < h ∧ h < B ∧ B ≤ w.heap.size

section
variable {B g h : Nat} {w w' : World} {p : Nat} {sp : Int} {u v : Value} {l : List (Int × Int × Int)} {k : List Bool}
theorem DrS.drew (H : DrS B g h w p sp u v l k) : DrS B g h w.drew p sp u v l k := ⟨H.rdr.below (Below.refl _ _).drew, H.blk, H.pas, H.dep, H.ap, H.ord⟩
theorem DrS.alloc (H : DrS B g h w p sp u v l k) (o : Obj) : DrS B g h (w.alloc o) p sp u v l k :=
  ⟨H.rdr.below ((Below.refl _ _).alloc (Nat.le_refl _) _), H.blk.alloc o, World.ownsRow.alloc H.pas o, World.ownsRow.alloc H.dep o, H.ap, H.ord.1, H.ord.2.1, by have := H.ord.2.2; simp; omega⟩
theorem DrS.pick {p' : Nat} (H : DrS B g h w p sp u v l k) (hr : Rdr w' g p') (hk : Kept g (g + 1) w w') : DrS B g h w' p' sp u v l k :=
  ⟨hr, (hk.block h H.blk.lt (.inr (by have := H.ord; omega))).trans H.blk, Own.kept H.pas hk (by have := H.ord; omega), Own.kept H.dep hk (by have := H.ord; omega), H.ap, H.ord.1, H.ord.2.1, by have := H.ord.2.2; have := hk.size; omega⟩
/-- A row behind B has grown: what lies below is as it was. -/
theorem DrS.mid {row : Option Nat} (H : DrS B g h w p sp u v l k) (hg : w.grownBy w' row) (hr : ∀ a, row = some a → B ≤ a) : Rdr w' g p ∧ Blk w' h 26 #[.int .i64 sp, u, v] ∧ B ≤ w'.heap.size := by
  have hlow : ∀ j, j < B → w'.heap[j]? = w.heap[j]? := fun j hj => hg.block j (by have := H.ord; omega) (fun e => by have := hr j e.symm; omega)
  exact ⟨H.rdr.low (fun j hj => hlow j (by have := H.ord; omega)), (hlow h H.ord.2.1).trans H.blk, by have := H.ord; have := hg.size; omega⟩
theorem DrS.setB {b : Bool} {v' : Value} (H : DrS B g h w p sp u v l k) (hown : Own w' B 4 1 v' (k.length + 1) (booL k ++ [.bool b])) (hg : w.grownBy w' v.ownBlock) (hat : v'.ownBlock = v.ownBlock ∨ v'.ownBlock = some w.heap.size) :
    DrS B g h (w'.setCell ⟨h, 2, none⟩ v') p sp u v' l (k ++ [b]) := by
  obtain ⟨m1, m2, m3⟩ := H.mid hg (fun a ha => (World.ownsRow.lt H.dep a ha).1)
  refine ⟨m1.low (fun j hj => Below.heap_setCell _ _ _ _ (by have := H.ord; show j ≠ h; omega)), m2.set_ 2 v', Own.set (Own.grown H.pas hg H.ap) H.ord.2.1 _, ?_, Apart.after H.ap H.pas hat, H.ord.1, H.ord.2.1, by simpa [World.setCell] using m3⟩
  have := Own.set hown (p := ⟨h, 2, none⟩) H.ord.2.1 v'
  rw [booL_snoc, List.length_append]
  exact this
theorem DrS.setP {t : Int × Int × Int} {u' : Value} (H : DrS B g h w p sp u v l k) (hown : Own w' B 31 3 u' (l.length + 1) (triL l ++ [.int .i64 t.1, .int .i64 t.2.1, .int .i64 t.2.2])) (hg : w.grownBy w' u.ownBlock) (hat : u'.ownBlock = u.ownBlock ∨ u'.ownBlock = some w.heap.size) :
    DrS B g h (w'.setCell ⟨h, 1, none⟩ u') p sp u' v (l ++ [t]) k := by
  obtain ⟨m1, m2, m3⟩ := H.mid hg (fun a ha => (World.ownsRow.lt H.pas a ha).1)
  refine ⟨m1.low (fun j hj => Below.heap_setCell _ _ _ _ (by have := H.ord; show j ≠ h; omega)), m2.set_ 1 u', ?_, Own.set (Own.grown H.dep hg H.ap.symm) H.ord.2.1 _, (Apart.after H.ap.symm H.dep hat).symm, H.ord.1, H.ord.2.1, by simpa [World.setCell] using m3⟩
  have := Own.set hown (p := ⟨h, 1, none⟩) H.ord.2.1 u'
  rw [triL_snoc, List.length_append]
  exact this
theorem DrS.setS (H : DrS B g h w p sp u v l k) (sp' : Int) : DrS B g h (w.setCell ⟨h, 0, none⟩ (.int .i64 sp')) p sp' u v l k :=
  ⟨H.rdr.low (fun j hj => Below.heap_setCell _ _ _ _ (by have := H.ord; show j ≠ h; omega)), H.blk.set_ 0 _, Own.set H.pas H.ord.2.1 _, Own.set H.dep H.ord.2.1 _, H.ap, H.ord.1, H.ord.2.1, by have := H.ord.2.2; simpa [World.setCell] using this⟩

/-- Own triples, as triples that are read. -/
theorem own_triples (H : Own w B 31 3 u l.length (triL l)) : ∃ A c, u = .slice A l.length c ∧ Triples w A l.length (fun j => (l.getD j (0, 0, 0)).1) (fun j => (l.getD j (0, 0, 0)).2.1) (fun j => (l.getD j (0, 0, 0)).2.2) := by
  rcases H.2 with ⟨rfl, h0⟩ | ⟨g, cap, cur, rfl, hb, hg, hc, hm, hs, hx⟩
  · rw [h0]
    exact ⟨none, 0, rfl, fun h => absurd h (by omega)⟩
  · refine ⟨_, _, rfl, fun _ => ⟨g, 0, rfl, fun j hj => ?_⟩⟩
    have hcell : ∀ i q, i < l.length * 3 → (triL l)[i]? = some q → w.cell? ⟨g, 0 + i, none⟩ = some q := fun i q hi hq => by
      rw [← hx, List.getElem?_take_of_lt hi, Array.getElem?_toList] at hq
      rw [Nat.zero_add]
      simp [World.cell?, hg, hq]
    obtain ⟨t1, t2, t3⟩ := triL_get j l hj
    exact ⟨hcell _ _ (by omega) t1, by have := hcell _ _ (by omega) t2; rwa [← Nat.add_assoc] at this, by have := hcell _ _ (by omega) t3; rwa [← Nat.add_assoc] at this⟩
theorem own_bools (H : Own w B 4 1 v k.length (booL k)) : ∃ A c, v = .slice A k.length c ∧ Bools w A k.length (fun j => k.getD j false) := by
  rcases H.2 with ⟨rfl, h0⟩ | ⟨g, cap, cur, rfl, hb, hg, hc, hm, hs, hx⟩
  · rw [h0]
    exact ⟨none, 0, rfl, fun h => absurd h (by omega)⟩
  · refine ⟨_, _, rfl, fun _ => ⟨g, 0, rfl, fun j hj => ?_⟩⟩
    have hq : (booL k)[j]? = some (.bool (k.getD j false)) := by simp [booL, hj]
    rw [← hx, List.getElem?_take_of_lt (by omega), Array.getElem?_toList] at hq
    rw [Nat.zero_add]
    simp [World.cell?, hg, hq]
end

/-- A search that is drawn, with bounds: the reader's count, the passages, the depots; outside of the reader all is as it was in w0; block h0 is the result's. -/
def DrX (w0 : World) (B g h h0 : Nat) (sp : Int) (pm lm km : Nat) (w : World) : Prop :=
  ∃ p u v l k, p ≤ pm ∧ l.length ≤ lm ∧ k.length ≤ km ∧ DrS B g h w p sp u v l k ∧ Kept g (g + 1) w0 w ∧ Blk w h0 26 #[.int .i64 0, .slice none 0 0, .slice none 0 0] ∧ (g < h0 ∧ h0 < h ∧ w0.heap.size ≤ h0)
theorem DrX.mono {w0 : World} {B g h h0 : Nat} {sp : Int} {pm lm km pm' lm' km' : Nat} {w : World} (H : DrX w0 B g h h0 sp pm lm km w) (h1 : pm ≤ pm') (h2 : lm ≤ lm') (h3 : km ≤ km') : DrX w0 B g h h0 sp pm' lm' km' w := by
  obtain ⟨p, u, v, l, k, q1, q2, q3, q⟩ := H
  exact ⟨p, u, v, l, k, by omega, by omega, by omega, q⟩
section
variable {w0 w5 w6 : World} {B g h h0 p : Nat} {sp : Int} {u v : Value} {l : List (Int × Int × Int)} {k : List Bool}
theorem DrX.mk' {w : World} (HD : DrS B g h w p sp u v l k) (HK : Kept g (g + 1) w0 w) (HB : Blk w h0 26 #[.int .i64 0, .slice none 0 0, .slice none 0 0]) (ho : g < h0 ∧ h0 < h ∧ w0.heap.size ≤ h0) : DrX w0 B g h h0 sp p l.length k.length w :=
  ⟨p, u, v, l, k, Nat.le_refl _, Nat.le_refl _, Nat.le_refl _, HD, HK, HB, ho⟩
theorem DrX.setB {o : Obj} {b : Bool} {v' : Value} (HD : DrS B g h w5 p sp u v l k) (HK : Kept g (g + 1) w0 w5) (HB : Blk w5 h0 26 #[.int .i64 0, .slice none 0 0, .slice none 0 0]) (ho : g < h0 ∧ h0 < h ∧ w0.heap.size ≤ h0)
    (hown : Own w6 B 4 1 v' (k.length + 1) (booL k ++ [.bool b])) (hg : (w5.alloc o).grownBy w6 v.ownBlock) (hat : v'.ownBlock = v.ownBlock ∨ v'.ownBlock = some (w5.alloc o).heap.size) :
    DrX w0 B g h h0 sp p l.length (k.length + 1) (w6.setCell ⟨h, 2, none⟩ v') := by
  have hrow : ∀ a, v.ownBlock = some a → B ≤ a := fun a ha => (World.ownsRow.lt HD.dep a ha).1
  have h1 := DrS.setB (HD.alloc o) hown hg hat
  have hne : h0 ≠ h := by omega
  refine ⟨p, u, v', l, k ++ [b], Nat.le_refl _, Nat.le_refl _, by simp, h1, ((HK.alloc o).grown hg (fun a ha => by have := hrow a ha; have := HD.ord; omega)).new (by show w0.heap.size ≤ h; omega) _, Blk.far ?_ (show h0 ≠ h from hne) _, ho⟩
  exact (hg.block h0 (HB.alloc o).lt (fun e => by have := hrow h0 e.symm; have := HD.ord; omega)).trans (HB.alloc o)
theorem DrX.setP {o : Obj} {t : Int × Int × Int} {u' : Value} (HD : DrS B g h w5 p sp u v l k) (HK : Kept g (g + 1) w0 w5) (HB : Blk w5 h0 26 #[.int .i64 0, .slice none 0 0, .slice none 0 0]) (ho : g < h0 ∧ h0 < h ∧ w0.heap.size ≤ h0)
    (hown : Own w6 B 31 3 u' (l.length + 1) (triL l ++ [.int .i64 t.1, .int .i64 t.2.1, .int .i64 t.2.2])) (hg : (w5.alloc o).grownBy w6 u.ownBlock) (hat : u'.ownBlock = u.ownBlock ∨ u'.ownBlock = some (w5.alloc o).heap.size) :
    DrX w0 B g h h0 sp p (l.length + 1) k.length (w6.setCell ⟨h, 1, none⟩ u') := by
  have hrow : ∀ a, u.ownBlock = some a → B ≤ a := fun a ha => (World.ownsRow.lt HD.pas a ha).1
  have h1 := DrS.setP (HD.alloc o) hown hg hat
  have hne : h0 ≠ h := by omega
  refine ⟨p, u', v, l ++ [t], k, Nat.le_refl _, by simp, Nat.le_refl _, h1, ((HK.alloc o).grown hg (fun a ha => by have := hrow a ha; have := HD.ord; omega)).new (by show w0.heap.size ≤ h; omega) _, Blk.far ?_ (show h0 ≠ h from hne) _, ho⟩
  exact (hg.block h0 (HB.alloc o).lt (fun e => by have := hrow h0 e.symm; have := HD.ord; omega)).trans (HB.alloc o)
/-- Behind some picks. -/
theorem DrX.pick' {p' : Nat} (HD : DrS B g h w5 p sp u v l k) (HK : Kept g (g + 1) w0 w5) (HB : Blk w5 h0 26 #[.int .i64 0, .slice none 0 0, .slice none 0 0]) (ho : g < h0 ∧ h0 < h ∧ w0.heap.size ≤ h0) (hr : Rdr w6 g p') (hk : Kept g (g + 1) w5 w6) :
    DrS B g h w6 p' sp u v l k ∧ Kept g (g + 1) w0 w6 ∧ Blk w6 h0 26 #[.int .i64 0, .slice none 0 0, .slice none 0 0] :=
  ⟨HD.pick hr hk, HK.trans hk, (hk.block h0 HB.lt (.inr (by omega))).trans HB⟩
end
theorem blk_kept {w w' : World} {b lo hi : Nat} {t : TypeId} {cs : Array Value} (h : Blk w b t cs) (hk : Kept lo hi w w') (hb : b < lo ∨ hi ≤ b) : Blk w' b t cs := (hk.block b h.lt hb).trans h
theorem Own.far {w : World} {B : Nat} {e : TypeId} {size : Nat} {v : Value} {n : Nat} {xs : List Value} (h : Own w B e size v n xs) {q : Addr} (hq : ∀ a, v.ownBlock = some a → a ≠ q.block) (x : Value) : Own (w.setCell q x) B e size v n xs := by
  refine ⟨h.1, ?_⟩
  rcases h.2 with hn | ⟨g, cap, cur, rfl, hb, hgg, rest⟩
  · exact .inl hn
  · exact .inr ⟨g, cap, cur, rfl, hb, (Below.heap_setCell _ _ _ _ (hq g rfl)).trans hgg, rest⟩
section
variable {w0 w : World} {B g h h0 p : Nat} {sp : Int} {u v : Value} {l : List (Int × Int × Int)} {k : List Bool}
theorem DrS.far (H : DrS B g h w p sp u v l k) {q : Addr} (hq : B ≤ q.block) (hu : ∀ a, u.ownBlock = some a → a ≠ q.block) (hv : ∀ a, v.ownBlock = some a → a ≠ q.block) (x : Value) : DrS B g h (w.setCell q x) p sp u v l k :=
  ⟨H.rdr.low (fun j hj => Below.heap_setCell _ _ _ _ (by have := H.ord; omega)), H.blk.far (by have := H.ord; omega) _, Own.far H.pas hu _, Own.far H.dep hv _, H.ap, H.ord.1, H.ord.2.1, by have := H.ord.2.2; simpa [World.setCell] using this⟩
/-- Three stores into a block that was not there when the lists were made. -/
theorem DrX.far3 (HD : DrS B g h w p sp u v l k) (HK : Kept g (g + 1) w0 w) (HB : Blk w h0 26 #[.int .i64 0, .slice none 0 0, .slice none 0 0]) (ho : g < h0 ∧ h0 < h ∧ w0.heap.size ≤ h0) {b : Nat} (hb : B ≤ b) (hu : ∀ a, u.ownBlock = some a → a ≠ b) (hv : ∀ a, v.ownBlock = some a → a ≠ b) (x y z : Value) :
    DrX w0 B g h h0 sp p l.length k.length (((w.setCell ⟨b, 0, none⟩ x).setCell ⟨b, 1, none⟩ y).setCell ⟨b, 2, none⟩ z) := by
  have h1 := HD.ord
  exact DrX.mk' (((HD.far (q := ⟨b, 0, none⟩) hb hu hv x).far (q := ⟨b, 1, none⟩) hb hu hv y).far (q := ⟨b, 2, none⟩) hb hu hv z)
    (((HK.new (p := ⟨b, 0, none⟩) (by show w0.heap.size ≤ b; omega) x).new (p := ⟨b, 1, none⟩) (by show w0.heap.size ≤ b; omega) y).new (p := ⟨b, 2, none⟩) (by show w0.heap.size ≤ b; omega) z)
    (((HB.far (p := ⟨b, 0, none⟩) (by show h0 ≠ b; omega) x).far (p := ⟨b, 1, none⟩) (by show h0 ≠ b; omega) y).far (p := ⟨b, 2, none⟩) (by show h0 ≠ b; omega) z) ho
end
section
variable {w0 w : World} {B g h h0 p : Nat} {sp : Int} {u v : Value} {l : List (Int × Int × Int)} {k : List Bool}
theorem DrX.setS (HD : DrS B g h w p sp u v l k) (HK : Kept g (g + 1) w0 w) (HB : Blk w h0 26 #[.int .i64 0, .slice none 0 0, .slice none 0 0]) (ho : g < h0 ∧ h0 < h ∧ w0.heap.size ≤ h0) (sp' : Int) : DrX w0 B g h h0 sp' p l.length k.length (w.setCell ⟨h, 0, none⟩ (.int .i64 sp')) :=
  DrX.mk' (HD.setS sp') (HK.new (by show w0.heap.size ≤ h; omega) _) (HB.far (by show h0 ≠ h; omega) _) ho
def zerosP : Array Value := madeCells (Value.agg #[.int .i64 0, .int .i64 0, .int .i64 0]).cells (11 * 3)
theorem zerosP_list : zerosP.toList.take ((List.replicate 11 ((0 : Int), (0 : Int), (0 : Int))).length * 3) = triL (List.replicate 11 (0, 0, 0)) := by kernel_rfl
theorem own_made (w : World) (hB : B ≤ w.heap.size) : Own (w.alloc (.cells zerosP 31)) B 31 3 (.slice (some ⟨w.heap.size, 0, none⟩) 11 11) (List.replicate 11 ((0 : Int), (0 : Int), (0 : Int))).length (triL (List.replicate 11 (0, 0, 0))) :=
  ⟨rfl, .inr ⟨w.heap.size, 11, zerosP, rfl, hB, heap_alloc_new w _, Nat.le_refl _, by unfold maxLen; omega, size_madeCells _ _, zerosP_list⟩⟩
theorem DrX.made (HD : DrS B g h w p sp u v l k) (HK : Kept g (g + 1) w0 w) (HB : Blk w h0 26 #[.int .i64 0, .slice none 0 0, .slice none 0 0]) (ho : g < h0 ∧ h0 < h ∧ w0.heap.size ≤ h0) :
    DrX w0 B g h h0 sp p 11 k.length ((w.alloc (.cells zerosP 31)).setCell ⟨h, 1, none⟩ (.slice (some ⟨w.heap.size, 0, none⟩) 11 11)) := by
  have H2 := HD.alloc (.cells zerosP 31)
  refine ⟨p, .slice (some ⟨w.heap.size, 0, none⟩) 11 11, v, List.replicate 11 (0, 0, 0), k, Nat.le_refl _, by simp, Nat.le_refl _, ⟨?_, H2.blk.set_ 1 _, Own.set (own_made w HD.ord.2.2) HD.ord.2.1 _, Own.set H2.dep HD.ord.2.1 _, fun a ha e => ?_, HD.ord.1, HD.ord.2.1, ?_⟩, (HK.alloc _).new (by show w0.heap.size ≤ h; omega) _, (HB.alloc _).far (by show h0 ≠ h; omega) _, ho⟩
  · exact H2.rdr.low fun j hj => Below.heap_setCell _ _ _ _ (by have := HD.ord; show j ≠ h; omega)
  · have := (World.ownsRow.lt HD.dep a e).2
    simp [Value.ownBlock] at ha
    omega
  · have := HD.ord.2.2; simp [World.setCell]; omega
end
end Go.Proofs.YtlhcjbgcgbeocaaDoor
