/- A cave that is being drawn: its box, its three lists, and the reader beside them. Plain laws of memory. -/
import Derived.Test.YtahbfifnpceoeaaDoorDrawC
namespace Go.Proofs.YtahbfifnpceoeaaDoor
open Go.RowKit

def triL : List (Int × Int × Int) → List Value
  | [] => []
  | t :: l => .int .i64 t.1 :: .int .i64 t.2.1 :: .int .i64 t.2.2 :: triL l
def intL (l : List Int) : List Value := l.map (Value.int .i64)
theorem triL_snoc (t : Int × Int × Int) : ∀ l, triL (l ++ [t]) = triL l ++ [.int .i64 t.1, .int .i64 t.2.1, .int .i64 t.2.2]
  | [] => rfl
  | a :: l => by simp [triL, triL_snoc t l]
theorem intL_snoc (x : Int) (l : List Int) : intL (l ++ [x]) = intL l ++ [.int .i64 x] := by simp [intL]
theorem triL_get (j : Nat) : ∀ (l : List (Int × Int × Int)) (_ : j < l.length), (triL l)[j * 3]? = some (.int .i64 (l.getD j (0, 0, 0)).1) ∧ (triL l)[j * 3 + 1]? = some (.int .i64 (l.getD j (0, 0, 0)).2.1) ∧ (triL l)[j * 3 + 2]? = some (.int .i64 (l.getD j (0, 0, 0)).2.2) := by
  induction j with
  | zero =>
    intro l h
    match l, h with
    | t :: l, _ => exact ⟨rfl, rfl, rfl⟩
  | succ j ih =>
    intro l h
    match l, h with
    | t :: l, h =>
      have := ih l (by simpa using h)
      rw [show (j + 1) * 3 = j * 3 + 3 by omega]
      simpa [triL] using this

theorem blk_kept {w w' : World} {b lo hi : Nat} {t : TypeId} {cs : Array Value} (h : Blk w b t cs) (hk : Kept lo hi w w') (hb : b < lo ∨ hi ≤ b) : Blk w' b t cs := (hk.block b h.lt hb).trans h
theorem Own.far {w : World} {B : Nat} {e : TypeId} {size : Nat} {v : Value} {n : Nat} {xs : List Value} (h : Own w B e size v n xs) {q : Addr} (hq : ∀ a, v.ownBlock = some a → a ≠ q.block) (x : Value) : Own (w.setCell q x) B e size v n xs := by
  refine ⟨h.1, ?_⟩
  rcases h.2 with hn | ⟨g, cap, cur, rfl, hb, hgg, rest⟩
  · exact .inl hn
  · exact .inr ⟨g, cap, cur, rfl, hb, (Below.heap_setCell _ _ _ _ (hq g rfl)).trans hgg, rest⟩

/-- The reader g, the cave's box h, its lists u, v and s, from block B on. -/
structure DrC (B g h : Nat) (w : World) (p : Nat) (u v s : Value) (lf la : List Int) (ls : List (Int × Int × Int)) : Prop where
  rdr : Rdr w g p
  blk : Blk w h 26 #[u, v, s]
  flo : Own w B 3 1 u lf.length (intL lf)
  are : Own w B 3 1 v la.length (intL la)
  sil : Own w B 34 3 s ls.length (triL ls)
  auv : Apart u v
  aus : Apart u s
  avs : Apart v s
  ord : g < h ∧ h < B ∧ B ≤ w.heap.size

section
variable {B g h : Nat} {w w' : World} {p : Nat} {u v s : Value} {lf la : List Int} {ls : List (Int × Int × Int)}
theorem DrC.drew (H : DrC B g h w p u v s lf la ls) : DrC B g h w.drew p u v s lf la ls := ⟨H.rdr.below (Below.refl _ _).drew, H.blk, H.flo, H.are, H.sil, H.auv, H.aus, H.avs, H.ord⟩
theorem DrC.alloc (H : DrC B g h w p u v s lf la ls) (o : Obj) : DrC B g h (w.alloc o) p u v s lf la ls :=
  ⟨H.rdr.below ((Below.refl _ _).alloc (Nat.le_refl _) _), H.blk.alloc o, World.ownsRow.alloc H.flo o, World.ownsRow.alloc H.are o, World.ownsRow.alloc H.sil o, H.auv, H.aus, H.avs, H.ord.1, H.ord.2.1, by have := H.ord.2.2; simp; omega⟩
theorem DrC.pick {p' : Nat} (H : DrC B g h w p u v s lf la ls) (hr : Rdr w' g p') (hk : Kept g (g + 1) w w') : DrC B g h w' p' u v s lf la ls :=
  ⟨hr, (hk.block h H.blk.lt (.inr (by have := H.ord; omega))).trans H.blk, Own.kept H.flo hk (by have := H.ord; omega), Own.kept H.are hk (by have := H.ord; omega), Own.kept H.sil hk (by have := H.ord; omega), H.auv, H.aus, H.avs, H.ord.1, H.ord.2.1, by have := H.ord.2.2; have := hk.size; omega⟩
/-- A row behind B has grown: what lies below is as it was. -/
theorem DrC.mid {row : Option Nat} (H : DrC B g h w p u v s lf la ls) (hg : w.grownBy w' row) (hr : ∀ a, row = some a → B ≤ a) : Rdr w' g p ∧ Blk w' h 26 #[u, v, s] ∧ B ≤ w'.heap.size := by
  have hlow : ∀ j, j < B → w'.heap[j]? = w.heap[j]? := fun j hj => hg.block j (by have := H.ord; omega) (fun e => by have := hr j e.symm; omega)
  exact ⟨H.rdr.low (fun j hj => hlow j (by have := H.ord; omega)), (hlow h H.ord.2.1).trans H.blk, by have := H.ord; have := hg.size; omega⟩
theorem DrC.setF {x : Int} {u' : Value} (H : DrC B g h w p u v s lf la ls) (hown : Own w' B 3 1 u' (lf.length + 1) (intL lf ++ [.int .i64 x])) (hg : w.grownBy w' u.ownBlock) (hat : u'.ownBlock = u.ownBlock ∨ u'.ownBlock = some w.heap.size) :
    DrC B g h (w'.setCell ⟨h, 0, none⟩ u') p u' v s (lf ++ [x]) la ls := by
  obtain ⟨m1, m2, m3⟩ := H.mid hg (fun a ha => (World.ownsRow.lt H.flo a ha).1)
  refine ⟨m1.low (fun j hj => Below.heap_setCell _ _ _ _ (by have := H.ord; show j ≠ h; omega)), m2.set_ 0 u', ?_, Own.set (Own.grown H.are hg H.auv.symm) H.ord.2.1 _, Own.set (Own.grown H.sil hg H.aus.symm) H.ord.2.1 _, (Apart.after H.auv.symm H.are hat).symm, (Apart.after H.aus.symm H.sil hat).symm, H.avs, H.ord.1, H.ord.2.1, by simpa [World.setCell] using m3⟩
  have := Own.set hown (p := ⟨h, 0, none⟩) H.ord.2.1 u'
  rw [intL_snoc, List.length_append]
  exact this
theorem DrC.setA {x : Int} {v' : Value} (H : DrC B g h w p u v s lf la ls) (hown : Own w' B 3 1 v' (la.length + 1) (intL la ++ [.int .i64 x])) (hg : w.grownBy w' v.ownBlock) (hat : v'.ownBlock = v.ownBlock ∨ v'.ownBlock = some w.heap.size) :
    DrC B g h (w'.setCell ⟨h, 1, none⟩ v') p u v' s lf (la ++ [x]) ls := by
  obtain ⟨m1, m2, m3⟩ := H.mid hg (fun a ha => (World.ownsRow.lt H.are a ha).1)
  refine ⟨m1.low (fun j hj => Below.heap_setCell _ _ _ _ (by have := H.ord; show j ≠ h; omega)), m2.set_ 1 v', Own.set (Own.grown H.flo hg H.auv) H.ord.2.1 _, ?_, Own.set (Own.grown H.sil hg H.avs.symm) H.ord.2.1 _, Apart.after H.auv H.flo hat, H.aus, (Apart.after H.avs.symm H.sil hat).symm, H.ord.1, H.ord.2.1, by simpa [World.setCell] using m3⟩
  have := Own.set hown (p := ⟨h, 1, none⟩) H.ord.2.1 v'
  rw [intL_snoc, List.length_append]
  exact this
theorem DrC.setT {t : Int × Int × Int} {s' : Value} (H : DrC B g h w p u v s lf la ls) (hown : Own w' B 34 3 s' (ls.length + 1) (triL ls ++ [.int .i64 t.1, .int .i64 t.2.1, .int .i64 t.2.2])) (hg : w.grownBy w' s.ownBlock) (hat : s'.ownBlock = s.ownBlock ∨ s'.ownBlock = some w.heap.size) :
    DrC B g h (w'.setCell ⟨h, 2, none⟩ s') p u v s' lf la (ls ++ [t]) := by
  obtain ⟨m1, m2, m3⟩ := H.mid hg (fun a ha => (World.ownsRow.lt H.sil a ha).1)
  refine ⟨m1.low (fun j hj => Below.heap_setCell _ _ _ _ (by have := H.ord; show j ≠ h; omega)), m2.set_ 2 s', Own.set (Own.grown H.flo hg H.aus) H.ord.2.1 _, Own.set (Own.grown H.are hg H.avs) H.ord.2.1 _, ?_, H.auv, Apart.after H.aus H.flo hat, Apart.after H.avs H.are hat, H.ord.1, H.ord.2.1, by simpa [World.setCell] using m3⟩
  have := Own.set hown (p := ⟨h, 2, none⟩) H.ord.2.1 s'
  rw [triL_snoc, List.length_append]
  exact this
/-- Own triples, as triples that are read. -/
theorem own_triples {l : List (Int × Int × Int)} (H : Own w B 34 3 u l.length (triL l)) : ∃ A c, u = .slice A l.length c ∧ Triples w A l.length (fun j => (l.getD j (0, 0, 0)).1) (fun j => (l.getD j (0, 0, 0)).2.1) (fun j => (l.getD j (0, 0, 0)).2.2) := by
  rcases H.2 with ⟨rfl, h0⟩ | ⟨g, cap, cur, rfl, hb, hg, hc, hm, hs, hx⟩
  · rw [h0]
    exact ⟨none, 0, rfl, fun h => absurd h (by omega)⟩
  · refine ⟨_, _, rfl, fun _ => ⟨g, 0, rfl, fun j hj => ?_⟩⟩
    have hcell : ∀ i q, i < l.length * 3 → (triL l)[i]? = some q → w.cell? ⟨g, 0 + i, none⟩ = some q := fun i q hi hq => by
      rw [← hx, List.getElem?_take_of_lt hi, Array.getElem?_toList] at hq
      rw [Nat.zero_add]
      simp [World.cell?, hg, hq]
    obtain ⟨t1, t2, t3⟩ := triL_get j l hj
    exact ⟨hcell _ _ (by omega) t1, by have := hcell _ _ (by omega) t2; rwa [← Nat.add_assoc] at this, by have := hcell _ _ (by omega) t3; rwa [← Nat.add_assoc] at this⟩

theorem own_ints {B : Nat} {w : World} {u : Value} {l : List Int} (H : Own w B 3 1 u l.length (intL l)) : ∃ A c, u = .slice A l.length c ∧ Ints w A l.length (fun j => l.getD j 0) :=
  OwnL.ints H
end
end Go.Proofs.YtahbfifnpceoeaaDoor
