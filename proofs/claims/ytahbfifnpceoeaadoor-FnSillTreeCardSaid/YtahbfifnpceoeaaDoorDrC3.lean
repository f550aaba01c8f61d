/- A cave that is being drawn, with bounds: the reader's count and the lists' lengths; outside of the reader all is as it was in w0; block h0 is the result's. Plain laws. -/
import Derived.Test.YtahbfifnpceoeaaDoorDrC2
namespace Go.Proofs.YtahbfifnpceoeaaDoor
open Go.RowKit

abbrev Nil3 : Array Value := #[.slice none 0 0, .slice none 0 0, .slice none 0 0]
def DrCX (w0 : World) (B g h h0 : Nat) (pm fl fm am sm : Nat) (w : World) : Prop :=
  ∃ p u v s lf la ls, p ≤ pm ∧ (fl ≤ lf.length ∧ lf.length ≤ fm) ∧ la.length ≤ am ∧ ls.length ≤ sm ∧ (∀ x, x ∈ lf → -1 ≤ x ∧ x ≤ 41) ∧ DrC B g h w p u v s lf la ls ∧ Kept g (g + 1) w0 w ∧ Blk w h0 26 Nil3 ∧ (g < h0 ∧ h0 < h ∧ w0.heap.size ≤ h0)
theorem DrCX.mono {w0 : World} {B g h h0 : Nat} {pm fl fm am sm pm' fl' fm' am' sm' : Nat} {w : World} (H : DrCX w0 B g h h0 pm fl fm am sm w) (h1 : pm ≤ pm') (h0' : fl' ≤ fl) (h2 : fm ≤ fm') (h3 : am ≤ am') (h4 : sm ≤ sm') : DrCX w0 B g h h0 pm' fl' fm' am' sm' w := by
  obtain ⟨p, u, v, s, lf, la, ls, q1, q2, q3, q4, q⟩ := H
  exact ⟨p, u, v, s, lf, la, ls, by omega, by omega, by omega, by omega, q⟩
section
variable {w0 w5 w6 : World} {B g h h0 p : Nat} {u v s : Value} {lf la : List Int} {ls : List (Int × Int × Int)}
theorem DrCX.mk' {w : World} (HD : DrC B g h w p u v s lf la ls) (hf : ∀ x, x ∈ lf → -1 ≤ x ∧ x ≤ 41) (HK : Kept g (g + 1) w0 w) (HB : Blk w h0 26 Nil3) (ho : g < h0 ∧ h0 < h ∧ w0.heap.size ≤ h0) : DrCX w0 B g h h0 p lf.length lf.length la.length ls.length w :=
  ⟨p, u, v, s, lf, la, ls, Nat.le_refl _, ⟨Nat.le_refl _, Nat.le_refl _⟩, Nat.le_refl _, Nat.le_refl _, hf, HD, HK, HB, ho⟩
/-- A row of one of the lists has grown: the result's block and what was before are as they were. -/
theorem DrC.rest {o : Obj} {row : Option Nat} {i : Nat} {x : Value} (HD : DrC B g h w5 p u v s lf la ls) (hrow : ∀ a, row = some a → B ≤ a) (HK : Kept g (g + 1) w0 w5) (HB : Blk w5 h0 26 Nil3) (ho : g < h0 ∧ h0 < h ∧ w0.heap.size ≤ h0) (hg : (w5.alloc o).grownBy w6 row) :
    Kept g (g + 1) w0 (w6.setCell ⟨h, i, none⟩ x) ∧ Blk (w6.setCell ⟨h, i, none⟩ x) h0 26 Nil3 := by
  have hne : h0 ≠ h := by omega
  refine ⟨((HK.alloc o).grown hg (fun a ha => by have := hrow a ha; have := HD.ord; omega)).new (by show w0.heap.size ≤ h; omega) _, Blk.far ?_ (show h0 ≠ h from hne) _⟩
  exact (hg.block h0 (HB.alloc o).lt (fun e => by have := hrow h0 e.symm; have := HD.ord; omega)).trans (HB.alloc o)
theorem DrCX.setF {o : Obj} {x : Int} {u' : Value} (HD : DrC B g h w5 p u v s lf la ls) (hf : ∀ x, x ∈ lf → -1 ≤ x ∧ x ≤ 41) (hx : -1 ≤ x ∧ x ≤ 41) (HK : Kept g (g + 1) w0 w5) (HB : Blk w5 h0 26 Nil3) (ho : g < h0 ∧ h0 < h ∧ w0.heap.size ≤ h0)
    (hown : Own w6 B 3 1 u' (lf.length + 1) (intL lf ++ [.int .i64 x])) (hg : (w5.alloc o).grownBy w6 u.ownBlock) (hat : u'.ownBlock = u.ownBlock ∨ u'.ownBlock = some (w5.alloc o).heap.size) :
    DrCX w0 B g h h0 p (lf.length + 1) (lf.length + 1) la.length ls.length (w6.setCell ⟨h, 0, none⟩ u') := by
  have h1 := DrC.setF (HD.alloc o) hown hg hat
  obtain ⟨r1, r2⟩ := HD.rest (i := 0) (x := u') (fun a ha => (World.ownsRow.lt HD.flo a ha).1) HK HB ho hg
  refine ⟨p, u', v, s, lf ++ [x], la, ls, Nat.le_refl _, by simp, Nat.le_refl _, Nat.le_refl _, fun y hy => ?_, h1, r1, r2, ho⟩
  rcases List.mem_append.1 hy with hy | hy
  · exact hf y hy
  · simp at hy; subst hy; exact hx
theorem DrCX.setA {o : Obj} {x : Int} {v' : Value} (HD : DrC B g h w5 p u v s lf la ls) (hf : ∀ x, x ∈ lf → -1 ≤ x ∧ x ≤ 41) (HK : Kept g (g + 1) w0 w5) (HB : Blk w5 h0 26 Nil3) (ho : g < h0 ∧ h0 < h ∧ w0.heap.size ≤ h0)
    (hown : Own w6 B 3 1 v' (la.length + 1) (intL la ++ [.int .i64 x])) (hg : (w5.alloc o).grownBy w6 v.ownBlock) (hat : v'.ownBlock = v.ownBlock ∨ v'.ownBlock = some (w5.alloc o).heap.size) :
    DrCX w0 B g h h0 p lf.length lf.length (la.length + 1) ls.length (w6.setCell ⟨h, 1, none⟩ v') := by
  have h1 := DrC.setA (HD.alloc o) hown hg hat
  obtain ⟨r1, r2⟩ := HD.rest (i := 1) (x := v') (fun a ha => (World.ownsRow.lt HD.are a ha).1) HK HB ho hg
  exact ⟨p, u, v', s, lf, la ++ [x], ls, Nat.le_refl _, ⟨Nat.le_refl _, Nat.le_refl _⟩, by simp, Nat.le_refl _, hf, h1, r1, r2, ho⟩
theorem DrCX.setT {o : Obj} {t : Int × Int × Int} {s' : Value} (HD : DrC B g h w5 p u v s lf la ls) (hf : ∀ x, x ∈ lf → -1 ≤ x ∧ x ≤ 41) (HK : Kept g (g + 1) w0 w5) (HB : Blk w5 h0 26 Nil3) (ho : g < h0 ∧ h0 < h ∧ w0.heap.size ≤ h0)
    (hown : Own w6 B 34 3 s' (ls.length + 1) (triL ls ++ [.int .i64 t.1, .int .i64 t.2.1, .int .i64 t.2.2])) (hg : (w5.alloc o).grownBy w6 s.ownBlock) (hat : s'.ownBlock = s.ownBlock ∨ s'.ownBlock = some (w5.alloc o).heap.size) :
    DrCX w0 B g h h0 p lf.length lf.length la.length (ls.length + 1) (w6.setCell ⟨h, 2, none⟩ s') := by
  have h1 := DrC.setT (HD.alloc o) hown hg hat
  obtain ⟨r1, r2⟩ := HD.rest (i := 2) (x := s') (fun a ha => (World.ownsRow.lt HD.sil a ha).1) HK HB ho hg
  exact ⟨p, u, v, s', lf, la, ls ++ [t], Nat.le_refl _, ⟨Nat.le_refl _, Nat.le_refl _⟩, Nat.le_refl _, by simp, hf, h1, r1, r2, ho⟩
/-- Behind some picks. -/
theorem DrCX.pick' {p' : Nat} (HD : DrC B g h w5 p u v s lf la ls) (HK : Kept g (g + 1) w0 w5) (HB : Blk w5 h0 26 Nil3) (ho : g < h0 ∧ h0 < h ∧ w0.heap.size ≤ h0) (hr : Rdr w6 g p') (hk : Kept g (g + 1) w5 w6) :
    DrC B g h w6 p' u v s lf la ls ∧ Kept g (g + 1) w0 w6 ∧ Blk w6 h0 26 Nil3 :=
  ⟨HD.pick hr hk, HK.trans hk, (hk.block h0 HB.lt (.inr (by omega))).trans HB⟩
theorem DrC.far {w : World} (H : DrC B g h w p u v s lf la ls) {q : Addr} (hq : B ≤ q.block) (hu : ∀ a, u.ownBlock = some a → a ≠ q.block) (hv : ∀ a, v.ownBlock = some a → a ≠ q.block) (hs : ∀ a, s.ownBlock = some a → a ≠ q.block) (x : Value) : DrC B g h (w.setCell q x) p u v s lf la ls :=
  ⟨H.rdr.low (fun j hj => Below.heap_setCell _ _ _ _ (by have := H.ord; omega)), H.blk.far (by have := H.ord; omega) _, Own.far H.flo hu _, Own.far H.are hv _, Own.far H.sil hs _, H.auv, H.aus, H.avs, H.ord.1, H.ord.2.1, by have := H.ord.2.2; simpa [World.setCell] using this⟩
/-- Three stores into a block that was not there when the lists were made. -/
theorem DrCX.far3 {w : World} (HD : DrC B g h w p u v s lf la ls) (hf : ∀ x, x ∈ lf → -1 ≤ x ∧ x ≤ 41) (HK : Kept g (g + 1) w0 w) (HB : Blk w h0 26 Nil3) (ho : g < h0 ∧ h0 < h ∧ w0.heap.size ≤ h0) {b : Nat} (hb : B ≤ b) (hu : ∀ a, u.ownBlock = some a → a ≠ b) (hv : ∀ a, v.ownBlock = some a → a ≠ b) (hs : ∀ a, s.ownBlock = some a → a ≠ b) (x y z : Value) :
    DrCX w0 B g h h0 p lf.length lf.length la.length ls.length (((w.setCell ⟨b, 0, none⟩ x).setCell ⟨b, 1, none⟩ y).setCell ⟨b, 2, none⟩ z) := by
  have h1 := HD.ord
  exact DrCX.mk' (((HD.far (q := ⟨b, 0, none⟩) hb hu hv hs x).far (q := ⟨b, 1, none⟩) hb hu hv hs y).far (q := ⟨b, 2, none⟩) hb hu hv hs z) hf
    (((HK.new (p := ⟨b, 0, none⟩) (by show w0.heap.size ≤ b; omega) x).new (p := ⟨b, 1, none⟩) (by show w0.heap.size ≤ b; omega) y).new (p := ⟨b, 2, none⟩) (by show w0.heap.size ≤ b; omega) z)
    (((HB.far (p := ⟨b, 0, none⟩) (by show h0 ≠ b; omega) x).far (p := ⟨b, 1, none⟩) (by show h0 ≠ b; omega) y).far (p := ⟨b, 2, none⟩) (by show h0 ≠ b; omega) z) ho

theorem DrCX.alloc {pm fl fm am sm : Nat} {w : World} (H : DrCX w0 B g h h0 pm fl fm am sm w) (o : Obj) : DrCX w0 B g h h0 pm fl fm am sm (w.alloc o) := by
  obtain ⟨p, u, v, s, lf, la, ls, q1, q2, q3, q4, q5, HD, HK, HB, ho⟩ := H
  exact ⟨p, u, v, s, lf, la, ls, q1, q2, q3, q4, q5, HD.alloc o, HK.alloc o, HB.alloc o, ho⟩
/-- A store into the first floor. -/
theorem DrC.store0 {w : World} {bf cf : Nat} (H : DrC B g h w p (.slice (some ⟨bf, 0, none⟩) lf.length cf) v s lf la ls) (x : Int) : DrC B g h (w.setCell ⟨bf, 0, none⟩ (.int .i64 x)) p (.slice (some ⟨bf, 0, none⟩) (lf.set 0 x).length cf) v s (lf.set 0 x) la ls := by
  have hb := (World.ownsRow.lt H.flo bf rfl).1
  have ho := H.ord
  refine ⟨H.rdr.low (fun j hj => Below.heap_setCell _ _ _ _ (by show j ≠ bf; omega)), ?_, ?_, Own.far H.are (fun a ha => by intro e; have e' : a = bf := e; subst e'; exact H.auv a rfl ha) _, Own.far H.sil (fun a ha => by intro e; have e' : a = bf := e; subst e'; exact H.aus a rfl ha) _, ?_, ?_, H.avs, H.ord.1, H.ord.2.1, by have := H.ord.2.2; simpa [World.setCell] using this⟩
  · rw [List.length_set]; exact H.blk.far (by show h ≠ bf; omega) _
  · have h1 := (World.ownsRow.stored H.flo 0 (.int .i64 x)).1
    rw [List.length_set, show intL (lf.set 0 x) = (intL lf).set 0 (.int .i64 x) by simp [intL, List.map_set]]
    exact h1
  · rw [List.length_set]; exact H.auv
  · rw [List.length_set]; exact H.aus
theorem DrCX.store0 {w : World} {bf cf : Nat} (HD : DrC B g h w p (.slice (some ⟨bf, 0, none⟩) lf.length cf) v s lf la ls) (hf : ∀ x, x ∈ lf → -1 ≤ x ∧ x ≤ 41) {x : Int} (hx : -1 ≤ x ∧ x ≤ 41) (HK : Kept g (g + 1) w0 w) (HB : Blk w h0 26 Nil3) (ho : g < h0 ∧ h0 < h ∧ w0.heap.size ≤ h0) :
    DrCX w0 B g h h0 p lf.length lf.length la.length ls.length (w.setCell ⟨bf, 0, none⟩ (.int .i64 x)) := by
  have hb := (World.ownsRow.lt HD.flo bf rfl).1
  have h1 := HD.ord
  have := DrCX.mk' (HD.store0 x) (w0 := w0) (h0 := h0) (fun y hy => by
    rcases List.mem_or_eq_of_mem_set hy with hy | hy
    · exact hf y hy
    · subst hy; exact hx) (HK.new (p := ⟨bf, 0, none⟩) (by show w0.heap.size ≤ bf; omega) _) (HB.far (by show h0 ≠ bf; omega) _) ho
  rwa [List.length_set] at this
/-- One store into a block of its own. -/
theorem DrCX.far1 {w : World} (HD : DrC B g h w p u v s lf la ls) (hf : ∀ x, x ∈ lf → -1 ≤ x ∧ x ≤ 41) (HK : Kept g (g + 1) w0 w) (HB : Blk w h0 26 Nil3) (ho : g < h0 ∧ h0 < h ∧ w0.heap.size ≤ h0) {b : Nat} (hb : B ≤ b) (hu : ∀ a, u.ownBlock = some a → a ≠ b) (hv : ∀ a, v.ownBlock = some a → a ≠ b) (hs : ∀ a, s.ownBlock = some a → a ≠ b) (i : Nat) (x : Value) :
    DrCX w0 B g h h0 p lf.length lf.length la.length ls.length (w.setCell ⟨b, i, none⟩ x) := by
  have h1 := HD.ord
  exact DrCX.mk' (HD.far (q := ⟨b, i, none⟩) hb hu hv hs x) hf (HK.new (p := ⟨b, i, none⟩) (by show w0.heap.size ≤ b; omega) x) (HB.far (p := ⟨b, i, none⟩) (by show h0 ≠ b; omega) x) ho
def zerosS : Array Value := madeCells (Value.agg #[.int .i64 0, .int .i64 0, .int .i64 0]).cells (10 * 3)
theorem zerosS_list : zerosS.toList.take ((List.replicate 10 ((0 : Int), (0 : Int), (0 : Int))).length * 3) = triL (List.replicate 10 (0, 0, 0)) := by kernel_rfl
theorem own_made (w : World) {B : Nat} (hB : B ≤ w.heap.size) : Own (w.alloc (.cells zerosS 34)) B 34 3 (.slice (some ⟨w.heap.size, 0, none⟩) 10 10) (List.replicate 10 ((0 : Int), (0 : Int), (0 : Int))).length (triL (List.replicate 10 (0, 0, 0))) :=
  ⟨rfl, .inr ⟨w.heap.size, 10, zerosS, rfl, hB, heap_alloc_new w _, Nat.le_refl _, by unfold maxLen; omega, size_madeCells _ _, zerosS_list⟩⟩
theorem DrCX.made {w : World} (HD : DrC B g h w p u v s lf la ls) (hf : ∀ x, x ∈ lf → -1 ≤ x ∧ x ≤ 41) (HK : Kept g (g + 1) w0 w) (HB : Blk w h0 26 Nil3) (ho : g < h0 ∧ h0 < h ∧ w0.heap.size ≤ h0) :
    DrCX w0 B g h h0 p lf.length lf.length la.length 10 ((w.alloc (.cells zerosS 34)).setCell ⟨h, 2, none⟩ (.slice (some ⟨w.heap.size, 0, none⟩) 10 10)) := by
  have H2 := HD.alloc (.cells zerosS 34)
  refine ⟨p, u, v, .slice (some ⟨w.heap.size, 0, none⟩) 10 10, lf, la, List.replicate 10 (0, 0, 0), Nat.le_refl _, ⟨Nat.le_refl _, Nat.le_refl _⟩, Nat.le_refl _, by simp, hf, ⟨?_, H2.blk.set_ 2 _, Own.set H2.flo HD.ord.2.1 _, Own.set H2.are HD.ord.2.1 _, Own.set (own_made w HD.ord.2.2) HD.ord.2.1 _, HD.auv, fun a ha e => ?_, fun a ha e => ?_, HD.ord.1, HD.ord.2.1, ?_⟩, (HK.alloc _).new (by show w0.heap.size ≤ h; omega) _, (HB.alloc _).far (by show h0 ≠ h; omega) _, ho⟩
  · exact H2.rdr.low fun j hj => Below.heap_setCell _ _ _ _ (by have := HD.ord; show j ≠ h; omega)
  · have := (World.ownsRow.lt HD.flo a ha).2
    simp [Value.ownBlock] at e
    omega
  · have := (World.ownsRow.lt HD.are a ha).2
    simp [Value.ownBlock] at e
    omega
  · have := HD.ord.2.2; simp [World.setCell]; omega
end
theorem Own.high {w w' : World} {B : Nat} {e : TypeId} {size : Nat} {v : Value} {n : Nat} {xs : List Value} (h : Own w B e size v n xs) (hk : ∀ k, B ≤ k → k < w.heap.size → w'.heap[k]? = w.heap[k]?) : Own w' B e size v n xs := by
  refine ⟨h.1, ?_⟩
  rcases h.2 with hn | ⟨g, cap, cur, rfl, hb, hgg, rest⟩
  · exact .inl hn
  · exact .inr ⟨g, cap, cur, rfl, hb, (hk g hb (Array.getElem?_eq_some_iff.1 hgg).1).trans hgg, rest⟩
theorem own_cap {w : World} {B : Nat} {e : TypeId} {size n n' c : Nat} {A : Option Addr} {xs : List Value} (h : Own w B e size (.slice A n' c) n xs) : n ≤ c := by
  rcases h.2 with ⟨h1, h2⟩ | ⟨g, cap, cur, h1, _, _, h2, _⟩
  · omega
  · simp only [Value.slice.injEq] at h1
    omega
theorem own_triples' {B : Nat} {w : World} {A : Option Addr} {c : Nat} {l : List (Int × Int × Int)} (H : Own w B 34 3 (.slice A l.length c) l.length (triL l)) : Triples w A l.length (fun j => (l.getD j (0, 0, 0)).1) (fun j => (l.getD j (0, 0, 0)).2.1) (fun j => (l.getD j (0, 0, 0)).2.2) := by
  obtain ⟨A3, c3, e3, HT⟩ := own_triples H
  simp only [Value.slice.injEq, true_and] at e3
  obtain ⟨rfl, rfl⟩ := e3
  exact HT
theorem own_ints' {B : Nat} {w : World} {A : Option Addr} {c : Nat} {l : List Int} (H : Own w B 3 1 (.slice A l.length c) l.length (intL l)) : Ints w A l.length (fun j => l.getD j 0) := by
  obtain ⟨A3, c3, e3, HT⟩ := own_ints H
  simp only [Value.slice.injEq, true_and] at e3
  obtain ⟨rfl, rfl⟩ := e3
  exact HT
/-- Which of two. -/
def qz (n : Nat) : Int := if n = 0 then -1 else 41
theorem qz_bd (n : Nat) : -1 ≤ qz n ∧ qz n ≤ 41 := by unfold qz; split <;> omega
theorem qz_cell {w : World} {b : Nat} {t : TypeId} (H : Blk w b t #[.int .i64 (-1), .int .i64 41]) {n : Nat} (hn : n < 2) : w.cell? ⟨b, n, none⟩ = some (.int .i64 (qz n)) := by
  match n, hn with
  | 0, _ => exact H.cell rfl
  | 1, _ => exact H.cell rfl
end Go.Proofs.YtahbfifnpceoeaaDoor
