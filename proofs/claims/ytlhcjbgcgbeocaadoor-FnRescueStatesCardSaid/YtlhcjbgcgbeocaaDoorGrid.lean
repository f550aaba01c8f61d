/- A list of rows of numbers that grew by append; its rows may be written. No condition. -/
import Derived.Test.YtlhcjbgcgbeocaaDoorHops
import Derived.Maps.AppendAt
namespace Go.Proofs.YtlhcjbgcgbeocaaDoor
open Go.RowKit

theorem Row.of_block {w w' : World} {g cap n : Nat} {x : Nat → Int} (h : Row w g cap n x) (e : w'.heap[g]? = w.heap[g]?) : Row w' g cap n x := by
  obtain ⟨f, h1, h2⟩ := h
  exact ⟨f, h1.of_block e, h2⟩
theorem OwnL.row {w : World} {B : Nat} {v : Value} {l : List Int} (h : OwnL w B v l) (h0 : 0 < l.length) :
    ∃ g cap, v = .slice (some ⟨g, 0, none⟩) l.length cap ∧ Row w g cap l.length (fun j => l.getD j 0) ∧ l.length ≤ cap ∧ B ≤ g := by
  obtain ⟨h1, h2⟩ := h
  rcases h2 with ⟨rfl, h3⟩ | ⟨g, cap, cur, hv, hg, hh, hn, hm, hs, hx⟩
  · omega
  · refine ⟨g, cap, hv, ⟨fun j => cur.getD j undef, ⟨cur, hh, by omega, fun i hi => by simp [show i < cur.size by omega]⟩, fun j hj => ?_⟩, hn, hg⟩
    have e : (cur.toList.take (l.length * 1))[j]? = (l.map (Value.int .i64))[j]? := by rw [hx]
    rw [List.getElem?_take_of_lt (by omega)] at e
    simp [hj] at e
    simp [e, hj]

/-- The slice v is one of the call's own, from block B on; it holds k rows of m numbers, row j in block r j with capacity c j. -/
structure RowsA (w : World) (B : Nat) (v : Value) (k m : Nat) (r c : Nat → Nat) (T : Nat → Nat → Int) : Prop where
  own : w.ownsRow B 36 1 v k ((List.range k).map fun j => .slice (some ⟨r j, 0, none⟩) m (c j))
  inner : ∀ j, j < k → Row w (r j) (c j) m (T j)
  far : ∀ j, j < k → B ≤ r j ∧ v.ownBlock ≠ some (r j)
  cap : ∀ j, j < k → m ≤ c j
  inj : ∀ i j, i < k → j < k → r i = r j → i = j

section
variable {w w' : World} {B k m : Nat} {v : Value} {r c : Nat → Nat} {T : Nat → Nat → Int}
theorem RowsA.lit0 (w : World) {B : Nat} (hB : B ≤ w.heap.size) (m : Nat) (r c : Nat → Nat) (T : Nat → Nat → Int) : RowsA (w.alloc (.cells #[] 36)) B (.slice (some ⟨w.heap.size, 0, none⟩) 0 0) 0 m r c T :=
  ⟨⟨rfl, .inr ⟨w.heap.size, 0, #[], rfl, hB, heap_alloc_new w _, Nat.le_refl _, by unfold maxLen; omega, rfl, rfl⟩⟩, fun j hj => absurd hj (by omega), fun j hj => absurd hj (by omega), fun j hj => absurd hj (by omega), fun i j hi => absurd hi (by omega)⟩
theorem RowsA.below (h : RowsA w B v k m r c T) (hb : Below w.heap.size w w') : RowsA w' B v k m r c T :=
  ⟨World.ownsRow.kept (row := none) h.own ⟨hb.os, hb.tape, hb.output, hb.size, fun k hk _ => hb.block k hk⟩ (by
    cases e : v.ownBlock with
    | none => exact .inl rfl
    | some _ => exact .inr (by simp)), fun j hj => (h.inner j hj).below hb, h.far, h.cap, h.inj⟩
theorem RowsA.form (h : RowsA w B v k m r c T) : ∃ A cc, v = .slice A k cc := by
  rcases h.own.2 with ⟨rfl, rfl⟩ | ⟨g, cap, cur, rfl, _⟩
  · exact ⟨none, 0, rfl⟩
  · exact ⟨_, _, rfl⟩
theorem RowsA.lt (h : RowsA w B v k m r c T) {j : Nat} (hj : j < k) : r j < w.heap.size := (h.inner j hj).lt
theorem RowsA.push {o : Obj} {v' : Value} {q cq : Nat} {y : Nat → Int} (h : RowsA w B v k m r c T) (hq : Row w q cq m y) (hBq : B ≤ q) (hcq : m ≤ cq) (hvq : v.ownBlock ≠ some q) (hrq : ∀ j, j < k → r j ≠ q)
    (hown : w'.ownsRow B 36 1 v' (k + 1) (((List.range k).map fun j => .slice (some ⟨r j, 0, none⟩) m (c j)) ++ [.slice (some ⟨q, 0, none⟩) m cq])) (hg : (w.alloc o).grownBy w' v.ownBlock) (hat : v'.ownBlock = v.ownBlock ∨ v'.ownBlock = some (w.alloc o).heap.size) :
    RowsA w' B v' (k + 1) m (fun j => if j = k then q else r j) (fun j => if j = k then cq else c j) (fun j i => if j = k then y i else T j i) := by
  have hkeep : ∀ (g cap : Nat) (x : Nat → Int), Row w g cap m x → v.ownBlock ≠ some g → Row w' g cap m x := fun g cap x hr hne =>
    (hr.alloc o).of_block (hg.block g (hr.alloc o).lt (fun e => hne e.symm))
  have hnew : ∀ (g cap : Nat) (x : Nat → Int), Row w g cap m x → v.ownBlock ≠ some g → v'.ownBlock ≠ some g := fun g cap x hr hne e => by
    rcases hat with h1 | h1
    · exact hne (by rw [← h1]; exact e)
    · rw [h1] at e
      have := hr.lt
      simp at e
      omega
  refine ⟨?_, fun j hj => ?_, fun j hj => ?_, fun j hj => ?_, fun i j hi hj e => ?_⟩
  · have e : (List.range (k + 1)).map (fun j => Value.slice (some ⟨if j = k then q else r j, 0, none⟩) m (if j = k then cq else c j)) = ((List.range k).map fun j => .slice (some ⟨r j, 0, none⟩) m (c j)) ++ [.slice (some ⟨q, 0, none⟩) m cq] := by
      rw [List.range_succ, List.map_append]
      congr 1
      · refine List.map_congr_left fun j hj => ?_
        have : j ≠ k := by have := List.mem_range.1 hj; omega
        rw [if_neg this, if_neg this]
      · simp
    rw [e]; exact hown
  · by_cases e : j = k
    · simp only [if_pos e]; exact hkeep _ _ _ hq hvq
    · simp only [if_neg e]; exact hkeep _ _ _ (h.inner j (by omega)) (h.far j (by omega)).2
  · by_cases e : j = k
    · simp only [if_pos e]; exact ⟨hBq, hnew _ _ _ hq hvq⟩
    · simp only [if_neg e]; exact ⟨(h.far j (by omega)).1, hnew _ _ _ (h.inner j (by omega)) (h.far j (by omega)).2⟩
  · by_cases e : j = k
    · simp only [if_pos e]; exact hcq
    · simp only [if_neg e]; exact h.cap j (by omega)
  · by_cases e1 : i = k <;> by_cases e2 : j = k
    · omega
    · simp only [if_pos e1, if_neg e2] at e; exact absurd e.symm (hrq j (by omega))
    · simp only [if_neg e1, if_pos e2] at e; exact absurd e (hrq i (by omega))
    · simp only [if_neg e1, if_neg e2] at e; exact h.inj i j (by omega) (by omega) e

/-- n rows of m numbers that may be written: the rows' block is g, row j's block is r j; all from block B on. -/
structure TabA (w : World) (B g n m : Nat) (r c : Nat → Nat) (T : Nat → Nat → Int) : Prop where
  outer : ∃ cap, ∃ f : Nat → Value, w.rowIs g 36 cap f ∧ ∀ j, j < n → j < cap ∧ f j = .slice (some ⟨r j, 0, none⟩) m (c j)
  inner : ∀ j, j < n → Row w (r j) (c j) m (T j)
  far : ∀ j, j < n → B ≤ r j ∧ g ≠ r j
  cap : ∀ j, j < n → m ≤ c j
  inj : ∀ i j, i < n → j < n → r i = r j → i = j
theorem RowsA.tab (h : RowsA w B v k m r c T) (h0 : 0 < k) : ∃ g cap, v = .slice (some ⟨g, 0, none⟩) k cap ∧ B ≤ g ∧ TabA w B g k m r c T := by
  obtain ⟨⟨h1, h2⟩, h3, h4, h5, h6⟩ := h
  rcases h2 with ⟨rfl, h7⟩ | ⟨g, cap, cur, hv, hg, hh, hn, hm, hs, hx⟩
  · omega
  · refine ⟨g, cap, hv, hg, ⟨cap, fun j => cur.getD j undef, ⟨cur, hh, by omega, fun i hi => by simp [show i < cur.size by omega]⟩, fun j hj => ⟨by omega, ?_⟩⟩, h3, fun j hj => ⟨(h4 j hj).1, fun e => (h4 j hj).2 (by rw [hv, e]; rfl)⟩, h5, h6⟩
    have e : (cur.toList.take (k * 1))[j]? = ((List.range k).map fun j => Value.slice (some ⟨r j, 0, none⟩) m (c j))[j]? := by rw [hx]
    rw [List.getElem?_take_of_lt (by omega)] at e
    simp [hj] at e
    simp [e]
end
section
variable {w w' : World} {B g n m : Nat} {r c : Nat → Nat} {T : Nat → Nat → Int}
theorem TabA.below (h : TabA w B g n m r c T) (hb : Below w.heap.size w w') : TabA w' B g n m r c T := by
  obtain ⟨⟨cap, f, h1, h2⟩, h3, h4, h5, h6⟩ := h
  exact ⟨⟨cap, f, row_below hb h1, h2⟩, fun j hj => (h3 j hj).below hb, h4, h5, h6⟩
theorem TabA.drew (h : TabA w B g n m r c T) : TabA w.drew B g n m r c T := h.below (Below.refl _ _).drew
theorem TabA.alloc (h : TabA w B g n m r c T) (o : Obj) : TabA (w.alloc o) B g n m r c T := h.below (below_alloc1 _ _)
theorem TabA.row (h : TabA w B g n m r c T) {a : Nat} (ha : a < n) : w.cell? ⟨g, a, none⟩ = some (.slice (some ⟨r a, 0, none⟩) m (c a)) := by
  obtain ⟨cap, f, h1, h2⟩ := h.outer
  rw [h1.cell (h2 a ha).1, (h2 a ha).2]
theorem TabA.cell (h : TabA w B g n m r c T) {a b : Nat} (ha : a < n) (hb : b < m) : w.cell? ⟨r a, b, none⟩ = some (.int .i64 (T a b)) := (h.inner a ha).cell (h.cap a ha) hb
theorem TabA.froz (h : TabA w B g n m r c T) {a : Nat} (ha : a < n) (b : Nat) : w.frozen? ⟨r a, b, none⟩ = false := (h.inner a ha).froz b
theorem TabA.set (h : TabA w B g n m r c T) {a : Nat} (ha : a < n) (b : Nat) (x : Int) : TabA (w.setCell ⟨r a, b, none⟩ (.int .i64 x)) B g n m r c (fun i j => if i = a ∧ j = b then x else T i j) := by
  obtain ⟨cap, f, h1, h2⟩ := h.outer
  refine ⟨⟨cap, f, h1.setOther (by have := (h.far a ha).2; exact this) _, h2⟩, fun j hj => ?_, h.far, h.cap, h.inj⟩
  by_cases e : j = a
  · subst e
    refine ((h.inner j hj).set b x).congr fun i _ => ?_
    by_cases e2 : i = b
    · subst e2; simp
    · simp [e2]
  · refine ((h.inner j hj).far (p := ⟨r a, b, none⟩) (fun e2 => e (h.inj _ _ hj ha e2)) _).congr fun i _ => ?_
    rw [if_neg (fun x => e x.1)]
theorem TabA.congr {U : Nat → Nat → Int} (h : TabA w B g n m r c T) (e : ∀ x y, x < n → y < m → T x y = U x y) : TabA w B g n m r c U :=
  ⟨h.outer, fun j hj => (h.inner j hj).congr fun i hi => e j i hj hi, h.far, h.cap, h.inj⟩
end
end Go.Proofs.YtlhcjbgcgbeocaaDoor
