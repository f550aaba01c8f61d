/- Pits that a call makes: the blocks in a row of its own or in a list that grows, what they need in lists of the call's own. Plain laws of memory. -/
import Derived.Test.YtekngpinldiodaaPitMark
import Derived.Test.YtekngpinldiodaaPit9
import Derived.Maps.AppendAt
namespace Go.Proofs.Ytekngpinldiodaa
open Go.RowKit

/-- Two slices do not share a block. -/
def Apart (u v : Value) : Prop := ∀ a, u.ownBlock = some a → v.ownBlock ≠ some a
theorem Apart.symm {u v : Value} (h : Apart u v) : Apart v u := fun a ha e => h a e ha

theorem OwnL.lt {w : World} {B : Nat} {v : Value} {l : List Int} (h : OwnL w B v l) : ∀ a, v.ownBlock = some a → B ≤ a ∧ a < w.heap.size := World.ownsRow.lt h
theorem OwnL.of_block {w w' : World} {B : Nat} {v : Value} {l : List Int} (h : OwnL w B v l) (hk : ∀ a, v.ownBlock = some a → w'.heap[a]? = w.heap[a]?) : OwnL w' B v l := by
  refine ⟨h.1, ?_⟩
  rcases h.2 with hn | ⟨g, cap, cur, rfl, hb, hgg, rest⟩
  · exact .inl hn
  · exact .inr ⟨g, cap, cur, rfl, hb, (hk g rfl).trans hgg, rest⟩
theorem OwnL.form {w : World} {B : Nat} {v : Value} {l : List Int} (h : OwnL w B v l) : ∃ A c, v = .slice A l.length c := by
  obtain ⟨A, c, hv, _⟩ := h.read
  exact ⟨A, c, hv⟩

/-- The data: p the worths, L what is needed. -/
def mkPit (n : Nat) (p : Nat → Int) (L : Nat → List Int) : PitD := ⟨n, p, fun j => (L j).length, fun j i => (L j).getD i 0⟩

/-! ### A list of blocks that grows -/
def prL (p : Nat → Int) (V : Nat → Value) : Nat → List Value
  | 0 => []
  | k + 1 => prL p V k ++ [.int .i64 (p k), V k]
theorem prL_len (p : Nat → Int) (V : Nat → Value) : ∀ k, (prL p V k).length = k * 2
  | 0 => rfl
  | k + 1 => by simp [prL, prL_len p V k]; omega
theorem prL_congr {p : Nat → Int} {V U : Nat → Value} : ∀ k, (∀ j, j < k → V j = U j) → prL p V k = prL p U k
  | 0, _ => rfl
  | k + 1, h => by rw [prL, prL, prL_congr k (fun j hj => h j (by omega)), h k (by omega)]
theorem prL_get (p : Nat → Int) (V : Nat → Value) : ∀ k j, j < k → (prL p V k)[j * 2]? = some (.int .i64 (p j)) ∧ (prL p V k)[j * 2 + 1]? = some (V j)
  | 0, j, h => absurd h (by omega)
  | k + 1, j, h => by
    rw [prL]
    by_cases e : j = k
    · subst e
      rw [List.getElem?_append_right (by rw [prL_len]; omega), List.getElem?_append_right (by rw [prL_len]; omega), prL_len, Nat.sub_self, show j * 2 + 1 - j * 2 = 1 by omega]
      exact ⟨rfl, rfl⟩
    · rw [List.getElem?_append_left (by rw [prL_len]; omega), List.getElem?_append_left (by rw [prL_len]; omega)]
      exact prL_get p V k j (by omega)

structure PitA (w : World) (B : Nat) (v : Value) (k : Nat) (p : Nat → Int) (L : Nat → List Int) (V : Nat → Value) : Prop where
  own : w.ownsRow B 48 2 v k (prL p V k)
  inner : ∀ j, j < k → OwnL w B (V j) (L j)
  ap : ∀ j, j < k → Apart (V j) v
section
variable {w w' : World} {B k : Nat} {v : Value} {p : Nat → Int} {L : Nat → List Int} {V : Nat → Value}
theorem PitA.lit0 (w : World) {B : Nat} (hB : B ≤ w.heap.size) (p : Nat → Int) (L : Nat → List Int) (V : Nat → Value) : PitA (w.alloc (.cells #[] 48)) B (.slice (some ⟨w.heap.size, 0, none⟩) 0 0) 0 p L V :=
  ⟨⟨rfl, .inr ⟨w.heap.size, 0, #[], rfl, hB, heap_alloc_new w _, Nat.le_refl _, by unfold maxLen; omega, rfl, rfl⟩⟩, fun j hj => absurd hj (by omega), fun j hj => absurd hj (by omega)⟩
theorem PitA.below (h : PitA w B v k p L V) (hb : Below w.heap.size w w') : PitA w' B v k p L V :=
  ⟨World.ownsRow.kept (row := none) h.own ⟨hb.os, hb.tape, hb.output, hb.size, fun k hk _ => hb.block k hk⟩ (by
    cases e : v.ownBlock with
    | none => exact .inl rfl
    | some _ => exact .inr (by simp)), fun j hj => (h.inner j hj).below hb, h.ap⟩
theorem PitA.push {o : Obj} {v' u : Value} (h : PitA w B v k p L V) (hu : OwnL w B u (L k)) (hap : Apart u v)
    (hown : w'.ownsRow B 48 2 v' (k + 1) (prL p V k ++ [.int .i64 (p k), u])) (hg : (w.alloc o).grownBy w' v.ownBlock) (hat : v'.ownBlock = v.ownBlock ∨ v'.ownBlock = some (w.alloc o).heap.size) :
    PitA w' B v' (k + 1) p L (fun j => if j = k then u else V j) := by
  have hkeep : ∀ (x : Value) (l : List Int), OwnL w B x l → Apart x v → OwnL w' B x l ∧ Apart x v' := fun x l hx ha => by
    refine ⟨(hx.alloc o).of_block (fun a e => hg.block a ((hx.alloc o).lt a e).2 (fun e2 => ha a e e2.symm)), fun a e e2 => ?_⟩
    rcases hat with h1 | h1
    · exact ha a e (h1 ▸ e2)
    · rw [h1] at e2
      have := (hx.lt a e).2
      simp at e2
      omega
  refine ⟨?_, fun j hj => ?_, fun j hj => ?_⟩
  · rw [prL, prL_congr (V := fun j => if j = k then u else V j) (U := V) k (fun j hj => if_neg (by omega)), if_pos rfl]
    exact hown
  · by_cases e : j = k
    · subst e; simp only [if_true]; exact (hkeep _ _ hu hap).1
    · simp only [if_neg e]; exact (hkeep _ _ (h.inner j (by omega)) (h.ap j (by omega))).1
  · by_cases e : j = k
    · subst e; simp only [if_true]; exact (hkeep _ _ hu hap).2
    · simp only [if_neg e]; exact (hkeep _ _ (h.inner j (by omega)) (h.ap j (by omega))).2
theorem PitA.at_ (h : PitA w B v k p L V) : ∃ A c, v = .slice A k c ∧ PitAt w A (mkPit k p L) := by
  rcases h.own.2 with ⟨rfl, rfl⟩ | ⟨g, cap, cur, rfl, hb, hg, hc, hm, hs, hx⟩
  · exact ⟨none, 0, rfl, fun h => absurd h (by show ¬ 0 < 0; omega)⟩
  · refine ⟨_, _, rfl, fun _ => ⟨g, 0, rfl, fun j (hj : j < k) => ?_⟩⟩
    have hcell : ∀ i q, i < k * 2 → (prL p V k)[i]? = some q → w.cell? ⟨g, 0 + i, none⟩ = some q := fun i q hi hq => by
      rw [← hx, List.getElem?_take_of_lt hi, Array.getElem?_toList] at hq
      rw [Nat.zero_add]
      simp [World.cell?, hg, hq]
    obtain ⟨t1, t2⟩ := prL_get p V k j hj
    obtain ⟨A, c, hv, hi⟩ := (h.inner j hj).ints
    exact ⟨hcell _ _ (by omega) t1, A, c, by have := hcell _ _ (by omega) t2; rw [← Nat.add_assoc, hv] at this; exact this, hi⟩
end

/-! ### A row of blocks that is filled -/
structure PitI (w : World) (g n k : Nat) (p : Nat → Int) (L : Nat → List Int) (V : Nat → Value) : Prop where
  outer : ∃ f : Nat → Value, w.rowIs g 48 (n * 2) f ∧ ∀ j, j < k → f (j * 2) = .int .i64 (p j) ∧ f (j * 2 + 1) = V j
  inner : ∀ j, j < k → OwnL w (g + 1) (V j) (L j)
  sep : ∀ i j, i < k → j < k → i ≠ j → Apart (V i) (V j)
section
variable {w w' : World} {g n k : Nat} {p : Nat → Int} {L : Nat → List Int} {V : Nat → Value}
theorem PitI.start (w : World) (n : Nat) (p : Nat → Int) (L : Nat → List Int) (V : Nat → Value) : PitI (w.alloc (.cells (madeCells (Value.agg #[.int .i64 0, .slice none 0 0]).cells (n * 2)) 48)) w.heap.size n 0 p L V :=
  ⟨⟨zeroF, made_blocks w n _, fun j hj => absurd hj (by omega)⟩, fun j hj => absurd hj (by omega), fun i j hi => absurd hi (by omega)⟩
theorem PitI.below (h : PitI w g n k p L V) (hb : Below w.heap.size w w') : PitI w' g n k p L V := by
  obtain ⟨⟨f, h1, h2⟩, h3, h4⟩ := h
  exact ⟨⟨f, row_below hb h1, h2⟩, fun j hj => (h3 j hj).below hb, h4⟩
theorem PitI.lt (h : PitI w g n k p L V) : g < w.heap.size := by
  obtain ⟨⟨f, h1, h2⟩, h3, h4⟩ := h
  exact h1.lt
theorem PitI.cells (h : PitI w g n k p L V) (hk : k < n) : (∃ a b, w.cell? ⟨g, k * 2, none⟩ = some a ∧ w.cell? ⟨g, k * 2 + 1, none⟩ = some b) ∧ w.frozen? ⟨g, k * 2, none⟩ = false ∧ w.frozen? ⟨g, k * 2 + 1, none⟩ = false := by
  obtain ⟨⟨f, h1, h2⟩, h3, h4⟩ := h
  exact ⟨⟨_, _, h1.cell (by omega), h1.cell (by omega)⟩, h1.frozen _, h1.frozen _⟩
/-- A further block, whose list lies in memory that was not there before. -/
theorem PitI.push {u : Value} (h : PitI w g n k p L V) (hb : Below w.heap.size w w') (hu : OwnL w' w.heap.size u (L k)) :
    PitI ((w'.setCell ⟨g, k * 2, none⟩ (.int .i64 (p k))).setCell ⟨g, k * 2 + 1, none⟩ u) g n (k + 1) p L (fun j => if j = k then u else V j) := by
  have hl := h.lt
  obtain ⟨⟨f, h1, h2⟩, h3, h4⟩ := h
  have hfar : ∀ (x : Value) (l : List Int), OwnL w' (g + 1) x l → OwnL ((w'.setCell ⟨g, k * 2, none⟩ (.int .i64 (p k))).setCell ⟨g, k * 2 + 1, none⟩ u) (g + 1) x l := fun x l hx =>
    hx.of_block (fun a e => (Below.heap_setCell _ ⟨g, k * 2 + 1, none⟩ _ _ (by have := (hx.lt a e).1; show a ≠ g; omega)).trans (Below.heap_setCell _ ⟨g, k * 2, none⟩ _ _ (by have := (hx.lt a e).1; show a ≠ g; omega)))
  have hap : ∀ j, j < k → Apart u (V j) := fun j hj a e e2 => by
    have := (hu.lt a e).1
    have := ((h3 j hj).lt a e2).2
    omega
  refine ⟨⟨_, ((row_below hb h1).set _ _).set _ _, fun j hj => ?_⟩, fun j hj => ?_, fun i j hi hj hne => ?_⟩
  · by_cases e : j = k
    · subst e
      refine ⟨?_, ?_⟩
      · rw [if_neg (by omega), if_pos rfl]
      · rw [if_pos rfl, if_pos rfl]
    · refine ⟨?_, ?_⟩
      · rw [if_neg (by omega), if_neg (by omega)]; exact (h2 j (by omega)).1
      · rw [if_neg (by omega), if_neg (by omega), if_neg e]; exact (h2 j (by omega)).2
  · by_cases e : j = k
    · subst e; simp only [if_true]; exact hfar _ _ (hu.base (by omega))
    · simp only [if_neg e]; exact hfar _ _ ((h3 j (by omega)).below hb)
  · by_cases e1 : i = k
    · by_cases e2 : j = k
      · omega
      · simp only [if_pos e1, if_neg e2]; exact hap j (by omega)
    · by_cases e2 : j = k
      · simp only [if_neg e1, if_pos e2]; exact (hap i (by omega)).symm
      · simp only [if_neg e1, if_neg e2]; exact h4 i j (by omega) (by omega) hne
theorem PitI.done {lo : Nat} (h : PitI w g n n p L V) (hlo : lo ≤ g) : ∃ G, PitM w lo w.heap.size (some ⟨g, 0, none⟩) (mkPit n p L) g G := by
  have hl := h.lt
  obtain ⟨⟨f, h1, h2⟩, h3, h4⟩ := h
  have hget : ∀ j, j < n → 0 < (L j).length → ∃ q cap, ∃ y : Nat → Value, V j = .slice (some ⟨q, 0, none⟩) (L j).length cap ∧ (V j).ownBlock = some q ∧ g + 1 ≤ q ∧ q < w.heap.size ∧ (∃ cap', (L j).length ≤ cap' ∧ w.rowIs q 3 cap' y) ∧ ∀ i, i < (L j).length → y i = .int .i64 ((L j).getD i 0) := fun j hj h0 => by
    obtain ⟨A, c, hv, hr⟩ := (h3 j hj).read
    obtain ⟨q, cap, y, rfl, hq1, hq2, hcap, hrow, hy⟩ := hr h0
    exact ⟨q, c, y, hv, by rw [hv]; rfl, hq1, hq2, ⟨cap, hcap, hrow⟩, hy⟩
  refine ⟨fun j => ((V j).ownBlock).getD 0, ⟨fun _ => ⟨rfl, hlo, hl, n * 2, f, Nat.le_refl _, h1, fun j hj => ⟨(h2 j hj).1, ?_⟩⟩, fun j hj h0 => ?_, fun i j hi hj hne hi0 hj0 => ?_⟩⟩
  · obtain ⟨A, c, hv⟩ := (h3 j hj).form
    refine ⟨A, c, ((h2 j hj).2).trans hv, fun h0 => ?_⟩
    obtain ⟨q, cap, y, hv2, hob, _⟩ := hget j hj h0
    rw [hob]
    rw [hv] at hv2
    simp only [Value.slice.injEq] at hv2
    exact hv2.1
  · obtain ⟨q, cap, y, hv2, hob, hq1, hq2, ⟨cap', hc', hrow⟩, hy⟩ := hget j hj h0
    show lo ≤ ((V j).ownBlock).getD 0 ∧ ((V j).ownBlock).getD 0 < _ ∧ ((V j).ownBlock).getD 0 ≠ g ∧ _
    rw [hob]
    exact ⟨by show lo ≤ q; omega, hq2, by show q ≠ g; omega, cap', y, hc', hrow, hy⟩
  · obtain ⟨q, _, _, _, hob, _⟩ := hget i hi hi0
    obtain ⟨q2, _, _, _, hob2, _⟩ := hget j hj hj0
    show ((V i).ownBlock).getD 0 ≠ ((V j).ownBlock).getD 0
    rw [hob, hob2]
    intro e
    have e' : q = q2 := e
    subst e'
    exact h4 i j hi hj hne q hob hob2
end
/-- It returned a pit of its own, that may be written. -/
def RetPM (E : PitD) (w : World) (e : Ending) (w' : World) : Prop := ∃ A c g G, e = .returned (.slice A E.n c) ∧ PitM w' w.heap.size w'.heap.size A E g G ∧ Below w.heap.size w w'
/-- It returned a pit that reads so. -/
def RetPA (E : PitD) (w : World) (e : Ending) (w' : World) : Prop := ∃ A c, e = .returned (.slice A E.n c) ∧ PitAt w' A E ∧ Below w.heap.size w w'
theorem PitM.none_ (w : World) (lo hi : Nat) (A : Option Addr) (p : Nat → Int) (L : Nat → List Int) : PitM w lo hi A (mkPit 0 p L) 0 (fun _ => 0) :=
  ⟨fun h => absurd h (by show ¬ 0 < 0; omega), fun j hj => absurd hj (by show ¬ j < 0; omega), fun i j hi => absurd hi (by show ¬ i < 0; omega)⟩
end Go.Proofs.Ytekngpinldiodaa
