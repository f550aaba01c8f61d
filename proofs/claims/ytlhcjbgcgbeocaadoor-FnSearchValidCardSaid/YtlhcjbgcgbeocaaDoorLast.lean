/- The two LastOut. Lists are at most 2^20 long. -/
import Derived.Test.YtlhcjbgcgbeocaaDoorExit3
namespace Go.Proofs.YtlhcjbgcgbeocaaDoor
open Go.RowKit

/-- The greatest of the first k numbers, and 0. -/
def lastK (t : Nat → Int) : Nat → Int
  | 0 => 0
  | k + 1 => if lastK t k < t k then t k else lastK t k
theorem lastK_lo (t : Nat → Int) : ∀ k, 0 ≤ lastK t k
  | 0 => by simp [lastK]
  | k + 1 => by
    have := lastK_lo t k
    unfold lastK
    split <;> omega
open Classical in
/-- What LastOut returns, as a function. -/
noncomputable def lastF (D : SrchD) (x : Nat → Int) (n : Nat) : Int :=
  if SrchOk D ∧ ∀ k, k < D.k → 0 ≤ (nearF D k x n).2 then lastK (fun k => (nearF D k x n).2) D.k else -1
theorem lastF_ok {D : SrchD} {x : Nat → Int} {n : Nat} (h : SrchOk D ∧ ∀ k, k < D.k → 0 ≤ (nearF D k x n).2) : lastF D x n = lastK (fun k => (nearF D k x n).2) D.k := by unfold lastF; rw [if_pos h]
theorem lastF_bad {D : SrchD} {x : Nat → Int} {n : Nat} (h : ¬ (SrchOk D ∧ ∀ k, k < D.k → 0 ≤ (nearF D k x n).2)) : lastF D x n = -1 := by unfold lastF; rw [if_neg h]

set_option maxHeartbeats 1600000 in
theorem LastOut_impl (P Q : Option Addr) (D : SrchD) (c d : Nat) (A : Option Addr) (n cc : Nat) (x : Nat → Int) (w : World) (hx : SrchAt w P Q D) (hs : SrchSmall D) (hi : Ints w A n x) (hn : n ≤ 1048576) :
    Calls Tryd.prog 25 #[.agg #[.int .i64 D.s, .slice P D.m c, .slice Q D.k d], .slice A n cc] w (RetV (.int .i64 (lastF D x n)) w) := by
  have hw1 := below_alloc1 w (.cells #[.int .i64 D.s, .slice P D.m c, .slice Q D.k d] 26)
  have hB := Blk.new w 26 #[.int .i64 D.s, .slice P D.m c, .slice Q D.k d]
  by_cases hok : SrchOk D
  · have HOK := hid hok
    clear hok
    go_enter Tryd.func25, Tryd.ntmps25
    go_wp2_with fail
    refine (RetB.yes (SearchValid_impl P Q D c d _ (hx.below hw1) hs) HOK.out).mono ?_
    rintro e w1 ⟨rfl, hb1⟩
    have hB1 := hid (hB.below hb1)
    have y0 := hB1.out.cell (i := 0) rfl
    have hw2 := Below.then_ hw1 hb1
    have HX := hid (hx.below hw2)
    have HW2 := hid hw2
    have HI := hid (hi.below hw2)
    have HSK := hid HOK.out.2.2.1
    have hk7 : D.k ≤ 7 := by have := HOK.out.1.2; have := HSK.out; omega
    clear hB hw1 hb1 hw2 hx hi
    go_wp2
    go_loopw [5, 14] (fun a i wr => ∃ k : Nat, k ≤ D.k ∧ i = .int .i64 k ∧ a = .int .i64 (lastK (fun k => (nearF D k x n).2) k) ∧ Hid (∀ j, j < k → 0 ≤ (nearF D j x n).2) ∧ Hid (Below w1.heap.size w1 wr)) (fun _ i _ => D.k - (intOf i).toNat)
    case atStart => exact ⟨0, by omega, rfl, rfl, fun j hj => absurd hj (by omega), Below.refl _ _⟩
    case round =>
      obtain ⟨k, hk, rfl, rfl, HT, HBEL⟩ := hrel
      clear y0
      have hB2 := hB1.out.below HBEL.out
      have z0 := hB2.cell (i := 0) rfl
      have z1 := hB2.cell (i := 1) rfl
      have z2 := hB2.cell (i := 2) rfl
      clear hB2
      by_cases hlt : k < D.k
      · have hltz : (k : Int) < D.s := by have := HSK.out; omega
        go_wp2_with fail
        refine (ExitNear_impl P Q D c d k A n cc x _ (HX.out.below HBEL.out) hs (HI.out.below HBEL.out) hn).mono ?_
        rintro e w2 ⟨rfl, hb2⟩
        have HB3 := hid (HBEL.out.trans (hb2.mono HBEL.out.size))
        have HST : Hid (lastK (fun k => (nearF D k x n).2) (k + 1) = if lastK (fun k => (nearF D k x n).2) k < (nearF D k x n).2 then (nearF D k x n).2 else lastK (fun k => (nearF D k x n).2) k) := by
          show _ = _
          rw [lastK]
        clear z0 z1 z2 hb2
        by_cases h0 : (nearF D k x n).2 < 0
        · have HE := hid (lastF_bad (D := D) (x := x) (n := n) (fun h => by have := h.2 k hlt; omega))
          go_wp2
          go_ret
          rw [HE.out]
          exact ⟨rfl, Below.then_ HW2.out HB3.out⟩
        · have HT2 : Hid (∀ j, j < k + 1 → 0 ≤ (nearF D j x n).2) := fun j hj => by
            by_cases e : j = k
            · subst e; omega
            · exact HT.out j (by omega)
          by_cases h1 : lastK (fun k => (nearF D k x n).2) k < (nearF D k x n).2
          · have HC := hid h1
            go_wp2
            go_roundw
            case rel => exact ⟨k + 1, by omega, by go_num, by rw [HST.out, if_pos HC.out], HT2, HB3⟩
            case measure => simp [intOf] <;> omega
          · have HC := hid h1
            go_wp2
            go_roundw
            case rel => exact ⟨k + 1, by omega, by go_num, by rw [HST.out, if_neg (by have := HC.out; omega)], HT2, HB3⟩
            case measure => simp [intOf] <;> omega
      · have : k = D.k := by omega
        subst this
        have hnltz : ¬ (D.k : Int) < D.s := by have := HSK.out; omega
        have HE := hid (lastF_ok ⟨HOK.out, HT.out⟩)
        go_wp2
        go_ret
        rw [HE.out]
        exact ⟨rfl, Below.then_ HW2.out HBEL.out⟩
  · have HOK := hid hok
    clear hok
    have HE := hid (lastF_bad (x := x) (n := n) (fun h => HOK.out h.1))
    go_enter Tryd.func25, Tryd.ntmps25
    go_wp2_with fail
    refine (RetB.no (SearchValid_impl P Q D c d _ (hx.below hw1) hs) HOK.out).mono ?_
    rintro e w1 ⟨rfl, hb1⟩
    go_wp2
    go_ret
    rw [HE.out]
    exact ⟨rfl, Below.then_ hw1 hb1⟩

/-- The greatest so far; -1 before the first. -/
def lastL (t : Nat → Int) (k : Nat) : Int := if k = 0 then -1 else lastK t k

set_option maxHeartbeats 1600000 in
theorem LastOut_spec (P Q : Option Addr) (D : SrchD) (c d : Nat) (A : Option Addr) (n cc : Nat) (x : Nat → Int) (w : World) (hx : SrchAt w P Q D) (hs : SrchSmall D) (hi : Ints w A n x) (hn : n ≤ 1048576) :
    Calls Tryd.prog 26 #[.agg #[.int .i64 D.s, .slice P D.m c, .slice Q D.k d], .slice A n cc] w (RetV (.int .i64 (lastF D x n)) w) := by
  have hw1 := hid (below_alloc1 w (.cells #[.int .i64 D.s, .slice P D.m c, .slice Q D.k d] 26))
  have hB := hid (Blk.new w 26 #[.int .i64 D.s, .slice P D.m c, .slice Q D.k d])
  have HX := hid (hx.below hw1.out)
  have HI := hid (hi.below hw1.out)
  clear hx hi
  have hst : D.s ≤ 0 ∨ 0 < D.s := by omega
  have HSK : Hid (SrchOk D → (D.k : Int) = D.s) := fun h => h.2.2.1
  go_enter Tryd.func26, Tryd.ntmps26
  go_wp2
  go_loopw [5, 6] (fun a i wr => ∃ k : Nat, (k = 0 ∨ (SrchOk D ∧ k ≤ D.k)) ∧ i = .int .i64 k ∧ a = .int .i64 (lastL (fun k => (nearF D k x n).2) k) ∧ Hid (∀ j, j < k → 0 ≤ (nearF D j x n).2) ∧ Hid (Below (w.alloc (.cells #[.int .i64 D.s, .slice P D.m c, .slice Q D.k d] 26)).heap.size (w.alloc (.cells #[.int .i64 D.s, .slice P D.m c, .slice Q D.k d] 26)) wr)) (fun _ i _ => D.k + 1 - (intOf i).toNat)
  case atStart => exact ⟨0, .inl rfl, rfl, rfl, fun j hj => absurd hj (by omega), Below.refl _ _⟩
  case round =>
    obtain ⟨k, hk, rfl, rfl, HT, HBEL⟩ := hrel
    have HK := hid hk
    clear hk
    have hB2 := hB.out.below HBEL.out
    have z0 := hB2.cell (i := 0) rfl
    have z1 := hB2.cell (i := 1) rfl
    have z2 := hB2.cell (i := 2) rfl
    clear hB2
    by_cases hltz : (k : Int) < D.s
    · go_wp2_with fail
      refine (ExitNear_spec P Q D c d k A n cc x _ (HX.out.below HBEL.out) hs (HI.out.below HBEL.out) hn).mono ?_
      rintro e w2 ⟨rfl, hb2⟩
      have HB3 := hid (HBEL.out.trans (hb2.mono HBEL.out.size))
      clear z0 z1 z2 hb2
      by_cases h0 : (nearF D k x n).2 < 0
      · have HE := hid (lastF_bad (D := D) (x := x) (n := n) (fun h => by have := h.2 k (by have := HSK.out h.1; omega); omega))
        go_wp2
        go_ret
        rw [HE.out]
        exact ⟨rfl, Below.then_ hw1.out HB3.out⟩
      · have hok : SrchOk D := Classical.byContradiction fun h => h0 (by rw [nearF_bad (fun q => h q.1)]; simp)
        have HOK := hid hok
        clear hok
        have hkk : k + 1 ≤ D.k := by have := HSK.out HOK.out; omega
        have hk7 : D.k ≤ 7 := by have := HOK.out.1.2; have := HSK.out HOK.out; omega
        have HT2 : Hid (∀ j, j < k + 1 → 0 ≤ (nearF D j x n).2) := fun j hj => by
          by_cases e : j = k
          · subst e; omega
          · exact HT.out j (by omega)
        have HST : Hid (lastL (fun k => (nearF D k x n).2) (k + 1) = if lastL (fun k => (nearF D k x n).2) k < (nearF D k x n).2 then (nearF D k x n).2 else lastL (fun k => (nearF D k x n).2) k) := by
          show _ = _
          unfold lastL
          rw [if_neg (by omega)]
          by_cases e : k = 0
          · subst e
            rw [if_pos rfl]
            show (if lastK _ 0 < _ then _ else _) = _
            simp only [lastK]
            rw [if_pos (show (-1 : Int) < (nearF D ((0 : Nat) : Int) x n).2 by omega)]
            by_cases e9 : 0 < (nearF D ((0 : Nat) : Int) x n).2
            · exact if_pos e9
            · refine (if_neg e9).trans ?_
              omega
          · rw [if_neg e, lastK]
        by_cases h1 : lastL (fun k => (nearF D k x n).2) k < (nearF D k x n).2
        · have HC := hid h1
          go_wp2
          go_roundw
          case rel => exact ⟨k + 1, .inr ⟨HOK.out, hkk⟩, by go_num, by rw [HST.out, if_pos HC.out], HT2, HB3⟩
          case measure => simp [intOf] <;> omega
        · have HC := hid h1
          go_wp2
          go_roundw
          case rel => exact ⟨k + 1, .inr ⟨HOK.out, hkk⟩, by go_num, by rw [HST.out, if_neg (by have := HC.out; omega)], HT2, HB3⟩
          case measure => simp [intOf] <;> omega
    · have HE : Hid (lastF D x n = lastL (fun k => (nearF D k x n).2) k) := by
        show _ = _
        by_cases hok : SrchOk D
        · have h1 := HSK.out hok
          have h2 := hok.1.1
          have h3 : k = D.k := by rcases HK.out with e | ⟨_, e⟩ <;> omega
          subst h3
          rw [lastF_ok ⟨hok, HT.out⟩]
          unfold lastL
          rw [if_neg (by omega)]
        · rw [lastF_bad (fun h => hok h.1)]
          rcases HK.out with e | ⟨e, _⟩
          · subst e; rfl
          · exact absurd e hok
      go_wp2
      go_ret
      rw [HE.out]
      exact ⟨rfl, Below.then_ hw1.out HBEL.out⟩
end Go.Proofs.YtlhcjbgcgbeocaaDoor
