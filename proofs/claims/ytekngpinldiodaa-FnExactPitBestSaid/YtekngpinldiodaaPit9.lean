/- PitOrder, both: the list of a set's blocks; marking pits and reading the marks. Lists are at most 2^20 long. -/
import Derived.Test.YtekngpinldiodaaPit6
import Derived.Test.YtekngpinldiodaaApp
namespace Go.Proofs.Ytekngpinldiodaa
open Go.RowKit

/-- The members of a set below k, ascending. -/
def setL (S : Nat) : Nat → List Int
  | 0 => []
  | k + 1 => if S.testBit k then setL S k ++ [(k : Int)] else setL S k
theorem setL_len (S : Nat) : ∀ k, (setL S k).length ≤ k
  | 0 => Nat.le_refl _
  | k + 1 => by
    have ih := setL_len S k
    simp only [setL]
    split
    · simp; omega
    · omega
theorem setL_top {S n : Nat} (h : S < 2 ^ n) : ∀ k, n ≤ k → setL S k = setL S n
  | 0, hk => by rw [show n = 0 by omega]
  | k + 1, hk => by
    by_cases e : n = k + 1
    · rw [e]
    · have hb : S.testBit k = false := Nat.testBit_lt_two_pow (Nat.lt_of_lt_of_le h (pow_lt (by omega)))
      simp only [setL, hb]
      exact setL_top h k (by omega)

theorem setIndices_any (S : Nat) (w : World) (hS : S < 2 ^ 62) :
    Calls Try.prog 58 #[.int .i64 S] w fun e w' => ∃ v, e = .returned v ∧ OwnL w' w.heap.size v (setL S 63) ∧ Below w.heap.size w w' := by
  go_enter Try.func58, Try.ntmps58
  go_wp2
  go_loopw [3, 5] (fun v i wr => ∃ k : Nat, k ≤ 63 ∧ i = .int .i64 k ∧ OwnL wr w.heap.size v (setL S k) ∧ Below w.heap.size w wr) (fun _ i _ => 63 - (intOf i).toNat)
  case atStart => exact ⟨0, by omega, rfl, OwnL.nil_ _ _, Below.refl _ _⟩
  case round =>
    obtain ⟨k, hk, rfl, hown, hbel⟩ := hrel
    by_cases hlt : k < 63
    · have hltz : (k : Int) < 63 := by omega
      have hlen := setL_len S k
      rcases (Bool.eq_false_or_eq_true (S.testBit k)).symm with hbit | hbit
      · have t1 := and1_f hS hbit
        have HW : Hid (setL S (k + 1) = setL S k) := by show _ = _; simp [setL, hbit]
        clear hbit
        go_wp2
        go_roundw
        case rel => exact ⟨k + 1, by omega, by go_num, by rw [HW.out]; exact hown, hbel⟩
        case measure => simp [intOf] <;> omega
      · have t1 := and1_t hS hbit
        have HW : Hid (setL S (k + 1) = setL S k ++ [(k : Int)]) := by show _ = _; simp [setL, hbit]
        clear hbit
        have hsz := hbel.size
        go_wp2_with (at_builtin; refine app_int rfl _ _ rfl w.heap.size _ _ rfl (hown.alloc _) wr.heap.size k rfl (by simp) (by omega) (by simp; omega) ?_)
        intro v' w' hown' hb'
        have hb2 := hb' _ (hbel.alloc hbel.size _)
        clear hb' hown
        go_wp2
        go_roundw
        case rel => exact ⟨k + 1, by omega, by go_num, by rw [HW.out]; exact hown', hb2⟩
        case measure => simp [intOf] <;> omega
    · have : k = 63 := by omega
      subst this
      go_wp2
      go_ret
      exact ⟨_, rfl, hown, hbel⟩

/-- It returns a list of the call's own that holds l. -/
def RetL (l : List Int) (w : World) (e : Ending) (w' : World) : Prop := ∃ v, e = .returned v ∧ OwnL w' w.heap.size v l ∧ Below w.heap.size w w'

theorem PitOrder_impl (A : Option Addr) (D : PitD) (c : Nat) (S : Nat) (w : World) (hx : PitAt w A D) (hs : PitSmall D) (hf : SetFits D S) (hm : MayP D S) :
    Calls Try.prog 34 #[.slice A D.n c, .int .i64 S] w (RetL (setL S D.n) w) := by
  have hS := fits_lt hf
  have h8 := hf.1.1
  have hT : S < 2 ^ D.n := by obtain ⟨T, e, h, _⟩ := fits_nat hf; have : S = T := by omega
                              omega
  have HT := hid (setL_top hT 63 (by omega))
  clear hT
  have HF := hid hf
  have HM := hid hm
  clear hf hm
  go_enter Try.func34, Try.ntmps34
  go_wp2_with (go_at_call 24; refine (RetB.yes (PitMay_impl A D c S w hx hs HF.out) HM.out).mono ?_; rintro e w1 ⟨rfl, hb⟩)
  refine (setIndices_any S w1 hS).mono ?_
  rintro e w2 ⟨v, rfl, hown, hb2⟩
  rw [HT.out] at hown
  go_wp2
  go_ret
  exact ⟨v, rfl, hown.base hb.size, Below.then_ hb hb2⟩

theorem PitOrder_impl0 (A : Option Addr) (D : PitD) (c : Nat) (S : Int) (w : World) (h : Calls Try.prog 24 #[.slice A D.n c, .int .i64 S] w (RetV (.bool false) w)) :
    Calls Try.prog 34 #[.slice A D.n c, .int .i64 S] w (RetL [] w) := by
  have H := hid h
  clear h
  go_enter Try.func34, Try.ntmps34
  go_wp2_with (go_at_call 24; refine Calls.mono H.out ?_; rintro e w1 ⟨rfl, hb⟩)
  go_ret
  exact ⟨_, rfl, OwnL.nil_ _ _, hb⟩

set_option maxHeartbeats 800000 in
theorem PitOrder_spec (A : Option Addr) (D : PitD) (c : Nat) (S : Nat) (w : World) (hx : PitAt w A D) (hs : PitSmall D) (hf : SetFits D S) (hm : MayP D S) :
    Calls Try.prog 33 #[.slice A D.n c, .int .i64 S] w (RetL (setL S D.n) w) := by
  have hn := hs.1
  have h8 := hf.1.1
  have HF := hid hf
  have HM := hid hm
  clear hf hm
  go_enter Try.func33, Try.ntmps33
  go_wp2
  go_loopw [5, 6] (fun v i wr => ∃ k : Nat, k ≤ D.n ∧ i = .int .i64 k ∧ OwnL wr w.heap.size v (setL S k) ∧ Below w.heap.size w wr) (fun _ i _ => D.n - (intOf i).toNat)
  case atStart => exact ⟨0, by omega, rfl, OwnL.lit0 w (Nat.le_refl _) _ rfl, (Below.refl _ _).alloc (Nat.le_refl _) _⟩
  case round =>
    obtain ⟨k, hk, rfl, hown, hbel⟩ := hrel
    by_cases hlt : k < D.n
    · have hltz : (k : Int) < (D.n : Int) := by omega
      have hlen := setL_len S k
      rcases (Bool.eq_false_or_eq_true (S.testBit k)).symm with hbit | hbit
      · have t1 := tmod1_f hbit
        have HW : Hid (setL S (k + 1) = setL S k) := by show _ = _; simp [setL, hbit]
        clear hbit
        go_wp2_with (go_at_call 23; refine (RetB.yes (PitMay_spec A D c S _ (hx.below hbel) hs HF.out) HM.out).mono ?_; rintro e w1 ⟨rfl, hb⟩)
        go_roundw
        case rel => exact ⟨k + 1, by omega, by go_num, by rw [HW.out]; exact hown.below hb, Below.then_ hbel hb⟩
        case measure => simp [intOf] <;> omega
      · have t1 := tmod1_t hbit
        have HW : Hid (setL S (k + 1) = setL S k ++ [(k : Int)]) := by show _ = _; simp [setL, hbit]
        clear hbit
        go_wp2_with fail
        refine (RetB.yes (PitMay_spec A D c S _ (hx.below hbel) hs HF.out) HM.out).mono ?_
        rintro e w1 ⟨rfl, hb⟩
        have hown1 := hown.below hb
        have hbel1 := Below.then_ hbel hb
        clear hown hbel hb
        have hsz := hbel1.size
        go_wp2_with (at_builtin; refine app_int rfl _ _ rfl w.heap.size _ _ rfl (hown1.alloc _) w1.heap.size k rfl (by simp) (by omega) (by simp; omega) ?_)
        intro v' w' hown' hb'
        have hb2 := hb' _ (hbel1.alloc hbel1.size _)
        clear hb' hown1
        go_wp2
        go_roundw
        case rel => exact ⟨k + 1, by omega, by go_num, by rw [HW.out]; exact hown', hb2⟩
        case measure => simp [intOf] <;> omega
    · have : k = D.n := by omega
      subst this
      go_wp2
      go_ret
      exact ⟨_, rfl, hown, hbel⟩

theorem PitOrder_spec0 (A : Option Addr) (D : PitD) (c : Nat) (S : Int) (w : World) (hx : PitAt w A D) (hs : PitSmall D) (h : ∀ w', PitAt w' A D → Calls Try.prog 23 #[.slice A D.n c, .int .i64 S] w' (RetV (.bool false) w')) :
    Calls Try.prog 33 #[.slice A D.n c, .int .i64 S] w (RetL [] w) := by
  have hn := hs.1
  have H := hid h
  clear h
  have hw1 : Below w.heap.size w (w.alloc (.cells #[] 3)) := (Below.refl _ _).alloc (Nat.le_refl _) _
  have ho : OwnL (w.alloc (.cells #[] 3)) w.heap.size (.slice (some ⟨w.heap.size, 0, none⟩) 0 0) [] := OwnL.lit0 w (Nat.le_refl _) _ rfl
  have HO := hid ho
  clear ho
  go_enter Try.func33, Try.ntmps33
  go_wp2
  refine wp_loop_rounds 1 ?_
  rw [rounds_succ]
  by_cases h0 : 0 < D.n
  · have hltz : (0 : Int) < (D.n : Int) := by omega
    go_wp2_with (go_at_call 23; refine Calls.mono (H.out _ (hx.below hw1)) ?_; rintro e w1 ⟨rfl, hb⟩)
    go_ret
    exact ⟨_, rfl, HO.out.below hb, Below.then_ hw1 hb⟩
  · go_wp2
    go_ret
    exact ⟨_, rfl, HO.out, hw1⟩
end Go.Proofs.Ytekngpinldiodaa
