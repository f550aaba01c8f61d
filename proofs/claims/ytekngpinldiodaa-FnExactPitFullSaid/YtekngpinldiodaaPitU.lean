/- PitFull, both: each block needs all that its closure holds. Lists are at most 2^20 long. -/
import Derived.Test.YtekngpinldiodaaPitR2
import Derived.Test.YtekngpinldiodaaPit7
namespace Go.Proofs.Ytekngpinldiodaa
open Go.RowKit

theorem andNot_nat (a b : Nat) (ha : a < 2 ^ 62) (hb : b < 2 ^ 62) : bits .andNot .i64 (a : Int) (b : Int) = ((a &&& (2 ^ 64 - (b + 1)) : Nat) : Int) := by
  have hp : 2 ^ 62 ≤ 2 ^ IntKind.i64.bits := Nat.pow_le_pow_right (by decide) (by decide)
  have ha' : a % 2 ^ IntKind.i64.bits = a := Nat.mod_eq_of_lt (Nat.lt_of_lt_of_le ha hp)
  have hb' : b % 2 ^ IntKind.i64.bits = b := Nat.mod_eq_of_lt (Nat.lt_of_lt_of_le hb hp)
  simp only [bits, BitVec.ofInt_natCast, BitVec.toNat_and, BitVec.toNat_not, BitVec.toNat_ofNat, ha', hb']
  have e : 2 ^ IntKind.i64.bits - 1 - b = 2 ^ 64 - (b + 1) := by show 2 ^ 64 - 1 - b = _; omega
  rw [e]
  have hx : a &&& (2 ^ 64 - (b + 1)) ≤ a := Nat.and_le_left
  exact wraps62 _ (Int.natCast_nonneg _) (by have : a &&& (2 ^ 64 - (b + 1)) < 2 ^ 62 := by omega
                                             exact_mod_cast this)
theorem andNot_bit (a b i : Nat) (hb : b < 2 ^ 62) (hi : i < 64) : (a &&& (2 ^ 64 - (b + 1))).testBit i = (a.testBit i && !b.testBit i) := by
  rw [Nat.testBit_and, Nat.testBit_two_pow_sub_succ (by omega)]
  simp [hi]
theorem setL_congr {S T : Nat} : ∀ n, (∀ i, i < n → S.testBit i = T.testBit i) → setL S n = setL T n
  | 0, _ => rfl
  | n + 1, h => by rw [setL, setL, setL_congr n (fun i hi => h i (by omega)), h n (by omega)]
theorem setL_high {S k : Nat} : ∀ n, k ≤ n → (∀ i, k ≤ i → i < n → S.testBit i = false) → setL S n = setL S k
  | 0, hk, _ => by rw [show k = 0 by omega]
  | n + 1, hk, h => by
    by_cases e : k = n + 1
    · rw [e]
    · rw [setL, h n (by omega) (by omega)]
      exact setL_high n (by omega) (fun i h1 h2 => h i h1 (by omega))
theorem clI_low {D : PitD} (hok : PitOk D) {i S k : Nat} (hi : i < D.n) (hk : i ≤ k) (hS : S < 2 ^ (k + 1)) : ∀ j, j ≤ D.l i → clI D i S j < 2 ^ (k + 1)
  | 0, _ => hS
  | j + 1, h => by
    have := (hok.2 i hi).2.1 j (by omega)
    exact Nat.or_lt_two_pow (clI_low hok hi hk hS j (by omega)) (Nat.pow_lt_pow_right (by decide) (by omega))
theorem clO_low {D : PitD} (hok : PitOk D) {S k : Nat} (hS : S < 2 ^ (k + 1)) : ∀ t, t ≤ D.n → clO D S t < 2 ^ (k + 1)
  | 0, _ => hS
  | t + 1, h => by
    have ih := clO_low hok hS t (by omega)
    simp only [clO]
    split
    · rename_i hb
      refine clI_low hok (by omega) ?_ ih _ (Nat.le_refl _)
      by_cases e : D.n - 1 - t ≤ k
      · exact e
      · rw [Nat.testBit_lt_two_pow (Nat.lt_of_lt_of_le ih (pow_lt (by omega)))] at hb
        cases hb
    · exact ih
/-- All that block k needs, and what that needs. -/
def fulL (D : PitD) (k : Nat) : List Int := setL (clO D (2 ^ k) D.n) k
theorem fulL_len (D : PitD) (k : Nat) : (fulL D k).length ≤ k := setL_len _ _
theorem fulL_impl {D : PitD} (hok : PitOk D) {k : Nat} (hk : k < D.n) : setL (clO D (2 ^ k) D.n &&& (2 ^ 64 - (2 ^ k + 1))) 63 = fulL D k := by
  have h8 := hok.1
  have hp : 2 ^ k < 2 ^ 62 := Nat.pow_lt_pow_right (by decide) (by omega)
  have hc := clO_low hok (k := k) (S := 2 ^ k) (Nat.pow_lt_pow_right (by decide) (by omega)) D.n (Nat.le_refl _)
  rw [setL_high (k := k) 63 (by omega) (fun i h1 h2 => ?_)]
  · refine setL_congr k fun i hi => ?_
    rw [andNot_bit _ _ _ hp (by omega), Nat.testBit_two_pow]
    simp; omega
  · rw [andNot_bit _ _ _ hp (by omega), Nat.testBit_two_pow]
    by_cases e : k = i
    · simp [e]
    · rw [Nat.testBit_lt_two_pow (Nat.lt_of_lt_of_le hc (pow_lt (by omega)))]
      rfl

set_option maxRecDepth 20000 in
set_option maxHeartbeats 1600000 in
theorem PitFull_impl (A : Option Addr) (D : PitD) (c : Nat) (w : World) (hx : PitAt w A D) (hs : PitSmall D) (hok : PitOk D) :
    Calls Try.prog 39 #[.slice A D.n c] w (RetPM (mkPit D.n D.p (fulL D)) w) := by
  have hn := hs.1
  have h8 := hok.1
  have HO := hid hok
  have HL := hid hs.2
  have hmk := run_make_wide (P := Try.prog) 25 48 _ 2 32 Try.underlying25 info48 .i64 .i64 D.n (by omega) (by omega)
  clear hok
  go_enter Try.func39, Try.ntmps39
  go_wp2_with (go_at_call 17; refine (RetB.yes (PitValid_impl A D c w hx hs) HO.out).mono ?_; rintro e w1 ⟨rfl, hb1⟩)
  clear hmk
  have HI0 := hid (PitI.start w1 D.n D.p (fulL D) (fun _ => .slice none 0 0))
  have HB0 : Hid (Below w1.heap.size w1 (w1.alloc (.cells (madeCells (Value.agg #[.int .i64 0, .slice none 0 0]).cells (D.n * 2)) 48))) := hid ((Below.refl _ _).alloc (Nat.le_refl _) _)
  have HB1 := hid hb1
  clear hb1
  go_loopw [15] (fun i wr => ∃ (k : Nat) (V : Nat → Value), k ≤ D.n ∧ i = .int .i64 k ∧ Hid (PitI wr w1.heap.size D.n k D.p (fulL D) V) ∧ Hid (Below w1.heap.size w1 wr)) (fun i _ => D.n - (intOf i).toNat)
  case atStart => exact ⟨0, _, by omega, rfl, HI0, HB0⟩
  case round =>
    clear HI0 HB0
    obtain ⟨k, V, hk, rfl, HI, HB⟩ := hrel
    by_cases hlt : k < D.n
    · obtain ⟨b, o, C, cc, rfl, a1, a2, a3⟩ := (hx.below (Below.then_ HB1.out HB.out)).at_ hlt
      have hltz : (k : Int) < (D.n : Int) := by omega
      have hlt1 := HI.out.lt
      have HXW := hid (hx.below (Below.then_ HB1.out (HB.out.alloc HB.out.size (.cells #[.int .i64 (D.p k), .slice C (D.l k) cc] 48))))
      have HW : Hid (Below wr.heap.size wr (wr.alloc (.cells #[.int .i64 (D.p k), .slice C (D.l k) cc] 48))) := hid ((Below.refl wr.heap.size wr).alloc (Nat.le_refl _) (.cells #[.int .i64 (D.p k), .slice C (D.l k) cc] 48))
      have HBX := hid (Blk.new wr 48 #[.int .i64 (D.p k), .slice C (D.l k) cc])
      have hn1 : wr.heap.size ≠ w1.heap.size := by omega
      have hn2 : w1.heap.size ≠ wr.heap.size := by omega
      obtain ⟨Pw, hPw⟩ : ∃ Pw, Pw = 2 ^ k := ⟨_, rfl⟩
      have hP62 : Pw < 2 ^ 62 := by rw [hPw]; exact Nat.pow_lt_pow_right (by decide) (by omega)
      have e1 : wrap64 (2 ^ k) = (Pw : Int) := by rw [wrap_pow (by omega), hPw, pow_int]
      have e1' : IntKind.i64.wrap (2 ^ k) = (Pw : Int) := by rw [IntKind.wrap_i64]; have h := e1; unfold wrap64 at h; omega
      have HF : Hid (SetFits D (Pw : Int)) := hid ⟨HO.out, Int.natCast_nonneg _, by rw [hPw, pow_int]; have := Nat.pow_lt_pow_right (a := 2) (by decide) hlt; omega⟩
      obtain ⟨Q, hQ⟩ : ∃ Q, Q = clO D Pw D.n := ⟨_, rfl⟩
      have hQ62 : Q < 2 ^ 62 := by
        have h1 := clO_low HO.out (k := k) (S := Pw) (by rw [hPw]; exact Nat.pow_lt_pow_right (by decide) (by omega)) D.n (Nat.le_refl _)
        rw [← hQ] at h1
        exact Nat.lt_of_lt_of_le h1 (pow_lt (by omega))
      have e2 := andNot_nat Q Pw hQ62 hP62
      obtain ⟨R, hR⟩ : ∃ R, R = Q &&& (2 ^ 64 - (Pw + 1)) := ⟨_, rfl⟩
      have hR62 : R < 2 ^ 62 := by have : R ≤ Q := by rw [hR]; exact Nat.and_le_left
                                   omega
      have HRL : Hid (setL R 63 = fulL D k) := hid (by rw [hR, hQ, hPw]; exact fulL_impl HO.out hlt)
      rw [← hR] at e2
      have HQ := hid hQ
      have HCL := hid (fun (s : Sub (wr.alloc (.cells #[.int .i64 (D.p k), .slice C (D.l k) cc] 48))) => PitClose_impl (some ⟨b, o, none⟩) D c Pw s.val (HXW.out.below s.h) hs HF.out)
      rw [← hQ] at HCL
      clear a3 hPw hQ hR
      go_wp2
      refine wp_region_sub (by kernel_rfl) (by kernel_rfl) ?_
      repeat (go_big_quiet_step (((go_at_call 22; exact RetV.sub (HCL.out _)))))
      refine wpQuiet_nil ?_
      intro _ hw'
      obtain ⟨s, hw''⟩ := hw'
      subst hw''
      have HV := hid s.h
      generalize s.val = v at HV ⊢
      clear a1 a2
      have HWV := hid (HW.out.trans (HV.out.mono HW.out.size))
      have HBV := hid (HBX.out.below HV.out)
      have x0 := HBV.out.cell (i := 0) rfl
      go_wp2
      go_region_held3 (fun W => W.cell? ⟨wr.heap.size, 0, none⟩ = some (.int .i64 (D.p k))) (go_keep) (first
          | (go_at_call 58; (with_reducible refine (setIndices_any R _ hR62).mono ?_); rintro e w5 ⟨v5, rfl, ho5, hb5⟩; rw [HRL.out] at ho5; have hb5' := hid (show Below v.heap.size v w5 from (Below.refl v.heap.size v).drew.trans hb5); have HW5 := hid (HWV.out.trans (hb5'.out.mono HWV.out.size)); have HI5 := hid (HI.out.below HW5.out); have HP5 := hid (PitI.push (k := k) HI.out HW5.out (ho5.base HWV.out.size)); obtain ⟨A5, c5, rfl⟩ := ho5.form; obtain ⟨⟨x0', x1, n0, n1⟩, z0, z1⟩ := HI5.out.cells hlt; have HB5 := hid (((HB.out.trans (HW5.out.mono HB.out.size)).setCell (p := ⟨w1.heap.size, k * 2, none⟩) (Nat.le_refl _) (.int .i64 (D.p k))).setCell (p := ⟨w1.heap.size, k * 2 + 1, none⟩) (Nat.le_refl _) (.slice A5 (fulL D k).length c5)); have y0 := (HBV.out.below hb5'.out).cell (i := 0) rfl; clear hb5 ho5 HI5; go_simp))
      all_goals
        go_wp2
        go_roundw
        case rel => exact ⟨k + 1, _, by omega, by go_num, HP5, HB5⟩
        case measure => simp [intOf]; omega
    · have : k = D.n := by omega
      subst this
      obtain ⟨G, hG⟩ := HI.out.done (lo := w.heap.size) HB1.out.size
      go_wp2
      go_ret
      exact ⟨_, _, _, G, rfl, hG, Below.then_ HB1.out HB.out⟩

theorem PitFull_impl0 (A : Option Addr) (D : PitD) (c : Nat) (p : Nat → Int) (L : Nat → List Int) (w : World) (hx : PitAt w A D) (hs : PitSmall D) (hno : ¬ PitOk D) :
    Calls Try.prog 39 #[.slice A D.n c] w (RetPM (mkPit 0 p L) w) := by
  go_enter Try.func39, Try.ntmps39
  go_wp2_with (go_at_call 17; refine (RetB.no (PitValid_impl A D c w hx hs) hno).mono ?_; rintro e w1 ⟨rfl, hb1⟩)
  go_ret
  exact ⟨none, 0, 0, _, rfl, PitM.none_ _ _ _ _ _ _, hb1⟩
end Go.Proofs.Ytekngpinldiodaa
