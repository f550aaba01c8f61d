/- The two ExitsBest. Lists are at most 2^20 long. -/
import Derived.Test.YtlhcjbgcgbeocaaDoorLast
namespace Go.Proofs.YtlhcjbgcgbeocaaDoor
open Go.RowKit

/-- The list of two places. -/
def two (a b : Int) (j : Nat) : Int := if j = 0 then a else b
noncomputable def lo2 (D : SrchD) (a b : Int) : Int := lastF D (two a b) 2
theorem two_ints (w : World) (t : TypeId) (a b : Int) : Ints (w.alloc (.cells #[.int .i64 a, .int .i64 b] t)) (some ⟨w.heap.size, 0, none⟩) 2 (two a b) := fun _ =>
  ⟨w.heap.size, 0, rfl, fun j hj => by
    have h := Blk.new w t #[.int .i64 a, .int .i64 b]
    have e : j = 0 ∨ j = 1 := by omega
    rcases e with rfl | rfl
    · exact h.cell rfl
    · exact h.cell rfl⟩

/-- The best two so far, (first, second, how late): for first place a, before second place b. -/
noncomputable def inB (D : SrchD) (a : Nat) (p : Int × Int × Int) : Nat → Nat → Int × Int × Int
  | 0, _ => p
  | m + 1, b => inB D a (if 0 ≤ lo2 D a b ∧ (p.2.2 < 0 ∨ lo2 D a b < p.2.2) then ((a : Int), (b : Int), lo2 D a b) else p) m (b + 1)
noncomputable def outB (D : SrchD) (p : Int × Int × Int) : Nat → Nat → Int × Int × Int
  | 0, _ => p
  | m + 1, a => outB D (inB D a p (D.k - (a + 1)) (a + 1)) m (a + 1)
/-- What is kept of the best two. -/
def BestOk (D : SrchD) (p : Int × Int × Int) : Prop := (p.1 < 0 ∧ p.2.2 < 0) ∨ (0 ≤ p.1 ∧ 0 ≤ p.2.2 ∧ p.2.2 = lo2 D p.1 p.2.1)
theorem BestOk.step {D : SrchD} {p : Int × Int × Int} (h : BestOk D p) (a b : Nat) : BestOk D (if 0 ≤ lo2 D a b ∧ (p.2.2 < 0 ∨ lo2 D a b < p.2.2) then ((a : Int), (b : Int), lo2 D a b) else p) := by
  split
  · rename_i hc; exact .inr ⟨by simp, hc.1, rfl⟩
  · exact h
open Classical in
noncomputable def bestF (D : SrchD) : Int × Int := if SrchOk D then (if D.k = 1 then (0, 0) else ((outB D (-1, -1, -1) D.k 0).1, (outB D (-1, -1, -1) D.k 0).2.1)) else (-1, -1)

set_option maxHeartbeats 1600000 in
theorem ExitsBest_impl (P Q : Option Addr) (D : SrchD) (c d : Nat) (w : World) (hx : SrchAt w P Q D) (hs : SrchSmall D) :
    Calls Tryd.prog 38 #[.agg #[.int .i64 D.s, .slice P D.m c, .slice Q D.k d]] w (RetV (.tuple #[.int .i64 (bestF D).1, .int .i64 (bestF D).2]) w) := by
  have hw1 := below_alloc1 w (.cells #[.int .i64 D.s, .slice P D.m c, .slice Q D.k d] 26)
  have hB := Blk.new w 26 #[.int .i64 D.s, .slice P D.m c, .slice Q D.k d]
  by_cases hok : SrchOk D
  · have HOK := hid hok
    clear hok
    by_cases h1 : D.k = 1
    · have HE : Hid (bestF D = (0, 0)) := by show _ = _; unfold bestF; rw [if_pos HOK.out, if_pos h1]
      have hs1 : D.s = 1 := by have := HOK.out.2.2.1; omega
      have hq : (D.s == 1) = true := by simp [hs1]
      clear h1 hs1
      go_enter Tryd.func38, Tryd.ntmps38
      go_wp2_with fail
      refine (RetB.yes (SearchValid_impl P Q D c d _ (hx.below hw1) hs) HOK.out).mono ?_
      rintro e w1 ⟨rfl, hb1⟩
      have y0 := (hB.below hb1).cell (i := 0) rfl
      go_wp2
      go_ret2
      rw [HE.out]
      exact ⟨rfl, Below.then_ hw1 hb1⟩
    · have HE : Hid (bestF D = ((outB D (-1, -1, -1) D.k 0).1, (outB D (-1, -1, -1) D.k 0).2.1)) := by show _ = _; unfold bestF; rw [if_pos HOK.out, if_neg h1]
      have hs1 : ¬ D.s = 1 := by have := HOK.out.2.2.1; omega
      have hq : (D.s == 1) = false := by simp [hs1]
      have HSK := hid HOK.out.2.2.1
      have hk7 : D.k ≤ 7 := by have := HOK.out.1.2; have := HSK.out; omega
      clear h1 hs1
      go_enter Tryd.func38, Tryd.ntmps38
      go_wp2_with fail
      refine (RetB.yes (SearchValid_impl P Q D c d _ (hx.below hw1) hs) HOK.out).mono ?_
      rintro e w1 ⟨rfl, hb1⟩
      have hB1 := hid (hB.below hb1)
      have y0 := hB1.out.cell (i := 0) rfl
      have hw2 := Below.then_ hw1 hb1
      have HX := hid (hx.below hw2)
      have HW2 := hid hw2
      clear hB hw1 hb1 hw2 hx
      go_wp2
      go_loopw [4, 5, 6, 18] (fun a1 a2 a3 i wr => ∃ k : Nat, ∃ p : Int × Int × Int, k ≤ D.k ∧ i = .int .i64 k ∧ a1 = .int .i64 p.1 ∧ a2 = .int .i64 p.2.1 ∧ a3 = .int .i64 p.2.2 ∧ Hid (outB D p (D.k - k) k = outB D (-1, -1, -1) D.k 0) ∧ Hid (BestOk D p) ∧ Hid (Below w1.heap.size w1 wr)) (fun _ _ _ i _ => D.k - (intOf i).toNat)
      case atStart => exact ⟨0, (-1, -1, -1), by omega, rfl, rfl, rfl, rfl, rfl, .inl ⟨by decide, by decide⟩, Below.refl _ _⟩
      case round =>
        clear y0
        obtain ⟨k, p, hk, rfl, rfl, rfl, rfl, HO, HP, HBEL⟩ := hrel
        by_cases hlt : k < D.k
        · have hltz : (k : Int) < D.s := by have := HSK.out; omega
          have HO' : Hid (outB D (inB D k p (D.k - (k + 1)) (k + 1)) (D.k - (k + 1)) (k + 1) = outB D (-1, -1, -1) D.k 0) := by
            have h := HO.out
            rw [show D.k - k = D.k - (k + 1) + 1 by omega] at h
            exact h
          clear HO
          have hwr : wrap64 ((k : Int) + 1) = ((k + 1 : Nat) : Int) := by unfold wrap64; omega
          go_wp2
          go_loopw [4, 5, 6, 8] (fun a1 a2 a3 i wr => ∃ b : Nat, ∃ p' : Int × Int × Int, b ≤ D.k ∧ k + 1 ≤ b ∧ i = .int .i64 b ∧ a1 = .int .i64 p'.1 ∧ a2 = .int .i64 p'.2.1 ∧ a3 = .int .i64 p'.2.2 ∧ Hid (inB D k p' (D.k - b) b = inB D k p (D.k - (k + 1)) (k + 1)) ∧ Hid (BestOk D p') ∧ Hid (Below w1.heap.size w1 wr)) (fun _ _ _ i _ => D.k - (intOf i).toNat)
          case atStart => exact ⟨k + 1, p, by omega, by omega, by go_num, rfl, rfl, rfl, rfl, HP, HBEL⟩
          case round =>
            clear HP HBEL
            obtain ⟨b, p', hb, hkb, rfl, rfl, rfl, rfl, HI, HP, HBEL⟩ := hrel
            have hB2 := hB1.out.below HBEL.out
            have z0 := hB2.cell (i := 0) rfl
            have z1 := hB2.cell (i := 1) rfl
            have z2 := hB2.cell (i := 2) rfl
            clear hB2
            by_cases hlb : b < D.k
            · have hlbz : (b : Int) < D.s := by have := HSK.out; omega
              have HI' : Hid (inB D k (if 0 ≤ lo2 D k b ∧ (p'.2.2 < 0 ∨ lo2 D k b < p'.2.2) then ((k : Int), (b : Int), lo2 D k b) else p') (D.k - (b + 1)) (b + 1) = inB D k p (D.k - (k + 1)) (k + 1)) := by
                have h := HI.out
                rw [show D.k - b = D.k - (b + 1) + 1 by omega] at h
                exact h
              have HP' := hid (HP.out.step k b)
              clear HI
              go_wp2_with fail
              refine (show Calls _ _ _ _ (RetV (.int .i64 (lo2 D k b)) _) from LastOut_impl P Q D c d _ 2 _ (two k b) _ ((HX.out.below HBEL.out).alloc _) hs (two_ints _ _ _ _) (by omega)).mono ?_
              rintro e w2 ⟨rfl, hb2⟩
              have HB3 := hid (HBEL.out.trans ((below_alloc1 _ _).trans (hb2.mono (by simp)) |>.mono HBEL.out.size))
              clear z0 z1 z2 hb2
              have hwb : wrap64 ((b : Int) + 1) = ((b + 1 : Nat) : Int) := by unfold wrap64; omega
              by_cases h1 : 0 ≤ lo2 D k b
              · by_cases h2 : p'.2.2 < 0
                · have HC : Hid (0 ≤ lo2 D k b ∧ (p'.2.2 < 0 ∨ lo2 D k b < p'.2.2)) := ⟨h1, .inl h2⟩
                  go_wp2
                  go_roundw
                  case rel => exact ⟨b + 1, ((k : Int), (b : Int), lo2 D k b), by omega, by omega, by go_num, rfl, rfl, rfl, (by have h := HI'.out; rw [if_pos HC.out] at h; exact h), (by have h := HP'.out; rw [if_pos HC.out] at h; exact h), HB3⟩
                  case measure => simp [intOf] <;> omega
                · by_cases h3 : lo2 D k b < p'.2.2
                  · have HC : Hid (0 ≤ lo2 D k b ∧ (p'.2.2 < 0 ∨ lo2 D k b < p'.2.2)) := ⟨h1, .inr h3⟩
                    go_wp2
                    go_roundw
                    case rel => exact ⟨b + 1, ((k : Int), (b : Int), lo2 D k b), by omega, by omega, by go_num, rfl, rfl, rfl, (by have h := HI'.out; rw [if_pos HC.out] at h; exact h), (by have h := HP'.out; rw [if_pos HC.out] at h; exact h), HB3⟩
                    case measure => simp [intOf] <;> omega
                  · have HC : Hid (¬ (0 ≤ lo2 D k b ∧ (p'.2.2 < 0 ∨ lo2 D k b < p'.2.2))) := fun h => h.2.elim h2 h3
                    go_wp2
                    go_roundw
                    case rel => exact ⟨b + 1, p', by omega, by omega, by go_num, rfl, rfl, rfl, (by have h := HI'.out; rw [if_neg HC.out] at h; exact h), (by have h := HP'.out; rw [if_neg HC.out] at h; exact h), HB3⟩
                    case measure => simp [intOf] <;> omega
              · have HC : Hid (¬ (0 ≤ lo2 D k b ∧ (p'.2.2 < 0 ∨ lo2 D k b < p'.2.2))) := fun h => h1 h.1
                go_wp2
                go_roundw
                case rel => exact ⟨b + 1, p', by omega, by omega, by go_num, rfl, rfl, rfl, (by have h := HI'.out; rw [if_neg HC.out] at h; exact h), (by have h := HP'.out; rw [if_neg HC.out] at h; exact h), HB3⟩
                case measure => simp [intOf] <;> omega
            · have : b = D.k := by omega
              subst this
              have hnl : ¬ (D.k : Int) < D.s := by have := HSK.out; omega
              have HI2 : Hid (p' = inB D k p (D.k - (k + 1)) (k + 1)) := by
                have h := HI.out
                rw [Nat.sub_self] at h
                exact h
              go_wp2
              go_roundw
              case rel => exact ⟨k + 1, p', by omega, by go_num, rfl, rfl, rfl, by have h := HO'.out; rw [← HI2.out] at h; exact h, HP, HBEL⟩
              case measure => simp [intOf] <;> omega
        · have : k = D.k := by omega
          subst this
          have hnl : ¬ (D.k : Int) < D.s := by have := HSK.out; omega
          have HO2 : Hid (p = outB D (-1, -1, -1) D.k 0) := by
            have h := HO.out
            rw [Nat.sub_self] at h
            exact h
          go_wp2
          go_ret2
          rw [HE.out, ← HO2.out]
          exact ⟨rfl, Below.then_ HW2.out HBEL.out⟩
  · have HOK := hid hok
    clear hok
    have HE : Hid (bestF D = (-1, -1)) := by show _ = _; unfold bestF; rw [if_neg HOK.out]
    go_enter Tryd.func38, Tryd.ntmps38
    go_wp2_with fail
    refine (RetB.no (SearchValid_impl P Q D c d _ (hx.below hw1) hs) HOK.out).mono ?_
    rintro e w1 ⟨rfl, hb1⟩
    go_wp2
    go_ret2
    rw [HE.out]
    exact ⟨rfl, Below.then_ hw1 hb1⟩
end Go.Proofs.YtlhcjbgcgbeocaaDoor
