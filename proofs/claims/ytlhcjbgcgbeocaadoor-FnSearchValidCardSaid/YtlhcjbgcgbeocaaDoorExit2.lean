/- The two ExitNear. Lists are at most 2^20 long. -/
import Derived.Test.YtlhcjbgcgbeocaaDoorExit
namespace Go.Proofs.YtlhcjbgcgbeocaaDoor
open Go.RowKit

theorem nearF_ok {D : SrchD} {f : Int} {x : Nat → Int} {n : Nat} (h : SrchOk D ∧ (0 ≤ f ∧ f < D.s) ∧ ∀ j, j < n → 0 ≤ x j ∧ x j < D.s) : nearF D f x n = nearK (fun j => wtF D f (x j)) x n := by unfold nearF; rw [if_pos h]
theorem nearF_bad {D : SrchD} {f : Int} {x : Nat → Int} {n : Nat} (h : ¬ (SrchOk D ∧ (0 ≤ f ∧ f < D.s) ∧ ∀ j, j < n → 0 ≤ x j ∧ x j < D.s)) : nearF D f x n = (-1, -1) := by unfold nearF; rw [if_neg h]

set_option maxHeartbeats 1600000 in
theorem ExitNear_impl (P Q : Option Addr) (D : SrchD) (c d : Nat) (f : Int) (A : Option Addr) (n cc : Nat) (x : Nat → Int) (w : World) (hx : SrchAt w P Q D) (hs : SrchSmall D) (hi : Ints w A n x) (hn : n ≤ 1048576) :
    Calls Tryd.prog 21 #[.agg #[.int .i64 D.s, .slice P D.m c, .slice Q D.k d], .int .i64 f, .slice A n cc] w (RetP (nearF D f x n).1 (nearF D f x n).2 w) := by
  have hw1 := below_alloc1 w (.cells #[.int .i64 D.s, .slice P D.m c, .slice Q D.k d] 26)
  have hB := Blk.new w 26 #[.int .i64 D.s, .slice P D.m c, .slice Q D.k d]
  by_cases hok : SrchOk D
  · have HOK := hid hok
    clear hok
    go_enter Tryd.func21, Tryd.ntmps21
    go_wp2_with fail
    refine (RetB.yes (SearchValid_impl P Q D c d _ (hx.below hw1) hs) HOK.out).mono ?_
    rintro e w1 ⟨rfl, hb1⟩
    have hB1 := hB.below hb1
    have y0 := hB1.cell (i := 0) rfl
    have y1 := hB1.cell (i := 1) rfl
    have y2 := hB1.cell (i := 2) rfl
    have hw2 := Below.then_ hw1 hb1
    have HX := hid (hx.below hw2)
    have HW2 := hid hw2
    have HI := hid (hi.below hw2)
    clear hB hB1 hw1 hb1 hw2 hx hi
    by_cases hf : 0 ≤ f ∧ f < D.s
    · obtain ⟨hf1, hf2⟩ := hf
      by_cases ht : ∀ j, j < n → 0 ≤ x j ∧ x j < D.s
      · have HT := hid ht
        clear ht
        obtain ⟨y, rfl⟩ := Int.eq_ofNat_of_zero_le hf1
        have hsk := HOK.out.2.2.1
        have ly : y < D.k := by omega
        have HSK := hid hsk
        clear hsk
        go_wp2_with (first | (go_at_call 48; refine (isIndex_y (y : Int) _ _ hf1 hf2).mono ?_; rintro e w' ⟨rfl, rfl⟩) | (go_at_call 55; refine (RetBS.yes (areIndices_any A n cc x D.s _ HI.out hn) HT.out).mono ?_; rintro e w' ⟨rfl, rfl⟩))
        refine (walkTimes_any P Q D c d _ HX.out HOK.out).mono ?_
        rintro e w2 ⟨g, r, T, rfl, hT, hD, hg, hb2⟩
        have s1 := hT.row ly ly
        have HTT := hid hT
        have HD := hid hD
        have lyz : (y : Int) < (D.k : Int) := by omega
        have HI2 := hid (HI.out.below hb2)
        have HW3 := hid (Below.then_ HW2.out hb2)
        have hq : ∀ j, j < n → wtF D y (x j) = T y (x j).toNat := fun j hj => (wtF_spec D y (x j)).uniq (.inl ⟨HOK.out, ⟨hf1, hf2⟩, HT.out j hj, by
          have := HT.out j hj
          have := HSK.out
          rw [Int.toNat_natCast]; exact HD.out y _ ly (by omega)⟩)
        have HQ := hid hq
        have HE := hid (nearF_ok ⟨HOK.out, ⟨hf1, hf2⟩, HT.out⟩)
        clear hT hD hq hb2 y0 y1 y2
        go_wp2
        go_loop [9, 10, 38] (fun a b i => ∃ k : Nat, k ≤ n ∧ i = .int .i64 k ∧ a = .int .i64 (nearK (fun j => wtF D y (x j)) x k).1 ∧ b = .int .i64 (nearK (fun j => wtF D y (x j)) x k).2) (fun _ _ i => n - (intOf i).toNat)
        case atStart => exact ⟨0, by omega, rfl, rfl, rfl⟩
        case round =>
          obtain ⟨k, hk, rfl, rfl, rfl⟩ := hrel
          by_cases hlt : k < n
          · obtain ⟨b, o, rfl, hc⟩ := HI2.out (by omega)
            have a1 : w2.cell? ⟨b, o + k, none⟩ = some (.int .i64 (x k)) := hc k hlt
            have hltz : (k : Int) < (n : Int) := by omega
            have ht := HT.out k hlt
            obtain ⟨z, hz⟩ := Int.eq_ofNat_of_zero_le ht.1
            rw [hz] at a1
            have lz : z < D.k := by have := HSK.out; omega
            have lzz : (z : Int) < (D.k : Int) := by omega
            have s2 := HTT.out.cell ly lz
            have hqk := HQ.out k hlt
            rw [hz, Int.toNat_natCast] at hqk
            have HNK := hid (nearK_neg (fun j => wtF D y (x j)) x (fun j hj => (HT.out j hj).1) k hk)
            have HST : Hid (nearK (fun j => wtF D y (x j)) x (k + 1) = if 0 ≤ T y z ∧ ((nearK (fun j => wtF D y (x j)) x k).2 < 0 ∨ T y z < (nearK (fun j => wtF D y (x j)) x k).2) then ((z : Int), T y z) else nearK (fun j => wtF D y (x j)) x k) := by
              show _ = _
              rw [nearK, hz, hqk]
            clear hc ht hz hqk
            generalize nearK (fun j => wtF D y (x j)) x k = p at HNK HST ⊢
            by_cases h1 : 0 ≤ T y z
            · by_cases h2 : p.1 < 0
              · have HC : Hid (0 ≤ T y z ∧ (p.2 < 0 ∨ T y z < p.2)) := ⟨h1, .inl (HNK.out.1 h2)⟩
                go_wp2
                go_round
                case rel => exact ⟨k + 1, by omega, by go_num, by rw [HST.out, if_pos HC.out], by rw [HST.out, if_pos HC.out]⟩
                case measure => simp [intOf] <;> omega
              · by_cases h3 : T y z < p.2
                · have HC : Hid (0 ≤ T y z ∧ (p.2 < 0 ∨ T y z < p.2)) := ⟨h1, .inr h3⟩
                  go_wp2
                  go_round
                  case rel => exact ⟨k + 1, by omega, by go_num, by rw [HST.out, if_pos HC.out], by rw [HST.out, if_pos HC.out]⟩
                  case measure => simp [intOf] <;> omega
                · have HC : Hid (¬ (0 ≤ T y z ∧ (p.2 < 0 ∨ T y z < p.2))) := fun h => h.2.elim (fun h => h2 (HNK.out.2 h)) h3
                  go_wp2
                  go_round
                  case rel => exact ⟨k + 1, by omega, by go_num, by rw [HST.out, if_neg HC.out], by rw [HST.out, if_neg HC.out]⟩
                  case measure => simp [intOf] <;> omega
            · have HC : Hid (¬ (0 ≤ T y z ∧ (p.2 < 0 ∨ T y z < p.2))) := fun h => h1 h.1
              go_wp2
              go_round
              case rel => exact ⟨k + 1, by omega, by go_num, by rw [HST.out, if_neg HC.out], by rw [HST.out, if_neg HC.out]⟩
              case measure => simp [intOf] <;> omega
          · have : k = n := by omega
            subst this
            go_wp2
            go_ret2
            rw [HE.out]
            exact ⟨rfl, HW3.out⟩
      · have HT := hid ht
        clear ht
        have HE := hid (nearF_bad (f := f) (fun h => HT.out h.2.2))
        go_wp2_with (first | (go_at_call 48; refine (isIndex_y f _ _ hf1 hf2).mono ?_; rintro e w' ⟨rfl, rfl⟩) | (go_at_call 55; refine (RetBS.no (areIndices_any A n cc x D.s _ HI.out hn) HT.out).mono ?_; rintro e w' ⟨rfl, rfl⟩))
        go_ret2
        rw [HE.out]
        exact ⟨rfl, HW2.out⟩
    · have HF := hid hf
      clear hf
      have HE := hid (nearF_bad (x := x) (n := n) (fun h => HF.out h.2.1))
      go_wp2_with (go_at_call 48; refine (isIndex_n f _ _ HF.out).mono ?_; rintro e w' ⟨rfl, rfl⟩)
      go_ret2
      rw [HE.out]
      exact ⟨rfl, HW2.out⟩
  · have HOK := hid hok
    clear hok
    have HE := hid (nearF_bad (f := f) (x := x) (n := n) (fun h => HOK.out h.1))
    go_enter Tryd.func21, Tryd.ntmps21
    go_wp2_with fail
    refine (RetB.no (SearchValid_impl P Q D c d _ (hx.below hw1) hs) HOK.out).mono ?_
    rintro e w1 ⟨rfl, hb1⟩
    go_wp2
    go_ret2
    rw [HE.out]
    exact ⟨rfl, Below.then_ hw1 hb1⟩
end Go.Proofs.YtlhcjbgcgbeocaaDoor
