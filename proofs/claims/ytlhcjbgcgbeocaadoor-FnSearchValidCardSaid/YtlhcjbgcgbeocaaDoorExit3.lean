/- The reference's ExitNear. Lists are at most 2^20 long. -/
import Derived.Test.YtlhcjbgcgbeocaaDoorExit2
namespace Go.Proofs.YtlhcjbgcgbeocaaDoor
open Go.RowKit

set_option maxHeartbeats 1600000 in
theorem ExitNear_spec (P Q : Option Addr) (D : SrchD) (c d : Nat) (f : Int) (A : Option Addr) (n cc : Nat) (x : Nat → Int) (w : World) (hx : SrchAt w P Q D) (hs : SrchSmall D) (hi : Ints w A n x) (hn : n ≤ 1048576) :
    Calls Tryd.prog 22 #[.agg #[.int .i64 D.s, .slice P D.m c, .slice Q D.k d], .int .i64 f, .slice A n cc] w (RetP (nearF D f x n).1 (nearF D f x n).2 w) := by
  have hw1 := below_alloc1 w (.cells #[.int .i64 D.s, .slice P D.m c, .slice Q D.k d] 26)
  have hB := Blk.new w 26 #[.int .i64 D.s, .slice P D.m c, .slice Q D.k d]
  by_cases hok : SrchOk D ∧ 0 ≤ f ∧ f < D.s
  · have HOK := hid hok
    have hws := wrap_s hok.1.1.1 hok.1.1.2
    clear hok
    go_enter Tryd.func22, Tryd.ntmps22
    go_wp2_with fail
    refine (WalkTime_specV P Q D c d f f _ (hx.below hw1) hs).mono ?_
    rintro e w1 ⟨rfl, hb1⟩
    have hzero := wtF_same HOK.out.1 HOK.out.2
    have hB1 := hid (hB.below hb1)
    have hw2 := Below.then_ hw1 hb1
    have HX := hid (hx.below hw2)
    have HW2 := hid hw2
    have HI := hid (hi.below hw2)
    clear hB hw1 hb1 hw2 hx hi
    rw [hzero]
    clear hzero
    go_wp2
    go_loopw [8, 9, 10] (fun a b i wr => ∃ k : Nat, k ≤ n ∧ i = .int .i64 k ∧ a = .int .i64 (nearK (fun j => wtF D f (x j)) x k).1 ∧ b = .int .i64 (nearK (fun j => wtF D f (x j)) x k).2 ∧ Hid (∀ j, j < k → 0 ≤ x j ∧ x j < D.s) ∧ Hid (Below w1.heap.size w1 wr)) (fun _ _ i _ => n - (intOf i).toNat)
    case atStart => exact ⟨0, by omega, rfl, rfl, rfl, fun j hj => absurd hj (by omega), Below.refl _ _⟩
    case round =>
      obtain ⟨k, hk, rfl, rfl, rfl, HT, HBEL⟩ := hrel
      have hB2 := hB1.out.below HBEL.out
      have z0 := hB2.cell (i := 0) rfl
      have z1 := hB2.cell (i := 1) rfl
      have z2 := hB2.cell (i := 2) rfl
      have s1 := sub_cell z0
      have s2 := sub_cell z1
      have s3 := sub_cell z2
      clear hB2
      by_cases hlt : k < n
      · obtain ⟨b, o, rfl, hc⟩ := (HI.out.below HBEL.out) (by omega)
        have a1 : wr.cell? ⟨b, o + k, none⟩ = some (.int .i64 (x k)) := hc k hlt
        have s0 := sub_cell a1
        have hltz : (k : Int) < (n : Int) := by omega
        clear hc
        by_cases ht : 0 ≤ x k ∧ x k ≤ D.s - 1
        · obtain ⟨ht1, ht2⟩ := ht
          have HNK := hid (fun hall : ∀ j, j < k → 0 ≤ x j => nearK_neg (fun j => wtF D f (x j)) x hall k (Nat.le_refl _))
          have HST : Hid (nearK (fun j => wtF D f (x j)) x (k + 1) = if 0 ≤ wtF D f (x k) ∧ ((nearK (fun j => wtF D f (x j)) x k).2 < 0 ∨ wtF D f (x k) < (nearK (fun j => wtF D f (x j)) x k).2) then (x k, wtF D f (x k)) else nearK (fun j => wtF D f (x j)) x k) := by
            show _ = _
            rw [nearK]
          have HT2 : Hid (∀ j, j < k + 1 → 0 ≤ x j ∧ x j < D.s) := fun j hj => by
            by_cases e : j = k
            · subst e; exact ⟨ht1, by omega⟩
            · exact HT.out j (by omega)
          clear HNK
          generalize nearK (fun j => wtF D f (x j)) x k = p at HST ⊢
          by_cases h1 : 0 ≤ wtF D f (x k)
          · by_cases h2 : p.2 < 0
            · have HC : Hid (0 ≤ wtF D f (x k) ∧ (p.2 < 0 ∨ wtF D f (x k) < p.2)) := ⟨h1, .inl h2⟩
              go_wp2
              refine wp_region_sub (by kernel_rfl) (by kernel_rfl) ?_
              repeat (go_big_quiet_step ((go_at_call 49; exact RetS.sub (l1In_y (x k) 0 (D.s - 1) _ ht1 ht2))))
              refine wpQuiet_nil ?_
              intro _ hw'
              obtain ⟨s, hw''⟩ := hw'
              subst hw''
              have hsv := s.h
              generalize s.val = v at hsv ⊢
              clear s0 s1 s2 s3
              have s0 := sub_cell (cell_below hsv a1)
              have s1 := sub_cell (cell_below hsv z0)
              have s2 := sub_cell (cell_below hsv z1)
              have s3 := sub_cell (cell_below hsv z2)
              have hbv := Below.then_ HBEL.out hsv
              have HXS : ∀ s : Sub v, SrchAt s.val P Q D := fun s => (HX.out.below hbv).below s.h
              have HXV := hid HXS
              clear HXS
              go_wp2
              refine wp_region_sub (by kernel_rfl) (by kernel_rfl) ?_
              repeat (go_big_quiet_step ((go_at_call 19; exact RetV.sub (WalkTime_specV P Q D c d f (x k) _ (HXV.out _) hs))))
              refine wpQuiet_nil ?_
              intro _ hw'
              obtain ⟨s, hw''⟩ := hw'
              subst hw''
              have hsu := s.h
              generalize s.val = u at hsu ⊢
              have HBU := hid (Below.then_ hbv hsu)
              have a2 := cell_below hsu (cell_below hsv a1)
              clear s0 s1 s2 s3 hsv hsu hbv
              go_wp2
              go_roundw
              case rel => exact ⟨k + 1, by omega, by go_num, by rw [HST.out, if_pos HC.out], by rw [HST.out, if_pos HC.out], HT2, HBU⟩
              case measure => simp [intOf] <;> omega
            · by_cases h3 : wtF D f (x k) < p.2
              · have HC : Hid (0 ≤ wtF D f (x k) ∧ (p.2 < 0 ∨ wtF D f (x k) < p.2)) := ⟨h1, .inr h3⟩
                go_wp2
                refine wp_region_sub (by kernel_rfl) (by kernel_rfl) ?_
                repeat (go_big_quiet_step ((go_at_call 49; exact RetS.sub (l1In_y (x k) 0 (D.s - 1) _ ht1 ht2))))
                refine wpQuiet_nil ?_
                intro _ hw'
                obtain ⟨s, hw''⟩ := hw'
                subst hw''
                have hsv := s.h
                generalize s.val = v at hsv ⊢
                clear s0 s1 s2 s3
                have s0 := sub_cell (cell_below hsv a1)
                have s1 := sub_cell (cell_below hsv z0)
                have s2 := sub_cell (cell_below hsv z1)
                have s3 := sub_cell (cell_below hsv z2)
                have hbv := Below.then_ HBEL.out hsv
                have HXS : ∀ s : Sub v, SrchAt s.val P Q D := fun s => (HX.out.below hbv).below s.h
                have HXV := hid HXS
                clear HXS
                go_wp2
                refine wp_region_sub (by kernel_rfl) (by kernel_rfl) ?_
                repeat (go_big_quiet_step ((go_at_call 19; exact RetV.sub (WalkTime_specV P Q D c d f (x k) _ (HXV.out _) hs))))
                refine wpQuiet_nil ?_
                intro _ hw'
                obtain ⟨s, hw''⟩ := hw'
                subst hw''
                have hsu := s.h
                generalize s.val = u at hsu ⊢
                have HBU := hid (Below.then_ hbv hsu)
                have a2 := cell_below hsu (cell_below hsv a1)
                clear s0 s1 s2 s3 hsv hsu hbv
                go_wp2
                go_roundw
                case rel => exact ⟨k + 1, by omega, by go_num, by rw [HST.out, if_pos HC.out], by rw [HST.out, if_pos HC.out], HT2, HBU⟩
                case measure => simp [intOf] <;> omega
              · have HC : Hid (¬ (0 ≤ wtF D f (x k) ∧ (p.2 < 0 ∨ wtF D f (x k) < p.2))) := fun h => h.2.elim h2 h3
                go_wp2
                refine wp_region_sub (by kernel_rfl) (by kernel_rfl) ?_
                repeat (go_big_quiet_step ((go_at_call 49; exact RetS.sub (l1In_y (x k) 0 (D.s - 1) _ ht1 ht2))))
                refine wpQuiet_nil ?_
                intro _ hw'
                obtain ⟨s, hw''⟩ := hw'
                subst hw''
                have hsv := s.h
                generalize s.val = v at hsv ⊢
                clear s0 s1 s2 s3
                have s0 := sub_cell (cell_below hsv a1)
                have s1 := sub_cell (cell_below hsv z0)
                have s2 := sub_cell (cell_below hsv z1)
                have s3 := sub_cell (cell_below hsv z2)
                have hbv := Below.then_ HBEL.out hsv
                have HXS : ∀ s : Sub v, SrchAt s.val P Q D := fun s => (HX.out.below hbv).below s.h
                have HXV := hid HXS
                clear HXS
                go_wp2
                refine wp_region_sub (by kernel_rfl) (by kernel_rfl) ?_
                repeat (go_big_quiet_step ((go_at_call 19; exact RetV.sub (WalkTime_specV P Q D c d f (x k) _ (HXV.out _) hs))))
                refine wpQuiet_nil ?_
                intro _ hw'
                obtain ⟨s, hw''⟩ := hw'
                subst hw''
                have hsu := s.h
                generalize s.val = u at hsu ⊢
                have HBU := hid (Below.then_ hbv hsu)
                have a2 := cell_below hsu (cell_below hsv a1)
                clear s0 s1 s2 s3 hsv hsu hbv
                go_wp2
                go_roundw
                case rel => exact ⟨k + 1, by omega, by go_num, by rw [HST.out, if_neg HC.out], by rw [HST.out, if_neg HC.out], HT2, HBU⟩
                case measure => simp [intOf] <;> omega
          · have HC : Hid (¬ (0 ≤ wtF D f (x k) ∧ (p.2 < 0 ∨ wtF D f (x k) < p.2))) := fun h => h1 h.1
            go_wp2
            refine wp_region_sub (by kernel_rfl) (by kernel_rfl) ?_
            repeat (go_big_quiet_step ((go_at_call 49; exact RetS.sub (l1In_y (x k) 0 (D.s - 1) _ ht1 ht2))))
            refine wpQuiet_nil ?_
            intro _ hw'
            obtain ⟨s, hw''⟩ := hw'
            subst hw''
            have hsv := s.h
            generalize s.val = v at hsv ⊢
            clear s0 s1 s2 s3
            have s0 := sub_cell (cell_below hsv a1)
            have s1 := sub_cell (cell_below hsv z0)
            have s2 := sub_cell (cell_below hsv z1)
            have s3 := sub_cell (cell_below hsv z2)
            have hbv := Below.then_ HBEL.out hsv
            have HXS : ∀ s : Sub v, SrchAt s.val P Q D := fun s => (HX.out.below hbv).below s.h
            have HXV := hid HXS
            clear HXS
            go_wp2
            refine wp_region_sub (by kernel_rfl) (by kernel_rfl) ?_
            repeat (go_big_quiet_step ((go_at_call 19; exact RetV.sub (WalkTime_specV P Q D c d f (x k) _ (HXV.out _) hs))))
            refine wpQuiet_nil ?_
            intro _ hw'
            obtain ⟨s, hw''⟩ := hw'
            subst hw''
            have hsu := s.h
            generalize s.val = u at hsu ⊢
            have HBU := hid (Below.then_ hbv hsu)
            have a2 := cell_below hsu (cell_below hsv a1)
            clear s0 s1 s2 s3 hsv hsu hbv
            go_wp2
            go_roundw
            case rel => exact ⟨k + 1, by omega, by go_num, by rw [HST.out, if_neg HC.out], by rw [HST.out, if_neg HC.out], HT2, HBU⟩
            case measure => simp [intOf] <;> omega
        · have HTN := hid ht
          clear ht
          have HE := hid (nearF_bad (D := D) (f := f) (x := x) (n := n) (fun h => HTN.out (by have := h.2.2 k hlt; omega)))
          go_wp2
          refine wp_region_sub (by kernel_rfl) (by kernel_rfl) ?_
          repeat (go_big_quiet_step ((go_at_call 49; exact RetS.sub (l1In_n (x k) 0 (D.s - 1) _ HTN.out))))
          refine wpQuiet_nil ?_
          intro _ hw'
          obtain ⟨s, hw''⟩ := hw'
          subst hw''
          go_wp2
          go_ret2
          rw [HE.out]
          exact ⟨rfl, Below.then_ HW2.out (HBEL.out.trans (s.h.mono HBEL.out.size))⟩
      · have : k = n := by omega
        subst this
        have HE := hid (nearF_ok ⟨HOK.out.1, HOK.out.2, HT.out⟩)
        go_wp2
        go_ret2
        rw [HE.out]
        exact ⟨rfl, Below.then_ HW2.out HBEL.out⟩
  · have hneg := wtF_self.2 hok
    have HOK := hid hok
    clear hok
    have HE := hid (nearF_bad (f := f) (x := x) (n := n) (fun h => HOK.out ⟨h.1, h.2.1⟩))
    go_enter Tryd.func22, Tryd.ntmps22
    go_wp2_with fail
    refine (WalkTime_specV P Q D c d f f _ (hx.below hw1) hs).mono ?_
    rintro e w1 ⟨rfl, hb1⟩
    go_wp2
    go_ret2
    rw [HE.out]
    exact ⟨rfl, Below.then_ hw1 hb1⟩
end Go.Proofs.YtlhcjbgcgbeocaaDoor
