/- The program's RouteTime. Lists are at most 2^20 long. -/
import Derived.Test.YtlhcjbgcgbeocaaDoorFnR
import Derived.Test.YtlhcjbgcgbeocaaDoorResc1
import Derived.OwnWalk
namespace Go.Proofs.YtlhcjbgcgbeocaaDoor
open Go.RowKit

def rr1 (o : Option (Int × Int)) : Int := match o with | none => 0 | some p => p.1
def rr2 (o : Option (Int × Int)) : Int := match o with | none => 0 | some p => p.2
def rr3 (o : Option (Int × Int)) : Bool := match o with | none => false | some _ => true
/-- The three results of RouteTime. -/
def rrV (o : Option (Int × Int)) : Value := .tuple #[.int .i64 (rr1 o), .int .i64 (rr2 o), .bool (rr3 o)]
theorem rrV_none {o : Option (Int × Int)} (h : o = none) : (.tuple #[.int .i64 0, .int .i64 0, .bool false] : Value) = rrV o := by rw [h]; rfl
theorem rrV_some {o : Option (Int × Int)} {m a : Int} (h : o = some (m, a)) : (.tuple #[.int .i64 m, .int .i64 a, .bool true] : Value) = rrV o := by rw [h]; rfl

/-- Before place k of the route. -/
def RoSt (D : SrchD) (br : Int) (x : Nat → Int) (k : Nat) (m a : Int) : Prop := (k = 0 ∧ m = 0 ∧ a = br) ∨ (0 < k ∧ routeK D br x (k - 1) = some (m, a))
theorem RoSt.bd {D : SrchD} {br : Int} {x : Nat → Int} {k : Nat} {m a : Int} (hb : 0 ≤ br) (h : RoSt D br x k m a) (hk : k ≤ 1048576) : 0 ≤ m ∧ m ≤ 20971520 ∧ 0 ≤ a ∧ a ≤ br := by
  rcases h with ⟨h1, h2, h3⟩ | ⟨h1, h2⟩
  · omega
  · have := routeK_bd hb _ _ _ h2; omega
theorem RoSt.first {D : SrchD} {br : Int} {x : Nat → Int} {m a : Int} (h : RoSt D br x 0 m a) : RoSt D br x 1 m br ∧ a = br := by
  rcases h with ⟨h1, h2, h3⟩ | ⟨h1, h2⟩
  · exact ⟨.inr ⟨by omega, by subst h2; rfl⟩, h3⟩
  · omega
theorem RoSt.on {D : SrchD} {br : Int} {x : Nat → Int} {k : Nat} {m a t : Int} (h : RoSt D br x k m a) (hk : 0 < k) (ht : mI D (x (k - 1)) (x k) = t) (h0 : 0 ≤ t) (hle : t ≤ a) : RoSt D br x (k + 1) (m + t) (if D.dep (x k).toNat = true then br else a - t) := by
  rcases h with ⟨h1, h2, h3⟩ | ⟨h1, h2⟩
  · omega
  · have := routeK_some h2 (by rw [show k - 1 + 1 = k by omega, ht]; exact h0) (by rw [show k - 1 + 1 = k by omega, ht]; exact hle)
    rw [show k - 1 + 1 = k by omega, ht] at this
    exact .inr ⟨by omega, by rw [show k + 1 - 1 = k by omega]; exact this⟩
theorem RoSt.stop {D : SrchD} {br : Int} {x : Nat → Int} {k n : Nat} {m a t : Int} (h : RoSt D br x k m a) (hk : 0 < k) (hn : k < n) (ht : mI D (x (k - 1)) (x k) = t) (hno : t < 0 ∨ a < t) : routeK D br x (n - 1) = none := by
  rcases h with ⟨h1, h2, h3⟩ | ⟨h1, h2⟩
  · omega
  · have := routeK_stop h2 (by rw [show k - 1 + 1 = k by omega, ht]; exact hno)
    exact routeK_up this _ (by omega)

set_option maxRecDepth 20000 in
set_option maxHeartbeats 4000000 in
theorem RouteTime_impl (P Q : Option Addr) (D : SrchD) (c d : Nat) (br : Int) (A : Option Addr) (n cc : Nat) (x : Nat → Int) (w : World) (hx : SrchAt w P Q D) (hs : SrchSmall D) (hi : Ints w A n x) (hn : n ≤ 1048576) :
    Calls Tryd.prog 35 #[.agg #[.int .i64 D.s, .slice P D.m c, .slice Q D.k d], .int .i64 br, .slice A n cc] w (RetV (rrV (routeF D br x n)) w) := by
  have hw1 := hid (below_alloc1 w (.cells #[.int .i64 D.s, .slice P D.m c, .slice Q D.k d] 26))
  have hB := hid (Blk.new w 26 #[.int .i64 D.s, .slice P D.m c, .slice Q D.k d])
  have HX := hid hx
  have HI := hid hi
  clear hx hi
  by_cases hok : SrchOk D ∧ 1 ≤ br ∧ br ≤ 60
  · have HOK := hid hok
    obtain ⟨_, hb1, hb60⟩ := hok
    go_enter Tryd.func35, Tryd.ntmps35
    go_wp2_with fail
    refine (RetB.yes (rescueFits_any P Q D c d br _ (HX.out.below hw1.out) hs) HOK.out).mono ?_
    rintro e w1 ⟨rfl, hq1⟩
    have hB1 := hid (hB.out.below hq1)
    have HW1 := hid (Below.then_ hw1.out hq1)
    have y0 := hB1.out.cell (i := 0) rfl
    have y1 := hB1.out.cell (i := 1) rfl
    have y2 := hB1.out.cell (i := 2) rfl
    clear hB hw1 hq1
    by_cases hn0 : n = 0
    · have HN : Hid (routeF D br x n = none) := routeF_bad fun h => by omega
      have hn0z : ((n : Int) == 0) = true := by simp [hn0]
      have HWX := HW1
      clear hn0
      go_wp2
      go_ret3
      exact ⟨by rw [← rrV_none HN.out]; rfl, HWX.out⟩
    · have hn0z : ((n : Int) == 0) = false := by simp; omega
      by_cases hall : ∀ j, j < n → 0 ≤ x j ∧ x j < D.s
      · have HALL := hid hall
        clear hall
        go_wp2_with (go_at_call 55; refine (RetBS.yes (areIndices_any A n cc x D.s _ (HI.out.below HW1.out) hn) HALL.out).mono ?_; rintro e w' ⟨rfl, rfl⟩)
        refine (passageTimes_any P Q D c d _ (HX.out.below HW1.out) HOK.out.1).mono ?_
        rintro e w2 ⟨g, r, T, rfl, hT, hP, hg, hb2⟩
        have HT := hid hT
        have HM : Hid (∀ p q, p < D.k → q < D.k → mI D (p : Int) (q : Int) = T p q) := fun p q hp hq => by
          have hsk := HOK.out.1.2.2.1
          have h1 := mI_spec HOK.out.1 (a := (p : Int)) (b := (q : Int)) (by omega) (by omega)
          rw [Int.toNat_natCast, Int.toNat_natCast] at h1
          exact h1.uniq (hP.min hp hq)
        have HW2 := hid (Below.then_ HW1.out hb2)
        have hB2 := hid (hB1.out.below hb2)
        clear hT hP hg hb2 y0 y1 y2 hB1
        have HF : Hid (routeF D br x n = routeK D br x (n - 1)) := routeF_ok ⟨HOK.out.1, HOK.out.2, by omega, HALL.out 0 (by omega)⟩
        have HSK := hid HOK.out.1.2.2.1
        go_wp2
        go_loopw [10, 11, 36] (fun m a i wr => ∃ (k : Nat) (mm aa : Int), k ≤ n ∧ i = .int .i64 k ∧ m = .int .i64 mm ∧ a = .int .i64 aa ∧ Hid (RoSt D br x k mm aa) ∧ w2 = wr) (fun _ _ i _ => n - (intOf i).toNat)
        case atStart => exact ⟨0, 0, br, by omega, rfl, rfl, rfl, .inl ⟨rfl, rfl, rfl⟩, rfl⟩
        case round =>
          obtain ⟨k, mm, aa, hk, rfl, rfl, rfl, HR, rfl⟩ := hrel
          have hbd := HR.out.bd (by omega) (by omega)
          obtain ⟨bd1, bd2, bd3, bd4⟩ := hbd
          by_cases hlt : k < n
          · have hltz : (k : Int) < (n : Int) := by omega
            have hxk := HALL.out k hlt
            obtain ⟨q, hq⟩ := Int.eq_ofNat_of_zero_le hxk.1
            have lq : q < D.k := by have := HSK.out; omega
            have lqz : (q : Int) < (D.k : Int) := by omega
            obtain ⟨b, o, rfl, hc⟩ := (HI.out.below HW2.out) (by omega)
            have c1 : w2.cell? ⟨b, o + k, none⟩ = some (.int .i64 (x k)) := hc k hlt
            rw [hq] at c1
            obtain ⟨bq, oq, rfl, hdq⟩ := (HX.out.below HW2.out).dep (by omega)
            have q1 : w2.cell? ⟨bq, oq + q, none⟩ = some (.bool (D.dep q)) := hdq q lq
            have z2 := hB2.out.cell (i := 2) rfl
            have HQ := hid hq
            clear hxk hdq hq
            by_cases hk0 : k = 0
            · have hk0z : decide (0 < k) = false := decide_eq_false (by omega)
              have HR1 : Hid (RoSt D br x (k + 1) mm br ∧ aa = br) := by subst hk0; exact HR.out.first
              have haa := HR1.out.2
              have HK0 := hid hk0
              clear hc hk0 HR
              rcases (Bool.eq_false_or_eq_true (D.dep q)).symm with hd | hd
              · rw [hd] at q1
                go_wp2
                go_roundw
                case rel => exact ⟨k + 1, _, _, by omega, by go_num, rfl, rfl, (by rw [haa]; exact HR1.out.1), by first | rfl | trivial⟩
                case measure => simp [intOf] <;> omega
              · rw [hd] at q1
                go_wp2
                go_roundw
                case rel => exact ⟨k + 1, _, _, by omega, by go_num, rfl, rfl, HR1.out.1, by first | rfl | trivial⟩
                case measure => simp [intOf] <;> omega
            · have hk0z : decide (0 < k) = true := decide_eq_true (by omega)
              obtain ⟨p, hp⟩ := Int.eq_ofNat_of_zero_le (HALL.out (k - 1) (by omega)).1
              have lp : p < D.k := by have := HSK.out; have := HALL.out (k - 1) (by omega); omega
              have lpz : (p : Int) < (D.k : Int) := by omega
              have c2 : w2.cell? ⟨b, o + (k - 1), none⟩ = some (.int .i64 (x (k - 1))) := hc (k - 1) (by omega)
              rw [hp] at c2
              have c3 := HT.out.row lp lp
              have c4 := HT.out.cell lp lq
              have HMI : Hid (mI D (x (k - 1)) (x k) = T p q) := by show _ = _; rw [hp, HQ.out]; exact HM.out p q lp lq
              have hhi := mI_hi D (x (k - 1)) (x k)
              rw [HMI.out] at hhi
              obtain ⟨t1, t2, t3⟩ := hhi
              clear hc hp
              by_cases h1 : T p q < 1
              · have HN : Hid (routeF D br x n = none) := HF.out.trans (HR.out.stop (by omega) hlt HMI.out (.inl (by omega)))
                have HWX := HW2
                go_wp2
                go_ret3
                exact ⟨by rw [← rrV_none HN.out]; rfl, HWX.out⟩
              · by_cases h2 : aa < T p q
                · have HN : Hid (routeF D br x n = none) := HF.out.trans (HR.out.stop (by omega) hlt HMI.out (.inr h2))
                  have HWX := HW2
                  go_wp2
                  go_ret3
                  exact ⟨by rw [← rrV_none HN.out]; rfl, HWX.out⟩
                · have HR2 := hid (HR.out.on (by omega) HMI.out (by omega) (by omega))
                  rcases (Bool.eq_false_or_eq_true (D.dep q)).symm with hd | hd
                  · have HR3 : Hid (RoSt D br x (k + 1) (mm + T p q) (aa - T p q)) := by
                      have h := HR2.out
                      rw [HQ.out, Int.toNat_natCast, if_neg (by rw [hd]; decide)] at h
                      exact h
                    rw [hd] at q1
                    clear HR2 HR
                    go_wp2
                    go_roundw
                    case rel => exact ⟨k + 1, _, _, by omega, by go_num, by go_num, by go_num, HR3, by first | rfl | trivial⟩
                    case measure => simp [intOf] <;> omega
                  · have HR3 : Hid (RoSt D br x (k + 1) (mm + T p q) br) := by
                      have h := HR2.out
                      rw [HQ.out, Int.toNat_natCast, if_pos hd] at h
                      exact h
                    rw [hd] at q1
                    clear HR2 HR
                    go_wp2
                    go_roundw
                    case rel => exact ⟨k + 1, _, _, by omega, by go_num, by go_num, rfl, HR3, by first | rfl | trivial⟩
                    case measure => simp [intOf] <;> omega
          · have : k = n := by omega
            subst this
            have HV : Hid (routeF D br x k = some (mm, aa)) := by
              rcases HR.out with ⟨h1, _⟩ | ⟨_, h2⟩
              · omega
              · exact HF.out.trans h2
            go_wp2
            go_ret3
            exact ⟨by rw [← rrV_some HV.out]; rfl, HW2.out⟩
      · have HN : Hid (routeF D br x n = none) := routeF_bad fun h => hall h.2.2.2
        have HALL := hid hall
        have HWX := HW1
        clear hall
        go_wp2_with (go_at_call 55; refine (RetBS.no (areIndices_any A n cc x D.s _ (HI.out.below HW1.out) hn) HALL.out).mono ?_; rintro e w' ⟨rfl, rfl⟩)
        go_wp2
        go_ret3
        exact ⟨by rw [← rrV_none HN.out]; rfl, HWX.out⟩
  · have HN : Hid (routeF D br x n = none) := routeF_bad fun h => hok ⟨h.1, h.2.1⟩
    have HOK := hid hok
    clear hok
    go_enter Tryd.func35, Tryd.ntmps35
    go_wp2_with fail
    refine (RetB.no (rescueFits_any P Q D c d br _ (HX.out.below hw1.out) hs) HOK.out).mono ?_
    rintro e w1 ⟨rfl, hq1⟩
    have HWX := hid (Below.then_ hw1.out hq1)
    go_wp2
    go_ret3
    exact ⟨by rw [← rrV_none HN.out]; rfl, HWX.out⟩
end Go.Proofs.YtlhcjbgcgbeocaaDoor
