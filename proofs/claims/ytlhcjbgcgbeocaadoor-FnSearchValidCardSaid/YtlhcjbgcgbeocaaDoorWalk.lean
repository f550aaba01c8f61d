/- The table of walks: the program's, and the reference's rounds; each holds the least numbers of minutes. No condition. -/
import Derived.Test.YtlhcjbgcgbeocaaDoorTab
import Derived.Test.YtlhcjbgcgbeocaaDoorApp
namespace Go.Proofs.YtlhcjbgcgbeocaaDoor
open Go.RowKit

theorem pow_small {k n : Nat} (h : k < n) (h7 : n ≤ 7) : (2 : Int) ^ k ≤ 64 := by
  have h : k = 0 ∨ k = 1 ∨ k = 2 ∨ k = 3 ∨ k = 4 ∨ k = 5 ∨ k = 6 := by omega
  rcases h with rfl | rfl | rfl | rfl | rfl | rfl | rfl <;> decide

/-- Ready for the round over place k, or done. -/
def FWG (D : SrchD) (k : Nat) (T : Nat → Nat → Int) : Prop := (k < D.k ∧ FW D k 0 0 T) ∨ (k = D.k ∧ ∀ x y, x < D.k → y < D.k → Dist D x y (T x y))
theorem FWG.next {D : SrchD} (hok : SrchOk D) {k : Nat} {T : Nat → Nat → Int} (h : FW D k D.k 0 T) (hk : k < D.k) : FWG D (k + 1) T := by
  by_cases e : k + 1 = D.k
  · exact .inr ⟨e, fun x y hx hy => h.dist hok e hx hy⟩
  · exact .inl ⟨by omega, h.over hok (by omega)⟩

set_option maxRecDepth 20000 in
set_option maxHeartbeats 4000000 in
theorem walkTimes_any (P Q : Option Addr) (D : SrchD) (c d : Nat) (w : World) (hx : SrchAt w P Q D) (hok : SrchOk D) :
    Calls Tryd.prog 52 #[.agg #[.int .i64 D.s, .slice P D.m c, .slice Q D.k d]] w (RetTab D.k (fun T => ∀ x y, x < D.k → y < D.k → Dist D x y (T x y)) w) := by
  have hk7 : D.k ≤ 7 := by have := hok.1.2; have := hok.2.2.1; omega
  have hk1 : 1 ≤ D.k := by have := hok.1.1; have := hok.2.2.1; omega
  have HOK := hid hok
  clear hok
  have hw1 := below_alloc1 w (.cells #[.int .i64 D.s, .slice P D.m c, .slice Q D.k d] 26)
  have HX := hid hx
  clear hx
  go_enter Tryd.func52, Tryd.ntmps52
  go_wp2_with fail
  refine (passageTimes_any P Q D c d _ (HX.out.below hw1) HOK.out).mono ?_
  rintro e w1 ⟨g, r, T0, rfl, hT0, hPT, hg0, hb1⟩
  have hmin : ∀ x y, x < D.k → y < D.k → MinE D x y (T0 x y) := fun x y hx' hy' => PT.min hPT hx' hy'
  have HMIN := hid hmin
  have HT0 := hid hT0
  have hg : w.heap.size ≤ g := by simp at hg0; omega
  have HB1 := hid (Below.then_ hw1 hb1)
  clear hmin hPT hT0 hg0 hb1 hw1
  go_wp2
  go_loopw [13] (fun i wr => ∃ k : Nat, k ≤ D.k ∧ i = .int .i64 k ∧ Tab wr g D.k D.k r (fun x y => if x = y ∧ x < k then 0 else T0 x y) D.k ∧ Below w.heap.size w wr) (fun i _ => D.k - (intOf i).toNat)
  case atStart => exact ⟨0, by omega, rfl, HT0.out.congr (fun x y _ _ => by simp), HB1.out⟩
  case round =>
    obtain ⟨k, hk, rfl, hT, hbel⟩ := hrel
    by_cases hlt : k < D.k
    · have hltz : (k : Int) < (D.k : Int) := by omega
      have s1 := hT.row hlt hlt
      have s2 := hT.cell hlt hlt
      have s3 := hT.froz hlt k
      have HT := hid hT
      have HB := hid hbel
      have hga := hT.above k hlt
      clear hT hbel
      go_wp2
      go_roundw
      case rel => exact ⟨k + 1, by omega, by go_num, (HT.out.set hlt k 0).congr (fun x y _ _ => by
        by_cases e : x = k ∧ y = k
        · rw [if_pos e, if_pos (by omega)]
        · rw [if_neg e]
          by_cases e2 : x = y ∧ x < k
          · rw [if_pos e2, if_pos (by omega)]
          · rw [if_neg e2, if_neg (by omega)]), HB.out.setCell (by show w.heap.size ≤ r k; omega) _⟩
      case measure => simp [intOf] <;> omega
    · have : k = D.k := by omega
      subst this
      have hF := FW.start HOK.out HMIN.out
      have hT1 : Tab wr g D.k D.k r (fun x y => if x = y then 0 else if x < D.k ∧ y < D.k then T0 x y else -1) D.k := hT.congr (fun x y hx' hy' => by
        by_cases e : x = y
        · rw [if_pos e, if_pos ⟨e, hx'⟩]
        · rw [if_neg e, if_neg (fun h => e h.1), if_pos ⟨hx', hy'⟩])
      generalize (fun x y => if x = y then (0 : Int) else if x < D.k ∧ y < D.k then T0 x y else -1) = T1 at hF hT1
      have HF : Hid (FWG D 0 T1) := .inl ⟨by omega, hF⟩
      have HT := hid hT1
      have HB := hid hbel
      clear hF hT1 hT hbel HMIN HT0 HB1
      go_wp2
      go_loopw [25] (fun i wr => ∃ k : Nat, ∃ T, k ≤ D.k ∧ i = .int .i64 k ∧ Tab wr g D.k D.k r T D.k ∧ Hid (FWG D k T) ∧ Below w.heap.size w wr) (fun i _ => D.k - (intOf i).toNat)
      case atStart => exact ⟨0, _, by omega, rfl, HT.out, HF, HB.out⟩
      case round =>
        obtain ⟨k, T, hk, rfl, hT, HF, hbel⟩ := hrel
        have HT := hid hT
        have HB := hid hbel
        by_cases hlt : k < D.k
        · have hltz : (k : Int) < (D.k : Int) := by omega
          have hF0 : FW D k 0 0 T := HF.out.elim (fun h => h.2) (fun h => absurd h.1 (by omega))
          have HF0 := hid hF0
          have hp := pow_small hlt hk7
          clear hT hbel HF hF0
          go_wp2
          go_loopw [30] (fun i wr => ∃ a : Nat, ∃ T, a ≤ D.k ∧ i = .int .i64 a ∧ Tab wr g D.k D.k r T D.k ∧ Hid (FW D k a 0 T) ∧ Below w.heap.size w wr) (fun i _ => D.k - (intOf i).toNat)
          case atStart => exact ⟨0, _, by omega, rfl, HT.out, HF0, HB.out⟩
          case round =>
            obtain ⟨a, T, ha, rfl, hT, HF, hbel⟩ := hrel
            have HT := hid hT
            have HB := hid hbel
            by_cases hla : a < D.k
            · have hlaz : (a : Int) < (D.k : Int) := by omega
              clear hT hbel HF0
              go_wp2
              go_loopw [35] (fun i wr => ∃ b : Nat, ∃ T, b ≤ D.k ∧ i = .int .i64 b ∧ Tab wr g D.k D.k r T D.k ∧ Hid (FW D k a b T) ∧ Below w.heap.size w wr) (fun i _ => D.k - (intOf i).toNat)
              case atStart => exact ⟨0, _, by omega, rfl, HT.out, HF, HB.out⟩
              case round =>
                clear HF HT HB
                obtain ⟨b, T, hb, rfl, hT, HF, hbel⟩ := hrel
                have HT := hid hT
                have HB := hid hbel
                by_cases hlb : b < D.k
                · have hlbz : (b : Int) < (D.k : Int) := by omega
                  have s1 := hT.row hla hla
                  have s2 := hT.row hlt hlt
                  have s3 := hT.cell hla hlt
                  have s4 := hT.cell hlt hlb
                  have s5 := hT.cell hla hlb
                  have s6 := hT.froz hla b
                  have hga := hT.above a hla
                  have m1 := (HF.out.mid a hla).1
                  have m2 := (HF.out.mid b hlb).2
                  clear hT hbel
                  by_cases h1 : T a k < 0
                  · have e1 : decide (T a k < 0) = true := decide_eq_true h1
                    go_wp2
                    go_roundw
                    case rel => exact ⟨b + 1, _, by omega, by go_num, HT.out, HF.out.keep hlt hla hlb (.inl h1), HB.out⟩
                    case measure => simp [intOf] <;> omega
                  · by_cases h2 : T k b < 0
                    · go_wp2
                      go_roundw
                      case rel => exact ⟨b + 1, _, by omega, by go_num, HT.out, HF.out.keep hlt hla hlb (.inr (.inl h2)), HB.out⟩
                      case measure => simp [intOf] <;> omega
                    · have hsum : wrap64 (T a k + T k b) = T a k + T k b := by unfold wrap64; omega
                      have t1 := sub_cell s1
                      have t2 := sub_cell s2
                      have t3 := sub_cell s3
                      have t4 := sub_cell s4
                      clear m1 m2 hp
                      by_cases h3 : T a b < 0
                      · have h4 : T a b < 0 ∨ T a k + T k b < T a b := .inl h3
                        have H4 := hid h4
                        clear h4
                        go_wp2
                        refine wp_region_sub (by kernel_rfl) (by kernel_rfl) ?_
                        repeat (go_big_quiet_step ((fail)))
                        refine wpQuiet_nil ?_
                        intro _ hw'
                        obtain ⟨s, hw''⟩ := hw'
                        subst hw''
                        have hsv := s.h
                        generalize s.val = v at hsv ⊢
                        clear t1 t2 t3 t4
                        have t1 := cell_below hsv s1
                        have t5 := cell_below hsv s5
                        have hTv := HT.out.below hsv
                        have t6 := hTv.froz hla b
                        have HTV := hid hTv
                        clear hTv
                        go_wp2
                        go_roundw
                        case rel => exact ⟨b + 1, _, by omega, by go_num, HTV.out.set hla b _, HF.out.set hlt hla hlb (by omega) (by omega) H4.out, (Below.then_ HB.out hsv).setCell (by show w.heap.size ≤ r a; omega) _⟩
                        case measure => simp [intOf] <;> omega
                      · by_cases h5 : T a k + T k b < T a b
                        · have h4 : T a b < 0 ∨ T a k + T k b < T a b := .inr h5
                          have H4 := hid h4
                          clear h4
                          go_wp2
                          refine wp_region_sub (by kernel_rfl) (by kernel_rfl) ?_
                          repeat (go_big_quiet_step ((fail)))
                          refine wpQuiet_nil ?_
                          intro _ hw'
                          obtain ⟨s, hw''⟩ := hw'
                          subst hw''
                          have hsv := s.h
                          generalize s.val = v at hsv ⊢
                          clear t1 t2 t3 t4
                          have t1 := cell_below hsv s1
                          have t5 := cell_below hsv s5
                          have hTv := HT.out.below hsv
                          have t6 := hTv.froz hla b
                          have HTV := hid hTv
                          clear hTv
                          go_wp2
                          go_roundw
                          case rel => exact ⟨b + 1, _, by omega, by go_num, HTV.out.set hla b _, HF.out.set hlt hla hlb (by omega) (by omega) H4.out, (Below.then_ HB.out hsv).setCell (by show w.heap.size ≤ r a; omega) _⟩
                          case measure => simp [intOf] <;> omega
                        · have H4 : Hid (¬ (T a b < 0 ∨ T a k + T k b < T a b)) := fun h => h.elim h3 h5
                          go_wp2
                          refine wp_region_sub (by kernel_rfl) (by kernel_rfl) ?_
                          repeat (go_big_quiet_step ((fail)))
                          refine wpQuiet_nil ?_
                          intro _ hw'
                          obtain ⟨s, hw''⟩ := hw'
                          subst hw''
                          have hsv := s.h
                          generalize s.val = v at hsv ⊢
                          clear t1 t2 t3 t4
                          have t1 := cell_below hsv s1
                          have t5 := cell_below hsv s5
                          go_wp2
                          go_roundw
                          case rel => exact ⟨b + 1, _, by omega, by go_num, HT.out.below hsv, HF.out.keep hlt hla hlb (.inr (.inr H4.out)), Below.then_ HB.out hsv⟩
                          case measure => simp [intOf] <;> omega
                · have : b = D.k := by omega
                  subst this
                  go_wp2
                  go_roundw
                  case rel => exact ⟨a + 1, _, by omega, by go_num, hT, HF.out.row, hbel⟩
                  case measure => simp [intOf] <;> omega
            · have : a = D.k := by omega
              subst this
              go_wp2
              go_roundw
              case rel => exact ⟨k + 1, _, by omega, by go_num, hT, FWG.next HOK.out HF.out hlt, hbel⟩
              case measure => simp [intOf] <;> omega
        · have : k = D.k := by omega
          subst this
          go_wp2
          go_ret
          exact ⟨_, _, _, rfl, hT, HF.out.elim (fun h => absurd h.1 (by omega)) (fun h => h.2), by omega, hbel⟩
end Go.Proofs.YtlhcjbgcgbeocaaDoor
