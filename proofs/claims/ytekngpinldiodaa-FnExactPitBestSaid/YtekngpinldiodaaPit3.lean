/- The two PitValid tell the same property. -/
import Derived.Test.YtekngpinldiodaaPit2
namespace Go.Proofs.Ytekngpinldiodaa
open Go.RowKit

def BlockOk (D : PitD) (i : Nat) : Prop := (-20 ≤ D.p i ∧ D.p i ≤ 20) ∧ (∀ j, j < D.l i → 0 ≤ D.x i j ∧ D.x i j < i) ∧ ∀ j, j + 1 < D.l i → D.x i j < D.x i (j + 1)
def PitOk (D : PitD) : Prop := D.n ≤ 8 ∧ ∀ i, i < D.n → BlockOk D i

/-- A bare world behind the copy of a block and draws. -/
def Drew (W : World) (w' : World) : Prop := ∃ q, w' = W.drewN q

set_option maxHeartbeats 1000000 in
theorem PitValid_impl (A : Option Addr) (D : PitD) (c : Nat) (w : World) (hx : PitAt w A D) (hs : PitSmall D) :
    Calls Try.prog 17 #[.slice A D.n c] w (RetB (PitOk D) w) := by
  obtain ⟨hn, hl⟩ := hs
  by_cases h8 : D.n ≤ 8
  · have HL := hid hl
    clear hl
    go_enter Try.func17, Try.ntmps17
    go_wp2
    go_loopw [11] (fun i wr => ∃ k : Nat, k ≤ D.n ∧ i = .int .i64 k ∧ (∀ j, j < k → BlockOk D j) ∧ Below w.heap.size w wr) (fun i _ => D.n - (intOf i).toNat)
    case atStart => exact ⟨0, by omega, rfl, fun j hj => absurd hj (by omega), Below.refl _ _⟩
    case round =>
      obtain ⟨k, hk, rfl, hall, hbel⟩ := hrel
      have HA := hid hall
      clear hall
      by_cases hlt : k < D.n
      · obtain ⟨b, o, C, cc, rfl, a1, a2, a3⟩ := (hx.below hbel).at_ hlt
        have hltz : (k : Int) < (D.n : Int) := by omega
        have hlk := HL.out k hlt
        clear hx
        by_cases hp : -20 ≤ D.p k ∧ D.p k ≤ 20
        · obtain ⟨hp1, hp2⟩ := hp
          by_cases hi : ∀ j, j < D.l k → 0 ≤ D.x k j ∧ D.x k j < k
          · have HI := hid hi
            clear hi
            go_wp2_with (first | (go_at_call 50; refine (isWithin_y _ _ _ (by omega) (by omega) hp1 hp2).mono ?_; rintro e w' ⟨rfl, rfl⟩) | (go_at_call 51; refine (RetBS.yes (areIndices_any C (D.l k) cc (D.x k) _ _ (a3.alloc _) hlk) HI.out).mono ?_; rintro e w' ⟨rfl, rfl⟩))
            go_loopw [5] (fun i wi => ∃ (u q : Nat), 1 ≤ u ∧ (u ≤ D.l k ∨ u = 1) ∧ i = .int .i64 u ∧ (∀ j, j + 1 < u → D.x k j < D.x k (j + 1)) ∧ wi = (wr.alloc (.cells #[.int .i64 (D.p k), .slice C (D.l k) cc] 48)).drewN q) (fun i _ => D.l k - (intOf i).toNat)
            case atStart => exact ⟨1, 0, by omega, .inr rfl, rfl, fun j hj => absurd hj (by omega), rfl⟩
            case round =>
              obtain ⟨u, q, hu1, hu2, rfl, hasc, rfl⟩ := hrel
              have HS := hid hasc
              clear hasc
              by_cases hul : u < D.l k
              · obtain ⟨b2, o2, rfl, hc⟩ := a3 (by omega)
                have hulz : (u : Int) < (D.l k : Int) := by omega
                have c1 : ∀ ob, (wr.alloc ob).cell? ⟨b2, o2 + u, none⟩ = some (.int .i64 (D.x k u)) := fun ob => cell_below ((Below.refl _ _).alloc (Nat.le_refl _) ob) (hc u hul)
                have c2 : ∀ ob, (wr.alloc ob).cell? ⟨b2, o2 + (u - 1), none⟩ = some (.int .i64 (D.x k (u - 1))) := fun ob => cell_below ((Below.refl _ _).alloc (Nat.le_refl _) ob) (hc (u - 1) (by omega))
                clear hc a3
                by_cases hlt2 : D.x k u ≤ D.x k (u - 1)
                · go_wp2
                  go_quiet (fail)
                  go_wp2
                  go_ret
                  refine .mk_f (fun h => ?_) (below_drewN (below_drewN (hbel.alloc hbel.size _) _) _) rfl
                  have h1 := (h.2 k hlt).2.2 (u - 1) (by omega)
                  rw [show u - 1 + 1 = u by omega] at h1
                  omega
                · go_wp2
                  go_quiet (fail)
                  go_wp2
                  go_roundw
                  case rel => exact ⟨u + 1, _, by omega, .inl (by omega), by go_num, fun j hj => by
                    by_cases e : j + 1 = u
                    · subst e; simpa using hlt2
                    · exact HS.out j (by omega), rfl⟩
                  case measure => simp [intOf]; omega
              · go_wp2
                go_roundw
                case rel => exact ⟨k + 1, by omega, by go_num, fun j hj => by
                  by_cases e : j = k
                  · subst e; exact ⟨⟨hp1, hp2⟩, HI.out, fun j hj => HS.out j (by omega)⟩
                  · exact HA.out j (by omega), below_drewN (hbel.alloc hbel.size _) _⟩
                case measure => simp [intOf]; omega
          · have HI := hid hi
            clear hi
            go_wp2_with (first | (go_at_call 50; refine (isWithin_y _ _ _ (by omega) (by omega) hp1 hp2).mono ?_; rintro e w' ⟨rfl, rfl⟩) | (go_at_call 51; refine (RetBS.no (areIndices_any C (D.l k) cc (D.x k) _ _ (a3.alloc _) hlk) HI.out).mono ?_; rintro e w' ⟨rfl, rfl⟩))
            go_ret
            exact .mk_f (fun h => HI.out (h.2 k hlt).2.1) (hbel.alloc hbel.size _) rfl
        · have HP := hid hp
          clear hp
          go_wp2_with (go_at_call 50; refine (isWithin_n _ _ _ (by omega) (by omega) HP.out).mono ?_; rintro e w' ⟨rfl, rfl⟩)
          go_ret
          exact .mk_f (fun h => HP.out (h.2 k hlt).1) (hbel.alloc hbel.size _) rfl
      · have : k = D.n := by omega
        subst this
        go_wp2
        go_ret
        exact .mk_t ⟨h8, HA.out⟩ hbel rfl
  · go_enter Try.func17, Try.ntmps17
    go_wp2
    go_ret
    exact .mk_f (fun h => h8 h.1) (Below.refl _ _) rfl

set_option maxHeartbeats 1000000 in
theorem PitValid_spec (A : Option Addr) (D : PitD) (c : Nat) (w : World) (hx : PitAt w A D) (hs : PitSmall D) :
    Calls Try.prog 15 #[.slice A D.n c] w (RetB (PitOk D) w) := by
  obtain ⟨hn, hl⟩ := hs
  have HL := hid hl
  clear hl
  go_enter Try.func15, Try.ntmps15
  go_wp2
  go_loopw [3] (fun i wr => ∃ k : Nat, k ≤ D.n ∧ i = .int .i64 k ∧ (∀ j, j < k → BlockOk D j) ∧ Below w.heap.size w wr) (fun i _ => D.n - (intOf i).toNat)
  case atStart => exact ⟨0, by omega, rfl, fun j hj => absurd hj (by omega), Below.refl _ _⟩
  case round =>
    obtain ⟨k, hk, rfl, hall, hbel⟩ := hrel
    have HA := hid hall
    clear hall
    by_cases hlt : k < D.n
    · have hltz : (k : Int) < (D.n : Int) := by omega
      have hlk := HL.out k hlt
      go_wp2
      go_loopw [4] (fun i wi => ∃ u : Nat, u ≤ D.l k ∧ i = .int .i64 u ∧ (∀ j, j < u → 0 ≤ D.x k j ∧ D.x k j < k) ∧ (∀ j, j + 1 < u → D.x k j < D.x k (j + 1)) ∧ Below w.heap.size w wi) (fun i _ => D.l k - (intOf i).toNat)
      case atStart => exact ⟨0, by omega, rfl, fun j hj => absurd hj (by omega), fun j hj => absurd hj (by omega), hbel⟩
      case round =>
        clear hbel
        obtain ⟨u, hu, rfl, hin, hasc, hbel⟩ := hrel
        have HI := hid hin
        have HS := hid hasc
        clear hin hasc
        obtain ⟨b, o, C, cc, rfl, a1, a2, a3⟩ := (hx.below hbel).at_ hlt
        by_cases hul : u < D.l k
        · obtain ⟨b2, o2, rfl, hc⟩ := a3 (by omega)
          have hulz : (u : Int) < (D.l k : Int) := by omega
          have s1 := sub_cell a1
          have s2 := sub_cell a2
          have s3 := sub_cell (hc u hul)
          have s4 := sub_cell (hc (u - 1) (by omega))
          clear hc a3 hx
          by_cases hr : 0 ≤ D.x k u ∧ D.x k u ≤ (k : Int) - 1
          · obtain ⟨hr1, hr2⟩ := hr
            by_cases hu0 : u < 1
            · have s5 : ∀ s : Sub wr, s.val.cell? ⟨b2, o2, none⟩ = some (.int .i64 (D.x k u)) := by
                obtain rfl : u = 0 := by omega
                simpa using s3
              have hd : decide (0 < u) = false := decide_eq_false (by omega)
              go_wp2
              refine wp_region_sub (by kernel_rfl) (by kernel_rfl) ?_
              repeat (go_big_quiet_step ((go_at_call 48; exact RetS.sub (l1In_y _ _ _ _ hr1 (by omega)))))
              refine wpQuiet_nil ?_
              intro _ hw'
              obtain ⟨s, hw''⟩ := hw'
              subst hw''
              go_wp2
              go_roundw
              case rel => exact ⟨u + 1, by omega, by go_num, fun j hj => by
                obtain rfl : j = u := by omega
                exact ⟨hr1, by omega⟩, fun j hj => absurd hj (by omega), Below.then_ hbel s.h⟩
              case measure => simp [intOf]; omega
            · have hd : decide (0 < u) = true := decide_eq_true (by omega)
              by_cases hlt2 : D.x k u ≤ D.x k (u - 1)
              · go_wp2
                refine wp_region_sub (by kernel_rfl) (by kernel_rfl) ?_
                repeat (go_big_quiet_step ((go_at_call 48; exact RetS.sub (l1In_y _ _ _ _ hr1 (by omega)))))
                refine wpQuiet_nil ?_
                intro _ hw'
                obtain ⟨s, hw''⟩ := hw'
                subst hw''
                go_wp2
                go_ret
                refine .mk_f (fun h => ?_) (Below.then_ hbel s.h) rfl
                have h1 := (h.2 k hlt).2.2 (u - 1) (by omega)
                rw [show u - 1 + 1 = u by omega] at h1
                omega
              · go_wp2
                refine wp_region_sub (by kernel_rfl) (by kernel_rfl) ?_
                repeat (go_big_quiet_step ((go_at_call 48; exact RetS.sub (l1In_y _ _ _ _ hr1 (by omega)))))
                refine wpQuiet_nil ?_
                intro _ hw'
                obtain ⟨s, hw''⟩ := hw'
                subst hw''
                go_wp2
                go_roundw
                case rel => exact ⟨u + 1, by omega, by go_num, fun j hj => by
                  by_cases e : j = u
                  · subst e; exact ⟨hr1, by omega⟩
                  · exact HI.out j (by omega), fun j hj => by
                  by_cases e : j + 1 = u
                  · subst e; simpa using hlt2
                  · exact HS.out j (by omega), Below.then_ hbel s.h⟩
                case measure => simp [intOf]; omega
          · have HR := hid hr
            clear hr
            go_wp2
            refine wp_region_sub (by kernel_rfl) (by kernel_rfl) ?_
            repeat (go_big_quiet_step ((go_at_call 48; exact RetS.sub (l1In_n _ _ _ _ HR.out))))
            refine wpQuiet_nil ?_
            intro _ hw'
            obtain ⟨s, hw''⟩ := hw'
            subst hw''
            go_wp2
            go_ret
            exact .mk_f (fun h => HR.out (by have := (h.2 k hlt).2.1 u hul; omega)) (Below.then_ hbel s.h) rfl
        · by_cases hp : -20 ≤ D.p k ∧ D.p k ≤ 20
          · obtain ⟨hp1, hp2⟩ := hp
            go_wp2_with (go_at_call 48; refine (l1In_y _ _ _ _ hp1 hp2).mono ?_; rintro e w' ⟨rfl, rfl⟩)
            go_roundw
            case rel => exact ⟨k + 1, by omega, by go_num, fun j hj => by
              by_cases e : j = k
              · subst e; exact ⟨⟨hp1, hp2⟩, fun j hj => HI.out j (by omega), fun j hj => HS.out j (by omega)⟩
              · exact HA.out j (by omega), hbel⟩
            case measure => simp [intOf]; omega
          · have HP := hid hp
            clear hp
            go_wp2_with (go_at_call 48; refine (l1In_n _ _ _ _ HP.out).mono ?_; rintro e w' ⟨rfl, rfl⟩)
            go_ret
            exact .mk_f (fun h => HP.out (h.2 k hlt).1) hbel rfl
    · have : k = D.n := by omega
      subst this
      by_cases h8 : D.n ≤ 8
      · go_wp2
        go_ret
        exact .mk_t ⟨h8, HA.out⟩ hbel (ret_dec_t (by omega))
      · go_wp2
        go_ret
        exact .mk_f (fun h => h8 h.1) hbel (ret_dec_f (by omega))
end Go.Proofs.Ytekngpinldiodaa
