/- PitDirect, both: a pit is direct. Lists are at most 2^20 long. -/
import Derived.Test.YtekngpinldiodaaPit3
import Derived.Test.YtekngpinldiodaaLists
namespace Go.Proofs.Ytekngpinldiodaa
open Go.RowKit

/-- Block i needs all that its first u blocks need. -/
def DirUp (D : PitD) (i u : Nat) : Prop := ∀ j, j < u → ∀ t, t < D.l (D.x i j).toNat → HasN (D.l i) (D.x i) (D.x (D.x i j).toNat t)
def DirectP (D : PitD) : Prop := ∀ i, i < D.n → DirUp D i (D.l i)

set_option maxHeartbeats 1600000 in
theorem PitDirect_spec (A : Option Addr) (D : PitD) (c : Nat) (w : World) (hx : PitAt w A D) (hs : PitSmall D) (hok : PitOk D) :
    Calls Try.prog 25 #[.slice A D.n c] w (RetB (DirectP D) w) := by
  have hn := hs.1
  have h8 := hok.1
  have HO := hid hok
  have HL := hid hs.2
  clear hok
  go_enter Try.func25, Try.ntmps25
  go_wp2
  go_loopw [3] (fun i wr => ∃ k : Nat, k ≤ D.n ∧ i = .int .i64 k ∧ (∀ j, j < k → DirUp D j (D.l j)) ∧ Below w.heap.size w wr) (fun i _ => D.n - (intOf i).toNat)
  case atStart => exact ⟨0, by omega, rfl, fun j hj => absurd hj (by omega), Below.refl _ _⟩
  case round =>
    obtain ⟨k, hk, rfl, hall, hbel⟩ := hrel
    have HA := hid hall
    clear hall
    by_cases hlt : k < D.n
    · have hltz : (k : Int) < (D.n : Int) := by omega
      have hlk := HL.out k hlt
      go_wp2_with (go_at_call 15; refine (RetB.yes (PitValid_spec A D c _ (hx.below hbel) hs) HO.out).mono ?_; rintro e w1 ⟨rfl, hb1⟩)
      have hbel1 := Below.then_ hbel hb1
      clear hb1 hbel
      go_loopw [4] (fun j wr => ∃ u : Nat, u ≤ D.l k ∧ j = .int .i64 u ∧ DirUp D k u ∧ Below w.heap.size w wr) (fun j _ => D.l k - (intOf j).toNat)
      case atStart => exact ⟨0, by omega, rfl, fun j hj => absurd hj (by omega), hbel1⟩
      case round =>
        clear hbel1
        obtain ⟨u, hu, rfl, hdir, hbel⟩ := hrel
        have HD := hid hdir
        clear hdir
        obtain ⟨b, o, C, cc, hA, a1, a2, a3⟩ := (hx.below hbel).at_ hlt
        obtain rfl := hA
        by_cases hul : u < D.l k
        · have hulz : (u : Int) < (D.l k : Int) := by omega
          obtain ⟨b2, o2, rfl, hc⟩ := a3 (by omega)
          have c1 : wr.cell? ⟨b2, o2 + u, none⟩ = some (.int .i64 (D.x k u)) := hc u hul
          have x1 := ((HO.out.2 k hlt).2.1 u hul).1
          have x2 := ((HO.out.2 k hlt).2.1 u hul).2
          obtain ⟨m, hm⟩ : ∃ m : Nat, D.x k u = m := ⟨(D.x k u).toNat, by omega⟩
          have HM := hid hm
          rw [hm] at c1 x1 x2
          clear hm
          have hmn : m < D.n := by omega
          have hmz : (m : Int) < (D.n : Int) := by omega
          have hlm := HL.out m hmn
          obtain ⟨b', o', E, ee, hA, e1, e2, e3⟩ := (hx.below hbel).at_ hmn
          simp only [Option.some.injEq, Addr.mk.injEq, and_true] at hA
          obtain ⟨rfl, rfl⟩ := hA
          clear hc
          go_wp2
          obtain ⟨wo, hwo⟩ : ∃ wo : World, wo = wr := ⟨_, rfl⟩
          subst hwo
          go_loopw [6] (fun i wi => ∃ t : Nat, t ≤ D.l m ∧ i = .int .i64 t ∧ (∀ s, s < t → HasN (D.l k) (D.x k) (D.x m s)) ∧ Below wo.heap.size wo wi) (fun i _ => D.l m - (intOf i).toNat)
          case atStart => exact ⟨0, by omega, rfl, fun j hj => absurd hj (by omega), Below.refl _ _⟩
          case round =>
            obtain ⟨t, ht, rfl, hin, hb3⟩ := hrel
            have HI := hid hin
            clear hin
            by_cases htl : t < D.l m
            · have htz : (t : Int) < (D.l m : Int) := by omega
              obtain ⟨b4, o4, rfl, hd⟩ := e3 (by omega)
              have s1 := sub_cell (cell_below hb3 a1)
              have s2 := sub_cell (cell_below hb3 a2)
              have s3 := sub_cell (cell_below hb3 (hd t htl))
              have a4 := a3.below hb3
              clear hd
              by_cases hh : HasN (D.l k) (D.x k) (D.x m t)
              · have HH := hid hh
                clear hh
                go_wp2
                refine wp_region_sub (by kernel_rfl) (by kernel_rfl) ?_
                repeat (go_big_quiet_step ((go_at_call 55; exact RetS.sub (RetBS.yes (l1Has_any _ (D.l k) _ (D.x k) _ _ (a4.below (Sub.h _)) hlk) HH.out))))
                refine wpQuiet_nil ?_
                intro _ hw'
                obtain ⟨s, hw''⟩ := hw'
                subst hw''
                go_wp2
                go_roundw
                case rel => exact ⟨t + 1, by omega, by go_num, fun j hj => by
                  by_cases e : j = t
                  · subst e; exact HH.out
                  · exact HI.out j (by omega), Below.then_ hb3 s.h⟩
                case measure => simp [intOf] <;> omega
              · have HH := hid hh
                clear hh
                go_wp2
                refine wp_region_sub (by kernel_rfl) (by kernel_rfl) ?_
                repeat (go_big_quiet_step ((go_at_call 55; exact RetS.sub (RetBS.no (l1Has_any _ (D.l k) _ (D.x k) _ _ (a4.below (Sub.h _)) hlk) HH.out))))
                refine wpQuiet_nil ?_
                intro _ hw'
                obtain ⟨s, hw''⟩ := hw'
                subst hw''
                go_wp2
                go_ret
                exact .mk_f (fun h => HH.out (by have := h k hlt u hul t; rw [HM.out] at this; exact this htl)) (Below.then_ hbel (Below.then_ hb3 s.h)) rfl
            · go_wp2
              go_roundw
              case rel => exact ⟨u + 1, by omega, by go_num, fun j hj => by
                by_cases e : j = u
                · subst e; rw [HM.out]; intro s hs; rw [Int.toNat_natCast] at hs ⊢; exact HI.out s (by omega)
                · exact HD.out j (by omega), Below.then_ hbel hb3⟩
              case measure => simp [intOf] <;> omega
        · go_wp2
          go_roundw
          case rel => exact ⟨k + 1, by omega, by go_num, fun j hj => by
            by_cases e : j = k
            · subst e; exact fun i hi => HD.out i (by omega)
            · exact HA.out j (by omega), hbel⟩
          case measure => simp [intOf] <;> omega
    · have : k = D.n := by omega
      subst this
      go_wp2_with (go_at_call 15; refine (RetB.yes (PitValid_spec A D c _ (hx.below hbel) hs) HO.out).mono ?_; rintro e w1 ⟨rfl, hb1⟩)
      go_ret
      exact .mk_t HA.out (Below.then_ hbel hb1) rfl

theorem PitDirect_spec0 (A : Option Addr) (D : PitD) (c : Nat) (w : World) (hx : PitAt w A D) (hs : PitSmall D) (hok : ¬ PitOk D) :
    Calls Try.prog 25 #[.slice A D.n c] w (RetV (.bool false) w) := by
  have hn := hs.1
  go_enter Try.func25, Try.ntmps25
  go_wp2
  refine wp_loop_rounds 1 ?_
  rw [rounds_succ]
  by_cases h0 : 0 < D.n
  · have hltz : (0 : Int) < (D.n : Int) := by omega
    go_wp2_with fail
    refine (RetB.no (PitValid_spec A D c _ hx hs) hok).mono ?_
    rintro e w1 ⟨rfl, hb1⟩
    go_wp2_with fail
    refine (RetB.no (PitValid_spec A D c _ (hx.below hb1) hs) hok).mono ?_
    rintro e w2 ⟨rfl, hb2⟩
    go_wp2
    go_ret
    exact ⟨rfl, Below.then_ hb1 hb2⟩
  · go_wp2_with (go_at_call 15; refine (RetB.no (PitValid_spec A D c _ hx hs) hok).mono ?_; rintro e w1 ⟨rfl, hb1⟩)
    go_ret
    exact ⟨rfl, hb1⟩

theorem cell_alloc {w : World} {p : Addr} {v : Value} (h : w.cell? p = some v) : ∀ ob, (w.alloc ob).cell? p = some v := fun ob => cell_below ((Below.refl _ _).alloc (Nat.le_refl _) ob) h

set_option maxHeartbeats 1600000 in
theorem PitDirect_impl (A : Option Addr) (D : PitD) (c : Nat) (w : World) (hx : PitAt w A D) (hs : PitSmall D) (hok : PitOk D) :
    Calls Try.prog 26 #[.slice A D.n c] w (RetB (DirectP D) w) := by
  have hn := hs.1
  have h8 := hok.1
  have HO := hid hok
  have HL := hid hs.2
  clear hok
  go_enter Try.func26, Try.ntmps26
  go_wp2_with (go_at_call 17; refine (RetB.yes (PitValid_impl A D c _ hx hs) HO.out).mono ?_; rintro e w1 ⟨rfl, hb1⟩)
  go_loopw [14] (fun i wr => ∃ k : Nat, k ≤ D.n ∧ i = .int .i64 k ∧ (∀ j, j < k → DirUp D j (D.l j)) ∧ Below w.heap.size w wr) (fun i _ => D.n - (intOf i).toNat)
  case atStart => exact ⟨0, by omega, rfl, fun j hj => absurd hj (by omega), hb1⟩
  case round =>
    clear hb1
    obtain ⟨k, hk, rfl, hall, hbel⟩ := hrel
    have HA := hid hall
    clear hall
    by_cases hlt : k < D.n
    · have hltz : (k : Int) < (D.n : Int) := by omega
      have hlk := HL.out k hlt
      obtain ⟨b, o, C, cc, hA, a1, a2, a3⟩ := (hx.below hbel).at_ hlt
      obtain rfl := hA
      go_wp2
      have a1' := cell_alloc a1
      have a2' := cell_alloc a2
      go_loop [21] (fun j => ∃ u : Nat, u ≤ D.l k ∧ j = .int .i64 u ∧ DirUp D k u) (fun j => D.l k - (intOf j).toNat)
      case atStart => exact ⟨0, by omega, rfl, fun j hj => absurd hj (by omega)⟩
      case round =>
        obtain ⟨u, hu, rfl, hdir⟩ := hrel
        have HD := hid hdir
        clear hdir
        by_cases hul : u < D.l k
        · have hulz : (u : Int) < (D.l k : Int) := by omega
          obtain ⟨b2, o2, rfl, hc⟩ := a3 (by omega)
          have c1 : wr.cell? ⟨b2, o2 + u, none⟩ = some (.int .i64 (D.x k u)) := hc u hul
          have x1 := ((HO.out.2 k hlt).2.1 u hul).1
          have x2 := ((HO.out.2 k hlt).2.1 u hul).2
          obtain ⟨m, hm⟩ : ∃ m : Nat, D.x k u = m := ⟨(D.x k u).toNat, by omega⟩
          have HM := hid hm
          rw [hm] at c1 x1 x2
          clear hm
          have hmn : m < D.n := by omega
          have hmz : (m : Int) < (D.n : Int) := by omega
          have hlm := HL.out m hmn
          obtain ⟨b', o', E, ee, hA, e1, e2, e3⟩ := (hx.below hbel).at_ hmn
          simp only [Option.some.injEq, Addr.mk.injEq, and_true] at hA
          obtain ⟨rfl, rfl⟩ := hA
          have c1' := cell_alloc c1
          have e2' := cell_alloc e2
          clear hc
          go_wp2
          go_loop [31] (fun i => ∃ t : Nat, t ≤ D.l m ∧ i = .int .i64 t ∧ (∀ s, s < t → HasN (D.l k) (D.x k) (D.x m s))) (fun i => D.l m - (intOf i).toNat)
          case atStart => exact ⟨0, by omega, rfl, fun j hj => absurd hj (by omega)⟩
          case round =>
            obtain ⟨t, ht, rfl, hin⟩ := hrel
            have HI := hid hin
            clear hin
            by_cases htl : t < D.l m
            · have htz : (t : Int) < (D.l m : Int) := by omega
              obtain ⟨b4, o4, rfl, hd⟩ := e3 (by omega)
              have s3 := cell_alloc (hd t htl)
              clear hd
              by_cases hh : HasN (D.l k) (D.x k) (D.x m t)
              · have HH := hid hh
                clear hh
                go_wp2_with (go_at_call 56; refine (RetBS.yes (Contains_any _ (D.l k) _ (D.x k) _ _ (a3.alloc _) hlk) HH.out).mono ?_; rintro e w' ⟨rfl, rfl⟩)
                go_round
                case rel => exact ⟨t + 1, by omega, by go_num, fun j hj => by
                  by_cases e : j = t
                  · subst e; exact HH.out
                  · exact HI.out j (by omega)⟩
                case measure => simp [intOf] <;> omega
              · have HH := hid hh
                clear hh
                go_wp2_with (go_at_call 56; refine (RetBS.no (Contains_any _ (D.l k) _ (D.x k) _ _ (a3.alloc _) hlk) HH.out).mono ?_; rintro e w' ⟨rfl, rfl⟩)
                go_ret
                exact .mk_f (fun h => HH.out (by have := h k hlt u hul t; rw [HM.out] at this; exact this htl)) (hbel.alloc hbel.size _) rfl
            · go_wp2
              go_round
              case rel => exact ⟨u + 1, by omega, by go_num, fun j hj => by
                by_cases e : j = u
                · subst e; rw [HM.out]; intro s hs; rw [Int.toNat_natCast] at hs ⊢; exact HI.out s (by omega)
                · exact HD.out j (by omega)⟩
              case measure => simp [intOf] <;> omega
        · go_wp2
          go_roundw
          case rel => exact ⟨k + 1, by omega, by go_num, fun j hj => by
            by_cases e : j = k
            · subst e; exact fun i hi => HD.out i (by omega)
            · exact HA.out j (by omega), hbel.alloc hbel.size _⟩
          case measure => simp [intOf] <;> omega
    · have : k = D.n := by omega
      subst this
      go_wp2
      go_ret
      exact .mk_t HA.out hbel rfl

theorem PitDirect_impl0 (A : Option Addr) (D : PitD) (c : Nat) (w : World) (hx : PitAt w A D) (hs : PitSmall D) (hok : ¬ PitOk D) :
    Calls Try.prog 26 #[.slice A D.n c] w (RetV (.bool false) w) := by
  go_enter Try.func26, Try.ntmps26
  go_wp2_with (go_at_call 17; refine (RetB.no (PitValid_impl A D c _ hx hs) hok).mono ?_; rintro e w1 ⟨rfl, hb1⟩)
  go_ret
  exact ⟨rfl, hb1⟩
end Go.Proofs.Ytekngpinldiodaa
