/- The law FnExactPitFull holds for all arguments: the program's PitFull and the reference's return the same pit, the program's in new memory, and the argument is left as it was. No condition. -/
import Derived.Test.YtekngpinldiodaaPitLaw
import Derived.Test.YtekngpinldiodaaPitV
namespace Go.Proofs.Ytekngpinldiodaa
open Go.ChangeShapes Go.WideShapes Go.ChangeAt Go.RowKit

theorem PitFull_same (D : PitD) (hs : PitSmall D) : ∃ E : PitD, PitSmall E ∧ (∀ (A : Option Addr) (c : Nat) (w : World), PitAt w A D → Calls Try.prog 38 #[.slice A D.n c] w (RetPA E w)) ∧
    (∀ (A : Option Addr) (c : Nat) (w : World), PitAt w A D → Calls Try.prog 39 #[.slice A D.n c] w (RetPM E w)) := by
  by_cases h : PitOk D
  · exact ⟨mkPit D.n D.p (fulL D), ⟨hs.1, fun j hj => by have h1 := fulL_len D j; have h2 := h.1; have h3 : j < D.n := hj; show (fulL D j).length ≤ _; omega⟩, fun A c w hx => PitFull_spec A D c w hx hs h, fun A c w hx => PitFull_impl A D c w hx hs h⟩
  · exact ⟨mkPit 0 (fun _ => 0) (fun _ => []), ⟨by show 0 ≤ _; omega, fun j hj => absurd hj (by show ¬ j < 0; omega)⟩, fun A c w hx => PitFull_spec0 A D c _ _ w hx hs h, fun A c w hx => PitFull_impl0 A D c _ _ w hx hs h⟩

set_option maxHeartbeats 1600000 in
theorem ExactPitFull_walk (A : Option Addr) (D : PitD) (c : Nat) (w : World) (hA : PitAt w A D) (hn : D.n ≤ 9223372036854775807) (hl : ∀ j, j < D.n → D.l j ≤ 9223372036854775807) :
    Calls Try.prog 11 #[.slice A D.n c] w (RetV (.bool true) w) := by
  have HL := hid hl
  clear hl
  go_enter Try.func11, Try.ntmps11
  go_wp2_with fail
  refine (szBlockS_any A D c _ w hA (by omega) (by omega) hn HL.out).mono ?_
  rintro e w1 ⟨q, rfl, hr, hb1⟩
  have HR := hid hr
  clear hr
  by_cases hneg : q < 0
  · go_wp2
    go_ret
    exact ⟨rfl, hb1⟩
  · have HS : Hid (PitSmall D) := HR.out.elim (fun h => absurd h hneg) (fun h => h.2.2)
    clear HR
    obtain ⟨E, hES, hsp, him⟩ := PitFull_same D HS.out
    have HES := hid hES
    have HSP := hid hsp
    have HIM := hid him
    clear hsp him hES
    go_wp2_with fail
    refine (toBlockS_any A D c w1 (hA.below hb1) HS.out).mono ?_
    rintro e w2 ⟨rfl, G1, ho1, hb2⟩
    have hw2 := Below.then_ hb1 hb2
    go_wp2_with fail
    refine (HSP.out _ _ w2 ho1.at_).mono ?_
    rintro e w3 ⟨A0, c0, rfl, hi0, hb3⟩
    have hw3 := Below.then_ hw2 hb3
    go_wp2_with fail
    refine (toBlockS_any A D c w3 (hA.below hw3) HS.out).mono ?_
    rintro e w4 ⟨rfl, G2, ho2, hb4⟩
    have hw4 := Below.then_ hw3 hb4
    have hx0 := PitM.of_own (lo := w3.heap.size) ho2 (Nat.le_refl _)
    go_wp2_with fail
    refine (HIM.out _ _ w4 ho2.at_).mono ?_
    rintro e w5 ⟨A1, c1, g1, K1, rfl, hm1, hb5⟩
    have hw5 := Below.then_ hw4 hb5
    have hi0' := hi0.below (Below.then_ hb4 hb5)
    go_wp2_with fail
    refine (RetB.yes (eqBlockS_any A1 A0 E E c1 c0 w5 hm1.at_ hi0' HES.out) (PitSame.refl E)).mono ?_
    rintro e w6 ⟨rfl, hb6⟩
    have hw6 := Below.then_ hw5 hb6
    go_wp2_with fail
    refine (toBlockS_any A D c w6 (hA.below hw6) HS.out).mono ?_
    rintro e w7 ⟨rfl, G3, ho3, hb7⟩
    have hw7 := Below.then_ hw6 hb7
    have hx7 := ((hx0.below hb5).below hb6).below hb7
    go_wp2_with fail
    refine (RetB.yes (eqBlockS_any _ _ D D _ _ w7 hx7.at_ ho3.at_ HS.out) (PitSame.refl D)).mono ?_
    rintro e w8 ⟨rfl, hb8⟩
    have hw8 := Below.then_ hw7 hb8
    have hx8 := hx7.below hb8
    go_wp2_with fail
    refine (markBlockS_any _ D _ _ _ _ _ 1 w8 hx8 HS.out (by omega)).mono ?_
    rintro e w9 ⟨rfl, hx9, hk9⟩
    have hs8 : w3.heap.size ≤ w8.heap.size := Nat.le_trans hb4.size (Nat.le_trans hb5.size (Nat.le_trans hb6.size (Nat.le_trans hb7.size hb8.size)))
    have hs3 : w.heap.size ≤ w3.heap.size := hw3.size
    have hw9 : Below w.heap.size w w9 := hw8.trans (hk9.below hs3 (Nat.le_trans hs3 hs8))
    have hb39 : Below w3.heap.size w3 w9 := (Below.then_ (Below.then_ (Below.then_ (Below.then_ hb4 hb5) hb6) hb7) hb8).trans (hk9.below (Nat.le_refl _) hs8)
    have hm9 := (((hm1.below hb6).below hb7).below hb8).kept hk9 (.inr (Nat.le_refl _))
    have hnn : ¬ ((mkN D 1 D.n : Nat) : Int) < 0 := by omega
    have hdd : decide (((mkN D 1 D.n : Nat) : Int) < 0) = false := decide_eq_false hnn
    go_wp2_with fail
    refine (RetB.yes (eqBlockS_any A1 A0 E E c1 c0 w9 hm9.at_ (hi0.below hb39) HES.out) (PitSame.refl E)).mono ?_
    rintro e w10 ⟨rfl, hb10⟩
    have hw10 := Below.then_ hw9 hb10
    go_wp2_with fail
    refine (markBlockS_any A1 E c1 _ _ _ _ 1 w10 (hm9.below hb10) HES.out (by omega)).mono ?_
    rintro e w11 ⟨rfl, hm11, hk11⟩
    have hs4 : w.heap.size ≤ w4.heap.size := hw4.size
    have hw11 : Below w.heap.size w w11 := hw10.trans (hk11.below hs4 hw10.size)
    have hs34 : w3.heap.size ≤ w4.heap.size := hb4.size
    have hb311 : Below w3.heap.size w3 w11 := (Below.then_ hb39 hb10).trans (hk11.below hs34 (Nat.le_trans hb39.size hb10.size))
    go_wp2_with fail
    refine (heldBlockS_any A1 E c1 1 w11 hm11.at_ HES.out (by omega)).mono ?_
    rintro e w12 ⟨rfl, rfl⟩
    have hne : (((mkN E 1 E.n : Nat) : Int) != ((mkN E 1 E.n : Nat) : Int)) = false := by simp
    have hge : ¬ ((mkN E 1 E.n : Nat) : Int) < 0 := by omega
    go_wp2_with fail
    refine (toBlockS_any A D c w11 (hA.below hw11) HS.out).mono ?_
    rintro e w13 ⟨rfl, G4, ho4, hb13⟩
    have hw13 := Below.then_ hw11 hb13
    go_wp2_with fail
    refine (HIM.out _ _ w13 ho4.at_).mono ?_
    rintro e w14 ⟨A2, c2, g2, K2, rfl, hm2, hb14⟩
    have hw14 := Below.then_ hw13 hb14
    go_wp2_with fail
    refine (RetB.yes (eqBlockS_any A2 A0 E E c2 c0 w14 hm2.at_ (((hi0.below hb311).below hb13).below hb14) HES.out) (PitSame.refl E)).mono ?_
    rintro e w15 ⟨rfl, hb15⟩
    have hw15 := Below.then_ hw14 hb15
    go_wp2_with fail
    refine (heldBlockS_any A1 E c1 1 w15 (((hm11.at_.below hb13).below hb14).below hb15) HES.out (by omega)).mono ?_
    rintro e w16 ⟨rfl, rfl⟩
    go_wp2
    go_ret
    exact ⟨rfl, hw15⟩

set_option maxRecDepth 100000 in
theorem ExactPitFull_lifted (os : Os) (started : os.Started) (H : Type) (enc : TypeId × Value → H) :
    ReturnsInHanded {} Try.checked os 11 .any (Rows.fnExactPitFullSpec.pre6 enc Try.prog Try.f11 Rows.fnExactPitFullRow.domain false) (Rows.fnExactPitFullSpec.post enc Try.prog Try.f11 false true false false) := by
  refine returnsInHanded_of_change (C := Try.checked) own started (by kernel_rfl) Try.func11
    (ChangeSpec.witness6 (enc := enc) (C := Try.checked) false ⟨#[], #[.slice none 0 0], []⟩ 8 (by kernel_rfl) (by kernel_rfl) (by kernel_rfl) (by kernel_rfl)) ?_
  intro W base args ds gs before hval0 hW hcnd _
  have hval : ∀ (j : Nat) t v, Try.f11.params[j]? = some t → args[j]? = some v → Value.okWide Try.prog W .any base t v := hval0
  have hW' := hW
  obtain ⟨p, q, hA0, hV, rfl, hfz, hnd⟩ := hW
  have hA : DataW.TrodAll enc Try.prog W 0 (fun _ => true) true Try.f11.params.toList args.toList ds p := hA0
  rw [Try.params11] at hA hval
  obtain ⟨v0, vs0, d0, ds0, p0, q0, hargs, rfl, rfl, h0, r0⟩ := trodAll_cons hA
  obtain ⟨rfl, rfl, rfl⟩ := trodAll_nil r0
  obtain rfl : args = #[v0] := by cases args; simp_all
  obtain ⟨rfl, rfl⟩ := trodVars_none hV
  have k0 := h0
  obtain ⟨m0, hm0⟩ := k0
  have lt0 : ∀ x ∈ p0, x.block < W.heap.size := DataW.trod_lt m0 _ _ _ hm0
  obtain ⟨a0, len0, cap0, rfl⟩ := okWide_slice Try.underlying22 (hval 0 22 v0 rfl rfl)
  obtain ⟨A0, D0, c0, hv0, hp0, hn0, hl0⟩ := open_Pit (v := .slice a0 len0 cap0) hm0
  simp only [Value.slice.injEq] at hv0
  obtain ⟨rfl, rfl, rfl⟩ := hv0
  clear hA0 hval0
  refine (ExactPitFull_walk _ D0 _ W hp0 hn0 hl0).mono fun e W' ⟨he, bel⟩ => ?_
  subst he
  exact ⟨_, rfl, _, _, _, [], _, [], hW', trodAll_mk1 (shut_bool Try.underlying4 _), (trodAll_cons_mk (Below.trod laidOut (by kernel_rfl) (of_decide_eq_true (by kernel_rfl)) h0 bel lt0) trodAll_mk0), rfl, bel.frame _, fun h => by cases h⟩

theorem ExactPitFull_holds : Rows.FnExactPitFullSaid :=
  OpenClaim.holds_of_wide 11 Try.f11 rfl rfl rfl rfl rfl rfl rfl ⟨rfl, rfl, rfl, rfl, rfl⟩ rfl rfl rfl rfl rfl (by kernel_rfl) Try.func11 (by kernel_rfl)
    (of_decide_eq_true (by kernel_rfl)) (by unfold Func.isWrapper; first | (rw [if_pos (by decide +kernel)]; kernel_rfl) | (rw [if_neg (by decide +kernel)]; exact ⟨rfl, rfl⟩))
    (fun os started H enc _ => ExactPitFull_lifted os started H enc)
#print axioms ExactPitFull_holds
end Go.Proofs.Ytekngpinldiodaa
