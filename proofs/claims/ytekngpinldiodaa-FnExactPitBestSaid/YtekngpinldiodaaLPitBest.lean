/- The law FnExactPitBest holds for all arguments: the program's PitBest and the reference's return the same set, and the argument is left as it was. No condition. -/
import Derived.Test.YtekngpinldiodaaPitLaw
import Derived.Test.YtekngpinldiodaaPitB
namespace Go.Proofs.Ytekngpinldiodaa
open Go.ChangeShapes Go.WideShapes Go.ChangeAt Go.RowKit

theorem PitBest_same (D : PitD) (hs : PitSmall D) : ∃ r : Int, (∀ (A : Option Addr) (c : Nat) (w : World), PitAt w A D → Calls Try.prog 40 #[.slice A D.n c] w (RetV (.int .i64 r) w)) ∧
    (∀ (A : Option Addr) (c : Nat) (w : World), PitAt w A D → Calls Try.prog 41 #[.slice A D.n c] w (RetV (.int .i64 r) w)) := by
  by_cases hf : PitOk D
  · obtain ⟨B, hB⟩ := best_ex D
    exact ⟨_, fun A c w hx => PitBest_spec A D c B w hx hs hf hB, fun A c w hx => PitBest_impl A D c B w hx hs hf hB⟩
  · exact ⟨_, fun A c w hx => PitBest_spec0 A D c w hx hs hf, fun A c w hx => PitBest_impl0 A D c w hx hs hf⟩

theorem ExactPitBest_walk (A : Option Addr) (D : PitD) (c : Nat) (w : World) (hA : PitAt w A D) (hn : D.n ≤ 9223372036854775807) (hl : ∀ j, j < D.n → D.l j ≤ 9223372036854775807) :
    Calls Try.prog 12 #[.slice A D.n c] w (RetV (.bool true) w) := by
  have HL := hid hl
  clear hl
  go_enter Try.func12, Try.ntmps12
  go_wp2_with fail
  refine (szBlockS_any A D c _ w hA (by omega) (by omega) hn HL.out).mono ?_
  rintro e w1 ⟨q, rfl, hr, hb1⟩
  have HR := hid hr
  clear hr
  by_cases hneg : q < 0
  · go_wp2
    go_ret
    exact ⟨rfl, hb1⟩
  · have HS : Hid (PitSmall D) := HR.out.elim (fun h => absurd h hneg) (fun h => h.2.2)
    clear HR
    obtain ⟨r, hsp, him⟩ := PitBest_same D HS.out
    have HSP := hid hsp
    have HIM := hid him
    clear hsp him
    go_wp2_with fail
    refine (toBlockS_any A D c w1 (hA.below hb1) HS.out).mono ?_
    rintro e w2 ⟨rfl, G1, ho1, hb2⟩
    have hw2 := Below.then_ hb1 hb2
    go_wp2_with fail
    refine (HSP.out _ _ w2 ho1.at_).mono ?_
    rintro e w3 ⟨rfl, hb3⟩
    have hw3 := Below.then_ hw2 hb3
    go_wp2_with fail
    refine (toBlockS_any A D c w3 (hA.below hw3) HS.out).mono ?_
    rintro e w4 ⟨rfl, G2, ho2, hb4⟩
    have hw4 := Below.then_ hw3 hb4
    go_wp2_with fail
    refine (HIM.out _ _ w4 ho2.at_).mono ?_
    rintro e w5 ⟨rfl, hb5⟩
    have hw5 := Below.then_ hw4 hb5
    have hne : (r != r) = false := by simp
    go_wp2_with fail
    refine (toBlockS_any A D c w5 (hA.below hw5) HS.out).mono ?_
    rintro e w6 ⟨rfl, G3, ho3, hb6⟩
    have hw6 := Below.then_ hw5 hb6
    go_wp2_with fail
    refine (RetB.yes (eqBlockS_any _ _ D D _ _ w6 (ho2.below (Below.then_ hb5 hb6)).at_ ho3.at_ HS.out) (PitSame.refl D)).mono ?_
    rintro e w7 ⟨rfl, hb7⟩
    go_wp2
    go_ret
    exact ⟨rfl, Below.then_ hw6 hb7⟩

set_option maxRecDepth 100000 in
theorem ExactPitBest_lifted (os : Os) (started : os.Started) (H : Type) (enc : TypeId × Value → H) :
    ReturnsInHanded {} Try.checked os 12 .any (Rows.fnExactPitBestSpec.pre6 enc Try.prog Try.f12 Rows.fnExactPitBestRow.domain false) (Rows.fnExactPitBestSpec.post enc Try.prog Try.f12 false true false false) := by
  refine returnsInHanded_of_change (C := Try.checked) own started (by kernel_rfl) Try.func12
    (ChangeSpec.witness6 (enc := enc) (C := Try.checked) false ⟨#[], #[.slice none 0 0], []⟩ 8 (by kernel_rfl) (by kernel_rfl) (by kernel_rfl) (by kernel_rfl)) ?_
  intro W base args ds gs before hval0 hW hcnd _
  have hval : ∀ (j : Nat) t v, Try.f12.params[j]? = some t → args[j]? = some v → Value.okWide Try.prog W .any base t v := hval0
  have hW' := hW
  obtain ⟨p, q, hA0, hV, rfl, hfz, hnd⟩ := hW
  have hA : DataW.TrodAll enc Try.prog W 0 (fun _ => true) true Try.f12.params.toList args.toList ds p := hA0
  rw [Try.params12] at hA hval
  obtain ⟨v0, vs0, d0, ds0, p0, q0, hargs, rfl, rfl, h0, r0⟩ := trodAll_cons hA
  obtain ⟨rfl, rfl, rfl⟩ := trodAll_nil r0
  obtain rfl : args = #[v0] := by cases args; simp_all
  obtain ⟨rfl, rfl⟩ := trodVars_none hV
  have k0 := h0
  obtain ⟨m0, hm0⟩ := k0
  have lt0 : ∀ x ∈ p0, x.block < W.heap.size := DataW.trod_lt m0 _ _ _ hm0
  obtain ⟨a0, len0, cap0, rfl⟩ := okWide_slice Try.underlying22 (hval 0 22 v0 rfl rfl)
  obtain ⟨A0, D0, c0, hv0, hp0, hn0, hl0⟩ := open_Pit (v := .slice a0 len0 cap0) hm0
  simp only [Value.slice.injEq] at hv0
  obtain ⟨rfl, rfl, rfl⟩ := hv0
  clear hA0 hval0
  refine (ExactPitBest_walk _ D0 _ W hp0 hn0 hl0).mono fun e W' ⟨he, bel⟩ => ?_
  subst he
  exact ⟨_, rfl, _, _, _, [], _, [], hW', trodAll_mk1 (shut_bool Try.underlying4 _), (trodAll_cons_mk (Below.trod laidOut (by kernel_rfl) (of_decide_eq_true (by kernel_rfl)) h0 bel lt0) trodAll_mk0), rfl, bel.frame _, fun h => by cases h⟩

theorem ExactPitBest_holds : Rows.FnExactPitBestSaid :=
  OpenClaim.holds_of_wide 12 Try.f12 rfl rfl rfl rfl rfl rfl rfl ⟨rfl, rfl, rfl, rfl, rfl⟩ rfl rfl rfl rfl rfl (by kernel_rfl) Try.func12 (by kernel_rfl)
    (of_decide_eq_true (by kernel_rfl)) (by unfold Func.isWrapper; first | (rw [if_pos (by decide +kernel)]; kernel_rfl) | (rw [if_neg (by decide +kernel)]; exact ⟨rfl, rfl⟩))
    (fun os started H enc _ => ExactPitBest_lifted os started H enc)
#print axioms ExactPitBest_holds
end Go.Proofs.Ytekngpinldiodaa
