/- The law FnExactPayOk holds for all arguments: the program's PayOk and the reference's tell the same, and the arguments are left as they were. No condition. -/
import Derived.Test.YtekngpinldiodaaPitLaw
import Derived.Test.YtekngpinldiodaaPay2
namespace Go.Proofs.Ytekngpinldiodaa
open Go.ChangeShapes Go.WideShapes Go.ChangeAt Go.RowKit

set_option maxHeartbeats 800000 in
theorem ExactPayOk_walk2 (A : Option Addr) (D : PitD) (c : Nat) (B : Option Addr) (T : PitD) (d : Nat) (w : World) (hA : PitAt w A D) (hn : D.n ≤ 9223372036854775807) (hl : ∀ j, j < D.n → D.l j ≤ 9223372036854775807) (hB : RowsAt w B T) (hn2 : T.n ≤ 9223372036854775807) (hl2 : ∀ j, j < T.n → T.l j ≤ 9223372036854775807) :
    Calls Try.prog 13 #[.slice A D.n c, .slice B T.n d] w (RetV (.bool true) w) := by
  have HL := hid hl
  have HL2 := hid hl2
  clear hl hl2
  go_enter Try.func13, Try.ntmps13
  go_wp2_with fail
  refine (szBlockS_any A D c _ w hA (by omega) (by omega) hn HL.out).mono ?_
  rintro e w1 ⟨q, rfl, hr, hb1⟩
  have HR := hid hr
  clear hr
  by_cases hneg : q < 0
  · go_wp2
    go_ret
    exact ⟨rfl, hb1⟩
  · have HQ : Hid ((0 ≤ q ∧ q ≤ 1048576) ∧ PitSmall D) := HR.out.elim (fun h => absurd h hneg) (fun h => ⟨⟨h.1, by omega⟩, h.2.2⟩)
    obtain ⟨hq0, hq1⟩ := HQ.out.1
    have HS := hid HQ.out.2
    clear HR HQ
    go_wp2_with fail
    refine (szIntSS_any B T d q w1 (hB.below hb1) hq1 hq0 hn2 HL2.out).mono ?_
    rintro e w1' ⟨q', rfl, hr, hb1'⟩
    have HR := hid hr
    clear hr
    have hw1 := Below.then_ hb1 hb1'
    by_cases hneg2 : q' < 0
    · go_wp2
      go_ret
      exact ⟨rfl, hw1⟩
    · have HT : Hid (PitSmall T) := HR.out.elim (fun h => absurd h hneg2) (fun h => h.2.2)
      clear HR
      go_wp2_with fail
      refine (toBlockS_any A D c w1' (hA.below hw1) HS.out).mono ?_
      rintro e w2 ⟨rfl, G1, ho1, hb2⟩
      have hw2 := Below.then_ hw1 hb2
      go_wp2_with fail
      refine (toIntSS_any B T d w2 (hB.below hw2) HT.out).mono ?_
      rintro e w3 ⟨B1, rfl, hr1, hb3⟩
      have hw3 := Below.then_ hw2 hb3
      go_wp2_with fail
      refine (PayOk_spec _ _ D T _ _ w3 (ho1.at_.below hb3) HS.out hr1 HT.out).mono ?_
      rintro e w4 ⟨b, rfl, hP, hb4⟩
      have hw4 := Below.then_ hw3 hb4
      have HP := hid hP
      clear hP
      go_wp2_with fail
      refine (toBlockS_any A D c w4 (hA.below hw4) HS.out).mono ?_
      rintro e w5 ⟨rfl, G2, ho2, hb5⟩
      have hw5 := Below.then_ hw4 hb5
      go_wp2_with fail
      refine (toIntSS_any B T d w5 (hB.below hw5) HT.out).mono ?_
      rintro e w6 ⟨B2, rfl, hr2, hb6⟩
      have hw6 := Below.then_ hw5 hb6
      go_wp2_with fail
      refine (PayOk_impl _ _ D T _ _ w6 (ho2.at_.below hb6) HS.out hr2 HT.out).mono ?_
      rintro e w7 ⟨b', rfl, hP', hb7⟩
      have hw7 := Below.then_ hw6 hb7
      obtain rfl : b' = b := Bool.eq_iff_iff.2 (hP'.trans HP.out.symm)
      clear hP'
      have hne : (b' != b') = false := by simp
      go_wp2_with fail
      refine (toBlockS_any A D c w7 (hA.below hw7) HS.out).mono ?_
      rintro e w8 ⟨rfl, G3, ho3, hb8⟩
      have hw8 := Below.then_ hw7 hb8
      go_wp2_with fail
      refine (RetB.yes (eqBlockS_any _ _ D D _ _ w8 ((ho2.at_.below hb6).below (Below.then_ hb7 hb8)) ho3.at_ HS.out) (PitSame.refl D)).mono ?_
      rintro e w9 ⟨rfl, hb9⟩
      have hw9 := Below.then_ hw8 hb9
      go_wp2_with fail
      refine (toIntSS_any B T d w9 (hB.below hw9) HT.out).mono ?_
      rintro e w10 ⟨B3, rfl, hr3, hb10⟩
      have hw10 := Below.then_ hw9 hb10
      go_wp2_with fail
      refine (eqIntSS_yes _ _ T _ _ w10 ((((hr2.below hb7).below hb8).below hb9).below hb10) hr3 HT.out).mono ?_
      rintro e w11 ⟨rfl, hb11⟩
      go_wp2
      go_ret
      exact ⟨rfl, Below.then_ hw10 hb11⟩

theorem ExactPayOk_walk (A : Option Addr) (D : PitD) (c : Nat) (B : Option Addr) (n d : Nat) (w : World) (hA : PitAt w A D) (hn : D.n ≤ 9223372036854775807) (hl : ∀ j, j < D.n → D.l j ≤ 9223372036854775807)
    (hB : 0 < n → ∃ b o, B = some ⟨b, o, none⟩ ∧ ∀ j, j < n → ∃ C m e y, w.cell? ⟨b, o + j, none⟩ = some (.slice C m e) ∧ Ints w C m y ∧ m ≤ 9223372036854775807 ∧ ∀ k, -9223372036854775808 ≤ y k ∧ y k ≤ 9223372036854775807) (hn2 : n ≤ 9223372036854775807) :
    Calls Try.prog 13 #[.slice A D.n c, .slice B n d] w (RetV (.bool true) w) := by
  obtain ⟨T, rfl, hT, hl2⟩ := rows_data hB
  exact ExactPayOk_walk2 A D c B T d w hA hn hl hT hn2 hl2

set_option maxRecDepth 100000 in
theorem ExactPayOk_lifted (os : Os) (started : os.Started) (H : Type) (enc : TypeId × Value → H) :
    ReturnsInHanded {} Try.checked os 13 .any (Rows.fnExactPayOkSpec.pre6 enc Try.prog Try.f13 Rows.fnExactPayOkRow.domain false) (Rows.fnExactPayOkSpec.post enc Try.prog Try.f13 false true false false) := by
  refine returnsInHanded_of_change (C := Try.checked) own started (by kernel_rfl) Try.func13
    (ChangeSpec.witness6 (enc := enc) (C := Try.checked) false ⟨#[], #[.slice none 0 0, .slice none 0 0], []⟩ 8 (by kernel_rfl) (by kernel_rfl) (by kernel_rfl) (by kernel_rfl)) ?_
  intro W base args ds gs before hval0 hW hcnd _
  have hval : ∀ (j : Nat) t v, Try.f13.params[j]? = some t → args[j]? = some v → Value.okWide Try.prog W .any base t v := hval0
  have hW' := hW
  obtain ⟨p, q, hA0, hV, rfl, hfz, hnd⟩ := hW
  have hA : DataW.TrodAll enc Try.prog W 0 (fun _ => true) true Try.f13.params.toList args.toList ds p := hA0
  rw [Try.params13] at hA hval
  obtain ⟨v0, vs0, d0, ds0, p0, q0, hargs, rfl, rfl, h0, r0⟩ := trodAll_cons hA
  obtain ⟨v1, vs1, d1, ds1, p1, q1, rfl, rfl, rfl, h1, r1⟩ := trodAll_cons r0
  obtain ⟨rfl, rfl, rfl⟩ := trodAll_nil r1
  obtain rfl : args = #[v0, v1] := by cases args; simp_all
  obtain ⟨rfl, rfl⟩ := trodVars_none hV
  have k0 := h0
  obtain ⟨m0, hm0⟩ := k0
  have lt0 : ∀ x ∈ p0, x.block < W.heap.size := DataW.trod_lt m0 _ _ _ hm0
  have k1 := h1
  obtain ⟨m1, hm1⟩ := k1
  have lt1 : ∀ x ∈ p1, x.block < W.heap.size := DataW.trod_lt m1 _ _ _ hm1
  obtain ⟨a0, len0, cap0, rfl⟩ := okWide_slice Try.underlying22 (hval 0 22 v0 rfl rfl)
  obtain ⟨A0, D0, c0, hv0, hp0, hn0, hl0⟩ := open_Pit (v := .slice a0 len0 cap0) hm0
  simp only [Value.slice.injEq] at hv0
  obtain ⟨rfl, rfl, rfl⟩ := hv0
  obtain ⟨a1, len1, cap1, rfl⟩ := okWide_slice Try.underlying39 (hval 1 39 v1 rfl rfl)
  obtain ⟨A1, n1, c1, hv1, hn1, hp1⟩ := open_Rows (v := .slice a1 len1 cap1) Try.underlying39 Try.underlying33 Try.underlying3 (by kernel_rfl) (by kernel_rfl) hm1
  simp only [Value.slice.injEq] at hv1
  obtain ⟨rfl, rfl, rfl⟩ := hv1
  clear hA0 hval0
  refine (ExactPayOk_walk _ D0 _ _ _ _ W hp0 hn0 hl0 hp1 hn1).mono fun e W' ⟨he, bel⟩ => ?_
  subst he
  exact ⟨_, rfl, _, _, _, [], _, [], hW', trodAll_mk1 (shut_bool Try.underlying4 _), (trodAll_cons_mk (Below.trod laidOut (by kernel_rfl) (of_decide_eq_true (by kernel_rfl)) h0 bel lt0) (trodAll_cons_mk (Below.trod laidOut (by kernel_rfl) (of_decide_eq_true (by kernel_rfl)) h1 bel lt1) trodAll_mk0)), rfl, bel.frame _, fun h => by cases h⟩

theorem ExactPayOk_holds : Rows.FnExactPayOkSaid :=
  OpenClaim.holds_of_wide 13 Try.f13 rfl rfl rfl rfl rfl rfl rfl ⟨rfl, rfl, rfl, rfl, rfl⟩ rfl rfl rfl rfl rfl (by kernel_rfl) Try.func13 (by kernel_rfl)
    (of_decide_eq_true (by kernel_rfl)) (by unfold Func.isWrapper; first | (rw [if_pos (by decide +kernel)]; kernel_rfl) | (rw [if_neg (by decide +kernel)]; exact ⟨rfl, rfl⟩))
    (fun os started H enc _ => ExactPayOk_lifted os started H enc)
#print axioms ExactPayOk_holds
end Go.Proofs.Ytekngpinldiodaa
