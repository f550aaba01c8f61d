/- The law FnExactTreeLevel holds for all arguments: the program's TreeLevel and the reference's return the same, and the arguments are left as they were. No condition. -/
import Derived.Test.YtahbfifnpceoeaaCaveLaw
import Derived.Test.YtahbfifnpceoeaaCave3
import Derived.Test.YtahbfifnpceoeaaCave20
import Derived.Deep.RegionHeld3
namespace Go.Proofs.Ytahbfifnpceoeaa
open Go.ChangeShapes Go.WideShapes Go.ChangeAt Go.RowKit

set_option maxHeartbeats 1600000 in
theorem ExactTreeLevel_walk (F G S : Option Addr) (D : CaveD) (c d e : Nat) (a : Int) (b : Int) (w : World) (hA : CaveAt w F G S D) (hn : D.n ≤ 9223372036854775807) (hq : D.q ≤ 9223372036854775807) (hm : D.m ≤ 9223372036854775807) (_ : -9223372036854775808 ≤ a) (_ : a ≤ 9223372036854775807) (_ : -9223372036854775808 ≤ b) (_ : b ≤ 9223372036854775807) :
    Calls Try.prog 8 #[.agg #[.slice F D.n c, .slice G D.q d, .slice S D.m e], .int .i64 a, .int .i64 b] w (RetV (.bool true) w) := by
  have hB := Blk.new w 25 #[.slice F D.n c, .slice G D.q d, .slice S D.m e]
  have hw0 := below_alloc1 w (.cells #[.slice F D.n c, .slice G D.q d, .slice S D.m e] 25)
  go_enter Try.func8, Try.ntmps8
  go_wp2_with fail
  refine (szCave_any F G S D c d e _ _ (by omega) (by omega) hn hq hm).mono ?_
  rintro ex w1 ⟨r, rfl, hr, hb1⟩
  have HR := hid hr
  clear hr
  have hw1 := Below.then_ hw0 hb1
  have hB1 := hB.below hb1
  have y0 := hB1.cell (i := 0) rfl
  have y1 := hB1.cell (i := 1) rfl
  have y2 := hB1.cell (i := 2) rfl
  clear hB
  by_cases hneg : r < 0
  · go_wp2
    go_ret
    exact ⟨rfl, hw1⟩
  · have HS : Hid (CaveSmall D) := HR.out.elim (fun h => absurd h hneg) (fun h => h.2.2)
    clear HR
    obtain ⟨q, hsp, him⟩ := TreeLevel_same D HS.out a b
    have HSP := hid hsp
    have HIM := hid him
    clear hsp him
    go_wp2_with fail
    refine (toCave_any F G S D c d e w1 (hA.below hw1) HS.out).mono ?_
    rintro ex w2 ⟨F1, G1, S1, rfl, ho1, hb2⟩
    have hw2 := Below.then_ hw1 hb2
    go_wp2_with fail
    refine (HSP.out _ _ _ _ _ _ w2 ho1).mono ?_
    rintro ex w3 ⟨rfl, hb3⟩
    have hw3 := Below.then_ hw2 hb3
    have hB3 := (hB1.below hb2).below hb3
    have z0 := hB3.cell (i := 0) rfl
    have z1 := hB3.cell (i := 1) rfl
    have z2 := hB3.cell (i := 2) rfl
    clear y0 y1 y2 hB1
    go_wp2_with fail
    refine (toCave_any F G S D c d e w3 (hA.below hw3) HS.out).mono ?_
    rintro ex w4 ⟨F2, G2, S2, rfl, ho2, hb4⟩
    have hB4 := hB3.below hb4
    have hw4 := Below.then_ hw3 hb4
    have hC := Blk.new w4 30 #[.slice F2 D.n D.n, .slice G2 D.q D.q, .slice S2 D.m D.m]
    have hw5 := below_alloc1 w4 (.cells #[.slice F2 D.n D.n, .slice G2 D.q D.q, .slice S2 D.m D.m] 30)
    have hB5 := hB4.alloc (.cells #[.slice F2 D.n D.n, .slice G2 D.q D.q, .slice S2 D.m D.m] 30)
    have hw5' := Below.then_ hw4 hw5
    clear z0 z1 z2 hB3 hB4
    go_wp2_with fail
    refine (HIM.out _ _ _ _ _ _ _ (ho2.below hw5)).mono ?_
    rintro ex w6 ⟨rfl, hb6⟩
    have hw6 := Below.then_ hw5' hb6
    have hB6 := hB5.below hb6
    have hC6 := hC.below hb6
    have z0 := hB6.cell (i := 0) rfl
    have z1 := hB6.cell (i := 1) rfl
    have z2 := hB6.cell (i := 2) rfl
    have u0 := hC6.cell (i := 0) rfl
    have u1 := hC6.cell (i := 1) rfl
    have u2 := hC6.cell (i := 2) rfl
    have hne0 : (q != q) = false := by simp
    clear hB5 hC hB6
    have ho6 := hid (((ho2.below hw5).below hb6).below (Below.refl _ _).drew)
    have hA6 := hid ((hA.below hw6).below (Below.refl _ _).drew)
    go_wp2
    go_region_held3 (fun v => (v.cell? ⟨w.heap.size, 0, none⟩ = some (.slice F D.n c) ∧ v.cell? ⟨w.heap.size, 1, none⟩ = some (.slice G D.q d) ∧ v.cell? ⟨w.heap.size, 2, none⟩ = some (.slice S D.m e)) ∧ v.cell? ⟨w4.heap.size, 0, none⟩ = some (.slice F2 D.n D.n) ∧ v.cell? ⟨w4.heap.size, 1, none⟩ = some (.slice G2 D.q D.q) ∧ v.cell? ⟨w4.heap.size, 2, none⟩ = some (.slice S2 D.m D.m)) (go_keep)
      (first | (go_at_call 11; refine (toCave_any F G S D c d e _ hA6.out HS.out).mono ?_; rintro ex w7 ⟨F3, G3, S3, rfl, ho7, hb7⟩; have ho7' := hid ho7; have hb7' := hid hb7; clear ho7 hb7
                have c0 := cell_below hb7'.out z0; have c1 := cell_below hb7'.out z1; have c2 := cell_below hb7'.out z2; have d0 := cell_below hb7'.out u0; have d1 := cell_below hb7'.out u1; have d2 := cell_below hb7'.out u2)
             | (go_at_call 14; refine (eqCave_yes _ _ _ _ _ _ D _ _ _ _ _ _ _ (ho6.out.below hb7'.out) ho7'.out HS.out).mono ?_; rintro ex w8 ⟨rfl, hb8⟩; have hb8' := hid hb8; clear hb8
                have e0 := cell_below hb8'.out c0; have e1 := cell_below hb8'.out c1; have e2 := cell_below hb8'.out c2; have f0 := cell_below hb8'.out d0; have f1 := cell_below hb8'.out d1; have f2 := cell_below hb8'.out d2))
    have hw8 := Below.then_ (hw6.drew) (Below.then_ hb7'.out hb8'.out)
    go_wp2
    go_ret
    exact ⟨rfl, hw8⟩

set_option maxRecDepth 100000 in
theorem ExactTreeLevel_lifted (os : Os) (started : os.Started) (H : Type) (enc : TypeId × Value → H) :
    ReturnsInHanded {} Try.checked os 8 .any (Rows.fnExactTreeLevelSpec.pre6 enc Try.prog Try.f8 Rows.fnExactTreeLevelRow.domain false) (Rows.fnExactTreeLevelSpec.post enc Try.prog Try.f8 false true false false) := by
  refine returnsInHanded_of_change (C := Try.checked) own started (by kernel_rfl) Try.func8
    (ChangeSpec.witness6 (enc := enc) (C := Try.checked) false ⟨#[], #[.agg #[.slice none 0 0, .slice none 0 0, .slice none 0 0], .int .i64 0, .int .i64 0], []⟩ 8 (by kernel_rfl) (by kernel_rfl) (by kernel_rfl) (by kernel_rfl)) ?_
  intro W base args ds gs before hval0 hW hcnd _
  have hval : ∀ (j : Nat) t v, Try.f8.params[j]? = some t → args[j]? = some v → Value.okWide Try.prog W .any base t v := hval0
  have hW' := hW
  obtain ⟨p, q, hA0, hV, rfl, hfz, hnd⟩ := hW
  have hA : DataW.TrodAll enc Try.prog W 0 (fun _ => true) true Try.f8.params.toList args.toList ds p := hA0
  rw [Try.params8] at hA hval
  obtain ⟨v0, vs0, d0, ds0, p0, q0, hargs, rfl, rfl, h0, r0⟩ := trodAll_cons hA
  obtain ⟨v1, vs1, d1, ds1, p1, q1, rfl, rfl, rfl, h1, r1⟩ := trodAll_cons r0
  obtain ⟨v2, vs2, d2, ds2, p2, q2, rfl, rfl, rfl, h2, r2⟩ := trodAll_cons r1
  obtain ⟨rfl, rfl, rfl⟩ := trodAll_nil r2
  obtain rfl : args = #[v0, v1, v2] := by cases args; simp_all
  obtain ⟨rfl, rfl⟩ := trodVars_none hV
  have k0 := h0
  obtain ⟨m0, hm0⟩ := k0
  have lt0 : ∀ x ∈ p0, x.block < W.heap.size := DataW.trod_lt m0 _ _ _ hm0
  obtain ⟨cs0, rfl, hz0⟩ := okWide_struct Try.underlying25 (hval 0 25 v0 rfl rfl)
  rw [cells25] at hz0
  obtain ⟨u0, u'0, u''0, rfl⟩ := agg3 hz0
  obtain ⟨F0, G0, S0, D0, x0, y0, z0, rfl, rfl, rfl, hp0, hn0, hq0, hl0⟩ := open_Cave hm0
  obtain ⟨x1, rfl, rfl, rfl, wx1⟩ := open_int Try.underlying3 (hval 1 3 v1 rfl rfl) h1
  have wf1 := wx1
  simp [Lit.wf, IntKind.min, IntKind.max, IntKind.signed, IntKind.bits] at wf1
  obtain ⟨x2, rfl, rfl, rfl, wx2⟩ := open_int Try.underlying3 (hval 2 3 v2 rfl rfl) h2
  have wf2 := wx2
  simp [Lit.wf, IntKind.min, IntKind.max, IntKind.signed, IntKind.bits] at wf2
  clear hA0 hval0
  refine (ExactTreeLevel_walk _ _ _ D0 _ _ _ x1 x2 W hp0 hn0 hq0 hl0 (by omega) (by omega) (by omega) (by omega)).mono fun e W' ⟨he, bel⟩ => ?_
  subst he
  exact ⟨_, rfl, _, _, _, [], _, [], hW', trodAll_mk1 (shut_bool Try.underlying4 _), (trodAll_cons_mk (Below.trod laidOut (by kernel_rfl) (of_decide_eq_true (by kernel_rfl)) h0 bel lt0) (trodAll_cons_mk (shut_int Try.underlying3 wx1) (trodAll_cons_mk (shut_int Try.underlying3 wx2) trodAll_mk0))), rfl, bel.frame _, fun h => by cases h⟩

theorem ExactTreeLevel_holds : Rows.FnExactTreeLevelSaid :=
  OpenClaim.holds_of_wide 8 Try.f8 rfl rfl rfl rfl rfl rfl rfl ⟨rfl, rfl, rfl, rfl, rfl⟩ rfl rfl rfl rfl rfl (by kernel_rfl) Try.func8 (by kernel_rfl)
    (of_decide_eq_true (by kernel_rfl)) (by unfold Func.isWrapper; first | (rw [if_pos (by decide +kernel)]; kernel_rfl) | (rw [if_neg (by decide +kernel)]; exact ⟨rfl, rfl⟩))
    (fun os started H enc _ => ExactTreeLevel_lifted os started H enc)
#print axioms ExactTreeLevel_holds
end Go.Proofs.Ytahbfifnpceoeaa
