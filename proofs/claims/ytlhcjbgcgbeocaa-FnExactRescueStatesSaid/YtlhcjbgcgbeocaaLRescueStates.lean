/- The law FnExactRescueStates holds for all arguments: the program's RescueStates and the reference's return the same, and the arguments are left as they were. No condition. -/
import Derived.Test.YtlhcjbgcgbeocaaSrchLaw
import Derived.Test.YtlhcjbgcgbeocaaRStV
import Derived.Deep.RegionHeld3
namespace Go.Proofs.Ytlhcjbgcgbeocaa
open Go.ChangeShapes Go.WideShapes Go.ChangeAt Go.RowKit

theorem RescueStates_same (D : SrchD) (hs : SrchSmall D) (br x y : Int) :
    ∃ a : Int, (∀ P Q c d w, SrchAt w P Q D → Calls Try.prog 32 #[.agg #[.int .i64 D.s, .slice P D.m c, .slice Q D.k d], .int .i64 br, .int .i64 x, .int .i64 y] w (RetV (.int .i64 a) w)) ∧
      (∀ P Q c d w, SrchAt w P Q D → Calls Try.prog 33 #[.agg #[.int .i64 D.s, .slice P D.m c, .slice Q D.k d], .int .i64 br, .int .i64 x, .int .i64 y] w (RetV (.int .i64 a) w)) :=
  ⟨_, fun P Q c d w hx => RescueStates_specV P Q D c d br x y w hx hs, fun P Q c d w hx => RescueStates_implV P Q D c d br x y w hx hs⟩

set_option maxHeartbeats 1600000 in
theorem ExactRescueStates_walk (P Q : Option Addr) (D : SrchD) (c d : Nat) (br : Int) (x : Int) (y : Int) (w : World) (hA : SrchAt w P Q D) (hm : D.m ≤ 9223372036854775807) (hk : D.k ≤ 9223372036854775807) (_ : -9223372036854775808 ≤ br) (_ : br ≤ 9223372036854775807) (_ : -9223372036854775808 ≤ x) (_ : x ≤ 9223372036854775807) (_ : -9223372036854775808 ≤ y) (_ : y ≤ 9223372036854775807) :
    Calls Try.prog 10 #[.agg #[.int .i64 D.s, .slice P D.m c, .slice Q D.k d], .int .i64 br, .int .i64 x, .int .i64 y] w (RetV (.bool true) w) := by
  have hB := Blk.new w 25 #[.int .i64 D.s, .slice P D.m c, .slice Q D.k d]
  have hw0 := below_alloc1 w (.cells #[.int .i64 D.s, .slice P D.m c, .slice Q D.k d] 25)
  go_enter Try.func10, Try.ntmps10
  go_wp2_with fail
  refine (szSearch_any P Q D c d _ _ (by omega) (by omega) hm hk).mono ?_
  rintro e w1 ⟨r, rfl, hr, hb1⟩
  have HR := hid hr
  clear hr
  have hw1 := Below.then_ hw0 hb1
  have hB1 := hB.below hb1
  have y0 := hB1.cell (i := 0) rfl
  have y1 := hB1.cell (i := 1) rfl
  have y2 := hB1.cell (i := 2) rfl
  clear hB
  by_cases hneg : r < 0
  · go_wp2
    go_ret
    exact ⟨rfl, hw1⟩
  · have HS : Hid (SrchSmall D) := HR.out.elim (fun h => absurd h hneg) (fun h => h.2.2)
    clear HR
    obtain ⟨q, hsp, him⟩ := RescueStates_same D HS.out br x y
    have HSP := hid hsp
    have HIM := hid him
    clear hsp him
    go_wp2_with fail
    refine (toSearch_any P Q D c d w1 (hA.below hw1) HS.out).mono ?_
    rintro e w2 ⟨P1, Q1, rfl, ho1, hb2⟩
    have hw2 := Below.then_ hw1 hb2
    go_wp2_with fail
    refine (HSP.out _ _ _ _ w2 ho1).mono ?_
    rintro e w3 ⟨rfl, hb3⟩
    have hw3 := Below.then_ hw2 hb3
    have hB3 := (hB1.below hb2).below hb3
    have z0 := hB3.cell (i := 0) rfl
    have z1 := hB3.cell (i := 1) rfl
    have z2 := hB3.cell (i := 2) rfl
    clear y0 y1 y2 hB1
    go_wp2_with fail
    refine (toSearch_any P Q D c d w3 (hA.below hw3) HS.out).mono ?_
    rintro e w4 ⟨P2, Q2, rfl, ho2, hb4⟩
    have hB4 := hB3.below hb4
    have hw4 := Below.then_ hw3 hb4
    have hC := Blk.new w4 30 #[.int .i64 D.s, .slice P2 D.m D.m, .slice Q2 D.k D.k]
    have hw5 := below_alloc1 w4 (.cells #[.int .i64 D.s, .slice P2 D.m D.m, .slice Q2 D.k D.k] 30)
    have hB5 := hB4.alloc (.cells #[.int .i64 D.s, .slice P2 D.m D.m, .slice Q2 D.k D.k] 30)
    clear z0 z1 z2 hB3 hB4
    go_wp2_with fail
    have hw5' := Below.then_ hw4 hw5
    refine (HIM.out _ _ _ _ _ (ho2.below hw5)).mono ?_
    rintro e w6 ⟨rfl, hb6⟩
    have hw6 := Below.then_ hw5' hb6
    have hB6 := hB5.below hb6
    have hC6 := hC.below hb6
    have z0 := hB6.cell (i := 0) rfl
    have z1 := hB6.cell (i := 1) rfl
    have z2 := hB6.cell (i := 2) rfl
    have u0 := hC6.cell (i := 0) rfl
    have u1 := hC6.cell (i := 1) rfl
    have u2 := hC6.cell (i := 2) rfl
    have hne0 : (q != q) = false := by simp
    clear hB5 hC hB6
    have ho6 := hid (((ho2.below hw5).below hb6).below (Below.refl _ _).drew)
    have hA6 := hid ((hA.below hw6).below (Below.refl _ _).drew)
    go_wp2
    go_region_held3 (fun v => (v.cell? ⟨w.heap.size, 0, none⟩ = some (.int .i64 D.s) ∧ v.cell? ⟨w.heap.size, 1, none⟩ = some (.slice P D.m c) ∧ v.cell? ⟨w.heap.size, 2, none⟩ = some (.slice Q D.k d)) ∧ v.cell? ⟨w4.heap.size, 0, none⟩ = some (.int .i64 D.s) ∧ v.cell? ⟨w4.heap.size, 1, none⟩ = some (.slice P2 D.m D.m) ∧ v.cell? ⟨w4.heap.size, 2, none⟩ = some (.slice Q2 D.k D.k)) (go_keep)
      (first | (go_at_call 15; refine (toSearch_any P Q D c d _ hA6.out HS.out).mono ?_; rintro e w7 ⟨P3, Q3, rfl, ho7, hb7⟩; have ho7' := hid ho7; have hb7' := hid hb7; clear ho7 hb7
                have c0 := cell_below hb7'.out z0; have c1 := cell_below hb7'.out z1; have c2 := cell_below hb7'.out z2; have d0 := cell_below hb7'.out u0; have d1 := cell_below hb7'.out u1; have d2 := cell_below hb7'.out u2)
             | (go_at_call 17; refine (eqSearch_yes _ _ _ _ D _ _ _ _ _ (ho6.out.below hb7'.out) ho7'.out HS.out).mono ?_; rintro e w8 ⟨rfl, hb8⟩; have hb8' := hid hb8; clear hb8
                have e0 := cell_below hb8'.out c0; have e1 := cell_below hb8'.out c1; have e2 := cell_below hb8'.out c2; have f0 := cell_below hb8'.out d0; have f1 := cell_below hb8'.out d1; have f2 := cell_below hb8'.out d2))
    go_wp2
    go_ret
    exact ⟨rfl, Below.then_ (hw6.drew) (Below.then_ hb7'.out hb8'.out)⟩

set_option maxRecDepth 100000 in
theorem ExactRescueStates_lifted (os : Os) (started : os.Started) (H : Type) (enc : TypeId × Value → H) :
    ReturnsInHanded {} Try.checked os 10 .any (Rows.fnExactRescueStatesSpec.pre6 enc Try.prog Try.f10 Rows.fnExactRescueStatesRow.domain false) (Rows.fnExactRescueStatesSpec.post enc Try.prog Try.f10 false true false false) := by
  refine returnsInHanded_of_change (C := Try.checked) own started (by kernel_rfl) Try.func10
    (ChangeSpec.witness6 (enc := enc) (C := Try.checked) false ⟨#[], #[.agg #[.int .i64 0, .slice none 0 0, .slice none 0 0], .int .i64 0, .int .i64 0, .int .i64 0], []⟩ 8 (by kernel_rfl) (by kernel_rfl) (by kernel_rfl) (by kernel_rfl)) ?_
  intro W base args ds gs before hval0 hW hcnd _
  have hval : ∀ (j : Nat) t v, Try.f10.params[j]? = some t → args[j]? = some v → Value.okWide Try.prog W .any base t v := hval0
  have hW' := hW
  obtain ⟨p, q, hA0, hV, rfl, hfz, hnd⟩ := hW
  have hA : DataW.TrodAll enc Try.prog W 0 (fun _ => true) true Try.f10.params.toList args.toList ds p := hA0
  rw [Try.params10] at hA hval
  obtain ⟨v0, vs0, d0, ds0, p0, q0, hargs, rfl, rfl, h0, r0⟩ := trodAll_cons hA
  obtain ⟨v1, vs1, d1, ds1, p1, q1, rfl, rfl, rfl, h1, r1⟩ := trodAll_cons r0
  obtain ⟨v2, vs2, d2, ds2, p2, q2, rfl, rfl, rfl, h2, r2⟩ := trodAll_cons r1
  obtain ⟨v3, vs3, d3, ds3, p3, q3, rfl, rfl, rfl, h3, r3⟩ := trodAll_cons r2
  obtain ⟨rfl, rfl, rfl⟩ := trodAll_nil r3
  obtain rfl : args = #[v0, v1, v2, v3] := by cases args; simp_all
  obtain ⟨rfl, rfl⟩ := trodVars_none hV
  have k0 := h0
  obtain ⟨m0, hm0⟩ := k0
  have lt0 : ∀ x ∈ p0, x.block < W.heap.size := DataW.trod_lt m0 _ _ _ hm0
  obtain ⟨cs0, rfl, hz0⟩ := okWide_struct Try.underlying25 (hval 0 25 v0 rfl rfl)
  rw [cells25] at hz0
  obtain ⟨u0, u'0, u''0, rfl⟩ := agg3 hz0
  obtain ⟨P0, Q0, D0, x0, y0, rfl, rfl, rfl, hp0, hn0, hl0⟩ := open_Search hm0
  obtain ⟨x1, rfl, rfl, rfl, wx1⟩ := open_int Try.underlying3 (hval 1 3 v1 rfl rfl) h1
  have wf1 := wx1
  simp [Lit.wf, IntKind.min, IntKind.max, IntKind.signed, IntKind.bits] at wf1
  obtain ⟨x2, rfl, rfl, rfl, wx2⟩ := open_int Try.underlying3 (hval 2 3 v2 rfl rfl) h2
  have wf2 := wx2
  simp [Lit.wf, IntKind.min, IntKind.max, IntKind.signed, IntKind.bits] at wf2
  obtain ⟨x3, rfl, rfl, rfl, wx3⟩ := open_int Try.underlying3 (hval 3 3 v3 rfl rfl) h3
  have wf3 := wx3
  simp [Lit.wf, IntKind.min, IntKind.max, IntKind.signed, IntKind.bits] at wf3
  clear hA0 hval0
  refine (ExactRescueStates_walk _ _ D0 _ _ x1 x2 x3 W hp0 hn0 hl0 (by omega) (by omega) (by omega) (by omega) (by omega) (by omega)).mono fun e W' ⟨he, bel⟩ => ?_
  subst he
  exact ⟨_, rfl, _, _, _, [], _, [], hW', trodAll_mk1 (shut_bool Try.underlying4 _), (trodAll_cons_mk (Below.trod laidOut (by kernel_rfl) (of_decide_eq_true (by kernel_rfl)) h0 bel lt0) (trodAll_cons_mk (shut_int Try.underlying3 wx1) (trodAll_cons_mk (shut_int Try.underlying3 wx2) (trodAll_cons_mk (shut_int Try.underlying3 wx3) trodAll_mk0)))), rfl, bel.frame _, fun h => by cases h⟩

theorem ExactRescueStates_holds : Rows.FnExactRescueStatesSaid :=
  OpenClaim.holds_of_wide 10 Try.f10 rfl rfl rfl rfl rfl rfl rfl ⟨rfl, rfl, rfl, rfl, rfl⟩ rfl rfl rfl rfl rfl (by kernel_rfl) Try.func10 (by kernel_rfl)
    (of_decide_eq_true (by kernel_rfl)) (by unfold Func.isWrapper; first | (rw [if_pos (by decide +kernel)]; kernel_rfl) | (rw [if_neg (by decide +kernel)]; exact ⟨rfl, rfl⟩))
    (fun os started H enc _ => ExactRescueStates_lifted os started H enc)
#print axioms ExactRescueStates_holds
end Go.Proofs.Ytlhcjbgcgbeocaa
