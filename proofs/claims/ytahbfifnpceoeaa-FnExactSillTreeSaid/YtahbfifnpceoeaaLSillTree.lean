/- The law FnExactSillTree holds for all arguments: the program's SillTree and the reference's return the same list, the program's in new memory, and the argument is left as it was. No condition. -/
import Derived.Test.YtahbfifnpceoeaaCaveLaw
import Derived.Test.YtahbfifnpceoeaaCaveM
import Derived.Test.YtahbfifnpceoeaaCave16
import Derived.Deep.RegionHeld3
namespace Go.Proofs.Ytahbfifnpceoeaa
open Go.ChangeShapes Go.WideShapes Go.ChangeAt Go.RowKit

set_option maxHeartbeats 1600000 in
theorem ExactSillTree_walk (F G S : Option Addr) (D : CaveD) (c d e : Nat) (w : World) (hA : CaveAt w F G S D) (hn : D.n ≤ 9223372036854775807) (hq : D.q ≤ 9223372036854775807) (hm : D.m ≤ 9223372036854775807) :
    Calls Try.prog 7 #[.agg #[.slice F D.n c, .slice G D.q d, .slice S D.m e]] w (RetV (.bool true) w) := by
  have hB := Blk.new w 25 #[.slice F D.n c, .slice G D.q d, .slice S D.m e]
  have hw0 := below_alloc1 w (.cells #[.slice F D.n c, .slice G D.q d, .slice S D.m e] 25)
  go_enter Try.func7, Try.ntmps7
  go_wp2_with fail
  refine (szCave_any F G S D c d e _ _ (by omega) (by omega) hn hq hm).mono ?_
  rintro ex w1 ⟨r, rfl, hr, hb1⟩
  have HR := hid hr
  clear hr
  have hw1 := Below.then_ hw0 hb1
  have hB1 := hB.below hb1
  have y0 := hB1.cell (i := 0) rfl
  have y1 := hB1.cell (i := 1) rfl
  have y2 := hB1.cell (i := 2) rfl
  clear hB
  by_cases hneg : r < 0
  · go_wp2
    go_ret
    exact ⟨rfl, hw1⟩
  · have HS : Hid (CaveSmall D) := HR.out.elim (fun h => absurd h hneg) (fun h => h.2.2)
    clear HR
    obtain ⟨l, hll, hsp, him⟩ := SillTree_same D HS.out
    have HSP := hid hsp
    have HIM := hid him
    clear hsp him
    go_wp2_with fail
    refine (toCave_any F G S D c d e w1 (hA.below hw1) HS.out).mono ?_
    rintro ex w2 ⟨F1, G1, S1, rfl, ho1, hb2⟩
    have hw2 := Below.then_ hw1 hb2
    go_wp2_with fail
    refine (HSP.out _ _ _ _ _ _ w2 ho1).mono ?_
    rintro ex w3 ⟨A0, c0, rfl, hi0, hb3⟩
    have hw3 := Below.then_ hw2 hb3
    have hB3 := (hB1.below hb2).below hb3
    have hB3lt := hB3.lt
    have z0 := hB3.cell (i := 0) rfl
    have z1 := hB3.cell (i := 1) rfl
    have z2 := hB3.cell (i := 2) rfl
    clear y0 y1 y2 hB1
    go_wp2_with fail
    refine (toCave_own F G S D c d e w3 (hA.below hw3) HS.out).mono ?_
    rintro ex w4 ⟨g1, g2, g3, rfl, ho2, hb4⟩
    have hg3 := ho2.sil.lt
    have hB4 := hB3.below hb4
    have hw4 := Below.then_ hw3 hb4
    have hC := Blk.new w4 30 #[.slice (some ⟨g1, 0, none⟩) D.n D.n, .slice (some ⟨g2, 0, none⟩) D.q D.q, .slice (some ⟨g3, 0, none⟩) D.m D.m]
    have hw5 := below_alloc1 w4 (.cells #[.slice (some ⟨g1, 0, none⟩) D.n D.n, .slice (some ⟨g2, 0, none⟩) D.q D.q, .slice (some ⟨g3, 0, none⟩) D.m D.m] 30)
    have hB5 := hB4.alloc (.cells #[.slice (some ⟨g1, 0, none⟩) D.n D.n, .slice (some ⟨g2, 0, none⟩) D.q D.q, .slice (some ⟨g3, 0, none⟩) D.m D.m] 30)
    have hw5' := Below.then_ hw4 hw5
    have hltB := hB4.lt
    clear z0 z1 z2 hB3 hB4
    go_wp2_with fail
    refine (HIM.out _ _ _ _ _ _ _ (ho2.below hw5).at_).mono ?_
    rintro ex w6 ⟨A1, c1, rfl, hm1, hb6⟩
    have hw6 := Below.then_ hw5' hb6
    have hB6 := hB5.below hb6
    have hC6 := hC.below hb6
    have ho6 := (ho2.below hw5).below hb6
    have hb36 := Below.then_ (Below.then_ hb4 hw5) hb6
    simp only [World.size_alloc] at hm1
    go_wp2_with fail
    refine (RetB.yes (eqIntS_any A1 A0 _ c1 _ c0 _ _ w6 hm1.ints (hi0.below hb36) hll) ⟨rfl, fun _ _ => rfl⟩).mono ?_
    rintro ex w7 ⟨rfl, hb7⟩
    have hw7 := Below.then_ hw6 hb7
    have hB7 := hB6.below hb7
    have hC7 := hC6.below hb7
    have ho7 := ho6.below hb7
    have hm7 := hm1.below hb7
    have z0 := hB7.cell (i := 0) rfl
    have z1 := hB7.cell (i := 1) rfl
    have z2 := hB7.cell (i := 2) rfl
    have u0 := hC7.cell (i := 0) rfl
    have u1 := hC7.cell (i := 1) rfl
    have u2 := hC7.cell (i := 2) rfl
    have HO7 := hid (ho7.at_.below (Below.refl _ _).drew)
    have HA7 := hid ((hA.below hw7).below (Below.refl _ _).drew)
    clear hB5 hC hB6 hC6 ho6
    go_wp2
    go_region_held3 (fun v => (v.cell? ⟨w.heap.size, 0, none⟩ = some (.slice F D.n c) ∧ v.cell? ⟨w.heap.size, 1, none⟩ = some (.slice G D.q d) ∧ v.cell? ⟨w.heap.size, 2, none⟩ = some (.slice S D.m e)) ∧ v.cell? ⟨w4.heap.size, 0, none⟩ = some (.slice (some ⟨g1, 0, none⟩) D.n D.n) ∧ v.cell? ⟨w4.heap.size, 1, none⟩ = some (.slice (some ⟨g2, 0, none⟩) D.q D.q) ∧ v.cell? ⟨w4.heap.size, 2, none⟩ = some (.slice (some ⟨g3, 0, none⟩) D.m D.m)) (go_keep)
      (first | (go_at_call 11; refine (toCave_any F G S D c d e _ HA7.out HS.out).mono ?_; rintro ex w8 ⟨F3, G3, S3, rfl, ho8, hb8⟩; have ho8' := hid ho8; have hb8' := hid hb8; clear ho8 hb8
                have k0 := cell_below hb8'.out z0; have k1 := cell_below hb8'.out z1; have k2 := cell_below hb8'.out z2; have d0 := cell_below hb8'.out u0; have d1 := cell_below hb8'.out u1; have d2 := cell_below hb8'.out u2)
             | (go_at_call 14; refine (eqCave_yes _ _ _ _ _ _ D _ _ _ _ _ _ _ (HO7.out.below hb8'.out) ho8'.out HS.out).mono ?_; rintro ex w9 ⟨rfl, hb9⟩; have hb9' := hid hb9; clear hb9
                have e0 := cell_below hb9'.out k0; have e1 := cell_below hb9'.out k1; have e2 := cell_below hb9'.out k2; have f0 := cell_below hb9'.out d0; have f1 := cell_below hb9'.out d1; have f2 := cell_below hb9'.out d2))
    have hb79 := hid (Below.then_ (show Below w7.heap.size w7 w8 from (Below.refl _ _).drew.trans hb8'.out) hb9'.out)
    have hw9 := Below.then_ hw7 hb79.out
    have hB9 := hB7.below hb79.out
    have ho9 := ho7.below hb79.out
    have hm9 := hm7.below hb79.out
    have hb39 := Below.then_ (Below.then_ hb36 hb7) hb79.out
    clear z0 z1 z2 u0 u1 u2 hB7 hC7 ho7 hm7 HO7 HA7
    go_wp2_with fail
    refine (markCave_any _ g1 g2 g3 D w9 ho9 HS.out).mono ?_
    rintro ex w10 ⟨rfl, hk10⟩
    have hs3 : w.heap.size ≤ w3.heap.size := hw3.size
    have hs9 : w3.heap.size ≤ w9.heap.size := hb39.size
    have hw10 : Below w.heap.size w w10 := hw9.trans (hk10.below hs3 (Nat.le_trans hs3 hs9))
    have hb310 : Below w3.heap.size w3 w10 := hb39.trans (hk10.below (Nat.le_refl _) hs9)
    have hm10 := hm9.kept hk10 (.inr (by omega))
    have hB10 : Blk w10 w.heap.size 25 #[.slice F D.n c, .slice G D.q d, .slice S D.m e] := (hk10.block w.heap.size hB9.lt (.inl (by have := hB3lt; omega))).trans hB9
    have hnn : ¬ ((1 + D.n + D.q + 3 * D.m : Nat) : Int) < 0 := by omega
    have hdd : decide (((1 + D.n + D.q + 3 * D.m : Nat) : Int) < 0) = false := decide_eq_false hnn
    go_wp2_with fail
    refine (RetB.yes (eqIntS_any A1 A0 _ c1 _ c0 _ _ w10 hm10.ints (hi0.below hb310) hll) ⟨rfl, fun _ _ => rfl⟩).mono ?_
    rintro ex w11 ⟨rfl, hb11⟩
    have hw11 := Below.then_ hw10 hb11
    have hB11 := hB10.below hb11
    have hs10 := hb310.size
    have hs11 := hb11.size
    have hs34 := hb4.size
    go_wp2_with fail
    refine (markIntS_any A1 _ c1 _ _ _ 1 w11 (hm10.below hb11) hll (by omega)).mono ?_
    rintro ex w12 ⟨rfl, hm12, hk12⟩
    have hw12 : Below w.heap.size w w12 := hw11.trans (hk12.below (by omega) hw11.size)
    have hb312 : Below w3.heap.size w3 w12 := (Below.then_ hb310 hb11).trans (hk12.below (by omega) (by omega))
    have hB12 : Blk w12 w.heap.size 25 #[.slice F D.n c, .slice G D.q d, .slice S D.m e] := (hk12.block w.heap.size hB11.lt (.inl (by omega))).trans hB11
    have y0 := hB12.cell (i := 0) rfl
    have y1 := hB12.cell (i := 1) rfl
    have y2 := hB12.cell (i := 2) rfl
    go_wp2_with fail
    refine (heldIntS_any A1 _ c1 1 w12 hm12.ints hll (by omega)).mono ?_
    rintro ex w13 ⟨rfl, rfl⟩
    have hne : (((1 + l.length : Nat) : Int) != ((1 + l.length : Nat) : Int)) = false := by simp
    have hge : ¬ ((1 + l.length : Nat) : Int) < 0 := by omega
    go_wp2_with fail
    refine (toCave_any F G S D c d e w12 (hA.below hw12) HS.out).mono ?_
    rintro ex w14 ⟨F4, G4, S4, rfl, ho14, hb14⟩
    have hw14 := Below.then_ hw12 hb14
    go_wp2_with fail
    refine (HIM.out _ _ _ _ _ _ w14 ho14).mono ?_
    rintro ex w15 ⟨A2, c2, rfl, hm2, hb15⟩
    have hw15 := Below.then_ hw14 hb15
    go_wp2_with fail
    refine (RetB.yes (eqIntS_any A2 A0 _ c2 _ c0 _ _ w15 hm2.ints (((hi0.below hb312).below hb14).below hb15) hll) ⟨rfl, fun _ _ => rfl⟩).mono ?_
    rintro ex w16 ⟨rfl, hb16⟩
    have hw16 := Below.then_ hw15 hb16
    go_wp2_with fail
    refine (heldIntS_any A1 _ c1 1 w16 (((hm12.below hb14).below hb15).below hb16).ints hll (by omega)).mono ?_
    rintro ex w17 ⟨rfl, rfl⟩
    go_wp2
    go_ret
    exact ⟨rfl, hw16⟩

set_option maxRecDepth 100000 in
theorem ExactSillTree_lifted (os : Os) (started : os.Started) (H : Type) (enc : TypeId × Value → H) :
    ReturnsInHanded {} Try.checked os 7 .any (Rows.fnExactSillTreeSpec.pre6 enc Try.prog Try.f7 Rows.fnExactSillTreeRow.domain false) (Rows.fnExactSillTreeSpec.post enc Try.prog Try.f7 false true false false) := by
  refine returnsInHanded_of_change (C := Try.checked) own started (by kernel_rfl) Try.func7
    (ChangeSpec.witness6 (enc := enc) (C := Try.checked) false ⟨#[], #[.agg #[.slice none 0 0, .slice none 0 0, .slice none 0 0]], []⟩ 8 (by kernel_rfl) (by kernel_rfl) (by kernel_rfl) (by kernel_rfl)) ?_
  intro W base args ds gs before hval0 hW hcnd _
  have hval : ∀ (j : Nat) t v, Try.f7.params[j]? = some t → args[j]? = some v → Value.okWide Try.prog W .any base t v := hval0
  have hW' := hW
  obtain ⟨p, q, hA0, hV, rfl, hfz, hnd⟩ := hW
  have hA : DataW.TrodAll enc Try.prog W 0 (fun _ => true) true Try.f7.params.toList args.toList ds p := hA0
  rw [Try.params7] at hA hval
  obtain ⟨v0, vs0, d0, ds0, p0, q0, hargs, rfl, rfl, h0, r0⟩ := trodAll_cons hA
  obtain ⟨rfl, rfl, rfl⟩ := trodAll_nil r0
  obtain rfl : args = #[v0] := by cases args; simp_all
  obtain ⟨rfl, rfl⟩ := trodVars_none hV
  have k0 := h0
  obtain ⟨m0, hm0⟩ := k0
  have lt0 : ∀ x ∈ p0, x.block < W.heap.size := DataW.trod_lt m0 _ _ _ hm0
  obtain ⟨cs0, rfl, hz0⟩ := okWide_struct Try.underlying25 (hval 0 25 v0 rfl rfl)
  rw [cells25] at hz0
  obtain ⟨u0, u'0, u''0, rfl⟩ := agg3 hz0
  obtain ⟨F0, G0, S0, D0, x0, y0, z0, rfl, rfl, rfl, hp0, hn0, hq0, hl0⟩ := open_Cave hm0
  clear hA0 hval0
  refine (ExactSillTree_walk _ _ _ D0 _ _ _ W hp0 hn0 hq0 hl0).mono fun e W' ⟨he, bel⟩ => ?_
  subst he
  exact ⟨_, rfl, _, _, _, [], _, [], hW', trodAll_mk1 (shut_bool Try.underlying4 _), (trodAll_cons_mk (Below.trod laidOut (by kernel_rfl) (of_decide_eq_true (by kernel_rfl)) h0 bel lt0) trodAll_mk0), rfl, bel.frame _, fun h => by cases h⟩

theorem ExactSillTree_holds : Rows.FnExactSillTreeSaid :=
  OpenClaim.holds_of_wide 7 Try.f7 rfl rfl rfl rfl rfl rfl rfl ⟨rfl, rfl, rfl, rfl, rfl⟩ rfl rfl rfl rfl rfl (by kernel_rfl) Try.func7 (by kernel_rfl)
    (of_decide_eq_true (by kernel_rfl)) (by unfold Func.isWrapper; first | (rw [if_pos (by decide +kernel)]; kernel_rfl) | (rw [if_neg (by decide +kernel)]; exact ⟨rfl, rfl⟩))
    (fun os started H enc _ => ExactSillTree_lifted os started H enc)
#print axioms ExactSillTree_holds
end Go.Proofs.Ytahbfifnpceoeaa
