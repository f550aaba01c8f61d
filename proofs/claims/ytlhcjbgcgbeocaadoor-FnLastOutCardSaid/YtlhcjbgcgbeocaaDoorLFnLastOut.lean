/- FnLastOut: more exits are never worse. -/
import Derived.Test.YtlhcjbgcgbeocaaDoorLaw
import Derived.Test.YtlhcjbgcgbeocaaDoorFnW
import Derived.Test.YtlhcjbgcgbeocaaDoorLast
import Derived.Test.YtlhcjbgcgbeocaaDoorDep2
import Derived.Deep.RegionHeld3
namespace Go.Proofs.YtlhcjbgcgbeocaaDoor
open Go.ChangeShapes Go.WideShapes Go.ChangeAt Go.RowKit

theorem ints_news {W : World} {b o n : Nat} {x : Nat → Int} (hc : ∀ j, j < n → W.cell? ⟨b, o + j, none⟩ = some (.int .i64 (x j))) :
    ∀ j u, ((List.range n).map fun j => Value.int .i64 (x j))[j]? = some u → W.cell? ((⟨b, o, none⟩ : Addr).add j) = some u := fun j u hu => by
  by_cases hj : j < n
  · simp [hj] at hu
    subst hu
    rw [Addr.add_lit]
    exact hc j hj
  · have : ((List.range n).map fun j => Value.int .i64 (x j))[j]? = none := by simp; omega
    rw [this] at hu
    cases hu
theorem ints_one {n : Nat} {x : Nat → Int} : ∀ u ∈ (List.range n).map fun j => Value.int .i64 (x j), u.oneCell' = true := fun u hu => by
  obtain ⟨j, _, rfl⟩ := List.mem_map.1 hu
  rfl
theorem one_news {W : World} {b : Nat} {t : TypeId} {k : Int} (h : Blk W b t #[.int .i64 k]) : ∀ j u, [Value.int .i64 k][j]? = some u → W.cell? ((⟨b, 0, none⟩ : Addr).add j) = some u := fun j u hu => by
  match j, hu with
  | 0, hu => simp at hu; subst hu; rw [Addr.add_lit]; exact h.cell rfl
theorem own_ints_app {w : World} {B n : Nat} {x : Nat → Int} {k : Int} {v : Value} (h : w.ownsRow B 3 1 v (n + 1) (((List.range n).map fun j => Value.int .i64 (x j)) ++ [.int .i64 k])) :
    ∃ A c, v = .slice A (n + 1) c ∧ Ints w A (n + 1) (fun j => if j < n then x j else k) := by
  have e1 : ((List.range n).map x ++ [k]).length = n + 1 := by simp
  have h' : OwnL w B v ((List.range n).map x ++ [k]) := by
    unfold OwnL
    rw [e1]
    simpa [List.map_append, Function.comp_def] using h
  obtain ⟨A, c, hv, hi⟩ := h'.ints
  rw [e1] at hv hi
  refine ⟨A, c, hv, hi.congr (fun j hj => ?_)⟩
  by_cases hj' : j < n
  · simp [List.getD, hj', List.getElem?_append]
  · have : j = n := by omega
    subst this
    simp [List.getD]

theorem own_base {w : World} {B B' : Nat} {e : TypeId} {size : Nat} {v : Value} {n : Nat} {xs : List Value} (h : Own w B e size v n xs) (hB : B' ≤ B) : Own w B' e size v n xs := by
  refine ⟨h.1, ?_⟩
  rcases h.2 with hn | ⟨g, cap, cur, hv, hb, rest⟩
  · exact .inl hn
  · exact .inr ⟨g, cap, cur, hv, by omega, rest⟩

set_option maxRecDepth 20000 in
set_option maxHeartbeats 4000000 in
theorem FnLastOut_walk (A : Option Addr) (n c0 : Nat) (y : Nat → Int) (w : World) (htab : Pow10 w) (hx : Bytes w A n y) (hn : n ≤ c0) (hy : ∀ j, 0 ≤ y j ∧ y j < 256) :
    Calls Tryd.prog 6 #[.slice A n c0] w (RetV (.bool true) w) := by
  by_cases hbig : (n : Int) > 1048576
  · go_enter Tryd.func6, Tryd.ntmps6
    go_wp2
    go_ret
    exact ⟨rfl, Below.refl _ _⟩
  · go_enter Tryd.func6, Tryd.ntmps6
    go_wp2_with fail
    refine (DrawLastOut_any A n c0 y w hx hy hn).mono ?_
    rintro e w1 ⟨P, Q, D, c, d, A2, n2, c2, x, rfl, hD, hi, hn2, hxb⟩
    have hs := hD.small
    have hm := hD.sm
    have H1 := hid (LwI.start (d := d) htab hD rfl)
    have HI1 := hid hi
    clear hx hD htab hxb hi
    go_wp2_with fail
    have HI2 := hid (HI1.out.alloc (.cells #[.int .i64 D.s, .slice P D.m c, .slice Q D.k d] 26))
    clear HI1
    generalize w1.alloc (.cells #[.int .i64 D.s, .slice P D.m c, .slice Q D.k d] 26) = w2 at H1 HI2 ⊢
    generalize w1.heap.size = X at H1 ⊢
    refine (LastOut_impl P Q D c d A2 n2 c2 x _ H1.out.srch hs HI2.out (by omega)).mono ?_
    rintro e w3 ⟨rfl, hb3⟩
    have H3 := hid (H1.out.then_ hb3)
    have HI3 := hid (HI2.out.below hb3)
    clear hb3 H1 HI2
    have y0 := H3.out.box.cell (i := 0) rfl
    have y1 := H3.out.box.cell (i := 1) rfl
    have y2 := H3.out.box.cell (i := 2) rfl
    go_wp2_with fail
    refine (LastOut_spec P Q D c d A2 n2 c2 x _ H3.out.srch hs HI3.out (by omega)).mono ?_
    rintro e w4 ⟨rfl, hb4⟩
    have H4 := hid (H3.out.then_ hb4)
    have HI4 := hid (HI3.out.below hb4)
    clear hb4 H3 HI3 y0 y1 y2
    have hr0 : (lastF D x n2 != lastF D x n2) = false := by simp
    by_cases hneg : lastF D x n2 < 0
    · have hr1 : lastF D x n2 = -1 := by rcases lastF_lo D x n2 with h | ⟨h, _⟩ <;> omega
      go_wp2_with fail
      refine (alive_any _ H4.out.tab).mono ?_
      rintro e w5 ⟨rfl, hb5⟩
      go_wp2
      go_ret
      exact ⟨rfl, (H4.out.then_ hb5).bel⟩
    · have h0 : 0 ≤ lastF D x n2 := by omega
      obtain ⟨hn0, hxin⟩ := lastF_in h0
      have hok : SrchOk D := by rcases lastF_lo D x n2 with h | ⟨_, h, _⟩
                                · omega
                                · exact h
      have HSK := hid hok.2.2.1
      have HALL := hid (lastF_all hok)
      have HMORE : Hid (∀ k : Nat, k < D.k → 0 ≤ lastF D (fun j => if j < n2 then x j else (k : Int)) (n2 + 1) ∧ lastF D (fun j => if j < n2 then x j else (k : Int)) (n2 + 1) ≤ lastF D x n2) := hid (fun k hk => lastF_more
        (fun j hj => ⟨j, by omega, by simp [hj]⟩) (fun j hj => by
          by_cases hj' : j < n2
          · simp only [hj', if_true]; exact hxin j hj'
          · simp only [hj', if_false]; have := hok.2.2.1; omega) h0)
      have hb4 := hid (Joins.below_alloc1 w4 (.cells #[] 3))
      have HO5 : Hid (OwnL (w4.alloc (.cells #[] 3)) w4.heap.size (.slice (some ⟨w4.heap.size, 0, none⟩) 0 0) []) := OwnL.lit0 w4 (Nat.le_refl _) #[] rfl
      obtain ⟨i0, hi, hz0, hz1, hz2⟩ := info_parts info3
      clear hxin hok hr0
      go_wp2
      generalize lastF D x n2 = r at *
      go_loopw [6, 7] (fun v i wr => ∃ k : Nat, k ≤ D.k ∧ i = .int .i64 k ∧ Hid (Below w4.heap.size w4 wr) ∧ Hid (OwnL wr w4.heap.size v ((List.range k).map fun (j : Nat) => (j : Int)))) (fun _ i _ => D.k - (intOf i).toNat)
      case atStart => exact ⟨0, by omega, rfl, hb4, HO5⟩
      case round =>
        clear hb4 HO5
        obtain ⟨k, hk, rfl, HB, HO⟩ := hrel
        have HX := hid (H4.out.then_ HB.out)
        have y0 := HX.out.box.cell (i := 0) rfl
        have y1 := HX.out.box.cell (i := 1) rfl
        have y2 := HX.out.box.cell (i := 2) rfl
        by_cases hlt : k < D.k
        · have hltz : (k : Int) < D.s := by have := HSK.out; omega
          obtain ⟨A1, c1, hv1, _⟩ := HO.out.ints
          subst hv1
          have hBw := HB.out.size
          go_wp2_with (at_builtin; refine app_int rfl _ _ rfl w4.heap.size _ _ rfl (HO.out.alloc _) wr.heap.size k rfl (by simp) (by simp; omega) (by simp; omega) ?_)
          intro v' w6 hown' hbel'
          have HB6 := hid (hbel' w4 (HB.out.alloc hBw (.cells #[.int .i64 k] 3)))
          have HO6 : Hid (OwnL w6 w4.heap.size v' ((List.range (k + 1)).map fun (j : Nat) => (j : Int))) := by
            rw [List.range_succ, List.map_append]
            exact hown'
          clear hown' hbel' HB HX HO y0 y1 y2 hBw
          have HX := hid (H4.out.then_ HB6.out)
          have hlX := HX.out.box.lt
          have y0 := HX.out.box.cell (i := 0) rfl
          have y1 := HX.out.box.cell (i := 1) rfl
          have y2 := HX.out.box.cell (i := 2) rfl
          obtain ⟨bi, oi, hA2, hic⟩ := (HI4.out.below HB6.out) hn0
          subst hA2
          have HIC : Hid (∀ j, j < n2 → w6.cell? ⟨bi, oi + j, none⟩ = some (.int .i64 (x j))) := hic
          clear hic
          have HC : Hid (∀ W, Below w6.heap.size w6 W → ∀ j u, ((List.range n2).map fun j => Value.int .i64 (x j))[j]? = some u → W.cell? ((⟨bi, oi, none⟩ : Addr).add j) = some u) := fun W hW => ints_news (fun j hj => cell_below hW (HIC.out j hj))
          have hne1 : X ≠ w6.heap.size := by omega
          have hne2 : w6.heap.size ≠ X := by omega
          have hne3 : X ≠ w6.heap.size + 1 := by omega
          have hne4 : w6.heap.size + 1 ≠ X := by omega
          go_wp2
          go_region_held3 (fun v => v.cell? ⟨X, 0, none⟩ = some (.int .i64 D.s) ∧ v.cell? ⟨X, 1, none⟩ = some (.slice P D.m c) ∧ v.cell? ⟨X, 2, none⟩ = some (.slice Q D.k d)) (go_keep)
                (first
                | (refine step_append_grows rfl (.tmp 44) (.tmp 45) 36 rfl 3 i0 (.int .i64 0) 1 8 Tryd.underlying36 hi hz0 hz1 hz2 rfl (by decide) _ 0 0 [] rfl (fun _ => ⟨rfl, rfl⟩) rfl (fun _ _ j u hu => by simp at hu) ⟨bi, oi, none⟩ n2 c2 _ rfl (by simp) (HC.out _ (by repeat (first | exact Below.refl _ _ | refine Below.drew ?_ | refine Below.alloc ?_ (by simp <;> omega) _))) ints_one (by omega) (by unfold maxLen; omega) (by omega) ?_; intro v7 w7 hown7 hg7
                   simp only [Nat.zero_add, List.nil_append] at hown7
                   have hown7 := own_base (B' := w6.heap.size) hown7 (by simp <;> omega)
                   obtain ⟨A7, c7, rfl⟩ := own_form hown7
                   have HO7 := hid hown7
                   have hb7 : Hid (Below w6.heap.size w6 w7) := Below.grown (by repeat (first | exact Below.refl _ _ | refine Below.drew ?_ | refine Below.alloc ?_ (by simp <;> omega) _)) hg7 (by simp <;> omega) (fun k hk => by cases hk)
                   have c0 := cell_below hb7.out y0
                   have c1 := cell_below hb7.out y1
                   have c2 := cell_below hb7.out y2
                   have hs7 := hb7.out.size
                   try (have nb7 := hid (blk_grown_B (z := #[.int .i64 k]) hg7))
                   try (have nb7 := hid (blk_grown_C (z := #[.int .i64 k]) hg7))
                   clear hown7 hg7)
                | (refine step_append_own rfl (.tmp 46) (.tmp 48) 36 rfl w6.heap.size 3 i0 (.int .i64 0) 1 8 Tryd.underlying36 hi hz0 hz1 hz2 rfl (by decide) _ n2 _ rfl (World.ownsRow.alloc HO7.out _) _ 1 1 [.int .i64 k] rfl rfl (one_news (Blk.new _ _ _)) (fun u hu => by simp at hu; subst hu; rfl) (by unfold maxLen; omega) (by omega) (by simp <;> omega) ?_; intro v8 w8 hown8 hg8 _
                   obtain ⟨A8, c8, rfl, hi8⟩ := own_ints_app hown8
                   have hi8 := hid hi8
                   have hb8 : Hid (Below w6.heap.size w6 w8) := Below.grown (hb7.out.alloc hs7 _) hg8 (by simp <;> omega) (fun k hk => (World.ownsRow.lt HO7.out k hk).1)
                   have c0 := cell_below hb8.out y0
                   have c1 := cell_below hb8.out y1
                   have c2 := cell_below hb8.out y2
                   clear hown8 hg8)
                | (refine step_append_own rfl (.tmp 46) (.tmp 48) 36 rfl w6.heap.size 3 i0 (.int .i64 0) 1 8 Tryd.underlying36 hi hz0 hz1 hz2 rfl (by decide) _ n2 _ rfl HO7.out _ 1 1 [.int .i64 k] rfl rfl (one_news nb7.out) (fun u hu => by simp at hu; subst hu; rfl) (by unfold maxLen; omega) (by omega) (by omega) ?_; intro v8 w8 hown8 hg8 _
                   obtain ⟨A8, c8, rfl, hi8⟩ := own_ints_app hown8
                   have hi8 := hid hi8
                   have hb8 : Hid (Below w6.heap.size w6 w8) := Below.grown hb7.out hg8 hs7 (fun k hk => (World.ownsRow.lt HO7.out k hk).1)
                   have c0 := cell_below hb8.out y0
                   have c1 := cell_below hb8.out y1
                   have c2 := cell_below hb8.out y2
                   clear hown8 hg8)
                | (go_at_call 25; (with_reducible refine (LastOut_impl P Q D c d A8 (n2 + 1) c8 _ _ (HX.out.srch.below hb8.out) hs hi8.out (by omega)).mono ?_); rintro e w9 ⟨rfl, hb9⟩; have HB9 := hid (Below.then_ hb8.out hb9); have c0 := cell_below HB9.out y0; have c1 := cell_below HB9.out y1; have c2 := cell_below HB9.out y2; clear hb9))
          all_goals
            have hq := HMORE.out k hlt
            obtain ⟨hq1, hq2⟩ := hq
            have hd1 : decide (lastF D (fun j => if j < n2 then x j else (k : Int)) (n2 + 1) < 0) = false := decide_eq_false (by omega)
            have hd2 : decide (r < lastF D (fun j => if j < n2 then x j else (k : Int)) (n2 + 1)) = false := decide_eq_false (by omega)
            have HBE := hid (HB6.out.trans (HB9.out.mono HB6.out.size))
            have HOE := hid (HO6.out.below HB9.out)
            go_wp2
            go_roundw
            case rel => exact ⟨k + 1, by omega, by go_num, HBE, HOE⟩
            case measure => simp [intOf]; omega
        · have hnlt : ¬ ((k : Int) < D.s) := by have := HSK.out; omega
          have hke : k = D.k := by omega
          subst hke
          obtain ⟨A1, c1, hv1, hi1⟩ := HO.out.ints
          subst hv1
          have e1 : ((List.range D.k).map fun (j : Nat) => (j : Int)).length = D.k := by simp
          rw [e1] at hi1
          have hi2 : Ints wr A1 D.k (fun j => (j : Int)) := hi1.congr (fun j hj => by simp [List.getD, hj])
          go_wp2_with fail
          refine (LastOut_impl P Q D c d A1 D.k c1 (fun j => (j : Int)) _ HX.out.srch hs hi2 (by omega)).mono ?_
          rintro e w9 ⟨rfl, hb9⟩
          have hz := HALL.out
          go_wp2
          go_ret
          exact ⟨rfl, (HX.out.then_ hb9).bel⟩

set_option maxRecDepth 100000 in
theorem FnLastOut_lifted (os : Os) (started : os.Started) (H : Type) (enc : TypeId × Value → H) :
    ReturnsInHanded {} Tryd.checked os 6 .any (fun w args => (Rows.fnLastOutSpec.pre enc Tryd.prog Tryd.f6 [] false w args ∧ laidMetH Tryd.prog Rows.fnLastOutRow.laid w) ∧ sizedMet enc Tryd.prog Tryd.f6 (OpenSpec.ofChange Rows.fnLastOutSpec) false w args)
      (Rows.fnLastOutSpec.post enc Tryd.prog Tryd.f6 false true false false) := by
  refine returnsInHanded_of_change_and (C := Tryd.checked) (X := fun w _ => laidMetH Tryd.prog Rows.fnLastOutRow.laid w) (fun _ _ _ hh h => h.of_heap hh) own started (by kernel_rfl) Tryd.func6
    (ChangeSpec.witness_shaped (enc := enc) (C := Tryd.checked) (os := os) (X := fun w _ => laidMetH Tryd.prog Rows.fnLastOutRow.laid w) false (World.doorLaid Tryd.prog 24 os) #[.slice none 0 0] 8 rfl (World.shaped_of_RefB (by kernel_rfl) (by kernel_rfl)) (by kernel_rfl) (by kernel_rfl) (by kernel_rfl)
      (laidMetH_of_parts3 (fuel := 8) (laidMet_of_run' 8 (by kernel_rfl) (by kernel_rfl)) (by kernel_rfl) (by kernel_rfl))) ?_
  intro W base args ds gs before hval0 hW _ _ hL _
  have hval : ∀ (j : Nat) t v, Tryd.f6.params[j]? = some t → args[j]? = some v → Value.okWide Tryd.prog W .any base t v := hval0
  have hW' := hW
  obtain ⟨p, q, hA0, hV, rfl, hfz, hnd⟩ := hW
  have hA : DataW.TrodAll enc Tryd.prog W 0 (fun _ => true) true Tryd.f6.params.toList args.toList ds p := hA0
  rw [Tryd.params6] at hA hval
  obtain ⟨v0, vs0, d0, ds0, p0, q0, hargs, rfl, rfl, h0, r0⟩ := trodAll_cons hA
  obtain ⟨rfl, rfl, rfl⟩ := trodAll_nil r0
  obtain rfl : args = #[v0] := by cases args; simp_all
  obtain ⟨rfl, rfl⟩ := trodVars_none hV
  have k0 := h0
  obtain ⟨m0, hm0⟩ := k0
  have lt0 : ∀ x ∈ p0, x.block < W.heap.size := DataW.trod_lt m0 _ _ _ hm0
  obtain ⟨a0, len0, cap0, rfl⟩ := okWide_slice Tryd.underlying22 (hval 0 22 v0 rfl rfl)
  obtain ⟨A0, n0, c0, y0, hv0, hp0, hn0, hl0⟩ := open_Bytes (v := .slice a0 len0 cap0) Tryd.underlying22 Tryd.underlying5 (by kernel_rfl) hm0
  simp only [Value.slice.injEq] at hv0
  obtain ⟨rfl, rfl, rfl⟩ := hv0
  clear hA0 hval0
  have htab := tab_of_laid hL
  refine (FnLastOut_walk _ _ _ y0 W htab hp0 hn0 hl0).mono fun e W' ⟨he, bel⟩ => ?_
  subst he
  exact ⟨_, rfl, _, _, _, [], _, [], hW', trodAll_mk1 (shut_bool Tryd.underlying4 _), (trodAll_cons_mk (Below.trod laidOut (by kernel_rfl) (of_decide_eq_true (by kernel_rfl)) h0 bel lt0) trodAll_mk0), rfl, bel.frame _, fun h => by cases h⟩

theorem FnLastOut_row : Rows.FnLastOutSaid :=
  OpenClaim.holds_of_wide 6 Tryd.f6 rfl rfl rfl rfl rfl rfl rfl ⟨rfl, rfl, rfl, rfl, rfl⟩ rfl rfl rfl rfl rfl (by kernel_rfl) Tryd.func6 (by kernel_rfl)
    (of_decide_eq_true (by kernel_rfl)) (by unfold Func.isWrapper; first | (rw [if_pos (by decide +kernel)]; kernel_rfl) | (rw [if_neg (by decide +kernel)]; exact ⟨rfl, rfl⟩))
    (fun os started H enc _ => FnLastOut_lifted os started H enc)
theorem FnLastOut_holds : Rows.FnLastOutCardSaid :=
  Claim7.holds_tied_plain_at .later [] [.data, .data, .data] true (true, "9a40d749f94adb9d5418125119b5fe0381ba681992067a3458f9e82ceadcb754") false
    FnLastOut_row (fun _ h => by cases h) (by kernel_rfl) (fun _ h => by cases h) fnLastOut_row_tie rfl ⟨rfl, rfl⟩ (by kernel_rfl) rfl
    (fun f fn hf hfn => by
      obtain rfl : f = 6 := Option.some.inj ((show Tryd.prog.funcNamed "loop.example/cavesurvey/laws.FnLastOut" = some 6 by kernel_rfl).symm.trans hf) |>.symm
      obtain rfl : fn = Tryd.f6 := (Option.some.inj (Tryd.func6.symm.trans hfn)).symm
      exact ⟨by kernel_rfl, fun j t ht => by
        rw [Tryd.params6] at ht
        have hm : t ∈ [22] := by simpa using Array.mem_of_getElem? ht
        have hall : ([22].all fun u => !Tryd.prog.wantsStandIn u) = true := by kernel_rfl
        exact (show Tryd.prog.wantsStandIn t = false by simpa using List.all_eq_true.1 hall t hm)⟩)
    (by kernel_rfl)
#print axioms FnLastOut_holds
end Go.Proofs.YtlhcjbgcgbeocaaDoor
