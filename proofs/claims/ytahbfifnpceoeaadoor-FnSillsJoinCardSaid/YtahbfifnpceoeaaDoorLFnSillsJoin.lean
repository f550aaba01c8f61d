/- FnSillsJoin: the lowest sills that join are SillTree's. -/
import Derived.Test.YtahbfifnpceoeaaDoorLawH
import Derived.Deep.RegionHeld3
namespace Go.Proofs.YtahbfifnpceoeaaDoor
open Go.ChangeShapes Go.WideShapes Go.ChangeAt Go.RowKit

theorem sumH_snoc (h : Nat → Int) (k : Nat) : ∀ l : List Nat, sumH h (l ++ [k]) = sumH h l + h k
  | [] => by simp [sumH]
  | x :: l => by show h x + sumH h (l ++ [k]) = h x + sumH h l + h k; rw [sumH_snoc h k l]; omega
theorem shF_sum (D : CaveD) (y : Nat → Int) : ∀ n, shF D y n = sumH D.h (idxL y n)
  | 0 => by simp [shF, idxL, sumH]
  | n + 1 => by rw [shF, shF_sum D y n, idxL_succ, sumH_snoc]
theorem el_range {D : CaveD} (hok : CaveOk D) (x y : Nat) : EL D.A D.B (useL D.h 40 D.m) x y ↔ EL D.A D.B (List.range D.m) x y :=
  ⟨fun ⟨k, hk, e⟩ => ⟨k, List.mem_range.2 ((mem_useL D.h 40 k D.m).1 hk).1, e⟩, fun ⟨k, hk, e⟩ => ⟨k, (mem_useL D.h 40 k D.m).2 ⟨List.mem_range.1 hk, (sill_h hok (List.mem_range.1 hk)).2⟩, e⟩⟩
theorem idx_lt {D : CaveD} {n : Nat} {y : Nat → Int} (h : SomeOk D n y) {k : Nat} (hk : k ∈ idxL y n) : k < D.m := by
  obtain ⟨j, hj, rfl⟩ := mem_idxL.1 hk
  have := h j hj
  omega
theorem sj_iff {D : CaveD} {n : Nat} {y : Nat → Int} (hok : CaveOk D) (h : SomeOk D n y) : (∀ v, v < D.n → partL D.A D.B (idxL y n) v = poolF D 40 v) ↔ ∀ x z, x < D.n → z < D.n → (Cn (EL D.A D.B (idxL y n)) x z ↔ Cn (EL D.A D.B (List.range D.m)) x z) := by
  have p1 : PartOf D.n (partL D.A D.B (idxL y n)) (EL D.A D.B (idxL y n)) := partL_of D.A D.B _ fun k hk => sill_lt hok (idx_lt h hk)
  have p2 : PartOf D.n (poolF D 40) (EL D.A D.B (List.range D.m)) := (pool_part hok 40).congr (fun x y => el_range hok x y)
  refine ⟨fun he x z hx hz => ?_, fun hc v hv => p1.uniq p2 hc hv⟩
  rw [← p1.iff x z hx hz, ← p2.iff x z hx hz, he x hx, he z hz]
theorem sj_all {D : CaveD} (hok : CaveOk D) : SjOk D D.m (fun j => (j : Int)) := by
  have hs : SomeOk D D.m (fun j => (j : Int)) := fun j hj => ⟨by show (0 : Int) ≤ (j : Int); omega, by show (j : Int) < (D.m : Int); omega⟩
  refine ⟨hok, hs, (sj_iff hok hs).2 fun x z _ _ => ?_⟩
  have e : idxL (fun j => (j : Int)) D.m = List.range D.m := by simp [idxL]
  rw [e]
theorem sj_least {D : CaveD} {n : Nat} {y : Nat → Int} (h : SjOk D n y) : sumH D.h (treeF D) ≤ shF D y n := by
  rw [shF_sum]
  exact (treeF_ok h.1).least (fun k hk => sill_h h.1 (List.mem_range.1 hk)) (fun k hk => List.mem_range.2 (idx_lt h.2.1 hk)) ((sj_iff h.1 h.2.1).1 h.2.2)
def trF (D : CaveD) (j : Nat) : Int := (toZ (treeF D)).getD j 0
theorem tree_some (D : CaveD) : SomeOk D (treeF D).length (trF D) := fun j hj => by
  unfold trF
  have hm := treeF_m (D := D) (k := (treeF D).getD j 0) (by simp [List.getD, hj])
  simp only [toZ_get _ hj]
  omega
theorem tree_sum {D : CaveD} (hok : CaveOk D) : shV D (treeF D).length (trF D) = sumH D.h (treeF D) := by
  rw [shV_yes ⟨hok, tree_some D⟩, shF_sum]
  exact congrArg _ (idxL_toZ _)
theorem tree_sum0 {D : CaveD} (hok : CaveOk D) : 0 ≤ sumH D.h (treeF D) := by
  rw [← tree_sum hok, shV_yes ⟨hok, tree_some D⟩]
  exact (shF_bd hok (tree_some D) _ (Nat.le_refl _)).1

set_option maxRecDepth 20000 in
set_option maxHeartbeats 4000000 in
theorem FnSillsJoin_walk (A : Option Addr) (n c0 : Nat) (y : Nat → Int) (w : World) (htab : Pow10 w) (hx : Bytes w A n y) (hn : n ≤ c0) (hy : ∀ j, 0 ≤ y j ∧ y j < 256) :
    Calls Tryd.prog 4 #[.slice A n c0] w (RetV (.bool true) w) := by
  by_cases hbig : (n : Int) > 1048576
  · go_enter Tryd.func4, Tryd.ntmps4
    go_wp2
    go_ret
    exact ⟨rfl, Below.refl _ _⟩
  · go_enter Tryd.func4, Tryd.ntmps4
    go_wp2_with fail
    refine (DrawSillsJoin_any A n c0 y w hx hy hn).mono ?_
    rintro ex w1 ⟨F, G, S, D, c, d, e, A2, n2, c2, yy, rfl, hD, hlist, hn2, hyb⟩
    have hs := hD.small
    have hsm := hD.sm
    have H1 := hid (LwC.start (c := c) (d := d) htab hD rfl)
    clear hx hD htab
    have HI1 := hid ((hlist.at_).alloc (.cells #[.slice F D.n c, .slice G D.q d, .slice S D.m e] 26))
    clear hlist
    go_wp2_with fail
    generalize w1.alloc (.cells #[.slice F D.n c, .slice G D.q d, .slice S D.m e] 26) = w2 at H1 HI1 ⊢
    generalize w1.heap.size = X at H1 ⊢

    by_cases hok : CaveOk D
    · by_cases hsj : SjOk D n2 yy
      · have hle : sumH D.h (treeF D) ≤ shV D n2 yy := by rw [shV_yes ⟨hsj.1, hsj.2.1⟩]; exact sj_least hsj
        refine (RetB.yes (SillsJoin_impl F G S D c d e A2 n2 c2 yy _ H1.out.cave hs HI1.out (by omega)) hsj).mono ?_
        rintro ex w3 ⟨rfl, hb'⟩
        have H2 := hid (H1.out.then_ hb')
        replace HI1 := hid (HI1.out.below hb')
        clear hb' H1
        have y0 := H2.out.box.cell (i := 0) rfl
        have y1 := H2.out.box.cell (i := 1) rfl
        have y2 := H2.out.box.cell (i := 2) rfl
        go_wp2_with fail
        refine (RetB.yes (SillsJoin_spec F G S D c d e A2 n2 c2 yy _ H2.out.cave hs HI1.out (by omega)) hsj).mono ?_
        rintro ex w3b ⟨rfl, hb'⟩
        have H2b := hid (H2.out.then_ hb')
        replace HI1 := hid (HI1.out.below hb')
        clear hb' H2
        have y0 := H2b.out.box.cell (i := 0) rfl
        have y1 := H2b.out.box.cell (i := 1) rfl
        have y2 := H2b.out.box.cell (i := 2) rfl
        go_wp2_with fail
        refine (RetB.yes (CaveValid_spec F G S D c d e _ H2b.out.cave hs) hok).mono ?_
        rintro ex w4 ⟨rfl, hb'⟩
        have H3 := hid (H2b.out.then_ hb')
        replace HI1 := hid (HI1.out.below hb')
        clear hb' H2b
        have y0 := H3.out.box.cell (i := 0) rfl
        have y1 := H3.out.box.cell (i := 1) rfl
        have y2 := H3.out.box.cell (i := 2) rfl
        have HO0 : Hid (OwnL (w4.alloc (.cells #[] 3)) w4.heap.size (.slice (some ⟨w4.heap.size, 0, none⟩) 0 0) []) := OwnL.lit0 w4 (Nat.le_refl _) #[] rfl
        have HB0 := hid (below_alloc1 w4 (.cells #[] 3))
        have HALL := hid (sj_all hok)
        have HOK := hid hok
        have hm9 := hok.2.2.1
        have hz0 := tree_sum0 hok
        have hts := hid (tree_sum hok)
        have htl := treeF_len D
        have hq0 := trivial
        clear hok hsj
        go_wp2
        clear y0 y1 y2
        go_loopw [6, 7] (fun v i wr => ∃ k : Nat, k ≤ D.m ∧ i = .int .i64 k ∧ Hid (Below w4.heap.size w4 wr) ∧ Hid (OwnL wr w4.heap.size v ((List.range k).map fun (j : Nat) => (j : Int)))) (fun _ i _ => D.m - (intOf i).toNat)
        case atStart => exact ⟨0, by omega, rfl, HB0, HO0⟩
        case round =>
          clear HB0 HO0
          obtain ⟨k, hk, rfl, HB, HO⟩ := hrel
          have HX := hid (H3.out.then_ HB.out)
          have y0 := HX.out.box.cell (i := 0) rfl
          have y1 := HX.out.box.cell (i := 1) rfl
          have y2 := HX.out.box.cell (i := 2) rfl
          obtain ⟨A1, c1, hv1, hi1⟩ := HO.out.ints
          subst hv1
          have HI5 := hid hi1
          clear hi1
          by_cases hlt : k < D.m
          · have hltz : (k : Int) < (D.m : Int) := by omega
            have hBw := HB.out.size
            go_wp2_with (at_builtin; refine app_int rfl _ _ rfl w4.heap.size _ _ rfl (HO.out.alloc _) wr.heap.size k rfl (by simp) (by simp; omega) (by simp; omega) ?_)
            intro v' w6 hown' hbel'
            have HB6 := hid (hbel' w4 (HB.out.alloc hBw (.cells #[.int .i64 k] 3)))
            have HO6 : Hid (OwnL w6 w4.heap.size v' ((List.range (k + 1)).map fun (j : Nat) => (j : Int))) := by
              rw [List.range_succ, List.map_append]
              exact hown'
            clear hown' hbel' HB HX HO y0 y1 y2 hBw HI5
            go_wp2
            go_roundw
            case rel => exact ⟨k + 1, by omega, by go_num, HB6, HO6⟩
            case measure => simp [intOf] <;> omega
          · have hke : k = D.m := by omega
            subst hke
            have e1 : ((List.range D.m).map fun (j : Nat) => (j : Int)).length = D.m := by simp
            have hi2 : Ints wr A1 D.m (fun j => (j : Int)) := by
              have h := HI5.out
              rw [e1] at h
              exact h.congr (fun j hj => by simp [List.getD, hj])
            have HI2 := hid hi2
            have HXd := hid (HX.out.then_ (Below.refl _ _).drew)
            have HI3 := hid (HI1.out.below HB.out)
            rw [e1]
            clear hi2 HI5 HO e1
            go_wp2
            go_region_held3 (fun W => W.cell? ⟨X, 0, none⟩ = some (.slice F D.n c) ∧ W.cell? ⟨X, 1, none⟩ = some (.slice G D.q d) ∧ W.cell? ⟨X, 2, none⟩ = some (.slice S D.m e)) (go_keep) (first
                | (go_at_call 15; (with_reducible refine (SillTree_impl F G S D c d e _ HXd.out.cave hs HOK.out).mono ?_); rintro ex w7 ⟨A7, c7, rfl, hm7, hb7⟩; have HT7 : Hid (Ints w7 A7 (treeF D).length (trF D)) := hid hm7.ints; have H7 := hid (HXd.out.then_ hb7); have hb7' := hid ((Below.refl wr.heap.size wr).drew.trans hb7); have c0 := H7.out.box.cell (i := 0) rfl; have c1' := H7.out.box.cell (i := 1) rfl; have c2' := H7.out.box.cell (i := 2) rfl; clear hb7 hm7)
                | (go_at_call 24; (with_reducible refine (SillsHigh_implV F G S D c d e A7 _ c7 _ _ H7.out.cave hs HT7.out (by omega)).mono ?_); rintro ex w8 ⟨rfl, hb8⟩; have H9 := hid (H7.out.then_ hb8); have hb8' := hid (Below.then_ hb7'.out hb8); have c0 := H9.out.box.cell (i := 0) rfl; have c1' := H9.out.box.cell (i := 1) rfl; have c2' := H9.out.box.cell (i := 2) rfl; clear hb8; go_simp))
            all_goals
              rw [hts.out]
              generalize sumH D.h (treeF D) = z at *
              have d1 : decide (0 ≤ z) = true := decide_eq_true hz0
              have d3 : decide (z ≤ shV D n2 yy) = true := decide_eq_true hle
              have HI9 := hid (HI3.out.below hb8'.out)
              have HA9 := hid (HI2.out.below hb8'.out)
              go_wp2_with (first
                | (go_at_call 20; (with_reducible refine (RetB.yes (SillsJoin_impl F G S D c d e A1 D.m c1 (fun j => (j : Int)) _ H9.out.cave hs HA9.out (by omega)) HALL.out).mono ?_); rintro ex w10 ⟨rfl, hb10⟩; have H10 := hid (H9.out.then_ hb10); have HI10 := hid (HI9.out.below hb10); have d0 := H10.out.box.cell (i := 0) rfl; have d1' := H10.out.box.cell (i := 1) rfl; have d2' := H10.out.box.cell (i := 2) rfl; clear hb10)
                | (go_at_call 24; (with_reducible refine (SillsHigh_implV F G S D c d e A2 n2 c2 yy _ H10.out.cave hs HI10.out (by omega)).mono ?_); rintro ex w11 ⟨rfl, hb11⟩; have H11 := hid (H10.out.then_ hb11); clear hb11))
              go_ret
              exact ⟨rfl, H11.out.bel⟩
      · skip
        refine (RetB.no (SillsJoin_impl F G S D c d e A2 n2 c2 yy _ H1.out.cave hs HI1.out (by omega)) hsj).mono ?_
        rintro ex w3 ⟨rfl, hb'⟩
        have H2 := hid (H1.out.then_ hb')
        replace HI1 := hid (HI1.out.below hb')
        clear hb' H1
        have y0 := H2.out.box.cell (i := 0) rfl
        have y1 := H2.out.box.cell (i := 1) rfl
        have y2 := H2.out.box.cell (i := 2) rfl
        go_wp2_with fail
        refine (RetB.no (SillsJoin_spec F G S D c d e A2 n2 c2 yy _ H2.out.cave hs HI1.out (by omega)) hsj).mono ?_
        rintro ex w3b ⟨rfl, hb'⟩
        have H2b := hid (H2.out.then_ hb')
        replace HI1 := hid (HI1.out.below hb')
        clear hb' H2
        have y0 := H2b.out.box.cell (i := 0) rfl
        have y1 := H2b.out.box.cell (i := 1) rfl
        have y2 := H2b.out.box.cell (i := 2) rfl
        go_wp2_with fail
        refine (RetB.yes (CaveValid_spec F G S D c d e _ H2b.out.cave hs) hok).mono ?_
        rintro ex w4 ⟨rfl, hb'⟩
        have H3 := hid (H2b.out.then_ hb')
        replace HI1 := hid (HI1.out.below hb')
        clear hb' H2b
        have y0 := H3.out.box.cell (i := 0) rfl
        have y1 := H3.out.box.cell (i := 1) rfl
        have y2 := H3.out.box.cell (i := 2) rfl
        have HO0 : Hid (OwnL (w4.alloc (.cells #[] 3)) w4.heap.size (.slice (some ⟨w4.heap.size, 0, none⟩) 0 0) []) := OwnL.lit0 w4 (Nat.le_refl _) #[] rfl
        have HB0 := hid (below_alloc1 w4 (.cells #[] 3))
        have HALL := hid (sj_all hok)
        have HOK := hid hok
        have hm9 := hok.2.2.1
        have hz0 := tree_sum0 hok
        have hts := hid (tree_sum hok)
        have htl := treeF_len D
        have hq0 := trivial
        clear hok hsj
        go_wp2
        clear y0 y1 y2
        go_loopw [6, 7] (fun v i wr => ∃ k : Nat, k ≤ D.m ∧ i = .int .i64 k ∧ Hid (Below w4.heap.size w4 wr) ∧ Hid (OwnL wr w4.heap.size v ((List.range k).map fun (j : Nat) => (j : Int)))) (fun _ i _ => D.m - (intOf i).toNat)
        case atStart => exact ⟨0, by omega, rfl, HB0, HO0⟩
        case round =>
          clear HB0 HO0
          obtain ⟨k, hk, rfl, HB, HO⟩ := hrel
          have HX := hid (H3.out.then_ HB.out)
          have y0 := HX.out.box.cell (i := 0) rfl
          have y1 := HX.out.box.cell (i := 1) rfl
          have y2 := HX.out.box.cell (i := 2) rfl
          obtain ⟨A1, c1, hv1, hi1⟩ := HO.out.ints
          subst hv1
          have HI5 := hid hi1
          clear hi1
          by_cases hlt : k < D.m
          · have hltz : (k : Int) < (D.m : Int) := by omega
            have hBw := HB.out.size
            go_wp2_with (at_builtin; refine app_int rfl _ _ rfl w4.heap.size _ _ rfl (HO.out.alloc _) wr.heap.size k rfl (by simp) (by simp; omega) (by simp; omega) ?_)
            intro v' w6 hown' hbel'
            have HB6 := hid (hbel' w4 (HB.out.alloc hBw (.cells #[.int .i64 k] 3)))
            have HO6 : Hid (OwnL w6 w4.heap.size v' ((List.range (k + 1)).map fun (j : Nat) => (j : Int))) := by
              rw [List.range_succ, List.map_append]
              exact hown'
            clear hown' hbel' HB HX HO y0 y1 y2 hBw HI5
            go_wp2
            go_roundw
            case rel => exact ⟨k + 1, by omega, by go_num, HB6, HO6⟩
            case measure => simp [intOf] <;> omega
          · have hke : k = D.m := by omega
            subst hke
            have e1 : ((List.range D.m).map fun (j : Nat) => (j : Int)).length = D.m := by simp
            have hi2 : Ints wr A1 D.m (fun j => (j : Int)) := by
              have h := HI5.out
              rw [e1] at h
              exact h.congr (fun j hj => by simp [List.getD, hj])
            have HI2 := hid hi2
            have HXd := hid (HX.out.then_ (Below.refl _ _).drew)
            have HI3 := hid (HI1.out.below HB.out)
            rw [e1]
            clear hi2 HI5 HO e1
            go_wp2
            go_region_held3 (fun W => W.cell? ⟨X, 0, none⟩ = some (.slice F D.n c) ∧ W.cell? ⟨X, 1, none⟩ = some (.slice G D.q d) ∧ W.cell? ⟨X, 2, none⟩ = some (.slice S D.m e)) (go_keep) (first
                | (go_at_call 15; (with_reducible refine (SillTree_impl F G S D c d e _ HXd.out.cave hs HOK.out).mono ?_); rintro ex w7 ⟨A7, c7, rfl, hm7, hb7⟩; have HT7 : Hid (Ints w7 A7 (treeF D).length (trF D)) := hid hm7.ints; have H7 := hid (HXd.out.then_ hb7); have hb7' := hid ((Below.refl wr.heap.size wr).drew.trans hb7); have c0 := H7.out.box.cell (i := 0) rfl; have c1' := H7.out.box.cell (i := 1) rfl; have c2' := H7.out.box.cell (i := 2) rfl; clear hb7 hm7)
                | (go_at_call 24; (with_reducible refine (SillsHigh_implV F G S D c d e A7 _ c7 _ _ H7.out.cave hs HT7.out (by omega)).mono ?_); rintro ex w8 ⟨rfl, hb8⟩; have H9 := hid (H7.out.then_ hb8); have hb8' := hid (Below.then_ hb7'.out hb8); have c0 := H9.out.box.cell (i := 0) rfl; have c1' := H9.out.box.cell (i := 1) rfl; have c2' := H9.out.box.cell (i := 2) rfl; clear hb8; go_simp))
            all_goals
              rw [hts.out]
              generalize sumH D.h (treeF D) = z at *
              have d1 : decide (0 ≤ z) = true := decide_eq_true hz0
              have hq1 := hz0
              have HI9 := hid (HI3.out.below hb8'.out)
              have HA9 := hid (HI2.out.below hb8'.out)
              go_wp2_with (first
                | (go_at_call 20; (with_reducible refine (RetB.yes (SillsJoin_impl F G S D c d e A1 D.m c1 (fun j => (j : Int)) _ H9.out.cave hs HA9.out (by omega)) HALL.out).mono ?_); rintro ex w10 ⟨rfl, hb10⟩; have H10 := hid (H9.out.then_ hb10); have HI10 := hid (HI9.out.below hb10); have d0 := H10.out.box.cell (i := 0) rfl; have d1' := H10.out.box.cell (i := 1) rfl; have d2' := H10.out.box.cell (i := 2) rfl; clear hb10)
                | (go_at_call 24; (with_reducible refine (SillsHigh_implV F G S D c d e A2 n2 c2 yy _ H10.out.cave hs HI10.out (by omega)).mono ?_); rintro ex w11 ⟨rfl, hb11⟩; have H11 := hid (H10.out.then_ hb11); clear hb11))
              go_ret
              exact ⟨rfl, H10.out.bel⟩
    · have hsj : ¬ SjOk D n2 yy := fun h => hok h.1
      refine (RetB.no (SillsJoin_impl F G S D c d e A2 n2 c2 yy _ H1.out.cave hs HI1.out (by omega)) hsj).mono ?_
      rintro ex w3 ⟨rfl, hb'⟩
      have H2 := hid (H1.out.then_ hb')
      replace HI1 := hid (HI1.out.below hb')
      clear hb' H1
      have y0 := H2.out.box.cell (i := 0) rfl
      have y1 := H2.out.box.cell (i := 1) rfl
      have y2 := H2.out.box.cell (i := 2) rfl
      go_wp2_with fail
      refine (RetB.no (SillsJoin_spec F G S D c d e A2 n2 c2 yy _ H2.out.cave hs HI1.out (by omega)) hsj).mono ?_
      rintro ex w4 ⟨rfl, hb'⟩
      have H3 := hid (H2.out.then_ hb')
      replace HI1 := hid (HI1.out.below hb')
      clear hb' H2
      have y0 := H3.out.box.cell (i := 0) rfl
      have y1 := H3.out.box.cell (i := 1) rfl
      have y2 := H3.out.box.cell (i := 2) rfl
      go_wp2_with fail
      refine (RetB.no (CaveValid_spec F G S D c d e _ H3.out.cave hs) hok).mono ?_
      rintro ex w5 ⟨rfl, hb'⟩
      have H4 := hid (H3.out.then_ hb')
      replace HI1 := hid (HI1.out.below hb')
      clear hb' H3
      have y0 := H4.out.box.cell (i := 0) rfl
      have y1 := H4.out.box.cell (i := 1) rfl
      have y2 := H4.out.box.cell (i := 2) rfl
      go_wp2_with fail
      refine (alive_any _ H4.out.tab).mono ?_
      rintro ex w6 ⟨rfl, hb6⟩
      go_wp2
      go_ret
      exact ⟨rfl, (H4.out.then_ hb6).bel⟩

set_option maxRecDepth 100000 in
theorem FnSillsJoin_lifted (os : Os) (started : os.Started) (H : Type) (enc : TypeId × Value → H) :
    ReturnsInHanded {} Tryd.checked os 4 .any (fun w args => (Rows.fnSillsJoinSpec.pre enc Tryd.prog Tryd.f4 [] false w args ∧ laidMetH Tryd.prog Rows.fnSillsJoinRow.laid w) ∧ sizedMet enc Tryd.prog Tryd.f4 (OpenSpec.ofChange Rows.fnSillsJoinSpec) false w args)
      (Rows.fnSillsJoinSpec.post enc Tryd.prog Tryd.f4 false true false false) := by
  refine returnsInHanded_of_change_and (C := Tryd.checked) (X := fun w _ => laidMetH Tryd.prog Rows.fnSillsJoinRow.laid w) (fun _ _ _ hh h => h.of_heap hh) own started (by kernel_rfl) Tryd.func4
    (ChangeSpec.witness_shaped (enc := enc) (C := Tryd.checked) (os := os) (X := fun w _ => laidMetH Tryd.prog Rows.fnSillsJoinRow.laid w) false (World.doorLaid Tryd.prog 24 os) #[.slice none 0 0] 8 rfl (World.shaped_of_RefB (by kernel_rfl) (by kernel_rfl)) (by kernel_rfl) (by kernel_rfl) (by kernel_rfl)
      (laidMetH_of_parts3 (fuel := 8) (laidMet_of_run' 8 (by kernel_rfl) (by kernel_rfl)) (by kernel_rfl) (by kernel_rfl))) ?_
  intro W base args ds gs before hval0 hW _ _ hL _
  have hval : ∀ (j : Nat) t v, Tryd.f4.params[j]? = some t → args[j]? = some v → Value.okWide Tryd.prog W .any base t v := hval0
  have hW' := hW
  obtain ⟨p, q, hA0, hV, rfl, hfz, hnd⟩ := hW
  have hA : DataW.TrodAll enc Tryd.prog W 0 (fun _ => true) true Tryd.f4.params.toList args.toList ds p := hA0
  rw [Tryd.params4] at hA hval
  obtain ⟨v0, vs0, d0, ds0, p0, q0, hargs, rfl, rfl, h0, r0⟩ := trodAll_cons hA
  obtain ⟨rfl, rfl, rfl⟩ := trodAll_nil r0
  obtain rfl : args = #[v0] := by cases args; simp_all
  obtain ⟨rfl, rfl⟩ := trodVars_none hV
  have k0 := h0
  obtain ⟨m0, hm0⟩ := k0
  have lt0 : ∀ x ∈ p0, x.block < W.heap.size := DataW.trod_lt m0 _ _ _ hm0
  obtain ⟨a0, len0, cap0, rfl⟩ := okWide_slice Tryd.underlying22 (hval 0 22 v0 rfl rfl)
  obtain ⟨A0, n0, c0, y0, hv0, hp0, hn0, hl0⟩ := open_Bytes (v := .slice a0 len0 cap0) Tryd.underlying22 Tryd.underlying5 (by kernel_rfl) hm0
  simp only [Value.slice.injEq] at hv0
  obtain ⟨rfl, rfl, rfl⟩ := hv0
  clear hA0 hval0
  have htab := tab_of_laid hL
  refine (FnSillsJoin_walk _ _ _ y0 W htab hp0 hn0 hl0).mono fun e W' ⟨he, bel⟩ => ?_
  subst he
  exact ⟨_, rfl, _, _, _, [], _, [], hW', trodAll_mk1 (shut_bool Tryd.underlying4 _), (trodAll_cons_mk (Below.trod laidOut (by kernel_rfl) (of_decide_eq_true (by kernel_rfl)) h0 bel lt0) trodAll_mk0), rfl, bel.frame _, fun h => by cases h⟩

theorem FnSillsJoin_row : Rows.FnSillsJoinSaid :=
  OpenClaim.holds_of_wide 4 Tryd.f4 rfl rfl rfl rfl rfl rfl rfl ⟨rfl, rfl, rfl, rfl, rfl⟩ rfl rfl rfl rfl rfl (by kernel_rfl) Tryd.func4 (by kernel_rfl)
    (of_decide_eq_true (by kernel_rfl)) (by unfold Func.isWrapper; first | (rw [if_pos (by decide +kernel)]; kernel_rfl) | (rw [if_neg (by decide +kernel)]; exact ⟨rfl, rfl⟩))
    (fun os started H enc _ => FnSillsJoin_lifted os started H enc)
theorem FnSillsJoin_holds : Rows.FnSillsJoinCardSaid :=
  Claim7.holds_tied_plain_at .later [] [.data, .data, .data] true (true, "a5a7d22d484212bf2246ed34c495e7e4937a4be0a82855a3527b2b559f36e5e1") false
    FnSillsJoin_row (fun _ h => by cases h) (by kernel_rfl) (fun _ h => by cases h) fnSillsJoin_row_tie rfl ⟨rfl, rfl⟩ (by kernel_rfl) rfl
    (fun f fn hf hfn => by
      obtain rfl : f = 4 := Option.some.inj ((show Tryd.prog.funcNamed "loop.example/cavesurvey/laws.FnSillsJoin" = some 4 by kernel_rfl).symm.trans hf) |>.symm
      obtain rfl : fn = Tryd.f4 := (Option.some.inj (Tryd.func4.symm.trans hfn)).symm
      exact ⟨by kernel_rfl, fun j t ht => by
        rw [Tryd.params4] at ht
        have hm : t ∈ [22] := by simpa using Array.mem_of_getElem? ht
        have hall : ([22].all fun u => !Tryd.prog.wantsStandIn u) = true := by kernel_rfl
        exact (show Tryd.prog.wantsStandIn t = false by simpa using List.all_eq_true.1 hall t hm)⟩)
    (by kernel_rfl)
#print axioms FnSillsJoin_holds
end Go.Proofs.YtahbfifnpceoeaaDoor
