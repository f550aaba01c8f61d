/- FnSillTree: each sill of the tree is needed, and is the lowest of its kind. -/
import Derived.Test.YtahbfifnpceoeaaDoorLawJ
import Derived.Test.YtahbfifnpceoeaaDoorTreeC
namespace Go.Proofs.YtahbfifnpceoeaaDoor
open Go.ChangeShapes Go.WideShapes Go.ChangeAt Go.RowKit

def zM (x : Nat → Int) (k j : Nat) : Int := if j < k then x j else x (j + 1)
theorem trF_at (D : CaveD) {j : Nat} (hj : j < (treeF D).length) : trF D j = (((treeF D)[j] : Nat) : Int) := by
  unfold trF
  rw [toZ_get _ hj]
  simp [List.getD, hj]
theorem tr_lt (D : CaveD) {i j : Nat} (hij : i < j) (hj : j < (treeF D).length) : (treeF D)[i]'(by omega) < (treeF D)[j] :=
  (List.pairwise_iff_getElem.1 (treeF_lt D)) i j (by omega) hj hij
theorem tr_asc (D : CaveD) : ∀ j, j + 1 < (treeF D).length → trF D j < trF D (j + 1) := fun j hj => by
  rw [trF_at D (by omega), trF_at D hj]
  have := tr_lt D (show j < j + 1 by omega) hj
  omega
theorem tr_low {D : CaveD} (hok : CaveOk D) : ∀ k, k < (treeF D).length → ∃ s, s < D.m ∧ trF D k = (s : Int) ∧ ∀ j, j < D.m → ((D.a s = D.a j ∧ D.b s = D.b j) ∨ (D.a s = D.b j ∧ D.b s = D.a j)) → D.h s ≤ D.h j := fun k hk => by
  refine ⟨(treeF D)[k], treeF_m (List.getElem_mem hk), trF_at D hk, fun j hj h => (treeF_ok hok).lowest (List.getElem_mem hk) (List.mem_range.2 hj) ?_⟩
  rcases h with ⟨h1, h2⟩ | ⟨h1, h2⟩
  · exact .inl ⟨congrArg Int.toNat h1, congrArg Int.toNat h2⟩
  · exact .inr ⟨congrArg Int.toNat h1, congrArg Int.toNat h2⟩
theorem tr_join {D : CaveD} (hok : CaveOk D) : SjOk D (treeF D).length (trF D) := by
  refine ⟨hok, tree_some D, (sj_iff hok (tree_some D)).2 fun x z _ _ => ?_⟩
  have e : idxL (trF D) (treeF D).length = treeF D := idxL_toZ _
  rw [e]
  exact (treeF_ok hok).joins.symm
theorem tr_need {D : CaveD} (hok : CaveOk D) : ∀ k, k < (treeF D).length → ¬ SjOk D (k + ((treeF D).length - (k + 1))) (zM (trF D) k) := fun k hk h => by
  have K := treeF_ok hok
  have hm := List.getElem_mem hk
  have hs := treeF_m hm
  have hc := ((sj_iff hok h.2.1).1 h.2.2 (D.A (treeF D)[k]) (D.B (treeF D)[k]) (sill_lt hok hs).1 (sill_lt hok hs).2).2 (.one ⟨_, List.mem_range.2 hs, rfl, rfl⟩)
  refine K.bridge hm (.inl ⟨rfl, rfl⟩) (hc.mono fun x y ⟨i, hi, e⟩ => .one ?_)
  obtain ⟨j, hj, rfl⟩ := mem_idxL.1 hi
  by_cases hjk : j < k
  · have ej : (zM (trF D) k j).toNat = (treeF D)[j]'(by omega) := by unfold zM; rw [if_pos hjk, trF_at D (by omega)]; rfl
    have := tr_lt D hjk hk
    exact ⟨_, by rw [ej]; exact List.getElem_mem _, by rw [ej]; omega, e⟩
  · have ej : (zM (trF D) k j).toNat = (treeF D)[j + 1]'(by omega) := by unfold zM; rw [if_neg hjk, trF_at D (by omega)]; rfl
    have := tr_lt D (show k < j + 1 by omega) (by omega)
    exact ⟨_, by rw [ej]; exact List.getElem_mem _, by rw [ej]; omega, e⟩
theorem own_ints_two {w : World} {B k m : Nat} {x : Nat → Int} {v : Value} (h : w.ownsRow B 3 1 v (k + m) (((List.range k).map fun j => Value.int .i64 (x j)) ++ ((List.range m).map fun j => Value.int .i64 (x (k + 1 + j))))) :
    ∃ A c, v = .slice A (k + m) c ∧ Ints w A (k + m) (zM x k) := by
  have e1 : ((List.range k).map x ++ (List.range m).map fun j => x (k + 1 + j)).length = k + m := by simp
  have h' : OwnL w B v ((List.range k).map x ++ (List.range m).map fun j => x (k + 1 + j)) := by
    unfold OwnL
    rw [e1]
    simpa [List.map_append, Function.comp_def] using h
  obtain ⟨A, c, hv, hi⟩ := h'.ints
  rw [e1] at hv hi
  refine ⟨A, c, hv, hi.congr (fun j hj => ?_)⟩
  unfold zM
  by_cases hj' : j < k
  · simp [List.getD, hj', List.getElem?_append]
  · have e2 : j - k < m := by omega
    have e3 : k + 1 + (j - k) = j + 1 := by omega
    simp [List.getD, hj', List.getElem?_append, e2, e3]

theorem own_ints_pre {w : World} {B k : Nat} {x : Nat → Int} {v : Value} (h : w.ownsRow B 3 1 v (k + 0) (((List.range k).map fun j => Value.int .i64 (x j)) ++ [])) :
    ∃ A c, v = .slice A k c ∧ Ints w A k (zM x k) := own_ints_two (m := 0) (by simpa using h)

set_option maxRecDepth 20000 in
set_option maxHeartbeats 4000000 in
theorem FnSillTree_walk (A : Option Addr) (n c0 : Nat) (y : Nat → Int) (w : World) (htab : Pow10 w) (hx : Bytes w A n y) (hn : n ≤ c0) (hy : ∀ j, 0 ≤ y j ∧ y j < 256) :
    Calls Tryd.prog 3 #[.slice A n c0] w (RetV (.bool true) w) := by
  by_cases hbig : (n : Int) > 1048576
  · go_enter Tryd.func3, Tryd.ntmps3
    go_wp2
    go_ret
    exact ⟨rfl, Below.refl _ _⟩
  · go_enter Tryd.func3, Tryd.ntmps3
    go_wp2_with fail
    refine (DrawSillTree_any A n c0 y w hx hy hn).mono ?_
    rintro ex w1 ⟨F, G, S, D, c, d, e, rfl, hD⟩
    have hs := hD.small
    have hsm := hD.sm
    have H1 := hid (LwC.start (c := c) (d := d) htab hD rfl)
    clear hx hD htab
    go_wp2_with fail
    generalize w1.alloc (.cells #[.slice F D.n c, .slice G D.q d, .slice S D.m e] 26) = w2 at H1 ⊢
    generalize w1.heap.size = X at H1 ⊢

    by_cases hok : CaveOk D
    · refine (SillTree_implC F G S D c d e _ H1.out.cave hs hok).mono ?_
      rintro ex w3 ⟨A3, c3, rfl, hcap, hm3, hb3⟩
      have H3 := hid (H1.out.then_ hb3)
      have HT3 : Hid (Ints w3 A3 (treeF D).length (trF D)) := hid hm3.ints
      clear hb3 hm3 H1
      have y0 := H3.out.box.cell (i := 0) rfl
      have y1 := H3.out.box.cell (i := 1) rfl
      have y2 := H3.out.box.cell (i := 2) rfl
      go_wp2_with fail
      refine (SillTree_spec F G S D c d e _ H3.out.cave hs hok).mono ?_
      rintro ex w4 ⟨A4, c4, rfl, hi4, hb4⟩
      have H4 := hid (H3.out.then_ hb4)
      have HI4 : Hid (Ints w4 A4 (treeF D).length (trF D)) := hid hi4
      replace HT3 := hid (HT3.out.below hb4)
      clear hb4 hi4 H3 y0 y1 y2
      have htl := treeF_len D
      have hn6 := hok.1.2
      have hm9 := hok.2.2.1
      go_wp2_with fail
      refine (sameInts_yes A3 A4 (treeF D).length c3 c4 _ w4 HT3.out HI4.out (by omega)).mono ?_
      rintro ex w5 ⟨rfl, hb5⟩
      have H5 := hid (H4.out.then_ hb5)
      replace HT3 := hid (HT3.out.below hb5)
      clear hb5 HI4 H4
      have y0 := H5.out.box.cell (i := 0) rfl
      have y1 := H5.out.box.cell (i := 1) rfl
      have y2 := H5.out.box.cell (i := 2) rfl
      go_wp2_with fail
      refine (RetB.yes (CaveValid_spec F G S D c d e _ H5.out.cave hs) hok).mono ?_
      rintro ex w6 ⟨rfl, hb6⟩
      have H6 := hid (H5.out.then_ hb6)
      replace HT3 := hid (HT3.out.below hb6)
      clear hb6 H5 y0 y1 y2
      have HNJ := hid (tr_need hok)
      have HJN := hid (tr_join hok)
      have HASC := hid (tr_asc D)
      have HLOW := hid (tr_low hok)
      have HB0 := hid (Below.refl w6.heap.size w6)
      obtain ⟨i0, hi, hz0, hz1, hz2⟩ := info_parts info3
      clear hok
      generalize (treeF D).length = ln at *
      go_wp2
      go_loopw [5] (fun i wr => ∃ k : Nat, k ≤ ln ∧ i = .int .i64 k ∧ Hid (Below w6.heap.size w6 wr)) (fun i _ => ln - (intOf i).toNat)
      case atStart => exact ⟨0, by omega, rfl, HB0⟩
      case round =>
        clear HB0
        obtain ⟨k, hk, rfl, HB⟩ := hrel
        have HX := hid (H6.out.then_ HB.out)
        have y0 := HX.out.box.cell (i := 0) rfl
        have y1 := HX.out.box.cell (i := 1) rfl
        have y2 := HX.out.box.cell (i := 2) rfl
        by_cases hlt : k < ln
        · have hltz : (k : Int) < (ln : Int) := by omega
          obtain ⟨bl, ol, rfl, hcl⟩ := (HT3.out.below HB.out) (by omega)
          have HCL := hid hcl
          clear hcl
          have HC1 : Hid (∀ W, Below wr.heap.size wr W → Ints W (some ⟨bl, ol, none⟩) k (trF D)) := hid (fun W hW _ => ⟨bl, ol, rfl, fun j hj => cell_below hW (HCL.out j (by omega))⟩)
          have HC2 : Hid (∀ W, Below wr.heap.size wr W → ∀ j u, ((List.range (ln - (k + 1))).map fun j => Value.int .i64 (trF D (k + 1 + j)))[j]? = some u → W.cell? ((⟨bl, ol + (k + 1), none⟩ : Addr).add j) = some u) := hid (fun W hW => ints_news (fun j hj => by
            have := cell_below hW (HCL.out (k + 1 + j) (by omega))
            rw [← Nat.add_assoc] at this
            exact this))
          have hlX := HX.out.box.lt
          have hne1 : X ≠ wr.heap.size := by omega
          have hne2 : wr.heap.size ≠ X := by omega
          have g4 : ((ln : Int) - ((k : Int) + 1)).toNat = ln - (k + 1) := by omega
          have g5 : (k : Int) + 1 ≤ (ln : Int) := by omega
          have g6 : (ln : Int) ≤ (c3 : Int) := by omega
          have g7 : (k : Int) ≤ (c3 : Int) := by omega
          have g8 : IntKind.i64.wrap ((k : Int) + 1) = (k : Int) + 1 := IntWalk.i64_in _ (by omega)
          have g9 : (0 : Int) ≤ (k : Int) + 1 := by omega
          have g10 : ((k : Int) + 1).toNat = k + 1 := by omega
          have g11 : (0 : Int) ≤ (k : Int) := by omega
          have g12 : (k : Int) + 1 ≤ (c3 : Int) := by omega
          have HNO := hid (HNJ.out k hlt)
          by_cases hkc : c3 = k + 1
          · subst hkc
            obtain rfl : ln = k + 1 := by omega
            rw [Nat.sub_self, Nat.add_zero] at HNO
            have g13 : (k : Int) ≤ (k : Int) + 1 := by omega
            have g14 : k ≤ k + 1 := by omega
            go_wp2
            go_region_held3 (fun W => W.cell? ⟨X, 0, none⟩ = some (.slice F D.n c) ∧ W.cell? ⟨X, 1, none⟩ = some (.slice G D.q d) ∧ W.cell? ⟨X, 2, none⟩ = some (.slice S D.m e)) (go_keep) (first
              | (refine step_append_ints rfl (.tmp 37) (.tmp 40) 23 rfl i0 Tryd.underlying23 hi hz0 hz1 hz2 wr.heap.size wr.heap.size rfl ((OwnL.lit0 wr (Nat.le_refl _) #[] rfl).below (by repeat (first | exact Below.refl _ _ | refine Below.drew ?_ | refine Below.alloc ?_ (by simp <;> omega) _))) (by simp <;> omega) (some ⟨bl, ol, none⟩) k (k + 1) (trF D) rfl (HC1.out _ (by repeat (first | exact Below.refl _ _ | refine Below.drew ?_ | refine Below.alloc ?_ (by simp <;> omega) _))) (by omega) ?_
                 intro v7 w7 hown7 hg7
                 obtain ⟨A7, c7, rfl⟩ := own_form hown7
                 have HO7 := hid hown7
                 have hb7 : Hid (Below wr.heap.size wr w7) := Below.grown (by repeat (first | exact Below.refl _ _ | refine Below.drew ?_ | refine Below.alloc ?_ (by simp <;> omega) _)) hg7 (by simp <;> omega) (fun k hk => by cases hk)
                 have q0 := cell_below hb7.out y0
                 have q1 := cell_below hb7.out y1
                 have q2 := cell_below hb7.out y2
                 have hs7 := hb7.out.size
                 clear hown7 hg7)
              | (refine step_append_own rfl (.tmp 41) (.tmp 45) 23 rfl wr.heap.size 3 i0 (.int .i64 0) 1 8 Tryd.underlying23 hi hz0 hz1 hz2 rfl (by decide) _ k _ rfl HO7.out ⟨bl, ol, none⟩ 0 0 [] rfl (by simp) (fun j u hu => by simp at hu) (fun u hu => by simp at hu) (by unfold maxLen; omega) (by omega) (by omega) ?_; intro v8 w8 hown8 hg8 _
                 obtain ⟨A8, c8, rfl, hi8⟩ := own_ints_pre hown8
                 have hi8 := hid hi8
                 have hb8 : Hid (Below wr.heap.size wr w8) := Below.grown hb7.out hg8 hs7 (fun k hk => (World.ownsRow.lt HO7.out k hk).1)
                 have q0 := cell_below hb8.out y0
                 have q1 := cell_below hb8.out y1
                 have q2 := cell_below hb8.out y2
                 clear hown8 hg8)
              | (go_at_call 20; (with_reducible refine (RetB.no (SillsJoin_impl F G S D c d e A8 (k) c8 _ _ (HX.out.cave.below hb8.out) hs hi8.out (by omega)) HNO.out).mono ?_); rintro ex w9 ⟨rfl, hb9⟩; have HB9 := hid (Below.then_ hb8.out hb9); have q0 := cell_below HB9.out y0; have q1 := cell_below HB9.out y1; have q2 := cell_below HB9.out y2; clear hb9))
            all_goals
              have HBE := hid (HB.out.trans (HB9.out.mono HB.out.size))
              obtain ⟨s, hsD, hts, hlow⟩ := HLOW.out k hlt
              have HLW := hid hlow
              have LC : Hid (∀ W, Below w6.heap.size w6 W → W.cell? ⟨bl, ol + k, none⟩ = some (.int .i64 (s : Nat))) := hid (fun W hW => by
                obtain ⟨b', o', e', hc⟩ := (HT3.out.below hW) (by omega)
                cases e'
                rw [← hts]
                exact hc k hlt)
              have hsz : (s : Int) < (D.m : Int) := by omega
              clear HB HX HB9 HCL HC1 HC2 HO7 hb7 hb8 hi8 q0 q1 q2 y0 y1 y2 hs7 hlow hts g8 g10
              go_wp2
              go_loopw [6] (fun i wr => ∃ j : Nat, j ≤ D.m ∧ i = .int .i64 j ∧ Hid (Below w6.heap.size w6 wr)) (fun i _ => D.m - (intOf i).toNat)
              case atStart => exact ⟨0, by omega, rfl, HBE⟩
              case round =>
                clear HBE
                obtain ⟨j, hj, rfl, HB⟩ := hrel
                have HX := hid (H6.out.then_ HB.out)
                by_cases hjm : j < D.m
                · have hjz : (j : Int) < (D.m : Int) := by omega
                  have l0 := LC.out wr HB.out
                  obtain ⟨bs, os, rfl, hsc⟩ := HX.out.cave.sil (by omega)
                  have y0 := HX.out.box.cell (i := 0) rfl
                  have y1 := HX.out.box.cell (i := 1) rfl
                  have y2 := HX.out.box.cell (i := 2) rfl
                  obtain ⟨a1, a2, a3⟩ := hsc s hsD
                  have HJ := hid (hsc j hjm)
                  clear hsc
                  have HZ := Blk.new wr 34 #[.int .i64 0, .int .i64 0, .int .i64 0]
                  have HZB := below_alloc1 wr (.cells #[.int .i64 0, .int .i64 0, .int .i64 0] 34)
                  have l0' := cell_below HZB l0
                  have a1' := cell_below HZB a1
                  have a2' := cell_below HZB a2
                  have a3' := cell_below HZB a3
                  have y0' := cell_below HZB y0
                  have y1' := cell_below HZB y1
                  have y2' := cell_below HZB y2
                  have z0 := HZ.cell (i := 0) rfl
                  have z1 := HZ.cell (i := 1) rfl
                  have z2 := HZ.cell (i := 2) rfl
                  have f0 := HZ.frozen 0
                  have f1 := HZ.frozen 1
                  have f2 := HZ.frozen 2
                  clear HZ HZB
                  go_wp2
                  go_region
                  clear l0 l0' a1 a2 a3 a1' a2' a3' y0 y1 y2 y0' y1' y2' z0 z1 z2 f0 f1 f2
                  have HV : Hid (Blk (wr.alloc (.cells #[.int .i64 (D.a s), .int .i64 (D.b s), .int .i64 (D.h s)] 34)).drew wr.heap.size 34 #[.int .i64 (D.a s), .int .i64 (D.b s), .int .i64 (D.h s)]) := hid (Blk.new wr 34 #[.int .i64 (D.a s), .int .i64 (D.b s), .int .i64 (D.h s)])
                  have HBV : Hid (Below wr.heap.size wr (wr.alloc (.cells #[.int .i64 (D.a s), .int .i64 (D.b s), .int .i64 (D.h s)] 34)).drew) := hid (below_alloc1 wr _).drew
                  generalize (wr.alloc (.cells #[.int .i64 (D.a s), .int .i64 (D.b s), .int .i64 (D.h s)] 34)).drew = v at HV HBV ⊢
                  have HXV := hid (HX.out.then_ HBV.out)
                  have HBW := hid (HB.out.trans (HBV.out.mono HB.out.size))
                  obtain ⟨b1, b2, b3⟩ := HJ.out
                  replace b1 := cell_below HBV.out b1
                  replace b2 := cell_below HBV.out b2
                  replace b3 := cell_below HBV.out b3
                  have y2 := HXV.out.box.cell (i := 2) rfl
                  have HT := Blk.new v 34 #[.int .i64 (D.a j), .int .i64 (D.b j), .int .i64 (D.h j)]
                  have HTB := below_alloc1 v (.cells #[.int .i64 (D.a j), .int .i64 (D.b j), .int .i64 (D.h j)] 34)
                  have t0 := HT.cell (i := 0) rfl
                  have t1 := HT.cell (i := 1) rfl
                  have t2 := HT.cell (i := 2) rfl
                  have r0 := cell_below HTB (HV.out.cell (i := 0) rfl)
                  have r1 := cell_below HTB (HV.out.cell (i := 1) rfl)
                  have r2 := cell_below HTB (HV.out.cell (i := 2) rfl)
                  have HBN := hid (HBW.out.trans (HTB.mono HBW.out.size))
                  have hlw := HLW.out j hjm
                  clear HT HTB HV HBV HX HXV HBW HB HJ
                  by_cases h1 : D.a s = D.a j
                  · have d1 : (D.a s == D.a j) = true := by simp [h1]
                    by_cases h2 : D.b s = D.b j
                    · have d2 : (D.b s == D.b j) = true := by simp [h2]
                      have d5 : decide (D.h j < D.h s) = false := decide_eq_false (by have := hlw (.inl ⟨h1, h2⟩); omega)
                      clear h1 h2 hlw
                      go_wp2
                      go_roundw
                      case rel => exact ⟨j + 1, by omega, by go_num, HBN⟩
                      case measure => simp [intOf] <;> omega
                    · have d2 : (D.b s == D.b j) = false := by simp [h2]
                      clear h1 h2
                      by_cases h3 : D.a s = D.b j
                      · have d3 : (D.a s == D.b j) = true := by simp [h3]
                        by_cases h4 : D.b s = D.a j
                        · have d4 : (D.b s == D.a j) = true := by simp [h4]
                          have d5 : decide (D.h j < D.h s) = false := decide_eq_false (by have := hlw (.inr ⟨h3, h4⟩); omega)
                          clear h3 h4 hlw
                          go_wp2
                          go_roundw
                          case rel => exact ⟨j + 1, by omega, by go_num, HBN⟩
                          case measure => simp [intOf] <;> omega
                        · have d4 : (D.b s == D.a j) = false := by simp [h4]
                          clear h3 h4 hlw
                          go_wp2
                          go_roundw
                          case rel => exact ⟨j + 1, by omega, by go_num, HBN⟩
                          case measure => simp [intOf] <;> omega
                      · have d3 : (D.a s == D.b j) = false := by simp [h3]
                        clear h3 hlw
                        go_wp2
                        go_roundw
                        case rel => exact ⟨j + 1, by omega, by go_num, HBN⟩
                        case measure => simp [intOf] <;> omega
                  · have d1 : (D.a s == D.a j) = false := by simp [h1]
                    clear h1
                    by_cases h3 : D.a s = D.b j
                    · have d3 : (D.a s == D.b j) = true := by simp [h3]
                      by_cases h4 : D.b s = D.a j
                      · have d4 : (D.b s == D.a j) = true := by simp [h4]
                        have d5 : decide (D.h j < D.h s) = false := decide_eq_false (by have := hlw (.inr ⟨h3, h4⟩); omega)
                        clear h3 h4 hlw
                        go_wp2
                        go_roundw
                        case rel => exact ⟨j + 1, by omega, by go_num, HBN⟩
                        case measure => simp [intOf] <;> omega
                      · have d4 : (D.b s == D.a j) = false := by simp [h4]
                        clear h3 h4 hlw
                        go_wp2
                        go_roundw
                        case rel => exact ⟨j + 1, by omega, by go_num, HBN⟩
                        case measure => simp [intOf] <;> omega
                    · have d3 : (D.a s == D.b j) = false := by simp [h3]
                      clear h3 hlw
                      go_wp2
                      go_roundw
                      case rel => exact ⟨j + 1, by omega, by go_num, HBN⟩
                      case measure => simp [intOf] <;> omega
                · have hje : j = D.m := by omega
                  subst hje
                  have y0 := HX.out.box.cell (i := 0) rfl
                  have y1 := HX.out.box.cell (i := 1) rfl
                  have y2 := HX.out.box.cell (i := 2) rfl
                  go_wp2
                  go_roundw
                  case rel => exact ⟨k + 1, by omega, by go_num, HB⟩
                  case measure => simp [intOf] <;> omega
          · skip
            go_wp2
            go_region_held3 (fun W => W.cell? ⟨X, 0, none⟩ = some (.slice F D.n c) ∧ W.cell? ⟨X, 1, none⟩ = some (.slice G D.q d) ∧ W.cell? ⟨X, 2, none⟩ = some (.slice S D.m e)) (go_keep) (first
              | (refine step_append_ints rfl (.tmp 37) (.tmp 40) 23 rfl i0 Tryd.underlying23 hi hz0 hz1 hz2 wr.heap.size wr.heap.size rfl ((OwnL.lit0 wr (Nat.le_refl _) #[] rfl).below (by repeat (first | exact Below.refl _ _ | refine Below.drew ?_ | refine Below.alloc ?_ (by simp <;> omega) _))) (by simp <;> omega) (some ⟨bl, ol, none⟩) k (c3) (trF D) rfl (HC1.out _ (by repeat (first | exact Below.refl _ _ | refine Below.drew ?_ | refine Below.alloc ?_ (by simp <;> omega) _))) (by omega) ?_
                 intro v7 w7 hown7 hg7
                 obtain ⟨A7, c7, rfl⟩ := own_form hown7
                 have HO7 := hid hown7
                 have hb7 : Hid (Below wr.heap.size wr w7) := Below.grown (by repeat (first | exact Below.refl _ _ | refine Below.drew ?_ | refine Below.alloc ?_ (by simp <;> omega) _)) hg7 (by simp <;> omega) (fun k hk => by cases hk)
                 have q0 := cell_below hb7.out y0
                 have q1 := cell_below hb7.out y1
                 have q2 := cell_below hb7.out y2
                 have hs7 := hb7.out.size
                 clear hown7 hg7)
              | (refine step_append_own rfl (.tmp 41) (.tmp 45) 23 rfl wr.heap.size 3 i0 (.int .i64 0) 1 8 Tryd.underlying23 hi hz0 hz1 hz2 rfl (by decide) _ k _ rfl HO7.out ⟨bl, ol + (k + 1), none⟩ (ln - (k + 1)) (c3 - (k + 1)) _ rfl (by simp) (HC2.out _ hb7.out) ints_one (by unfold maxLen; omega) (by omega) (by omega) ?_; intro v8 w8 hown8 hg8 _
                 obtain ⟨A8, c8, rfl, hi8⟩ := own_ints_two hown8
                 have hi8 := hid hi8
                 have hb8 : Hid (Below wr.heap.size wr w8) := Below.grown hb7.out hg8 hs7 (fun k hk => (World.ownsRow.lt HO7.out k hk).1)
                 have q0 := cell_below hb8.out y0
                 have q1 := cell_below hb8.out y1
                 have q2 := cell_below hb8.out y2
                 clear hown8 hg8)
              | (go_at_call 20; (with_reducible refine (RetB.no (SillsJoin_impl F G S D c d e A8 (k + (ln - (k + 1))) c8 _ _ (HX.out.cave.below hb8.out) hs hi8.out (by omega)) HNO.out).mono ?_); rintro ex w9 ⟨rfl, hb9⟩; have HB9 := hid (Below.then_ hb8.out hb9); have q0 := cell_below HB9.out y0; have q1 := cell_below HB9.out y1; have q2 := cell_below HB9.out y2; clear hb9))
            all_goals
              have HBE := hid (HB.out.trans (HB9.out.mono HB.out.size))
              obtain ⟨s, hsD, hts, hlow⟩ := HLOW.out k hlt
              have HLW := hid hlow
              have LC : Hid (∀ W, Below w6.heap.size w6 W → W.cell? ⟨bl, ol + k, none⟩ = some (.int .i64 (s : Nat))) := hid (fun W hW => by
                obtain ⟨b', o', e', hc⟩ := (HT3.out.below hW) (by omega)
                cases e'
                rw [← hts]
                exact hc k hlt)
              have hsz : (s : Int) < (D.m : Int) := by omega
              clear HB HX HB9 HCL HC1 HC2 HO7 hb7 hb8 hi8 q0 q1 q2 y0 y1 y2 hs7 hlow hts g8 g10
              go_wp2
              go_loopw [6] (fun i wr => ∃ j : Nat, j ≤ D.m ∧ i = .int .i64 j ∧ Hid (Below w6.heap.size w6 wr)) (fun i _ => D.m - (intOf i).toNat)
              case atStart => exact ⟨0, by omega, rfl, HBE⟩
              case round =>
                clear HBE
                obtain ⟨j, hj, rfl, HB⟩ := hrel
                have HX := hid (H6.out.then_ HB.out)
                by_cases hjm : j < D.m
                · have hjz : (j : Int) < (D.m : Int) := by omega
                  have l0 := LC.out wr HB.out
                  obtain ⟨bs, os, rfl, hsc⟩ := HX.out.cave.sil (by omega)
                  have y0 := HX.out.box.cell (i := 0) rfl
                  have y1 := HX.out.box.cell (i := 1) rfl
                  have y2 := HX.out.box.cell (i := 2) rfl
                  obtain ⟨a1, a2, a3⟩ := hsc s hsD
                  have HJ := hid (hsc j hjm)
                  clear hsc
                  have HZ := Blk.new wr 34 #[.int .i64 0, .int .i64 0, .int .i64 0]
                  have HZB := below_alloc1 wr (.cells #[.int .i64 0, .int .i64 0, .int .i64 0] 34)
                  have l0' := cell_below HZB l0
                  have a1' := cell_below HZB a1
                  have a2' := cell_below HZB a2
                  have a3' := cell_below HZB a3
                  have y0' := cell_below HZB y0
                  have y1' := cell_below HZB y1
                  have y2' := cell_below HZB y2
                  have z0 := HZ.cell (i := 0) rfl
                  have z1 := HZ.cell (i := 1) rfl
                  have z2 := HZ.cell (i := 2) rfl
                  have f0 := HZ.frozen 0
                  have f1 := HZ.frozen 1
                  have f2 := HZ.frozen 2
                  clear HZ HZB
                  go_wp2
                  go_region
                  clear l0 l0' a1 a2 a3 a1' a2' a3' y0 y1 y2 y0' y1' y2' z0 z1 z2 f0 f1 f2
                  have HV : Hid (Blk (wr.alloc (.cells #[.int .i64 (D.a s), .int .i64 (D.b s), .int .i64 (D.h s)] 34)).drew wr.heap.size 34 #[.int .i64 (D.a s), .int .i64 (D.b s), .int .i64 (D.h s)]) := hid (Blk.new wr 34 #[.int .i64 (D.a s), .int .i64 (D.b s), .int .i64 (D.h s)])
                  have HBV : Hid (Below wr.heap.size wr (wr.alloc (.cells #[.int .i64 (D.a s), .int .i64 (D.b s), .int .i64 (D.h s)] 34)).drew) := hid (below_alloc1 wr _).drew
                  generalize (wr.alloc (.cells #[.int .i64 (D.a s), .int .i64 (D.b s), .int .i64 (D.h s)] 34)).drew = v at HV HBV ⊢
                  have HXV := hid (HX.out.then_ HBV.out)
                  have HBW := hid (HB.out.trans (HBV.out.mono HB.out.size))
                  obtain ⟨b1, b2, b3⟩ := HJ.out
                  replace b1 := cell_below HBV.out b1
                  replace b2 := cell_below HBV.out b2
                  replace b3 := cell_below HBV.out b3
                  have y2 := HXV.out.box.cell (i := 2) rfl
                  have HT := Blk.new v 34 #[.int .i64 (D.a j), .int .i64 (D.b j), .int .i64 (D.h j)]
                  have HTB := below_alloc1 v (.cells #[.int .i64 (D.a j), .int .i64 (D.b j), .int .i64 (D.h j)] 34)
                  have t0 := HT.cell (i := 0) rfl
                  have t1 := HT.cell (i := 1) rfl
                  have t2 := HT.cell (i := 2) rfl
                  have r0 := cell_below HTB (HV.out.cell (i := 0) rfl)
                  have r1 := cell_below HTB (HV.out.cell (i := 1) rfl)
                  have r2 := cell_below HTB (HV.out.cell (i := 2) rfl)
                  have HBN := hid (HBW.out.trans (HTB.mono HBW.out.size))
                  have hlw := HLW.out j hjm
                  clear HT HTB HV HBV HX HXV HBW HB HJ
                  by_cases h1 : D.a s = D.a j
                  · have d1 : (D.a s == D.a j) = true := by simp [h1]
                    by_cases h2 : D.b s = D.b j
                    · have d2 : (D.b s == D.b j) = true := by simp [h2]
                      have d5 : decide (D.h j < D.h s) = false := decide_eq_false (by have := hlw (.inl ⟨h1, h2⟩); omega)
                      clear h1 h2 hlw
                      go_wp2
                      go_roundw
                      case rel => exact ⟨j + 1, by omega, by go_num, HBN⟩
                      case measure => simp [intOf] <;> omega
                    · have d2 : (D.b s == D.b j) = false := by simp [h2]
                      clear h1 h2
                      by_cases h3 : D.a s = D.b j
                      · have d3 : (D.a s == D.b j) = true := by simp [h3]
                        by_cases h4 : D.b s = D.a j
                        · have d4 : (D.b s == D.a j) = true := by simp [h4]
                          have d5 : decide (D.h j < D.h s) = false := decide_eq_false (by have := hlw (.inr ⟨h3, h4⟩); omega)
                          clear h3 h4 hlw
                          go_wp2
                          go_roundw
                          case rel => exact ⟨j + 1, by omega, by go_num, HBN⟩
                          case measure => simp [intOf] <;> omega
                        · have d4 : (D.b s == D.a j) = false := by simp [h4]
                          clear h3 h4 hlw
                          go_wp2
                          go_roundw
                          case rel => exact ⟨j + 1, by omega, by go_num, HBN⟩
                          case measure => simp [intOf] <;> omega
                      · have d3 : (D.a s == D.b j) = false := by simp [h3]
                        clear h3 hlw
                        go_wp2
                        go_roundw
                        case rel => exact ⟨j + 1, by omega, by go_num, HBN⟩
                        case measure => simp [intOf] <;> omega
                  · have d1 : (D.a s == D.a j) = false := by simp [h1]
                    clear h1
                    by_cases h3 : D.a s = D.b j
                    · have d3 : (D.a s == D.b j) = true := by simp [h3]
                      by_cases h4 : D.b s = D.a j
                      · have d4 : (D.b s == D.a j) = true := by simp [h4]
                        have d5 : decide (D.h j < D.h s) = false := decide_eq_false (by have := hlw (.inr ⟨h3, h4⟩); omega)
                        clear h3 h4 hlw
                        go_wp2
                        go_roundw
                        case rel => exact ⟨j + 1, by omega, by go_num, HBN⟩
                        case measure => simp [intOf] <;> omega
                      · have d4 : (D.b s == D.a j) = false := by simp [h4]
                        clear h3 h4 hlw
                        go_wp2
                        go_roundw
                        case rel => exact ⟨j + 1, by omega, by go_num, HBN⟩
                        case measure => simp [intOf] <;> omega
                    · have d3 : (D.a s == D.b j) = false := by simp [h3]
                      clear h3 hlw
                      go_wp2
                      go_roundw
                      case rel => exact ⟨j + 1, by omega, by go_num, HBN⟩
                      case measure => simp [intOf] <;> omega
                · have hje : j = D.m := by omega
                  subst hje
                  have y0 := HX.out.box.cell (i := 0) rfl
                  have y1 := HX.out.box.cell (i := 1) rfl
                  have y2 := HX.out.box.cell (i := 2) rfl
                  go_wp2
                  go_roundw
                  case rel => exact ⟨k + 1, by omega, by go_num, HB⟩
                  case measure => simp [intOf] <;> omega
        · have hke : k = ln := by omega
          subst hke
          have HI9 := hid (HT3.out.below HB.out)
          go_wp2_with (first
            | (go_at_call 20; (with_reducible refine (RetB.yes (SillsJoin_impl F G S D c d e A3 k c3 (trF D) _ HX.out.cave hs HI9.out (by omega)) HJN.out).mono ?_); rintro ex w10 ⟨rfl, hb10⟩; have H10 := hid (HX.out.then_ hb10); have HI10 := hid (HI9.out.below hb10); clear hb10)
            | (go_at_call 21; (with_reducible refine (ascend_yes A3 k c3 (trF D) _ HI10.out (by omega) HASC.out).mono ?_); rintro ex w11 ⟨rfl, hb11⟩; have H11 := hid (H10.out.then_ hb11); clear hb11))
          go_ret
          exact ⟨rfl, H11.out.bel⟩
    · refine (SillTree_impl0 F G S D c d e _ H1.out.cave hs hok).mono ?_
      rintro ex w3 ⟨A3, c3, rfl, hm3, hb3⟩
      have H3 := hid (H1.out.then_ hb3)
      have HI3 : Hid (Ints w3 A3 0 (fun _ => 0)) := hid (fun h => absurd h (by omega))
      clear hb3 hm3 H1
      have y0 := H3.out.box.cell (i := 0) rfl
      have y1 := H3.out.box.cell (i := 1) rfl
      have y2 := H3.out.box.cell (i := 2) rfl
      go_wp2_with fail
      refine (SillTree_spec0 F G S D c d e _ H3.out.cave hs hok).mono ?_
      rintro ex w4 ⟨A4, c4, rfl, hi4, hb4⟩
      have H4 := hid (H3.out.then_ hb4)
      have HI4 : Hid (Ints w4 A4 0 (fun _ => 0)) := hid (fun h => absurd h (by omega))
      replace HI3 := hid (HI3.out.below hb4)
      clear hb4 hi4 H3 y0 y1 y2
      go_wp2_with fail
      refine (sameInts_yes A3 A4 0 c3 c4 _ w4 HI3.out HI4.out (by omega)).mono ?_
      rintro ex w5 ⟨rfl, hb5⟩
      have H5 := hid (H4.out.then_ hb5)
      clear hb5 HI4 HI3 H4
      have y0 := H5.out.box.cell (i := 0) rfl
      have y1 := H5.out.box.cell (i := 1) rfl
      have y2 := H5.out.box.cell (i := 2) rfl
      go_wp2_with fail
      refine (RetB.no (CaveValid_spec F G S D c d e _ H5.out.cave hs) hok).mono ?_
      rintro ex w6 ⟨rfl, hb6⟩
      have H6 := hid (H5.out.then_ hb6)
      clear hb6 H5 y0 y1 y2
      go_wp2_with fail
      refine (alive_any _ H6.out.tab).mono ?_
      rintro ex w7 ⟨rfl, hb7⟩
      go_wp2
      go_ret
      exact ⟨rfl, (H6.out.then_ hb7).bel⟩

set_option maxRecDepth 100000 in
theorem FnSillTree_lifted (os : Os) (started : os.Started) (H : Type) (enc : TypeId × Value → H) :
    ReturnsInHanded {} Tryd.checked os 3 .any (fun w args => (Rows.fnSillTreeSpec.pre enc Tryd.prog Tryd.f3 [] false w args ∧ laidMetH Tryd.prog Rows.fnSillTreeRow.laid w) ∧ sizedMet enc Tryd.prog Tryd.f3 (OpenSpec.ofChange Rows.fnSillTreeSpec) false w args)
      (Rows.fnSillTreeSpec.post enc Tryd.prog Tryd.f3 false true false false) := by
  refine returnsInHanded_of_change_and (C := Tryd.checked) (X := fun w _ => laidMetH Tryd.prog Rows.fnSillTreeRow.laid w) (fun _ _ _ hh h => h.of_heap hh) own started (by kernel_rfl) Tryd.func3
    (ChangeSpec.witness_shaped (enc := enc) (C := Tryd.checked) (os := os) (X := fun w _ => laidMetH Tryd.prog Rows.fnSillTreeRow.laid w) false (World.doorLaid Tryd.prog 24 os) #[.slice none 0 0] 8 rfl (World.shaped_of_RefB (by kernel_rfl) (by kernel_rfl)) (by kernel_rfl) (by kernel_rfl) (by kernel_rfl)
      (laidMetH_of_parts3 (fuel := 8) (laidMet_of_run' 8 (by kernel_rfl) (by kernel_rfl)) (by kernel_rfl) (by kernel_rfl))) ?_
  intro W base args ds gs before hval0 hW _ _ hL _
  have hval : ∀ (j : Nat) t v, Tryd.f3.params[j]? = some t → args[j]? = some v → Value.okWide Tryd.prog W .any base t v := hval0
  have hW' := hW
  obtain ⟨p, q, hA0, hV, rfl, hfz, hnd⟩ := hW
  have hA : DataW.TrodAll enc Tryd.prog W 0 (fun _ => true) true Tryd.f3.params.toList args.toList ds p := hA0
  rw [Tryd.params3] at hA hval
  obtain ⟨v0, vs0, d0, ds0, p0, q0, hargs, rfl, rfl, h0, r0⟩ := trodAll_cons hA
  obtain ⟨rfl, rfl, rfl⟩ := trodAll_nil r0
  obtain rfl : args = #[v0] := by cases args; simp_all
  obtain ⟨rfl, rfl⟩ := trodVars_none hV
  have k0 := h0
  obtain ⟨m0, hm0⟩ := k0
  have lt0 : ∀ x ∈ p0, x.block < W.heap.size := DataW.trod_lt m0 _ _ _ hm0
  obtain ⟨a0, len0, cap0, rfl⟩ := okWide_slice Tryd.underlying22 (hval 0 22 v0 rfl rfl)
  obtain ⟨A0, n0, c0, y0, hv0, hp0, hn0, hl0⟩ := open_Bytes (v := .slice a0 len0 cap0) Tryd.underlying22 Tryd.underlying5 (by kernel_rfl) hm0
  simp only [Value.slice.injEq] at hv0
  obtain ⟨rfl, rfl, rfl⟩ := hv0
  clear hA0 hval0
  have htab := tab_of_laid hL
  refine (FnSillTree_walk _ _ _ y0 W htab hp0 hn0 hl0).mono fun e W' ⟨he, bel⟩ => ?_
  subst he
  exact ⟨_, rfl, _, _, _, [], _, [], hW', trodAll_mk1 (shut_bool Tryd.underlying4 _), (trodAll_cons_mk (Below.trod laidOut (by kernel_rfl) (of_decide_eq_true (by kernel_rfl)) h0 bel lt0) trodAll_mk0), rfl, bel.frame _, fun h => by cases h⟩

theorem FnSillTree_row : Rows.FnSillTreeSaid :=
  OpenClaim.holds_of_wide 3 Tryd.f3 rfl rfl rfl rfl rfl rfl rfl ⟨rfl, rfl, rfl, rfl, rfl⟩ rfl rfl rfl rfl rfl (by kernel_rfl) Tryd.func3 (by kernel_rfl)
    (of_decide_eq_true (by kernel_rfl)) (by unfold Func.isWrapper; first | (rw [if_pos (by decide +kernel)]; kernel_rfl) | (rw [if_neg (by decide +kernel)]; exact ⟨rfl, rfl⟩))
    (fun os started H enc _ => FnSillTree_lifted os started H enc)
theorem FnSillTree_holds : Rows.FnSillTreeCardSaid :=
  Claim7.holds_tied_plain_at .later [] [.data, .data, .data] true (true, "a5a7d22d484212bf2246ed34c495e7e4937a4be0a82855a3527b2b559f36e5e1") false
    FnSillTree_row (fun _ h => by cases h) (by kernel_rfl) (fun _ h => by cases h) fnSillTree_row_tie rfl ⟨rfl, rfl⟩ (by kernel_rfl) rfl
    (fun f fn hf hfn => by
      obtain rfl : f = 3 := Option.some.inj ((show Tryd.prog.funcNamed "loop.example/cavesurvey/laws.FnSillTree" = some 3 by kernel_rfl).symm.trans hf) |>.symm
      obtain rfl : fn = Tryd.f3 := (Option.some.inj (Tryd.func3.symm.trans hfn)).symm
      exact ⟨by kernel_rfl, fun j t ht => by
        rw [Tryd.params3] at ht
        have hm : t ∈ [22] := by simpa using Array.mem_of_getElem? ht
        have hall : ([22].all fun u => !Tryd.prog.wantsStandIn u) = true := by kernel_rfl
        exact (show Tryd.prog.wantsStandIn t = false by simpa using List.all_eq_true.1 hall t hm)⟩)
    (by kernel_rfl)
#print axioms FnSillTree_holds
end Go.Proofs.YtahbfifnpceoeaaDoor
