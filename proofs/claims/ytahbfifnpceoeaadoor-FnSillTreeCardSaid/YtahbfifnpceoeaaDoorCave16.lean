/- SillTree of the program. -/
import Derived.Test.YtahbfifnpceoeaaDoorCave15
import Derived.Test.YtahbfifnpceoeaaDoorSort3
import Derived.StillTailTactics
namespace Go.Proofs.YtahbfifnpceoeaaDoor
open Go.RowKit

/-- The order of the sills, and what is taken of its first k. -/
def ordD (D : CaveD) : List Nat := ordS D.h D.m 41
def kt (D : CaveD) (k : Nat) : List Nat := kru D.A D.B ((ordD D).take k)
theorem ordD_len {D : CaveD} (hok : CaveOk D) : (ordD D).length = D.m := by
  have h1 : (ordD D).Nodup := (pw_ordS D.h D.m 41).imp fun {x y} e e2 => by subst e2; exact LX.irr x e
  have h2 : ∀ x, x ∈ ordD D ↔ x ∈ List.range D.m := fun x => by
    unfold ordD
    rw [mem_ordS, List.mem_range]
    refine ⟨fun e => e.1, fun e => ?_⟩
    have := sill_h hok e
    exact ⟨e, this.1, by omega⟩
  have := ((List.perm_ext_iff_of_nodup h1 List.nodup_range).2 h2).length_eq
  simpa using this
theorem ordD_get {D : CaveD} (hok : CaveOk D) {k : Nat} (hk : k < D.m) : ∃ i, i < D.m ∧ (toZ (ordD D)).getD k 0 = (i : Int) ∧ kt D (k + 1) = kruS D.A D.B (kt D k) i := by
  have hl := ordD_len hok
  have hk' : k < (ordD D).length := by omega
  refine ⟨(ordD D)[k], ((mem_ordS 41).1 (List.getElem_mem hk')).1, ?_, ?_⟩
  · rw [toZ_get _ hk']
    simp [List.getD, hk']
  · unfold kt
    rw [List.take_succ_eq_append_getElem hk', kru_snoc]
theorem kt_zero (D : CaveD) : kt D 0 = [] := by simp [kt, kru]
theorem kt_end {D : CaveD} (hok : CaveOk D) : kt D D.m = kruL D := by
  unfold kt
  rw [← ordD_len hok, List.take_length]
  rfl
theorem kt_len {D : CaveD} {k : Nat} (hk : k ≤ D.m) : (kt D k).length ≤ D.m := by
  have := kru_len D.A D.B ((ordD D).take k)
  rw [List.length_take] at this
  unfold kt
  omega

/-- It returns this list in memory of its own. -/
def RetM (l : List Nat) (w : World) (e : Ending) (w' : World) : Prop := ∃ A c, e = .returned (.slice A l.length c) ∧ MutI w' w.heap.size w'.heap.size A l.length (fun j => (toZ l).getD j 0) ∧ Below w.heap.size w w'
set_option maxRecDepth 20000 in
set_option maxHeartbeats 3200000 in
theorem SillTree_impl (F G S : Option Addr) (D : CaveD) (c d e : Nat) (w : World) (hx : CaveAt w F G S D) (hs : CaveSmall D) (hok : CaveOk D) :
    Calls Tryd.prog 15 #[.agg #[.slice F D.n c, .slice G D.q d, .slice S D.m e]] w (RetM (treeF D) w) := by
  have hn6 := hok.1.2
  have hm9 := hok.2.2.1
  have HX := hid hx
  have HOK := hid hok
  have HV := hid (fun w' hx' => RetB.yes (CaveValid_impl F G S D c d e w' hx' hs) hok)
  clear hx hok
  have hB := hid (Blk.new w 26 #[.slice F D.n c, .slice G D.q d, .slice S D.m e])
  have hw1 := hid (below_alloc1 w (.cells #[.slice F D.n c, .slice G D.q d, .slice S D.m e] 26))
  go_enter Tryd.func15, Tryd.ntmps15
  go_wp2_with fail
  refine (HV.out _ (HX.out.below hw1.out)).mono ?_
  rintro ex w1 ⟨rfl, hb1⟩
  have hB1 := hid (hB.out.below hb1)
  have y2 := hB1.out.cell (i := 2) rfl
  have HW1 := hid (Below.then_ hw1.out hb1)
  clear hb1 HV hB hw1
  go_wp2_with fail
  refine (ownParts_any D.m w1 (by omega)).mono ?_
  rintro ex w2 ⟨rfl, hR, hb2⟩
  have hB2 := hid (hB1.out.below hb2)
  have HW2 := hid (Below.then_ HW1.out hb2)
  have hlt1 := hB1.out.lt
  have HS : Hid (∃ bs os, 0 < D.m → (w2.cell? ⟨w.heap.size, 2, none⟩ = some (.slice (some ⟨bs, os, none⟩) D.m e) ∧ bs ≠ w1.heap.size ∧ ∀ k, k < D.m → w2.cell? ⟨bs, os + k * 3 + 2, none⟩ = some (.int .i64 (D.h k)))) := by
    by_cases h0 : 0 < D.m
    · obtain ⟨bs, os, hS, hc⟩ := (HX.out.below HW1.out).sil h0
      refine ⟨bs, os, fun _ => ⟨by rw [← hS]; exact hB2.out.cell (i := 2) rfl, ?_, fun k hk => cell_below hb2 (hc k hk).2.2⟩⟩
      have := World.block_lt_of_cell? _ _ (hc 0 h0).1
      simp at this
      omega
    · exact ⟨0, 0, fun h => absurd h h0⟩
  obtain ⟨bs, os, hS⟩ := HS.out
  have HO := hid (order_any HOK.out w1.heap.size D.m w.heap.size bs os e w2 hR (by omega) hS)
  have hsz2 : w1.heap.size ≤ w2.heap.size := hb2.size
  clear hR hb2 y2 hS HS
  go_wp2_with fail
  refine HO.out.mono ?_
  rintro ex w3 ⟨rfl, hI3, hk3⟩
  have HI3 : Hid (Ints w3 (some ⟨w1.heap.size, 0, none⟩) D.m (fun j => (toZ (ordD D)).getD j 0)) := hid hI3
  have HW3 : Hid (Below w.heap.size w w3) := hid (HW2.out.trans (hk3.below HW1.out.size HW2.out.size))
  have hB3 : Hid (Blk w3 w.heap.size 26 #[.slice F D.n c, .slice G D.q d, .slice S D.m e]) := hid ((hk3.block w.heap.size hB2.out.lt (.inl (by omega))).trans hB2.out)
  clear hI3 hk3 HO HW2 hB2 HW1 hB1
  have y0 := hB3.out.cell (i := 0) rfl
  go_wp2_with fail
  refine (ownParts_any D.n w3 (by omega)).mono ?_
  rintro ex w4 ⟨rfl, hR4, hb4⟩
  have HR4 : Hid (Row w4 w3.heap.size D.n D.n (zN (partL D.A D.B (kt D 0)))) := hid (by rw [kt_zero]; exact hR4)
  have HB4 := hid hb4
  have HO4 : Hid (OwnL w4 (w3.heap.size + 1) (.slice none 0 0) (toZ (kt D 0))) := hid (by rw [kt_zero]; exact OwnL.nil_ _ _)
  clear hR4 hb4 y0
  go_wp2
  go_loopw [5, 24] (fun v i wr => ∃ k : Nat, k ≤ D.m ∧ i = .int .i64 k ∧ Hid (Row wr w3.heap.size D.n D.n (zN (partL D.A D.B (kt D k)))) ∧ Hid (OwnL wr (w3.heap.size + 1) v (toZ (kt D k))) ∧ Hid (Below w3.heap.size w3 wr)) (fun _ i _ => D.m - (intOf i).toNat)
  case atStart => exact ⟨0, by omega, rfl, HR4, HO4, HB4⟩
  case round =>
    clear HR4 HO4 HB4
    obtain ⟨k, hk, rfl, HR, HO, HB⟩ := hrel
    have hlen := kt_len (D := D) hk
    by_cases hlt : k < D.m
    · have hltz : (k : Int) < (D.m : Int) := by omega
      obtain ⟨i, him, hi, hki⟩ := ordD_get HOK.out hlt
      have HKI := hid hki
      obtain ⟨bu, ou, hAA, hcu⟩ := (HI3.out.below HB.out) (by omega)
      simp only [Option.some.injEq, Addr.mk.injEq, and_true] at hAA
      obtain ⟨rfl, rfl⟩ := hAA
      have c1 := hcu k hlt
      simp only [hi, Nat.zero_add] at c1
      have HBW := hid (Below.then_ HW3.out HB.out)
      clear hcu hi hki
      obtain ⟨bs, os, hS, a1, a2, a3⟩ := (HX.out.below HBW.out).sil.at_ him
      obtain ⟨⟨q1, q2⟩, ⟨q3, q4⟩, _⟩ := HOK.out.2.2.2.2 i him
      obtain ⟨x, hxx⟩ := Int.eq_ofNat_of_zero_le q1
      obtain ⟨z, hzz⟩ := Int.eq_ofNat_of_zero_le q3
      have HXA : Hid (D.A i = x) := by show (D.a i).toNat = x; omega
      have HZB : Hid (D.B i = z) := by show (D.b i).toNat = z; omega
      have hxn : x < D.n := by omega
      have hzn : z < D.n := by omega
      have himz : (i : Int) < (D.m : Int) := by omega
      rw [hxx] at a1
      rw [hzz] at a2
      clear hxx hzz q1 q2 q3 q4 a3
      have hBr := hid (hB3.out.below HB.out)
      have y2 := hBr.out.cell (i := 2) rfl
      rw [hS] at y2
      clear hS
      go_wp2
      go_still_tail 13, (by kernel_rfl)
      change wpList _ _ _ _ _ wr.drew
      have HRd : Hid (Row wr.drew w3.heap.size D.n D.n (zN (partL D.A D.B (kt D k)))) := hid HR.out.drew
      have HOd : Hid (OwnL wr.drew (w3.heap.size + 1) _ (toZ (kt D k))) := hid (HO.out.below (Below.refl _ _).drew)
      have HBd := hid HB.out.drew
      clear HR HB y2 a1 a2 c1 hBr HBW HO
      generalize wr.drew = v2 at HRd HBd HOd ⊢
      go_wp2_with fail
      refine (joinParts_any w3.heap.size D.n D.n (partL D.A D.B (kt D k)) x z _ HRd.out (by omega) hxn hzn).mono ?_
      rintro ex w5 ⟨rfl, hR5, hk5⟩
      have HB5 := hid (HBd.out.trans (hk5.below (Nat.le_refl _) HBd.out.size))
      have HO5 := hid (HOd.out.kept hk5 (Nat.le_refl _))
      have HR5 := hid hR5
      have hsz5 : w3.heap.size + 1 ≤ w5.heap.size := by have := hR5.lt; omega
      clear hR5 hk5 HRd HOd HBd
      by_cases he : partL D.A D.B (kt D k) x = partL D.A D.B (kt D k) z
      · have hd : decide (partL D.A D.B (kt D k) x ≠ partL D.A D.B (kt D k) z) = false := by simp [he]
        have HU : Hid (kt D (k + 1) = kt D k) := by
          show _ = _
          rw [HKI.out]; unfold kruS; rw [HXA.out, HZB.out, if_pos he]
        have HR6 : Hid (Row w5 w3.heap.size D.n D.n (zN (partL D.A D.B (kt D (k + 1))))) := by
          rw [HU.out, ← relab_same he]; exact HR5
        clear he HR5
        rw [hd]
        go_wp2
        go_roundw
        case rel => exact ⟨k + 1, by omega, by go_num, HR6, by rw [HU.out]; exact HO5, HB5⟩
        case measure => simp [intOf] <;> omega
      · have hd : decide (partL D.A D.B (kt D k) x ≠ partL D.A D.B (kt D k) z) = true := by simp [he]
        have HU : Hid (kt D (k + 1) = kt D k ++ [i]) := by
          show _ = _
          rw [HKI.out]; unfold kruS; rw [HXA.out, HZB.out, if_neg he]
        have HR6 : Hid (Row w5 w3.heap.size D.n D.n (zN (partL D.A D.B (kt D (k + 1))))) := by
          rw [HU.out, partL_snoc, HXA.out, HZB.out]; exact HR5
        clear he HR5
        rw [hd]
        go_wp2_with (at_builtin; refine app_int rfl _ _ rfl (w3.heap.size + 1) _ (toZ (kt D k)) rfl (HO5.out.alloc _) w5.heap.size i rfl (by simp) (by rw [toZ_len]; omega) (by simp; omega) ?_)
        intro v' w' hown' hb'
        have HBA := hid (hb' w5 ((Below.refl _ w5).alloc hsz5 _))
        have HR7 := hid (HR6.out.low (HBA.out.block w3.heap.size (by omega)))
        have HB7 := hid (HB5.out.trans (HBA.out.mono (by omega)))
        clear hb' HO5 HR6
        go_wp2
        go_roundw
        case rel => exact ⟨k + 1, by omega, by go_num, HR7, by rw [HU.out, toZ_snoc]; exact hown', HB7⟩
        case measure => simp [intOf] <;> omega
    · have : k = D.m := by omega
      subst this
      obtain ⟨A, c9, hv, hsort⟩ := sort_any (w3.heap.size + 1) _ (toZ (kt D D.m)) _ HO.out (by rw [toZ_len]; omega)
      subst hv
      have HSO := hid hsort
      have HKE := hid (kt_end HOK.out)
      have HSD := hid (kruL_sorted HOK.out)
      have HLE : Hid ((kruL D).length = (treeF D).length) := ((List.perm_ext_iff_of_nodup (kruL_ok HOK.out).nod (treeF_ok HOK.out).nod).2 fun k => (mem_treeF HOK.out).symm).length_eq
      clear hsort
      go_wp2_with fail
      refine HSO.out.mono ?_
      rintro ex w8 ⟨rfl, hI8, hb8⟩
      have HB8 := hid (Below.then_ HW3.out (HB.out.trans ((hb8 _ (Below.refl _ _)).mono (by omega))))
      have HN : Hid ((toZ (kt D D.m)).length = (treeF D).length) := by show _ = _; rw [toZ_len, HKE.out, HLE.out]
      rw [HN.out] at hI8
      rw [HKE.out, HSD.out] at hI8
      have hlo : w.heap.size ≤ w3.heap.size + 1 := by have := HW3.out.size; omega
      have HI8 := hid (show MutI w8 w.heap.size w8.heap.size A (treeF D).length (fun j => (toZ (treeF D)).getD j 0) from fun h0 => by
        obtain ⟨g, cap, f, h1, h2, h3, h4, h5, h6⟩ := hI8 h0
        exact ⟨g, cap, f, h1, by omega, h3, h4, h5, h6⟩)
      clear hI8 hb8 HO HSO
      go_wp2
      go_ret
      exact ⟨A, c9, by rw [← HN.out]; rfl, HI8.out, HB8.out⟩

/-- For caves that are not valid. -/
theorem SillTree_impl0 (F G S : Option Addr) (D : CaveD) (c d e : Nat) (w : World) (hx : CaveAt w F G S D) (hs : CaveSmall D) (hok : ¬ CaveOk D) :
    Calls Tryd.prog 15 #[.agg #[.slice F D.n c, .slice G D.q d, .slice S D.m e]] w (RetM [] w) := by
  have HV := hid (fun w' hx' => RetB.no (CaveValid_impl F G S D c d e w' hx' hs) hok)
  have HX := hid hx
  clear hx hok
  have hw1 := hid (below_alloc1 w (.cells #[.slice F D.n c, .slice G D.q d, .slice S D.m e] 26))
  go_enter Tryd.func15, Tryd.ntmps15
  go_wp2_with fail
  refine (HV.out _ (HX.out.below hw1.out)).mono ?_
  rintro ex w1 ⟨rfl, hb1⟩
  go_wp2
  go_ret
  exact ⟨none, 0, rfl, fun h => absurd h (by simp), Below.then_ hw1.out hb1⟩

theorem RetM.toT {P : Program} {f : FuncId} {args : Array Value} {w : World} {l : List Nat} (h : Calls P f args w (RetM l w)) : Calls P f args w (RetT l w) :=
  h.mono fun _ _ ⟨A, c, he, hm, hb⟩ => ⟨A, c, he, hm.ints, hb⟩
theorem SillTree_same (D : CaveD) (hs : CaveSmall D) : ∃ l : List Nat, l.length ≤ 1048576 ∧
    (∀ (F G S : Option Addr) (c d e : Nat) (w : World), CaveAt w F G S D → Calls Tryd.prog 17 #[.agg #[.slice F D.n c, .slice G D.q d, .slice S D.m e]] w (RetT l w)) ∧
    (∀ (F G S : Option Addr) (c d e : Nat) (w : World), CaveAt w F G S D → Calls Tryd.prog 15 #[.agg #[.slice F D.n c, .slice G D.q d, .slice S D.m e]] w (RetM l w)) := by
  by_cases h : CaveOk D
  · have h1 := treeF_len D
    have h2 := h.2.2.1
    exact ⟨_, by omega, fun F G S c d e w hx => SillTree_spec F G S D c d e w hx hs h, fun F G S c d e w hx => SillTree_impl F G S D c d e w hx hs h⟩
  · exact ⟨[], by simp, fun F G S c d e w hx => SillTree_spec0 F G S D c d e w hx hs h, fun F G S c d e w hx => SillTree_impl0 F G S D c d e w hx hs h⟩
end Go.Proofs.YtahbfifnpceoeaaDoor
