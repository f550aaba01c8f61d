/- DrawRouteTime: a search, a number and a route. -/
import Derived.Test.YtlhcjbgcgbeocaaDoorDraw4
namespace Go.Proofs.YtlhcjbgcgbeocaaDoor
open Go.RowKit

def DrawSBL (w : World) (e : Ending) (w' : World) : Prop := ∃ P Q D c d br A n cc x, e = .returned (.tuple #[.agg #[.int .i64 (SrchD.s D), .slice P D.m c, .slice Q D.k d], .int .i64 br, .slice A n cc]) ∧ DrOk w w' P Q D c ∧ (-39 ≤ br ∧ br ≤ 100) ∧ Ints w' A n x ∧ n ≤ 10

/-- The search lies between these blocks. -/
def SrchIn (lo hi : Nat) (w : World) (P Q : Option Addr) (D : SrchD) : Prop := ∀ w' : World, (∀ k, lo ≤ k → k < hi → w'.heap[k]? = w.heap[k]?) → SrchAt w' P Q D
theorem SrchIn.step {lo hi : Nat} {w w' : World} {P Q : Option Addr} {D : SrchD} (h : SrchIn lo hi w P Q D) (hk : ∀ k, lo ≤ k → k < hi → w'.heap[k]? = w.heap[k]?) : SrchIn lo hi w' P Q D := fun w'' h' => h w'' (fun k h1 h2 => (h' k h1 h2).trans (hk k h1 h2))
theorem SrchIn.held {lo hi : Nat} {w : World} {P Q : Option Addr} {D : SrchD} (h : SrchIn lo hi w P Q D) (hh : hi ≤ w.heap.size) : SrchHeld lo w P Q D := fun w'' h' => h w'' (fun k h1 h2 => h' k h1 (by omega))
theorem SrchHeld.in_ {lo : Nat} {w w' : World} {P Q : Option Addr} {D : SrchD} (h : SrchHeld lo w P Q D) (hk : ∀ k, lo ≤ k → k < w.heap.size → w'.heap[k]? = w.heap[k]?) : SrchIn lo w.heap.size w' P Q D := fun w'' h' => h w'' (fun k h1 h2 => (h' k h1 h2).trans (hk k h1 h2))

/-- The search's boxes and the route that grows. -/
structure RtI (w : World) (g R X lo p : Nat) (P Q : Option Addr) (D : SrchD) (c d : Nat) (B : Nat) (v : Value) (l : List Int) (wx : World) : Prop where
  s : DrR w g R X lo p P Q D c d wx
  hin : SrchIn lo X wx P Q D
  own : OwnL wx B v l
  ob : X < B ∧ B ≤ wx.heap.size
section
variable {w wx w' : World} {g R X lo p p' : Nat} {P Q : Option Addr} {D : SrchD} {c d B : Nat} {v v' : Value} {l : List Int}
theorem DrR.alloc (H : DrR w g R X lo p P Q D c d wx) (o : Obj) : DrR w g R X lo p P Q D c d (wx.alloc o) :=
  ⟨H.rdr.below ((Below.refl _ _).alloc (Nat.le_refl _) _), H.res.alloc o, H.box.alloc o, H.srch.alloc o, H.kept.alloc o, H.ord⟩
theorem RtI.alloc (H : RtI w g R X lo p P Q D c d B v l wx) (o : Obj) : RtI w g R X lo p P Q D c d B v l (wx.alloc o) :=
  ⟨H.s.alloc o, H.hin.step (fun k _ h2 => Below.heap_alloc _ _ _ (by have := H.ob; omega)), H.own.alloc o, H.ob.1, by have := H.ob.2; simp; omega⟩
theorem RtI.pick (H : RtI w g R X lo p P Q D c d B v l wx) (hr : Rdr w' g p') (hk : Kept g (g + 1) wx w') : RtI w g R X lo p' P Q D c d B v l w' :=
  ⟨H.s.pick hr hk, H.hin.step (fun k h1 h2 => hk.block k (by have := H.ob; omega) (.inr (by have := H.s.ord; omega))), ownL_kept H.own hk (by have := H.ob; have := H.s.ord; omega), H.ob.1, by have := H.ob; have := hk.size; omega⟩
theorem RtI.app {x : Int} (H : RtI w g R X lo p P Q D c d B v l wx) (ho : OwnL w' B v' (l ++ [x])) (hb : Below B wx w') : RtI w g R X lo p P Q D c d B v' (l ++ [x]) w' :=
  have hin := H.hin.step (w' := w') (fun k _ h2 => hb.block k (by have := H.ob; omega))
  ⟨⟨H.s.rdr.low (fun j hj => hb.block j (by have := H.ob; have := H.s.ord; omega)), (hb.block _ (by have := H.ob; have := H.s.ord; omega)).trans H.s.res, (hb.block _ (by have := H.ob; omega)).trans H.s.box, hin.held (by have := H.ob; have := hb.size; omega), kept_then H.s.kept hb (by have := H.ob; have := H.s.ord; omega), H.s.ord⟩, hin, ho, H.ob.1, by have := H.ob; have := hb.size; omega⟩
end
theorem OwnL.lit1 (w : World) (x : Int) {B : Nat} (hB : B ≤ w.heap.size) : OwnL (w.alloc (.cells #[.int .i64 x] 3)) B (.slice (some ⟨w.heap.size, 0, none⟩) 1 1) [x] := by
  refine ⟨rfl, .inr ⟨w.heap.size, 1, #[.int .i64 x], rfl, hB, heap_alloc_new w _, Nat.le_refl _, by unfold maxLen; omega, by simp, ?_⟩⟩
  simp

set_option maxRecDepth 20000 in
set_option maxHeartbeats 1600000 in
theorem DrawRouteTime_any (A : Option Addr) (n c0 : Nat) (y : Nat → Int) (w : World) (hx : Bytes w A n y) (hy : ∀ j, 0 ≤ y j ∧ y j < 256) (hn : n ≤ c0) : Calls Tryd.prog 34 #[.slice A n c0] w (DrawSBL w) := by
  have hb0 := hid (Joins.below_alloc1 w (.cells #[.int .i64 0, .slice none 0 0, .slice none 0 0] 26))
  have hB0 := hid (Blk.new w 26 #[.int .i64 0, .slice none 0 0, .slice none 0 0])
  go_enter Tryd.func34, Tryd.ntmps34
  go_wp2_with fail
  refine (l20Open_any A n c0 y _ (hx.alloc _) hy hn).mono ?_
  rintro e w1 ⟨rfl, hr1, hb1⟩
  simp only [World.size_alloc] at hr1
  have hB1 := hid (hB0.out.below hb1)
  have hsz1 : w.heap.size + 1 < w1.heap.size := by have := hr1.lt; omega
  have hb1' := hid (Below.then_ hb0.out hb1)
  clear hB0 hb0 hb1
  go_wp2_with fail
  refine (l20Search_any (w.heap.size + 1) 0 9 _ hr1 (by omega) (by omega) (by omega)).mono ?_
  rintro e w2 ⟨P, Q, D, c, d, p2, rfl, hD, hsm, hsp, hr2, hp2, hk2⟩
  obtain ⟨h0, h9⟩ := hsp
  have hsz2 : w1.heap.size ≤ w2.heap.size := hk2.size
  have H2 := hid (DrR.start (w := w) (g := w.heap.size + 1) (R := w.heap.size) (c := c) (d := d) hr2 (blk_kept hB1.out hk2 (.inl (by omega))) hD ((below_kept hb1'.out _ _).trans hk2) (by omega) rfl)
  have HIN2 := hid (hD.in_ (w' := w2.alloc (.cells #[.int .i64 D.s, .slice P D.m c, .slice Q D.k d] 26)) (fun k _ h2 => Below.heap_alloc _ _ _ h2))
  clear hr1 hr2 hk2 hD hB1 hb1'
  go_wp2_with fail
  generalize w2.alloc (.cells #[.int .i64 D.s, .slice P D.m c, .slice Q D.k d] 26) = w3 at H2 HIN2 ⊢
  have ho := H2.out.ord
  generalize hX : w2.heap.size = X at H2 HIN2 ho ⊢
  have hX3 := H2.out.box.lt
  refine (l20Breath_any _ p2 _ H2.out.rdr (by omega)).mono ?_
  rintro e w4 ⟨q4, rfl, hq4, hr4, hk4⟩
  have H4 := hid (H2.out.pick hr4 hk4)
  have HIN4 := hid (HIN2.out.step (fun k h1 h2 => hk4.block k (by omega) (.inr (by omega))))
  have hX4 := H4.out.box.lt
  clear H2 HIN2 hr4 hk4 hX3
  go_wp2_with fail
  refine (pick_any _ (p2 + 3) 20 _ H4.out.rdr (by omega) (by omega)).mono ?_
  rintro e w5 ⟨q5, rfl, h5a, h5b, hr5, hk5⟩
  have H5 := hid (H4.out.pick hr5 hk5)
  have HIN5 := hid (HIN4.out.step (fun k h1 h2 => hk5.block k (by omega) (.inr (by omega))))
  have hX5 := H5.out.box.lt
  clear H4 HIN4 hr5 hk5 hX4
  have y0 := H5.out.box.cell (i := 0) rfl
  have y1 := H5.out.box.cell (i := 1) rfl
  have y2 := H5.out.box.cell (i := 2) rfl
  go_wp2_with fail
  refine (l20Spot_any _ (p2 + 3 + 1) P Q D c d _ H5.out.rdr (by omega) h0 h9).mono ?_
  rintro e w6 ⟨q6, rfl, hq6, hr6, hk6⟩
  have H6 := hid (H5.out.pick hr6 hk6)
  have HIN6 := hid (HIN5.out.step (fun k h1 h2 => hk6.block k (by omega) (.inr (by omega))))
  have hX6 := H6.out.box.lt
  have H7 : Hid (RtI w (w.heap.size + 1) w.heap.size X w1.heap.size (p2 + 3 + 1 + 3) P Q D c d w6.heap.size (.slice (some ⟨w6.heap.size, 0, none⟩) 1 1) [q6] (w6.alloc (.cells #[.int .i64 q6] 3))) :=
    ⟨H6.out.alloc _, HIN6.out.step (fun k h1 h2 => Below.heap_alloc _ _ _ (by omega)), OwnL.lit1 w6 q6 (Nat.le_refl _), hX6, by simp⟩
  clear H5 HIN5 H6 HIN6 hr6 hk6 hX5 y0 y1 y2
  go_wp2_with fail
  refine (pick_any _ (p2 + 3 + 1 + 3) 7 _ H7.out.s.rdr (by omega) (by omega)).mono ?_
  rintro e w8 ⟨q8, rfl, h8a, h8b, hr8, hk8⟩
  have H8 := hid (H7.out.pick hr8 hk8)
  obtain ⟨qn, rfl⟩ := Int.eq_ofNat_of_zero_le h8a
  have hqn : qn ≤ 7 := by omega
  generalize w6.heap.size = B at *
  clear H7 hr8 hk8 h8a h8b
  go_wp2
  go_loopw [8, 9] (fun v i wr => ∃ (kk : Nat) (l : List Int) (p' : Nat), kk ≤ 7 ∧ i = .int .i64 kk ∧ 1 ≤ l.length ∧ l.length + kk ≤ 8 ∧ p' + 50 * kk ≤ p2 + 1000 ∧ Hid (RtI w (w.heap.size + 1) w.heap.size X w1.heap.size p' P Q D c d B v l wr)) (fun _ i _ => (intOf i).toNat)
  case atStart => exact ⟨qn, [q6], _, hqn, rfl, by simp, by simp; omega, by omega, H8⟩
  case round =>
    clear H8
    obtain ⟨kk, l, p', hkk, rfl, hl1, hl8, hp', HX⟩ := hrel
    by_cases hk0 : kk = 0
    · have hk0z : decide (0 < kk) = false := decide_eq_false (by omega)
      go_wp2_with fail
      refine (odd_any _ p' 20 _ HX.out.s.rdr (by omega) (by omega) (by omega)).mono ?_
      rintro e w9 ⟨b, rfl, hr9, hk9⟩
      have H9 := hid (HX.out.pick hr9 hk9)
      clear HX hr9 hk9
      cases b with
      | false =>
        have HS9 := hid H9.out.s
        obtain ⟨A1, c1, hv1, hi1⟩ := H9.out.own.held
        subst hv1
        have hXB := H9.out.ob
        have y0 := HS9.out.box.cell (i := 0) rfl
        have y1 := HS9.out.box.cell (i := 1) rfl
        have y2 := HS9.out.box.cell (i := 2) rfl
        have n0 := HS9.out.res.cell (i := 0) rfl
        have n1 := HS9.out.res.cell (i := 1) rfl
        have n2 := HS9.out.res.cell (i := 2) rfl
        have z0 := HS9.out.res.frozen 0
        have z1 := HS9.out.res.frozen 1
        have z2 := HS9.out.res.frozen 2
        have hn1 : w.heap.size ≠ X := by omega
        have hn2 : X ≠ w.heap.size := by omega
        have HF := HS9.out.fin_res (.int .i64 D.s) (.slice P D.m c) (.slice Q D.k d)
        have HS := hid (HS9.out.fin_srch (.int .i64 D.s) (.slice P D.m c) (.slice Q D.k d))
        have HKf := hid (HS9.out.fin_kept (.int .i64 D.s) (.slice P D.m c) (.slice Q D.k d))
        unfold fin at HF HS HKf
        have r0 := HF.cell (i := 0) rfl
        have r1 := HF.cell (i := 1) rfl
        have r2 := HF.cell (i := 2) rfl
        clear HF
        go_wp2
        refine bodyPost_ret (v := .tuple #[.agg #[.int .i64 (SrchD.s D), .slice P D.m c, .slice Q D.k d], .int .i64 (q4 + q5), .slice A1 l.length c1]) (by simp [results, Tryd.results34, go_sem, r0, r1, r2]) rfl ⟨P, Q, D, c, d, q4 + q5, A1, l.length, c1, _, rfl, ⟨HS.out.lower (by omega), hsm, ⟨h0, h9⟩, HKf.out.below' (by omega)⟩, by omega, hi1 _ (fun k h1 h2 => ((Below.heap_setCell _ ⟨w.heap.size, 2, none⟩ _ _ (by show k ≠ w.heap.size; omega)).trans (Below.heap_setCell _ ⟨w.heap.size, 1, none⟩ _ _ (by show k ≠ w.heap.size; omega))).trans (Below.heap_setCell _ ⟨w.heap.size, 0, none⟩ _ _ (by show k ≠ w.heap.size; omega))), by omega⟩
      | true =>
        have HS9 := hid (H9.out.s.alloc (.cells #[] 3))
        have hXB := H9.out.ob
        have y0 := HS9.out.box.cell (i := 0) rfl
        have y1 := HS9.out.box.cell (i := 1) rfl
        have y2 := HS9.out.box.cell (i := 2) rfl
        have n0 := HS9.out.res.cell (i := 0) rfl
        have n1 := HS9.out.res.cell (i := 1) rfl
        have n2 := HS9.out.res.cell (i := 2) rfl
        have z0 := HS9.out.res.frozen 0
        have z1 := HS9.out.res.frozen 1
        have z2 := HS9.out.res.frozen 2
        have hn1 : w.heap.size ≠ X := by omega
        have hn2 : X ≠ w.heap.size := by omega
        have HF := HS9.out.fin_res (.int .i64 D.s) (.slice P D.m c) (.slice Q D.k d)
        have HS := hid (HS9.out.fin_srch (.int .i64 D.s) (.slice P D.m c) (.slice Q D.k d))
        have HKf := hid (HS9.out.fin_kept (.int .i64 D.s) (.slice P D.m c) (.slice Q D.k d))
        unfold fin at HF HS HKf
        have r0 := HF.cell (i := 0) rfl
        have r1 := HF.cell (i := 1) rfl
        have r2 := HF.cell (i := 2) rfl
        clear HF
        go_wp2
        refine bodyPost_ret (v := .tuple #[.agg #[.int .i64 (SrchD.s D), .slice P D.m c, .slice Q D.k d], .int .i64 (q4 + q5), .slice (some ⟨w9.heap.size, 0, none⟩) 0 0]) (by simp [results, Tryd.results34, go_sem, r0, r1, r2]) rfl ⟨P, Q, D, c, d, q4 + q5, _, 0, 0, fun _ => 0, rfl, ⟨HS.out.lower (by omega), hsm, ⟨h0, h9⟩, HKf.out.below' (by omega)⟩, by omega, fun h => absurd h (by omega), by omega⟩
    · have hk0z : decide (0 < kk) = true := decide_eq_true (by omega)
      obtain ⟨A1, c1, hv1, hi1⟩ := HX.out.own.ints
      subst hv1
      obtain ⟨b1, o1, hA1, hc1⟩ := hi1 (by omega)
      subst hA1
      have q1 : wr.cell? ⟨b1, o1 + (l.length - 1), none⟩ = some (.int .i64 (l.getD (l.length - 1) 0)) := hc1 (l.length - 1) (by omega)
      have hlz : (l.length : Int) - 1 = ((l.length - 1 : Nat) : Int) := by omega
      have hlt1 : ((l.length - 1 : Nat) : Int) < (l.length : Int) := by omega
      have y0 := HX.out.s.box.cell (i := 0) rfl
      have y1 := HX.out.s.box.cell (i := 1) rfl
      have y2 := HX.out.s.box.cell (i := 2) rfl
      clear hc1 hi1
      generalize l.getD (l.length - 1) 0 = at_ at q1
      go_wp2_with fail
      refine (l20Spot_any _ p' P Q D c d _ HX.out.s.rdr (by omega) h0 h9).mono ?_
      rintro e w9 ⟨q9, rfl, hq9, hr9, hk9⟩
      have H9 := hid (HX.out.pick hr9 hk9)
      clear HX hr9 hk9 y0 y1 y2 q1
      go_wp2
      go_loopw [11, 12] (fun nv i wr => ∃ (j : Nat) (nx : Int) (p'' : Nat), j ≤ D.m ∧ i = .int .i64 j ∧ nv = .int .i64 nx ∧ p'' ≤ p' + 3 + 2 * j ∧ Hid (RtI w (w.heap.size + 1) w.heap.size X w1.heap.size p'' P Q D c d B (.slice (some ⟨b1, o1, none⟩) l.length c1) l wr)) (fun _ i _ => D.m - (intOf i).toNat)
      case atStart => exact ⟨0, q9, _, by omega, rfl, rfl, by omega, H9⟩
      case round =>
        clear H9
        obtain ⟨j, nx, p'', hj, rfl, rfl, hp'', HX⟩ := hrel
        have y1 := HX.out.s.box.cell (i := 1) rfl
        by_cases hlt : j < D.m
        · have hltz : (j : Int) < (D.m : Int) := by omega
          obtain ⟨bp, op, hP, hpc⟩ := HX.out.s.srch.at_.pas (by omega)
          obtain ⟨p1, p2', p3⟩ := hpc j hlt
          subst hP
          clear hpc
          have HC := hid (HX.out.alloc (.cells #[.int .i64 (D.a j), .int .i64 (D.b j), .int .i64 (D.t j)] 31))
          have hgw : w.heap.size + 1 + 1 ≤ wr.heap.size := by have := HX.out.ob; have := HX.out.s.ord; omega
          have HPB := hid (Blk.new wr 31 #[.int .i64 (D.a j), .int .i64 (D.b j), .int .i64 (D.t j)])
          by_cases ha : D.a j = at_
          · have haz : (D.a j == at_) = true := by simp [ha]
            have hah := hid ha
            clear ha
            go_wp2_with fail
            refine (pick_any _ p'' 2 _ HC.out.s.rdr (by omega) (by omega)).mono ?_
            rintro e w11 ⟨q11, rfl, h11a, h11b, hr11, hk11⟩
            have HC := hid (HC.out.pick hr11 hk11)
            have HPB := hid (blk_kept HPB.out hk11 (.inr hgw))
            have r0 := HPB.out.cell (i := 0) rfl
            have r1 := HPB.out.cell (i := 1) rfl
            clear hr11 hk11 HX
            by_cases hq : q11 = 0
            · subst hq
              by_cases hb : D.b j = at_
              · have hbz : (D.b j == at_) = true := by simp [hb]
                have hbh := hid hb
                clear hb
                go_wp2_with fail
                refine (pick_any _ (p'' + 1) 2 _ HC.out.s.rdr (by omega) (by omega)).mono ?_
                rintro e w12 ⟨q12, rfl, h12a, h12b, hr12, hk12⟩
                have HL := hid (HC.out.pick hr12 hk12)
                have HPn := hid (blk_kept HPB.out hk12 (.inr hgw))
                have r0 := HPn.out.cell (i := 0) rfl
                have r1 := HPn.out.cell (i := 1) rfl
                by_cases hq : q12 = 0
                · subst hq
                  go_wp2
                  go_roundw
                  case rel => exact ⟨j + 1, _, _, by omega, by go_num, rfl, by omega, HL⟩
                  case measure => simp [intOf] <;> omega
                · have hqz : (q12 == 0) = false := by simp [hq]
                  go_wp2
                  go_roundw
                  case rel => exact ⟨j + 1, _, _, by omega, by go_num, rfl, by omega, HL⟩
                  case measure => simp [intOf] <;> omega
              · have hbz : (D.b j == at_) = false := by simp [hb]
                have hbh := hid hb
                clear hb
                have HL := HC
                have r0 := HPB.out.cell (i := 0) rfl
                have r1 := HPB.out.cell (i := 1) rfl
                go_wp2
                go_roundw
                case rel => exact ⟨j + 1, _, _, by omega, by go_num, rfl, by omega, HL⟩
                case measure => simp [intOf] <;> omega
            · have hqz0 : (q11 == 0) = false := by simp [hq]
              by_cases hb : D.b j = at_
              · have hbz : (D.b j == at_) = true := by simp [hb]
                have hbh := hid hb
                clear hb
                go_wp2_with fail
                refine (pick_any _ (p'' + 1) 2 _ HC.out.s.rdr (by omega) (by omega)).mono ?_
                rintro e w12 ⟨q12, rfl, h12a, h12b, hr12, hk12⟩
                have HL := hid (HC.out.pick hr12 hk12)
                have HPn := hid (blk_kept HPB.out hk12 (.inr hgw))
                have r0 := HPn.out.cell (i := 0) rfl
                have r1 := HPn.out.cell (i := 1) rfl
                by_cases hq : q12 = 0
                · subst hq
                  go_wp2
                  go_roundw
                  case rel => exact ⟨j + 1, _, _, by omega, by go_num, rfl, by omega, HL⟩
                  case measure => simp [intOf] <;> omega
                · have hqz : (q12 == 0) = false := by simp [hq]
                  go_wp2
                  go_roundw
                  case rel => exact ⟨j + 1, _, _, by omega, by go_num, rfl, by omega, HL⟩
                  case measure => simp [intOf] <;> omega
              · have hbz : (D.b j == at_) = false := by simp [hb]
                have hbh := hid hb
                clear hb
                have HL := HC
                have r0 := HPB.out.cell (i := 0) rfl
                have r1 := HPB.out.cell (i := 1) rfl
                go_wp2
                go_roundw
                case rel => exact ⟨j + 1, _, _, by omega, by go_num, rfl, by omega, HL⟩
                case measure => simp [intOf] <;> omega
          · have haz : (D.a j == at_) = false := by simp [ha]
            have hah := hid ha
            clear ha
            have r0 := HPB.out.cell (i := 0) rfl
            have r1 := HPB.out.cell (i := 1) rfl
            clear HX
            by_cases hb : D.b j = at_
            · have hbz : (D.b j == at_) = true := by simp [hb]
              have hbh := hid hb
              clear hb
              go_wp2_with fail
              refine (pick_any _ p'' 2 _ HC.out.s.rdr (by omega) (by omega)).mono ?_
              rintro e w12 ⟨q12, rfl, h12a, h12b, hr12, hk12⟩
              have HL := hid (HC.out.pick hr12 hk12)
              have HPn := hid (blk_kept HPB.out hk12 (.inr hgw))
              have r0 := HPn.out.cell (i := 0) rfl
              have r1 := HPn.out.cell (i := 1) rfl
              by_cases hq : q12 = 0
              · subst hq
                go_wp2
                go_roundw
                case rel => exact ⟨j + 1, _, _, by omega, by go_num, rfl, by omega, HL⟩
                case measure => simp [intOf] <;> omega
              · have hqz : (q12 == 0) = false := by simp [hq]
                go_wp2
                go_roundw
                case rel => exact ⟨j + 1, _, _, by omega, by go_num, rfl, by omega, HL⟩
                case measure => simp [intOf] <;> omega
            · have hbz : (D.b j == at_) = false := by simp [hb]
              have hbh := hid hb
              clear hb
              have HL := HC
              have r0 := HPB.out.cell (i := 0) rfl
              have r1 := HPB.out.cell (i := 1) rfl
              go_wp2
              go_roundw
              case rel => exact ⟨j + 1, _, _, by omega, by go_num, rfl, by omega, HL⟩
              case measure => simp [intOf] <;> omega
        · have hnlt : ¬ ((j : Int) < (D.m : Int)) := by omega
          have hob := HX.out.ob.2
          have hkz : (kk : Int) - 1 = ((kk - 1 : Nat) : Int) := by omega
          have hm20 := hsm.1
          go_wp2_with (at_builtin; refine app_int rfl _ _ rfl B _ _ rfl (HX.out.own.alloc _) wr.heap.size nx rfl (by simp) (by omega) (by simp; omega) ?_)
          intro v' w13 hown' hbel'
          have H13 := hid (HX.out.app hown' (hbel' wr ((Below.refl _ _).alloc hob _)))
          clear HX hown' hbel' y1
          go_wp2
          go_roundw
          case rel => exact ⟨kk - 1, l ++ [nx], p'', by omega, by first | rfl | exact vint hkz, by simp, by simp; omega, by omega, H13⟩
          case measure => simp [intOf] <;> omega
end Go.Proofs.YtlhcjbgcgbeocaaDoor
