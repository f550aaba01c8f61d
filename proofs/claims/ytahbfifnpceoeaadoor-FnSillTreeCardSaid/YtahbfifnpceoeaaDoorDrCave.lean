/- A drawn cave: it reads as some cave, with small lists; the reader has moved on. NOT FINISHED: the first loop stands, the rest is open. -/
import Derived.Test.YtahbfifnpceoeaaDoorDrC3
import Derived.Deep.RegionLaw
import Derived.Deep.DeepCutAuto
namespace Go.Proofs.YtahbfifnpceoeaaDoor
open Go.RowKit

/-- It returns a cave, and picked at most m times. -/
def RetCv (g p m : Nat) (w : World) (e : Ending) (w' : World) : Prop :=
  ∃ F G S D c d e2 p', e = .returned (.agg #[.slice F (CaveD.n D) c, .slice G D.q d, .slice S D.m e2]) ∧ CaveHeld w.heap.size w' F G S D ∧ (D.n ≤ 20 ∧ D.q ≤ 20 ∧ D.m ≤ 20 ∧ D.m ≤ e2) ∧ Rdr w' g p' ∧ p' ≤ p + m ∧ Kept g (g + 1) w w'

set_option maxRecDepth 20000 in
set_option maxHeartbeats 8000000 in
theorem l20Cave_any (g p : Nat) (n : Int) (w : World) (hr : Rdr w g p) (hp : p ≤ 100000) (hn0 : 0 < n) (hn : n ≤ 1000) :
    Calls Tryd.prog 51 #[.pointer (some ⟨g, 0, none⟩), .int .i64 n] w (RetCv g p 200 w) := by
  have hgl := hr.lt
  obtain ⟨i0, hi, hz0, hz1, hz2⟩ := info_parts info3
  obtain ⟨j0, hj, hy0, hy1, hy2⟩ := info_parts info34
  go_enter Tryd.func51, Tryd.ntmps51
  go_wp2_with fail
  refine (pick_any g p 6 _ ((hr.below ((Below.refl _ _).alloc (Nat.le_refl _) (.cells Nil3 26))).below ((Below.refl _ _).alloc (Nat.le_refl _) (.cells Nil3 26))) (by omega) (by omega)).mono ?_
  rintro e w1 ⟨q, rfl, hq0, hq, hr1, hk1⟩
  have hsz : w.heap.size + 1 < w1.heap.size := by have := hk1.size; simp at this; omega
  have hbn : Blk ((w.alloc (.cells Nil3 26)).alloc (.cells Nil3 26)) (w.heap.size + 1) 26 Nil3 := by
    have := Blk.new (w.alloc (.cells Nil3 26)) 26 Nil3
    rw [World.size_alloc] at this
    exact this
  have HX : Hid (DrCX w (w.heap.size + 2) g (w.heap.size + 1) w.heap.size (p + 1) 0 0 0 0 w1) :=
    ⟨p + 1, .slice none 0 0, .slice none 0 0, .slice none 0 0, [], [], [], by omega, by simp, by simp, by simp, (fun x hx => by cases hx),
      ⟨hr1, (show Blk w1 (w.heap.size + 1) 26 Nil3 from (hk1.block (w.heap.size + 1) (by simp) (.inr (by omega))).trans hbn), World.ownsRow_nil _ _ _ _, World.ownsRow_nil _ _ _ _, World.ownsRow_nil _ _ _ _, Apart.nil _, Apart.nil _, Apart.nil _, by omega, by omega, by omega⟩,
      (((Kept.refl g (g + 1) w).alloc (.cells Nil3 26)).alloc (.cells Nil3 26)).trans hk1,
      (show Blk w1 w.heap.size 26 Nil3 from (hk1.block w.heap.size (by simp; omega) (.inr (by omega))).trans ((Blk.new w 26 Nil3).alloc _)), by omega, by omega, by omega⟩
  obtain ⟨N, hN⟩ : ∃ N : Nat, 1 + q = (N : Int) := ⟨(1 + q).toNat, by omega⟩
  have hN1 : 1 ≤ N := by omega
  have hN6 : N ≤ 6 := by omega
  generalize hh : w.heap.size + 1 = h at HX hsz ⊢
  generalize hB : w.heap.size + 2 = B at HX
  clear hr hr1 hk1 hq hbn
  go_wp2
  clear hN
  go_loopw [6] (fun i wr => ∃ kk : Nat, kk ≤ N ∧ i = .int .i64 kk ∧ Hid (DrCX w B g h w.heap.size (p + 1 + 2 * (N - kk)) (N - kk) (N - kk) (N - kk) 0 wr)) (fun i _ => (intOf i).toNat)
  case atStart => exact ⟨N, by omega, rfl, HX.out.mono (by omega) (by omega) (by omega) (by omega) (by omega)⟩
  case round =>
    clear HX
    obtain ⟨kk, hkk, rfl, HX⟩ := hrel
    have HX0 := HX
    obtain ⟨p1, u, v, s, lf, la, ls, hp1, hl, hla, hls, hfl, HD, HK, HB0, ho⟩ := HX.out
    have HFL := hid hfl
    have HD := hid HD
    have HK := hid HK
    have HB0 := hid HB0
    have y0 := HD.out.blk.cell (i := 0) rfl
    have HRD := hid HD.out.drew.rdr
    clear hfl
    by_cases hlt : 0 < kk
    · have hltz : (0 : Int) < (kk : Int) := by omega
      go_wp2
      go_cut [] (fun wx => DrCX w B g h w.heap.size (p + 1 + 2 * (N - kk) + 1) (N - kk + 1) (N - kk + 1) (N - kk) 0 wx)
      case first =>
        go_region_law (first
            | (go_simp; go_at_call 72; refine (pick_any g p1 20 _ HRD.out (by omega) (by omega)).mono ?_; rintro e w5 ⟨q5, rfl, hq0, hq, hr5, hk5⟩; have HD5 := hid (HD.out.drew.pick hr5 hk5); have HK5 := hid (HK.out.drew.trans hk5); have c2 := HD5.out.blk.cell (i := 0) rfl; have d2 : ∀ o, (w5.alloc o).cell? ⟨h, 0, none⟩ = some u := (fun o => (HD5.out.blk.alloc o).cell (i := 0) rfl); have HB5 := hid (show Blk w5 w.heap.size 26 Nil3 from (hk5.block w.heap.size HB0.out.lt (.inr (by omega))).trans HB0.out); clear hr5 hk5)
            | (refine step_append_own rfl (.tmp 18) (.tmp 21) 23 rfl B 3 i0 (.int .i64 0) 1 8 Tryd.underlying23 hi hz0 hz1 hz2 rfl (by decide) u lf.length (intL lf) rfl (World.ownsRow.alloc HD5.out.flo _) ⟨w5.heap.size, 0, none⟩ 1 1 [_] rfl rfl (cell_one_new _ _ _) (fun u hu => by simp at hu; subst hu; rfl) (by unfold maxLen; omega) (by omega) (by have := HD5.out.ord; simp; omega) ?_; intro v' w6 hown' hg' hat'; have HM := DrC.mid (HD5.out.alloc _) hg' (fun a ha => (World.ownsRow.lt HD5.out.flo a ha).1); have n2 := HM.2.1.cell (i := 0) rfl; have z2 := HM.2.1.frozen 0; have HF := hid (DrCX.setF HD5.out HFL.out (by omega) HK5.out HB5.out ho hown' hg' hat'); obtain ⟨A', c', rfl⟩ := own_form hown'; clear hown' hg' hat' HM))
        all_goals (try go_wp2_with fail)
        all_goals go_meet
        all_goals exact HF.out.mono (by omega) (by omega) (by omega) (by omega) (by omega)
      case rest =>
        clear HX0 HX HD HK HB0 y0 HRD hp1 hl hla hls ho HFL
        have HX := hid hcut
        clear hcut
        obtain ⟨p1, u, v, s, lf, la, ls, hp1, hl, hla, hls, hfl, HD, HK, HB0, ho⟩ := HX.out
        have HFL := hid hfl
        have HD := hid HD
        have HK := hid HK
        have HB0 := hid HB0
        have y1 := HD.out.blk.cell (i := 1) rfl
        have HRD := hid HD.out.drew.rdr
        clear hfl HX
        go_wp2
        have hkz : (kk : Int) - 1 = ((kk - 1 : Nat) : Int) := by omega
        go_region_law (first
            | (go_simp; go_at_call 72; refine (pick_any g p1 9 _ HRD.out (by omega) (by omega)).mono ?_; rintro e w5 ⟨q5, rfl, hq0, hq, hr5, hk5⟩; have HD5 := hid (HD.out.drew.pick hr5 hk5); have HK5 := hid (HK.out.drew.trans hk5); have c2 := HD5.out.blk.cell (i := 1) rfl; have d2 : ∀ o, (w5.alloc o).cell? ⟨h, 1, none⟩ = some v := (fun o => (HD5.out.blk.alloc o).cell (i := 1) rfl); have HB5 := hid (show Blk w5 w.heap.size 26 Nil3 from (hk5.block w.heap.size HB0.out.lt (.inr (by omega))).trans HB0.out); clear hr5 hk5)
            | (refine step_append_own rfl (.tmp 25) (.tmp 29) 23 rfl B 3 i0 (.int .i64 0) 1 8 Tryd.underlying23 hi hz0 hz1 hz2 rfl (by decide) v la.length (intL la) rfl (World.ownsRow.alloc HD5.out.are _) ⟨w5.heap.size, 0, none⟩ 1 1 [_] rfl rfl (cell_one_new _ _ _) (fun u hu => by simp at hu; subst hu; rfl) (by unfold maxLen; omega) (by omega) (by have := HD5.out.ord; simp; omega) ?_; intro v' w6 hown' hg' hat'; have HM := DrC.mid (HD5.out.alloc _) hg' (fun a ha => (World.ownsRow.lt HD5.out.are a ha).1); have n2 := HM.2.1.cell (i := 1) rfl; have z2 := HM.2.1.frozen 1; have HF := hid (DrCX.setA HD5.out HFL.out HK5.out HB5.out ho hown' hg' hat'); obtain ⟨A', c', rfl⟩ := own_form hown'; clear hown' hg' hat' HM))
        all_goals go_wp2
        all_goals go_roundw
        all_goals first
          | exact ⟨kk - 1, by omega, by first | rfl | exact congrArg (Value.int .i64) hkz, HF.out.mono (by omega) (by omega) (by omega) (by omega) (by omega)⟩
          | (simp [intOf] <;> omega)
    · have hltz : ¬ (0 : Int) < (kk : Int) := by omega
      go_wp2_with fail
      refine (pick_any g p1 9 _ HD.out.rdr (by omega) (by omega)).mono ?_
      rintro ex w3 ⟨q3, rfl, hq30, hq3, hr3, hk3⟩
      have H3 := hid (DrCX.pick' HD.out HK.out HB0.out ho hr3 hk3)
      obtain ⟨M, hM⟩ := Int.eq_ofNat_of_zero_le hq30
      subst hM
      have hM8 : M ≤ 8 := by omega
      have HX2 : Hid (DrCX w B g h w.heap.size (p + 2 + 2 * N) N N N 0 w3) := hid ((DrCX.mk' H3.out.1 HFL.out H3.out.2.1 H3.out.2.2 ho).mono (by omega) (by omega) (by omega) (by omega) (by omega))
      clear HX HX0 HD HK HB0 y0 HRD hr3 hk3 hq3 H3 hp1 hl hla hls HFL ho
      go_wp2
      go_loopw [7] (fun j wr => ∃ jj : Nat, jj ≤ M ∧ j = .int .i64 jj ∧ Hid (DrCX w B g h w.heap.size (p + 2 + 2 * N + 3 * (M - jj)) N N N (M - jj) wr)) (fun j _ => (intOf j).toNat)
      case atStart => exact ⟨M, by omega, rfl, HX2.out.mono (by omega) (by omega) (by omega) (by omega) (by omega)⟩
      case round =>
        clear HX2
        obtain ⟨jj, hjj, rfl, HX⟩ := hrel
        obtain ⟨p1, u, v, s, lf, la, ls, hp1, hl, hla, hls, hfl, HD, HK, HB0, ho⟩ := HX.out
        obtain ⟨A, cc, rfl⟩ := own_form HD.flo
        have HFL := hid hfl
        have HD := hid HD
        have HK := hid HK
        have HB0 := hid HB0
        have y0 := HD.out.blk.cell (i := 0) rfl
        have hlN1 : N ≤ lf.length := by omega
        have hlN2 : lf.length ≤ N := by omega
        clear hfl
        by_cases hlt : 0 < jj
        · have hltz : (0 : Int) < (jj : Int) := by omega
          have HRa := hid HD.out.drew.rdr
          have HRb : Hid (∀ o, Rdr (wr.alloc o).drew g p1) := fun o => (HD.out.alloc o).drew.rdr
          have yb0 : ∀ o, (wr.alloc o).cell? ⟨h, 0, none⟩ = some (.slice A lf.length cc) := fun o => (HD.out.blk.alloc o).cell (i := 0) rfl
          have hneR : h ≠ wr.heap.size := by have := HD.out.ord; omega
          have hneR' := hneR.symm
          go_wp2
          go_cut [8] (fun t8 wx => ∃ (b8 : Nat) (a b : Int), t8 = .pointer (some ⟨b8, 0, none⟩) ∧ (0 ≤ a ∧ a < N) ∧ (0 ≤ b ∧ b < N) ∧ Blk wx b8 34 #[.int .i64 a, .int .i64 b, .int .i64 0] ∧ B ≤ b8 ∧ ∃ p2 u v s, p2 ≤ p + 2 + 2 * N + 3 * (M - jj) + 2 ∧ DrC B g h wx p2 u v s lf la ls ∧ Kept g (g + 1) w wx ∧ Blk wx w.heap.size 26 Nil3 ∧ (∀ a, u.ownBlock = some a → a ≠ b8) ∧ (∀ a, v.ownBlock = some a → a ≠ b8) ∧ (∀ a, s.ownBlock = some a → a ≠ b8))
          case first =>
            go_region_held3 (fun W => W.cell? ⟨h, 0, none⟩ = some (.slice A lf.length cc)) (go_keep) (first
                | (go_at_call 72; (with_reducible refine (pick_any g (p1) (lf.length : Int) _ (HRa.out) (by omega) (by omega)).mono ?_); rintro e w5 ⟨q5, rfl, hq5, hq5', hr5, hk5⟩; have H5 := hid (DrCX.pick' HD.out.drew HK.out.drew HB0.out.drew ho hr5 hk5); have c0 := H5.out.1.blk.cell (i := 0) rfl; have HRw5 := hid H5.out.1.rdr; have HRw5o : Hid (∀ o, Rdr (w5.alloc o) g (p1 + 1)) := (fun o => (H5.out.1.alloc o).rdr); have hnew5 : h ≠ w5.heap.size := (by have := H5.out.1.ord; omega); have hnew5' : w5.heap.size ≠ h := hnew5.symm; skip; clear hr5 hk5)
                | (go_at_call 72; (with_reducible refine (pick_any g (p1) (lf.length : Int) _ (HRb.out _) (by omega) (by omega)).mono ?_); rintro e w5 ⟨q5, rfl, hq5, hq5', hr5, hk5⟩; have H5 := hid (DrCX.pick' (HD.out.alloc _).drew (HK.out.alloc _).drew (HB0.out.alloc _).drew ho hr5 hk5); have c0 := H5.out.1.blk.cell (i := 0) rfl; have HRw5 := hid H5.out.1.rdr; have HRw5o : Hid (∀ o, Rdr (w5.alloc o) g (p1 + 1)) := (fun o => (H5.out.1.alloc o).rdr); have hnew5 : h ≠ w5.heap.size := (by have := H5.out.1.ord; omega); have hnew5' : w5.heap.size ≠ h := hnew5.symm; have NB5 := hid (blk_kept (Blk.new wr 34 #[.int .i64 0, .int .i64 0, .int .i64 0]).drew hk5 (by have := HD.out.ord; omega)); clear hr5 hk5)
                | (go_at_call 72; (with_reducible refine (pick_any g (p1 + 1) (lf.length : Int) _ (HRw5.out) (by omega) (by omega)).mono ?_); rintro e w7 ⟨q7, rfl, hq7, hq7', hr5, hk5⟩; have H7 := hid (DrCX.pick' H5.out.1 H5.out.2.1 H5.out.2.2 ho hr5 hk5); have c0 := H7.out.1.blk.cell (i := 0) rfl; have hnew7 : h ≠ w7.heap.size := (by have := H7.out.1.ord; omega); have hnew7' : w7.heap.size ≠ h := hnew7.symm; try (have NB7 := hid (blk_kept NB5.out hk5 (by have := HD.out.ord; omega)); have n0 := NB7.out.cell (i := 0) rfl; have n1 := NB7.out.cell (i := 1) rfl; have n2 := NB7.out.cell (i := 2) rfl; have z0 := NB7.out.frozen 0; have z1 := NB7.out.frozen 1; have z2 := NB7.out.frozen 2); clear hr5 hk5)
                | (go_at_call 72; (with_reducible refine (pick_any g (p1 + 1) (lf.length : Int) _ (HRw5o.out _) (by omega) (by omega)).mono ?_); rintro e w7 ⟨q7, rfl, hq7, hq7', hr5, hk5⟩; have H7 := hid (DrCX.pick' (H5.out.1.alloc _) (H5.out.2.1.alloc _) (H5.out.2.2.alloc _) ho hr5 hk5); have c0 := H7.out.1.blk.cell (i := 0) rfl; have hnew7 : h ≠ w7.heap.size := (by have := H7.out.1.ord; omega); have hnew7' : w7.heap.size ≠ h := hnew7.symm; have NB7 := hid (blk_kept (Blk.new w5 34 #[.int .i64 0, .int .i64 0, .int .i64 0]) hk5 (by have := H5.out.1.ord; omega)); have n0 := NB7.out.cell (i := 0) rfl; have n1 := NB7.out.cell (i := 1) rfl; have n2 := NB7.out.cell (i := 2) rfl; have z0 := NB7.out.frozen 0; have z1 := NB7.out.frozen 1; have z2 := NB7.out.frozen 2; clear hr5 hk5))
            all_goals (try go_wp2_with fail)
            all_goals go_meet
            · exact ⟨_, q5, q7, rfl, by omega, by omega, Blk.new _ _ _, by have := H7.out.1.ord; omega, _, _, v, s, (by omega), H7.out.1.alloc _, H7.out.2.1.alloc _, H7.out.2.2.alloc _, (fun a ha => by have := (World.ownsRow.lt H7.out.1.flo a ha).2; omega), (fun a ha => by have := (World.ownsRow.lt H7.out.1.are a ha).2; omega), (fun a ha => by have := (World.ownsRow.lt H7.out.1.sil a ha).2; omega)⟩
            · have o1 : ∀ a, Value.ownBlock (.slice A lf.length cc) = some a → a ≠ w5.heap.size := fun a ha => by have := (World.ownsRow.lt H5.out.1.flo a ha).2; omega
              have o2 : ∀ a, v.ownBlock = some a → a ≠ w5.heap.size := fun a ha => by have := (World.ownsRow.lt H5.out.1.are a ha).2; omega
              have o3 : ∀ a, s.ownBlock = some a → a ≠ w5.heap.size := fun a ha => by have := (World.ownsRow.lt H5.out.1.sil a ha).2; omega
              have hb : B ≤ w5.heap.size := by have := H5.out.1.ord; omega
              have hh := H7.out.1.ord
              exact ⟨_, q5, q7, rfl, by omega, by omega, ((NB7.out.set_ 0 _).set_ 1 _).set_ 2 _, hb, _, _, v, s, (by omega), ((H7.out.1.far (q := ⟨w5.heap.size, 0, none⟩) hb o1 o2 o3 _).far (q := ⟨w5.heap.size, 1, none⟩) hb o1 o2 o3 _).far (q := ⟨w5.heap.size, 2, none⟩) hb o1 o2 o3 _,
                ((H7.out.2.1.new (p := ⟨w5.heap.size, 0, none⟩) (by show w.heap.size ≤ w5.heap.size; omega) _).new (p := ⟨w5.heap.size, 1, none⟩) (by show w.heap.size ≤ w5.heap.size; omega) _).new (p := ⟨w5.heap.size, 2, none⟩) (by show w.heap.size ≤ w5.heap.size; omega) _,
                ((H7.out.2.2.far (p := ⟨w5.heap.size, 0, none⟩) (by show w.heap.size ≠ w5.heap.size; omega) _).far (p := ⟨w5.heap.size, 1, none⟩) (by show w.heap.size ≠ w5.heap.size; omega) _).far (p := ⟨w5.heap.size, 2, none⟩) (by show w.heap.size ≠ w5.heap.size; omega) _, o1, o2, o3⟩
            · have o1 : ∀ a, Value.ownBlock (.slice A lf.length cc) = some a → a ≠ wr.heap.size := fun a ha => by have := (World.ownsRow.lt HD.out.flo a ha).2; omega
              have o2 : ∀ a, v.ownBlock = some a → a ≠ wr.heap.size := fun a ha => by have := (World.ownsRow.lt HD.out.are a ha).2; omega
              have o3 : ∀ a, s.ownBlock = some a → a ≠ wr.heap.size := fun a ha => by have := (World.ownsRow.lt HD.out.sil a ha).2; omega
              have hb : B ≤ wr.heap.size := by have := HD.out.ord; omega
              have hh := H7.out.1.ord
              exact ⟨_, q5, q7, rfl, by omega, by omega, ((NB7.out.set_ 0 _).set_ 1 _).set_ 2 _, hb, _, _, v, s, (by omega), ((H7.out.1.far (q := ⟨wr.heap.size, 0, none⟩) hb o1 o2 o3 _).far (q := ⟨wr.heap.size, 1, none⟩) hb o1 o2 o3 _).far (q := ⟨wr.heap.size, 2, none⟩) hb o1 o2 o3 _,
                ((H7.out.2.1.new (p := ⟨wr.heap.size, 0, none⟩) (by show w.heap.size ≤ wr.heap.size; omega) _).new (p := ⟨wr.heap.size, 1, none⟩) (by show w.heap.size ≤ wr.heap.size; omega) _).new (p := ⟨wr.heap.size, 2, none⟩) (by show w.heap.size ≤ wr.heap.size; omega) _,
                ((H7.out.2.2.far (p := ⟨wr.heap.size, 0, none⟩) (by show w.heap.size ≠ wr.heap.size; omega) _).far (p := ⟨wr.heap.size, 1, none⟩) (by show w.heap.size ≠ wr.heap.size; omega) _).far (p := ⟨wr.heap.size, 2, none⟩) (by show w.heap.size ≠ wr.heap.size; omega) _, o1, o2, o3⟩
          case rest =>
            clear HD HK HB0 HRa HRb yb0 y0 HX
            obtain ⟨b8, sa, sb, rfl, hsa, hsb, HB8, hb8, p2, u2, v2, s2, hp2, HD2, HK2, HB2, o1, o2, o3⟩ := hcut
            obtain ⟨A3, c3, rfl, HI⟩ := own_ints HD2.flo
            obtain ⟨x, rfl⟩ := Int.eq_ofNat_of_zero_le hsa.1
            obtain ⟨z, rfl⟩ := Int.eq_ofNat_of_zero_le hsb.1
            obtain ⟨bf, off, rfl, hcf⟩ := HI (by omega)
            have f1 := hcf x (by omega)
            have f2 := hcf z (by omega)
            have HFL1 := hid HFL
            have HD2 := hid HD2
            have HK2 := hid HK2
            have HB2 := hid HB2
            have HB8 := hid HB8
            have y0 := HD2.out.blk.cell (i := 0) rfl
            have x0 := HB8.out.cell (i := 0) rfl
            have x1 := HB8.out.cell (i := 1) rfl
            have x2 := HB8.out.cell (i := 2) rfl
            have z2 := HB8.out.frozen 2
            clear hcf HI
            dsimp only at f1 f2
            generalize lf.getD x 0 = fx at f1
            generalize lf.getD z 0 = fz at f2
            have hbl := World.ownsRow.lt HD2.out.flo bf rfl
            have HBL := hid hbl
            have hnb1 : b8 ≠ h := by have := HD2.out.ord; omega
            have hnb2 : h ≠ b8 := hnb1.symm
            have hnb3 : b8 ≠ bf := (o1 bf rfl).symm
            have hnb4 : bf ≠ b8 := o1 bf rfl
            have hxz : (x : Int) < (lf.length : Int) := by omega
            have hzz : (z : Int) < (lf.length : Int) := by omega
            have HRD := hid HD2.out.drew.rdr
            have HF1 := hid f1
            have HF2 := hid f2
            have HGB : Hid (g + 1 ≤ bf ∧ g + 1 ≤ b8) := hid (by have := HD2.out.ord; have := hbl.1; omega)
            have HOO := hid (show (∀ a, Value.ownBlock (.slice (some ⟨bf, off, none⟩) lf.length c3) = some a → a ≠ b8) ∧ (∀ a, v2.ownBlock = some a → a ≠ b8) ∧ (∀ a, s2.ownBlock = some a → a ≠ b8) from ⟨o1, o2, o3⟩)
            clear o1 o2 o3 hbl
            go_wp2
            go_cut [] (fun wx => ∃ t : Int, Blk wx b8 34 #[.int .i64 x, .int .i64 z, .int .i64 t] ∧ DrCX w B g h w.heap.size (p + 2 + 2 * N + 3 * (M - jj) + 3) N N N (M - jj) wx)
            case first =>
              go_region_held3 (fun W => (W.cell? ⟨h, 0, none⟩ = some (.slice (some ⟨bf, off, none⟩) lf.length c3) ∧ W.cell? ⟨b8, 0, none⟩ = some (.int .i64 x) ∧ W.cell? ⟨b8, 1, none⟩ = some (.int .i64 z)) ∧ W.cell? ⟨bf, off + x, none⟩ = some (.int .i64 fx) ∧ W.cell? ⟨bf, off + z, none⟩ = some (.int .i64 fz)) (go_keep) (first
                  | (go_at_call 72; (with_reducible refine (pick_any g p2 12 _ (HRD.out) (by omega) (by omega)).mono ?_); rintro e w5 ⟨q5, rfl, hq5, hq5', hr5, hk5⟩; have H5 := hid (DrCX.pick' HD2.out.drew HK2.out.drew HB2.out.drew ho hr5 hk5); have c0 := H5.out.1.blk.cell (i := 0) rfl; have NB5 := hid (blk_kept HB8.out.drew hk5 (.inr HGB.out.2)); have n0 := NB5.out.cell (i := 0) rfl; have n1 := NB5.out.cell (i := 1) rfl; have n2 := NB5.out.cell (i := 2) rfl; have z2 := NB5.out.frozen 2; have HKB := hk5.block bf HBL.out.2 (.inr HGB.out.1); have g1 := (World.cell?_of_block (w := wc.drew) (w' := w5) (a := ⟨bf, off + x, none⟩) HKB).trans HF1.out; have g2 := (World.cell?_of_block (w := wc.drew) (w' := w5) (a := ⟨bf, off + z, none⟩) HKB).trans HF2.out; have k0 : ∀ u, (w5.setCell ⟨b8, 2, none⟩ u).cell? ⟨b8, 0, none⟩ = some (.int .i64 x) := (fun u => (NB5.out.set_ 2 u).cell (i := 0) rfl); have k1 : ∀ u, (w5.setCell ⟨b8, 2, none⟩ u).cell? ⟨b8, 1, none⟩ = some (.int .i64 z) := (fun u => (NB5.out.set_ 2 u).cell (i := 1) rfl); clear hr5 hk5 HKB; go_simp))
              all_goals (try go_wp2_with fail)
              all_goals go_meet
              all_goals exact ⟨_, NB5.out.set_ 2 _, (DrCX.far1 H5.out.1 HFL1.out H5.out.2.1 H5.out.2.2 ho hb8 HOO.out.1 HOO.out.2.1 HOO.out.2.2 2 _).mono (by omega) (by omega) (by omega) (by omega) (by omega)⟩
            case rest =>
              clear HD2 HK2 HB2 HRD HF1 HF2 HGB HOO HB8 HBL f1 f2 y0 x0 x1 x2 z2 HFL HFL1
              obtain ⟨t, HB8, HX⟩ := hcut
              have HX := hid HX
              have x0 := HB8.cell (i := 0) rfl
              have x1 := HB8.cell (i := 1) rfl
              have x2 := HB8.cell (i := 2) rfl
              clear HB8
              have hjz : (jj : Int) - 1 = ((jj - 1 : Nat) : Int) := by omega
              by_cases hab : x = z
              · have habz : ((x : Int) != (z : Int)) = false := by simp [hab]
                clear hab
                go_wp2
                go_roundw
                case rel => exact ⟨jj - 1, by omega, by first | rfl | exact congrArg (Value.int .i64) hjz, HX.out.mono (by omega) (by omega) (by omega) (by omega) (by omega)⟩
                case measure => simp [intOf] <;> omega
              · have habz : ((x : Int) != (z : Int)) = true := by simp; omega
                clear hab
                obtain ⟨p1, u, v, s, lf2, la2, ls2, hp1, hl2, hla2, hls2, hfl2, HD, HK, HB0, ho2⟩ := HX.out
                obtain ⟨A2, c2, rfl⟩ := own_form HD.sil
                have HFL2 := hid hfl2
                have HD := hid HD
                have HK := hid HK
                have HB0 := hid HB0
                have y2 := HD.out.blk.cell (i := 2) rfl
                clear hfl2
                go_wp2_with (at_builtin; refine wpList_append_own_at _ rfl _ _ 24 rfl B 34 j0 (.agg #[.int .i64 0, .int .i64 0, .int .i64 0]) 3 24 Tryd.underlying24 hj hy0 hy1 hy2 rfl (by decide) _ ls2.length (triL ls2) rfl (World.ownsRow.alloc HD.out.sil _) ⟨wc.heap.size, 0, none⟩ 1 1 [_, _, _] rfl rfl (cells3_new _ _ _ _ _) (fun u hu => by simp at hu; rcases hu with rfl | rfl | rfl <;> rfl) (by unfold maxLen; omega) (by omega) (by have := HD.out.ord; simp; omega) ?_)
                intro v' w6 hown' hg' _ hat'
                have HM := DrC.mid (HD.out.alloc _) hg' (fun a ha => (World.ownsRow.lt HD.out.sil a ha).1)
                have n2 := HM.2.1.cell (i := 2) rfl
                have z2 := HM.2.1.frozen 2
                have HF := hid (DrCX.setT (t := ((x : Int), (z : Int), t)) HD.out HFL2.out HK.out HB0.out ho2 hown' hg' (by simpa using hat'))
                obtain ⟨A', c', rfl⟩ := own_form hown'
                clear hown' hg' hat' HM HD HK HB0 HX y2
                go_wp2
                go_roundw
                case rel => exact ⟨jj - 1, by omega, by first | rfl | exact congrArg (Value.int .i64) hjz, HF.out.mono (by omega) (by omega) (by omega) (by omega) (by omega)⟩
                case measure => simp [intOf] <;> omega
        · have hltz : ¬ (0 : Int) < (jj : Int) := by omega
          go_wp2_with fail
          refine (odd_any g p1 n _ HD.out.rdr (by omega) (by omega) (by omega)).mono ?_
          rintro e w4 ⟨bo, rfl, hr4, hk4⟩
          have H4 := hid (DrCX.pick' HD.out HK.out HB0.out ho hr4 hk4)
          clear HX HD HK HB0 hr4 hk4 y0
          go_upto_if 80 with fail
          go_cut [] (fun wx => DrCX w B g h w.heap.size (p + 100) 0 20 20 20 wx)
          case first =>
            cases bo with
            | false =>
              go_wp2
              go_meet
              exact (DrCX.mk' H4.out.1 HFL.out H4.out.2.1 H4.out.2.2 ho).mono (by omega) (by omega) (by omega) (by omega) (by omega)
            | true =>
              have hRD := hid H4.out.1.rdr
              go_wp2_with fail
              refine (pick_any g (p1 + 1) 4 _ hRD.out (by omega) (by omega)).mono ?_
              rintro e w5 ⟨qs, rfl, hqs0, hqs, hr5, hk5⟩
              have H5 := hid (DrCX.pick' H4.out.1 H4.out.2.1 H4.out.2.2 ho hr5 hk5)
              clear H4 hr5 hk5 hRD
              obtain ⟨A1, c1, rfl⟩ := own_form H5.out.1.are
              obtain ⟨A2, c2, rfl⟩ := own_form H5.out.1.sil
              have n0 := H5.out.1.blk.cell (i := 0) rfl
              have n1 := H5.out.1.blk.cell (i := 1) rfl
              have n2 := H5.out.1.blk.cell (i := 2) rfl
              have z0 := H5.out.1.blk.frozen 0
              have z1 := H5.out.1.blk.frozen 1
              have z2 := H5.out.1.blk.frozen 2
              by_cases hq0 : qs = 0
              · subst hq0
                go_wp2_with (at_builtin; refine wpList_append_own_at _ rfl _ _ 23 rfl B 3 i0 (.int .i64 0) 1 8 Tryd.underlying23 hi hz0 hz1 hz2 rfl (by decide) _ la.length (intL la) rfl (World.ownsRow.alloc H5.out.1.are _) ⟨w5.heap.size, 0, none⟩ 1 1 [_] rfl rfl (cell_one_new _ _ _) (fun u hu => by simp at hu; subst hu; rfl) (by unfold maxLen; omega) (by omega) (by have := H5.out.1.ord; simp; omega) ?_)
                intro v' w6 hown' hg' _ hat'
                have HM := DrC.mid (H5.out.1.alloc _) hg' (fun a ha => (World.ownsRow.lt H5.out.1.are a ha).1)
                have m2 := HM.2.1.cell (i := 1) rfl
                have mz2 := HM.2.1.frozen 1
                have HF := hid (DrCX.setA H5.out.1 HFL.out H5.out.2.1 H5.out.2.2 ho hown' hg' (by simpa using hat'))
                obtain ⟨A', c', rfl⟩ := own_form hown'
                clear hown' hg' hat' HM n0 n1 n2 z0 z1 z2
                go_wp2
                go_meet
                exact HF.out.mono (by omega) (by omega) (by omega) (by omega) (by omega)
              · have hq0z : (qs == 0) = false := by simp [hq0]
                by_cases hq1 : qs = 1
                · subst hq1
                  have hAs : ∃ bf, A = some ⟨bf, 0, none⟩ := by
                    rcases H5.out.1.flo.2 with ⟨_, h2⟩ | ⟨g', cap, cur, h1, _⟩
                    · omega
                    · simp only [Value.slice.injEq] at h1
                      exact ⟨g', h1.1⟩
                  obtain ⟨bf, hAe⟩ := hAs
                  subst hAe
                  have hlf0 : 0 < lf.length := by omega
                  have hN0 : 0 < N := by omega
                  have HIL : Hid ((intL lf)[0]? = some (.int .i64 (lf.getD 0 0))) := hid (by simp [intL, hlf0])
                  have HRa := hid H5.out.1.drew.rdr
                  have HRb : Hid (∀ o, Rdr (w5.alloc o).drew g (p1 + 1 + 1)) := fun o => (H5.out.1.alloc o).drew.rdr
                  have yb0 : ∀ o, (w5.alloc o).cell? ⟨h, 0, none⟩ = some (.slice (some ⟨bf, 0, none⟩) lf.length cc) := fun o => (H5.out.1.blk.alloc o).cell (i := 0) rfl
                  have hneR : h ≠ w5.heap.size := by have := H5.out.1.ord; omega
                  have hneR' := hneR.symm
                  have hbl := World.ownsRow.lt H5.out.1.flo bf rfl
                  have hnF : bf ≠ w5.heap.size := by omega
                  have hnF' := hnF.symm
                  have hnh : h ≠ bf := by have := H5.out.1.ord; omega
                  have hnh' := hnh.symm
                  have hlfz : (0 : Int) < (lf.length : Int) := by omega
                  clear n1 n2 z0 z1 z2
                  go_wp2
                  go_region_law (first
                      | (go_simp; go_at_call 72; (with_reducible refine (pick_any g (p1 + 1 + 1) 2 _ (HRa.out) (by omega) (by omega)).mono ?_); rintro e w6 ⟨q6, rfl, hq60, hq6, hr6, hk6⟩; have H6 := hid (DrCX.pick' H5.out.1.drew H5.out.2.1.drew H5.out.2.2.drew ho hr6 hk6); obtain ⟨qn, rfl⟩ := Int.eq_ofNat_of_zero_le hq60; have hqn : qn < 2 := (by omega); have hqz : (qn : Int) < 2 := (by omega); have c0 := H6.out.1.blk.cell (i := 0) rfl; have f0 := (World.ownsRow.cellAt H6.out.1.flo 0 (by omega)).trans HIL.out; have g0 := World.ownsRow.frozenAt H6.out.1.flo 0; have hnew : h ≠ w6.heap.size := (by have := H6.out.1.ord; omega); have hnew' := hnew.symm; have hbl6 := World.ownsRow.lt H6.out.1.flo bf rfl; have hnF6 : bf ≠ w6.heap.size := (by omega); have hnF6' := hnF6.symm; have qc := qz_cell (Blk.new w6 3 #[.int .i64 (-1), .int .i64 41]) hqn; have d0 : ∀ o, (w6.alloc o).cell? ⟨h, 0, none⟩ = some (.slice (some ⟨bf, 0, none⟩) lf.length cc) := (fun o => (H6.out.1.blk.alloc o).cell (i := 0) rfl); have d1 : ∀ o, (w6.alloc o).cell? ⟨bf, 0, none⟩ = some (.int .i64 (lf.getD 0 0)) := (fun o => (World.ownsRow.cellAt (World.ownsRow.alloc H6.out.1.flo o) 0 (by omega)).trans HIL.out); have d2 : ∀ o, (w6.alloc o).frozen? ⟨bf, 0, none⟩ = false := (fun o => World.ownsRow.frozenAt (World.ownsRow.alloc H6.out.1.flo o) 0); clear hr6 hk6 hq60 hq6)
                      | (go_simp; go_at_call 72; (with_reducible refine (pick_any g (p1 + 1 + 1) 2 _ (HRb.out _) (by omega) (by omega)).mono ?_); rintro e w6 ⟨q6, rfl, hq60, hq6, hr6, hk6⟩; have H6 := hid (DrCX.pick' (H5.out.1.alloc _).drew (H5.out.2.1.alloc _).drew (H5.out.2.2.alloc _).drew ho hr6 hk6); obtain ⟨qn, rfl⟩ := Int.eq_ofNat_of_zero_le hq60; have hqn : qn < 2 := (by omega); have hqz : (qn : Int) < 2 := (by omega); have c0 := H6.out.1.blk.cell (i := 0) rfl; have f0 := (World.ownsRow.cellAt H6.out.1.flo 0 (by omega)).trans HIL.out; have g0 := World.ownsRow.frozenAt H6.out.1.flo 0; have NB6 := hid (blk_kept (Blk.new w5 3 #[.int .i64 (-1), .int .i64 41]).drew hk6 (.inr (by have := H5.out.1.ord; omega))); have qc := qz_cell NB6.out hqn; have d0 : ∀ o, (w6.alloc o).cell? ⟨h, 0, none⟩ = some (.slice (some ⟨bf, 0, none⟩) lf.length cc) := (fun o => (H6.out.1.blk.alloc o).cell (i := 0) rfl); have d1 : ∀ o, (w6.alloc o).cell? ⟨bf, 0, none⟩ = some (.int .i64 (lf.getD 0 0)) := (fun o => (World.ownsRow.cellAt (World.ownsRow.alloc H6.out.1.flo o) 0 (by omega)).trans HIL.out); have d2 : ∀ o, (w6.alloc o).frozen? ⟨bf, 0, none⟩ = false := (fun o => World.ownsRow.frozenAt (World.ownsRow.alloc H6.out.1.flo o) 0); clear hr6 hk6 hq60 hq6))
                  all_goals (try go_wp2_with fail)
                  all_goals go_meet
                  all_goals first
                    | exact (DrCX.store0 H6.out.1 HFL.out (qz_bd qn) H6.out.2.1 H6.out.2.2 ho).mono (by omega) (by omega) (by omega) (by omega) (by omega)
                    | exact ((DrCX.store0 H6.out.1 HFL.out (qz_bd qn) H6.out.2.1 H6.out.2.2 ho).alloc _).mono (by omega) (by omega) (by omega) (by omega) (by omega)
                    | exact (DrCX.store0 (H6.out.1.alloc _) HFL.out (qz_bd qn) (H6.out.2.1.alloc _) (H6.out.2.2.alloc _) ho).mono (by omega) (by omega) (by omega) (by omega) (by omega)
                · have hq1z : (qs == 1) = false := by simp [hq1]
                  by_cases hq2 : qs = 2
                  · subst hq2
                    go_wp2_with (at_builtin; refine wpList_append_own_at _ rfl _ _ 24 rfl B 34 j0 (.agg #[.int .i64 0, .int .i64 0, .int .i64 0]) 3 24 Tryd.underlying24 hj hy0 hy1 hy2 rfl (by decide) _ ls.length (triL ls) rfl (World.ownsRow.alloc H5.out.1.sil _) ⟨w5.heap.size, 0, none⟩ 1 1 [_, _, _] rfl rfl (cells3_new _ _ _ _ _) (fun u hu => by simp at hu; rcases hu with rfl | rfl | rfl <;> rfl) (by unfold maxLen; omega) (by omega) (by have := H5.out.1.ord; simp; omega) ?_)
                    intro v' w6 hown' hg' _ hat'
                    have HM := DrC.mid (H5.out.1.alloc _) hg' (fun a ha => (World.ownsRow.lt H5.out.1.sil a ha).1)
                    have m2 := HM.2.1.cell (i := 2) rfl
                    have mz2 := HM.2.1.frozen 2
                    have HF := hid (DrCX.setT (t := (0, 0, 40)) H5.out.1 HFL.out H5.out.2.1 H5.out.2.2 ho hown' hg' (by simpa using hat'))
                    obtain ⟨A', c', rfl⟩ := own_form hown'
                    clear hown' hg' hat' HM n0 n1 n2 z0 z1 z2
                    go_wp2
                    go_meet
                    exact HF.out.mono (by omega) (by omega) (by omega) (by omega) (by omega)
                  · have hq2z : (qs == 2) = false := by simp [hq2]
                    have hmk : ∀ W : World, (Instr.makeSlice 24 (.int .i64 10) (.int .i64 10)).run Tryd.prog W = .ok (.slice (some ⟨W.heap.size, 0, none⟩) 10 10) (W.alloc (.cells zerosS 34)) := fun W => run_make_wide (P := Tryd.prog) 24 34 _ 3 24 Tryd.underlying24 info34 .i64 .i64 10 (by omega) (by omega) W
                    have HF := hid (DrCX.made H5.out.1 HFL.out H5.out.2.1 H5.out.2.2 ho)
                    have m1 := (H5.out.1.blk.alloc (.cells zerosS 34)).cell (i := 2) rfl
                    have mz1 := (H5.out.1.blk.alloc (.cells zerosS 34)).frozen 2
                    go_wp2
                    go_meet
                    exact HF.out.mono (by omega) (by omega) (by omega) (by omega) (by omega)
          case rest =>
            clear H4 hp1 hl hla hls ho HFL
            obtain ⟨p2, u2, v2, s2, lf2, la2, ls2, hp2, hl2, hla2, hls2, _, HD, HK, HB0, ho⟩ := hcut
            obtain ⟨A1, c1, rfl⟩ := own_form HD.flo
            obtain ⟨A2, c2, rfl⟩ := own_form HD.are
            obtain ⟨A3, c3, rfl⟩ := own_form HD.sil
            have HD := hid HD
            have HK := hid HK
            have HB0 := hid HB0
            have y0 := HD.out.blk.cell (i := 0) rfl
            have y1 := HD.out.blk.cell (i := 1) rfl
            have y2 := HD.out.blk.cell (i := 2) rfl
            have n0 := HB0.out.cell (i := 0) rfl
            have n1 := HB0.out.cell (i := 1) rfl
            have n2 := HB0.out.cell (i := 2) rfl
            have z0 := HB0.out.frozen 0
            have z1 := HB0.out.frozen 1
            have z2 := HB0.out.frozen 2
            have HR := hid (((HB0.out.set_ 0 (.slice A1 lf2.length c1)).set_ 1 (.slice A2 la2.length c2)).set_ 2 (.slice A3 ls2.length c3))
            have r0 := HR.out.cell (i := 0) rfl
            have r1 := HR.out.cell (i := 1) rfl
            have r2 := HR.out.cell (i := 2) rfl
            have hb0 : w.heap.size < B := by have := HD.out.ord; omega
            have HP := hid (Own.set (Own.set (Own.set HD.out.flo (p := ⟨w.heap.size, 0, none⟩) hb0 (.slice A1 lf2.length c1)) (p := ⟨w.heap.size, 1, none⟩) hb0 (.slice A2 la2.length c2)) (p := ⟨w.heap.size, 2, none⟩) hb0 (.slice A3 ls2.length c3))
            have HQ := hid (Own.set (Own.set (Own.set HD.out.are (p := ⟨w.heap.size, 0, none⟩) hb0 (.slice A1 lf2.length c1)) (p := ⟨w.heap.size, 1, none⟩) hb0 (.slice A2 la2.length c2)) (p := ⟨w.heap.size, 2, none⟩) hb0 (.slice A3 ls2.length c3))
            have HT := hid (Own.set (Own.set (Own.set HD.out.sil (p := ⟨w.heap.size, 0, none⟩) hb0 (.slice A1 lf2.length c1)) (p := ⟨w.heap.size, 1, none⟩) hb0 (.slice A2 la2.length c2)) (p := ⟨w.heap.size, 2, none⟩) hb0 (.slice A3 ls2.length c3))
            have HRD := hid (HD.out.rdr.low (w' := ((wc.setCell ⟨w.heap.size, 0, none⟩ (.slice A1 lf2.length c1)).setCell ⟨w.heap.size, 1, none⟩ (.slice A2 la2.length c2)).setCell ⟨w.heap.size, 2, none⟩ (.slice A3 ls2.length c3)) (fun j hj => ((Below.heap_setCell _ ⟨w.heap.size, 2, none⟩ _ _ (by show j ≠ w.heap.size; omega)).trans (Below.heap_setCell _ ⟨w.heap.size, 1, none⟩ _ _ (by show j ≠ w.heap.size; omega))).trans (Below.heap_setCell _ ⟨w.heap.size, 0, none⟩ _ _ (by show j ≠ w.heap.size; omega))))
            have HKK := hid (((HK.out.new (p := ⟨w.heap.size, 0, none⟩) (Nat.le_refl _) (.slice A1 lf2.length c1)).new (p := ⟨w.heap.size, 1, none⟩) (Nat.le_refl _) (.slice A2 la2.length c2)).new (p := ⟨w.heap.size, 2, none⟩) (Nat.le_refl _) (.slice A3 ls2.length c3))
            go_wp2
            have hgB : g + 1 ≤ B := by have := HD.out.ord; omega
            refine bodyPost_ret (v := .agg #[.slice A1 lf2.length c1, .slice A2 la2.length c2, .slice A3 ls2.length c3]) (by simp [results, Tryd.results51, go_sem, r0, r1, r2]) rfl ⟨A1, A2, A3, ⟨lf2.length, (fun j => lf2.getD j 0), la2.length, (fun j => la2.getD j 0), ls2.length, (fun j => (ls2.getD j (0, 0, 0)).1), (fun j => (ls2.getD j (0, 0, 0)).2.1), (fun j => (ls2.getD j (0, 0, 0)).2.2)⟩, c1, c2, c3, p2, rfl, (fun w'' hk => ⟨own_ints' (Own.high HP.out (fun k h1 h2 => hk k (by omega) h2)), own_ints' (Own.high HQ.out (fun k h1 h2 => hk k (by omega) h2)), own_triples' (Own.high HT.out (fun k h1 h2 => hk k (by omega) h2))⟩), ⟨by show lf2.length ≤ 20; omega, by show la2.length ≤ 20; omega, by show ls2.length ≤ 20; omega, own_cap HT.out⟩, HRD.out, by omega, HKK.out⟩
end Go.Proofs.YtahbfifnpceoeaaDoor
