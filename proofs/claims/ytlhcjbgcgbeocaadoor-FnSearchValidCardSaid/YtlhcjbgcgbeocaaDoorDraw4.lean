/- The laws' data, drawn whole, part 2. -/
import Derived.Test.YtlhcjbgcgbeocaaDoorDraw3
namespace Go.Proofs.YtlhcjbgcgbeocaaDoor
open Go.RowKit

/-- A drawn search: how it reads, and how small it is. -/
structure DrOk (w w' : World) (P Q : Option Addr) (D : SrchD) (c : Nat) : Prop where
  held : SrchHeld w.heap.size w' P Q D
  sm : D.m ≤ 20 ∧ D.k ≤ 20 ∧ D.m ≤ c
  sp : -10 ≤ D.s ∧ D.s ≤ 10
  bel : Below w.heap.size w w'
theorem DrOk.at_ {w w' : World} {P Q : Option Addr} {D : SrchD} {c : Nat} (h : DrOk w w' P Q D c) : SrchAt w' P Q D := h.held.at_
theorem DrOk.small {w w' : World} {P Q : Option Addr} {D : SrchD} {c : Nat} (h : DrOk w w' P Q D c) : SrchSmall D := ⟨by have := h.sm; omega, by have := h.sm; omega⟩
def DrawS (w : World) (e : Ending) (w' : World) : Prop := ∃ P Q D c d, e = .returned (.agg #[.int .i64 (SrchD.s D), .slice P D.m c, .slice Q D.k d]) ∧ DrOk w w' P Q D c
def DrawS2 (w : World) (e : Ending) (w' : World) : Prop := ∃ P Q D c d x y, e = .returned (.tuple #[.agg #[.int .i64 (SrchD.s D), .slice P D.m c, .slice Q D.k d], .int .i64 x, .int .i64 y]) ∧ DrOk w w' P Q D c ∧ (-9 ≤ x ∧ x ≤ 17) ∧ (-9 ≤ y ∧ y ≤ 17)
def DrawS3 (w : World) (e : Ending) (w' : World) : Prop := ∃ P Q D c d br x y, e = .returned (.tuple #[.agg #[.int .i64 (SrchD.s D), .slice P D.m c, .slice Q D.k d], .int .i64 br, .int .i64 x, .int .i64 y]) ∧ DrOk w w' P Q D c ∧ (-39 ≤ br ∧ br ≤ 70) ∧ (-9 ≤ x ∧ x ≤ 17) ∧ (-9 ≤ y ∧ y ≤ 17)
def DrawSL (w : World) (e : Ending) (w' : World) : Prop := ∃ P Q D c d A n cc x, e = .returned (.tuple #[.agg #[.int .i64 (SrchD.s D), .slice P D.m c, .slice Q D.k d], .slice A n cc]) ∧ DrOk w w' P Q D c ∧ Ints w' A n x ∧ n ≤ 4 ∧ ∀ j, j < n → -9 ≤ x j ∧ x j ≤ 17
def DrawSNL (w : World) (e : Ending) (w' : World) : Prop := ∃ P Q D c d f A n cc x, e = .returned (.tuple #[.agg #[.int .i64 (SrchD.s D), .slice P D.m c, .slice Q D.k d], .int .i64 f, .slice A n cc]) ∧ DrOk w w' P Q D c ∧ (-9 ≤ f ∧ f ≤ 17) ∧ Ints w' A n x ∧ n ≤ 4 ∧ ∀ j, j < n → -9 ≤ x j ∧ x j ≤ 17

/-- The result's box is there ahead of the draw. -/
theorem fin_ok {w w1 : World} {P Q : Option Addr} {D : SrchD} {lo c : Nat} (hB : Blk w1 w.heap.size 26 #[.int .i64 0, .slice none 0 0, .slice none 0 0]) (hs : SrchHeld lo w1 P Q D) (hlo : w.heap.size < lo) (hsm : D.m ≤ 20 ∧ D.k ≤ 20 ∧ D.m ≤ c) (hsp : -10 ≤ D.s ∧ D.s ≤ 10)
    (hb : Below w.heap.size w w1) (x y z : Value) : DrOk w (fin w1 w.heap.size x y z) P Q D c ∧ Blk (fin w1 w.heap.size x y z) w.heap.size 26 #[x, y, z] :=
  ⟨⟨SrchHeld.lower (((hs.set (q := ⟨w.heap.size, 0, none⟩) hlo x).set (q := ⟨w.heap.size, 1, none⟩) hlo y).set (q := ⟨w.heap.size, 2, none⟩) hlo z) (by omega), hsm, hsp,
    ((hb.setCell (p := ⟨w.heap.size, 0, none⟩) (Nat.le_refl _) x).setCell (p := ⟨w.heap.size, 1, none⟩) (Nat.le_refl _) y).setCell (p := ⟨w.heap.size, 2, none⟩) (Nat.le_refl _) z⟩, ((hB.set_ 0 x).set_ 1 y).set_ 2 z⟩

set_option maxRecDepth 20000 in
theorem DrawSearchValid_any (A : Option Addr) (n c0 : Nat) (y : Nat → Int) (w : World) (hx : Bytes w A n y) (hy : ∀ j, 0 ≤ y j ∧ y j < 256) (hn : n ≤ c0) : Calls Tryd.prog 13 #[.slice A n c0] w (DrawS w) := by
  have hb0 := hid (Joins.below_alloc1 w (.cells #[.int .i64 0, .slice none 0 0, .slice none 0 0] 26))
  have hB0 := hid (Blk.new w 26 #[.int .i64 0, .slice none 0 0, .slice none 0 0])
  go_enter Tryd.func13, Tryd.ntmps13
  go_wp2_with fail
  refine (l20Open_any A n c0 y _ (hx.alloc _) hy hn).mono ?_
  rintro e w1 ⟨rfl, hr1, hb1⟩
  simp only [World.size_alloc] at hr1
  have hB1 := hid (hB0.out.below hb1)
  have hsz1 : w.heap.size + 1 < w1.heap.size := by have := hr1.lt; omega
  have hb1' := hid (Below.then_ hb0.out hb1)
  clear hB0 hb0 hb1
  go_wp2_with fail
  refine (l20Search_any (w.heap.size + 1) 0 2 _ hr1 (by omega) (by omega) (by omega)).mono ?_
  rintro e w2 ⟨P, Q, D, c, d, p2, rfl, hD, hsm, hsp, hr2, hp2, hk2⟩
  have hB2 := hid (blk_kept hB1.out hk2 (.inl (by omega)))
  have y0 := hB2.out.cell (i := 0) rfl
  have y1 := hB2.out.cell (i := 1) rfl
  have y2 := hB2.out.cell (i := 2) rfl
  have z0 := hB2.out.frozen 0
  have z1 := hB2.out.frozen 1
  have z2 := hB2.out.frozen 2
  have hb2 : Hid (Below w.heap.size w w2) := hid (hb1'.out.trans (hk2.below (by omega) (by omega)))
  obtain ⟨HO, HF⟩ := fin_ok hB2.out hD (by omega) hsm hsp hb2.out (.int .i64 D.s) (.slice P D.m c) (.slice Q D.k d)
  unfold fin at HO HF
  have HO := hid HO
  have r0 := HF.cell (i := 0) rfl
  have r1 := HF.cell (i := 1) rfl
  have r2 := HF.cell (i := 2) rfl
  clear HF
  go_wp2
  refine bodyPost_ret (v := .agg #[.int .i64 (SrchD.s D), .slice P D.m c, .slice Q D.k d]) (by simp [results, Tryd.results13, go_sem, r0, r1, r2]) rfl ⟨P, Q, D, c, d, rfl, HO.out⟩
set_option maxRecDepth 20000 in
theorem DrawExitsBest_any (A : Option Addr) (n c0 : Nat) (y : Nat → Int) (w : World) (hx : Bytes w A n y) (hy : ∀ j, 0 ≤ y j ∧ y j < 256) (hn : n ≤ c0) : Calls Tryd.prog 37 #[.slice A n c0] w (DrawS w) := by
  have hb0 := hid (Joins.below_alloc1 w (.cells #[.int .i64 0, .slice none 0 0, .slice none 0 0] 26))
  have hB0 := hid (Blk.new w 26 #[.int .i64 0, .slice none 0 0, .slice none 0 0])
  go_enter Tryd.func37, Tryd.ntmps37
  go_wp2_with fail
  refine (l20Open_any A n c0 y _ (hx.alloc _) hy hn).mono ?_
  rintro e w1 ⟨rfl, hr1, hb1⟩
  simp only [World.size_alloc] at hr1
  have hB1 := hid (hB0.out.below hb1)
  have hsz1 : w.heap.size + 1 < w1.heap.size := by have := hr1.lt; omega
  have hb1' := hid (Below.then_ hb0.out hb1)
  clear hB0 hb0 hb1
  go_wp2_with fail
  refine (l20Search_any (w.heap.size + 1) 0 9 _ hr1 (by omega) (by omega) (by omega)).mono ?_
  rintro e w2 ⟨P, Q, D, c, d, p2, rfl, hD, hsm, hsp, hr2, hp2, hk2⟩
  have hB2 := hid (blk_kept hB1.out hk2 (.inl (by omega)))
  have y0 := hB2.out.cell (i := 0) rfl
  have y1 := hB2.out.cell (i := 1) rfl
  have y2 := hB2.out.cell (i := 2) rfl
  have z0 := hB2.out.frozen 0
  have z1 := hB2.out.frozen 1
  have z2 := hB2.out.frozen 2
  have hb2 : Hid (Below w.heap.size w w2) := hid (hb1'.out.trans (hk2.below (by omega) (by omega)))
  obtain ⟨HO, HF⟩ := fin_ok hB2.out hD (by omega) hsm hsp hb2.out (.int .i64 D.s) (.slice P D.m c) (.slice Q D.k d)
  unfold fin at HO HF
  have HO := hid HO
  have r0 := HF.cell (i := 0) rfl
  have r1 := HF.cell (i := 1) rfl
  have r2 := HF.cell (i := 2) rfl
  clear HF
  go_wp2
  refine bodyPost_ret (v := .agg #[.int .i64 (SrchD.s D), .slice P D.m c, .slice Q D.k d]) (by simp [results, Tryd.results37, go_sem, r0, r1, r2]) rfl ⟨P, Q, D, c, d, rfl, HO.out⟩
set_option maxRecDepth 20000 in
theorem DrawRescueTime_any (A : Option Addr) (n c0 : Nat) (y : Nat → Int) (w : World) (hx : Bytes w A n y) (hy : ∀ j, 0 ≤ y j ∧ y j < 256) (hn : n ≤ c0) : Calls Tryd.prog 27 #[.slice A n c0] w (DrawS3 w) := by
  have hb0 := hid (Joins.below_alloc1 w (.cells #[.int .i64 0, .slice none 0 0, .slice none 0 0] 26))
  have hB0 := hid (Blk.new w 26 #[.int .i64 0, .slice none 0 0, .slice none 0 0])
  go_enter Tryd.func27, Tryd.ntmps27
  go_wp2_with fail
  refine (l20Open_any A n c0 y _ (hx.alloc _) hy hn).mono ?_
  rintro e w1 ⟨rfl, hr1, hb1⟩
  simp only [World.size_alloc] at hr1
  have hB1 := hid (hB0.out.below hb1)
  have hsz1 : w.heap.size + 1 < w1.heap.size := by have := hr1.lt; omega
  have hb1' := hid (Below.then_ hb0.out hb1)
  clear hB0 hb0 hb1
  go_wp2_with fail
  refine (l20Rescue_any (w.heap.size + 1) _ hr1).mono ?_
  rintro e w2 ⟨P, Q, D, c, d, br, x1, x2, rfl, hD, hsm, hsp, hbr, hx1, hx2, hk2⟩
  have hB2 := hid (blk_kept hB1.out hk2 (.inl (by omega)))
  have y0 := hB2.out.cell (i := 0) rfl
  have y1 := hB2.out.cell (i := 1) rfl
  have y2 := hB2.out.cell (i := 2) rfl
  have z0 := hB2.out.frozen 0
  have z1 := hB2.out.frozen 1
  have z2 := hB2.out.frozen 2
  have hb2 : Hid (Below w.heap.size w w2) := hid (hb1'.out.trans (hk2.below (by omega) (by omega)))
  obtain ⟨HO, HF⟩ := fin_ok hB2.out hD (by omega) hsm hsp hb2.out (.int .i64 D.s) (.slice P D.m c) (.slice Q D.k d)
  unfold fin at HO HF
  have HO := hid HO
  have r0 := HF.cell (i := 0) rfl
  have r1 := HF.cell (i := 1) rfl
  have r2 := HF.cell (i := 2) rfl
  clear HF
  go_wp2
  refine bodyPost_ret (v := .tuple #[.agg #[.int .i64 (SrchD.s D), .slice P D.m c, .slice Q D.k d], .int .i64 br, .int .i64 x1, .int .i64 x2]) (by simp [results, Tryd.results27, go_sem, r0, r1, r2]) rfl ⟨P, Q, D, c, d, br, x1, x2, rfl, HO.out, hbr, hx1, hx2⟩
set_option maxRecDepth 20000 in
theorem DrawRescueStates_any (A : Option Addr) (n c0 : Nat) (y : Nat → Int) (w : World) (hx : Bytes w A n y) (hy : ∀ j, 0 ≤ y j ∧ y j < 256) (hn : n ≤ c0) : Calls Tryd.prog 43 #[.slice A n c0] w (DrawS3 w) := by
  have hb0 := hid (Joins.below_alloc1 w (.cells #[.int .i64 0, .slice none 0 0, .slice none 0 0] 26))
  have hB0 := hid (Blk.new w 26 #[.int .i64 0, .slice none 0 0, .slice none 0 0])
  go_enter Tryd.func43, Tryd.ntmps43
  go_wp2_with fail
  refine (l20Open_any A n c0 y _ (hx.alloc _) hy hn).mono ?_
  rintro e w1 ⟨rfl, hr1, hb1⟩
  simp only [World.size_alloc] at hr1
  have hB1 := hid (hB0.out.below hb1)
  have hsz1 : w.heap.size + 1 < w1.heap.size := by have := hr1.lt; omega
  have hb1' := hid (Below.then_ hb0.out hb1)
  clear hB0 hb0 hb1
  go_wp2_with fail
  refine (l20Rescue_any (w.heap.size + 1) _ hr1).mono ?_
  rintro e w2 ⟨P, Q, D, c, d, br, x1, x2, rfl, hD, hsm, hsp, hbr, hx1, hx2, hk2⟩
  have hB2 := hid (blk_kept hB1.out hk2 (.inl (by omega)))
  have y0 := hB2.out.cell (i := 0) rfl
  have y1 := hB2.out.cell (i := 1) rfl
  have y2 := hB2.out.cell (i := 2) rfl
  have z0 := hB2.out.frozen 0
  have z1 := hB2.out.frozen 1
  have z2 := hB2.out.frozen 2
  have hb2 : Hid (Below w.heap.size w w2) := hid (hb1'.out.trans (hk2.below (by omega) (by omega)))
  obtain ⟨HO, HF⟩ := fin_ok hB2.out hD (by omega) hsm hsp hb2.out (.int .i64 D.s) (.slice P D.m c) (.slice Q D.k d)
  unfold fin at HO HF
  have HO := hid HO
  have r0 := HF.cell (i := 0) rfl
  have r1 := HF.cell (i := 1) rfl
  have r2 := HF.cell (i := 2) rfl
  clear HF
  go_wp2
  refine bodyPost_ret (v := .tuple #[.agg #[.int .i64 (SrchD.s D), .slice P D.m c, .slice Q D.k d], .int .i64 br, .int .i64 x1, .int .i64 x2]) (by simp [results, Tryd.results43, go_sem, r0, r1, r2]) rfl ⟨P, Q, D, c, d, br, x1, x2, rfl, HO.out, hbr, hx1, hx2⟩
set_option maxRecDepth 20000 in
theorem DrawDepotBest_any (A : Option Addr) (n c0 : Nat) (y : Nat → Int) (w : World) (hx : Bytes w A n y) (hy : ∀ j, 0 ≤ y j ∧ y j < 256) (hn : n ≤ c0) : Calls Tryd.prog 40 #[.slice A n c0] w (DrawS3 w) := by
  have hb0 := hid (Joins.below_alloc1 w (.cells #[.int .i64 0, .slice none 0 0, .slice none 0 0] 26))
  have hB0 := hid (Blk.new w 26 #[.int .i64 0, .slice none 0 0, .slice none 0 0])
  go_enter Tryd.func40, Tryd.ntmps40
  go_wp2_with fail
  refine (l20Open_any A n c0 y _ (hx.alloc _) hy hn).mono ?_
  rintro e w1 ⟨rfl, hr1, hb1⟩
  simp only [World.size_alloc] at hr1
  have hB1 := hid (hB0.out.below hb1)
  have hsz1 : w.heap.size + 1 < w1.heap.size := by have := hr1.lt; omega
  have hb1' := hid (Below.then_ hb0.out hb1)
  clear hB0 hb0 hb1
  go_wp2_with fail
  refine (l20Rescue_any (w.heap.size + 1) _ hr1).mono ?_
  rintro e w2 ⟨P, Q, D, c, d, br, x1, x2, rfl, hD, hsm, hsp, hbr, hx1, hx2, hk2⟩
  have hB2 := hid (blk_kept hB1.out hk2 (.inl (by omega)))
  have y0 := hB2.out.cell (i := 0) rfl
  have y1 := hB2.out.cell (i := 1) rfl
  have y2 := hB2.out.cell (i := 2) rfl
  have z0 := hB2.out.frozen 0
  have z1 := hB2.out.frozen 1
  have z2 := hB2.out.frozen 2
  have hb2 : Hid (Below w.heap.size w w2) := hid (hb1'.out.trans (hk2.below (by omega) (by omega)))
  obtain ⟨HO, HF⟩ := fin_ok hB2.out hD (by omega) hsm hsp hb2.out (.int .i64 D.s) (.slice P D.m c) (.slice Q D.k d)
  unfold fin at HO HF
  have HO := hid HO
  have r0 := HF.cell (i := 0) rfl
  have r1 := HF.cell (i := 1) rfl
  have r2 := HF.cell (i := 2) rfl
  clear HF
  go_wp2
  refine bodyPost_ret (v := .tuple #[.agg #[.int .i64 (SrchD.s D), .slice P D.m c, .slice Q D.k d], .int .i64 br, .int .i64 x1, .int .i64 x2]) (by simp [results, Tryd.results40, go_sem, r0, r1, r2]) rfl ⟨P, Q, D, c, d, br, x1, x2, rfl, HO.out, hbr, hx1, hx2⟩
set_option maxRecDepth 20000 in
theorem DrawWalkTime_any (A : Option Addr) (n c0 : Nat) (y : Nat → Int) (w : World) (hx : Bytes w A n y) (hy : ∀ j, 0 ≤ y j ∧ y j < 256) (hn : n ≤ c0) : Calls Tryd.prog 17 #[.slice A n c0] w (DrawS2 w) := by
  have hb0 := hid (Joins.below_alloc1 w (.cells #[.int .i64 0, .slice none 0 0, .slice none 0 0] 26))
  have hB0 := hid (Blk.new w 26 #[.int .i64 0, .slice none 0 0, .slice none 0 0])
  go_enter Tryd.func17, Tryd.ntmps17
  go_wp2_with fail
  refine (l20Open_any A n c0 y _ (hx.alloc _) hy hn).mono ?_
  rintro e w1 ⟨rfl, hr1, hb1⟩
  simp only [World.size_alloc] at hr1
  have hB1 := hid (hB0.out.below hb1)
  have hsz1 : w.heap.size + 1 < w1.heap.size := by have := hr1.lt; omega
  have hb1' := hid (Below.then_ hb0.out hb1)
  clear hB0 hb0 hb1
  go_wp2_with fail
  refine (l20Search_any (w.heap.size + 1) 0 9 _ hr1 (by omega) (by omega) (by omega)).mono ?_
  rintro e w2 ⟨P, Q, D, c, d, p2, rfl, hD, hsm, hsp, hr2, hp2, hk2⟩
  obtain ⟨h0, h9⟩ := hsp
  have hsz2 : w1.heap.size ≤ w2.heap.size := hk2.size
  have H2 := hid (DrR.start (w := w) (g := w.heap.size + 1) (R := w.heap.size) (c := c) (d := d) hr2 (blk_kept hB1.out hk2 (.inl (by omega))) hD ((below_kept hb1'.out _ _).trans hk2) (by omega) rfl)
  clear hr1 hr2 hk2 hD hB1 hb1'
  go_wp2
  generalize w2.alloc (.cells #[.int .i64 D.s, .slice P D.m c, .slice Q D.k d] 26) = w3 at H2 ⊢
  have ho := H2.out.ord
  generalize hX : w2.heap.size = X at H2 ho ⊢
  have y0 := H2.out.box.cell (i := 0) rfl
  have y1 := H2.out.box.cell (i := 1) rfl
  have y2 := H2.out.box.cell (i := 2) rfl
  have hn1 : w.heap.size ≠ X := by omega
  have hn2 : X ≠ w.heap.size := by omega
  go_region_held3 (fun W => W.cell? ⟨X, 0, none⟩ = some (.int .i64 D.s) ∧ W.cell? ⟨X, 1, none⟩ = some (.slice P D.m c) ∧ W.cell? ⟨X, 2, none⟩ = some (.slice Q D.k d)) (go_keep) (first
      | (go_at_call 51; (with_reducible refine (l20Spot_any _ p2 P Q D c d _ H2.out.drew.rdr (by omega) h0 h9).mono ?_); rintro e w6 ⟨q6, rfl, hq6, hr6, hk6⟩; have H6 := hid (H2.out.drew.pick hr6 hk6); have c0 := H6.out.box.cell (i := 0) rfl; have c1 := H6.out.box.cell (i := 1) rfl; have c2 := H6.out.box.cell (i := 2) rfl; clear hr6 hk6)
      | (go_at_call 51; (with_reducible refine (l20Spot_any _ (p2 + 3) P Q D c d _ H6.out.rdr (by omega) h0 h9).mono ?_); rintro e w7 ⟨q7, rfl, hq7, hr7, hk7⟩; have H7 := hid (H6.out.pick hr7 hk7); have c0 := H7.out.box.cell (i := 0) rfl; have c1 := H7.out.box.cell (i := 1) rfl; have c2 := H7.out.box.cell (i := 2) rfl; have n0 := H7.out.res.cell (i := 0) rfl; have n1 := H7.out.res.cell (i := 1) rfl; have n2 := H7.out.res.cell (i := 2) rfl; have z0 := H7.out.res.frozen 0; have z1 := H7.out.res.frozen 1; have z2 := H7.out.res.frozen 2; clear hr7 hk7))
  have HF := H7.out.fin_res (.int .i64 D.s) (.slice P D.m c) (.slice Q D.k d)
  have HS := hid (H7.out.fin_srch (.int .i64 D.s) (.slice P D.m c) (.slice Q D.k d))
  have HKf := hid (H7.out.fin_kept (.int .i64 D.s) (.slice P D.m c) (.slice Q D.k d))
  unfold fin at HF HS HKf
  have r0 := HF.cell (i := 0) rfl
  have r1 := HF.cell (i := 1) rfl
  have r2 := HF.cell (i := 2) rfl
  clear HF
  go_wp2
  refine bodyPost_ret (v := .tuple #[.agg #[.int .i64 (SrchD.s D), .slice P D.m c, .slice Q D.k d], .int .i64 q6, .int .i64 q7]) (by simp [results, Tryd.results17, go_sem, r0, r1, r2]) rfl ⟨P, Q, D, c, d, q6, q7, rfl, ⟨HS.out.lower (by omega), hsm, ⟨h0, h9⟩, HKf.out.below' (by omega)⟩, hq6, hq7⟩

set_option maxRecDepth 20000 in
theorem DrawRescueAir_any (A : Option Addr) (n c0 : Nat) (y : Nat → Int) (w : World) (hx : Bytes w A n y) (hy : ∀ j, 0 ≤ y j ∧ y j < 256) (hn : n ≤ c0) : Calls Tryd.prog 31 #[.slice A n c0] w (DrawS2 w) := by
  have hb0 := hid (Joins.below_alloc1 w (.cells #[.int .i64 0, .slice none 0 0, .slice none 0 0] 26))
  have hB0 := hid (Blk.new w 26 #[.int .i64 0, .slice none 0 0, .slice none 0 0])
  go_enter Tryd.func31, Tryd.ntmps31
  go_wp2_with fail
  refine (DrawWalkTime_any A n c0 y _ (hx.alloc _) hy hn).mono ?_
  rintro e w2 ⟨P, Q, D, c, d, x1, x2, rfl, ⟨hD, hsm, hsp, hk2⟩, hx1, hx2⟩
  have hB2 := hid (hB0.out.below hk2)
  simp only [World.size_alloc] at hD hk2
  have hb2 := hid (hb0.out.trans (hk2.mono (by omega)))
  clear hB0 hb0 hk2
  have y0 := hB2.out.cell (i := 0) rfl
  have y1 := hB2.out.cell (i := 1) rfl
  have y2 := hB2.out.cell (i := 2) rfl
  have z0 := hB2.out.frozen 0
  have z1 := hB2.out.frozen 1
  have z2 := hB2.out.frozen 2
  obtain ⟨HO, HF⟩ := fin_ok hB2.out hD (by omega) hsm hsp hb2.out (.int .i64 D.s) (.slice P D.m c) (.slice Q D.k d)
  unfold fin at HO HF
  have HO := hid HO
  have r0 := HF.cell (i := 0) rfl
  have r1 := HF.cell (i := 1) rfl
  have r2 := HF.cell (i := 2) rfl
  clear HF
  go_wp2
  refine bodyPost_ret (v := .tuple #[.agg #[.int .i64 (SrchD.s D), .slice P D.m c, .slice Q D.k d], .int .i64 x1, .int .i64 x2]) (by simp [results, Tryd.results31, go_sem, r0, r1, r2]) rfl ⟨P, Q, D, c, d, x1, x2, rfl, HO.out, hx1, hx2⟩

set_option maxRecDepth 20000 in
theorem DrawExitNear_any (A : Option Addr) (n c0 : Nat) (y : Nat → Int) (w : World) (hx : Bytes w A n y) (hy : ∀ j, 0 ≤ y j ∧ y j < 256) (hn : n ≤ c0) : Calls Tryd.prog 20 #[.slice A n c0] w (DrawSNL w) := by
  have hb0 := hid (Joins.below_alloc1 w (.cells #[.int .i64 0, .slice none 0 0, .slice none 0 0] 26))
  have hB0 := hid (Blk.new w 26 #[.int .i64 0, .slice none 0 0, .slice none 0 0])
  go_enter Tryd.func20, Tryd.ntmps20
  go_wp2_with fail
  refine (l20Open_any A n c0 y _ (hx.alloc _) hy hn).mono ?_
  rintro e w1 ⟨rfl, hr1, hb1⟩
  simp only [World.size_alloc] at hr1
  have hB1 := hid (hB0.out.below hb1)
  have hsz1 : w.heap.size + 1 < w1.heap.size := by have := hr1.lt; omega
  have hb1' := hid (Below.then_ hb0.out hb1)
  clear hB0 hb0 hb1
  go_wp2_with fail
  refine (l20Search_any (w.heap.size + 1) 0 9 _ hr1 (by omega) (by omega) (by omega)).mono ?_
  rintro e w2 ⟨P, Q, D, c, d, p2, rfl, hD, hsm, hsp, hr2, hp2, hk2⟩
  obtain ⟨h0, h9⟩ := hsp
  have hsz2 : w1.heap.size ≤ w2.heap.size := hk2.size
  have H2 := hid (DrR.start (w := w) (g := w.heap.size + 1) (R := w.heap.size) (c := c) (d := d) hr2 (blk_kept hB1.out hk2 (.inl (by omega))) hD ((below_kept hb1'.out _ _).trans hk2) (by omega) rfl)
  clear hr1 hr2 hk2 hD hB1 hb1'
  go_wp2
  generalize w2.alloc (.cells #[.int .i64 D.s, .slice P D.m c, .slice Q D.k d] 26) = w3 at H2 ⊢
  have ho := H2.out.ord
  generalize hX : w2.heap.size = X at H2 ho ⊢
  have y0 := H2.out.box.cell (i := 0) rfl
  have y1 := H2.out.box.cell (i := 1) rfl
  have y2 := H2.out.box.cell (i := 2) rfl
  have hn1 : w.heap.size ≠ X := by omega
  have hn2 : X ≠ w.heap.size := by omega
  go_region_held3 (fun W => W.cell? ⟨X, 0, none⟩ = some (.int .i64 D.s) ∧ W.cell? ⟨X, 1, none⟩ = some (.slice P D.m c) ∧ W.cell? ⟨X, 2, none⟩ = some (.slice Q D.k d)) (go_keep) (first
      | (go_at_call 51; (with_reducible refine (l20Spot_any _ p2 P Q D c d _ H2.out.drew.rdr (by omega) h0 h9).mono ?_); rintro e w6 ⟨q6, rfl, hq6, hr6, hk6⟩; have H6 := hid (H2.out.drew.pick hr6 hk6); have c0 := H6.out.box.cell (i := 0) rfl; have c1 := H6.out.box.cell (i := 1) rfl; have c2 := H6.out.box.cell (i := 2) rfl; clear hr6 hk6)
      | (go_at_call 54; (with_reducible refine (l20Exits_any _ (p2 + 3) P Q D c d _ H6.out.rdr (by omega) h0 h9).mono ?_); rintro e w7 ⟨A7, n7, c7, x7, p7, rfl, hn7, hx7, hi7, hr7, hp7, hk7⟩; have H7 := hid (H6.out.pick hr7 hk7); have c0 := H7.out.box.cell (i := 0) rfl; have c1 := H7.out.box.cell (i := 1) rfl; have c2 := H7.out.box.cell (i := 2) rfl; have n0 := H7.out.res.cell (i := 0) rfl; have n1 := H7.out.res.cell (i := 1) rfl; have n2 := H7.out.res.cell (i := 2) rfl; have z0 := H7.out.res.frozen 0; have z1 := H7.out.res.frozen 1; have z2 := H7.out.res.frozen 2; clear hr7 hk7))
  have hl6 := H6.out.box.lt
  have HF := H7.out.fin_res (.int .i64 D.s) (.slice P D.m c) (.slice Q D.k d)
  have HS := hid (H7.out.fin_srch (.int .i64 D.s) (.slice P D.m c) (.slice Q D.k d))
  have HKf := hid (H7.out.fin_kept (.int .i64 D.s) (.slice P D.m c) (.slice Q D.k d))
  unfold fin at HF HS HKf
  have r0 := HF.cell (i := 0) rfl
  have r1 := HF.cell (i := 1) rfl
  have r2 := HF.cell (i := 2) rfl
  clear HF
  go_wp2
  refine bodyPost_ret (v := .tuple #[.agg #[.int .i64 (SrchD.s D), .slice P D.m c, .slice Q D.k d], .int .i64 q6, .slice A7 n7 c7]) (by simp [results, Tryd.results20, go_sem, r0, r1, r2]) rfl ⟨P, Q, D, c, d, q6, A7, n7, c7, x7, rfl, ⟨HS.out.lower (by omega), hsm, ⟨h0, h9⟩, HKf.out.below' (by omega)⟩, hq6, ?_, hn7, hx7⟩
  exact hi7 _ (fun k h1 h2 => ((Below.heap_setCell _ ⟨w.heap.size, 2, none⟩ _ _ (by show k ≠ w.heap.size; omega)).trans (Below.heap_setCell _ ⟨w.heap.size, 1, none⟩ _ _ (by show k ≠ w.heap.size; omega))).trans (Below.heap_setCell _ ⟨w.heap.size, 0, none⟩ _ _ (by show k ≠ w.heap.size; omega)))

set_option maxRecDepth 20000 in
theorem DrawLastOut_any (A : Option Addr) (n c0 : Nat) (y : Nat → Int) (w : World) (hx : Bytes w A n y) (hy : ∀ j, 0 ≤ y j ∧ y j < 256) (hn : n ≤ c0) : Calls Tryd.prog 24 #[.slice A n c0] w (DrawSL w) := by
  have hb0 := hid (Joins.below_alloc1 w (.cells #[.int .i64 0, .slice none 0 0, .slice none 0 0] 26))
  have hB0 := hid (Blk.new w 26 #[.int .i64 0, .slice none 0 0, .slice none 0 0])
  go_enter Tryd.func24, Tryd.ntmps24
  go_wp2_with fail
  refine (l20Open_any A n c0 y _ (hx.alloc _) hy hn).mono ?_
  rintro e w1 ⟨rfl, hr1, hb1⟩
  simp only [World.size_alloc] at hr1
  have hB1 := hid (hB0.out.below hb1)
  have hsz1 : w.heap.size + 1 < w1.heap.size := by have := hr1.lt; omega
  have hb1' := hid (Below.then_ hb0.out hb1)
  clear hB0 hb0 hb1
  go_wp2_with fail
  refine (l20Search_any (w.heap.size + 1) 0 9 _ hr1 (by omega) (by omega) (by omega)).mono ?_
  rintro e w2 ⟨P, Q, D, c, d, p2, rfl, hD, hsm, hsp, hr2, hp2, hk2⟩
  obtain ⟨h0, h9⟩ := hsp
  have hsz2 : w1.heap.size ≤ w2.heap.size := hk2.size
  have H2 := hid (DrR.start (w := w) (g := w.heap.size + 1) (R := w.heap.size) (c := c) (d := d) hr2 (blk_kept hB1.out hk2 (.inl (by omega))) hD ((below_kept hb1'.out _ _).trans hk2) (by omega) rfl)
  clear hr1 hr2 hk2 hD hB1 hb1'
  go_wp2
  generalize w2.alloc (.cells #[.int .i64 D.s, .slice P D.m c, .slice Q D.k d] 26) = w3 at H2 ⊢
  have ho := H2.out.ord
  generalize hX : w2.heap.size = X at H2 ho ⊢
  have y0 := H2.out.box.cell (i := 0) rfl
  have y1 := H2.out.box.cell (i := 1) rfl
  have y2 := H2.out.box.cell (i := 2) rfl
  have hn1 : w.heap.size ≠ X := by omega
  have hn2 : X ≠ w.heap.size := by omega
  go_region_held3 (fun W => W.cell? ⟨X, 0, none⟩ = some (.int .i64 D.s) ∧ W.cell? ⟨X, 1, none⟩ = some (.slice P D.m c) ∧ W.cell? ⟨X, 2, none⟩ = some (.slice Q D.k d)) (go_keep) (first
      | (go_at_call 54; (with_reducible refine (l20Exits_any _ p2 P Q D c d _ H2.out.drew.rdr (by omega) h0 h9).mono ?_); rintro e w7 ⟨A7, n7, c7, x7, p7, rfl, hn7, hx7, hi7, hr7, hp7, hk7⟩; have H7 := hid (H2.out.drew.pick hr7 hk7); have c0 := H7.out.box.cell (i := 0) rfl; have c1 := H7.out.box.cell (i := 1) rfl; have c2 := H7.out.box.cell (i := 2) rfl; have n0 := H7.out.res.cell (i := 0) rfl; have n1 := H7.out.res.cell (i := 1) rfl; have n2 := H7.out.res.cell (i := 2) rfl; have z0 := H7.out.res.frozen 0; have z1 := H7.out.res.frozen 1; have z2 := H7.out.res.frozen 2; clear hr7 hk7))
  have hl6 := H2.out.drew.box.lt
  have HF := H7.out.fin_res (.int .i64 D.s) (.slice P D.m c) (.slice Q D.k d)
  have HS := hid (H7.out.fin_srch (.int .i64 D.s) (.slice P D.m c) (.slice Q D.k d))
  have HKf := hid (H7.out.fin_kept (.int .i64 D.s) (.slice P D.m c) (.slice Q D.k d))
  unfold fin at HF HS HKf
  have r0 := HF.cell (i := 0) rfl
  have r1 := HF.cell (i := 1) rfl
  have r2 := HF.cell (i := 2) rfl
  clear HF
  go_wp2
  refine bodyPost_ret (v := .tuple #[.agg #[.int .i64 (SrchD.s D), .slice P D.m c, .slice Q D.k d], .slice A7 n7 c7]) (by simp [results, Tryd.results24, go_sem, r0, r1, r2]) rfl ⟨P, Q, D, c, d, A7, n7, c7, x7, rfl, ⟨HS.out.lower (by omega), hsm, ⟨h0, h9⟩, HKf.out.below' (by omega)⟩, ?_, hn7, hx7⟩
  exact hi7 _ (fun k h1 h2 => ((Below.heap_setCell _ ⟨w.heap.size, 2, none⟩ _ _ (by show k ≠ w.heap.size; omega)).trans (Below.heap_setCell _ ⟨w.heap.size, 1, none⟩ _ _ (by show k ≠ w.heap.size; omega))).trans (Below.heap_setCell _ ⟨w.heap.size, 0, none⟩ _ _ (by show k ≠ w.heap.size; omega)))
end Go.Proofs.YtlhcjbgcgbeocaaDoor
