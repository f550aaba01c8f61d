/- Water's data, drawn whole: a cave and numbers, with small lists; the world behind keeps all that was. -/
import Derived.Test.YtahbfifnpceoeaaDoorDrC4
import Derived.OwnWalk
namespace Go.Proofs.YtahbfifnpceoeaaDoor
open Go.RowKit

theorem CaveHeld.lower {lo lo' : Nat} {w : World} {F G S : Option Addr} {D : CaveD} (h : CaveHeld lo w F G S D) (hl : lo' ≤ lo) : CaveHeld lo' w F G S D := fun w' hk => h w' (fun k h1 h2 => hk k (by omega) h2)
theorem CaveHeld.set {lo : Nat} {w : World} {F G S : Option Addr} {D : CaveD} (h : CaveHeld lo w F G S D) {q : Addr} (hq : q.block < lo) (u : Value) : CaveHeld lo (w.setCell q u) F G S D := h.step (by simp [World.setCell]) (fun k h1 _ => Below.heap_setCell _ _ _ _ (by omega))
theorem CaveHeld.drew {lo : Nat} {w : World} {F G S : Option Addr} {D : CaveD} (h : CaveHeld lo w F G S D) : CaveHeld lo w.drew F G S D := h

/-- The reader g, the result's box R, the cave's box X, and the cave. -/
structure DrR (w : World) (g R X lo p : Nat) (F G S : Option Addr) (D : CaveD) (c d e : Nat) (wx : World) : Prop where
  rdr : Rdr wx g p
  res : Blk wx R 26 Nil3
  box : Blk wx X 26 #[.slice F D.n c, .slice G D.q d, .slice S D.m e]
  cave : CaveHeld lo wx F G S D
  kept : Kept g (g + 1) w wx
  ord : g < lo ∧ R < lo ∧ lo ≤ X ∧ R ≠ g ∧ w.heap.size ≤ R ∧ w.heap.size ≤ lo
section
variable {w wx w' : World} {g R X lo p p' : Nat} {F G S : Option Addr} {D : CaveD} {c d e : Nat}
theorem DrR.drew (H : DrR w g R X lo p F G S D c d e wx) : DrR w g R X lo p F G S D c d e wx.drew :=
  ⟨H.rdr.below (Below.refl _ _).drew, H.res, H.box, H.cave.drew, H.kept.drew, H.ord⟩
theorem DrR.pick (H : DrR w g R X lo p F G S D c d e wx) (hr : Rdr w' g p') (hk : Kept g (g + 1) wx w') : DrR w g R X lo p' F G S D c d e w' :=
  ⟨hr, blk_kept H.res hk (by have := H.ord; omega), blk_kept H.box hk (by have := H.ord; omega), H.cave.kept hk (by have := H.ord; omega), H.kept.trans hk, H.ord⟩
/-- The cave is laid in its box. -/
theorem DrR.start {w0 : World} (hr : Rdr wx g p) (hB : Blk wx R 26 Nil3) (hs : CaveHeld lo wx F G S D) (hk : Kept g (g + 1) w wx) (ho : g < lo ∧ R < lo ∧ lo ≤ wx.heap.size ∧ R ≠ g ∧ w.heap.size ≤ R ∧ w.heap.size ≤ lo)
    (he : w0 = wx.alloc (.cells #[.slice F D.n c, .slice G D.q d, .slice S D.m e] 26)) : DrR w g R wx.heap.size lo p F G S D c d e w0 := by
  subst he
  exact ⟨hr.below ((Below.refl _ _).alloc (Nat.le_refl _) _), hB.alloc _, Blk.new _ _ _, hs.alloc _, hk.alloc _, ho⟩
/-- The cave is stored in the result's box. -/
def fin (w : World) (R : Nat) (x y z : Value) : World := ((w.setCell ⟨R, 0, none⟩ x).setCell ⟨R, 1, none⟩ y).setCell ⟨R, 2, none⟩ z
theorem DrR.fin_cave (H : DrR w g R X lo p F G S D c d e wx) (x y z : Value) : CaveHeld lo (fin wx R x y z) F G S D :=
  ((H.cave.set (q := ⟨R, 0, none⟩) (by have := H.ord; show R < lo; omega) x).set (q := ⟨R, 1, none⟩) (by have := H.ord; show R < lo; omega) y).set (q := ⟨R, 2, none⟩) (by have := H.ord; show R < lo; omega) z
theorem DrR.fin_kept (H : DrR w g R X lo p F G S D c d e wx) (x y z : Value) : Kept g (g + 1) w (fin wx R x y z) :=
  ((H.kept.new (p := ⟨R, 0, none⟩) H.ord.2.2.2.2.1 x).new (p := ⟨R, 1, none⟩) H.ord.2.2.2.2.1 y).new (p := ⟨R, 2, none⟩) H.ord.2.2.2.2.1 z
theorem DrR.fin_res (H : DrR w g R X lo p F G S D c d e wx) (x y z : Value) : Blk (fin wx R x y z) R 26 #[x, y, z] := ((H.res.set_ 0 x).set_ 1 y).set_ 2 z
end

theorem IntsHeld.fin {lo R : Nat} {w : World} {A : Option Addr} {n : Nat} {x : Nat → Int} (h : IntsHeld lo w A n x) (hR : R < lo) (a b c : Value) : IntsHeld lo (fin w R a b c) A n x :=
  h.step (by simp [Go.Proofs.YtahbfifnpceoeaaDoor.fin, World.setCell]) (fun k h1 _ => ((Below.heap_setCell _ ⟨R, 2, none⟩ _ _ (by show k ≠ R; omega)).trans (Below.heap_setCell _ ⟨R, 1, none⟩ _ _ (by show k ≠ R; omega))).trans (Below.heap_setCell _ ⟨R, 0, none⟩ _ _ (by show k ≠ R; omega)))

/-- A drawn cave: how it reads, and how small it is. -/
structure DrOk (w w' : World) (F G S : Option Addr) (D : CaveD) (e : Nat) : Prop where
  held : CaveHeld w.heap.size w' F G S D
  sm : D.n ≤ 20 ∧ D.q ≤ 20 ∧ D.m ≤ 20 ∧ D.m ≤ e
  bel : Below w.heap.size w w'
theorem DrOk.at_ {w w' : World} {F G S : Option Addr} {D : CaveD} {e : Nat} (h : DrOk w w' F G S D e) : CaveAt w' F G S D := h.held.at_
theorem DrOk.small {w w' : World} {F G S : Option Addr} {D : CaveD} {e : Nat} (h : DrOk w w' F G S D e) : CaveSmall D := ⟨by have := h.sm; omega, by have := h.sm; omega, by have := h.sm; omega⟩
def CaveV (F G S : Option Addr) (D : CaveD) (c d e : Nat) : Value := .agg #[.slice F D.n c, .slice G D.q d, .slice S D.m e]
def DrawC (w : World) (e : Ending) (w' : World) : Prop := ∃ F G S D c d e2, e = .returned (.agg #[.slice F (CaveD.n D) c, .slice G D.q d, .slice S D.m e2]) ∧ DrOk w w' F G S D e2
def DrawCN (w : World) (e : Ending) (w' : World) : Prop := ∃ F G S D c d e2 x, e = .returned (.tuple #[.agg #[.slice F (CaveD.n D) c, .slice G D.q d, .slice S D.m e2], .int .i64 x]) ∧ DrOk w w' F G S D e2 ∧ (-40 ≤ x ∧ x ≤ 76)
def DrawCNN (w : World) (e : Ending) (w' : World) : Prop := ∃ F G S D c d e2 x y, e = .returned (.tuple #[.agg #[.slice F (CaveD.n D) c, .slice G D.q d, .slice S D.m e2], .int .i64 x, .int .i64 y]) ∧ DrOk w w' F G S D e2 ∧ (-8 ≤ x ∧ x ≤ 27) ∧ (-8 ≤ y ∧ y ≤ 27)
def DrawCL (w : World) (e : Ending) (w' : World) : Prop := ∃ F G S D c d e2 A n cc x, e = .returned (.tuple #[.agg #[.slice F (CaveD.n D) c, .slice G D.q d, .slice S D.m e2], .slice A n cc]) ∧ DrOk w w' F G S D e2 ∧ IntsHeld w.heap.size w' A n x ∧ (n ≤ 21 ∧ n ≤ cc) ∧ ∀ j, j < n → 0 ≤ x j ∧ x j ≤ 20
def DrawCNL (w : World) (e : Ending) (w' : World) : Prop := ∃ F G S D c d e2 l A n cc x, e = .returned (.tuple #[.agg #[.slice F (CaveD.n D) c, .slice G D.q d, .slice S D.m e2], .int .i64 l, .slice A n cc]) ∧ DrOk w w' F G S D e2 ∧ (-40 ≤ l ∧ l ≤ 76) ∧ Ints w' A n x ∧ (n ≤ 4 ∧ n ≤ cc) ∧ ∀ j, j < n → -8 ≤ x j ∧ x j ≤ 27
def DrawCNLN (w : World) (e : Ending) (w' : World) : Prop := ∃ F G S D c d e2 l A n cc x y, e = .returned (.tuple #[.agg #[.slice F (CaveD.n D) c, .slice G D.q d, .slice S D.m e2], .int .i64 l, .slice A n cc, .int .i64 y]) ∧ DrOk w w' F G S D e2 ∧ (-40 ≤ l ∧ l ≤ 76) ∧ Ints w' A n x ∧ (n ≤ 4 ∧ n ≤ cc) ∧ (∀ j, j < n → -8 ≤ x j ∧ x j ≤ 27) ∧ (-8 ≤ y ∧ y ≤ 27)

/-- The result's box is there ahead of the draw. -/
theorem fin_ok {w w1 : World} {F G S : Option Addr} {D : CaveD} {lo e : Nat} (hB : Blk w1 w.heap.size 26 Nil3) (hs : CaveHeld lo w1 F G S D) (hlo : w.heap.size < lo) (hsm : D.n ≤ 20 ∧ D.q ≤ 20 ∧ D.m ≤ 20 ∧ D.m ≤ e)
    (hb : Below w.heap.size w w1) (x y z : Value) : DrOk w (fin w1 w.heap.size x y z) F G S D e ∧ Blk (fin w1 w.heap.size x y z) w.heap.size 26 #[x, y, z] :=
  ⟨⟨CaveHeld.lower (((hs.set (q := ⟨w.heap.size, 0, none⟩) hlo x).set (q := ⟨w.heap.size, 1, none⟩) hlo y).set (q := ⟨w.heap.size, 2, none⟩) hlo z) (by omega), hsm,
    ((hb.setCell (p := ⟨w.heap.size, 0, none⟩) (Nat.le_refl _) x).setCell (p := ⟨w.heap.size, 1, none⟩) (Nat.le_refl _) y).setCell (p := ⟨w.heap.size, 2, none⟩) (Nat.le_refl _) z⟩, ((hB.set_ 0 x).set_ 1 y).set_ 2 z⟩

set_option maxRecDepth 20000 in
theorem DrawCaveValid_any (A : Option Addr) (n c0 : Nat) (y : Nat → Int) (w : World) (hx : Bytes w A n y) (hy : ∀ j, 0 ≤ y j ∧ y j < 256) (hn : n ≤ c0) : Calls Tryd.prog 29 #[.slice A n c0] w (DrawC w) := by
  have hb0 := hid (below_alloc1 w (.cells Nil3 26))
  have hB0 := hid (Blk.new w 26 Nil3)
  go_enter Tryd.func29, Tryd.ntmps29
  go_wp2_with fail
  refine (l20Open_any A n c0 y _ (hx.alloc _) hy hn).mono ?_
  rintro ex w1 ⟨rfl, hr1, hb1⟩
  simp only [World.size_alloc] at hr1
  have hB1 := hid (hB0.out.below hb1)
  have hsz1 : w.heap.size + 1 < w1.heap.size := by have := hr1.lt; omega
  have hb1' := hid (Below.then_ hb0.out hb1)
  clear hB0 hb0 hb1
  go_wp2_with fail
  refine (l20Cave_any (w.heap.size + 1) 0 2 _ hr1 (by omega) (by omega) (by omega)).mono ?_
  rintro ex w2 ⟨F, G, S, D, c, d, e, p2, rfl, hD, hsm, hr2, hp2, hk2⟩
  have hB2 := hid (blk_kept hB1.out hk2 (.inl (by omega)))
  have y0 := hB2.out.cell (i := 0) rfl
  have y1 := hB2.out.cell (i := 1) rfl
  have y2 := hB2.out.cell (i := 2) rfl
  have z0 := hB2.out.frozen 0
  have z1 := hB2.out.frozen 1
  have z2 := hB2.out.frozen 2
  have hb2 : Hid (Below w.heap.size w w2) := hid (hb1'.out.trans (hk2.below (by omega) (by omega)))
  obtain ⟨HO, HF⟩ := fin_ok hB2.out hD (by omega) hsm hb2.out (.slice F D.n c) (.slice G D.q d) (.slice S D.m e)
  unfold fin at HO HF
  have HO := hid HO
  have r0 := HF.cell (i := 0) rfl
  have r1 := HF.cell (i := 1) rfl
  have r2 := HF.cell (i := 2) rfl
  clear HF
  go_wp2
  refine bodyPost_ret (v := .agg #[.slice F D.n c, .slice G D.q d, .slice S D.m e]) (by simp [results, Tryd.results29, go_sem, r0, r1, r2]) rfl ⟨F, G, S, D, c, d, e, rfl, HO.out⟩
set_option maxRecDepth 20000 in
theorem DrawSillTree_any (A : Option Addr) (n c0 : Nat) (y : Nat → Int) (w : World) (hx : Bytes w A n y) (hy : ∀ j, 0 ≤ y j ∧ y j < 256) (hn : n ≤ c0) : Calls Tryd.prog 14 #[.slice A n c0] w (DrawC w) := by
  have hb0 := hid (below_alloc1 w (.cells Nil3 26))
  have hB0 := hid (Blk.new w 26 Nil3)
  go_enter Tryd.func14, Tryd.ntmps14
  go_wp2_with fail
  refine (l20Open_any A n c0 y _ (hx.alloc _) hy hn).mono ?_
  rintro ex w1 ⟨rfl, hr1, hb1⟩
  simp only [World.size_alloc] at hr1
  have hB1 := hid (hB0.out.below hb1)
  have hsz1 : w.heap.size + 1 < w1.heap.size := by have := hr1.lt; omega
  have hb1' := hid (Below.then_ hb0.out hb1)
  clear hB0 hb0 hb1
  go_wp2_with fail
  refine (l20Cave_any (w.heap.size + 1) 0 9 _ hr1 (by omega) (by omega) (by omega)).mono ?_
  rintro ex w2 ⟨F, G, S, D, c, d, e, p2, rfl, hD, hsm, hr2, hp2, hk2⟩
  have hB2 := hid (blk_kept hB1.out hk2 (.inl (by omega)))
  have y0 := hB2.out.cell (i := 0) rfl
  have y1 := hB2.out.cell (i := 1) rfl
  have y2 := hB2.out.cell (i := 2) rfl
  have z0 := hB2.out.frozen 0
  have z1 := hB2.out.frozen 1
  have z2 := hB2.out.frozen 2
  have hb2 : Hid (Below w.heap.size w w2) := hid (hb1'.out.trans (hk2.below (by omega) (by omega)))
  obtain ⟨HO, HF⟩ := fin_ok hB2.out hD (by omega) hsm hb2.out (.slice F D.n c) (.slice G D.q d) (.slice S D.m e)
  unfold fin at HO HF
  have HO := hid HO
  have r0 := HF.cell (i := 0) rfl
  have r1 := HF.cell (i := 1) rfl
  have r2 := HF.cell (i := 2) rfl
  clear HF
  go_wp2
  refine bodyPost_ret (v := .agg #[.slice F D.n c, .slice G D.q d, .slice S D.m e]) (by simp [results, Tryd.results14, go_sem, r0, r1, r2]) rfl ⟨F, G, S, D, c, d, e, rfl, HO.out⟩

set_option maxRecDepth 20000 in
theorem DrawPoolsAt_any (A : Option Addr) (n c0 : Nat) (y : Nat → Int) (w : World) (hx : Bytes w A n y) (hy : ∀ j, 0 ≤ y j ∧ y j < 256) (hn : n ≤ c0) : Calls Tryd.prog 36 #[.slice A n c0] w (DrawCN w) := by
  have hb0 := hid (below_alloc1 w (.cells Nil3 26))
  have hB0 := hid (Blk.new w 26 Nil3)
  go_enter Tryd.func36, Tryd.ntmps36
  go_wp2_with fail
  refine (l20Open_any A n c0 y _ (hx.alloc _) hy hn).mono ?_
  rintro ex w1 ⟨rfl, hr1, hb1⟩
  simp only [World.size_alloc] at hr1
  have hB1 := hid (hB0.out.below hb1)
  have hsz1 : w.heap.size + 1 < w1.heap.size := by have := hr1.lt; omega
  have hb1' := hid (Below.then_ hb0.out hb1)
  clear hB0 hb0 hb1
  go_wp2_with fail
  refine (l20Cave_any (w.heap.size + 1) 0 9 _ hr1 (by omega) (by omega) (by omega)).mono ?_
  rintro ex w2 ⟨F, G, S, D, c, d, e, p2, rfl, hD, hsm, hr2, hp2, hk2⟩
  go_wp2_with fail
  refine (l20Level_any (w.heap.size + 1) p2 _ hr2 (by omega)).mono ?_
  rintro ex w3 ⟨x, rfl, hxb, hr3, hk3⟩
  have HKX := hid (hk2.trans hk3)
  have HDX := hid (hD.kept hk3 (by omega))
  clear hr2 hr3 hk2 hk3 hD
  have hB9 := hid (blk_kept hB1.out HKX.out (.inl (by omega)))
  have y0 := hB9.out.cell (i := 0) rfl
  have y1 := hB9.out.cell (i := 1) rfl
  have y2 := hB9.out.cell (i := 2) rfl
  have z0 := hB9.out.frozen 0
  have z1 := hB9.out.frozen 1
  have z2 := hB9.out.frozen 2
  have hb9 := hid (hb1'.out.trans (HKX.out.below (by omega) (by omega)))
  obtain ⟨HO, HF⟩ := fin_ok hB9.out HDX.out (by omega) hsm hb9.out (.slice F D.n c) (.slice G D.q d) (.slice S D.m e)
  unfold fin at HO HF
  have HO := hid HO
  have r0 := HF.cell (i := 0) rfl
  have r1 := HF.cell (i := 1) rfl
  have r2 := HF.cell (i := 2) rfl
  clear HF
  go_wp2
  refine bodyPost_ret (v := .tuple #[.agg #[.slice F D.n c, .slice G D.q d, .slice S D.m e], .int .i64 x]) (by simp [results, Tryd.results36, go_sem, r0, r1, r2]) rfl ⟨F, G, S, D, c, d, e, x, rfl, HO.out, hxb⟩

set_option maxRecDepth 20000 in
theorem DrawWaterAt_any (A : Option Addr) (n c0 : Nat) (y : Nat → Int) (w : World) (hx : Bytes w A n y) (hy : ∀ j, 0 ≤ y j ∧ y j < 256) (hn : n ≤ c0) : Calls Tryd.prog 31 #[.slice A n c0] w (DrawCN w) := by
  have hb0 := hid (below_alloc1 w (.cells Nil3 26))
  have hB0 := hid (Blk.new w 26 Nil3)
  go_enter Tryd.func31, Tryd.ntmps31
  go_wp2_with fail
  refine (DrawPoolsAt_any A n c0 y _ (hx.alloc _) hy hn).mono ?_
  rintro ex w2 ⟨F, G, S, D, c, d, e, x, rfl, ⟨hD, hsm, hk2⟩, hxb⟩
  have hB2 := hid (hB0.out.below hk2)
  simp only [World.size_alloc] at hD hk2
  have hb2 := hid (hb0.out.trans (hk2.mono (by omega)))
  clear hB0 hb0 hk2
  have y0 := hB2.out.cell (i := 0) rfl
  have y1 := hB2.out.cell (i := 1) rfl
  have y2 := hB2.out.cell (i := 2) rfl
  have z0 := hB2.out.frozen 0
  have z1 := hB2.out.frozen 1
  have z2 := hB2.out.frozen 2
  obtain ⟨HO, HF⟩ := fin_ok hB2.out hD (by omega) hsm hb2.out (.slice F D.n c) (.slice G D.q d) (.slice S D.m e)
  unfold fin at HO HF
  have HO := hid HO
  have r0 := HF.cell (i := 0) rfl
  have r1 := HF.cell (i := 1) rfl
  have r2 := HF.cell (i := 2) rfl
  clear HF
  go_wp2
  refine bodyPost_ret (v := .tuple #[.agg #[.slice F D.n c, .slice G D.q d, .slice S D.m e], .int .i64 x]) (by simp [results, Tryd.results31, go_sem, r0, r1, r2]) rfl ⟨F, G, S, D, c, d, e, x, rfl, HO.out, hxb⟩
set_option maxRecDepth 20000 in
theorem DrawPumpBest_any (A : Option Addr) (n c0 : Nat) (y : Nat → Int) (w : World) (hx : Bytes w A n y) (hy : ∀ j, 0 ≤ y j ∧ y j < 256) (hn : n ≤ c0) : Calls Tryd.prog 46 #[.slice A n c0] w (DrawCN w) := by
  have hb0 := hid (below_alloc1 w (.cells Nil3 26))
  have hB0 := hid (Blk.new w 26 Nil3)
  go_enter Tryd.func46, Tryd.ntmps46
  go_wp2_with fail
  refine (DrawPoolsAt_any A n c0 y _ (hx.alloc _) hy hn).mono ?_
  rintro ex w2 ⟨F, G, S, D, c, d, e, x, rfl, ⟨hD, hsm, hk2⟩, hxb⟩
  have hB2 := hid (hB0.out.below hk2)
  simp only [World.size_alloc] at hD hk2
  have hb2 := hid (hb0.out.trans (hk2.mono (by omega)))
  clear hB0 hb0 hk2
  have y0 := hB2.out.cell (i := 0) rfl
  have y1 := hB2.out.cell (i := 1) rfl
  have y2 := hB2.out.cell (i := 2) rfl
  have z0 := hB2.out.frozen 0
  have z1 := hB2.out.frozen 1
  have z2 := hB2.out.frozen 2
  obtain ⟨HO, HF⟩ := fin_ok hB2.out hD (by omega) hsm hb2.out (.slice F D.n c) (.slice G D.q d) (.slice S D.m e)
  unfold fin at HO HF
  have HO := hid HO
  have r0 := HF.cell (i := 0) rfl
  have r1 := HF.cell (i := 1) rfl
  have r2 := HF.cell (i := 2) rfl
  clear HF
  go_wp2
  refine bodyPost_ret (v := .tuple #[.agg #[.slice F D.n c, .slice G D.q d, .slice S D.m e], .int .i64 x]) (by simp [results, Tryd.results46, go_sem, r0, r1, r2]) rfl ⟨F, G, S, D, c, d, e, x, rfl, HO.out, hxb⟩

/-- It returned a cave and two chambers. -/
def RetTwo (g : Nat) (w : World) (e : Ending) (w' : World) : Prop :=
  ∃ F G S D c d e2 x y, e = .returned (.tuple #[.agg #[.slice F (CaveD.n D) c, .slice G D.q d, .slice S D.m e2], .int .i64 x, .int .i64 y]) ∧ CaveHeld w.heap.size w' F G S D ∧ (D.n ≤ 20 ∧ D.q ≤ 20 ∧ D.m ≤ 20 ∧ D.m ≤ e2) ∧ (-8 ≤ x ∧ x ≤ 27) ∧ (-8 ≤ y ∧ y ≤ 27) ∧ Kept g (g + 1) w w'
set_option maxRecDepth 20000 in
theorem l20Two_any (g : Nat) (w : World) (hr : Rdr w g 0) :
    Calls Tryd.prog 66 #[.pointer (some ⟨g, 0, none⟩)] w (RetTwo g w) := by
  have hgl := hr.lt
  have hr0 := hid (hr.below (below_alloc1 w (.cells Nil3 26)))
  have hk0 := hid ((Kept.refl g (g + 1) w).alloc (.cells Nil3 26))
  have hB0 := hid (Blk.new w 26 Nil3)
  clear hr
  go_enter Tryd.func66, Tryd.ntmps66
  go_wp2_with fail
  refine (l20Cave_any g 0 9 _ hr0.out (by omega) (by omega) (by omega)).mono ?_
  rintro ex w1 ⟨F, G, S, D, c, d, e, p1, rfl, hD, hsm, hr1, hp1, hk1⟩
  simp only [World.size_alloc] at hD
  have hn20 := hsm.1
  have hsz : w.heap.size < w1.heap.size := by have := hk1.size; simp at this; omega
  have H2 := hid (DrR.start (w := w) (R := w.heap.size) (c := c) (d := d) (e := e) hr1 (blk_kept hB0.out hk1 (.inr (by omega))) hD (hk0.out.trans hk1) (by omega) rfl)
  clear hr0 hk0 hB0 hr1 hk1 hD
  go_wp2
  generalize w1.alloc (.cells #[.slice F D.n c, .slice G D.q d, .slice S D.m e] 26) = w2 at H2 ⊢
  have ho := H2.out.ord
  generalize hX : w1.heap.size = X at H2 ho ⊢
  have y0 := H2.out.box.cell (i := 0) rfl
  have y1 := H2.out.box.cell (i := 1) rfl
  have y2 := H2.out.box.cell (i := 2) rfl
  have hn1 : w.heap.size ≠ X := by omega
  have hn2 : X ≠ w.heap.size := by omega
  go_region_held3 (fun W => W.cell? ⟨X, 0, none⟩ = some (.slice F D.n c) ∧ W.cell? ⟨X, 1, none⟩ = some (.slice G D.q d) ∧ W.cell? ⟨X, 2, none⟩ = some (.slice S D.m e)) (go_keep) (first
      | (go_at_call 71; (with_reducible refine (l20Chamber_any g p1 F G S D c d e _ H2.out.drew.rdr (by omega) hn20).mono ?_); rintro ex w6 ⟨q6, rfl, hq6, hr6, hk6⟩; have H6 := hid (H2.out.drew.pick hr6 hk6); have c0 := H6.out.box.cell (i := 0) rfl; have c1 := H6.out.box.cell (i := 1) rfl; have c2 := H6.out.box.cell (i := 2) rfl; clear hr6 hk6)
      | (go_at_call 71; (with_reducible refine (l20Chamber_any g (p1 + 3) F G S D c d e _ H6.out.rdr (by omega) hn20).mono ?_); rintro ex w7 ⟨q7, rfl, hq7, hr7, hk7⟩; have H7 := hid (H6.out.pick hr7 hk7); have c0 := H7.out.box.cell (i := 0) rfl; have c1 := H7.out.box.cell (i := 1) rfl; have c2 := H7.out.box.cell (i := 2) rfl; have n0 := H7.out.res.cell (i := 0) rfl; have n1 := H7.out.res.cell (i := 1) rfl; have n2 := H7.out.res.cell (i := 2) rfl; have z0 := H7.out.res.frozen 0; have z1 := H7.out.res.frozen 1; have z2 := H7.out.res.frozen 2; clear hr7 hk7))
  have HF := H7.out.fin_res (.slice F D.n c) (.slice G D.q d) (.slice S D.m e)
  have HS := hid (H7.out.fin_cave (.slice F D.n c) (.slice G D.q d) (.slice S D.m e))
  have HKf := hid (H7.out.fin_kept (.slice F D.n c) (.slice G D.q d) (.slice S D.m e))
  unfold fin at HF HS HKf
  have r0 := HF.cell (i := 0) rfl
  have r1 := HF.cell (i := 1) rfl
  have r2 := HF.cell (i := 2) rfl
  clear HF
  go_wp2
  refine bodyPost_ret (v := .tuple #[.agg #[.slice F D.n c, .slice G D.q d, .slice S D.m e], .int .i64 q6, .int .i64 q7]) (by simp [results, Tryd.results66, go_sem, r0, r1, r2]) rfl ⟨F, G, S, D, c, d, e, q6, q7, rfl, HS.out.lower (by omega), hsm, hq6, hq7, HKf.out⟩

set_option maxRecDepth 20000 in
theorem DrawJoinLevel_any (A : Option Addr) (n c0 : Nat) (y : Nat → Int) (w : World) (hx : Bytes w A n y) (hy : ∀ j, 0 ≤ y j ∧ y j < 256) (hn : n ≤ c0) : Calls Tryd.prog 48 #[.slice A n c0] w (DrawCNN w) := by
  have hb0 := hid (below_alloc1 w (.cells Nil3 26))
  have hB0 := hid (Blk.new w 26 Nil3)
  go_enter Tryd.func48, Tryd.ntmps48
  go_wp2_with fail
  refine (l20Open_any A n c0 y _ (hx.alloc _) hy hn).mono ?_
  rintro ex w1 ⟨rfl, hr1, hb1⟩
  simp only [World.size_alloc] at hr1
  have hB1 := hid (hB0.out.below hb1)
  have hsz1 : w.heap.size + 1 < w1.heap.size := by have := hr1.lt; omega
  have hb1' := hid (Below.then_ hb0.out hb1)
  clear hB0 hb0 hb1
  go_wp2_with fail
  refine (l20Two_any (w.heap.size + 1) _ hr1).mono ?_
  rintro ex w2 ⟨F, G, S, D, c, d, e, x1, x2, rfl, hD, hsm, hx1, hx2, hk2⟩
  have HKX := hid hk2
  have HDX := hid hD
  clear hk2 hD
  have hB9 := hid (blk_kept hB1.out HKX.out (.inl (by omega)))
  have y0 := hB9.out.cell (i := 0) rfl
  have y1 := hB9.out.cell (i := 1) rfl
  have y2 := hB9.out.cell (i := 2) rfl
  have z0 := hB9.out.frozen 0
  have z1 := hB9.out.frozen 1
  have z2 := hB9.out.frozen 2
  have hb9 := hid (hb1'.out.trans (HKX.out.below (by omega) (by omega)))
  obtain ⟨HO, HF⟩ := fin_ok hB9.out HDX.out (by omega) hsm hb9.out (.slice F D.n c) (.slice G D.q d) (.slice S D.m e)
  unfold fin at HO HF
  have HO := hid HO
  have r0 := HF.cell (i := 0) rfl
  have r1 := HF.cell (i := 1) rfl
  have r2 := HF.cell (i := 2) rfl
  clear HF
  go_wp2
  refine bodyPost_ret (v := .tuple #[.agg #[.slice F D.n c, .slice G D.q d, .slice S D.m e], .int .i64 x1, .int .i64 x2]) (by simp [results, Tryd.results48, go_sem, r0, r1, r2]) rfl ⟨F, G, S, D, c, d, e, x1, x2, rfl, HO.out, hx1, hx2⟩
set_option maxRecDepth 20000 in
theorem DrawTreeLevel_any (A : Option Addr) (n c0 : Nat) (y : Nat → Int) (w : World) (hx : Bytes w A n y) (hy : ∀ j, 0 ≤ y j ∧ y j < 256) (hn : n ≤ c0) : Calls Tryd.prog 25 #[.slice A n c0] w (DrawCNN w) := by
  have hb0 := hid (below_alloc1 w (.cells Nil3 26))
  have hB0 := hid (Blk.new w 26 Nil3)
  go_enter Tryd.func25, Tryd.ntmps25
  go_wp2_with fail
  refine (l20Open_any A n c0 y _ (hx.alloc _) hy hn).mono ?_
  rintro ex w1 ⟨rfl, hr1, hb1⟩
  simp only [World.size_alloc] at hr1
  have hB1 := hid (hB0.out.below hb1)
  have hsz1 : w.heap.size + 1 < w1.heap.size := by have := hr1.lt; omega
  have hb1' := hid (Below.then_ hb0.out hb1)
  clear hB0 hb0 hb1
  go_wp2_with fail
  refine (l20Two_any (w.heap.size + 1) _ hr1).mono ?_
  rintro ex w2 ⟨F, G, S, D, c, d, e, x1, x2, rfl, hD, hsm, hx1, hx2, hk2⟩
  have HKX := hid hk2
  have HDX := hid hD
  clear hk2 hD
  have hB9 := hid (blk_kept hB1.out HKX.out (.inl (by omega)))
  have y0 := hB9.out.cell (i := 0) rfl
  have y1 := hB9.out.cell (i := 1) rfl
  have y2 := hB9.out.cell (i := 2) rfl
  have z0 := hB9.out.frozen 0
  have z1 := hB9.out.frozen 1
  have z2 := hB9.out.frozen 2
  have hb9 := hid (hb1'.out.trans (HKX.out.below (by omega) (by omega)))
  obtain ⟨HO, HF⟩ := fin_ok hB9.out HDX.out (by omega) hsm hb9.out (.slice F D.n c) (.slice G D.q d) (.slice S D.m e)
  unfold fin at HO HF
  have HO := hid HO
  have r0 := HF.cell (i := 0) rfl
  have r1 := HF.cell (i := 1) rfl
  have r2 := HF.cell (i := 2) rfl
  clear HF
  go_wp2
  refine bodyPost_ret (v := .tuple #[.agg #[.slice F D.n c, .slice G D.q d, .slice S D.m e], .int .i64 x1, .int .i64 x2]) (by simp [results, Tryd.results25, go_sem, r0, r1, r2]) rfl ⟨F, G, S, D, c, d, e, x1, x2, rfl, HO.out, hx1, hx2⟩
set_option maxRecDepth 20000 in
theorem DrawSillsJoin_any (A : Option Addr) (n c0 : Nat) (y : Nat → Int) (w : World) (hx : Bytes w A n y) (hy : ∀ j, 0 ≤ y j ∧ y j < 256) (hn : n ≤ c0) : Calls Tryd.prog 22 #[.slice A n c0] w (DrawCL w) := by
  have hb0 := hid (below_alloc1 w (.cells Nil3 26))
  have hB0 := hid (Blk.new w 26 Nil3)
  go_enter Tryd.func22, Tryd.ntmps22
  go_wp2_with fail
  refine (l20Open_any A n c0 y _ (hx.alloc _) hy hn).mono ?_
  rintro ex w1 ⟨rfl, hr1, hb1⟩
  simp only [World.size_alloc] at hr1
  have hB1 := hid (hB0.out.below hb1)
  have hsz1 : w.heap.size + 1 < w1.heap.size := by have := hr1.lt; omega
  have hb1' := hid (Below.then_ hb0.out hb1)
  clear hB0 hb0 hb1
  go_wp2_with fail
  refine (l20Cave_any (w.heap.size + 1) 0 9 _ hr1 (by omega) (by omega) (by omega)).mono ?_
  rintro ex w2 ⟨F, G, S, D, c, d, e, p2, rfl, hD, hsm, hr2, hp2, hk2⟩
  have hn20 := hsm.1
  have hm20 := hsm.2.2.1
  have hsz2 : w1.heap.size ≤ w2.heap.size := hk2.size
  have H2 := hid (DrR.start (w := w) (g := w.heap.size + 1) (R := w.heap.size) (c := c) (d := d) (e := e) hr2 (blk_kept hB1.out hk2 (.inl (by omega))) hD ((below_kept hb1'.out _ _).trans hk2) (by omega) rfl)
  clear hr1 hr2 hk2 hD hB1 hb1'
  go_wp2
  generalize w2.alloc (.cells #[.slice F D.n c, .slice G D.q d, .slice S D.m e] 26) = w3 at H2 ⊢
  have ho := H2.out.ord
  generalize hX : w2.heap.size = X at H2 ho ⊢
  have y0 := H2.out.box.cell (i := 0) rfl
  have y1 := H2.out.box.cell (i := 1) rfl
  have y2 := H2.out.box.cell (i := 2) rfl
  have hn1 : w.heap.size ≠ X := by omega
  have hn2 : X ≠ w.heap.size := by omega
  go_region_held3 (fun W => W.cell? ⟨X, 0, none⟩ = some (.slice F D.n c) ∧ W.cell? ⟨X, 1, none⟩ = some (.slice G D.q d) ∧ W.cell? ⟨X, 2, none⟩ = some (.slice S D.m e)) (go_keep) (first
      | (go_at_call 65; (with_reducible refine (l20Some_any _ p2 F G S D c d e _ H2.out.drew.rdr (by omega) hm20).mono ?_); rintro ex w7 ⟨A7, n7, c7, x7, p7, rfl, hn7, hx7, hi7, hr7, hp7, hk7⟩; have H7 := hid (H2.out.drew.pick hr7 hk7); have c0 := H7.out.box.cell (i := 0) rfl; have c1 := H7.out.box.cell (i := 1) rfl; have c2 := H7.out.box.cell (i := 2) rfl; have n0 := H7.out.res.cell (i := 0) rfl; have n1 := H7.out.res.cell (i := 1) rfl; have n2 := H7.out.res.cell (i := 2) rfl; have z0 := H7.out.res.frozen 0; have z1 := H7.out.res.frozen 1; have z2 := H7.out.res.frozen 2; clear hr7 hk7))
  have hl6 := H2.out.drew.box.lt
  have HF := H7.out.fin_res (.slice F D.n c) (.slice G D.q d) (.slice S D.m e)
  have HS := hid (H7.out.fin_cave (.slice F D.n c) (.slice G D.q d) (.slice S D.m e))
  have HKf := hid (H7.out.fin_kept (.slice F D.n c) (.slice G D.q d) (.slice S D.m e))
  unfold fin at HF HS HKf
  have r0 := HF.cell (i := 0) rfl
  have r1 := HF.cell (i := 1) rfl
  have r2 := HF.cell (i := 2) rfl
  clear HF
  go_wp2
  refine bodyPost_ret (v := .tuple #[.agg #[.slice F D.n c, .slice G D.q d, .slice S D.m e], .slice A7 n7 c7]) (by simp [results, Tryd.results22, go_sem, r0, r1, r2]) rfl ⟨F, G, S, D, c, d, e, A7, n7, c7, x7, rfl, ⟨HS.out.lower (by omega), hsm, HKf.out.below' (by omega)⟩, ?_, hn7, hx7⟩
  exact (IntsHeld.fin hi7 (by omega) _ _ _).lower (by omega)

set_option maxRecDepth 20000 in
theorem DrawSillsHigh_any (A : Option Addr) (n c0 : Nat) (y : Nat → Int) (w : World) (hx : Bytes w A n y) (hy : ∀ j, 0 ≤ y j ∧ y j < 256) (hn : n ≤ c0) : Calls Tryd.prog 34 #[.slice A n c0] w (DrawCL w) := by
  have hb0 := hid (below_alloc1 w (.cells Nil3 26))
  have hB0 := hid (Blk.new w 26 Nil3)
  go_enter Tryd.func34, Tryd.ntmps34
  go_wp2_with fail
  refine (DrawSillsJoin_any A n c0 y _ (hx.alloc _) hy hn).mono ?_
  rintro ex w2 ⟨F, G, S, D, c, d, e, A7, n7, c7, x7, rfl, ⟨hD, hsm, hk2⟩, hi7, hn7, hx7⟩
  have HI7 := hid hi7
  clear hi7
  have hB2 := hid (hB0.out.below hk2)
  simp only [World.size_alloc] at hD hk2
  have hb2 := hid (hb0.out.trans (hk2.mono (by omega)))
  clear hB0 hb0 hk2
  have y0 := hB2.out.cell (i := 0) rfl
  have y1 := hB2.out.cell (i := 1) rfl
  have y2 := hB2.out.cell (i := 2) rfl
  have z0 := hB2.out.frozen 0
  have z1 := hB2.out.frozen 1
  have z2 := hB2.out.frozen 2
  obtain ⟨HO, HF⟩ := fin_ok hB2.out hD (by omega) hsm hb2.out (.slice F D.n c) (.slice G D.q d) (.slice S D.m e)
  unfold fin at HO HF
  have HO := hid HO
  have r0 := HF.cell (i := 0) rfl
  have r1 := HF.cell (i := 1) rfl
  have r2 := HF.cell (i := 2) rfl
  clear HF
  go_wp2
  refine bodyPost_ret (v := .tuple #[.agg #[.slice F D.n c, .slice G D.q d, .slice S D.m e], .slice A7 n7 c7]) (by simp [results, Tryd.results34, go_sem, r0, r1, r2]) rfl ⟨F, G, S, D, c, d, e, A7, n7, c7, x7, rfl, HO.out, (IntsHeld.fin HI7.out (by simp) _ _ _).lower (by simp), hn7, hx7⟩

set_option maxRecDepth 20000 in
theorem DrawWaterLeft_any (A : Option Addr) (n c0 : Nat) (y : Nat → Int) (w : World) (hx : Bytes w A n y) (hy : ∀ j, 0 ≤ y j ∧ y j < 256) (hn : n ≤ c0) : Calls Tryd.prog 42 #[.slice A n c0] w (DrawCNL w) := by
  have hb0 := hid (below_alloc1 w (.cells Nil3 26))
  have hB0 := hid (Blk.new w 26 Nil3)
  go_enter Tryd.func42, Tryd.ntmps42
  go_wp2_with fail
  refine (l20Open_any A n c0 y _ (hx.alloc _) hy hn).mono ?_
  rintro ex w1 ⟨rfl, hr1, hb1⟩
  simp only [World.size_alloc] at hr1
  have hB1 := hid (hB0.out.below hb1)
  have hsz1 : w.heap.size + 1 < w1.heap.size := by have := hr1.lt; omega
  have hb1' := hid (Below.then_ hb0.out hb1)
  clear hB0 hb0 hb1
  go_wp2_with fail
  refine (l20Cave_any (w.heap.size + 1) 0 9 _ hr1 (by omega) (by omega) (by omega)).mono ?_
  rintro ex w2 ⟨F, G, S, D, c, d, e, p2, rfl, hD, hsm, hr2, hp2, hk2⟩
  have hn20 := hsm.1
  have hm20 := hsm.2.2.1
  have hsz2 : w1.heap.size ≤ w2.heap.size := hk2.size
  have H2 := hid (DrR.start (w := w) (g := w.heap.size + 1) (R := w.heap.size) (c := c) (d := d) (e := e) hr2 (blk_kept hB1.out hk2 (.inl (by omega))) hD ((below_kept hb1'.out _ _).trans hk2) (by omega) rfl)
  clear hr1 hr2 hk2 hD hB1 hb1'
  go_wp2
  generalize w2.alloc (.cells #[.slice F D.n c, .slice G D.q d, .slice S D.m e] 26) = w3 at H2 ⊢
  have ho := H2.out.ord
  generalize hX : w2.heap.size = X at H2 ho ⊢
  have y0 := H2.out.box.cell (i := 0) rfl
  have y1 := H2.out.box.cell (i := 1) rfl
  have y2 := H2.out.box.cell (i := 2) rfl
  have hn1 : w.heap.size ≠ X := by omega
  have hn2 : X ≠ w.heap.size := by omega
  go_region_held3 (fun W => W.cell? ⟨X, 0, none⟩ = some (.slice F D.n c) ∧ W.cell? ⟨X, 1, none⟩ = some (.slice G D.q d) ∧ W.cell? ⟨X, 2, none⟩ = some (.slice S D.m e)) (go_keep) (first
      | (go_at_call 69; (with_reducible refine (l20Level_any _ p2 _ H2.out.drew.rdr (by omega)).mono ?_); rintro ex w6 ⟨q6, rfl, hq6, hr6, hk6⟩; have H6 := hid (H2.out.drew.pick hr6 hk6); have c0 := H6.out.box.cell (i := 0) rfl; have c1 := H6.out.box.cell (i := 1) rfl; have c2 := H6.out.box.cell (i := 2) rfl; clear hr6 hk6)
      | (go_at_call 70; (with_reducible refine (l20Pumps_any _ (p2 + 3) F G S D c d e _ H6.out.rdr (by omega) hn20).mono ?_); rintro ex w7 ⟨A7, n7, c7, x7, p7, rfl, hn7, hx7, hi7, hr7, hp7, hk7⟩; have H7 := hid (H6.out.pick hr7 hk7); have c0 := H7.out.box.cell (i := 0) rfl; have c1 := H7.out.box.cell (i := 1) rfl; have c2 := H7.out.box.cell (i := 2) rfl; have n0 := H7.out.res.cell (i := 0) rfl; have n1 := H7.out.res.cell (i := 1) rfl; have n2 := H7.out.res.cell (i := 2) rfl; have z0 := H7.out.res.frozen 0; have z1 := H7.out.res.frozen 1; have z2 := H7.out.res.frozen 2; clear hr7 hk7))
  have hl6 := H6.out.box.lt
  have HF := H7.out.fin_res (.slice F D.n c) (.slice G D.q d) (.slice S D.m e)
  have HS := hid (H7.out.fin_cave (.slice F D.n c) (.slice G D.q d) (.slice S D.m e))
  have HKf := hid (H7.out.fin_kept (.slice F D.n c) (.slice G D.q d) (.slice S D.m e))
  unfold fin at HF HS HKf
  have r0 := HF.cell (i := 0) rfl
  have r1 := HF.cell (i := 1) rfl
  have r2 := HF.cell (i := 2) rfl
  clear HF
  go_wp2
  refine bodyPost_ret (v := .tuple #[.agg #[.slice F D.n c, .slice G D.q d, .slice S D.m e], .int .i64 q6, .slice A7 n7 c7]) (by simp [results, Tryd.results42, go_sem, r0, r1, r2]) rfl ⟨F, G, S, D, c, d, e, q6, A7, n7, c7, x7, rfl, ⟨HS.out.lower (by omega), hsm, HKf.out.below' (by omega)⟩, hq6, ?_, hn7, hx7⟩
  exact hi7 _ (fun k h1 h2 => ((Below.heap_setCell _ ⟨w.heap.size, 2, none⟩ _ _ (by show k ≠ w.heap.size; omega)).trans (Below.heap_setCell _ ⟨w.heap.size, 1, none⟩ _ _ (by show k ≠ w.heap.size; omega))).trans (Below.heap_setCell _ ⟨w.heap.size, 0, none⟩ _ _ (by show k ≠ w.heap.size; omega)))

set_option maxRecDepth 20000 in
theorem DrawLevelLeft_any (A : Option Addr) (n c0 : Nat) (y : Nat → Int) (w : World) (hx : Bytes w A n y) (hy : ∀ j, 0 ≤ y j ∧ y j < 256) (hn : n ≤ c0) : Calls Tryd.prog 38 #[.slice A n c0] w (DrawCNLN w) := by
  have hb0 := hid (below_alloc1 w (.cells Nil3 26))
  have hB0 := hid (Blk.new w 26 Nil3)
  go_enter Tryd.func38, Tryd.ntmps38
  go_wp2_with fail
  refine (l20Open_any A n c0 y _ (hx.alloc _) hy hn).mono ?_
  rintro ex w1 ⟨rfl, hr1, hb1⟩
  simp only [World.size_alloc] at hr1
  have hB1 := hid (hB0.out.below hb1)
  have hsz1 : w.heap.size + 1 < w1.heap.size := by have := hr1.lt; omega
  have hb1' := hid (Below.then_ hb0.out hb1)
  clear hB0 hb0 hb1
  go_wp2_with fail
  refine (l20Cave_any (w.heap.size + 1) 0 9 _ hr1 (by omega) (by omega) (by omega)).mono ?_
  rintro ex w2 ⟨F, G, S, D, c, d, e, p2, rfl, hD, hsm, hr2, hp2, hk2⟩
  have hn20 := hsm.1
  have hm20 := hsm.2.2.1
  have hsz2 : w1.heap.size ≤ w2.heap.size := hk2.size
  have H2 := hid (DrR.start (w := w) (g := w.heap.size + 1) (R := w.heap.size) (c := c) (d := d) (e := e) hr2 (blk_kept hB1.out hk2 (.inl (by omega))) hD ((below_kept hb1'.out _ _).trans hk2) (by omega) rfl)
  clear hr1 hr2 hk2 hD hB1 hb1'
  go_wp2
  generalize w2.alloc (.cells #[.slice F D.n c, .slice G D.q d, .slice S D.m e] 26) = w3 at H2 ⊢
  have ho := H2.out.ord
  generalize hX : w2.heap.size = X at H2 ho ⊢
  have y0 := H2.out.box.cell (i := 0) rfl
  have y1 := H2.out.box.cell (i := 1) rfl
  have y2 := H2.out.box.cell (i := 2) rfl
  have hn1 : w.heap.size ≠ X := by omega
  have hn2 : X ≠ w.heap.size := by omega
  go_region_held3 (fun W => W.cell? ⟨X, 0, none⟩ = some (.slice F D.n c) ∧ W.cell? ⟨X, 1, none⟩ = some (.slice G D.q d) ∧ W.cell? ⟨X, 2, none⟩ = some (.slice S D.m e)) (go_keep) (first
      | (go_at_call 69; (with_reducible refine (l20Level_any _ p2 _ H2.out.drew.rdr (by omega)).mono ?_); rintro ex w6 ⟨q6, rfl, hq6, hr6, hk6⟩; have H6 := hid (H2.out.drew.pick hr6 hk6); have c0 := H6.out.box.cell (i := 0) rfl; have c1 := H6.out.box.cell (i := 1) rfl; have c2 := H6.out.box.cell (i := 2) rfl; clear hr6 hk6)
      | (go_at_call 70; (with_reducible refine (l20Pumps_any _ (p2 + 3) F G S D c d e _ H6.out.rdr (by omega) hn20).mono ?_); rintro ex w7 ⟨A7, n7, c7, x7, p7, rfl, hn7, hx7, hi7, hr7, hp7, hk7⟩; have H7 := hid (H6.out.pick hr7 hk7); have c0 := H7.out.box.cell (i := 0) rfl; have c1 := H7.out.box.cell (i := 1) rfl; have c2 := H7.out.box.cell (i := 2) rfl; clear hr7 hk7)
      | (go_at_call 71; (with_reducible refine (l20Chamber_any _ p7 F G S D c d e _ H7.out.rdr (by omega) hn20).mono ?_); rintro ex w8 ⟨q8, rfl, hq8, hr8, hk8⟩; have H8 := hid (H7.out.pick hr8 hk8); have hi8 := hid (hi7.kept hk8 (by have := H6.out.box.lt; omega)); have c0 := H8.out.box.cell (i := 0) rfl; have c1 := H8.out.box.cell (i := 1) rfl; have c2 := H8.out.box.cell (i := 2) rfl; have n0 := H8.out.res.cell (i := 0) rfl; have n1 := H8.out.res.cell (i := 1) rfl; have n2 := H8.out.res.cell (i := 2) rfl; have z0 := H8.out.res.frozen 0; have z1 := H8.out.res.frozen 1; have z2 := H8.out.res.frozen 2; clear hr8 hk8))
  have hl6 := H6.out.box.lt
  have HF := H8.out.fin_res (.slice F D.n c) (.slice G D.q d) (.slice S D.m e)
  have HS := hid (H8.out.fin_cave (.slice F D.n c) (.slice G D.q d) (.slice S D.m e))
  have HKf := hid (H8.out.fin_kept (.slice F D.n c) (.slice G D.q d) (.slice S D.m e))
  unfold fin at HF HS HKf
  have r0 := HF.cell (i := 0) rfl
  have r1 := HF.cell (i := 1) rfl
  have r2 := HF.cell (i := 2) rfl
  clear HF
  go_wp2
  refine bodyPost_ret (v := .tuple #[.agg #[.slice F D.n c, .slice G D.q d, .slice S D.m e], .int .i64 q6, .slice A7 n7 c7, .int .i64 q8]) (by simp [results, Tryd.results38, go_sem, r0, r1, r2]) rfl ⟨F, G, S, D, c, d, e, q6, A7, n7, c7, x7, q8, rfl, ⟨HS.out.lower (by omega), hsm, HKf.out.below' (by omega)⟩, hq6, ?_, hn7, hx7, hq8⟩
  exact hi8.out _ (fun k h1 h2 => ((Below.heap_setCell _ ⟨w.heap.size, 2, none⟩ _ _ (by show k ≠ w.heap.size; omega)).trans (Below.heap_setCell _ ⟨w.heap.size, 1, none⟩ _ _ (by show k ≠ w.heap.size; omega))).trans (Below.heap_setCell _ ⟨w.heap.size, 0, none⟩ _ _ (by show k ≠ w.heap.size; omega)))
end Go.Proofs.YtahbfifnpceoeaaDoor
