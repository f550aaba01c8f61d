/- The laws' data, drawn whole: a search and numbers, with small lists; the world behind keeps all that was. -/
import Derived.Test.YtlhcjbgcgbeocaaDoorDraw2
namespace Go.Proofs.YtlhcjbgcgbeocaaDoor
open Go.RowKit

theorem SrchHeld.lower {lo lo' : Nat} {w : World} {P Q : Option Addr} {D : SrchD} (h : SrchHeld lo w P Q D) (hl : lo' ≤ lo) : SrchHeld lo' w P Q D := fun w' hk => h w' (fun k h1 h2 => hk k (by omega) h2)

/-- The reader g, the result's box R, the search's box X, and the search. -/
structure DrR (w : World) (g R X lo p : Nat) (P Q : Option Addr) (D : SrchD) (c d : Nat) (wx : World) : Prop where
  rdr : Rdr wx g p
  res : Blk wx R 26 #[.int .i64 0, .slice none 0 0, .slice none 0 0]
  box : Blk wx X 26 #[.int .i64 D.s, .slice P D.m c, .slice Q D.k d]
  srch : SrchHeld lo wx P Q D
  kept : Kept g (g + 1) w wx
  ord : g < lo ∧ R < lo ∧ lo ≤ X ∧ R ≠ g ∧ w.heap.size ≤ R ∧ w.heap.size ≤ lo
section
variable {w wx w' : World} {g R X lo p p' : Nat} {P Q : Option Addr} {D : SrchD} {c d : Nat}
theorem DrR.drew (H : DrR w g R X lo p P Q D c d wx) : DrR w g R X lo p P Q D c d wx.drew :=
  ⟨H.rdr.below (Below.refl _ _).drew, H.res, H.box, H.srch.drew, H.kept.drew, H.ord⟩
theorem DrR.pick (H : DrR w g R X lo p P Q D c d wx) (hr : Rdr w' g p') (hk : Kept g (g + 1) wx w') : DrR w g R X lo p' P Q D c d w' :=
  ⟨hr, blk_kept H.res hk (by have := H.ord; omega), blk_kept H.box hk (by have := H.ord; omega), H.srch.kept hk (by have := H.ord; omega), H.kept.trans hk, H.ord⟩
/-- The search is laid in its box. -/
theorem DrR.start {w0 : World} (hr : Rdr wx g p) (hB : Blk wx R 26 #[.int .i64 0, .slice none 0 0, .slice none 0 0]) (hs : SrchHeld lo wx P Q D) (hk : Kept g (g + 1) w wx) (ho : g < lo ∧ R < lo ∧ lo ≤ wx.heap.size ∧ R ≠ g ∧ w.heap.size ≤ R ∧ w.heap.size ≤ lo)
    (he : w0 = wx.alloc (.cells #[.int .i64 D.s, .slice P D.m c, .slice Q D.k d] 26)) : DrR w g R wx.heap.size lo p P Q D c d w0 := by
  subst he
  exact ⟨hr.below ((Below.refl _ _).alloc (Nat.le_refl _) _), hB.alloc _, Blk.new _ _ _, hs.alloc _, hk.alloc _, ho⟩
/-- The search is stored in the result's box. -/
def fin (w : World) (R : Nat) (x y z : Value) : World := ((w.setCell ⟨R, 0, none⟩ x).setCell ⟨R, 1, none⟩ y).setCell ⟨R, 2, none⟩ z
theorem DrR.fin_srch (H : DrR w g R X lo p P Q D c d wx) (x y z : Value) : SrchHeld lo (fin wx R x y z) P Q D :=
  ((H.srch.set (q := ⟨R, 0, none⟩) (by have := H.ord; show R < lo; omega) x).set (q := ⟨R, 1, none⟩) (by have := H.ord; show R < lo; omega) y).set (q := ⟨R, 2, none⟩) (by have := H.ord; show R < lo; omega) z
theorem DrR.fin_kept (H : DrR w g R X lo p P Q D c d wx) (x y z : Value) : Kept g (g + 1) w (fin wx R x y z) :=
  ((H.kept.new (p := ⟨R, 0, none⟩) H.ord.2.2.2.2.1 x).new (p := ⟨R, 1, none⟩) H.ord.2.2.2.2.1 y).new (p := ⟨R, 2, none⟩) H.ord.2.2.2.2.1 z
theorem DrR.fin_res (H : DrR w g R X lo p P Q D c d wx) (x y z : Value) : Blk (fin wx R x y z) R 26 #[x, y, z] := ((H.res.set_ 0 x).set_ 1 y).set_ 2 z
end

/-- It returned a search and three numbers. -/
def RetResc (g : Nat) (w : World) (e : Ending) (w' : World) : Prop :=
  ∃ P Q D c d br x y, e = .returned (.tuple #[.agg #[.int .i64 (SrchD.s D), .slice P D.m c, .slice Q D.k d], .int .i64 br, .int .i64 x, .int .i64 y]) ∧ SrchHeld w.heap.size w' P Q D ∧ (D.m ≤ 20 ∧ D.k ≤ 20 ∧ D.m ≤ c) ∧ (-10 ≤ D.s ∧ D.s ≤ 10) ∧ (-39 ≤ br ∧ br ≤ 70) ∧ (-9 ≤ x ∧ x ≤ 17) ∧ (-9 ≤ y ∧ y ≤ 17) ∧ Kept g (g + 1) w w'

set_option maxRecDepth 20000 in
theorem l20Rescue_any (g : Nat) (w : World) (hr : Rdr w g 0) :
    Calls Tryd.prog 56 #[.pointer (some ⟨g, 0, none⟩)] w (RetResc g w) := by
  have hgl := hr.lt
  have hr0 := hid (hr.below (Joins.below_alloc1 w (.cells #[.int .i64 0, .slice none 0 0, .slice none 0 0] 26)))
  have hk0 := hid ((Kept.refl g (g + 1) w).alloc (.cells #[.int .i64 0, .slice none 0 0, .slice none 0 0] 26))
  have hB0 := hid (Blk.new w 26 #[.int .i64 0, .slice none 0 0, .slice none 0 0])
  clear hr
  go_enter Tryd.func56, Tryd.ntmps56
  go_wp2_with fail
  refine (l20Search_any g 0 12 _ hr0.out (by omega) (by omega) (by omega)).mono ?_
  rintro e w1 ⟨P, Q, D, c, d, p1, rfl, hD, hsm, hsp, hr1, hp1, hk1⟩
  simp only [World.size_alloc] at hD
  obtain ⟨h0, h9⟩ := hsp
  have hsz : w.heap.size < w1.heap.size := by have := hk1.size; simp at this; omega
  have H2 := hid (DrR.start (w := w) (R := w.heap.size) (c := c) (d := d) hr1 (blk_kept hB0.out hk1 (.inr (by omega))) hD (hk0.out.trans hk1) (by omega) rfl)
  clear hr0 hk0 hB0 hr1 hk1 hD
  go_wp2
  generalize w1.alloc (.cells #[.int .i64 D.s, .slice P D.m c, .slice Q D.k d] 26) = w2 at H2 ⊢
  have ho := H2.out.ord
  generalize hX : w1.heap.size = X at H2 ho ⊢
  have y0 := H2.out.box.cell (i := 0) rfl
  have y1 := H2.out.box.cell (i := 1) rfl
  have y2 := H2.out.box.cell (i := 2) rfl
  have hn1 : w.heap.size ≠ X := by omega
  have hn2 : X ≠ w.heap.size := by omega
  go_region_held3 (fun W => W.cell? ⟨X, 0, none⟩ = some (.int .i64 D.s) ∧ W.cell? ⟨X, 1, none⟩ = some (.slice P D.m c) ∧ W.cell? ⟨X, 2, none⟩ = some (.slice Q D.k d)) (go_keep) (first
      | (go_at_call 61; (with_reducible refine (l20Breath_any g p1 _ (H2.out.drew.rdr) (by omega)).mono ?_); rintro e w5 ⟨q5, rfl, hq5, hr5, hk5⟩; have H5 := hid (H2.out.drew.pick hr5 hk5); have c0 := H5.out.box.cell (i := 0) rfl; have c1 := H5.out.box.cell (i := 1) rfl; have c2 := H5.out.box.cell (i := 2) rfl; clear hr5 hk5)
      | (go_at_call 51; (with_reducible refine (l20Spot_any g (p1 + 3) P Q D c d _ H5.out.rdr (by omega) h0 h9).mono ?_); rintro e w6 ⟨q6, rfl, hq6, hr6, hk6⟩; have H6 := hid (H5.out.pick hr6 hk6); have c0 := H6.out.box.cell (i := 0) rfl; have c1 := H6.out.box.cell (i := 1) rfl; have c2 := H6.out.box.cell (i := 2) rfl; clear hr6 hk6)
      | (go_at_call 51; (with_reducible refine (l20Spot_any g (p1 + 3 + 3) P Q D c d _ H6.out.rdr (by omega) h0 h9).mono ?_); rintro e w7 ⟨q7, rfl, hq7, hr7, hk7⟩; have H7 := hid (H6.out.pick hr7 hk7); have c0 := H7.out.box.cell (i := 0) rfl; have c1 := H7.out.box.cell (i := 1) rfl; have c2 := H7.out.box.cell (i := 2) rfl; have n0 := H7.out.res.cell (i := 0) rfl; have n1 := H7.out.res.cell (i := 1) rfl; have n2 := H7.out.res.cell (i := 2) rfl; have z0 := H7.out.res.frozen 0; have z1 := H7.out.res.frozen 1; have z2 := H7.out.res.frozen 2; clear hr7 hk7))
  have HF := H7.out.fin_res (.int .i64 D.s) (.slice P D.m c) (.slice Q D.k d)
  have HS := hid (H7.out.fin_srch (.int .i64 D.s) (.slice P D.m c) (.slice Q D.k d))
  have HKf := hid (H7.out.fin_kept (.int .i64 D.s) (.slice P D.m c) (.slice Q D.k d))
  unfold fin at HF HS HKf
  have r0 := HF.cell (i := 0) rfl
  have r1 := HF.cell (i := 1) rfl
  have r2 := HF.cell (i := 2) rfl
  clear HF
  go_wp2
  refine bodyPost_ret (v := .tuple #[.agg #[.int .i64 (SrchD.s D), .slice P D.m c, .slice Q D.k d], .int .i64 q5, .int .i64 q6, .int .i64 q7]) (by simp [results, Tryd.results56, go_sem, r0, r1, r2]) rfl ⟨P, Q, D, c, d, q5, q6, q7, rfl, HS.out.lower (by omega), hsm, ⟨h0, h9⟩, hq5, hq6, hq7, HKf.out⟩
end Go.Proofs.YtlhcjbgcgbeocaaDoor
