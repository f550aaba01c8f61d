/- A copy of a cave lies in new memory that may be written; marking it. Lists are at most 2^20 long. -/
import Derived.Test.YtahbfifnpceoeaaCave3
import Derived.Test.YtahbfifnpceoeaaApp
namespace Go.Proofs.Ytahbfifnpceoeaa
open Go.RowKit

/-- The cave lies in three rows of its own, from block lo on. -/
structure CaveOwn (w : World) (lo g1 g2 g3 : Nat) (D : CaveD) : Prop where
  lo1 : lo ≤ g1
  l12 : g1 < g2
  l23 : g2 < g3
  flo : w.rowIs g1 3 D.n (fun j => .int .i64 (D.f j))
  are : w.rowIs g2 3 D.q (fun j => .int .i64 (D.g j))
  sil : w.rowIs g3 57 (D.m * 3) (triF D.a D.b D.h)
theorem CaveOwn.at_ {w : World} {lo g1 g2 g3 : Nat} {D : CaveD} (h : CaveOwn w lo g1 g2 g3 D) : CaveAt w (some ⟨g1, 0, none⟩) (some ⟨g2, 0, none⟩) (some ⟨g3, 0, none⟩) D := ⟨Rd.of_row h.flo, Rd.of_row h.are, triples_of h.sil⟩
theorem CaveOwn.below {w w' : World} {lo g1 g2 g3 : Nat} {D : CaveD} (h : CaveOwn w lo g1 g2 g3 D) (hb : Below w.heap.size w w') : CaveOwn w' lo g1 g2 g3 D := ⟨h.lo1, h.l12, h.l23, row_below hb h.flo, row_below hb h.are, row_below hb h.sil⟩
def ToOwn (D : CaveD) (w : World) (e : Ending) (w' : World) : Prop :=
  ∃ g1 g2 g3, e = .returned (.agg #[.slice (some ⟨g1, 0, none⟩) D.n D.n, .slice (some ⟨g2, 0, none⟩) D.q D.q, .slice (some ⟨g3, 0, none⟩) D.m D.m]) ∧ CaveOwn w' w.heap.size g1 g2 g3 D ∧ Below w.heap.size w w'

set_option maxHeartbeats 1600000 in
theorem toCave_own (F G S : Option Addr) (D : CaveD) (c d e : Nat) (w : World) (hx : CaveAt w F G S D) (hs : CaveSmall D) :
    Calls Try.prog 11 #[.agg #[.slice F D.n c, .slice G D.q d, .slice S D.m e]] w (ToOwn D w) := by
  have hW : ∀ o1 o2 o3, Below w.heap.size w (((w.alloc o1).alloc o2).alloc o3) := fun o1 o2 o3 => below_alloc (below_alloc (below_alloc1 w o1) o2) o3
  have HW := hid hW
  clear hW
  go_enter Try.func11, Try.ntmps11
  go_wp2_with fail
  refine (toIntS_any F D.n c _ _ (hx.below (HW.out _ _ _)).flo hs.1).mono ?_
  rintro ex w1 ⟨rfl, hrow, hb⟩
  have b1 := (((Blk.new _ _ _).alloc _).alloc _).below hb
  have b2 := ((Blk.new _ _ _).alloc _).below hb
  have b3 := (Blk.new _ _ _).below hb
  have hw1 := Below.then_ (HW.out _ _ _) hb
  have hg : w.heap.size + 3 < w1.heap.size := by have := hrow.lt; simp at this; omega
  simp only [World.size_alloc] at b1 b2 b3 hrow
  have p1 := b1.cell (i := 1) rfl
  have f0 := b3.cell (i := 0) rfl
  have f1 := b3.cell (i := 1) rfl
  have f2 := b3.cell (i := 2) rfl
  have z0 := b3.frozen 0
  go_wp2_with fail
  have hrow2 := hrow.setOther (a := ⟨w.heap.size + 1 + 1, 0, none⟩) (by simp) (.slice (some ⟨w.heap.size + 1 + 1 + 1, 0, none⟩) D.n D.n)
  have hw2 := hw1.setCell (p := ⟨w.heap.size + 1 + 1, 0, none⟩) (by simp <;> omega) (.slice (some ⟨w.heap.size + 1 + 1 + 1, 0, none⟩) D.n D.n)
  have b1' := b1.far (p := ⟨w.heap.size + 1 + 1, 0, none⟩) (by simp <;> omega) (.slice (some ⟨w.heap.size + 1 + 1 + 1, 0, none⟩) D.n D.n)
  have b2' := b2.far (p := ⟨w.heap.size + 1 + 1, 0, none⟩) (by simp) (.slice (some ⟨w.heap.size + 1 + 1 + 1, 0, none⟩) D.n D.n)
  have b3' := b3.set_ 0 (.slice (some ⟨w.heap.size + 1 + 1 + 1, 0, none⟩) D.n D.n)
  refine (toIntS_any G D.q d _ _ (hx.below hw2).are hs.2.1).mono ?_
  rintro ex w2 ⟨rfl, hrowb, hb2⟩
  have hrow3 := row_below hb2 hrow2
  have hw3 := Below.then_ hw2 hb2
  have c1 := b1'.below hb2
  have c2 := b2'.below hb2
  have c3 := b3'.below hb2
  have hg2 : w1.heap.size < w2.heap.size := by have := hrowb.lt; simpa using this
  simp only [World.size_setCell] at hrowb
  clear b1 b2 b3 b1' b2' b3' p1 f0 f1 f2 z0 hb hb2 hrow2 hrow
  have p2 := c1.cell (i := 2) rfl
  have z1 := c3.frozen 1
  have f1 := c3.cell (i := 1) rfl
  go_wp2_with fail
  have hrow4 := hrow3.setOther (a := ⟨w.heap.size + 1 + 1, 1, none⟩) (by simp) (.slice (some ⟨w1.heap.size, 0, none⟩) D.q D.q)
  have hrowb2 := hrowb.setOther (a := ⟨w.heap.size + 1 + 1, 1, none⟩) (by simp <;> omega) (.slice (some ⟨w1.heap.size, 0, none⟩) D.q D.q)
  have hw4 := hw3.setCell (p := ⟨w.heap.size + 1 + 1, 1, none⟩) (by simp <;> omega) (.slice (some ⟨w1.heap.size, 0, none⟩) D.q D.q)
  have d2 := c2.far (p := ⟨w.heap.size + 1 + 1, 1, none⟩) (by simp) (.slice (some ⟨w1.heap.size, 0, none⟩) D.q D.q)
  have d3 := c3.set_ 1 (.slice (some ⟨w1.heap.size, 0, none⟩) D.q D.q)
  refine (toSillS_any S D.m e _ _ _ _ (hx.below hw4).sil hs.2.2).mono ?_
  rintro ex w3 ⟨rfl, hrowc, hb3⟩
  have hrow5 := row_below hb3 hrow4
  have hrowb3 := row_below hb3 hrowb2
  have hw5 := Below.then_ hw4 hb3
  have e2 := d2.below hb3
  have e3 := d3.below hb3
  have hg3 : w2.heap.size < w3.heap.size := by have := hrowc.lt; simpa using this
  simp only [World.size_setCell] at hrowc
  clear c1 c2 c3 d2 d3 p2 z1 f1 hb3 hrow4 hrow3 hrowb2 hrowb
  have q0 := e3.cell (i := 0) rfl
  have q1 := e3.cell (i := 1) rfl
  have q2 := e3.cell (i := 2) rfl
  have y0 := e2.cell (i := 0) rfl
  have y1 := e2.cell (i := 1) rfl
  have y2 := e2.cell (i := 2) rfl
  have t2 := e3.frozen 2
  have r0 := e2.frozen 0
  have r1 := e2.frozen 1
  have r2 := e2.frozen 2
  go_wp2
  refine bodyPost_ret (v := .agg #[.slice (some ⟨w.heap.size + 1 + 1 + 1, 0, none⟩) D.n D.n, .slice (some ⟨w1.heap.size, 0, none⟩) D.q D.q, .slice (some ⟨w2.heap.size, 0, none⟩) D.m D.m]) (by simp [results, Try.results11, go_sem, y0, y1, y2]) rfl ⟨_, _, _, rfl, ⟨by omega, hg, hg2, ?_, ?_, ?_⟩, ?_⟩
  · exact (((hrow5.setOther (by simp <;> omega) _).setOther (by simp <;> omega) _).setOther (by simp <;> omega) _).setOther (by simp <;> omega) _
  · exact (((hrowb3.setOther (by simp <;> omega) _).setOther (by simp <;> omega) _).setOther (by simp <;> omega) _).setOther (by simp <;> omega) _
  · exact (((hrowc.setOther (by simp <;> omega) _).setOther (by simp <;> omega) _).setOther (by simp <;> omega) _).setOther (by simp <;> omega) _
  · exact (((hw5.setCell (by simp <;> omega) _).setCell (by simp <;> omega) _).setCell (by simp <;> omega) _).setCell (by simp <;> omega) _

theorem markSillS_any (g n c : Nat) (f0 : Nat → Value) (k : Nat) (w : World) (hr : w.rowIs g 57 (n * 3) f0) (hn : n ≤ 1048576) (hk : k ≤ 1125899906842624) :
    Calls Try.prog 52 #[.slice (some ⟨g, 0, none⟩) n c, .int .i64 k] w fun e w' => e = .returned (.int .i64 ((k + 3 * n : Nat) : Int)) ∧ Kept g (g + 1) w w' := by
  go_enter Try.func52, Try.ntmps52
  go_wp2
  go_loopw [1, 5] (fun q i wr => ∃ (t : Nat) (f : Nat → Value), t ≤ n ∧ i = .int .i64 t ∧ q = .int .i64 ((k + 3 * t : Nat) : Int) ∧ wr.rowIs g 57 (n * 3) f ∧ Kept g (g + 1) w wr) (fun _ i _ => n - (intOf i).toNat)
  case atStart => exact ⟨0, f0, by omega, rfl, rfl, hr, Kept.refl _ _ _⟩
  case round =>
    obtain ⟨t, f, ht, rfl, rfl, hrow, hkp⟩ := hrel
    by_cases hlt : t < n
    · have hltz : (t : Int) < (n : Int) := by omega
      have u1 := hrow.cell (show t * 3 < n * 3 by omega)
      have u2 := hrow.cell (show t * 3 + 1 < n * 3 by omega)
      have u3 := hrow.cell (show t * 3 + 2 < n * 3 by omega)
      have z1 := hrow.frozen (t * 3)
      have z2 := hrow.frozen (t * 3 + 1)
      have z3 := hrow.frozen (t * 3 + 2)
      have HR := hid (((hrow.set (t * 3) (.int .i64 ((k + 3 * t : Nat) : Int))).set (t * 3 + 1) (.int .i64 ((k + 3 * t : Nat) + 1 : Int))).set (t * 3 + 2) (.int .i64 ((k + 3 * t : Nat) + 1 + 1 : Int)))
      have HK := hid (((hkp.setCell (p := ⟨g, t * 3, none⟩) (Nat.le_refl _) (by show g < g + 1; omega) (.int .i64 ((k + 3 * t : Nat) : Int))).setCell (p := ⟨g, t * 3 + 1, none⟩) (Nat.le_refl _) (by show g < g + 1; omega) (.int .i64 ((k + 3 * t : Nat) + 1 : Int))).setCell (p := ⟨g, t * 3 + 2, none⟩) (Nat.le_refl _) (by show g < g + 1; omega) (.int .i64 ((k + 3 * t : Nat) + 1 + 1 : Int)))
      clear hrow hkp hr
      go_wp2
      go_roundw
      case rel => exact ⟨t + 1, _, by omega, by go_num, by first | go_num | (congr 1; omega), HR.out, HK.out⟩
      case measure => simp [intOf] <;> omega
    · have : t = n := by omega
      subst this
      go_wp2
      go_ret
      exact ⟨rfl, hkp⟩

theorem markCave_any (lo g1 g2 g3 : Nat) (D : CaveD) (w : World) (h : CaveOwn w lo g1 g2 g3 D) (hs : CaveSmall D) :
    Calls Try.prog 24 #[.agg #[.slice (some ⟨g1, 0, none⟩) D.n D.n, .slice (some ⟨g2, 0, none⟩) D.q D.q, .slice (some ⟨g3, 0, none⟩) D.m D.m], .int .i64 1] w fun e w' => e = .returned (.int .i64 ((1 + D.n + D.q + 3 * D.m : Nat) : Int)) ∧ Kept lo (g3 + 1) w w' := by
  obtain ⟨h1, h2, h3⟩ := hs
  obtain ⟨l1, l12, l23, hf, hg, hsil⟩ := h
  have hB := hid (Blk.new w 30 #[.slice (some ⟨g1, 0, none⟩) D.n D.n, .slice (some ⟨g2, 0, none⟩) D.q D.q, .slice (some ⟨g3, 0, none⟩) D.m D.m])
  have hlt := hsil.lt
  have HK0 : Hid (Kept lo (g3 + 1) w (w.alloc (.cells #[.slice (some ⟨g1, 0, none⟩) D.n D.n, .slice (some ⟨g2, 0, none⟩) D.q D.q, .slice (some ⟨g3, 0, none⟩) D.m D.m] 30))) := ⟨rfl, rfl, rfl, by simp, fun k hk _ => Below.heap_alloc _ _ _ hk⟩
  have HF := hid (row_below (below_alloc1 w (.cells #[.slice (some ⟨g1, 0, none⟩) D.n D.n, .slice (some ⟨g2, 0, none⟩) D.q D.q, .slice (some ⟨g3, 0, none⟩) D.m D.m] 30)) hf)
  have HG := hid (row_below (below_alloc1 w (.cells #[.slice (some ⟨g1, 0, none⟩) D.n D.n, .slice (some ⟨g2, 0, none⟩) D.q D.q, .slice (some ⟨g3, 0, none⟩) D.m D.m] 30)) hg)
  have HS := hid (row_below (below_alloc1 w (.cells #[.slice (some ⟨g1, 0, none⟩) D.n D.n, .slice (some ⟨g2, 0, none⟩) D.q D.q, .slice (some ⟨g3, 0, none⟩) D.m D.m] 30)) hsil)
  clear hf hg hsil
  go_enter Try.func24, Try.ntmps24
  go_wp2_with fail
  refine (markIntS_any _ D.n D.n g1 (g1 + 1) D.f 1 _ (MutI.of_row HF.out (Nat.le_refl _) (by omega)) h1 (by omega)).mono ?_
  rintro ex w1 ⟨rfl, _, hk1⟩
  have hB1 : Hid (Blk w1 w.heap.size 30 #[.slice (some ⟨g1, 0, none⟩) D.n D.n, .slice (some ⟨g2, 0, none⟩) D.q D.q, .slice (some ⟨g3, 0, none⟩) D.m D.m]) := hid ((hk1.block w.heap.size hB.out.lt (.inr (by omega))).trans hB.out)
  have HG1 := hid (hk1.row HG.out (by omega))
  have HS1 := hid (hk1.row HS.out (by omega))
  have HK1 := hid (HK0.out.trans (hk1.wide l1 (by omega)))
  have y1 := hB1.out.cell (i := 1) rfl
  clear hk1 hB HF HG HS HK0
  go_wp2_with fail
  refine (markIntS_any _ D.q D.q g2 (g2 + 1) D.g (1 + D.n) _ (MutI.of_row HG1.out (Nat.le_refl _) (by omega)) h2 (by omega)).mono ?_
  rintro ex w2 ⟨rfl, _, hk2⟩
  have hB2 : Hid (Blk w2 w.heap.size 30 #[.slice (some ⟨g1, 0, none⟩) D.n D.n, .slice (some ⟨g2, 0, none⟩) D.q D.q, .slice (some ⟨g3, 0, none⟩) D.m D.m]) := hid ((hk2.block w.heap.size hB1.out.lt (.inr (by omega))).trans hB1.out)
  have HS2 := hid (hk2.row HS1.out (by omega))
  have HK2 := hid (HK1.out.trans (hk2.wide (by omega) (by omega)))
  clear hk2 y1 hB1 HG1 HS1 HK1
  have y2 := hB2.out.cell (i := 2) rfl
  go_wp2_with fail
  refine (markSillS_any g3 D.m D.m _ (1 + D.n + D.q) _ HS2.out h3 (by omega)).mono ?_
  rintro ex w3 ⟨rfl, hk3⟩
  have HK3 := hid (HK2.out.trans (hk3.wide (by omega) (Nat.le_refl _)))
  clear hk3 y2
  go_wp2
  go_ret
  exact ⟨rfl, HK3.out⟩
end Go.Proofs.Ytahbfifnpceoeaa
