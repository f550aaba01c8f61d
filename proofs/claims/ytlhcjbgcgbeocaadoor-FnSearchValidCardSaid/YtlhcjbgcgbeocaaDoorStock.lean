/- 'stocked': the search with a depot more, its depots in memory of the call's own. -/
import Derived.Test.YtlhcjbgcgbeocaaDoorLaw
import Derived.Test.YtlhcjbgcgbeocaaDoorDep2
import Derived.Deep.RegionHeld3
namespace Go.Proofs.YtlhcjbgcgbeocaaDoor
open Go.RowKit

/-- It returned the search with a depot at place k more. -/
def RetStock (P : Option Addr) (D : SrchD) (c k : Nat) (w : World) (e : Ending) (w' : World) : Prop :=
  ∃ Q' d', e = .returned (.agg #[.int .i64 D.s, .slice P D.m c, .slice Q' D.k d']) ∧ SrchAt w' P Q' (dpt D k) ∧ Below w.heap.size w w'

set_option maxRecDepth 20000 in
set_option maxHeartbeats 4000000 in
theorem stocked_any (P Q : Option Addr) (D : SrchD) (c d k : Nat) (w : World) (hx : SrchAt w P Q D) (hk7 : D.k ≤ 1048576) (hlt : k < D.k) :
    Calls Tryd.prog 30 #[.agg #[.int .i64 D.s, .slice P D.m c, .slice Q D.k d], .int .i64 k] w (RetStock P D c k w) := by
  have hk1 : 0 < D.k := by omega
  have hb0 := Joins.below_alloc2 w (.cells #[.int .i64 D.s, .slice P D.m c, .slice Q D.k d] 26) (.cells #[.int .i64 0, .slice none 0 0, .slice none 0 0] 26)
  have HW0 := hid hb0
  have HBX := hid ((Blk.new w 26 #[.int .i64 D.s, .slice P D.m c, .slice Q D.k d]).alloc (.cells #[.int .i64 0, .slice none 0 0, .slice none 0 0] 26))
  have HRS := hid (Blk.new (w.alloc (.cells #[.int .i64 D.s, .slice P D.m c, .slice Q D.k d] 26)) 26 #[.int .i64 0, .slice none 0 0, .slice none 0 0])
  rw [World.size_alloc] at HRS
  obtain ⟨bq, oq, rfl, hdq⟩ := (hx.below hb0).dep hk1
  go_enter Tryd.func30, Tryd.ntmps30
  go_wp2
  have hRl : w.heap.size ≤ ((w.alloc (.cells #[.int .i64 D.s, .slice P D.m c, .slice (some ⟨bq, oq, none⟩) D.k d] 26)).alloc (.cells #[.int .i64 0, .slice none 0 0, .slice none 0 0] 26)).heap.size := by simp; omega
  have hRs : ((w.alloc (.cells #[.int .i64 D.s, .slice P D.m c, .slice (some ⟨bq, oq, none⟩) D.k d] 26)).alloc (.cells #[.int .i64 0, .slice none 0 0, .slice none 0 0] 26)).heap.size = w.heap.size + 1 + 1 := by simp
  generalize (w.alloc (.cells #[.int .i64 D.s, .slice P D.m c, .slice (some ⟨bq, oq, none⟩) D.k d] 26)).alloc (.cells #[.int .i64 0, .slice none 0 0, .slice none 0 0] 26) = wr at *
  have hRw : w.heap.size ≤ w.heap.size + 1 := by omega
  have hR2 : w.heap.size + 1 < wr.heap.size := by omega
  clear hRs
  generalize w.heap.size + 1 = R at *
  have HDQ : Hid (∀ k, k < D.k → wr.cell? ⟨bq, oq + k, none⟩ = some (.bool (D.dep k))) := hdq
  clear hdq hb0
  have y0 := HBX.out.cell (i := 0) rfl
  have y1 := HBX.out.cell (i := 1) rfl
  have y2 := HBX.out.cell (i := 2) rfl
  obtain ⟨i0, hi, hz0, hz1, hz2⟩ := info_parts info4
  have HC : Hid (∀ W, Below wr.heap.size wr W → ∀ j u, ((List.range D.k).map fun j => Value.bool (D.dep j))[j]? = some u → W.cell? ((⟨bq, oq, none⟩ : Addr).add j) = some u) := fun W hW => bools_news (fun j hj => cell_below hW (HDQ.out j hj))
  have hne1 : w.heap.size ≠ wr.heap.size := by omega
  have hne2 : wr.heap.size ≠ w.heap.size := by omega
  have hne3 : w.heap.size ≠ wr.heap.size + 1 := by omega
  have hne4 : wr.heap.size + 1 ≠ w.heap.size := by omega
  go_region_held3 (fun v => v.cell? ⟨w.heap.size, 0, none⟩ = some (.int .i64 D.s) ∧ v.cell? ⟨w.heap.size, 1, none⟩ = some (.slice P D.m c) ∧ v.cell? ⟨w.heap.size, 2, none⟩ = some (.slice (some ⟨bq, oq, none⟩) D.k d)) (go_keep)
                (first | (refine step_append_grows rfl (.tmp 10) (.tmp 12) 24 rfl 4 i0 (.bool false) 1 1 Tryd.underlying24 hi hz0 hz1 hz2 rfl (by decide) _ 0 0 [] rfl (fun _ => ⟨rfl, rfl⟩) rfl (fun _ _ j u hu => by simp at hu) ⟨bq, oq, none⟩ D.k d _ rfl (by simp) (HC.out _ (by repeat (first | exact Below.refl _ _ | refine Below.drew ?_ | refine Below.alloc ?_ (by simp <;> omega) _))) bools_one (by omega) (by unfold maxLen; omega) (by omega) ?_; intro v' w' hown' hg'
                          obtain ⟨g, cap, rfl, hR, hcap, hgl⟩ := RowB.of_own hk1 (by simpa using hown')
                          have hR' := hid hR
                          have hgl' := hid hgl
                          have hb7' : Hid (Below wr.heap.size wr w') := Below.grown (by repeat (first | exact Below.refl _ _ | refine Below.drew ?_ | refine Below.alloc ?_ (by simp <;> omega) _)) hg' (by simp <;> omega) (fun k hk => by cases hk)
                          have c0 := cell_below hb7'.out y0
                          have c1 := cell_below hb7'.out y1
                          have c2 := cell_below hb7'.out y2
                          try (have nb' := hid (blk_grown_B (z := #[.int .i64 0, .slice none 0 0, .slice none 0 0]) hg'); have n0 := nb'.out.cell (i := 0) rfl; have n1 := nb'.out.cell (i := 1) rfl; have n2 := nb'.out.cell (i := 2) rfl; have z0 := nb'.out.frozen 0; have z1 := nb'.out.frozen 1; have z2 := nb'.out.frozen 2)
                          try (have nb' := hid (blk_grown_C (z := #[.int .i64 0, .slice none 0 0, .slice none 0 0]) hg'); have n0 := nb'.out.cell (i := 0) rfl; have n1 := nb'.out.cell (i := 1) rfl; have n2 := nb'.out.cell (i := 2) rfl; have z0 := nb'.out.frozen 0; have z1 := nb'.out.frozen 1; have z2 := nb'.out.frozen 2)
                          clear hR hgl hown' hg'))
  · have HN : Hid (Blk (w'.alloc (.cells #[.int .i64 D.s, .slice P D.m c, .slice (some ⟨g, 0, none⟩) D.k cap] 26)) w'.heap.size 26 #[.int .i64 D.s, .slice P D.m c, .slice (some ⟨g, 0, none⟩) D.k cap]) := Blk.new _ _ _
    have HRW := hid (hR'.out.alloc (.cells #[.int .i64 D.s, .slice P D.m c, .slice (some ⟨g, 0, none⟩) D.k cap] 26))
    have HB8 := hid (hb7'.out.alloc hb7'.out.size (.cells #[.int .i64 D.s, .slice P D.m c, .slice (some ⟨g, 0, none⟩) D.k cap] 26))
    have hgn : w'.heap.size ≠ g := by have := hR'.out.lt; omega
    have hgb : wr.heap.size ≤ g := by have := hgl'.out; (try simp at this); omega
    clear hR' hb7' hgl' c0 c1 c2 y0 y1 y2
    generalize w'.alloc (.cells #[.int .i64 D.s, .slice P D.m c, .slice (some ⟨g, 0, none⟩) D.k cap] 26) = v8 at HN HRW HB8 ⊢
    generalize w'.heap.size = nb at hgn HN ⊢
    have n0 := HN.out.cell (i := 0) rfl
    have n1 := HN.out.cell (i := 1) rfl
    have n2 := HN.out.cell (i := 2) rfl
    have r1 := HRW.out.cell hcap hlt
    have r2 := HRW.out.froz k
    have HRW2 := hid (HRW.out.set k true)
    have HN2 := hid (HN.out.far (p := ⟨g, k, none⟩) hgn (.bool true))
    have HB9 := hid (HB8.out.setCell (p := ⟨g, k, none⟩) hgb (.bool true))
    have m0 := HN2.out.cell (i := 0) rfl
    have m1 := HN2.out.cell (i := 1) rfl
    have m2 := HN2.out.cell (i := 2) rfl
    have HR9 := hid (HRS.out.below HB9.out)
    have z0 := HR9.out.cell (i := 0) rfl
    have z1 := HR9.out.cell (i := 1) rfl
    have z2 := HR9.out.cell (i := 2) rfl
    have zf0 := HR9.out.frozen 0
    have zf1 := HR9.out.frozen 1
    have zf2 := HR9.out.frozen 2
    have hkz : (k : Int) < (D.k : Int) := by omega
    have HRf := (((HR9.out.set_ 0 (.int .i64 D.s)).set_ 1 (.slice P D.m c)).set_ 2 (.slice (some ⟨g, 0, none⟩) D.k cap))
    have rr0 := HRf.cell (i := 0) rfl
    have rr1 := HRf.cell (i := 1) rfl
    have rr2 := HRf.cell (i := 2) rfl
    have hgR : g ≠ R := by omega
    have HRW3 := hid (((HRW2.out.far (p := ⟨R, 0, none⟩) hgR (.int .i64 D.s)).far (p := ⟨R, 1, none⟩) hgR (.slice P D.m c)).far (p := ⟨R, 2, none⟩) hgR (.slice (some ⟨g, 0, none⟩) D.k cap))
    have HBF := hid ((((HW0.out.trans (HB9.out.mono hRl)).setCell (p := ⟨R, 0, none⟩) hRw (.int .i64 D.s)).setCell (p := ⟨R, 1, none⟩) hRw (.slice P D.m c)).setCell (p := ⟨R, 2, none⟩) hRw (.slice (some ⟨g, 0, none⟩) D.k cap))
    clear HN HRW HB8 HN2 HRf HR9 HRW2 HB9
    go_wp2
    refine bodyPost_ret (v := .agg #[.int .i64 D.s, .slice P D.m c, .slice (some ⟨g, 0, none⟩) D.k cap]) (by simp [results, Tryd.results30, go_sem, rr0, rr1, rr2]) rfl ⟨_, _, rfl, ⟨(hx.below HBF.out).pas, HRW3.out.bools hcap⟩, HBF.out⟩
  · have HN : Hid (Blk (((w'.setCell ⟨(wr.heap.size + 1), 0, none⟩ (.int .i64 D.s)).setCell ⟨(wr.heap.size + 1), 1, none⟩ (.slice P D.m c)).setCell ⟨(wr.heap.size + 1), 2, none⟩ (.slice (some ⟨g, 0, none⟩) D.k cap)) ((wr.heap.size + 1)) 26 #[.int .i64 D.s, .slice P D.m c, .slice (some ⟨g, 0, none⟩) D.k cap]) := ((nb'.out.set_ 0 _).set_ 1 _).set_ 2 _
    have hgb0 := hgl'.out
    try simp at hgb0
    have hgn : (wr.heap.size + 1) ≠ g := by omega
    have HRW := hid (((hR'.out.far (p := ⟨(wr.heap.size + 1), 0, none⟩) hgn.symm (.int .i64 D.s)).far (p := ⟨(wr.heap.size + 1), 1, none⟩) hgn.symm (.slice P D.m c)).far (p := ⟨(wr.heap.size + 1), 2, none⟩) hgn.symm (.slice (some ⟨g, 0, none⟩) D.k cap))
    have hnb : wr.heap.size ≤ (wr.heap.size + 1) := by omega
    have HB8 := hid (((hb7'.out.setCell (p := ⟨(wr.heap.size + 1), 0, none⟩) hnb (.int .i64 D.s)).setCell (p := ⟨(wr.heap.size + 1), 1, none⟩) hnb (.slice P D.m c)).setCell (p := ⟨(wr.heap.size + 1), 2, none⟩) hnb (.slice (some ⟨g, 0, none⟩) D.k cap))
    have hgb : wr.heap.size ≤ g := by omega
    clear hgb0 hR' hb7' hgl' c0 c1 c2 y0 y1 y2 nb' n0 n1 n2 z0 z1 z2 hnb
    generalize ((w'.setCell ⟨(wr.heap.size + 1), 0, none⟩ (.int .i64 D.s)).setCell ⟨(wr.heap.size + 1), 1, none⟩ (.slice P D.m c)).setCell ⟨(wr.heap.size + 1), 2, none⟩ (.slice (some ⟨g, 0, none⟩) D.k cap) = v8 at HN HRW HB8 ⊢
    generalize (wr.heap.size + 1) = nb at hgn HN ⊢
    have n0 := HN.out.cell (i := 0) rfl
    have n1 := HN.out.cell (i := 1) rfl
    have n2 := HN.out.cell (i := 2) rfl
    have r1 := HRW.out.cell hcap hlt
    have r2 := HRW.out.froz k
    have HRW2 := hid (HRW.out.set k true)
    have HN2 := hid (HN.out.far (p := ⟨g, k, none⟩) hgn (.bool true))
    have HB9 := hid (HB8.out.setCell (p := ⟨g, k, none⟩) hgb (.bool true))
    have m0 := HN2.out.cell (i := 0) rfl
    have m1 := HN2.out.cell (i := 1) rfl
    have m2 := HN2.out.cell (i := 2) rfl
    have HR9 := hid (HRS.out.below HB9.out)
    have z0 := HR9.out.cell (i := 0) rfl
    have z1 := HR9.out.cell (i := 1) rfl
    have z2 := HR9.out.cell (i := 2) rfl
    have zf0 := HR9.out.frozen 0
    have zf1 := HR9.out.frozen 1
    have zf2 := HR9.out.frozen 2
    have hkz : (k : Int) < (D.k : Int) := by omega
    have HRf := (((HR9.out.set_ 0 (.int .i64 D.s)).set_ 1 (.slice P D.m c)).set_ 2 (.slice (some ⟨g, 0, none⟩) D.k cap))
    have rr0 := HRf.cell (i := 0) rfl
    have rr1 := HRf.cell (i := 1) rfl
    have rr2 := HRf.cell (i := 2) rfl
    have hgR : g ≠ R := by omega
    have HRW3 := hid (((HRW2.out.far (p := ⟨R, 0, none⟩) hgR (.int .i64 D.s)).far (p := ⟨R, 1, none⟩) hgR (.slice P D.m c)).far (p := ⟨R, 2, none⟩) hgR (.slice (some ⟨g, 0, none⟩) D.k cap))
    have HBF := hid ((((HW0.out.trans (HB9.out.mono hRl)).setCell (p := ⟨R, 0, none⟩) hRw (.int .i64 D.s)).setCell (p := ⟨R, 1, none⟩) hRw (.slice P D.m c)).setCell (p := ⟨R, 2, none⟩) hRw (.slice (some ⟨g, 0, none⟩) D.k cap))
    clear HN HRW HB8 HN2 HRf HR9 HRW2 HB9
    go_wp2
    refine bodyPost_ret (v := .agg #[.int .i64 D.s, .slice P D.m c, .slice (some ⟨g, 0, none⟩) D.k cap]) (by simp [results, Tryd.results30, go_sem, rr0, rr1, rr2]) rfl ⟨_, _, rfl, ⟨(hx.below HBF.out).pas, HRW3.out.bools hcap⟩, HBF.out⟩
  · have HN : Hid (Blk (((w'.setCell ⟨wr.heap.size, 0, none⟩ (.int .i64 D.s)).setCell ⟨wr.heap.size, 1, none⟩ (.slice P D.m c)).setCell ⟨wr.heap.size, 2, none⟩ (.slice (some ⟨g, 0, none⟩) D.k cap)) (wr.heap.size) 26 #[.int .i64 D.s, .slice P D.m c, .slice (some ⟨g, 0, none⟩) D.k cap]) := ((nb'.out.set_ 0 _).set_ 1 _).set_ 2 _
    have hgb0 := hgl'.out
    try simp at hgb0
    have hgn : wr.heap.size ≠ g := by omega
    have HRW := hid (((hR'.out.far (p := ⟨wr.heap.size, 0, none⟩) hgn.symm (.int .i64 D.s)).far (p := ⟨wr.heap.size, 1, none⟩) hgn.symm (.slice P D.m c)).far (p := ⟨wr.heap.size, 2, none⟩) hgn.symm (.slice (some ⟨g, 0, none⟩) D.k cap))
    have hnb : wr.heap.size ≤ wr.heap.size := by omega
    have HB8 := hid (((hb7'.out.setCell (p := ⟨wr.heap.size, 0, none⟩) hnb (.int .i64 D.s)).setCell (p := ⟨wr.heap.size, 1, none⟩) hnb (.slice P D.m c)).setCell (p := ⟨wr.heap.size, 2, none⟩) hnb (.slice (some ⟨g, 0, none⟩) D.k cap))
    have hgb : wr.heap.size ≤ g := by omega
    clear hgb0 hR' hb7' hgl' c0 c1 c2 y0 y1 y2 nb' n0 n1 n2 z0 z1 z2 hnb
    generalize ((w'.setCell ⟨wr.heap.size, 0, none⟩ (.int .i64 D.s)).setCell ⟨wr.heap.size, 1, none⟩ (.slice P D.m c)).setCell ⟨wr.heap.size, 2, none⟩ (.slice (some ⟨g, 0, none⟩) D.k cap) = v8 at HN HRW HB8 ⊢
    generalize wr.heap.size = nb at hgn HN ⊢
    have n0 := HN.out.cell (i := 0) rfl
    have n1 := HN.out.cell (i := 1) rfl
    have n2 := HN.out.cell (i := 2) rfl
    have r1 := HRW.out.cell hcap hlt
    have r2 := HRW.out.froz k
    have HRW2 := hid (HRW.out.set k true)
    have HN2 := hid (HN.out.far (p := ⟨g, k, none⟩) hgn (.bool true))
    have HB9 := hid (HB8.out.setCell (p := ⟨g, k, none⟩) hgb (.bool true))
    have m0 := HN2.out.cell (i := 0) rfl
    have m1 := HN2.out.cell (i := 1) rfl
    have m2 := HN2.out.cell (i := 2) rfl
    have HR9 := hid (HRS.out.below HB9.out)
    have z0 := HR9.out.cell (i := 0) rfl
    have z1 := HR9.out.cell (i := 1) rfl
    have z2 := HR9.out.cell (i := 2) rfl
    have zf0 := HR9.out.frozen 0
    have zf1 := HR9.out.frozen 1
    have zf2 := HR9.out.frozen 2
    have hkz : (k : Int) < (D.k : Int) := by omega
    have HRf := (((HR9.out.set_ 0 (.int .i64 D.s)).set_ 1 (.slice P D.m c)).set_ 2 (.slice (some ⟨g, 0, none⟩) D.k cap))
    have rr0 := HRf.cell (i := 0) rfl
    have rr1 := HRf.cell (i := 1) rfl
    have rr2 := HRf.cell (i := 2) rfl
    have hgR : g ≠ R := by omega
    have HRW3 := hid (((HRW2.out.far (p := ⟨R, 0, none⟩) hgR (.int .i64 D.s)).far (p := ⟨R, 1, none⟩) hgR (.slice P D.m c)).far (p := ⟨R, 2, none⟩) hgR (.slice (some ⟨g, 0, none⟩) D.k cap))
    have HBF := hid ((((HW0.out.trans (HB9.out.mono hRl)).setCell (p := ⟨R, 0, none⟩) hRw (.int .i64 D.s)).setCell (p := ⟨R, 1, none⟩) hRw (.slice P D.m c)).setCell (p := ⟨R, 2, none⟩) hRw (.slice (some ⟨g, 0, none⟩) D.k cap))
    clear HN HRW HB8 HN2 HRf HR9 HRW2 HB9
    go_wp2
    refine bodyPost_ret (v := .agg #[.int .i64 D.s, .slice P D.m c, .slice (some ⟨g, 0, none⟩) D.k cap]) (by simp [results, Tryd.results30, go_sem, rr0, rr1, rr2]) rfl ⟨_, _, rfl, ⟨(hx.below HBF.out).pas, HRW3.out.bools hcap⟩, HBF.out⟩
end Go.Proofs.YtlhcjbgcgbeocaaDoor
