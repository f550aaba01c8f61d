/- The reference's rounds over depots. No condition but that the search is valid. -/
import Derived.Test.YtlhcjbgcgbeocaaDoorHop
namespace Go.Proofs.YtlhcjbgcgbeocaaDoor
open Go.RowKit

theorem Row.far {w : World} {g cap n : Nat} {x : Nat → Int} (h : Row w g cap n x) {p : Addr} (hp : g ≠ p.block) (u : Value) : Row (w.setCell p u) g cap n x := by
  obtain ⟨f, h1, h2⟩ := h
  exact ⟨f, h1.setOther hp u, h2⟩

/-- Before pair (a, b) in round k, with a bound. -/
def GBx (D : SrchD) (br : Int) (gl k a b : Nat) (left : Nat → Int) : Prop := ∃ hi : Int, hi ≤ 60 * (k * 49 + a * 7 + b) ∧ GB (RB D br gl) D.k gl k a b left hi
section
variable {D : SrchD} {br : Int} {gl k a b : Nat} {left : Nat → Int}
theorem GBx.start (hg : gl < D.k) : GBx D br gl 0 0 0 (fun v => if v = gl then 0 else -1) := ⟨0, by omega, GB.start hg⟩
theorem GBx.row (h7 : D.k ≤ 7) (h : GBx D br gl k a D.k left) : GBx D br gl k (a + 1) 0 left := by
  obtain ⟨hi, h1, h2⟩ := h
  exact ⟨hi, by omega, h2.row⟩
theorem GBx.next (h7 : D.k ≤ 7) (h : GBx D br gl k D.k 0 left) : GBx D br gl (k + 1) 0 0 left := by
  obtain ⟨hi, h1, h2⟩ := h
  exact ⟨hi, by omega, h2.next (RB.ok D br gl)⟩
theorem GBx.dist (hg : gl < D.k) (h : GBx D br gl D.k 0 0 left) {v : Nat} (hv : v < D.k) : GDist (RB D br gl) gl v (left v) := by
  obtain ⟨hi, h1, h2⟩ := h
  exact h2.dist (RB.ok D br gl) hg hv
def Helps (D : SrchD) (br : Int) (gl a b : Nat) (left : Nat → Int) (f : Int) : Prop := ((b = gl ∨ D.dep b = true) ∧ 0 ≤ f ∧ f ≤ br ∧ 0 ≤ left b) ∧ (left a < 0 ∨ f + left b < left a)
theorem GBx.keep (h : GBx D br gl k a b left) (hb : b < D.k) {f : Int} (hD : Dist D a b f) (hno : ¬ Helps D br gl a b left f) : GBx D br gl k a (b + 1) left := by
  obtain ⟨hi, h1, h2⟩ := h
  refine ⟨hi, by omega, h2.keep hb fun t hr h0 => ?_⟩
  obtain ⟨⟨_, h3, h4, h5⟩, h6⟩ := hr
  obtain rfl := h3.uniq hD
  have h8 : ¬ (left a < 0 ∨ t + left b < left a) := fun h => hno ⟨⟨h6, h4, h5, h0⟩, h⟩
  omega
theorem GBx.set (h60 : br ≤ 60) (h : GBx D br gl k a b left) (ha : a < D.k) (hb : b < D.k) {f : Int} (hD : Dist D a b f) (hy : Helps D br gl a b left f) : GBx D br gl k a (b + 1) (fun v => if v = a then f + left b else left v) := by
  obtain ⟨hi, h1, h2⟩ := h
  obtain ⟨⟨h3, h4, h5, h6⟩, h7⟩ := hy
  exact ⟨hi + 60, by omega, h2.set (RB.ok D br gl) hb (w := f) ⟨⟨⟨ha, hb⟩, hD, h4, h5⟩, h3⟩ h4 (fun t hr => by rw [hr.1.2.1.uniq hD]; omega) h6 h7 (by omega) (by omega)⟩
theorem GBx.sum (h60 : br ≤ 60) (h : GBx D br gl k a b left) (hk : k ≤ 7) (ha : a ≤ 7) (hb : b ≤ 7) {f : Int} (h0 : 0 ≤ f) (hf : f ≤ br) : wrap64 (f + left b) = f + left b := by
  obtain ⟨hi, h1, h2⟩ := h
  have := h2.lo b
  have := h2.top b
  unfold wrap64
  omega
end

set_option maxRecDepth 20000 in
set_option maxHeartbeats 8000000 in
theorem l5Hops_any (P Q : Option Addr) (D : SrchD) (c d : Nat) (br : Int) (gl : Nat) (w : World) (hx : SrchAt w P Q D) (hok : SrchOk D) (h60 : br ≤ 60) (hgl : gl < D.k) :
    Calls Tryd.prog 60 #[.agg #[.int .i64 D.s, .slice P D.m c, .slice Q D.k d], .int .i64 br, .int .i64 gl] w (RetFar D.k (fun x => ∀ v, v < D.k → GDist (RB D br gl) gl v (x v)) w) := by
  have hsk := hok.2.2.1
  have hk7 : D.k ≤ 7 := by have := hok.1.2; omega
  have hm10 := hok.2.1
  have HS : Hid (D.s = (D.k : Int)) := hsk.symm
  rw [← hsk]
  have HOK := hid hok
  have HX := hid hx
  clear hsk hok hx
  have hB := Blk.new w 26 #[.int .i64 D.k, .slice P D.m c, .slice Q D.k d]
  have hw1 := below_alloc1 w (.cells #[.int .i64 D.k, .slice P D.m c, .slice Q D.k d] 26)
  go_enter Tryd.func60, Tryd.ntmps60
  go_wp2
  have HBB := hid hB
  have HW1 := hid hw1
  clear hB hw1
  go_loopw [7, 8] (fun v i wr => ∃ k : Nat, k ≤ D.k ∧ i = .int .i64 k ∧ OwnL wr (w.heap.size + 1) v (List.replicate k (-1)) ∧ Hid (Below (w.heap.size + 1) (w.alloc (.cells #[.int .i64 D.k, .slice P D.m c, .slice Q D.k d] 26)) wr)) (fun _ i _ => D.k - (intOf i).toNat)
  case atStart => exact ⟨0, by omega, rfl, (by simpa using OwnL.lit0 (B := w.heap.size + 1) (w.alloc (.cells #[.int .i64 D.k, .slice P D.m c, .slice Q D.k d] 26)) (by simp) #[] rfl), hid ((Below.refl (w.heap.size + 1) _).alloc (by simp) _)⟩
  case round =>
    obtain ⟨k, hk, rfl, hown, HBL⟩ := hrel
    have hbs : Blk wr w.heap.size 26 #[.int .i64 D.k, .slice P D.m c, .slice Q D.k d] := HBB.out.below (HBL.out.mono (by simp))
    have y0 := hbs.cell (i := 0) rfl
    clear hbs
    by_cases hlt : k < D.k
    · have hltz : (k : Int) < (D.k : Int) := by omega
      have hsz : w.heap.size + 1 ≤ wr.heap.size := by have := HBL.out.size; simp at this; omega
      go_wp2_with (at_builtin; refine app_int rfl _ _ rfl (w.heap.size + 1) _ _ rfl (hown.alloc _) wr.heap.size (-1) rfl (by simp) (by simp; omega) (by simp; omega) ?_)
      intro v' w' hown' hb'
      have HB2 := hid (hb' _ (HBL.out.alloc hsz _))
      clear hb' hown
      go_wp2
      go_roundw
      case rel => exact ⟨k + 1, by omega, by go_num, by rw [List.replicate_succ']; exact hown', HB2⟩
      case measure => simp [intOf] <;> omega
    · have : k = D.k := by omega
      subst this
      obtain ⟨A, cc, hv, hm⟩ := hown.mut
      rw [List.length_replicate] at hv hm
      subst hv
      obtain ⟨g, cap, f, rfl, hg1, hg2, hcap, hrow, hf⟩ := hm (by omega)
      have hR : Row wr g cap D.k (fun _ => -1) := ⟨f, hrow, fun j hj => by
        rw [hf j hj]
        show Value.int .i64 ((List.replicate D.k (-1 : Int)).getD j 0) = .int .i64 (-1)
        rw [List.getD_eq_getElem?_getD, List.getElem?_replicate, if_pos hj]; rfl⟩
      have HR := hid hR
      have z1 := hR.froz gl
      have z2 := hR.cell hcap hgl
      have hglz : (gl : Int) < (D.k : Int) := by omega
      clear hR hrow hf hm hown
      go_wp2
      have HR0 := hid ((HR.out.set gl 0).congr (y := fun v => if v = gl then 0 else -1) (fun _ _ => rfl))
      have HB0 := hid (HBL.out.setCell (p := ⟨g, gl, none⟩) hg1 (.int .i64 0))
      clear HR HBL z1 z2 y0
      go_loopw [9] (fun i wr => ∃ n : Nat, ∃ left, n ≤ D.k ∧ i = .int .i64 n ∧ Hid (Row wr g cap D.k left) ∧ Hid (GBx D br gl n 0 0 left) ∧ Hid (Below (w.heap.size + 1) (w.alloc (.cells #[.int .i64 D.k, .slice P D.m c, .slice Q D.k d] 26)) wr)) (fun i _ => D.k - (intOf i).toNat)
      case atStart => exact ⟨0, _, by omega, rfl, HR0, GBx.start hgl, HB0⟩
      case round =>
        clear HR0 HB0
        obtain ⟨n, left, hn, rfl, HR, HG, HB⟩ := hrel
        have hbs : Blk wr w.heap.size 26 #[.int .i64 D.k, .slice P D.m c, .slice Q D.k d] := HBB.out.below (HB.out.mono (by simp))
        have y0 := hbs.cell (i := 0) rfl
        clear hbs
        by_cases hlt : n < D.k
        · have hltz : (n : Int) < (D.k : Int) := by omega
          go_wp2
          go_loopw [10] (fun i wr => ∃ a : Nat, ∃ left, a ≤ D.k ∧ i = .int .i64 a ∧ Hid (Row wr g cap D.k left) ∧ Hid (GBx D br gl n a 0 left) ∧ Hid (Below (w.heap.size + 1) (w.alloc (.cells #[.int .i64 D.k, .slice P D.m c, .slice Q D.k d] 26)) wr)) (fun i _ => D.k - (intOf i).toNat)
          case atStart => exact ⟨0, _, by omega, rfl, HR, HG, HB⟩
          case round =>
            clear HR HG HB y0
            obtain ⟨a, left, ha, rfl, HR, HG, HB⟩ := hrel
            have hbs : Blk wr w.heap.size 26 #[.int .i64 D.k, .slice P D.m c, .slice Q D.k d] := HBB.out.below (HB.out.mono (by simp))
            have y0 := hbs.cell (i := 0) rfl
            have y1 := hbs.cell (i := 1) rfl
            have y2 := hbs.cell (i := 2) rfl
            clear hbs
            by_cases hla : a < D.k
            · have hlaz : (a : Int) < (D.k : Int) := by omega
              have hB2 : Below w.heap.size w wr := HW1.out.trans (HB.out.mono (by omega))
              have hfar := l5Far_any P Q D c d a wr (HX.out.below hB2) HOK.out hla
              rw [HS.out] at hfar
              have HFAR := hid hfar
              clear hfar hB2
              go_wp2_with fail
              refine HFAR.out.mono ?_
              rintro e w2 ⟨gf, capf, cf, far, rfl, hRf, hcapf, hDf, hgf, hb2⟩
              have hsz0 : w.heap.size + 1 ≤ wr.heap.size := by have := HB.out.size; simp at this; omega
              have hgw : g < wr.heap.size := HR.out.lt
              have HRR := hid (HR.out.below hb2)
              have HBR := hid (HB.out.trans (hb2.mono hsz0))
              have HFR := hid hRf
              have HDF := hid hDf
              clear HFAR y0 y1 y2 hRf hDf hb2 HR HB
              go_wp2
              go_loopw [12] (fun i wr => ∃ b : Nat, ∃ left, b ≤ D.k ∧ i = .int .i64 b ∧ Hid (Row wr g cap D.k left) ∧ Hid (Row wr gf capf D.k far) ∧ Hid (GBx D br gl n a b left) ∧ Hid (Below (w.heap.size + 1) (w.alloc (.cells #[.int .i64 D.k, .slice P D.m c, .slice Q D.k d] 26)) wr)) (fun i _ => D.k - (intOf i).toNat)
              case atStart => exact ⟨0, _, by omega, rfl, HRR, HFR, HG, HBR⟩
              case round =>
                clear HRR HFR HG HBR
                obtain ⟨b, left, hb, rfl, HR, HFR, HG, HB⟩ := hrel
                have hbs : Blk wr w.heap.size 26 #[.int .i64 D.k, .slice P D.m c, .slice Q D.k d] := HBB.out.below (HB.out.mono (by simp))
                have y0 := hbs.cell (i := 0) rfl
                have y2 := hbs.cell (i := 2) rfl
                clear hbs
                by_cases hlb : b < D.k
                · have hlbz : (b : Int) < (D.k : Int) := by omega
                  have hsz : w.heap.size + 1 ≤ wr.heap.size := by have := HB.out.size; simp at this; omega
                  have hB2 : Below w.heap.size w wr := HW1.out.trans (HB.out.mono (by omega))
                  obtain ⟨bq, oq, rfl, hq⟩ := (HX.out.below hB2).dep (by omega)
                  have q1 : wr.cell? ⟨bq, oq + b, none⟩ = some (.bool (D.dep b)) := hq b hlb
                  have HDS := hid (HDF.out b hlb)
                  have s1 := sub_cell (HR.out.cell hcap hlb)
                  have s2 := sub_cell (HR.out.cell hcap hla)
                  have s3 := sub_cell (HFR.out.cell hcapf hlb)
                  have s4 := sub_cell y0
                  have s5 := sub_cell y2
                  have s6 := sub_cell q1
                  clear hq q1 hB2
                  by_cases hbg : b = gl
                  · have c1 : ((b : Int) == (gl : Int)) = true := by simp [hbg]
                    have HOR : Hid (b = gl ∨ D.dep b = true) := .inl hbg
                    clear hbg
                    by_cases h1 : 0 ≤ far b
                    · have e1 : decide (0 ≤ far b) = true := decide_eq_true h1
                      by_cases h2 : far b ≤ br
                      · have e2 : decide (far b ≤ br) = true := decide_eq_true h2
                        by_cases h3 : 0 ≤ left b
                        · have e3 : decide (0 ≤ left b) = true := decide_eq_true h3
                          have hsum : wrap64 (far b + left b) = far b + left b := HG.out.sum h60 (by omega) (by omega) (by omega) h1 h2
                          by_cases h4 : left a < 0
                          · have e4 : decide (left a < 0) = true := decide_eq_true h4
                            have HY : Hid (Helps D br gl a b left (far b)) := ⟨⟨HOR.out, h1, h2, h3⟩, .inl h4⟩
                            go_wp2
                            refine wp_region_sub (by kernel_rfl) (by kernel_rfl) ?_
                            repeat (go_big_quiet_step ((fail)))
                            refine wpQuiet_nil ?_
                            intro _ hw'
                            obtain ⟨s, hw''⟩ := hw'
                            subst hw''
                            have hsv := s.h
                            generalize s.val = v at hsv ⊢
                            clear s1 s2 s3 s4 s5 s6
                            have hRv := HR.out.below hsv
                            have hFv := HFR.out.below hsv
                            have s1 := hRv.cell hcap hlb
                            have s2 := hFv.cell hcapf hlb
                            have s3 := hRv.froz a
                            have s4 := hRv.cell hcap hla
                            have HRU := hid (hRv.set a (far b + left b)).drew
                            have HFU : Hid (Row (v.setCell ⟨g, a, none⟩ (.int .i64 (far b + left b))).drew gf capf D.k far) := (hFv.far (p := ⟨g, a, none⟩) (by show gf ≠ g; omega) _).drew
                            have HLU := hid ((HB.out.trans (hsv.mono hsz)).setCell (p := ⟨g, a, none⟩) hg1 (.int .i64 (far b + left b))).drew
                            clear hRv hFv hsv
                            go_wp2
                            go_region
                            go_wp2
                            go_roundw
                            case rel => exact ⟨b + 1, _, by omega, by go_num, HRU, HFU, hid (HG.out.set h60 hla hlb HDS.out HY.out), HLU⟩
                            case measure => simp [intOf] <;> omega
                          · have e4 : decide (left a < 0) = false := decide_eq_false h4
                            by_cases h5 : far b + left b < left a
                            · have e5 : decide (far b + left b < left a) = true := decide_eq_true h5
                              have HY : Hid (Helps D br gl a b left (far b)) := ⟨⟨HOR.out, h1, h2, h3⟩, .inr h5⟩
                              go_wp2
                              refine wp_region_sub (by kernel_rfl) (by kernel_rfl) ?_
                              repeat (go_big_quiet_step ((fail)))
                              refine wpQuiet_nil ?_
                              intro _ hw'
                              obtain ⟨s, hw''⟩ := hw'
                              subst hw''
                              have hsv := s.h
                              generalize s.val = v at hsv ⊢
                              clear s1 s2 s3 s4 s5 s6
                              have hRv := HR.out.below hsv
                              have hFv := HFR.out.below hsv
                              have s1 := hRv.cell hcap hlb
                              have s2 := hFv.cell hcapf hlb
                              have s3 := hRv.froz a
                              have s4 := hRv.cell hcap hla
                              have HRU := hid (hRv.set a (far b + left b)).drew
                              have HFU : Hid (Row (v.setCell ⟨g, a, none⟩ (.int .i64 (far b + left b))).drew gf capf D.k far) := (hFv.far (p := ⟨g, a, none⟩) (by show gf ≠ g; omega) _).drew
                              have HLU := hid ((HB.out.trans (hsv.mono hsz)).setCell (p := ⟨g, a, none⟩) hg1 (.int .i64 (far b + left b))).drew
                              clear hRv hFv hsv
                              go_wp2
                              go_region
                              go_wp2
                              go_roundw
                              case rel => exact ⟨b + 1, _, by omega, by go_num, HRU, HFU, hid (HG.out.set h60 hla hlb HDS.out HY.out), HLU⟩
                              case measure => simp [intOf] <;> omega
                            · have e5 : decide (far b + left b < left a) = false := decide_eq_false h5
                              have HNO : Hid (¬ Helps D br gl a b left (far b)) := fun h => h.2.elim h4 h5
                              go_wp2
                              refine wp_region_sub (by kernel_rfl) (by kernel_rfl) ?_
                              repeat (go_big_quiet_step ((fail)))
                              refine wpQuiet_nil ?_
                              intro _ hw'
                              obtain ⟨s, hw''⟩ := hw'
                              subst hw''
                              have hsv := s.h
                              generalize s.val = v at hsv ⊢
                              clear s1 s2 s3 s4 s5 s6
                              go_wp2
                              go_roundw
                              case rel => exact ⟨b + 1, _, by omega, by go_num, hid (HR.out.below hsv), hid (HFR.out.below hsv), hid (HG.out.keep hlb HDS.out HNO.out), hid (HB.out.trans (hsv.mono hsz))⟩
                              case measure => simp [intOf] <;> omega
                        · have e3 : decide (0 ≤ left b) = false := decide_eq_false h3
                          have HNO : Hid (¬ Helps D br gl a b left (far b)) := fun h => h3 h.1.2.2.2
                          go_wp2
                          refine wp_region_sub (by kernel_rfl) (by kernel_rfl) ?_
                          repeat (go_big_quiet_step ((fail)))
                          refine wpQuiet_nil ?_
                          intro _ hw'
                          obtain ⟨s, hw''⟩ := hw'
                          subst hw''
                          have hsv := s.h
                          generalize s.val = v at hsv ⊢
                          clear s1 s2 s3 s4 s5 s6
                          go_wp2
                          go_roundw
                          case rel => exact ⟨b + 1, _, by omega, by go_num, hid (HR.out.below hsv), hid (HFR.out.below hsv), hid (HG.out.keep hlb HDS.out HNO.out), hid (HB.out.trans (hsv.mono hsz))⟩
                          case measure => simp [intOf] <;> omega
                      · have e2 : decide (far b ≤ br) = false := decide_eq_false h2
                        have HNO : Hid (¬ Helps D br gl a b left (far b)) := fun h => h2 h.1.2.2.1
                        go_wp2
                        refine wp_region_sub (by kernel_rfl) (by kernel_rfl) ?_
                        repeat (go_big_quiet_step ((fail)))
                        refine wpQuiet_nil ?_
                        intro _ hw'
                        obtain ⟨s, hw''⟩ := hw'
                        subst hw''
                        have hsv := s.h
                        generalize s.val = v at hsv ⊢
                        clear s1 s2 s3 s4 s5 s6
                        go_wp2
                        go_roundw
                        case rel => exact ⟨b + 1, _, by omega, by go_num, hid (HR.out.below hsv), hid (HFR.out.below hsv), hid (HG.out.keep hlb HDS.out HNO.out), hid (HB.out.trans (hsv.mono hsz))⟩
                        case measure => simp [intOf] <;> omega
                    · have e1 : decide (0 ≤ far b) = false := decide_eq_false h1
                      have HNO : Hid (¬ Helps D br gl a b left (far b)) := fun h => h1 h.1.2.1
                      go_wp2
                      refine wp_region_sub (by kernel_rfl) (by kernel_rfl) ?_
                      repeat (go_big_quiet_step ((fail)))
                      refine wpQuiet_nil ?_
                      intro _ hw'
                      obtain ⟨s, hw''⟩ := hw'
                      subst hw''
                      have hsv := s.h
                      generalize s.val = v at hsv ⊢
                      clear s1 s2 s3 s4 s5 s6
                      go_wp2
                      go_roundw
                      case rel => exact ⟨b + 1, _, by omega, by go_num, hid (HR.out.below hsv), hid (HFR.out.below hsv), hid (HG.out.keep hlb HDS.out HNO.out), hid (HB.out.trans (hsv.mono hsz))⟩
                      case measure => simp [intOf] <;> omega
                  · have c1 : ((b : Int) == (gl : Int)) = false := by simp; omega
                    rcases (Bool.eq_false_or_eq_true (D.dep b)).symm with c2 | c2
                    · have HNO : Hid (¬ Helps D br gl a b left (far b)) := fun h => h.1.1.elim hbg (fun e => by rw [c2] at e; cases e)
                      clear hbg
                      go_wp2
                      refine wp_region_sub (by kernel_rfl) (by kernel_rfl) ?_
                      repeat (go_big_quiet_step ((fail)))
                      refine wpQuiet_nil ?_
                      intro _ hw'
                      obtain ⟨s, hw''⟩ := hw'
                      subst hw''
                      have hsv := s.h
                      generalize s.val = v at hsv ⊢
                      clear s1 s2 s3 s4 s5 s6
                      go_wp2
                      go_roundw
                      case rel => exact ⟨b + 1, _, by omega, by go_num, hid (HR.out.below hsv), hid (HFR.out.below hsv), hid (HG.out.keep hlb HDS.out HNO.out), hid (HB.out.trans (hsv.mono hsz))⟩
                      case measure => simp [intOf] <;> omega
                    · have HOR : Hid (b = gl ∨ D.dep b = true) := .inr c2
                      clear hbg
                      by_cases h1 : 0 ≤ far b
                      · have e1 : decide (0 ≤ far b) = true := decide_eq_true h1
                        by_cases h2 : far b ≤ br
                        · have e2 : decide (far b ≤ br) = true := decide_eq_true h2
                          by_cases h3 : 0 ≤ left b
                          · have e3 : decide (0 ≤ left b) = true := decide_eq_true h3
                            have hsum : wrap64 (far b + left b) = far b + left b := HG.out.sum h60 (by omega) (by omega) (by omega) h1 h2
                            by_cases h4 : left a < 0
                            · have e4 : decide (left a < 0) = true := decide_eq_true h4
                              have HY : Hid (Helps D br gl a b left (far b)) := ⟨⟨HOR.out, h1, h2, h3⟩, .inl h4⟩
                              go_wp2
                              refine wp_region_sub (by kernel_rfl) (by kernel_rfl) ?_
                              repeat (go_big_quiet_step ((fail)))
                              refine wpQuiet_nil ?_
                              intro _ hw'
                              obtain ⟨s, hw''⟩ := hw'
                              subst hw''
                              have hsv := s.h
                              generalize s.val = v at hsv ⊢
                              clear s1 s2 s3 s4 s5 s6
                              have hRv := HR.out.below hsv
                              have hFv := HFR.out.below hsv
                              have s1 := hRv.cell hcap hlb
                              have s2 := hFv.cell hcapf hlb
                              have s3 := hRv.froz a
                              have s4 := hRv.cell hcap hla
                              have HRU := hid (hRv.set a (far b + left b)).drew
                              have HFU : Hid (Row (v.setCell ⟨g, a, none⟩ (.int .i64 (far b + left b))).drew gf capf D.k far) := (hFv.far (p := ⟨g, a, none⟩) (by show gf ≠ g; omega) _).drew
                              have HLU := hid ((HB.out.trans (hsv.mono hsz)).setCell (p := ⟨g, a, none⟩) hg1 (.int .i64 (far b + left b))).drew
                              clear hRv hFv hsv
                              go_wp2
                              go_region
                              go_wp2
                              go_roundw
                              case rel => exact ⟨b + 1, _, by omega, by go_num, HRU, HFU, hid (HG.out.set h60 hla hlb HDS.out HY.out), HLU⟩
                              case measure => simp [intOf] <;> omega
                            · have e4 : decide (left a < 0) = false := decide_eq_false h4
                              by_cases h5 : far b + left b < left a
                              · have e5 : decide (far b + left b < left a) = true := decide_eq_true h5
                                have HY : Hid (Helps D br gl a b left (far b)) := ⟨⟨HOR.out, h1, h2, h3⟩, .inr h5⟩
                                go_wp2
                                refine wp_region_sub (by kernel_rfl) (by kernel_rfl) ?_
                                repeat (go_big_quiet_step ((fail)))
                                refine wpQuiet_nil ?_
                                intro _ hw'
                                obtain ⟨s, hw''⟩ := hw'
                                subst hw''
                                have hsv := s.h
                                generalize s.val = v at hsv ⊢
                                clear s1 s2 s3 s4 s5 s6
                                have hRv := HR.out.below hsv
                                have hFv := HFR.out.below hsv
                                have s1 := hRv.cell hcap hlb
                                have s2 := hFv.cell hcapf hlb
                                have s3 := hRv.froz a
                                have s4 := hRv.cell hcap hla
                                have HRU := hid (hRv.set a (far b + left b)).drew
                                have HFU : Hid (Row (v.setCell ⟨g, a, none⟩ (.int .i64 (far b + left b))).drew gf capf D.k far) := (hFv.far (p := ⟨g, a, none⟩) (by show gf ≠ g; omega) _).drew
                                have HLU := hid ((HB.out.trans (hsv.mono hsz)).setCell (p := ⟨g, a, none⟩) hg1 (.int .i64 (far b + left b))).drew
                                clear hRv hFv hsv
                                go_wp2
                                go_region
                                go_wp2
                                go_roundw
                                case rel => exact ⟨b + 1, _, by omega, by go_num, HRU, HFU, hid (HG.out.set h60 hla hlb HDS.out HY.out), HLU⟩
                                case measure => simp [intOf] <;> omega
                              · have e5 : decide (far b + left b < left a) = false := decide_eq_false h5
                                have HNO : Hid (¬ Helps D br gl a b left (far b)) := fun h => h.2.elim h4 h5
                                go_wp2
                                refine wp_region_sub (by kernel_rfl) (by kernel_rfl) ?_
                                repeat (go_big_quiet_step ((fail)))
                                refine wpQuiet_nil ?_
                                intro _ hw'
                                obtain ⟨s, hw''⟩ := hw'
                                subst hw''
                                have hsv := s.h
                                generalize s.val = v at hsv ⊢
                                clear s1 s2 s3 s4 s5 s6
                                go_wp2
                                go_roundw
                                case rel => exact ⟨b + 1, _, by omega, by go_num, hid (HR.out.below hsv), hid (HFR.out.below hsv), hid (HG.out.keep hlb HDS.out HNO.out), hid (HB.out.trans (hsv.mono hsz))⟩
                                case measure => simp [intOf] <;> omega
                          · have e3 : decide (0 ≤ left b) = false := decide_eq_false h3
                            have HNO : Hid (¬ Helps D br gl a b left (far b)) := fun h => h3 h.1.2.2.2
                            go_wp2
                            refine wp_region_sub (by kernel_rfl) (by kernel_rfl) ?_
                            repeat (go_big_quiet_step ((fail)))
                            refine wpQuiet_nil ?_
                            intro _ hw'
                            obtain ⟨s, hw''⟩ := hw'
                            subst hw''
                            have hsv := s.h
                            generalize s.val = v at hsv ⊢
                            clear s1 s2 s3 s4 s5 s6
                            go_wp2
                            go_roundw
                            case rel => exact ⟨b + 1, _, by omega, by go_num, hid (HR.out.below hsv), hid (HFR.out.below hsv), hid (HG.out.keep hlb HDS.out HNO.out), hid (HB.out.trans (hsv.mono hsz))⟩
                            case measure => simp [intOf] <;> omega
                        · have e2 : decide (far b ≤ br) = false := decide_eq_false h2
                          have HNO : Hid (¬ Helps D br gl a b left (far b)) := fun h => h2 h.1.2.2.1
                          go_wp2
                          refine wp_region_sub (by kernel_rfl) (by kernel_rfl) ?_
                          repeat (go_big_quiet_step ((fail)))
                          refine wpQuiet_nil ?_
                          intro _ hw'
                          obtain ⟨s, hw''⟩ := hw'
                          subst hw''
                          have hsv := s.h
                          generalize s.val = v at hsv ⊢
                          clear s1 s2 s3 s4 s5 s6
                          go_wp2
                          go_roundw
                          case rel => exact ⟨b + 1, _, by omega, by go_num, hid (HR.out.below hsv), hid (HFR.out.below hsv), hid (HG.out.keep hlb HDS.out HNO.out), hid (HB.out.trans (hsv.mono hsz))⟩
                          case measure => simp [intOf] <;> omega
                      · have e1 : decide (0 ≤ far b) = false := decide_eq_false h1
                        have HNO : Hid (¬ Helps D br gl a b left (far b)) := fun h => h1 h.1.2.1
                        go_wp2
                        refine wp_region_sub (by kernel_rfl) (by kernel_rfl) ?_
                        repeat (go_big_quiet_step ((fail)))
                        refine wpQuiet_nil ?_
                        intro _ hw'
                        obtain ⟨s, hw''⟩ := hw'
                        subst hw''
                        have hsv := s.h
                        generalize s.val = v at hsv ⊢
                        clear s1 s2 s3 s4 s5 s6
                        go_wp2
                        go_roundw
                        case rel => exact ⟨b + 1, _, by omega, by go_num, hid (HR.out.below hsv), hid (HFR.out.below hsv), hid (HG.out.keep hlb HDS.out HNO.out), hid (HB.out.trans (hsv.mono hsz))⟩
                        case measure => simp [intOf] <;> omega
                · have : b = D.k := by omega
                  subst this
                  go_wp2
                  go_roundw
                  case rel => exact ⟨a + 1, _, by omega, by go_num, HR, hid (HG.out.row hk7), HB⟩
                  case measure => simp [intOf] <;> omega
            · have : a = D.k := by omega
              subst this
              go_wp2
              go_roundw
              case rel => exact ⟨n + 1, _, by omega, by go_num, HR, hid (HG.out.next hk7), HB⟩
              case measure => simp [intOf] <;> omega
        · have : n = D.k := by omega
          subst this
          go_wp2
          go_ret
          exact ⟨g, cap, _, left, rfl, HR.out, hcap, fun v hv => HG.out.dist hgl hv, by omega, HW1.out.trans (HB.out.mono (by omega))⟩
end Go.Proofs.YtlhcjbgcgbeocaaDoor
