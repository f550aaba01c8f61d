/- The reference's rounds: the least numbers of minutes from a place. No condition. -/
import Derived.Test.YtlhcjbgcgbeocaaDoorWalk
namespace Go.Proofs.YtlhcjbgcgbeocaaDoor
open Go.RowKit

/-- Numbers in a row that may be written, from its first cell on: n of cap. -/
def Row (w : World) (g cap n : Nat) (x : Nat → Int) : Prop := ∃ f : Nat → Value, w.rowIs g 3 cap f ∧ ∀ j, j < n → f j = .int .i64 (x j)
theorem Row.below {w w' : World} {g cap n : Nat} {x : Nat → Int} (h : Row w g cap n x) (hb : Below w.heap.size w w') : Row w' g cap n x := by
  obtain ⟨f, h1, h2⟩ := h
  exact ⟨f, row_below hb h1, h2⟩
theorem Row.drew {w : World} {g cap n : Nat} {x : Nat → Int} (h : Row w g cap n x) : Row w.drew g cap n x := h.below (Below.refl _ _).drew
theorem Row.alloc {w : World} {g cap n : Nat} {x : Nat → Int} (h : Row w g cap n x) (o : Obj) : Row (w.alloc o) g cap n x := h.below (below_alloc1 _ _)
theorem Row.set {w : World} {g cap n : Nat} {x : Nat → Int} (h : Row w g cap n x) (i : Nat) (v : Int) : Row (w.setCell ⟨g, i, none⟩ (.int .i64 v)) g cap n (fun j => if j = i then v else x j) := by
  obtain ⟨f, h1, h2⟩ := h
  refine ⟨_, h1.set i _, fun j hj => ?_⟩
  by_cases e : j = i
  · simp [e]
  · simp [e, h2 j hj]
theorem Row.congr {w : World} {g cap n : Nat} {x y : Nat → Int} (h : Row w g cap n x) (e : ∀ j, j < n → x j = y j) : Row w g cap n y := by
  obtain ⟨f, h1, h2⟩ := h
  exact ⟨f, h1, fun j hj => by rw [h2 j hj, e j hj]⟩
theorem Row.cell {w : World} {g cap n : Nat} {x : Nat → Int} (h : Row w g cap n x) (hc : n ≤ cap) {i : Nat} (hi : i < n) : w.cell? ⟨g, i, none⟩ = some (.int .i64 (x i)) := by
  obtain ⟨f, h1, h2⟩ := h
  rw [h1.cell (by omega), h2 i hi]
theorem Row.froz {w : World} {g cap n : Nat} {x : Nat → Int} (h : Row w g cap n x) (i : Nat) : w.frozen? ⟨g, i, none⟩ = false := by
  obtain ⟨f, h1, h2⟩ := h
  exact h1.frozen i
theorem Row.lt {w : World} {g cap n : Nat} {x : Nat → Int} (h : Row w g cap n x) : g < w.heap.size := by
  obtain ⟨f, h1, h2⟩ := h
  exact h1.lt
theorem Row.ints {w : World} {g cap n : Nat} {x : Nat → Int} (h : Row w g cap n x) (hc : n ≤ cap) : Ints w (some ⟨g, 0, none⟩) n x := fun _ => ⟨g, 0, rfl, fun j hj => by rw [Nat.zero_add]; exact h.cell hc hj⟩

theorem src_even (D : SrchD) (k : Nat) : src D (2 * k) = (D.a k).toNat := by unfold src; rw [if_pos (by omega), show 2 * k / 2 = k by omega]
theorem dst_even (D : SrchD) (k : Nat) : dst D (2 * k) = (D.b k).toNat := by unfold dst; rw [if_pos (by omega), show 2 * k / 2 = k by omega]
theorem src_odd (D : SrchD) (k : Nat) : src D (2 * k + 1) = (D.b k).toNat := by unfold src; rw [if_neg (by omega), show (2 * k + 1) / 2 = k by omega]
theorem dst_odd (D : SrchD) (k : Nat) : dst D (2 * k + 1) = (D.a k).toNat := by unfold dst; rw [if_neg (by omega), show (2 * k + 1) / 2 = k by omega]

/-- It returns a list of D.k numbers in new memory, of which F holds. -/
def RetFar (n : Nat) (F : (Nat → Int) → Prop) (w : World) (e : Ending) (w' : World) : Prop :=
  ∃ g cap c x, e = .returned (.slice (some ⟨g, 0, none⟩) n c) ∧ Row w' g cap n x ∧ n ≤ cap ∧ F x ∧ w.heap.size ≤ g ∧ Below w.heap.size w w'

theorem BF.even {D : SrchD} (hok : SrchOk D) {fr n k x y : Nat} {far : Nat → Int} (h : BF D fr n (2 * k) far) (hk : k < D.m) (hX : (D.a k).toNat = x) (hY : (D.b k).toNat = y) :
    (¬ (0 ≤ far x ∧ (far y < 0 ∨ far x + D.t k < far y)) → BF D fr n (2 * k + 1) far) ∧ (0 ≤ far x → (far y < 0 ∨ far x + D.t k < far y) → BF D fr n (2 * k + 1) (fun v => if v = y then far x + D.t k else far v)) := by
  have e1 : src D (2 * k) = x := (src_even D k).trans hX
  have e2 : dst D (2 * k) = y := (dst_even D k).trans hY
  have e3 : 2 * k / 2 = k := by omega
  have h1 := h.keep hok (by omega)
  have h2 := h.set hok (by omega)
  rw [e1, e2, e3] at h1 h2
  exact ⟨h1, h2⟩
theorem BF.odd {D : SrchD} (hok : SrchOk D) {fr n k x y : Nat} {far : Nat → Int} (h : BF D fr n (2 * k + 1) far) (hk : k < D.m) (hX : (D.a k).toNat = x) (hY : (D.b k).toNat = y) :
    (¬ (0 ≤ far y ∧ (far x < 0 ∨ far y + D.t k < far x)) → BF D fr n (2 * (k + 1)) far) ∧ (0 ≤ far y → (far x < 0 ∨ far y + D.t k < far x) → BF D fr n (2 * (k + 1)) (fun v => if v = x then far y + D.t k else far v)) := by
  have e1 : src D (2 * k + 1) = y := (src_odd D k).trans hY
  have e2 : dst D (2 * k + 1) = x := (dst_odd D k).trans hX
  have e3 : (2 * k + 1) / 2 = k := by omega
  have h1 := h.keep hok (by omega)
  have h2 := h.set hok (by omega)
  rw [e1, e2, e3] at h1 h2
  exact ⟨h1, h2⟩
theorem BF.sum {D : SrchD} {fr n e : Nat} {far : Nat → Int} (h : BF D fr n e far) {x : Nat} {t : Int} (ht : t ≤ 20) (h1 : 1 ≤ t) (hn : n ≤ 7) (he : e ≤ 20) : wrap64 (far x + t) = far x + t := by
  have u1 := h.lo x
  have u2 := h.hi x
  unfold wrap64
  omega

set_option maxRecDepth 20000 in
set_option maxHeartbeats 4000000 in
theorem l5Far_any (P Q : Option Addr) (D : SrchD) (c d : Nat) (fr : Nat) (w : World) (hx : SrchAt w P Q D) (hok : SrchOk D) (hfr : fr < D.k) :
    Calls Tryd.prog 53 #[.agg #[.int .i64 D.s, .slice P D.m c, .slice Q D.k d], .int .i64 fr] w (RetFar D.k (fun x => ∀ v, v < D.k → Dist D fr v (x v)) w) := by
  have hsk := hok.2.2.1
  have hk7 : D.k ≤ 7 := by have := hok.1.2; omega
  have hm10 := hok.2.1
  have HS : Hid (D.s = (D.k : Int)) := hsk.symm
  rw [← hsk]
  have HOK := hid hok
  have HX := hid hx
  clear hsk hok hx
  have hB := Blk.new w 26 #[.int .i64 D.k, .slice P D.m c, .slice Q D.k d]
  have hw1 := below_alloc1 w (.cells #[.int .i64 D.k, .slice P D.m c, .slice Q D.k d] 26)
  go_enter Tryd.func53, Tryd.ntmps53
  go_wp2
  have HBB := hid hB
  have HW1 := hid hw1
  clear hB hw1
  go_loopw [5, 6] (fun v i wr => ∃ k : Nat, k ≤ D.k ∧ i = .int .i64 k ∧ OwnL wr (w.heap.size + 1) v (List.replicate k (-1)) ∧ Hid (Below (w.heap.size + 1) (w.alloc (.cells #[.int .i64 D.k, .slice P D.m c, .slice Q D.k d] 26)) wr)) (fun _ i _ => D.k - (intOf i).toNat)
  case atStart => exact ⟨0, by omega, rfl, (by simpa using OwnL.lit0 (B := w.heap.size + 1) (w.alloc (.cells #[.int .i64 D.k, .slice P D.m c, .slice Q D.k d] 26)) (by simp) #[] rfl), hid ((Below.refl (w.heap.size + 1) _).alloc (by simp) _)⟩
  case round =>
    obtain ⟨k, hk, rfl, hown, HBL⟩ := hrel
    have hbs : Blk wr w.heap.size 26 #[.int .i64 D.k, .slice P D.m c, .slice Q D.k d] := HBB.out.below (HBL.out.mono (by simp))
    have y0 := hbs.cell (i := 0) rfl
    clear hbs
    by_cases hlt : k < D.k
    · have hltz : (k : Int) < (D.k : Int) := by omega
      have hsz : w.heap.size + 1 ≤ wr.heap.size := by have := HBL.out.size; simp at this; omega
      go_wp2_with (at_builtin; refine app_int rfl _ _ rfl (w.heap.size + 1) _ _ rfl (hown.alloc _) wr.heap.size (-1) rfl (by simp) (by simp; omega) (by simp; omega) ?_)
      intro v' w' hown' hb'
      have HB2 := hid (hb' _ (HBL.out.alloc hsz _))
      clear hb' hown
      go_wp2
      go_roundw
      case rel => exact ⟨k + 1, by omega, by go_num, by rw [List.replicate_succ']; exact hown', HB2⟩
      case measure => simp [intOf] <;> omega
    · have : k = D.k := by omega
      subst this
      obtain ⟨A, cc, hv, hm⟩ := hown.mut
      rw [List.length_replicate] at hv hm
      subst hv
      obtain ⟨g, cap, f, rfl, hg1, hg2, hcap, hrow, hf⟩ := hm (by omega)
      have hR : Row wr g cap D.k (fun _ => -1) := ⟨f, hrow, fun j hj => by
        rw [hf j hj]
        show Value.int .i64 ((List.replicate D.k (-1 : Int)).getD j 0) = .int .i64 (-1)
        rw [List.getD_eq_getElem?_getD, List.getElem?_replicate, if_pos hj]; rfl⟩
      have HR := hid hR
      have z1 := hR.froz fr
      have z2 := hR.cell hcap hfr
      have hfrz : (fr : Int) < (D.k : Int) := by omega
      clear hR hrow hf hm hown
      go_wp2
      have HR0 := hid ((HR.out.set fr 0).congr (y := fun v => if v = fr then 0 else -1) (fun _ _ => rfl))
      have HB0 := hid (HBL.out.setCell (p := ⟨g, fr, none⟩) hg1 (.int .i64 0))
      clear HR HBL z1 z2 y0
      go_loopw [7] (fun i wr => ∃ n : Nat, ∃ far, n ≤ D.k ∧ i = .int .i64 n ∧ Hid (Row wr g cap D.k far) ∧ Hid (BF D fr n 0 far) ∧ Hid (Below (w.heap.size + 1) (w.alloc (.cells #[.int .i64 D.k, .slice P D.m c, .slice Q D.k d] 26)) wr)) (fun i _ => D.k - (intOf i).toNat)
      case atStart => exact ⟨0, _, by omega, rfl, HR0, BF.start hfr, HB0⟩
      case round =>
        clear HR0 HB0
        obtain ⟨n, far, hn, rfl, HR, HF, HB⟩ := hrel
        have hbs : Blk wr w.heap.size 26 #[.int .i64 D.k, .slice P D.m c, .slice Q D.k d] := HBB.out.below (HB.out.mono (by simp))
        have y0 := hbs.cell (i := 0) rfl
        clear hbs
        by_cases hlt : n < D.k
        · have hltz : (n : Int) < (D.k : Int) := by omega
          go_wp2
          go_loopw [8] (fun i wr => ∃ k : Nat, ∃ far, k ≤ D.m ∧ i = .int .i64 k ∧ Hid (Row wr g cap D.k far) ∧ Hid (BF D fr n (2 * k) far) ∧ Hid (Below (w.heap.size + 1) (w.alloc (.cells #[.int .i64 D.k, .slice P D.m c, .slice Q D.k d] 26)) wr)) (fun i _ => D.m - (intOf i).toNat)
          case atStart => exact ⟨0, _, by omega, rfl, HR, HF, HB⟩
          case round =>
            clear HR HF HB y0
            obtain ⟨k, far, hk, rfl, HR, HF, HB⟩ := hrel
            have hbs : Blk wr w.heap.size 26 #[.int .i64 D.k, .slice P D.m c, .slice Q D.k d] := HBB.out.below (HB.out.mono (by simp))
            have y1 := hbs.cell (i := 1) rfl
            clear hbs
            by_cases hlt2 : k < D.m
            · have hlt2z : (k : Int) < (D.m : Int) := by omega
              have hB2 : Below w.heap.size w wr := HW1.out.trans (HB.out.mono (by omega))
              obtain ⟨b, o, rfl, a1, a2, a3⟩ := (HX.out.below hB2).pas.at_ hlt2
              obtain ⟨⟨q1, q2⟩, ⟨q3, q4⟩, q5, q6, q7⟩ := HOK.out.2.2.2 k hlt2
              rw [HS.out] at q2 q4
              obtain ⟨x, hxx⟩ := Int.eq_ofNat_of_zero_le q1
              obtain ⟨y, hyy⟩ := Int.eq_ofNat_of_zero_le q3
              have hX : (D.a k).toNat = x := by omega
              have hY : (D.b k).toNat = y := by omega
              rw [hxx] at a1
              rw [hyy] at a2
              have lx : x < D.k := by omega
              have ly : y < D.k := by omega
              have lxz : (x : Int) < (D.k : Int) := by omega
              have lyz : (y : Int) < (D.k : Int) := by omega
              have hne : x ≠ y := by omega
              have hBx := Blk.new wr 31 #[.int .i64 x, .int .i64 y, .int .i64 (D.t k)]
              have HRV := hid (HR.out.alloc (.cells #[.int .i64 x, .int .i64 y, .int .i64 (D.t k)] 31))
              have HBV := hid hBx
              have hsz : w.heap.size + 1 ≤ wr.heap.size := by have := HB.out.size; simp at this; omega
              have HLV := hid (HB.out.alloc hsz (.cells #[.int .i64 x, .int .i64 y, .int .i64 (D.t k)] 31))
              have hgw : g < wr.heap.size := HR.out.lt
              have hmp := HF.out.even HOK.out hlt2 hX hY
              have hsum : wrap64 (far x + D.t k) = far x + D.t k := HF.out.sum q7 q6 (by omega) (by omega)
              have HMP := hid hmp
              clear hBx HR HB hxx hyy q1 q2 q3 q4 hB2 hmp
              go_wp2
              generalize wr.alloc (.cells #[.int .i64 x, .int .i64 y, .int .i64 (D.t k)] 31) = v at HRV HBV HLV ⊢
              have s1 := sub_cell (HRV.out.cell hcap lx)
              have s2 := sub_cell (HRV.out.cell hcap ly)
              have s3 := sub_cell (HBV.out.cell (i := 0) rfl)
              have s4 := sub_cell (HBV.out.cell (i := 1) rfl)
              have s5 := sub_cell (HBV.out.cell (i := 2) rfl)
              by_cases h1 : 0 ≤ far x
              · have e1 : decide (0 ≤ far x) = true := decide_eq_true h1
                by_cases h2 : far y < 0
                · have e2 : decide (far y < 0) = true := decide_eq_true h2
                  have HF1 := hid (HMP.out.2 h1 (.inl h2))
                  refine wp_region_sub (by kernel_rfl) (by kernel_rfl) ?_
                  repeat (go_big_quiet_step ((fail)))
                  refine wpQuiet_nil ?_
                  intro _ hw'
                  obtain ⟨s, hw''⟩ := hw'
                  subst hw''
                  go_wp2
                  have hsv := s.h
                  generalize s.val = v1 at hsv ⊢
                  clear s1 s2 s3 s4 s5
                  have hsz1 : w.heap.size + 1 ≤ v.heap.size := by have := HLV.out.size; simp at this; omega
                  have hRv := HRV.out.below hsv
                  have hBv := HBV.out.below hsv
                  have s1 := hRv.cell hcap lx
                  have s2 := hRv.cell hcap ly
                  have s3 := hBv.cell (i := 0) rfl
                  have s4 := hBv.cell (i := 1) rfl
                  have s5 := hBv.cell (i := 2) rfl
                  have s6 := hRv.froz y
                  have HRU := hid (hRv.set y (far x + D.t k)).drew
                  have HBU : Hid (Blk (v1.setCell ⟨g, y, none⟩ (.int .i64 (far x + D.t k))).drew _ _ _) := hBv.far (p := ⟨g, y, none⟩) (by show wr.heap.size ≠ g; omega) _
                  have HLU := hid ((HLV.out.trans (hsv.mono hsz1)).setCell (p := ⟨g, y, none⟩) hg1 (.int .i64 (far x + D.t k))).drew
                  clear hRv hBv hsv HRV HBV HLV
                  go_region
                  clear s1 s2 s3 s4 s5 s6 hsum
                  try clear e3
                  clear e2 e1 HMP h1
                  generalize (v1.setCell ⟨g, y, none⟩ (.int .i64 (far x + D.t k))).drew = v at HRU HBU HLU ⊢
                  generalize (fun j => if j = y then far x + D.t k else far j) = far1 at HRU HF1
                  go_wp2
                  have HRV := HRU
                  have HBV := HBU
                  have HLV := HLU
                  clear HRU HBU HLU hsz1
                  have hsz2 : w.heap.size + 1 ≤ v.heap.size := by have := HLV.out.size; simp at this; omega
                  have hmp := HF1.out.odd HOK.out hlt2 hX hY
                  have hsum : wrap64 (far1 y + D.t k) = far1 y + D.t k := HF1.out.sum q7 q6 (by omega) (by omega)
                  have HMP := hid hmp
                  clear hmp
                  have s1 := sub_cell (HRV.out.cell hcap lx)
                  have s2 := sub_cell (HRV.out.cell hcap ly)
                  have s3 := sub_cell (HBV.out.cell (i := 0) rfl)
                  have s4 := sub_cell (HBV.out.cell (i := 1) rfl)
                  have s5 := sub_cell (HBV.out.cell (i := 2) rfl)
                  by_cases h1 : 0 ≤ far1 y
                  · have e1 : decide (0 ≤ far1 y) = true := decide_eq_true h1
                    by_cases h2 : far1 x < 0
                    · have e2 : decide (far1 x < 0) = true := decide_eq_true h2
                      have HF2 := hid (HMP.out.2 h1 (.inl h2))
                      go_wp2
                      refine wp_region_sub (by kernel_rfl) (by kernel_rfl) ?_
                      repeat (go_big_quiet_step ((fail)))
                      refine wpQuiet_nil ?_
                      intro _ hw'
                      obtain ⟨s, hw''⟩ := hw'
                      subst hw''
                      go_wp2
                      have hsv := s.h
                      generalize s.val = v2 at hsv ⊢
                      clear s1 s2 s3 s4 s5
                      have hRv := HRV.out.below hsv
                      have hBv := HBV.out.below hsv
                      have s1 := hRv.cell hcap lx
                      have s2 := hRv.cell hcap ly
                      have s3 := hBv.cell (i := 0) rfl
                      have s4 := hBv.cell (i := 1) rfl
                      have s5 := hBv.cell (i := 2) rfl
                      have s6 := hRv.froz x
                      have HRU := hid (hRv.set x (far1 y + D.t k)).drew
                      have HLU := hid ((HLV.out.trans (hsv.mono hsz2)).setCell (p := ⟨g, x, none⟩) hg1 (.int .i64 (far1 y + D.t k))).drew
                      clear hRv hBv hsv HRV HBV HLV
                      go_region
                      clear s1 s2 s3 s4 s5 s6
                      go_wp2
                      go_roundw
                      case rel => exact ⟨k + 1, _, by omega, by go_num, HRU, HF2, HLU⟩
                      case measure => simp [intOf] <;> omega
                    · have e2 : decide (far1 x < 0) = false := decide_eq_false h2
                      by_cases h3 : far1 y + D.t k < far1 x
                      · have e3 : decide (far1 y + D.t k < far1 x) = true := decide_eq_true h3
                        have HF2 := hid (HMP.out.2 h1 (.inr h3))
                        go_wp2
                        refine wp_region_sub (by kernel_rfl) (by kernel_rfl) ?_
                        repeat (go_big_quiet_step ((fail)))
                        refine wpQuiet_nil ?_
                        intro _ hw'
                        obtain ⟨s, hw''⟩ := hw'
                        subst hw''
                        go_wp2
                        have hsv := s.h
                        generalize s.val = v2 at hsv ⊢
                        clear s1 s2 s3 s4 s5
                        have hRv := HRV.out.below hsv
                        have hBv := HBV.out.below hsv
                        have s1 := hRv.cell hcap lx
                        have s2 := hRv.cell hcap ly
                        have s3 := hBv.cell (i := 0) rfl
                        have s4 := hBv.cell (i := 1) rfl
                        have s5 := hBv.cell (i := 2) rfl
                        have s6 := hRv.froz x
                        have HRU := hid (hRv.set x (far1 y + D.t k)).drew
                        have HLU := hid ((HLV.out.trans (hsv.mono hsz2)).setCell (p := ⟨g, x, none⟩) hg1 (.int .i64 (far1 y + D.t k))).drew
                        clear hRv hBv hsv HRV HBV HLV
                        go_region
                        clear s1 s2 s3 s4 s5 s6
                        go_wp2
                        go_roundw
                        case rel => exact ⟨k + 1, _, by omega, by go_num, HRU, HF2, HLU⟩
                        case measure => simp [intOf] <;> omega
                      · have e3 : decide (far1 y + D.t k < far1 x) = false := decide_eq_false h3
                        have HF2 := hid (HMP.out.1 (fun h => h.2.elim h2 h3))
                        go_wp2
                        refine wp_region_sub (by kernel_rfl) (by kernel_rfl) ?_
                        repeat (go_big_quiet_step ((fail)))
                        refine wpQuiet_nil ?_
                        intro _ hw'
                        obtain ⟨s, hw''⟩ := hw'
                        subst hw''
                        go_wp2
                        have hsv := s.h
                        generalize s.val = v2 at hsv ⊢
                        clear s1 s2 s3 s4 s5
                        go_roundw
                        case rel => exact ⟨k + 1, _, by omega, by go_num, hid (HRV.out.below hsv), HF2, hid (HLV.out.trans (hsv.mono hsz2))⟩
                        case measure => simp [intOf] <;> omega
                  · have e1 : decide (0 ≤ far1 y) = false := decide_eq_false h1
                    have HF2 := hid (HMP.out.1 (fun h => h1 h.1))
                    go_wp2
                    refine wp_region_sub (by kernel_rfl) (by kernel_rfl) ?_
                    repeat (go_big_quiet_step ((fail)))
                    refine wpQuiet_nil ?_
                    intro _ hw'
                    obtain ⟨s, hw''⟩ := hw'
                    subst hw''
                    go_wp2
                    have hsv := s.h
                    generalize s.val = v2 at hsv ⊢
                    clear s1 s2 s3 s4 s5
                    go_roundw
                    case rel => exact ⟨k + 1, _, by omega, by go_num, hid (HRV.out.below hsv), HF2, hid (HLV.out.trans (hsv.mono hsz2))⟩
                    case measure => simp [intOf] <;> omega
                · have e2 : decide (far y < 0) = false := decide_eq_false h2
                  by_cases h3 : far x + D.t k < far y
                  · have e3 : decide (far x + D.t k < far y) = true := decide_eq_true h3
                    have HF1 := hid (HMP.out.2 h1 (.inr h3))
                    refine wp_region_sub (by kernel_rfl) (by kernel_rfl) ?_
                    repeat (go_big_quiet_step ((fail)))
                    refine wpQuiet_nil ?_
                    intro _ hw'
                    obtain ⟨s, hw''⟩ := hw'
                    subst hw''
                    go_wp2
                    have hsv := s.h
                    generalize s.val = v1 at hsv ⊢
                    clear s1 s2 s3 s4 s5
                    have hsz1 : w.heap.size + 1 ≤ v.heap.size := by have := HLV.out.size; simp at this; omega
                    have hRv := HRV.out.below hsv
                    have hBv := HBV.out.below hsv
                    have s1 := hRv.cell hcap lx
                    have s2 := hRv.cell hcap ly
                    have s3 := hBv.cell (i := 0) rfl
                    have s4 := hBv.cell (i := 1) rfl
                    have s5 := hBv.cell (i := 2) rfl
                    have s6 := hRv.froz y
                    have HRU := hid (hRv.set y (far x + D.t k)).drew
                    have HBU : Hid (Blk (v1.setCell ⟨g, y, none⟩ (.int .i64 (far x + D.t k))).drew _ _ _) := hBv.far (p := ⟨g, y, none⟩) (by show wr.heap.size ≠ g; omega) _
                    have HLU := hid ((HLV.out.trans (hsv.mono hsz1)).setCell (p := ⟨g, y, none⟩) hg1 (.int .i64 (far x + D.t k))).drew
                    clear hRv hBv hsv HRV HBV HLV
                    go_region
                    clear s1 s2 s3 s4 s5 s6 hsum
                    try clear e3
                    clear e2 e1 HMP h1
                    generalize (v1.setCell ⟨g, y, none⟩ (.int .i64 (far x + D.t k))).drew = v at HRU HBU HLU ⊢
                    generalize (fun j => if j = y then far x + D.t k else far j) = far1 at HRU HF1
                    go_wp2
                    have HRV := HRU
                    have HBV := HBU
                    have HLV := HLU
                    clear HRU HBU HLU hsz1
                    have hsz2 : w.heap.size + 1 ≤ v.heap.size := by have := HLV.out.size; simp at this; omega
                    have hmp := HF1.out.odd HOK.out hlt2 hX hY
                    have hsum : wrap64 (far1 y + D.t k) = far1 y + D.t k := HF1.out.sum q7 q6 (by omega) (by omega)
                    have HMP := hid hmp
                    clear hmp
                    have s1 := sub_cell (HRV.out.cell hcap lx)
                    have s2 := sub_cell (HRV.out.cell hcap ly)
                    have s3 := sub_cell (HBV.out.cell (i := 0) rfl)
                    have s4 := sub_cell (HBV.out.cell (i := 1) rfl)
                    have s5 := sub_cell (HBV.out.cell (i := 2) rfl)
                    by_cases h1 : 0 ≤ far1 y
                    · have e1 : decide (0 ≤ far1 y) = true := decide_eq_true h1
                      by_cases h2 : far1 x < 0
                      · have e2 : decide (far1 x < 0) = true := decide_eq_true h2
                        have HF2 := hid (HMP.out.2 h1 (.inl h2))
                        go_wp2
                        refine wp_region_sub (by kernel_rfl) (by kernel_rfl) ?_
                        repeat (go_big_quiet_step ((fail)))
                        refine wpQuiet_nil ?_
                        intro _ hw'
                        obtain ⟨s, hw''⟩ := hw'
                        subst hw''
                        go_wp2
                        have hsv := s.h
                        generalize s.val = v2 at hsv ⊢
                        clear s1 s2 s3 s4 s5
                        have hRv := HRV.out.below hsv
                        have hBv := HBV.out.below hsv
                        have s1 := hRv.cell hcap lx
                        have s2 := hRv.cell hcap ly
                        have s3 := hBv.cell (i := 0) rfl
                        have s4 := hBv.cell (i := 1) rfl
                        have s5 := hBv.cell (i := 2) rfl
                        have s6 := hRv.froz x
                        have HRU := hid (hRv.set x (far1 y + D.t k)).drew
                        have HLU := hid ((HLV.out.trans (hsv.mono hsz2)).setCell (p := ⟨g, x, none⟩) hg1 (.int .i64 (far1 y + D.t k))).drew
                        clear hRv hBv hsv HRV HBV HLV
                        go_region
                        clear s1 s2 s3 s4 s5 s6
                        go_wp2
                        go_roundw
                        case rel => exact ⟨k + 1, _, by omega, by go_num, HRU, HF2, HLU⟩
                        case measure => simp [intOf] <;> omega
                      · have e2 : decide (far1 x < 0) = false := decide_eq_false h2
                        by_cases h3 : far1 y + D.t k < far1 x
                        · have e3 : decide (far1 y + D.t k < far1 x) = true := decide_eq_true h3
                          have HF2 := hid (HMP.out.2 h1 (.inr h3))
                          go_wp2
                          refine wp_region_sub (by kernel_rfl) (by kernel_rfl) ?_
                          repeat (go_big_quiet_step ((fail)))
                          refine wpQuiet_nil ?_
                          intro _ hw'
                          obtain ⟨s, hw''⟩ := hw'
                          subst hw''
                          go_wp2
                          have hsv := s.h
                          generalize s.val = v2 at hsv ⊢
                          clear s1 s2 s3 s4 s5
                          have hRv := HRV.out.below hsv
                          have hBv := HBV.out.below hsv
                          have s1 := hRv.cell hcap lx
                          have s2 := hRv.cell hcap ly
                          have s3 := hBv.cell (i := 0) rfl
                          have s4 := hBv.cell (i := 1) rfl
                          have s5 := hBv.cell (i := 2) rfl
                          have s6 := hRv.froz x
                          have HRU := hid (hRv.set x (far1 y + D.t k)).drew
                          have HLU := hid ((HLV.out.trans (hsv.mono hsz2)).setCell (p := ⟨g, x, none⟩) hg1 (.int .i64 (far1 y + D.t k))).drew
                          clear hRv hBv hsv HRV HBV HLV
                          go_region
                          clear s1 s2 s3 s4 s5 s6
                          go_wp2
                          go_roundw
                          case rel => exact ⟨k + 1, _, by omega, by go_num, HRU, HF2, HLU⟩
                          case measure => simp [intOf] <;> omega
                        · have e3 : decide (far1 y + D.t k < far1 x) = false := decide_eq_false h3
                          have HF2 := hid (HMP.out.1 (fun h => h.2.elim h2 h3))
                          go_wp2
                          refine wp_region_sub (by kernel_rfl) (by kernel_rfl) ?_
                          repeat (go_big_quiet_step ((fail)))
                          refine wpQuiet_nil ?_
                          intro _ hw'
                          obtain ⟨s, hw''⟩ := hw'
                          subst hw''
                          go_wp2
                          have hsv := s.h
                          generalize s.val = v2 at hsv ⊢
                          clear s1 s2 s3 s4 s5
                          go_roundw
                          case rel => exact ⟨k + 1, _, by omega, by go_num, hid (HRV.out.below hsv), HF2, hid (HLV.out.trans (hsv.mono hsz2))⟩
                          case measure => simp [intOf] <;> omega
                    · have e1 : decide (0 ≤ far1 y) = false := decide_eq_false h1
                      have HF2 := hid (HMP.out.1 (fun h => h1 h.1))
                      go_wp2
                      refine wp_region_sub (by kernel_rfl) (by kernel_rfl) ?_
                      repeat (go_big_quiet_step ((fail)))
                      refine wpQuiet_nil ?_
                      intro _ hw'
                      obtain ⟨s, hw''⟩ := hw'
                      subst hw''
                      go_wp2
                      have hsv := s.h
                      generalize s.val = v2 at hsv ⊢
                      clear s1 s2 s3 s4 s5
                      go_roundw
                      case rel => exact ⟨k + 1, _, by omega, by go_num, hid (HRV.out.below hsv), HF2, hid (HLV.out.trans (hsv.mono hsz2))⟩
                      case measure => simp [intOf] <;> omega
                  · have e3 : decide (far x + D.t k < far y) = false := decide_eq_false h3
                    have HF1 := hid (HMP.out.1 (fun h => h.2.elim h2 h3))
                    refine wp_region_sub (by kernel_rfl) (by kernel_rfl) ?_
                    repeat (go_big_quiet_step ((fail)))
                    refine wpQuiet_nil ?_
                    intro _ hw'
                    obtain ⟨s, hw''⟩ := hw'
                    subst hw''
                    go_wp2
                    have hsv := s.h
                    generalize s.val = v1 at hsv ⊢
                    clear s1 s2 s3 s4 s5 hsum HMP
                    have hsz1 : w.heap.size + 1 ≤ v.heap.size := by have := HLV.out.size; simp at this; omega
                    have HRU := hid (HRV.out.below hsv)
                    have HBU := hid (HBV.out.below hsv)
                    have HLU := hid (HLV.out.trans (hsv.mono hsz1))
                    clear HRV HBV HLV hsv hsz1
                    have HRV := HRU
                    have HBV := HBU
                    have HLV := HLU
                    clear HRU HBU HLU
                    generalize v1 = v at HRV HBV HLV ⊢
                    obtain ⟨far1, hfar1⟩ : ∃ f, f = far := ⟨_, rfl⟩
                    rw [← hfar1] at HRV HF1
                    clear hfar1
                    have hsz2 : w.heap.size + 1 ≤ v.heap.size := by have := HLV.out.size; simp at this; omega
                    have hmp := HF1.out.odd HOK.out hlt2 hX hY
                    have hsum : wrap64 (far1 y + D.t k) = far1 y + D.t k := HF1.out.sum q7 q6 (by omega) (by omega)
                    have HMP := hid hmp
                    clear hmp
                    have s1 := sub_cell (HRV.out.cell hcap lx)
                    have s2 := sub_cell (HRV.out.cell hcap ly)
                    have s3 := sub_cell (HBV.out.cell (i := 0) rfl)
                    have s4 := sub_cell (HBV.out.cell (i := 1) rfl)
                    have s5 := sub_cell (HBV.out.cell (i := 2) rfl)
                    by_cases h1 : 0 ≤ far1 y
                    · have e1 : decide (0 ≤ far1 y) = true := decide_eq_true h1
                      by_cases h2 : far1 x < 0
                      · have e2 : decide (far1 x < 0) = true := decide_eq_true h2
                        have HF2 := hid (HMP.out.2 h1 (.inl h2))
                        go_wp2
                        refine wp_region_sub (by kernel_rfl) (by kernel_rfl) ?_
                        repeat (go_big_quiet_step ((fail)))
                        refine wpQuiet_nil ?_
                        intro _ hw'
                        obtain ⟨s, hw''⟩ := hw'
                        subst hw''
                        go_wp2
                        have hsv := s.h
                        generalize s.val = v2 at hsv ⊢
                        clear s1 s2 s3 s4 s5
                        have hRv := HRV.out.below hsv
                        have hBv := HBV.out.below hsv
                        have s1 := hRv.cell hcap lx
                        have s2 := hRv.cell hcap ly
                        have s3 := hBv.cell (i := 0) rfl
                        have s4 := hBv.cell (i := 1) rfl
                        have s5 := hBv.cell (i := 2) rfl
                        have s6 := hRv.froz x
                        have HRU := hid (hRv.set x (far1 y + D.t k)).drew
                        have HLU := hid ((HLV.out.trans (hsv.mono hsz2)).setCell (p := ⟨g, x, none⟩) hg1 (.int .i64 (far1 y + D.t k))).drew
                        clear hRv hBv hsv HRV HBV HLV
                        go_region
                        clear s1 s2 s3 s4 s5 s6
                        go_wp2
                        go_roundw
                        case rel => exact ⟨k + 1, _, by omega, by go_num, HRU, HF2, HLU⟩
                        case measure => simp [intOf] <;> omega
                      · have e2 : decide (far1 x < 0) = false := decide_eq_false h2
                        by_cases h3 : far1 y + D.t k < far1 x
                        · have e3 : decide (far1 y + D.t k < far1 x) = true := decide_eq_true h3
                          have HF2 := hid (HMP.out.2 h1 (.inr h3))
                          go_wp2
                          refine wp_region_sub (by kernel_rfl) (by kernel_rfl) ?_
                          repeat (go_big_quiet_step ((fail)))
                          refine wpQuiet_nil ?_
                          intro _ hw'
                          obtain ⟨s, hw''⟩ := hw'
                          subst hw''
                          go_wp2
                          have hsv := s.h
                          generalize s.val = v2 at hsv ⊢
                          clear s1 s2 s3 s4 s5
                          have hRv := HRV.out.below hsv
                          have hBv := HBV.out.below hsv
                          have s1 := hRv.cell hcap lx
                          have s2 := hRv.cell hcap ly
                          have s3 := hBv.cell (i := 0) rfl
                          have s4 := hBv.cell (i := 1) rfl
                          have s5 := hBv.cell (i := 2) rfl
                          have s6 := hRv.froz x
                          have HRU := hid (hRv.set x (far1 y + D.t k)).drew
                          have HLU := hid ((HLV.out.trans (hsv.mono hsz2)).setCell (p := ⟨g, x, none⟩) hg1 (.int .i64 (far1 y + D.t k))).drew
                          clear hRv hBv hsv HRV HBV HLV
                          go_region
                          clear s1 s2 s3 s4 s5 s6
                          go_wp2
                          go_roundw
                          case rel => exact ⟨k + 1, _, by omega, by go_num, HRU, HF2, HLU⟩
                          case measure => simp [intOf] <;> omega
                        · have e3 : decide (far1 y + D.t k < far1 x) = false := decide_eq_false h3
                          have HF2 := hid (HMP.out.1 (fun h => h.2.elim h2 h3))
                          go_wp2
                          refine wp_region_sub (by kernel_rfl) (by kernel_rfl) ?_
                          repeat (go_big_quiet_step ((fail)))
                          refine wpQuiet_nil ?_
                          intro _ hw'
                          obtain ⟨s, hw''⟩ := hw'
                          subst hw''
                          go_wp2
                          have hsv := s.h
                          generalize s.val = v2 at hsv ⊢
                          clear s1 s2 s3 s4 s5
                          go_roundw
                          case rel => exact ⟨k + 1, _, by omega, by go_num, hid (HRV.out.below hsv), HF2, hid (HLV.out.trans (hsv.mono hsz2))⟩
                          case measure => simp [intOf] <;> omega
                    · have e1 : decide (0 ≤ far1 y) = false := decide_eq_false h1
                      have HF2 := hid (HMP.out.1 (fun h => h1 h.1))
                      go_wp2
                      refine wp_region_sub (by kernel_rfl) (by kernel_rfl) ?_
                      repeat (go_big_quiet_step ((fail)))
                      refine wpQuiet_nil ?_
                      intro _ hw'
                      obtain ⟨s, hw''⟩ := hw'
                      subst hw''
                      go_wp2
                      have hsv := s.h
                      generalize s.val = v2 at hsv ⊢
                      clear s1 s2 s3 s4 s5
                      go_roundw
                      case rel => exact ⟨k + 1, _, by omega, by go_num, hid (HRV.out.below hsv), HF2, hid (HLV.out.trans (hsv.mono hsz2))⟩
                      case measure => simp [intOf] <;> omega
              · have e1 : decide (0 ≤ far x) = false := decide_eq_false h1
                have HF1 := hid (HMP.out.1 (fun h => h1 h.1))
                refine wp_region_sub (by kernel_rfl) (by kernel_rfl) ?_
                repeat (go_big_quiet_step ((fail)))
                refine wpQuiet_nil ?_
                intro _ hw'
                obtain ⟨s, hw''⟩ := hw'
                subst hw''
                go_wp2
                have hsv := s.h
                generalize s.val = v1 at hsv ⊢
                clear s1 s2 s3 s4 s5 hsum HMP
                have hsz1 : w.heap.size + 1 ≤ v.heap.size := by have := HLV.out.size; simp at this; omega
                have HRU := hid (HRV.out.below hsv)
                have HBU := hid (HBV.out.below hsv)
                have HLU := hid (HLV.out.trans (hsv.mono hsz1))
                clear HRV HBV HLV hsv hsz1
                have HRV := HRU
                have HBV := HBU
                have HLV := HLU
                clear HRU HBU HLU
                generalize v1 = v at HRV HBV HLV ⊢
                obtain ⟨far1, hfar1⟩ : ∃ f, f = far := ⟨_, rfl⟩
                rw [← hfar1] at HRV HF1
                clear hfar1
                have hsz2 : w.heap.size + 1 ≤ v.heap.size := by have := HLV.out.size; simp at this; omega
                have hmp := HF1.out.odd HOK.out hlt2 hX hY
                have hsum : wrap64 (far1 y + D.t k) = far1 y + D.t k := HF1.out.sum q7 q6 (by omega) (by omega)
                have HMP := hid hmp
                clear hmp
                have s1 := sub_cell (HRV.out.cell hcap lx)
                have s2 := sub_cell (HRV.out.cell hcap ly)
                have s3 := sub_cell (HBV.out.cell (i := 0) rfl)
                have s4 := sub_cell (HBV.out.cell (i := 1) rfl)
                have s5 := sub_cell (HBV.out.cell (i := 2) rfl)
                by_cases h1 : 0 ≤ far1 y
                · have e1 : decide (0 ≤ far1 y) = true := decide_eq_true h1
                  by_cases h2 : far1 x < 0
                  · have e2 : decide (far1 x < 0) = true := decide_eq_true h2
                    have HF2 := hid (HMP.out.2 h1 (.inl h2))
                    go_wp2
                    refine wp_region_sub (by kernel_rfl) (by kernel_rfl) ?_
                    repeat (go_big_quiet_step ((fail)))
                    refine wpQuiet_nil ?_
                    intro _ hw'
                    obtain ⟨s, hw''⟩ := hw'
                    subst hw''
                    go_wp2
                    have hsv := s.h
                    generalize s.val = v2 at hsv ⊢
                    clear s1 s2 s3 s4 s5
                    have hRv := HRV.out.below hsv
                    have hBv := HBV.out.below hsv
                    have s1 := hRv.cell hcap lx
                    have s2 := hRv.cell hcap ly
                    have s3 := hBv.cell (i := 0) rfl
                    have s4 := hBv.cell (i := 1) rfl
                    have s5 := hBv.cell (i := 2) rfl
                    have s6 := hRv.froz x
                    have HRU := hid (hRv.set x (far1 y + D.t k)).drew
                    have HLU := hid ((HLV.out.trans (hsv.mono hsz2)).setCell (p := ⟨g, x, none⟩) hg1 (.int .i64 (far1 y + D.t k))).drew
                    clear hRv hBv hsv HRV HBV HLV
                    go_region
                    clear s1 s2 s3 s4 s5 s6
                    go_wp2
                    go_roundw
                    case rel => exact ⟨k + 1, _, by omega, by go_num, HRU, HF2, HLU⟩
                    case measure => simp [intOf] <;> omega
                  · have e2 : decide (far1 x < 0) = false := decide_eq_false h2
                    by_cases h3 : far1 y + D.t k < far1 x
                    · have e3 : decide (far1 y + D.t k < far1 x) = true := decide_eq_true h3
                      have HF2 := hid (HMP.out.2 h1 (.inr h3))
                      go_wp2
                      refine wp_region_sub (by kernel_rfl) (by kernel_rfl) ?_
                      repeat (go_big_quiet_step ((fail)))
                      refine wpQuiet_nil ?_
                      intro _ hw'
                      obtain ⟨s, hw''⟩ := hw'
                      subst hw''
                      go_wp2
                      have hsv := s.h
                      generalize s.val = v2 at hsv ⊢
                      clear s1 s2 s3 s4 s5
                      have hRv := HRV.out.below hsv
                      have hBv := HBV.out.below hsv
                      have s1 := hRv.cell hcap lx
                      have s2 := hRv.cell hcap ly
                      have s3 := hBv.cell (i := 0) rfl
                      have s4 := hBv.cell (i := 1) rfl
                      have s5 := hBv.cell (i := 2) rfl
                      have s6 := hRv.froz x
                      have HRU := hid (hRv.set x (far1 y + D.t k)).drew
                      have HLU := hid ((HLV.out.trans (hsv.mono hsz2)).setCell (p := ⟨g, x, none⟩) hg1 (.int .i64 (far1 y + D.t k))).drew
                      clear hRv hBv hsv HRV HBV HLV
                      go_region
                      clear s1 s2 s3 s4 s5 s6
                      go_wp2
                      go_roundw
                      case rel => exact ⟨k + 1, _, by omega, by go_num, HRU, HF2, HLU⟩
                      case measure => simp [intOf] <;> omega
                    · have e3 : decide (far1 y + D.t k < far1 x) = false := decide_eq_false h3
                      have HF2 := hid (HMP.out.1 (fun h => h.2.elim h2 h3))
                      go_wp2
                      refine wp_region_sub (by kernel_rfl) (by kernel_rfl) ?_
                      repeat (go_big_quiet_step ((fail)))
                      refine wpQuiet_nil ?_
                      intro _ hw'
                      obtain ⟨s, hw''⟩ := hw'
                      subst hw''
                      go_wp2
                      have hsv := s.h
                      generalize s.val = v2 at hsv ⊢
                      clear s1 s2 s3 s4 s5
                      go_roundw
                      case rel => exact ⟨k + 1, _, by omega, by go_num, hid (HRV.out.below hsv), HF2, hid (HLV.out.trans (hsv.mono hsz2))⟩
                      case measure => simp [intOf] <;> omega
                · have e1 : decide (0 ≤ far1 y) = false := decide_eq_false h1
                  have HF2 := hid (HMP.out.1 (fun h => h1 h.1))
                  go_wp2
                  refine wp_region_sub (by kernel_rfl) (by kernel_rfl) ?_
                  repeat (go_big_quiet_step ((fail)))
                  refine wpQuiet_nil ?_
                  intro _ hw'
                  obtain ⟨s, hw''⟩ := hw'
                  subst hw''
                  go_wp2
                  have hsv := s.h
                  generalize s.val = v2 at hsv ⊢
                  clear s1 s2 s3 s4 s5
                  go_roundw
                  case rel => exact ⟨k + 1, _, by omega, by go_num, hid (HRV.out.below hsv), HF2, hid (HLV.out.trans (hsv.mono hsz2))⟩
                  case measure => simp [intOf] <;> omega
            · have : k = D.m := by omega
              subst this
              go_wp2
              go_roundw
              case rel => exact ⟨n + 1, _, by omega, by go_num, HR, HF.out.next HOK.out, HB⟩
              case measure => simp [intOf] <;> omega
        · have : n = D.k := by omega
          subst this
          go_wp2
          go_ret
          exact ⟨g, cap, _, far, rfl, HR.out, hcap, fun v hv => HF.out.dist HOK.out hfr hv, by omega, HW1.out.trans (HB.out.mono (by omega))⟩
end Go.Proofs.YtlhcjbgcgbeocaaDoor
