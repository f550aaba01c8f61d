/- Tables of numbers in memory that may be written; the rows of times. No condition. -/
import Derived.Test.YtlhcjbgcgbeocaaDoorWay
import Derived.Test.YtlhcjbgcgbeocaaDoorSrch3
import Derived.BigRegion
namespace Go.Proofs.YtlhcjbgcgbeocaaDoor
open Go.RowKit

theorem info36 : (Tryd.prog.info? 36).map (fun i => (i.zero, i.size, i.bytes)) = some (some (.slice none 0 0), 1, 24) := by kernel_rfl

/-- Of n rows of m numbers the first k: the rows' block is g, row j's block is r j. -/
structure Tab (w : World) (g n m : Nat) (r : Nat → Nat) (T : Nat → Nat → Int) (k : Nat) : Prop where
  outer : w.rowIs g 36 n (fun j => if j < k then .slice (some ⟨r j, 0, none⟩) m m else .slice none 0 0)
  inner : ∀ j, j < k → w.rowIs (r j) 3 m (fun i => .int .i64 (T j i))
  above : ∀ j, j < k → g < r j
  inj : ∀ i j, i < k → j < k → r i = r j → i = j

theorem Tab.below {w w' : World} {g n m k : Nat} {r : Nat → Nat} {T : Nat → Nat → Int} (h : Tab w g n m r T k) (hb : Below w.heap.size w w') : Tab w' g n m r T k :=
  ⟨row_below hb h.outer, fun j hj => row_below hb (h.inner j hj), h.above, h.inj⟩
theorem Tab.drew {w : World} {g n m k : Nat} {r : Nat → Nat} {T : Nat → Nat → Int} (h : Tab w g n m r T k) : Tab w.drew g n m r T k := h.below (Below.refl _ _).drew
theorem Tab.alloc {w : World} {g n m k : Nat} {r : Nat → Nat} {T : Nat → Nat → Int} (h : Tab w g n m r T k) (o : Obj) : Tab (w.alloc o) g n m r T k := h.below (below_alloc1 _ _)
theorem Tab.set {w : World} {g n m k : Nat} {r : Nat → Nat} {T : Nat → Nat → Int} (h : Tab w g n m r T k) {a : Nat} (ha : a < k) (b : Nat) (v : Int) :
    Tab (w.setCell ⟨r a, b, none⟩ (.int .i64 v)) g n m r (fun x y => if x = a ∧ y = b then v else T x y) k := by
  refine ⟨h.outer.setOther (by have := h.above a ha; show g ≠ r a; omega) _, fun j hj => ?_, h.above, h.inj⟩
  by_cases e : j = a
  · subst e
    refine ((h.inner j hj).set b _).congr fun i _ => ?_
    by_cases e2 : i = b
    · subst e2; simp
    · simp [e2]
  · refine ((h.inner j hj).setOther (fun e2 => e (h.inj _ _ hj ha e2)) _).congr fun i _ => ?_
    rw [if_neg (fun x => e x.1)]
theorem Tab.cell {w : World} {g n m k : Nat} {r : Nat → Nat} {T : Nat → Nat → Int} (h : Tab w g n m r T k) {a b : Nat} (ha : a < k) (hb : b < m) : w.cell? ⟨r a, b, none⟩ = some (.int .i64 (T a b)) := (h.inner a ha).cell hb
theorem Tab.froz {w : World} {g n m k : Nat} {r : Nat → Nat} {T : Nat → Nat → Int} (h : Tab w g n m r T k) {a : Nat} (ha : a < k) (b : Nat) : w.frozen? ⟨r a, b, none⟩ = false := (h.inner a ha).frozen b
theorem Tab.row {w : World} {g n m k : Nat} {r : Nat → Nat} {T : Nat → Nat → Int} (h : Tab w g n m r T k) {a : Nat} (ha : a < k) (hn : a < n) : w.cell? ⟨g, a, none⟩ = some (.slice (some ⟨r a, 0, none⟩) m m) := by
  rw [h.outer.cell hn, if_pos ha]
theorem Tab.ints {w : World} {g n m k : Nat} {r : Nat → Nat} {T : Nat → Nat → Int} (h : Tab w g n m r T k) {a : Nat} (ha : a < k) : Ints w (some ⟨r a, 0, none⟩) m (T a) := Rd.of_row (h.inner a ha)
theorem Tab.congr {w : World} {g n m k : Nat} {r : Nat → Nat} {T U : Nat → Nat → Int} (h : Tab w g n m r T k) (e : ∀ x y, x < k → y < m → T x y = U x y) : Tab w g n m r U k :=
  ⟨h.outer, fun j hj => (h.inner j hj).congr fun i hi => by rw [e j i hj hi], h.above, h.inj⟩
/-- A further row. -/
theorem Tab.push {w : World} {g n m k q : Nat} {r : Nat → Nat} {T : Nat → Nat → Int} (h : Tab w g n m r T k) {y : Nat → Int} (hq : w.rowIs q 3 m (fun i => .int .i64 (y i))) (hg : g < q) (hr : ∀ j, j < k → r j < q) :
    Tab (w.setCell ⟨g, k, none⟩ (.slice (some ⟨q, 0, none⟩) m m)) g n m (fun j => if j = k then q else r j) (fun x i => if x = k then y i else T x i) (k + 1) := by
  refine ⟨(h.outer.set k _).congr fun j hj => ?_, fun j hj => ?_, fun j hj => ?_, fun i j hi hj e => ?_⟩
  · by_cases e : j = k
    · subst e; simp
    · rw [if_neg e, if_neg e]
      by_cases e2 : j < k
      · rw [if_pos e2, if_pos (by omega)]
      · rw [if_neg e2, if_neg (by omega)]
  · by_cases e : j = k
    · subst e; simp only [if_true]; exact hq.setOther (by show q ≠ g; omega) _
    · simp only [if_neg e]; exact (h.inner j (by omega)).setOther (by have := h.above j (by omega); show r j ≠ g; omega) _
  · show g < (if _ then _ else _)
    split
    · omega
    · exact h.above j (by omega)
  · by_cases e1 : i = k <;> by_cases e2 : j = k
    · omega
    · subst e1; simp only [if_true, if_neg e2] at e; have := hr j (by omega); omega
    · subst e2; simp only [if_true, if_neg e1] at e; have := hr i (by omega); omega
    · simp only [if_neg e1, if_neg e2] at e; exact h.inj i j (by omega) (by omega) e

theorem noTimes_any (n : Nat) (w : World) (hn : n ≤ 1048576) :
    Calls Tryd.prog 58 #[.int .i64 n] w fun e w' => e = .returned (.slice (some ⟨w.heap.size, 0, none⟩) n n) ∧ w'.rowIs w.heap.size 3 n (fun _ => .int .i64 (-1)) ∧ Below w.heap.size w w' := by
  have hmk := run_make_row' (P := Tryd.prog) 36 3 (.int .i64 0) 8 Tryd.underlying36 info3 rfl .i64 .i64 n (by omega) (by omega)
  go_enter Tryd.func58, Tryd.ntmps58
  go_wp2
  clear hmk
  go_loopw [9] (fun i wr => ∃ k : Nat, k ≤ n ∧ i = .int .i64 k ∧ wr.rowIs w.heap.size 3 n (fun j => if j < k then .int .i64 (-1) else .int .i64 0) ∧ Below w.heap.size w wr) (fun i _ => n - (intOf i).toNat)
  case atStart => exact ⟨0, by omega, rfl, (World.rowIs_made w _ n 3).congr (fun j _ => by simp), (Below.refl _ _).alloc (Nat.le_refl _) _⟩
  case round =>
    obtain ⟨k, hk, rfl, hrow, hbel⟩ := hrel
    by_cases hlt : k < n
    · have c2 := hrow.cell hlt
      have c3 := hrow.frozen k
      have hltz : (k : Int) < (n : Int) := by omega
      simp only [Nat.lt_irrefl, if_false] at c2
      go_wp2
      go_roundw
      case rel => exact ⟨k + 1, by omega, by go_num, (hrow.set k _).congr (fun j hj => by
        by_cases e : j = k
        · subst e; simp
        · rw [if_neg e]
          by_cases e2 : j < k
          · rw [if_pos e2, if_pos (by omega)]
          · rw [if_neg e2, if_neg (by omega)]), hbel.setCell (Nat.le_refl _) _⟩
      case measure => simp [intOf] <;> omega
    · have : k = n := by omega
      subst this
      go_wp2
      go_ret
      exact ⟨rfl, hrow.congr (fun j hj => by rw [if_pos hj]), hbel⟩

/-- It returns a new table of n rows of n numbers, of which F holds. -/
def RetTab (n : Nat) (F : (Nat → Nat → Int) → Prop) (w : World) (e : Ending) (w' : World) : Prop :=
  ∃ g r T, e = .returned (.slice (some ⟨g, 0, none⟩) n n) ∧ Tab w' g n n r T n ∧ F T ∧ w.heap.size ≤ g ∧ Below w.heap.size w w'

theorem madeT (w : World) (n : Nat) : Tab (w.alloc (.cells (madeCells #[.slice none 0 0] n) 36)) w.heap.size n n (fun _ => 0) (fun _ _ => 0) 0 :=
  ⟨(World.rowIs_made w _ n 36).congr (fun j _ => by simp), fun j hj => absurd hj (by omega), fun j hj => absurd hj (by omega), fun i j hi => absurd hi (by omega)⟩

set_option maxHeartbeats 1600000 in
theorem passageTimes_any (P Q : Option Addr) (D : SrchD) (c d : Nat) (w : World) (hx : SrchAt w P Q D) (hok : SrchOk D) :
    Calls Tryd.prog 64 #[.agg #[.int .i64 D.s, .slice P D.m c, .slice Q D.k d]] w (RetTab D.k (fun T => PT D D.m T) w) := by
  have hsk := hok.2.2.1
  have hk7 : D.k ≤ 7 := by have := hok.1.2; omega
  have hm10 := hok.2.1
  have hmk := run_make_row' (P := Tryd.prog) 63 36 (.slice none 0 0) 24 Tryd.underlying63 info36 rfl .i64 .i64 D.k (by omega) (by omega)
  have HS : Hid (D.s = (D.k : Int)) := hsk.symm
  rw [← hsk]
  have HOK := hid hok
  clear hsk hok
  have hB := Blk.new w 26 #[.int .i64 D.k, .slice P D.m c, .slice Q D.k d]
  have hw1 := below_alloc1 w (.cells #[.int .i64 D.k, .slice P D.m c, .slice Q D.k d] 26)
  have hB2 := hB.alloc (.cells (madeCells #[.slice none 0 0] D.k) 36)
  have hT0 := madeT (w.alloc (.cells #[.int .i64 D.k, .slice P D.m c, .slice Q D.k d] 26)) D.k
  simp only [World.size_alloc] at hT0
  have hw2 := below_alloc hw1 (.cells (madeCells #[.slice none 0 0] D.k) 36)
  go_enter Tryd.func64, Tryd.ntmps64
  go_wp2
  clear hmk
  go_loopw [12] (fun i wr => ∃ k : Nat, ∃ r T, k ≤ D.k ∧ i = .int .i64 k ∧ Tab wr (w.heap.size + 1) D.k D.k r T k ∧ (∀ j, j < k → r j < wr.heap.size ∧ ∀ y, T j y = -1) ∧ wr.heap[w.heap.size]? = some (.cells #[.int .i64 D.k, .slice P D.m c, .slice Q D.k d] 26 (0, 0)) ∧ Below w.heap.size w wr) (fun i _ => D.k - (intOf i).toNat)
  case atStart => exact ⟨0, _, _, by omega, rfl, hT0, fun j hj => absurd hj (by omega), hB2, hw2⟩
  case round =>
    obtain ⟨k, r, T, hk, rfl, hT, hr, hbl, hbel⟩ := hrel
    have hb : Blk wr w.heap.size 26 #[.int .i64 D.k, .slice P D.m c, .slice Q D.k d] := hbl
    have HR := hid hr
    have HT := hid hT
    have y0 := hb.cell (i := 0) rfl
    have y1 := hb.cell (i := 1) rfl
    have y2 := hb.cell (i := 2) rfl
    have HB := hid hb
    have hbel' := hid hbel
    clear hr hbl hb hT hbel hT0 hB hB2 hw1 hw2
    by_cases hlt : k < D.k
    · have hltz : (k : Int) < (D.k : Int) := by omega
      go_wp2_with fail
      refine (noTimes_any D.k wr (by omega)).mono ?_
      rintro e w1 ⟨rfl, hrow, hb1⟩
      have hT1 := HT.out.below hb1
      have c1 := hT1.outer.cell hlt
      have c2 := hT1.outer.frozen k
      simp only [Nat.lt_irrefl, if_false] at c1
      have HT1 := hid hT1
      have HROW := hid hrow
      have HB1 := hid hb1
      have hgt : w.heap.size + 1 < wr.heap.size := HT.out.outer.lt
      clear hT1 hrow hb1
      go_wp2
      go_roundw
      case rel => exact ⟨k + 1, _, _, by omega, by go_num, HT1.out.push HROW.out hgt (fun j hj => (HR.out j hj).1), fun j hj => by
          have hsz : wr.heap.size < w1.heap.size := HROW.out.lt
          by_cases e : j = k
          · subst e; simp [World.size_setCell]; omega
          · have := (HR.out j (by omega)).1
            simp only [if_neg e, World.size_setCell]
            exact ⟨by omega, (HR.out j (by omega)).2⟩, (HB.out.below HB1.out).far (p := ⟨w.heap.size + 1, k, none⟩) (by show w.heap.size ≠ w.heap.size + 1; omega) _, (Below.then_ hbel'.out HB1.out).setCell (by show w.heap.size ≤ w.heap.size + 1; omega) _⟩
      case measure => simp [intOf] <;> omega
    · have : k = D.k := by omega
      subst this
      have hT2 := HT.out.congr (U := fun _ _ => -1) (fun x y hx' _ => (HR.out x hx').2 y)
      have HT2 := hid hT2
      have HX := hid hx
      clear hT2 HT HR HB hx
      go_wp2
      go_loopw [25] (fun i wr' => ∃ j : Nat, ∃ T', j ≤ D.m ∧ i = .int .i64 j ∧ Tab wr' (w.heap.size + 1) D.k D.k r T' D.k ∧ PT D j T' ∧ Below w.heap.size w wr') (fun i _ => D.m - (intOf i).toNat)
      case atStart => exact ⟨0, _, by omega, rfl, HT2.out, PT.start, hbel'.out⟩
      case round =>
        obtain ⟨j, T', hj, rfl, hT, hpt, hbel⟩ := hrel
        have HPT := hid hpt
        have HB' := hid hbel
        clear hpt y0 y1 y2
        by_cases hlt : j < D.m
        · have hltz : (j : Int) < (D.m : Int) := by omega
          obtain ⟨⟨q1, q2⟩, ⟨q3, q4⟩, q5, q6, q7⟩ := HOK.out.2.2.2 j hlt
          rw [HS.out] at q2 q4
          obtain ⟨b, o, rfl, a1, a2, a3⟩ := (HX.out.below hbel).pas.at_ hlt
          obtain ⟨x, hxx⟩ := Int.eq_ofNat_of_zero_le q1
          obtain ⟨y, hyy⟩ := Int.eq_ofNat_of_zero_le q3
          have hX : (D.a j).toNat = x := by omega
          have hY : (D.b j).toNat = y := by omega
          rw [hxx] at a1
          rw [hyy] at a2
          have lx : x < D.k := by omega
          have ly : y < D.k := by omega
          have lxz : (x : Int) < (D.k : Int) := by omega
          have lyz : (y : Int) < (D.k : Int) := by omega
          have hT1 := hT.alloc (.cells #[.int .i64 x, .int .i64 y, .int .i64 (D.t j)] 31)
          have hBx := Blk.new wr 31 #[.int .i64 x, .int .i64 y, .int .i64 (D.t j)]
          have s1 := sub_cell (hT1.row lx lx)
          have s2 := sub_cell (hT1.cell lx ly)
          have s3 := sub_cell (hBx.cell (i := 0) rfl)
          have s4 := sub_cell (hBx.cell (i := 1) rfl)
          have s5 := sub_cell (hBx.cell (i := 2) rfl)
          have HT1 := hid hT1
          have HBX := hid hBx
          have hrx : r x < wr.heap.size := (hT.inner x lx).lt
          have hry : r y < wr.heap.size := (hT.inner y ly).lt
          have hgx := hT.above x lx
          have hgy := hT.above y ly
          clear hT hT1 hBx hxx hyy hbel q1 q2 q3 q4
          by_cases hneg : T' x y < 0
          · have e1 : decide (T' x y < 0) = true := decide_eq_true hneg
            go_wp2
            refine wp_region_sub (by kernel_rfl) (by kernel_rfl) ?_
            repeat (go_big_quiet_step ((fail)))
            refine wpQuiet_nil ?_
            intro _ hw'
            obtain ⟨s, hw''⟩ := hw'
            subst hw''
            go_wp2
            have hsv := s.h
            generalize s.val = v at hsv ⊢
            clear s1 s2 s3 s4 s5
            have HSV := hid hsv
            have hTv := HT1.out.below hsv
            have hBv := HBX.out.below hsv
            have s1 := hTv.row lx lx
            have s2 := hTv.froz lx y
            have s2' := hTv.cell lx ly
            have s3 := hBv.cell (i := 0) rfl
            have s4 := hBv.cell (i := 1) rfl
            have s5 := hBv.cell (i := 2) rfl
            have hTu := (hTv.set lx y (D.t j)).drew
            have hBu : Blk (v.setCell ⟨r x, y, none⟩ (.int .i64 (D.t j))).drew _ _ _ := hBv.far (p := ⟨r x, y, none⟩) (by show wr.heap.size ≠ r x; omega) _
            have hbu : Below w.heap.size w (v.setCell ⟨r x, y, none⟩ (.int .i64 (D.t j))).drew := ((Below.then_ (below_alloc HB'.out _) hsv).setCell (by show w.heap.size ≤ r x; omega) _).drew
            have HTU := hid hTu
            have HBU := hid hBu
            have HBEL := hid hbu
            clear hTv hBv hsv hTu hBu hbu
            go_region
            clear s1 s2 s2' s3 s4 s5
            have hTu := HTU.out
            have hBu := HBU.out
            have hbu := HBEL.out
            clear HTU HBU HBEL HSV
            generalize (v.setCell ⟨r x, y, none⟩ (.int .i64 (D.t j))).drew = u at hTu hBu hbu ⊢
            have s1 := hTu.row ly ly
            have s2 := hTu.froz ly x
            have s2' := hTu.cell ly lx
            have s3 := hBu.cell (i := 0) rfl
            have s4 := hBu.cell (i := 1) rfl
            have s5 := hBu.cell (i := 2) rfl
            have HTU := hid hTu
            have HBEL := hid hbu
            clear hTu hBu hbu
            go_wp2
            go_region
            go_wp2
            go_roundw
            case rel => exact ⟨j + 1, _, by omega, by go_num, (HTU.out.set ly x (D.t j)).drew, by have := HPT.out.set HOK.out hlt (by rw [hX, hY]; omega); rwa [hX, hY] at this, (HBEL.out.setCell (by show w.heap.size ≤ r y; omega) _).drew⟩
            case measure => simp [intOf] <;> omega
          · have e1 : decide (T' x y < 0) = false := decide_eq_false hneg
            by_cases hles : D.t j < T' x y
            · have e2 : decide (D.t j < T' x y) = true := decide_eq_true hles
              go_wp2
              refine wp_region_sub (by kernel_rfl) (by kernel_rfl) ?_
              repeat (go_big_quiet_step ((fail)))
              refine wpQuiet_nil ?_
              intro _ hw'
              obtain ⟨s, hw''⟩ := hw'
              subst hw''
              go_wp2
              have hsv := s.h
              generalize s.val = v at hsv ⊢
              clear s1 s2 s3 s4 s5
              have HSV := hid hsv
              have hTv := HT1.out.below hsv
              have hBv := HBX.out.below hsv
              have s1 := hTv.row lx lx
              have s2 := hTv.froz lx y
              have s2' := hTv.cell lx ly
              have s3 := hBv.cell (i := 0) rfl
              have s4 := hBv.cell (i := 1) rfl
              have s5 := hBv.cell (i := 2) rfl
              have hTu := (hTv.set lx y (D.t j)).drew
              have hBu : Blk (v.setCell ⟨r x, y, none⟩ (.int .i64 (D.t j))).drew _ _ _ := hBv.far (p := ⟨r x, y, none⟩) (by show wr.heap.size ≠ r x; omega) _
              have hbu : Below w.heap.size w (v.setCell ⟨r x, y, none⟩ (.int .i64 (D.t j))).drew := ((Below.then_ (below_alloc HB'.out _) hsv).setCell (by show w.heap.size ≤ r x; omega) _).drew
              have HTU := hid hTu
              have HBU := hid hBu
              have HBEL := hid hbu
              clear hTv hBv hsv hTu hBu hbu
              go_region
              clear s1 s2 s2' s3 s4 s5
              have hTu := HTU.out
              have hBu := HBU.out
              have hbu := HBEL.out
              clear HTU HBU HBEL HSV
              generalize (v.setCell ⟨r x, y, none⟩ (.int .i64 (D.t j))).drew = u at hTu hBu hbu ⊢
              have s1 := hTu.row ly ly
              have s2 := hTu.froz ly x
              have s2' := hTu.cell ly lx
              have s3 := hBu.cell (i := 0) rfl
              have s4 := hBu.cell (i := 1) rfl
              have s5 := hBu.cell (i := 2) rfl
              have HTU := hid hTu
              have HBEL := hid hbu
              clear hTu hBu hbu
              go_wp2
              go_region
              go_wp2
              go_roundw
              case rel => exact ⟨j + 1, _, by omega, by go_num, (HTU.out.set ly x (D.t j)).drew, by have := HPT.out.set HOK.out hlt (by rw [hX, hY]; omega); rwa [hX, hY] at this, (HBEL.out.setCell (by show w.heap.size ≤ r y; omega) _).drew⟩
              case measure => simp [intOf] <;> omega
            · have e2 : decide (D.t j < T' x y) = false := decide_eq_false hles
              go_wp2
              refine wp_region_sub (by kernel_rfl) (by kernel_rfl) ?_
              repeat (go_big_quiet_step ((fail)))
              refine wpQuiet_nil ?_
              intro _ hw'
              obtain ⟨s, hw''⟩ := hw'
              subst hw''
              go_wp2
              have hsv := s.h
              generalize s.val = v at hsv ⊢
              go_roundw
              case rel => exact ⟨j + 1, _, by omega, by go_num, HT1.out.below hsv, HPT.out.keep (by rw [hX, hY]; omega), Below.then_ (below_alloc HB'.out _) hsv⟩
              case measure => simp [intOf] <;> omega
        · have : j = D.m := by omega
          subst this
          go_wp2
          go_ret
          exact ⟨_, _, _, rfl, hT, HPT.out, by omega, hbel⟩
end Go.Proofs.YtlhcjbgcgbeocaaDoor
