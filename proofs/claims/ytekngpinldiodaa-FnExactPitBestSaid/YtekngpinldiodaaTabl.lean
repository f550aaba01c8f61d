/- Tables of numbers in memory that may be written. No condition. -/
import Derived.Test.YtekngpinldiodaaPay1
import Derived.BigRegion
namespace Go.Proofs.Ytekngpinldiodaa
open Go.RowKit

theorem below_alloc {w w' : World} (h : Below w.heap.size w w') (o : Obj) : Below w.heap.size w (w'.alloc o) := h.alloc h.size o
theorem below_alloc1 (w : World) (o : Obj) : Below w.heap.size w (w.alloc o) := (Below.refl _ _).alloc (Nat.le_refl _) o

/-- Of n rows of m numbers the first k: the rows' block is g, row j's block is r j. -/
structure Tab (w : World) (g n m : Nat) (r : Nat → Nat) (T : Nat → Nat → Int) (k : Nat) : Prop where
  outer : w.rowIs g 33 n (fun j => if j < k then .slice (some ⟨r j, 0, none⟩) m m else .slice none 0 0)
  inner : ∀ j, j < k → w.rowIs (r j) 3 m (fun i => .int .i64 (T j i))
  above : ∀ j, j < k → g < r j
  inj : ∀ i j, i < k → j < k → r i = r j → i = j

theorem Tab.below {w w' : World} {g n m k : Nat} {r : Nat → Nat} {T : Nat → Nat → Int} (h : Tab w g n m r T k) (hb : Below w.heap.size w w') : Tab w' g n m r T k :=
  ⟨row_below hb h.outer, fun j hj => row_below hb (h.inner j hj), h.above, h.inj⟩
theorem Tab.drew {w : World} {g n m k : Nat} {r : Nat → Nat} {T : Nat → Nat → Int} (h : Tab w g n m r T k) : Tab w.drew g n m r T k := h.below (Below.refl _ _).drew
theorem Tab.alloc {w : World} {g n m k : Nat} {r : Nat → Nat} {T : Nat → Nat → Int} (h : Tab w g n m r T k) (o : Obj) : Tab (w.alloc o) g n m r T k := h.below (below_alloc1 _ _)
theorem Tab.set {w : World} {g n m k : Nat} {r : Nat → Nat} {T : Nat → Nat → Int} (h : Tab w g n m r T k) {a : Nat} (ha : a < k) (b : Nat) (v : Int) :
    Tab (w.setCell ⟨r a, b, none⟩ (.int .i64 v)) g n m r (fun x y => if x = a ∧ y = b then v else T x y) k := by
  refine ⟨h.outer.setOther (by have := h.above a ha; show g ≠ r a; omega) _, fun j hj => ?_, h.above, h.inj⟩
  by_cases e : j = a
  · subst e
    refine ((h.inner j hj).set b _).congr fun i _ => ?_
    by_cases e2 : i = b
    · subst e2; simp
    · simp [e2]
  · refine ((h.inner j hj).setOther (fun e2 => e (h.inj _ _ hj ha e2)) _).congr fun i _ => ?_
    rw [if_neg (fun x => e x.1)]
theorem Tab.cell {w : World} {g n m k : Nat} {r : Nat → Nat} {T : Nat → Nat → Int} (h : Tab w g n m r T k) {a b : Nat} (ha : a < k) (hb : b < m) : w.cell? ⟨r a, b, none⟩ = some (.int .i64 (T a b)) := (h.inner a ha).cell hb
theorem Tab.froz {w : World} {g n m k : Nat} {r : Nat → Nat} {T : Nat → Nat → Int} (h : Tab w g n m r T k) {a : Nat} (ha : a < k) (b : Nat) : w.frozen? ⟨r a, b, none⟩ = false := (h.inner a ha).frozen b
theorem Tab.row {w : World} {g n m k : Nat} {r : Nat → Nat} {T : Nat → Nat → Int} (h : Tab w g n m r T k) {a : Nat} (ha : a < k) (hn : a < n) : w.cell? ⟨g, a, none⟩ = some (.slice (some ⟨r a, 0, none⟩) m m) := by
  rw [h.outer.cell hn, if_pos ha]
theorem Tab.ints {w : World} {g n m k : Nat} {r : Nat → Nat} {T : Nat → Nat → Int} (h : Tab w g n m r T k) {a : Nat} (ha : a < k) : Ints w (some ⟨r a, 0, none⟩) m (T a) := Rd.of_row (h.inner a ha)
theorem Tab.congr {w : World} {g n m k : Nat} {r : Nat → Nat} {T U : Nat → Nat → Int} (h : Tab w g n m r T k) (e : ∀ x y, x < k → y < m → T x y = U x y) : Tab w g n m r U k :=
  ⟨h.outer, fun j hj => (h.inner j hj).congr fun i hi => by rw [e j i hj hi], h.above, h.inj⟩
/-- A further row. -/
theorem Tab.push {w : World} {g n m k q : Nat} {r : Nat → Nat} {T : Nat → Nat → Int} (h : Tab w g n m r T k) {y : Nat → Int} (hq : w.rowIs q 3 m (fun i => .int .i64 (y i))) (hg : g < q) (hr : ∀ j, j < k → r j < q) :
    Tab (w.setCell ⟨g, k, none⟩ (.slice (some ⟨q, 0, none⟩) m m)) g n m (fun j => if j = k then q else r j) (fun x i => if x = k then y i else T x i) (k + 1) := by
  refine ⟨(h.outer.set k _).congr fun j hj => ?_, fun j hj => ?_, fun j hj => ?_, fun i j hi hj e => ?_⟩
  · by_cases e : j = k
    · subst e; simp
    · rw [if_neg e, if_neg e]
      by_cases e2 : j < k
      · rw [if_pos e2, if_pos (by omega)]
      · rw [if_neg e2, if_neg (by omega)]
  · by_cases e : j = k
    · subst e; simp only [if_true]; exact hq.setOther (by show q ≠ g; omega) _
    · simp only [if_neg e]; exact (h.inner j (by omega)).setOther (by have := h.above j (by omega); show r j ≠ g; omega) _
  · show g < (if _ then _ else _)
    split
    · omega
    · exact h.above j (by omega)
  · by_cases e1 : i = k <;> by_cases e2 : j = k
    · omega
    · subst e1; simp only [if_true, if_neg e2] at e; have := hr j (by omega); omega
    · subst e2; simp only [if_true, if_neg e1] at e; have := hr i (by omega); omega
    · simp only [if_neg e1, if_neg e2] at e; exact h.inj i j (by omega) (by omega) e

theorem noTimes_any (n : Nat) (w : World) (hn : n ≤ 1048576) :
    Calls Try.prog 66 #[.int .i64 n] w fun e w' => e = .returned (.slice (some ⟨w.heap.size, 0, none⟩) n n) ∧ w'.rowIs w.heap.size 3 n (fun _ => .int .i64 (-1)) ∧ Below w.heap.size w w' := by
  have hmk := run_make_row' (P := Try.prog) 33 3 (.int .i64 0) 8 Try.underlying33 info3 rfl .i64 .i64 n (by omega) (by omega)
  go_enter Try.func66, Try.ntmps66
  go_wp2
  clear hmk
  go_loopw [9] (fun i wr => ∃ k : Nat, k ≤ n ∧ i = .int .i64 k ∧ wr.rowIs w.heap.size 3 n (fun j => if j < k then .int .i64 (-1) else .int .i64 0) ∧ Below w.heap.size w wr) (fun i _ => n - (intOf i).toNat)
  case atStart => exact ⟨0, by omega, rfl, (World.rowIs_made w _ n 3).congr (fun j _ => by simp), (Below.refl _ _).alloc (Nat.le_refl _) _⟩
  case round =>
    obtain ⟨k, hk, rfl, hrow, hbel⟩ := hrel
    by_cases hlt : k < n
    · have c2 := hrow.cell hlt
      have c3 := hrow.frozen k
      have hltz : (k : Int) < (n : Int) := by omega
      simp only [Nat.lt_irrefl, if_false] at c2
      go_wp2
      go_roundw
      case rel => exact ⟨k + 1, by omega, by go_num, (hrow.set k _).congr (fun j hj => by
        by_cases e : j = k
        · subst e; simp
        · rw [if_neg e]
          by_cases e2 : j < k
          · rw [if_pos e2, if_pos (by omega)]
          · rw [if_neg e2, if_neg (by omega)]), hbel.setCell (Nat.le_refl _) _⟩
      case measure => simp [intOf] <;> omega
    · have : k = n := by omega
      subst this
      go_wp2
      go_ret
      exact ⟨rfl, hrow.congr (fun j hj => by rw [if_pos hj]), hbel⟩

/-- It returns a new table of n rows of n numbers, of which F holds. -/
def RetTab (n : Nat) (F : (Nat → Nat → Int) → Prop) (w : World) (e : Ending) (w' : World) : Prop :=
  ∃ g r T, e = .returned (.slice (some ⟨g, 0, none⟩) n n) ∧ Tab w' g n n r T n ∧ F T ∧ w.heap.size ≤ g ∧ Below w.heap.size w w'

theorem madeT (w : World) (n : Nat) : Tab (w.alloc (.cells (madeCells #[.slice none 0 0] n) 33)) w.heap.size n n (fun _ => 0) (fun _ _ => 0) 0 :=
  ⟨(World.rowIs_made w _ n 33).congr (fun j _ => by simp), fun j hj => absurd hj (by omega), fun j hj => absurd hj (by omega), fun i j hi => absurd hi (by omega)⟩


theorem squareOf_any (n : Nat) (w : World) (hn : n ≤ 1048576) :
    Calls Try.prog 65 #[.int .i64 n] w (RetTab n (fun T => ∀ x y, T x y = 0) w) := by
  have hmk := run_make_row' (P := Try.prog) 39 33 (.slice none 0 0) 24 Try.underlying39 info33 rfl .i64 .i64 n (by omega) (by omega)
  have hmk2 := run_make_row' (P := Try.prog) 33 3 (.int .i64 0) 8 Try.underlying33 info3 rfl .i64 .i64 n (by omega) (by omega)
  go_enter Try.func65, Try.ntmps65
  go_wp2
  clear hmk
  go_loopw [9] (fun i wr => ∃ k : Nat, ∃ r, k ≤ n ∧ i = .int .i64 k ∧ Tab wr w.heap.size n n r (fun _ _ => 0) k ∧ (∀ j, j < k → r j < wr.heap.size) ∧ Below w.heap.size w wr) (fun i _ => n - (intOf i).toNat)
  case atStart => exact ⟨0, _, by omega, rfl, madeT w n, fun j hj => absurd hj (by omega), below_alloc1 w _⟩
  case round =>
    obtain ⟨k, r, hk, rfl, hT, hr, hbel⟩ := hrel
    by_cases hlt : k < n
    · have hltz : (k : Int) < (n : Int) := by omega
      have hT1 := hT.alloc (.cells (madeCells #[.int .i64 0] n) 3)
      have hrow := World.rowIs_made wr (.int .i64 0) n 3
      have c1 := hT1.outer.cell hlt
      have c2 := hT1.outer.frozen k
      simp only [Nat.lt_irrefl, if_false] at c1
      have hgt : w.heap.size < wr.heap.size := hT.outer.lt
      have hsw := World.setCell_alloc_past (w := wr) (.cells (madeCells #[.int .i64 0] n) 3) w.heap.size k (.slice (some ⟨wr.heap.size, 0, none⟩) n n) hgt
      have HP := hid (hT1.push (y := fun _ => 0) hrow hgt (fun j hj => hr j hj))
      rw [hsw] at HP
      have HB := hid ((below_alloc hbel (.cells (madeCells #[.int .i64 0] n) 3)).setCell (p := ⟨w.heap.size, k, none⟩) (Nat.le_refl _) (.slice (some ⟨wr.heap.size, 0, none⟩) n n))
      rw [hsw] at HB
      have HR := hid hr
      clear hT1 hrow hT hr hsw
      go_wp2
      go_roundw
      case rel => exact ⟨k + 1, _, by omega, by go_num, HP.out.congr (fun x y _ _ => by split <;> rfl), fun j hj => by
        show (if j = k then wr.heap.size else r j) < _
        rw [World.size_alloc, World.size_setCell]
        split
        · omega
        · have := HR.out j (by omega); omega, HB.out⟩
      case measure => simp [intOf] <;> omega
    · have : k = n := by omega
      subst this
      go_wp2
      go_ret
      exact ⟨_, _, _, rfl, hT, fun _ _ => rfl, Nat.le_refl _, hbel⟩
end Go.Proofs.Ytekngpinldiodaa
