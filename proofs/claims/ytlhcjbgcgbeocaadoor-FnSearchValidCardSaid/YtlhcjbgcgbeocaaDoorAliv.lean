/- alive(): the numbers' texts by the shelf's Itoa, under the laid table of the powers of ten. -/
import Derived.Test.YtlhcjbgcgbeocaaDoorLeaf
import Derived.Test.YtlhcjbgcgbeocaaDoorShelf
import Derived.Lib.LaidTab
import Derived.Lib.SmallJoins
import Derived.Lib.AppendIntMem
import Derived.MakeChecks
import Derived.Stop.LaidErr
namespace Go.Proofs.YtlhcjbgcgbeocaaDoor
open Go.RowKit

/-- The table of the powers of ten lies in this world. -/
def Pow10 (w : World) : Prop := Lib.TabIs Tryd.prog w "internal/strconv.uint64pow10" .u64 Lib.pow10Tab
theorem Pow10.below {w w' : World} (h : Pow10 w) (hb : Below w.heap.size w w') : Pow10 w' := Joins.tab_stays (P := Tryd.prog) (n := "internal/strconv.uint64pow10") (g := 0) (by kernel_rfl) h hb (Nat.le_refl _)

theorem itoa_ret (n : Int) (h0 : -9223372036854775808 ≤ n) (h1 : n ≤ 9223372036854775807) (s : ByteArray) (hs : ⟨(Lib.itoa n).toArray⟩ = s) (w : World) (ht : Pow10 w) :
    Calls Tryd.prog 67 #[.int .i64 n] w (RetV (.string s) w) := by
  subst hs
  refine (Tryd.strconv_Itoa n h0 h1 w ht).mono ?_
  rintro e w' ⟨rfl, k, os, rfl⟩
  exact ⟨rfl, Lib.below_grow _ _ (Nat.le_refl _) _ _⟩
theorem it0 (w : World) (ht : Pow10 w) : Calls Tryd.prog 67 #[.int .i64 0] w (RetV (.string ⟨#[48]⟩) w) := itoa_ret 0 (by decide) (by decide) _ (by simp [Lib.itoa, Lib.decDigits]) w ht
theorem it1 (w : World) (ht : Pow10 w) : Calls Tryd.prog 67 #[.int .i64 1] w (RetV (.string ⟨#[49]⟩) w) := itoa_ret 1 (by decide) (by decide) _ (by simp [Lib.itoa, Lib.decDigits]) w ht
theorem it2 (w : World) (ht : Pow10 w) : Calls Tryd.prog 67 #[.int .i64 2] w (RetV (.string ⟨#[50]⟩) w) := itoa_ret 2 (by decide) (by decide) _ (by simp [Lib.itoa, Lib.decDigits]) w ht
theorem it3 (w : World) (ht : Pow10 w) : Calls Tryd.prog 67 #[.int .i64 3] w (RetV (.string ⟨#[51]⟩) w) := itoa_ret 3 (by decide) (by decide) _ (by simp [Lib.itoa, Lib.decDigits]) w ht
theorem it4 (w : World) (ht : Pow10 w) : Calls Tryd.prog 67 #[.int .i64 (-4)] w (RetV (.string ⟨#[45, 52]⟩) w) := itoa_ret (-4) (by decide) (by decide) _ (by simp [Lib.itoa, Lib.decDigits]) w ht

theorem stepFits_y (n : Int) (w : World) (h1 : -99 ≤ n) (h2 : n ≤ 99) : Calls Tryd.prog 70 #[.int .i64 n] w (RetS (.bool true) w) := by
  go_enter Tryd.func70, Tryd.ntmps70
  go_wp2_with (go_at_call 72; refine (isWithin_y n 99 w (by omega) (by omega) (by omega) (by omega)).mono ?_; rintro e w' ⟨rfl, rfl⟩)
  go_ret
  exact ⟨rfl, rfl⟩

theorem legWay_1 (w : World) : Calls Tryd.prog 69 #[.agg #[.int .i64 0, .int .i64 1, .int .i64 3, .int .i64 (-4), .int .i64 2]] w (RetV (.agg #[.int .i64 3, .int .i64 (-4), .int .i64 2]) w) := by
  go_enter Tryd.func69, Tryd.ntmps69
  go_wp2
  refine bodyPost_ret (v := .agg #[.int .i64 3, .int .i64 (-4), .int .i64 2]) (by simp [results, Tryd.results69, go_sem]) rfl ⟨rfl, ?_⟩
  repeat (first | exact Below.refl _ _ | refine Below.setCell ?_ (by simp <;> omega) _ | refine Below.alloc ?_ (by simp <;> omega) _)

set_option maxRecDepth 100000 in
theorem wayText_1 (w : World) (ht : Pow10 w) : Calls Tryd.prog 68 #[.agg #[.int .i64 3, .int .i64 (-4), .int .i64 2]] w (RetV (.string ⟨#[51, 44, 45, 52, 44, 50]⟩) w) := by
  have hB := Blk.new w 82 #[.int .i64 3, .int .i64 (-4), .int .i64 2]
  have hw0 := Joins.below_alloc1 w (.cells #[.int .i64 3, .int .i64 (-4), .int .i64 2] 82)
  have s0 := sub_cell (hB.cell (i := 0) rfl)
  have s1 := sub_cell (hB.cell (i := 1) rfl)
  have s2 := sub_cell (hB.cell (i := 2) rfl)
  have HT : Hid (∀ s : Sub (w.alloc (.cells #[.int .i64 3, .int .i64 (-4), .int .i64 2] 82)), Pow10 s.val) := hid (fun s => (ht.below hw0).below s.h)
  go_enter Tryd.func68, Tryd.ntmps68
  go_wp2
  refine wp_region_sub (by kernel_rfl) (by kernel_rfl) ?_
  repeat (go_big_quiet_step ((first | (go_at_call 67; exact RetV.sub (it3 _ (HT.out _))) | (go_at_call 67; exact RetV.sub (it4 _ (HT.out _))) | (go_at_call 67; exact RetV.sub (it2 _ (HT.out _))))))
  refine wpQuiet_nil ?_
  intro _ hw'
  obtain ⟨s, hw''⟩ := hw'
  subst hw''
  go_wp2
  go_ret
  exact ⟨rfl, Below.then_ hw0 s.h⟩

theorem LegValid_1 (w : World) : Calls Tryd.prog 66 #[.int .i64 6, .agg #[.int .i64 0, .int .i64 1, .int .i64 3, .int .i64 (-4), .int .i64 2]] w (RetV (.bool true) w) := by
  go_enter Tryd.func66, Tryd.ntmps66
  go_wp2_with (first
    | (go_at_call 48; refine (isIndex_y _ _ _ (by decide) (by decide)).mono ?_; rintro e w' ⟨rfl, rfl⟩)
    | (go_at_call 70; refine (stepFits_y _ _ (by decide) (by decide)).mono ?_; rintro e w' ⟨rfl, rfl⟩))
  go_ret
  exact ⟨rfl, (Below.refl w.heap.size w).alloc (Nat.le_refl _) _⟩
theorem LegValid_0 (w : World) : Calls Tryd.prog 66 #[.int .i64 6, .agg #[.int .i64 0, .int .i64 0, .int .i64 0, .int .i64 0, .int .i64 0]] w (RetV (.bool false) w) := by
  go_enter Tryd.func66, Tryd.ntmps66
  go_wp2_with (first
    | (go_at_call 48; refine (isIndex_y _ _ _ (by decide) (by decide)).mono ?_; rintro e w' ⟨rfl, rfl⟩))
  go_ret
  exact ⟨rfl, (Below.refl w.heap.size w).alloc (Nat.le_refl _) _⟩

theorem LegText_0 (w : World) : Calls Tryd.prog 50 #[.agg #[.int .i64 0, .int .i64 0, .int .i64 0, .int .i64 0, .int .i64 0]] w (RetV (.string ⟨#[]⟩) w) := by
  have hw0 := Joins.below_alloc1 w (.cells #[.int .i64 0, .int .i64 0, .int .i64 0, .int .i64 0, .int .i64 0] 61)
  go_enter Tryd.func50, Tryd.ntmps50
  go_wp2_with fail
  refine (LegValid_0 _).mono ?_
  rintro e w1 ⟨rfl, hb1⟩
  go_wp2
  go_ret
  exact ⟨rfl, Below.then_ hw0 hb1⟩

set_option maxRecDepth 100000 in
theorem LegText_1 (w : World) (ht : Pow10 w) : Calls Tryd.prog 50 #[.agg #[.int .i64 0, .int .i64 1, .int .i64 3, .int .i64 (-4), .int .i64 2]] w (RetV (.string ⟨#[48, 62, 49, 58, 51, 44, 45, 52, 44, 50]⟩) w) := by
  have hB := Blk.new w 61 #[.int .i64 0, .int .i64 1, .int .i64 3, .int .i64 (-4), .int .i64 2]
  have hw0 := Joins.below_alloc1 w (.cells #[.int .i64 0, .int .i64 1, .int .i64 3, .int .i64 (-4), .int .i64 2] 61)
  go_enter Tryd.func50, Tryd.ntmps50
  go_wp2_with fail
  refine (LegValid_1 _).mono ?_
  rintro e w1 ⟨rfl, hb1⟩
  have hw1 := Below.then_ hw0 hb1
  have hB1 := hB.below hb1
  have s0 := sub_cell (hB1.cell (i := 0) rfl)
  have s1 := sub_cell (hB1.cell (i := 1) rfl)
  have s2 := sub_cell (hB1.cell (i := 2) rfl)
  have s3 := sub_cell (hB1.cell (i := 3) rfl)
  have s4 := sub_cell (hB1.cell (i := 4) rfl)
  have HT : Hid (∀ s : Sub w1, Pow10 s.val) := hid (fun s => (ht.below hw1).below s.h)
  clear hB hB1
  go_wp2_with fail
  refine wp_region_sub (by kernel_rfl) (by kernel_rfl) ?_
  repeat (go_big_quiet_step ((first | (go_at_call 67; exact RetV.sub (it0 _ (HT.out _))) | (go_at_call 67; exact RetV.sub (it1 _ (HT.out _))) | (go_at_call 69; exact RetV.sub (legWay_1 _)) | (go_at_call 68; exact RetV.sub (wayText_1 _ (HT.out _))))))
  refine wpQuiet_nil ?_
  intro _ hw'
  obtain ⟨s, hw''⟩ := hw'
  subst hw''
  go_wp2
  go_ret
  exact ⟨rfl, Below.then_ hw1 s.h⟩

theorem alive_any (w : World) (ht : Pow10 w) : Calls Tryd.prog 16 #[] w (RetV (.bool true) w) := by
  go_enter Tryd.func16, Tryd.ntmps16
  go_wp2_with fail
  refine (LegText_1 _ ht).mono ?_
  rintro e w1 ⟨rfl, hb1⟩
  go_wp2_with fail
  refine (LegText_0 _).mono ?_
  rintro e w2 ⟨rfl, hb2⟩
  go_wp2
  go_ret
  exact ⟨rfl, Below.then_ hb1 hb2⟩
end Go.Proofs.YtlhcjbgcgbeocaaDoor
