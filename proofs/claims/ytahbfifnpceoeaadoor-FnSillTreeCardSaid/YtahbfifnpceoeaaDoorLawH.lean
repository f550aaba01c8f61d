/- SillsHigh by value, whatever the arguments; and what its sums hold. Lists are at most 2^20 long. -/
import Derived.Test.YtahbfifnpceoeaaDoorLawV
namespace Go.Proofs.YtahbfifnpceoeaaDoor
open Go.RowKit

section
open Classical
noncomputable def shV (D : CaveD) (n : Nat) (y : Nat → Int) : Int := if ShOk D n y then shF D y n else -1
theorem shV_yes {D : CaveD} {n : Nat} {y : Nat → Int} (h : ShOk D n y) : shV D n y = shF D y n := if_pos h
theorem shV_no {D : CaveD} {n : Nat} {y : Nat → Int} (h : ¬ ShOk D n y) : shV D n y = -1 := if_neg h
end
set_option maxRecDepth 20000 in
theorem SillsHigh_impl0 (F G S : Option Addr) (D : CaveD) (c d e : Nat) (A : Option Addr) (n cu : Nat) (y : Nat → Int) (w : World) (hx : CaveAt w F G S D) (hs : CaveSmall D) (hi : Ints w A n y) (hn : n ≤ 1048576) (hno : ¬ ShOk D n y) :
    Calls Tryd.prog 24 #[.agg #[.slice F D.n c, .slice G D.q d, .slice S D.m e], .slice A n cu] w (RetV (.int .i64 (-1)) w) := by
  have HX := hid hx
  have HI := hid hi
  have hB := hid (Blk.new w 26 #[.slice F D.n c, .slice G D.q d, .slice S D.m e])
  have hw1 := hid (below_alloc1 w (.cells #[.slice F D.n c, .slice G D.q d, .slice S D.m e] 26))
  clear hx hi
  by_cases hok : CaveOk D
  · have HV := hid (fun w' hx' => RetB.yes (CaveValid_impl F G S D c d e w' hx' hs) hok)
    have HY : Hid (¬ ∀ j, j < n → 0 ≤ y j ∧ y j < (D.m : Int)) := hid (fun h => hno ⟨hok, h⟩)
    clear hok hno
    go_enter Tryd.func24, Tryd.ntmps24
    go_wp2_with fail
    refine (HV.out _ (HX.out.below hw1.out)).mono ?_
    rintro ex w1 ⟨rfl, hb1⟩
    have hB1 := hid (hB.out.below hb1)
    have y2 := hB1.out.cell (i := 2) rfl
    have HW1 := hid (Below.then_ hw1.out hb1)
    clear hb1 HV
    go_wp2_with (go_at_call 63; (with_reducible refine (RetBS.no (areIndices_any A n cu y (D.m : Int) _ (HI.out.below HW1.out) hn) HY.out).mono ?_); rintro e w' ⟨rfl, rfl⟩)
    go_ret
    exact ⟨rfl, HW1.out⟩
  · have HV := hid (fun w' hx' => RetB.no (CaveValid_impl F G S D c d e w' hx' hs) hok)
    clear hok hno
    go_enter Tryd.func24, Tryd.ntmps24
    go_wp2_with fail
    refine (HV.out _ (HX.out.below hw1.out)).mono ?_
    rintro ex w1 ⟨rfl, hb1⟩
    go_wp2
    go_ret
    exact ⟨rfl, Below.then_ hw1.out hb1⟩
theorem SillsHigh_spec0 (F G S : Option Addr) (D : CaveD) (c d e : Nat) (A : Option Addr) (n cu : Nat) (w : World) (hx : CaveAt w F G S D) (hs : CaveSmall D) (hok : ¬ CaveOk D) :
    Calls Tryd.prog 35 #[.agg #[.slice F D.n c, .slice G D.q d, .slice S D.m e], .slice A n cu] w (RetV (.int .i64 (-1)) w) := by
  have HX := hid hx
  have hw1 := hid (below_alloc1 w (.cells #[.slice F D.n c, .slice G D.q d, .slice S D.m e] 26))
  have HV := hid (fun w' hx' => RetB.no (CaveValid_spec F G S D c d e w' hx' hs) hok)
  clear hx hok
  go_enter Tryd.func35, Tryd.ntmps35
  go_wp2_with fail
  refine (HV.out _ (HX.out.below hw1.out)).mono ?_
  rintro ex w1 ⟨rfl, hb1⟩
  go_wp2
  go_ret
  exact ⟨rfl, Below.then_ hw1.out hb1⟩
theorem SillsHigh_implV (F G S : Option Addr) (D : CaveD) (c d e : Nat) (A : Option Addr) (n cu : Nat) (y : Nat → Int) (w : World) (hx : CaveAt w F G S D) (hs : CaveSmall D) (hi : Ints w A n y) (hn : n ≤ 1048576) :
    Calls Tryd.prog 24 #[.agg #[.slice F D.n c, .slice G D.q d, .slice S D.m e], .slice A n cu] w (RetV (.int .i64 (shV D n y)) w) := by
  by_cases h : ShOk D n y
  · rw [shV_yes h]
    exact SillsHigh_impl F G S D c d e A n cu y w hx hs hi hn h
  · rw [shV_no h]
    exact SillsHigh_impl0 F G S D c d e A n cu y w hx hs hi hn h
theorem SillsHigh_specV (F G S : Option Addr) (D : CaveD) (c d e : Nat) (A : Option Addr) (n cu : Nat) (y : Nat → Int) (w : World) (hx : CaveAt w F G S D) (hs : CaveSmall D) (hi : Ints w A n y) (hn : n ≤ 1048576) :
    Calls Tryd.prog 35 #[.agg #[.slice F D.n c, .slice G D.q d, .slice S D.m e], .slice A n cu] w (RetV (.int .i64 (shV D n y)) w) := by
  by_cases hok : CaveOk D
  · refine (SillsHigh_spec F G S D c d e A n cu y w hx hs hi hn hok).mono ?_
    rintro ex w' ⟨r, rfl, h1, h2, hb⟩
    by_cases h : SomeOk D n y
    · rw [shV_yes ⟨hok, h⟩, h1 h]; exact ⟨rfl, hb⟩
    · rw [shV_no (fun hh => h hh.2), h2 h]; exact ⟨rfl, hb⟩
  · rw [shV_no (fun hh => hok hh.1)]
    exact SillsHigh_spec0 F G S D c d e A n cu w hx hs hok
end Go.Proofs.YtahbfifnpceoeaaDoor
