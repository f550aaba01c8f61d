/- slices.SortStableFunc at the indices of at most nine sills, and slices.Sort. -/
import Derived.Test.YtahbfifnpceoeaaDoorSort1
import Derived.Shelf.Slices.In.SortNone
import Derived.Lib.SortBridge
namespace Go.Proofs.YtahbfifnpceoeaaDoor
open Go.RowKit

def encF (n : Nat) (x : F n) : Value := .int .i64 ((x.val : Nat) : Int)
def cfH (h : Nat → Int) (n : Nat) (x y : F n) : Int := cmpI (h x.val) (h y.val)
theorem ltOf_H (h : Nat → Int) (n : Nat) : ltOf (cfH h n) = ltH h := by
  funext x y
  unfold ltOf cfH ltH cmpI
  congr 1
  apply propext
  split
  · simp [*]
  · split <;> simp [*] <;> omega
theorem sw_cell {n : Nat} {w : World} {g m : Nat} {dk : Array (F n)} {os : Array Obj} {a : Addr} {v : Value} (h : w.cell? a = some v) (hg : a.block ≠ g) : (Go.Proofs.sortWorld (encF n) w g 0 m dk os).cell? a = some v := by
  unfold Go.Proofs.sortWorld
  have h1 : (Sort.putRow (encF n) (Sort.ahead w m) g 0 dk).cell? a = some v := by
    rw [Sort.cell?_putRow_other _ _ _ _ _ _ (.inl hg)]
    exact h
  rw [Sort.cell?_grow _ os _ (World.block_lt_of_cell? _ _ h1)]
  exact h1

theorem ins_any (D : CaveD) (n : Nat) (hm : D.m = n + 1) (h9 : D.m ≤ 9) (g cap bx bs os e : Nat) (w : World) (hH : Sort.Holds (encF n) w g 0 (idF n)) (c2 : w.cell? ⟨bx, 2, none⟩ = some (.slice (some ⟨bs, os, none⟩) D.m e))
    (ha : ∀ k, k < D.m → w.cell? ⟨bs, os + k * 3 + 2, none⟩ = some (.int .i64 (D.h k))) (hbx : bx ≠ g) (hbs : bs ≠ g) :
    Calls Tryd.prog 83 #[.slice (some ⟨g, 0, none⟩) (n + 1) cap, .int .i64 0, .int .i64 ((n + 1 : Nat) : Int), .func (.func 55) #[] #[.pointer (some ⟨bx, 0, none⟩)]] w fun e w' =>
      e = .returned (.tuple #[]) ∧ ∃ q, w' = (Sort.putRow (encF n) w g 0 (srtF D.h n)).drewN q := by
  have eg : ∀ args w, (callFunc 55 args).run Tryd.prog w = .ok (.enter 55 args) w := enters_of Tryd.func55 (by kernel_rfl) rfl
  have hc : Go.Proofs.CmpReads Tryd.prog 55 #[.pointer (some ⟨bx, 0, none⟩)] (encF n) (cfH D.h n) g 0 (idF n).size w := fun m os' dk hdk x y =>
    closure_any bx bs os D.m e D.h x.val y.val (by have := x.isLt; omega) (by have := y.isLt; omega) _ (sw_cell c2 hbx) (sw_cell (ha x.val (by have := x.isLt; omega)) hbs) (sw_cell (ha y.val (by have := y.isLt; omega)) hbs)
  have h := Go.Proofs.Any.insertionSortCmpFunc_one Tryd.insL (encF n) (fun _ => rfl) (cfH D.h n) 55 #[.pointer (some ⟨bx, 0, none⟩)] g 0 cap 0 (n + 1) (idF n) w eg hc hH (Nat.zero_le _) (by rw [idF_size]; exact Nat.le_refl _) (by rw [idF_size]; omega)
  rw [idF_size, ltOf_H] at h
  exact h

/-- Nothing to sort. -/
theorem ins_none (v : Value) (p : Option Addr) (c : Nat) (w : World) :
    Calls Tryd.prog 83 #[.slice p 0 c, .int .i64 0, .int .i64 0, v] w fun e w' => e = .returned (.tuple #[]) ∧ w' = w := by
  go_enter Tryd.func83, Tryd.ntmps83
  go_wp2
  refine wp_loop_rounds 1 ?_
  rw [rounds_succ]
  go_wp2
  go_end0
  exact ⟨rfl, rfl⟩

/-- slices.SortStableFunc, off what the insertion sort does. -/
theorem stable_of (p : Option Addr) (m c : Nat) (hm : m ≤ 9) (v : Value) (w : World) (R : World → Prop)
    (h : Calls Tryd.prog 83 #[.slice p m c, .int .i64 0, .int .i64 m, v] w fun e w' => e = .returned (.tuple #[]) ∧ R w') :
    Calls Tryd.prog 54 #[.slice p m c, v] w fun e w' => e = .returned (.tuple #[]) ∧ R w' := by
  have HI := hid h
  clear h
  have hz : (m : Int) ≤ 9 := by omega
  have hs : Calls Tryd.prog 74 #[.slice p m c, .int .i64 m, v] w fun e w' => e = .returned (.tuple #[]) ∧ R w' := by
    go_enter Tryd.func74, Tryd.ntmps74
    go_wp2
    refine wp_loop_rounds 1 ?_
    rw [rounds_succ]
    go_wp2_with fail
    refine HI.out.mono ?_
    rintro e w1 ⟨rfl, hR⟩
    have HR := hid hR
    clear hR
    go_wp2
    refine wp_loop_rounds 1 ?_
    rw [rounds_succ]
    go_wp2
    go_end0
    exact ⟨rfl, HR.out⟩
  have HS := hid hs
  clear hs
  go_enter Tryd.func54, Tryd.ntmps54
  go_wp2_with fail
  refine HS.out.mono ?_
  rintro e w1 ⟨rfl, hR⟩
  have HR := hid hR
  clear hR
  go_wp2
  go_end0
  exact ⟨rfl, HR.out⟩
end Go.Proofs.YtahbfifnpceoeaaDoor
