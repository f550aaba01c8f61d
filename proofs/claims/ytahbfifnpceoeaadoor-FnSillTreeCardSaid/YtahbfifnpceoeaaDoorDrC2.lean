/- The small draws of water: a level, a chamber. -/
import Derived.Test.YtahbfifnpceoeaaDoorDrC
namespace Go.Proofs.YtahbfifnpceoeaaDoor
open Go.RowKit

/-- It returned a number between these, and picked so often. -/
def RetN (lo hi : Int) (g p : Nat) (w : World) (e : Ending) (w' : World) : Prop := ∃ q : Int, e = .returned (.int .i64 q) ∧ (lo ≤ q ∧ q ≤ hi) ∧ Rdr w' g p ∧ Kept g (g + 1) w w'

theorem l20Level_any (g p : Nat) (w : World) (hr : Rdr w g p) (hp : p ≤ 100000) :
    Calls Tryd.prog 69 #[.pointer (some ⟨g, 0, none⟩)] w (RetN (-40) 76 g (p + 3) w) := by
  go_enter Tryd.func69, Tryd.ntmps69
  go_wp2_with fail
  refine (pick_any g p 36 _ hr (by omega) (by omega)).mono ?_
  rintro e w1 ⟨q1, rfl, h0, h1, hr1, hk1⟩
  go_wp2_with fail
  refine (pick_any g (p + 1) 30 _ hr1 (by omega) (by omega)).mono ?_
  rintro e w2 ⟨q2, rfl, h2, h3, hr2, hk2⟩
  go_wp2_with fail
  refine (pick_any g (p + 2) 30 _ hr2 (by omega) (by omega)).mono ?_
  rintro e w3 ⟨q3, rfl, h4, h5, hr3, hk3⟩
  go_wp2
  go_ret
  exact ⟨_, rfl, by omega, hr3, (hk1.trans hk2).trans hk3⟩

theorem l20Chamber_any (g p : Nat) (F G S : Option Addr) (D : CaveD) (c d e : Nat) (w : World) (hr : Rdr w g p) (hp : p ≤ 100000) (hn : D.n ≤ 20) :
    Calls Tryd.prog 71 #[.pointer (some ⟨g, 0, none⟩), .agg #[.slice F D.n c, .slice G D.q d, .slice S D.m e]] w (RetN (-8) 27 g (p + 3) w) := by
  have hB := Blk.new w 26 #[.slice F D.n c, .slice G D.q d, .slice S D.m e]
  have y0 := hB.cell (i := 0) rfl
  have hk0 : Kept g (g + 1) w (w.alloc (.cells #[.slice F D.n c, .slice G D.q d, .slice S D.m e] 26)) := (Kept.refl _ _ _).alloc _
  have hr0 := hr.below (below_alloc1 w (.cells #[.slice F D.n c, .slice G D.q d, .slice S D.m e] 26))
  go_enter Tryd.func71, Tryd.ntmps71
  go_wp2_with fail
  refine (pick_any g p _ _ hr0 (by omega) (by omega)).mono ?_
  rintro ex w1 ⟨q1, rfl, h0, h1, hr1, hk1⟩
  go_wp2_with fail
  refine (pick_any g (p + 1) 40 _ hr1 (by omega) (by omega)).mono ?_
  rintro ex w2 ⟨q2, rfl, h2, h3, hr2, hk2⟩
  go_wp2_with fail
  refine (pick_any g (p + 2) 40 _ hr2 (by omega) (by omega)).mono ?_
  rintro ex w3 ⟨q3, rfl, h4, h5, hr3, hk3⟩
  go_wp2
  go_ret
  exact ⟨_, rfl, by omega, hr3, ((hk0.trans hk1).trans hk2).trans hk3⟩

/-- It lies from block lo on: it reads so in every world that is as this one from there on. -/
def CaveHeld (lo : Nat) (w : World) (F G S : Option Addr) (D : CaveD) : Prop := ∀ w' : World, (∀ k, lo ≤ k → k < w.heap.size → w'.heap[k]? = w.heap[k]?) → CaveAt w' F G S D
theorem CaveHeld.at_ {lo : Nat} {w : World} {F G S : Option Addr} {D : CaveD} (h : CaveHeld lo w F G S D) : CaveAt w F G S D := h w (fun _ _ _ => rfl)
theorem CaveHeld.step {lo : Nat} {w w' : World} {F G S : Option Addr} {D : CaveD} (h : CaveHeld lo w F G S D) (hs : w.heap.size ≤ w'.heap.size) (hk : ∀ k, lo ≤ k → k < w.heap.size → w'.heap[k]? = w.heap[k]?) : CaveHeld lo w' F G S D :=
  fun w'' hk' => h w'' (fun k h1 h2 => (hk' k h1 (by omega)).trans (hk k h1 h2))
theorem CaveHeld.kept {lo g hi : Nat} {w w' : World} {F G S : Option Addr} {D : CaveD} (h : CaveHeld lo w F G S D) (hk : Kept g hi w w') (hg : hi ≤ lo) : CaveHeld lo w' F G S D :=
  h.step hk.size (fun k h1 h2 => hk.block k h2 (.inr (by omega)))
theorem CaveHeld.alloc {lo : Nat} {w : World} {F G S : Option Addr} {D : CaveD} (h : CaveHeld lo w F G S D) (o : Obj) : CaveHeld lo (w.alloc o) F G S D := h.step (by simp) (fun k _ h2 => Below.heap_alloc _ _ _ h2)
end Go.Proofs.YtahbfifnpceoeaaDoor
