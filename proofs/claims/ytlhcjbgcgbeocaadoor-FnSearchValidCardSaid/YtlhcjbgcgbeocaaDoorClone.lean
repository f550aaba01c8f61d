/- Copies of lists of truths. Lists are at most 2^20 long. -/
import Derived.Test.YtlhcjbgcgbeocaaDoorSrch3
import Derived.Test.YtlhcjbgcgbeocaaDoorApp
namespace Go.Proofs.YtlhcjbgcgbeocaaDoor
open Go.RowKit

/-- Truths in a row that may be written: n of cap. -/
def RowB (w : World) (g cap n : Nat) (x : Nat → Bool) : Prop := ∃ f : Nat → Value, w.rowIs g 4 cap f ∧ ∀ j, j < n → f j = .bool (x j)
theorem RowB.below {w w' : World} {g cap n : Nat} {x : Nat → Bool} (h : RowB w g cap n x) (hb : Below w.heap.size w w') : RowB w' g cap n x := by
  obtain ⟨f, h1, h2⟩ := h
  exact ⟨f, row_below hb h1, h2⟩
theorem RowB.alloc {w : World} {g cap n : Nat} {x : Nat → Bool} (h : RowB w g cap n x) (o : Obj) : RowB (w.alloc o) g cap n x := h.below (below_alloc1 _ _)
theorem RowB.far {w : World} {g cap n : Nat} {x : Nat → Bool} (h : RowB w g cap n x) {p : Addr} (hp : g ≠ p.block) (u : Value) : RowB (w.setCell p u) g cap n x := by
  obtain ⟨f, h1, h2⟩ := h
  exact ⟨f, h1.setOther hp u, h2⟩
theorem RowB.set {w : World} {g cap n : Nat} {x : Nat → Bool} (h : RowB w g cap n x) (i : Nat) (v : Bool) : RowB (w.setCell ⟨g, i, none⟩ (.bool v)) g cap n (fun j => if j = i then v else x j) := by
  obtain ⟨f, h1, h2⟩ := h
  refine ⟨_, h1.set i _, fun j hj => ?_⟩
  by_cases e : j = i
  · simp [e]
  · simp [e, h2 j hj]
theorem RowB.cell {w : World} {g cap n : Nat} {x : Nat → Bool} (h : RowB w g cap n x) (hc : n ≤ cap) {i : Nat} (hi : i < n) : w.cell? ⟨g, i, none⟩ = some (.bool (x i)) := by
  obtain ⟨f, h1, h2⟩ := h
  rw [h1.cell (by omega), h2 i hi]
theorem RowB.froz {w : World} {g cap n : Nat} {x : Nat → Bool} (h : RowB w g cap n x) (i : Nat) : w.frozen? ⟨g, i, none⟩ = false := by
  obtain ⟨f, h1, h2⟩ := h
  exact h1.frozen i
theorem RowB.lt {w : World} {g cap n : Nat} {x : Nat → Bool} (h : RowB w g cap n x) : g < w.heap.size := by
  obtain ⟨f, h1, h2⟩ := h
  exact h1.lt
theorem RowB.bools {w : World} {g cap n : Nat} {x : Nat → Bool} (h : RowB w g cap n x) (hc : n ≤ cap) : Bools w (some ⟨g, 0, none⟩) n x := fun _ => ⟨g, 0, rfl, fun j hj => by rw [Nat.zero_add]; exact h.cell hc hj⟩

/-- A slice of the call's own that holds these truths. -/
theorem RowB.of_own {w : World} {B n : Nat} {v : Value} {x : Nat → Bool} (hn : 0 < n) (h : w.ownsRow B 4 1 v n ((List.range n).map fun j => .bool (x j))) :
    ∃ g cap, v = .slice (some ⟨g, 0, none⟩) n cap ∧ RowB w g cap n x ∧ n ≤ cap ∧ B ≤ g := by
  obtain ⟨h1, h2⟩ := h
  rcases h2 with ⟨_, h0⟩ | ⟨g, cap, cur, hv, hg, hh, hc, hm, hs, hx⟩
  · omega
  · refine ⟨g, cap, hv, ⟨fun j => cur.getD j undef, ⟨cur, hh, by omega, fun i hi => by simp [show i < cur.size by omega]⟩, fun j hj => ?_⟩, hc, hg⟩
    have e : (cur.toList.take (n * 1))[j]? = ((List.range n).map fun j => Value.bool (x j))[j]? := by rw [hx]
    rw [List.getElem?_take_of_lt (by omega)] at e
    simp [hj] at e
    simp [e]
theorem bools_news {w : World} {b o n : Nat} {x : Nat → Bool} (hc : ∀ j, j < n → w.cell? ⟨b, o + j, none⟩ = some (.bool (x j))) :
    ∀ j u, ((List.range n).map fun j => Value.bool (x j))[j]? = some u → w.cell? ((⟨b, o, none⟩ : Addr).add j) = some u := fun j u hu => by
  by_cases hj : j < n
  · simp [hj] at hu
    subst hu
    rw [Addr.add_lit]
    exact hc j hj
  · simp [hj] at hu
theorem bools_one {n : Nat} {x : Nat → Bool} : ∀ u ∈ (List.range n).map fun j => Value.bool (x j), u.oneCell' = true := fun u hu => by
  obtain ⟨j, _, rfl⟩ := List.mem_map.1 hu
  rfl

set_option maxRecDepth 100000 in
theorem Clone_any (A : Option Addr) (n c : Nat) (x : Nat → Bool) (w : World) (hx : Bools w A n x) (hn0 : 0 < n) (hn : n ≤ 1048576) :
    Calls Tryd.prog 65 #[.slice A n c] w fun e w' => ∃ g cap, e = .returned (.slice (some ⟨g, 0, none⟩) n cap) ∧ RowB w' g cap n x ∧ n ≤ cap ∧ w.heap.size ≤ g ∧ Below w.heap.size w w' := by
  obtain ⟨b, o, rfl, hc⟩ := hx hn0
  obtain ⟨i0, hi, hz0, hz1, hz2⟩ := info_parts info4
  have he : ∀ w : World, (binOp .eql 24 (.slice (some ⟨b, o, none⟩) n c) (.slice none 0 0)).run Tryd.prog w = .ok (.bool false) w := fun _ => rfl
  have hw1 := below_alloc1 w (.cells #[] 4)
  have hown : World.ownsRow (w.alloc (.cells #[] 4)) w.heap.size 4 1 (.slice (some ⟨w.heap.size, 0, none⟩) 0 0) 0 [] :=
    ⟨rfl, .inr ⟨w.heap.size, 0, #[], rfl, Nat.le_refl _, heap_alloc_new w _, Nat.le_refl _, by unfold maxLen; omega, rfl, by simp⟩⟩
  have HC := hid (bools_news (w := w.alloc (.cells #[] 4)) (fun j hj => cell_below hw1 (hc j hj)))
  have HOWN := hid hown
  clear hc hx hown
  go_enter Tryd.func65, Tryd.ntmps65
  go_wp2_with (at_builtin; refine wpList_append_own _ rfl _ _ 24 rfl w.heap.size 4 i0 (.bool false) 1 1 Tryd.underlying24 hi hz0 hz1 hz2 rfl (by decide) _ 0 [] rfl HOWN.out ⟨b, o, none⟩ n c _ rfl (by simp) HC.out bools_one (by unfold maxLen; omega) (by omega) (by simp) ?_)
  intro v' w' hown' hg _
  have HB := hid (hw1.grown hg (by simp) (fun k hk => (World.ownsRow.lt HOWN.out k hk).1))
  obtain ⟨g, cap, rfl, hR, hcap, hgl⟩ := RowB.of_own hn0 hown'
  have HR := hid hR
  clear hown' hg hR
  go_wp2
  go_ret
  exact ⟨g, cap, rfl, HR.out, hcap, hgl, HB.out⟩
end Go.Proofs.YtlhcjbgcgbeocaaDoor
