/- The order of the sills by the program's sort; a list of the call's own sorted. -/
import Derived.Test.YtahbfifnpceoeaaDoorSort2
namespace Go.Proofs.YtahbfifnpceoeaaDoor
open Go.RowKit

theorem put_heap {α : Type} [Inhabited α] (enc : α → Value) (w : World) (n g : Nat) (d : Array α) (k : Nat) (hk : k ≠ g) : (Sort.putRow enc (Sort.ahead w n) g 0 d).heap[k]? = w.heap[k]? := by
  simp only [Sort.putRow, Sort.mapBlock, Array.getElem?_modify, Sort.heap_ahead]
  rw [if_neg (fun e => hk e.symm)]
theorem put_kept {α : Type} [Inhabited α] (enc : α → Value) (w : World) (n g : Nat) (d : Array α) (os : Array Obj) : Kept g (g + 1) w (Sort.grow (Sort.putRow enc (Sort.ahead w n) g 0 d) os) :=
  ⟨rfl, rfl, rfl, by simp [Sort.grow], fun k hk hh => (Sort.heap_grow_old _ os (by simpa using hk)).trans (put_heap enc w n g d k (by omega))⟩

theorem put_row {α : Type} [Inhabited α] (enc : α → Value) (w : World) (n g : Nat) (d : Array α) (os : Array Obj) {t : TypeId} {cap : Nat} {f : Nat → Value} (h : w.rowIs g t cap f) :
    ∃ f2 : Nat → Value, (Sort.grow (Sort.putRow enc (Sort.ahead w n) g 0 d) os).rowIs g t cap f2 ∧ ∀ j, j < d.size → f2 j = enc d[j]! := by
  have hlt := h.lt
  obtain ⟨cur, h1, h2, h3⟩ := h
  refine ⟨fun j => if j < d.size then enc d[j]! else f j, ⟨Sort.putCells enc 0 d cur, ?_, by simp [Sort.putCells, h2], fun i hi => ?_⟩, fun j hj => by simp only [if_pos hj]⟩
  · rw [Sort.heap_grow_old _ os (by simpa using hlt)]
    simp only [Sort.putRow, Sort.mapBlock, Array.getElem?_modify, Sort.heap_ahead, if_true, h1, Option.map_some, Sort.onCells]
  · have h3' := h3 i hi
    simp only [Sort.putCells, Array.getElem?_mapIdx, h3', Option.map_some, Nat.sub_zero, Nat.zero_le, Nat.zero_add, true_and]
theorem row_holds {n g : Nat} {w : World} (h : Row w g (n + 1) (n + 1) (zN (fun v => v))) : Sort.Holds (encF n) w g 0 (idF n) := fun j hj => by
  rw [idF_size] at hj
  rw [Nat.zero_add]
  refine ⟨?_, h.froz j⟩
  rw [h.cell (Nat.le_refl _) hj]
  show some (Value.int .i64 ((j : Nat) : Int)) = some (Value.int .i64 (((idF n)[j]!.val : Nat) : Int))
  rw [idF_get hj]

/-- The indices in the order of heights. -/
theorem order_any {D : CaveD} (hok : CaveOk D) (g cap bx bs os e : Nat) (w : World) (hR : Row w g D.m D.m (zN (fun v => v))) (hbx : bx ≠ g)
    (hS : 0 < D.m → (w.cell? ⟨bx, 2, none⟩ = some (.slice (some ⟨bs, os, none⟩) D.m e) ∧ bs ≠ g ∧ ∀ k, k < D.m → w.cell? ⟨bs, os + k * 3 + 2, none⟩ = some (.int .i64 (D.h k)))) :
    Calls Tryd.prog 54 #[.slice (some ⟨g, 0, none⟩) D.m cap, .func (.func 55) #[] #[.pointer (some ⟨bx, 0, none⟩)]] w fun e w' =>
      e = .returned (.tuple #[]) ∧ Ints w' (some ⟨g, 0, none⟩) D.m (fun j => (toZ (ordS D.h D.m 41)).getD j 0) ∧ Kept g (g + 1) w w' := by
  have hm9 := hok.2.2.1
  refine stable_of (some ⟨g, 0, none⟩) D.m cap hm9 _ w (fun w' => Ints w' (some ⟨g, 0, none⟩) D.m (fun j => (toZ (ordS D.h D.m 41)).getD j 0) ∧ Kept g (g + 1) w w') ?_
  by_cases hm : D.m = 0
  · have h0 : ∀ m : Nat, m = 0 → Calls Tryd.prog 83 #[.slice (some ⟨g, 0, none⟩) m cap, .int .i64 0, .int .i64 m, .func (.func 55) #[] #[.pointer (some ⟨bx, 0, none⟩)]] w fun e w' => e = .returned (.tuple #[]) ∧ w' = w := fun m e => by
      subst e
      exact ins_none _ _ _ _
    exact (h0 D.m hm).mono fun _ _ ⟨he, hw⟩ => ⟨he, fun h => absurd h (by omega), hw ▸ Kept.refl _ _ _⟩
  · obtain ⟨n, hn⟩ : ∃ n, D.m = n + 1 := ⟨D.m - 1, by omega⟩
    obtain ⟨c2, hbs, ha⟩ := hS (by omega)
    have hR' : Row w g (n + 1) (n + 1) (zN (fun v => v)) := by rw [← hn]; exact hR
    have hH := row_holds hR'
    have h1 := ins_any D n hn hm9 g cap bx bs os e w hH c2 ha hbx hbs
    have key : ∀ m : Nat, m = n + 1 → Calls Tryd.prog 83 #[.slice (some ⟨g, 0, none⟩) m cap, .int .i64 0, .int .i64 m, .func (.func 55) #[] #[.pointer (some ⟨bx, 0, none⟩)]] w fun e w' =>
      e = .returned (.tuple #[]) ∧ ∃ q, w' = (Sort.putRow (encF n) w g 0 (srtF D.h n)).drewN q := fun m e => by subst e; exact h1
    have h := key D.m hn
    refine h.mono fun ex w' ⟨he, q, hw⟩ => ⟨he, fun _ => ⟨g, 0, rfl, fun j hj => ?_⟩, ?_⟩
    · subst hw
      have hj' : j < n + 1 := by omega
      have hc := (Sort.holds_putRow (encF n) w g 0 (idF n) (srtF D.h n) hH (by rw [srtF_size, idF_size]) j (by rw [srtF_size]; exact hj')).1
      have hl := srtF_list hok hn
      have hlen : (ordS D.h D.m 41).length = n + 1 := by rw [← hl]; simp [srtF_size]
      have e1 : (ordS D.h D.m 41).getD j 0 = (srtF D.h n)[j]!.val := by
        rw [← hl, getElem!_pos _ j (by rw [srtF_size]; exact hj')]
        simp [List.getD, srtF_size, hj']
      have e2 : (toZ (ordS D.h D.m 41)).getD j 0 = (((srtF D.h n)[j]!.val : Nat) : Int) := by rw [toZ_get _ (by omega), e1]
      show _ = some (Value.int .i64 ((toZ (ordS D.h D.m 41)).getD j 0))
      rw [e2]
      exact hc
    · subst hw
      have := put_kept (encF n) w 0 g (srtF D.h n) #[]
      rw [Sort.grow_empty, Sort.ahead_zero] at this
      exact ⟨this.os, this.tape, this.output, this.size, this.block⟩

/-! ### slices.Sort -/
theorem OwnL.kept {w w' : World} {B lo hi : Nat} {v : Value} {l : List Int} (h : OwnL w B v l) (hk : Kept lo hi w w') (hhi : hi ≤ B) : OwnL w' B v l := by
  refine ⟨h.1, ?_⟩
  rcases h.2 with hn | ⟨g, cap, cur, hv, hb, hgg, rest⟩
  · exact .inl hn
  · exact .inr ⟨g, cap, cur, hv, hb, (hk.block g (Array.getElem?_eq_some_iff.1 hgg).1 (by omega)).trans hgg, rest⟩
theorem Row.low {w w' : World} {g cap n : Nat} {x : Nat → Int} (h : Row w g cap n x) (hb : w'.heap[g]? = w.heap[g]?) : Row w' g cap n x := by
  obtain ⟨f, h1, h2⟩ := h
  exact ⟨f, h1.of_block hb, h2⟩
theorem sort_any (B : Nat) (v : Value) (zs : List Int) (w : World) (h : OwnL w B v zs) (hl : zs.length ≤ 400) : ∃ A c, v = .slice A zs.length c ∧
    Calls Tryd.prog 58 #[v] w fun e w' => e = .returned (.tuple #[]) ∧ MutI w' B w'.heap.size A zs.length (fun j => (zs.mergeSort fun x y => decide (x ≤ y)).getD j 0) ∧ ∀ W, Below B W w → Below B W w' := by
  obtain ⟨A, c, hv, hr⟩ := h.read
  refine ⟨A, c, hv, ?_⟩
  subst hv
  by_cases h0 : zs.length = 0
  · rw [h0]
    exact (Go.Proofs.Any.slices_Sort_int_none Tryd.sortL A c w).mono fun _ _ ⟨he, hw⟩ => ⟨he, fun h => absurd h (by omega), fun W hW => hw ▸ hW⟩
  · obtain ⟨g, cap, f, rfl, hg1, hg2, hcap, hrow, hf⟩ := hr (by omega)
    have hH : Sort.Holds (Value.int .i64) w g 0 zs.toArray := fun j hj => by
      have hj' : j < zs.length := by simpa using hj
      rw [Nat.zero_add]
      refine ⟨?_, hrow.frozen j⟩
      rw [hrow.cell (by omega), hf j hj']
      simp [List.getD, hj']
    refine (Go.Proofs.Any.slices_Sort_int Tryd.sortL g 0 c zs w hH hg2 (by omega)).mono fun ex w' ⟨he, n, os, hw⟩ => ⟨he, fun _ => ?_, fun W hW => ?_⟩
    · subst hw
      have hs : (zs.mergeSort fun x y => decide (x ≤ y)).length = zs.length := by simp
      obtain ⟨f2, hr2, hf2⟩ := put_row (Value.int .i64) w n g (zs.mergeSort fun x y => decide (x ≤ y)).toArray os hrow
      refine ⟨g, cap, f2, rfl, hg1, hr2.lt, hcap, hr2, fun j hj => ?_⟩
      rw [hf2 j (by simpa using hj)]
      simp [List.getD, hs, hj]
    · subst hw
      have hk := put_kept (Value.int .i64) w n g (zs.mergeSort fun x y => decide (x ≤ y)).toArray os
      exact ⟨hk.os.trans hW.os, hk.tape.trans hW.tape, hk.output.trans hW.output, Nat.le_trans hW.size hk.size, fun k hk' => by
        by_cases e : k < w.heap.size
        · exact (hk.block k e (.inl (by omega))).trans (hW.block k hk')
        · omega⟩

/-- The lowest sills, sorted. -/
theorem kruL_sorted {D : CaveD} (hok : CaveOk D) : ((toZ (kruL D)).mergeSort fun x y => decide (x ≤ y)) = toZ (treeF D) := by
  refine List.Perm.eq_of_pairwise (le := fun x y : Int => x ≤ y) (fun a b _ _ h1 h2 => by omega) ?_ ?_ ((List.mergeSort_perm _ _).trans ?_)
  · have := List.pairwise_mergeSort (le := fun x y : Int => decide (x ≤ y)) (fun a b c h1 h2 => by simp at h1 h2 ⊢; omega) (fun a b => by simp; omega) (toZ (kruL D))
    exact this.imp (fun {a b} h => by simpa using h)
  · unfold toZ
    rw [List.pairwise_map]
    exact (treeF_lt D).imp fun {x y} h => by omega
  · unfold toZ
    refine List.Perm.map _ ?_
    refine (List.perm_ext_iff_of_nodup (kruL_ok hok).nod (treeF_ok hok).nod).2 fun k => (mem_treeF hok).symm
end Go.Proofs.YtahbfifnpceoeaaDoor
