/- A list of numbers off which the call takes elements at the front, and onto which it appends. No condition but sizes far below 2^62. -/
import Derived.Test.YtekngpinldiodaaApp
import Derived.Deep.AppendSrc
namespace Go.Proofs.Ytekngpinldiodaa
open Go.RowKit

/-- v holds l, in a row of the call's own (from block B on), or has no room at all. -/
def QS (w : World) (B : Nat) (v : Value) (l : List Int) : Prop :=
  ∃ A c, v = .slice A l.length c ∧ l.length ≤ c ∧ c ≤ maxLen ∧ (0 < c → ∃ g o tot, ∃ f : Nat → Value, A = some ⟨g, o, none⟩ ∧ B ≤ g ∧ o + c = tot ∧ w.rowIs g 3 tot f ∧ ∀ j, j < l.length → f (o + j) = .int .i64 (l.getD j 0))
theorem QS.below {w w' : World} {B : Nat} {v : Value} {l : List Int} (h : QS w B v l) (hb : Below w.heap.size w w') : QS w' B v l := by
  obtain ⟨A, c, hv, h1, h2, h3⟩ := h
  refine ⟨A, c, hv, h1, h2, fun h0 => ?_⟩
  obtain ⟨g, o, tot, f, hA, hB, ho, hrow, hf⟩ := h3 h0
  exact ⟨g, o, tot, f, hA, hB, ho, row_below hb hrow, hf⟩
theorem QS.alloc {w : World} {B : Nat} {v : Value} {l : List Int} (h : QS w B v l) (o : Obj) : QS (w.alloc o) B v l := h.below ((Below.refl _ _).alloc (Nat.le_refl _) o)
theorem QS.drewN {w : World} {B : Nat} {v : Value} {l : List Int} (h : QS w B v l) (n : Nat) : QS (w.drewN n) B v l := h.below (below_drewN (Below.refl _ _) n)
/-- A store below. -/
theorem QS.far {w : World} {B : Nat} {v : Value} {l : List Int} (h : QS w B v l) {p : Addr} (hp : p.block < B) (u : Value) : QS (w.setCell p u) B v l := by
  obtain ⟨A, c, hv, h1, h2, h3⟩ := h
  refine ⟨A, c, hv, h1, h2, fun h0 => ?_⟩
  obtain ⟨g, o, tot, f, hA, hB, ho, hrow, hf⟩ := h3 h0
  exact ⟨g, o, tot, f, hA, hB, ho, hrow.setOther (by omega) u, hf⟩
theorem QS.one {w : World} {B : Nat} (hB : B ≤ w.heap.size) (x : Int) : QS (w.alloc (.cells #[.int .i64 x] 3)) B (.slice (some ⟨w.heap.size, 0, none⟩) 1 1) [x] := by
  have hrow : (w.alloc (.cells #[.int .i64 x] 3)).rowIs w.heap.size 3 1 (fun _ => .int .i64 x) := by
    refine ⟨_, heap_alloc_new w _, rfl, fun i hi => ?_⟩
    obtain rfl : i = 0 := by omega
    rfl
  refine ⟨_, 1, rfl, Nat.le_refl _, by unfold maxLen; omega, fun _ => ⟨w.heap.size, 0, 1, _, rfl, hB, rfl, hrow, fun j hj => ?_⟩⟩
  obtain rfl : j = 0 := by simp at hj; exact hj
  rfl
/-- The first element, and what is left. -/
theorem QS.head {w : World} {B : Nat} {v : Value} {x : Int} {l : List Int} (h : QS w B v (x :: l)) :
    ∃ g o c, v = .slice (some ⟨g, o, none⟩) (l.length + 1) c ∧ l.length + 1 ≤ c ∧ c ≤ maxLen ∧ w.cell? ⟨g, o, none⟩ = some (.int .i64 x) ∧ QS w B (.slice (if c = 1 then some ⟨g, o, none⟩ else some ⟨g, o + 1, none⟩) l.length (c - 1)) l := by
  obtain ⟨A, c, hv, h1, h2, h3⟩ := h
  rw [List.length_cons] at h1 hv
  obtain ⟨g, o, tot, f, rfl, hB, ho, hrow, hf⟩ := h3 (by omega)
  refine ⟨g, o, c, hv, h1, h2, ?_, ⟨_, c - 1, rfl, by omega, by omega, fun h0 => ?_⟩⟩
  · rw [hrow.cell (by omega)]
    have := hf 0 (by simp)
    simpa using this
  · rw [if_neg (by omega)]
    refine ⟨g, o + 1, tot, f, rfl, hB, by omega, hrow, fun j hj => ?_⟩
    have := hf (j + 1) (by simp; omega)
    rw [show o + 1 + j = o + (j + 1) by omega, this]
    simp

/-- 'append(queue, u)'. -/
theorem app_q {w : World} {ops : Array Oper} {rest : List Oper} {o : Oper} {a : Act} {Q : Exit → Act → World → Prop} (hgd : o.guard = none) (s x : Operand)
    (ho : o.op = .call { callee := .builtin .append, args := #[s, x], argTypes := #[33, 33] }) (B : Nat) (v : Value) (l : List Int) (hs : a.eval s = v) (hq : QS w B v l)
    (g : Nat) (u : Int) (hx : a.eval x = .slice (some ⟨g, 0, none⟩) 1 1) (hc : w.cell? ⟨g, 0, none⟩ = some (.int .i64 u)) (hl : l.length ≤ 1073741824) (hB : B ≤ w.heap.size)
    (h : ∀ A c w', QS w' B (.slice A (l.length + 1) c) (l ++ [u]) → (∀ W, Below B W w → Below B W w') → wpList Try.prog ops Q rest (a.put o.dst (.slice A (l.length + 1) c)) w') : wpList Try.prog ops Q (o :: rest) a w := by
  obtain ⟨A, c, rfl, hlc, hcm, hr⟩ := hq
  obtain ⟨i0, hi, hz0, hz1, hz2⟩ := info_parts info3
  have hsrc : Src Try.prog i0.size 33 (.slice (some ⟨g, 0, none⟩) 1 1) 1 [.int .i64 u] w := Src.ofSlice w Try.underlying33 ⟨g, 0, none⟩ 1 1 [.int .i64 u] (by rw [hz1]; rfl) (fun j v hj => by
    match j, hj with
    | 0, hj => simp at hj; subst hj; simpa [Addr.add] using hc) (fun v hv => by simp at hv; subst hv; rfl)
  refine wpList_plain hgd fun K hK => ?_
  by_cases hroom : l.length + 1 ≤ c
  · obtain ⟨gq, oq, tot, f, rfl, hBg, hot, hrow, hf⟩ := hr (by omega)
    have hin : (w.cell? ⟨gq, oq + l.length, none⟩).isSome = true := by rw [hrow.cell (by omega)]; rfl
    have hrun := run_append_room_src w 33 33 o.type 3 i0 Try.underlying33 hi gq oq l.length c _ 1 _ hsrc hroom (fun j hj => by
      obtain rfl : j = 0 := by simp at hj; exact hj
      rw [hz1, Nat.mul_one, Nat.add_zero]; exact hin) (fun j hj => hrow.frozen _)
    rw [hz1, Nat.mul_one] at hrun
    unfold Oper.wp
    simp [execOp, ho, resolve, invoke, builtin, hs, hx, hrun, Result.andThen]
    refine hK _ _ (h _ _ _ ⟨_, c, by simp, by simp; omega, hcm, fun _ => ⟨gq, oq, tot, _, rfl, hBg, hot, (hrow.set (oq + l.length) (.int .i64 u)), fun j hj => ?_⟩⟩ (fun W hW => hW.setCell (p := ⟨gq, oq + l.length, none⟩) hBg _))
    simp at hj
    by_cases e : j = l.length
    · subst e; simp
    · rw [if_neg (by omega), hf j (by omega)]
      simp [List.getElem?_append_left (show j < l.length by omega)]
  · have hold : (Builtin.firstCells i0.size l.length (.slice A l.length c)).run Try.prog w.drew = .ok (l.map (Value.int .i64)).toArray w.drew := by
      cases A with
      | none =>
        have h0 : l = [] := by
          cases l with
          | nil => rfl
          | cons y l =>
            obtain ⟨_, _, _, _, hA, _⟩ := hr (by simp at hlc; omega)
            cases hA
        subst h0
        exact run_firstCells_none w.drew i0.size 0 0 c
      | some b =>
        refine run_firstCells_some w.drew i0.size l.length b l.length c _ (by rw [hz1]; simp) (fun j v hj => ?_)
        have hj2 : j < l.length := by
          have := (List.getElem?_eq_some_iff.1 hj).1
          simpa using this
        obtain ⟨gq, oq, tot, f, hA, hBg, hot, hrow, hf⟩ := hr (by omega)
        obtain rfl := Option.some.inj hA
        have e := hf j hj2
        simp [hj2] at hj
        subst hj
        rw [Addr.add_lit]
        show w.cell? _ = _
        rw [hrow.cell (by omega), e]
        simp [hj2]
    have hrun := run_append_grow_src w 33 33 o.type 3 i0 (.int .i64 0) Try.underlying33 hi hz0 A l.length c (l.map (Value.int .i64)) hold _ 1 _ hsrc (by omega) (by omega) (by rw [hz2]; exact growslice_fits (by omega) (by omega))
    have hge := grownCap_ge w (l.length + 1) c 3
    have hmx : grownCap w (l.length + 1) c 3 ≤ maxLen := grownCap_le_maxLen w (l.length + 1) c 3 (by unfold maxLen; omega)
    generalize grownCap w (l.length + 1) c 3 = cap at hrun hge hmx
    unfold Oper.wp
    simp only [execOp, ho, resolve, invoke, builtin, Sem.run_bind, Sem.run_pure, Result.andThen_ok, List.map_toArray, List.map_cons, List.map_nil, hs, hx, hrun]
    refine hK _ _ (h _ _ _ ⟨_, cap, by simp, by simp; omega, hmx, fun _ => ⟨w.heap.size, 0, cap, fun j => ((l.map (Value.int .i64) ++ [Value.int .i64 u]).toArray ++ Builtin.zeroCells (Value.int .i64 0).cells (cap - (l.length + 1))).getD j undef, rfl, hB, by omega, ⟨_, heap_alloc_new w.drew _, ?_, fun i hi => ?_⟩, fun j hj => ?_⟩⟩ (fun W hW => (hW.drew).alloc hB _))
    · simp [size_zeroCells, Value.cells]
      omega
    · have : i < ((l.map (Value.int .i64) ++ [Value.int .i64 u]).toArray ++ Builtin.zeroCells (Value.int .i64 0).cells (cap - (l.length + 1))).size := by simp [size_zeroCells, Value.cells]; omega
      simp only [Array.getD, this, dif_pos, Array.getElem?_eq_getElem]
      rfl
    · simp at hj
      rw [Nat.zero_add]
      have h1 : j < (l.map (Value.int .i64) ++ [Value.int .i64 u]).toArray.size := by simp; omega
      have h2 : j < ((l.map (Value.int .i64) ++ [Value.int .i64 u]).toArray ++ Builtin.zeroCells (Value.int .i64 0).cells (cap - (l.length + 1))).size := by simp [size_zeroCells, Value.cells]; omega
      simp only [Array.getD, h2, dif_pos]
      show (((l.map (Value.int .i64) ++ [Value.int .i64 u]).toArray ++ Builtin.zeroCells (Value.int .i64 0).cells (cap - (l.length + 1)))[j]) = _
      rw [Array.getElem_append_left h1]
      by_cases e : j = l.length
      · subst e; simp
      · simp [List.getElem_append_left (show j < (l.map (Value.int .i64)).length by simp; omega), List.getElem?_append_left (show j < l.length by omega)]
        simp [show j < l.length by omega]
end Go.Proofs.Ytekngpinldiodaa
