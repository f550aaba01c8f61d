/- Lists of numbers that a call makes by append; marking and reading them again. No condition but sizes far below 2^62. -/
import Derived.Test.YtekngpinldiodaaLeaf
namespace Go.Proofs.Ytekngpinldiodaa
open Go.RowKit

/-- The slice v is one of the call's own, from block B on, and holds l. -/
def OwnL (w : World) (B : Nat) (v : Value) (l : List Int) : Prop := w.ownsRow B 3 1 v l.length (l.map (Value.int .i64))

theorem OwnL.nil_ (w : World) (B : Nat) : OwnL w B (.slice none 0 0) [] := World.ownsRow_nil _ _ _ _
theorem OwnL.alloc {w : World} {B : Nat} {v : Value} {l : List Int} (h : OwnL w B v l) (o : Obj) : OwnL (w.alloc o) B v l := World.ownsRow.alloc h o
theorem OwnL.below {w w' : World} {B : Nat} {v : Value} {l : List Int} (h : OwnL w B v l) (hb : Below w.heap.size w w') : OwnL w' B v l :=
  World.ownsRow.kept (row := none) h ⟨hb.os, hb.tape, hb.output, hb.size, fun k hk _ => hb.block k hk⟩ (by
    cases e : v.ownBlock with
    | none => exact .inl rfl
    | some _ => exact .inr (by simp))
theorem OwnL.base {w : World} {B B' : Nat} {v : Value} {l : List Int} (h : OwnL w B v l) (hB : B' ≤ B) : OwnL w B' v l := by
  obtain ⟨h1, h2⟩ := h
  refine ⟨h1, ?_⟩
  rcases h2 with h2 | ⟨g, cap, cur, hv, hg, r⟩
  · exact .inl h2
  · exact .inr ⟨g, cap, cur, hv, by omega, r⟩

/-- An empty list that a literal made. -/
theorem OwnL.lit0 (w : World) {B : Nat} (hB : B ≤ w.heap.size) (c : Array Value) (hc : c.size = 0) : OwnL (w.alloc (.cells c 3)) B (.slice (some ⟨w.heap.size, 0, none⟩) 0 0) [] := by
  refine ⟨rfl, .inr ⟨w.heap.size, 0, c, rfl, hB, heap_alloc_new w _, Nat.le_refl _, by unfold maxLen; omega, by omega, ?_⟩⟩
  simp

/-- What it is as a slice that is read, and where it lies. -/
theorem OwnL.read {w : World} {B : Nat} {v : Value} {l : List Int} (h : OwnL w B v l) :
    ∃ A c, v = .slice A l.length c ∧ (0 < l.length → ∃ g cap, ∃ f : Nat → Value, A = some ⟨g, 0, none⟩ ∧ B ≤ g ∧ g < w.heap.size ∧ l.length ≤ cap ∧ w.rowIs g 3 cap f ∧ ∀ j, j < l.length → f j = .int .i64 (l.getD j 0)) := by
  obtain ⟨h1, h2⟩ := h
  rcases h2 with ⟨rfl, h0⟩ | ⟨g, cap, cur, hv, hg, hh, hn, hm, hs, hx⟩
  · rw [h0]
    exact ⟨none, 0, rfl, fun h => absurd h (by omega)⟩
  · refine ⟨_, _, hv, fun _ => ⟨g, cap, fun j => cur.getD j undef, rfl, hg, (Array.getElem?_eq_some_iff.1 hh).1, hn, ⟨cur, hh, by omega, fun i hi => by simp [show i < cur.size by omega]⟩, fun j hj => ?_⟩⟩
    have e : (cur.toList.take (l.length * 1))[j]? = (l.map (Value.int .i64))[j]? := by rw [hx]
    rw [List.getElem?_take_of_lt (by omega)] at e
    simp [hj] at e
    simp [e, hj]

theorem OwnL.ints {w : World} {B : Nat} {v : Value} {l : List Int} (h : OwnL w B v l) : ∃ A c, v = .slice A l.length c ∧ Ints w A l.length (fun j => l.getD j 0) := by
  obtain ⟨A, c, hv, hr⟩ := h.read
  refine ⟨A, c, hv, fun h0 => ?_⟩
  obtain ⟨g, cap, f, hA, hB, hg, hn, hrow, hf⟩ := hr h0
  exact ⟨g, 0, hA, fun j hj => by rw [Nat.zero_add, hrow.cell (by omega), hf j hj]⟩

/-- 'append(out, u)', out a list of the call's own. -/
theorem app_int {w : World} {ops : Array Oper} {rest : List Oper} {o : Oper} {a : Act} {Q : Exit → Act → World → Prop} (hgd : o.guard = none) (s x : Operand)
    (ho : o.op = .call { callee := .builtin .append, args := #[s, x], argTypes := #[33, 33] }) (B : Nat) (v : Value) (l : List Int) (hs : a.eval s = v) (hown : OwnL w B v l)
    (g : Nat) (u : Int) (hx : a.eval x = .slice (some ⟨g, 0, none⟩) 1 1) (hc : w.cell? ⟨g, 0, none⟩ = some (.int .i64 u)) (hl : l.length ≤ 1073741824) (hB : B ≤ w.heap.size)
    (h : ∀ v' w', OwnL w' B v' (l ++ [u]) → (∀ W, Below B W w → Below B W w') → wpList Try.prog ops Q rest (a.put o.dst v') w') : wpList Try.prog ops Q (o :: rest) a w := by
  obtain ⟨i0, hi, hz0, hz1, hz2⟩ := info_parts info3
  refine wpList_append_own w hgd s x 33 ho B 3 i0 (.int .i64 0) 1 8 Try.underlying33 hi hz0 hz1 hz2 rfl (by decide) v l.length (l.map (Value.int .i64)) hs hown ⟨g, 0, none⟩ 1 1 [.int .i64 u] hx rfl ?_ ?_ ?_ ?_ hB ?_
  · intro j u' hj
    match j, hj with
    | 0, hj => simp at hj; subst hj; simpa [Addr.add] using hc
  · intro u' hu; simp at hu; subst hu; rfl
  · unfold maxLen; omega
  · omega
  · intro v' w' hown' hg _
    refine h v' w' ?_ (fun W hW => hW.grown hg hB (fun k hk => (World.ownsRow.lt hown k hk).1))
    unfold OwnL
    rw [List.length_append, List.map_append]
    exact hown'

/-- Outside of the blocks lo, .., hi-1 the world is as it was. -/
structure Kept (lo hi : Nat) (w w' : World) : Prop where
  os : w'.os = w.os
  tape : w'.tape = w.tape
  output : w'.output = w.output
  size : w.heap.size ≤ w'.heap.size
  block : ∀ k, k < w.heap.size → (k < lo ∨ hi ≤ k) → w'.heap[k]? = w.heap[k]?

theorem Kept.refl (lo hi : Nat) (w : World) : Kept lo hi w w := ⟨rfl, rfl, rfl, Nat.le_refl _, fun _ _ _ => rfl⟩
theorem Kept.trans {lo hi : Nat} {a b c : World} (h : Kept lo hi a b) (k : Kept lo hi b c) : Kept lo hi a c :=
  ⟨k.os.trans h.os, k.tape.trans h.tape, k.output.trans h.output, Nat.le_trans h.size k.size, fun i hi hk => (k.block i (Nat.lt_of_lt_of_le hi h.size) hk).trans (h.block i hi hk)⟩
theorem Kept.setCell {lo hi : Nat} {a w : World} (h : Kept lo hi a w) {p : Addr} (h1 : lo ≤ p.block) (h2 : p.block < hi) (u : Value) : Kept lo hi a (w.setCell p u) :=
  h.trans ⟨rfl, rfl, rfl, by simp [World.setCell], fun k _ hk => Below.heap_setCell _ _ _ _ (by omega)⟩
theorem Kept.wide {lo hi lo' hi' : Nat} {a b : World} (h : Kept lo hi a b) (h1 : lo' ≤ lo) (h2 : hi ≤ hi') : Kept lo' hi' a b := ⟨h.os, h.tape, h.output, h.size, fun k hk hh => h.block k hk (by omega)⟩
theorem Kept.below {lo hi B : Nat} {a b : World} (h : Kept lo hi a b) (hB : B ≤ lo) (hs : B ≤ a.heap.size) : Below B a b := ⟨h.os, h.tape, h.output, h.size, fun k hk => h.block k (by omega) (by omega)⟩
theorem Kept.row {lo hi : Nat} {a b : World} (h : Kept lo hi a b) {g : Nat} {t : TypeId} {n : Nat} {f : Nat → Value} (hr : a.rowIs g t n f) (hg : g < lo ∨ hi ≤ g) : b.rowIs g t n f := hr.of_block (h.block g hr.lt hg)

/-- A list of n numbers in a row that may be written: block g, within lo, .., hi-1. -/
def MutI (w : World) (lo hi : Nat) (A : Option Addr) (n : Nat) (x : Nat → Int) : Prop :=
  0 < n → ∃ g cap, ∃ f : Nat → Value, A = some ⟨g, 0, none⟩ ∧ lo ≤ g ∧ g < hi ∧ n ≤ cap ∧ w.rowIs g 3 cap f ∧ ∀ j, j < n → f j = .int .i64 (x j)

theorem MutI.ints {w : World} {lo hi : Nat} {A : Option Addr} {n : Nat} {x : Nat → Int} (h : MutI w lo hi A n x) : Ints w A n x := fun h0 => by
  obtain ⟨g, cap, f, hA, _, _, hn, hrow, hf⟩ := h h0
  exact ⟨g, 0, hA, fun j hj => by rw [Nat.zero_add, hrow.cell (by omega), hf j hj]⟩
theorem MutI.below {w w' : World} {lo hi : Nat} {A : Option Addr} {n : Nat} {x : Nat → Int} (h : MutI w lo hi A n x) (hb : Below w.heap.size w w') : MutI w' lo hi A n x := fun h0 => by
  obtain ⟨g, cap, f, hA, h1, h2, hn, hrow, hf⟩ := h h0
  exact ⟨g, cap, f, hA, h1, h2, hn, row_below hb hrow, hf⟩
theorem MutI.kept {w w' : World} {lo hi lo' hi' : Nat} {A : Option Addr} {n : Nat} {x : Nat → Int} (h : MutI w lo hi A n x) (hb : Kept lo' hi' w w') (hs : hi ≤ lo' ∨ hi' ≤ lo) : MutI w' lo hi A n x := fun h0 => by
  obtain ⟨g, cap, f, hA, h1, h2, hn, hrow, hf⟩ := h h0
  exact ⟨g, cap, f, hA, h1, h2, hn, hb.row hrow (by omega), hf⟩
theorem MutI.congr {w : World} {lo hi : Nat} {A : Option Addr} {n : Nat} {x y : Nat → Int} (h : MutI w lo hi A n x) (e : ∀ j, j < n → x j = y j) : MutI w lo hi A n y := fun h0 => by
  obtain ⟨g, cap, f, hA, h1, h2, hn, hrow, hf⟩ := h h0
  exact ⟨g, cap, f, hA, h1, h2, hn, hrow, fun j hj => by rw [hf j hj, e j hj]⟩
theorem OwnL.mut {w : World} {B : Nat} {v : Value} {l : List Int} (h : OwnL w B v l) : ∃ A c, v = .slice A l.length c ∧ MutI w B w.heap.size A l.length (fun j => l.getD j 0) := by
  obtain ⟨A, c, hv, hr⟩ := h.read
  refine ⟨A, c, hv, fun h0 => ?_⟩
  obtain ⟨g, cap, f, hA, hB, hg, hn, hrow, hf⟩ := hr h0
  exact ⟨g, cap, f, hA, hB, hg, hn, hrow, hf⟩
theorem MutI.of_row {w : World} {lo hi g n : Nat} {x : Nat → Int} (h : w.rowIs g 3 n (fun j => .int .i64 (x j))) (h1 : lo ≤ g) (h2 : g < hi) : MutI w lo hi (some ⟨g, 0, none⟩) n x :=
  fun _ => ⟨g, n, _, rfl, h1, h2, Nat.le_refl _, h, fun _ _ => rfl⟩

theorem markIntS_any (A : Option Addr) (n c lo hi : Nat) (x : Nat → Int) (k : Nat) (w : World) (hm : MutI w lo hi A n x) (hn : n ≤ 1048576) (hk : k ≤ 1125899906842624) :
    Calls Try.prog 36 #[.slice A n c, .int .i64 k] w fun e w' => e = .returned (.int .i64 ((k + n : Nat) : Int)) ∧ MutI w' lo hi A n (fun j => ((k + j : Nat) : Int)) ∧ Kept lo hi w w' := by
  go_enter Try.func36, Try.ntmps36
  go_wp2
  go_loopw [1, 5] (fun q i wr => ∃ t : Nat, t ≤ n ∧ i = .int .i64 t ∧ q = .int .i64 ((k + t : Nat) : Int) ∧ MutI wr lo hi A n (fun j => if j < t then ((k + j : Nat) : Int) else x j) ∧ Kept lo hi w wr) (fun _ i _ => n - (intOf i).toNat)
  case atStart => exact ⟨0, by omega, rfl, rfl, hm.congr (fun j _ => by simp), Kept.refl _ _ _⟩
  case round =>
    obtain ⟨t, ht, rfl, rfl, hmu, hkp⟩ := hrel
    by_cases hlt : t < n
    · obtain ⟨g, cap, f, rfl, h1, h2, hc, hrow, hf⟩ := hmu (by omega)
      have hltz : (t : Int) < (n : Int) := by omega
      have c1 := hrow.cell (show t < cap by omega)
      have c2 := hrow.frozen t
      rw [hf t hlt] at c1
      have HF := hid hf
      clear hf hmu hm
      go_wp2
      go_roundw
      case rel => exact ⟨t + 1, by omega, by go_num, by go_num, (fun _ => ⟨g, cap, _, rfl, h1, h2, hc, hrow.set t _, fun j hj => by
        by_cases e : j = t
        · subst e; simp
        · show (if j = t then _ else f j) = _
          rw [if_neg e, HF.out j hj]
          dsimp only
          by_cases e2 : j < t
          · rw [if_pos e2, if_pos (by omega)]
          · rw [if_neg e2, if_neg (by omega)]⟩), hkp.setCell h1 h2 _⟩
      case measure => simp [intOf] <;> omega
    · have : t = n := by omega
      subst this
      go_wp2
      go_ret
      exact ⟨rfl, hmu.congr (fun j hj => by rw [if_pos hj]), hkp⟩

theorem heldIntS_any (A : Option Addr) (n c : Nat) (k : Nat) (w : World) (hx : Ints w A n (fun j => ((k + j : Nat) : Int))) (hn : n ≤ 1048576) (hk : k ≤ 1125899906842624) :
    Calls Try.prog 37 #[.slice A n c, .int .i64 k] w (RetS (.int .i64 ((k + n : Nat) : Int)) w) := by
  go_enter Try.func37, Try.ntmps37
  go_wp2
  go_loop [1, 5] (fun q i => ∃ t : Nat, t ≤ n ∧ i = .int .i64 t ∧ q = .int .i64 ((k + t : Nat) : Int)) (fun _ i => n - (intOf i).toNat)
  case atStart => exact ⟨0, by omega, rfl, rfl⟩
  case round =>
    obtain ⟨t, ht, rfl, rfl⟩ := hrel
    by_cases hlt : t < n
    · obtain ⟨b, o, rfl, hc⟩ := hx (by omega)
      have hltz : (t : Int) < (n : Int) := by omega
      have c1 := hc t hlt
      clear hc hx
      have hne : (((k + t : Nat) : Int) != ((k + t : Nat) : Int)) = false := by simp
      go_wp2
      go_round
      case rel => exact ⟨t + 1, by omega, by go_num, by go_num⟩
      case measure => simp [intOf] <;> omega
    · have : t = n := by omega
      subst this
      go_wp2
      go_ret
      exact ⟨rfl, rfl⟩
end Go.Proofs.Ytekngpinldiodaa
