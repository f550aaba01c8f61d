/- Lists that a draw makes beside the reader and its own boxes: they grow by append, in their own blocks. No condition but sizes far below 2^62. -/
import Derived.Test.YtlhcjbgcgbeocaaDoorRdr
import Derived.Test.YtlhcjbgcgbeocaaDoorSrch3
import Derived.Deep.RegionHeld3
import Derived.Maps.AppendAt
namespace Go.Proofs.YtlhcjbgcgbeocaaDoor
open Go.RowKit

/-- append to a list of the call's own, as one step of a region that draws. -/
theorem step_append_own {P : Program} {ops : Array Oper} {o : Oper} {a : Act} {w : World} {K : Act → World → Prop} {Q : Exit → Act → World → Prop} {E : Prop}
    (hg : o.guard = none) (s x : Operand) (t : TypeId) (hop : o.op = Op.call { callee := Callee.builtin Builtin.append, args := #[s, x], argTypes := #[t, t] })
    (base : Nat) (e : TypeId) (i : TypeInfo) (z : Value) (size bytes : Nat) (h1 : P.underlying t = some (.slice e)) (h2 : P.info? e = some i) (h3 : i.zero = some z) (h4 : i.size = size) (h5 : i.bytes = bytes) (h6 : z.cells.size = size) (h7 : 0 < size)
    (v : Value) (n : Nat) (xs : List Value) (hs : a.eval s = v) (hown : w.ownsRow base e size v n xs)
    (ad : Addr) (m c : Nat) (news : List Value) (hx : a.eval x = .slice (some ad) m c) (hn : news.length = m * size) (hc : ∀ j u, news[j]? = some u → w.cell? (ad.add j) = some u) (h1c : ∀ u ∈ news, u.oneCell' = true)
    (b1 : n + m ≤ maxLen) (b2 : (n + m) * bytes ≤ 140737488355328) (hbase : base ≤ w.heap.size)
    (hK : ∀ v' w', w'.ownsRow base e size v' (n + m) (xs ++ news) → w.grownBy w' v.ownBlock → (v'.ownBlock = v.ownBlock ∨ v'.ownBlock = some w.heap.size) → K (a.put o.dst v') w') :
    if Region.wanted o (yielded ops a.tmps) = true then Oper.wp P o a w K Q else E := by
  have hw : Region.wanted o (yielded ops a.tmps) = true := by simp [Region.wanted, hg]
  rw [if_pos hw]
  obtain ⟨v', w', hrun, r1, r2, _, r3⟩ := run_append_own_at (P := P) w base t o.type e i z size bytes h1 h2 h3 h4 h5 h6 h7 v n xs hown ad m c news hn hc h1c b1 b2 hbase
  unfold Oper.wp
  simp [execOp, hop, resolve, invoke, builtin, hs, hx, hrun, Result.andThen]
  exact hK v' w' r1 r2 r3

theorem Kept.new {lo hi : Nat} {a w : World} (h : Kept lo hi a w) {p : Addr} (hp : a.heap.size ≤ p.block) (u : Value) : Kept lo hi a (w.setCell p u) :=
  ⟨h.os, h.tape, h.output, by have := h.size; simp [World.setCell]; omega, fun k hk hh => (Below.heap_setCell _ _ _ _ (by omega)).trans (h.block k hk hh)⟩
theorem Kept.alloc {lo hi : Nat} {a w : World} (h : Kept lo hi a w) (o : Obj) : Kept lo hi a (w.alloc o) :=
  ⟨h.os, h.tape, h.output, by have := h.size; simp; omega, fun k hk hh => (Below.heap_alloc _ _ _ (by have := h.size; omega)).trans (h.block k hk hh)⟩
theorem Kept.grown {lo hi : Nat} {a w w' : World} {row : Option Nat} (h : Kept lo hi a w) (hg : w.grownBy w' row) (hr : ∀ k, row = some k → a.heap.size ≤ k) : Kept lo hi a w' :=
  ⟨hg.os.trans h.os, hg.tape.trans h.tape, hg.output.trans h.output, Nat.le_trans h.size hg.size, fun k hk hh => (hg.block k (Nat.lt_of_lt_of_le hk h.size) (fun e => by have := hr k e.symm; omega)).trans (h.block k hk hh)⟩
theorem Kept.drew {lo hi : Nat} {a w : World} (h : Kept lo hi a w) : Kept lo hi a w.drew := ⟨h.os, h.tape, h.output, h.size, h.block⟩
theorem Rdr.set {w : World} {g p : Nat} (h : Rdr w g p) {q : Addr} (u : Value) (hq : w.heap.size ≤ q.block) : Rdr (w.setCell q u) g p := h.below ⟨rfl, rfl, rfl, by simp [World.setCell], fun k hk => Below.heap_setCell _ _ _ _ (by omega)⟩

/-- A list of the call's own (elements of e, size cells each), from block B on. -/
abbrev Own (w : World) (B : Nat) (e : TypeId) (size : Nat) (v : Value) (n : Nat) (xs : List Value) : Prop := w.ownsRow B e size v n xs
theorem Own.kept {w w' : World} {B : Nat} {e : TypeId} {size : Nat} {v : Value} {n : Nat} {xs : List Value} {lo hi : Nat} (h : Own w B e size v n xs) (hk : Kept lo hi w w') (hhi : hi ≤ B) : Own w' B e size v n xs := by
  refine ⟨h.1, ?_⟩
  rcases h.2 with hn | ⟨g, cap, cur, rfl, hb, hgg, rest⟩
  · exact .inl hn
  · exact .inr ⟨g, cap, cur, rfl, hb, (hk.block g (Array.getElem?_eq_some_iff.1 hgg).1 (by omega)).trans hgg, rest⟩
theorem Own.set {w : World} {B : Nat} {e : TypeId} {size : Nat} {v : Value} {n : Nat} {xs : List Value} (h : Own w B e size v n xs) {p : Addr} (hp : p.block < B) (u : Value) : Own (w.setCell p u) B e size v n xs := by
  refine ⟨h.1, ?_⟩
  rcases h.2 with hn | ⟨g, cap, cur, rfl, hb, hgg, rest⟩
  · exact .inl hn
  · exact .inr ⟨g, cap, cur, rfl, hb, (Below.heap_setCell _ _ _ _ (by omega)).trans hgg, rest⟩
theorem own_form {w : World} {B : Nat} {e : TypeId} {size : Nat} {v : Value} {n : Nat} {xs : List Value} (h : Own w B e size v n xs) : ∃ A c, v = .slice A n c := by
  rcases h.2 with ⟨rfl, rfl⟩ | ⟨g, cap, cur, rfl, _⟩
  · exact ⟨none, 0, rfl⟩
  · exact ⟨_, _, rfl⟩
/-- Two slices do not share a block. -/
def Apart (u v : Value) : Prop := ∀ a, u.ownBlock = some a → v.ownBlock ≠ some a
theorem Apart.symm {u v : Value} (h : Apart u v) : Apart v u := fun a ha e => h a e ha
theorem Own.grown {w w' : World} {B : Nat} {e : TypeId} {size : Nat} {v u : Value} {n : Nat} {xs : List Value} (h : Own w B e size v n xs) (hg : w.grownBy w' u.ownBlock) (hap : Apart v u) : Own w' B e size v n xs :=
  World.ownsRow.kept h hg (by
    cases hv : v.ownBlock with
    | none => exact .inl rfl
    | some a => exact .inr fun e => hap a hv e.symm)
theorem Apart.after {w : World} {B : Nat} {e : TypeId} {size : Nat} {v u u' : Value} {n : Nat} {xs : List Value} (hap : Apart v u) (h : Own w B e size v n xs) (hu : u'.ownBlock = u.ownBlock ∨ u'.ownBlock = some w.heap.size) : Apart v u' := fun a ha e => by
  rcases hu with hu | hu
  · exact hap a ha (by rw [← hu]; exact e)
  · rw [hu] at e
    have := (World.ownsRow.lt h a ha).2
    simp at e
    omega
theorem Apart.nil (u : Value) : Apart (.slice none 0 0) u := fun a ha => by simp [Value.ownBlock] at ha
theorem cells3_new (w : World) (x y z : Value) (t : TypeId) : ∀ j u, [x, y, z][j]? = some u → (w.alloc (.cells #[x, y, z] t)).cell? ((⟨w.heap.size, 0, none⟩ : Addr).add j) = some u := by
  intro j u hj
  have hb := Blk.new w t #[x, y, z]
  rw [Addr.add_lit, Nat.zero_add]
  match j, hj with
  | 0, hj => simp at hj; subst hj; exact hb.cell rfl
  | 1, hj => simp at hj; subst hj; exact hb.cell rfl
  | 2, hj => simp at hj; subst hj; exact hb.cell rfl
end Go.Proofs.YtlhcjbgcgbeocaaDoor
