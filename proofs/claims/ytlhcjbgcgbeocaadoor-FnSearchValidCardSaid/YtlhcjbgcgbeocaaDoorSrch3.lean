/- Copies of searches: each lies in new memory. Lists are at most 2^20 long. -/
import Derived.Test.YtlhcjbgcgbeocaaDoorSrch2
namespace Go.Proofs.YtlhcjbgcgbeocaaDoor
open Go.RowKit

/-- It returns this value in new memory that reads so. -/
def triF (x y z : Nat → Int) (i : Nat) : Value := if i % 3 = 0 then .int .i64 (x (i / 3)) else if i % 3 = 1 then .int .i64 (y (i / 3)) else .int .i64 (z (i / 3))
theorem triF_0 (x y z : Nat → Int) (k : Nat) : triF x y z (k * 3) = .int .i64 (x k) := by
  unfold triF; rw [if_pos (by omega), show k * 3 / 3 = k by omega]
theorem triF_1 (x y z : Nat → Int) (k : Nat) : triF x y z (k * 3 + 1) = .int .i64 (y k) := by
  unfold triF; rw [if_neg (by omega), if_pos (by omega), show (k * 3 + 1) / 3 = k by omega]
theorem triF_2 (x y z : Nat → Int) (k : Nat) : triF x y z (k * 3 + 2) = .int .i64 (z k) := by
  unfold triF; rw [if_neg (by omega), if_neg (by omega), show (k * 3 + 2) / 3 = k by omega]
theorem triples_of {w : World} {g : Nat} {t : TypeId} {n : Nat} {x y z : Nat → Int} (h : w.rowIs g t (n * 3) (triF x y z)) : Triples w (some ⟨g, 0, none⟩) n x y z := fun _ =>
  ⟨g, 0, rfl, fun j hj => ⟨by rw [Nat.zero_add, h.cell (by omega), triF_0], by rw [Nat.zero_add, h.cell (by omega), triF_1], by rw [Nat.zero_add, h.cell (by omega), triF_2]⟩⟩

theorem run_make_wide {P : Program} (t e : TypeId) (z : Value) (size bytes : Nat) (ht : P.underlying t = some (.slice e)) (hinfo : (P.info? e).map (fun i => (i.zero, i.size, i.bytes)) = some (some z, size, bytes))
    (kl kc : IntKind) (n : Nat) (hb : bytes * n ≤ 281474976710656) (h63 : n ≤ 9223372036854775807) (w : World) :
    (Instr.makeSlice t (.int kl (n : Int)) (.int kc (n : Int))).run P w = .ok (.slice (some ⟨w.heap.size, 0, none⟩) n n) (w.alloc (.cells (madeCells z.cells (n * size)) e)) := by
  obtain ⟨i, hi, hz, hs, hby⟩ := info_parts hinfo
  have hb' : (i.bytes : Int) * (n : Int) ≤ 281474976710656 := by
    have h : ((i.bytes * n : Nat) : Int) ≤ 281474976710656 := by rw [hby]; omega
    rwa [Int.natCast_mul] at h
  have hr := run_make (P := P) w t e i z ht hi hz kl kc n n (by omega) (Int.le_refl _) hb' (by omega)
  simp only [Int.toNat_natCast, hs] at hr
  exact hr

theorem made_triples (w : World) (n : Nat) (t : TypeId) : (w.alloc (.cells (madeCells (Value.agg #[.int .i64 0, .int .i64 0, .int .i64 0]).cells (n * 3)) t)).rowIs w.heap.size t (n * 3) (fun _ => .int .i64 0) :=
  ⟨_, heap_alloc_new w _, size_madeCells _ _, fun i hi => by
    have e : (Value.agg #[.int .i64 0, .int .i64 0, .int .i64 0]).cells = #[.int .i64 0, .int .i64 0, .int .i64 0] := rfl
    rw [e]
    have h3 : i % 3 = 0 ∨ i % 3 = 1 ∨ i % 3 = 2 := by omega
    rcases h3 with h | h | h <;> simp [madeCells, hi, h]⟩

end Go.Proofs.YtlhcjbgcgbeocaaDoor
