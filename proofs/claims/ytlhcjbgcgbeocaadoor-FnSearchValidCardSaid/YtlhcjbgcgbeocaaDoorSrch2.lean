/- Searches: weighing, copying, comparing. Lists are at most 2^20 long. -/
import Derived.Test.YtlhcjbgcgbeocaaDoorSrch1
import Derived.Laws.MakeOwn
namespace Go.Proofs.YtlhcjbgcgbeocaaDoor
open Go.RowKit

theorem info4 : (Tryd.prog.info? 4).map (fun i => (i.zero, i.size, i.bytes)) = some (some (.bool false), 1, 1) := by kernel_rfl
theorem info31 : (Tryd.prog.info? 31).map (fun i => (i.zero, i.size, i.bytes)) = some (some (.agg #[.int .i64 0, .int .i64 0, .int .i64 0]), 3, 24) := by kernel_rfl

/-- It returns what is left of l (negative: too much), where P. -/
def SzB (P : Prop) (l : Int) (w : World) (e : Ending) (w' : World) : Prop := ∃ r : Int, e = .returned (.int .i64 r) ∧ (r < 0 ∨ (0 ≤ r ∧ r ≤ l ∧ P)) ∧ Below w.heap.size w w'

end Go.Proofs.YtlhcjbgcgbeocaaDoor
