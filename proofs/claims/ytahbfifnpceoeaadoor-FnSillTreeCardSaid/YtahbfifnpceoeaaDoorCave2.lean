/- Caves: weighing, comparing. Lists are at most 2^20 long. -/
import Derived.Test.YtahbfifnpceoeaaDoorCave1
import Derived.Laws.MakeOwn
namespace Go.Proofs.YtahbfifnpceoeaaDoor
open Go.RowKit

theorem info34 : (Tryd.prog.info? 34).map (fun i => (i.zero, i.size, i.bytes)) = some (some (.agg #[.int .i64 0, .int .i64 0, .int .i64 0]), 3, 24) := by kernel_rfl

/-- It returns what is left of l (negative: too much), where P. -/
def SzB (P : Prop) (l : Int) (w : World) (e : Ending) (w' : World) : Prop := ∃ r : Int, e = .returned (.int .i64 r) ∧ (r < 0 ∨ (0 ≤ r ∧ r ≤ l ∧ P)) ∧ Below w.heap.size w w'

end Go.Proofs.YtahbfifnpceoeaaDoor
