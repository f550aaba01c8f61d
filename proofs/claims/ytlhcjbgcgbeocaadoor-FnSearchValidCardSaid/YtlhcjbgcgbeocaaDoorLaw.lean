/- What the laws' functions hold while they run. -/
import Derived.Test.YtlhcjbgcgbeocaaDoorCardK
import Derived.Test.YtlhcjbgcgbeocaaDoorDraw4
import Derived.Test.YtlhcjbgcgbeocaaDoorExit
namespace Go.Proofs.YtlhcjbgcgbeocaaDoor
open Go.RowKit

/-- The drawn search in the law's box X, the laid table, and all that was. -/
structure LwI (w : World) (X : Nat) (P Q : Option Addr) (D : SrchD) (c d : Nat) (wx : World) : Prop where
  box : Blk wx X 26 #[.int .i64 D.s, .slice P D.m c, .slice Q D.k d]
  srch : SrchAt wx P Q D
  tab : Pow10 wx
  bel : Below w.heap.size w wx
section
variable {w wx w' : World} {X : Nat} {P Q : Option Addr} {D : SrchD} {c d : Nat}
theorem LwI.then_ (H : LwI w X P Q D c d wx) (hb : Below wx.heap.size wx w') : LwI w X P Q D c d w' := ⟨H.box.below hb, H.srch.below hb, H.tab.below hb, Below.then_ H.bel hb⟩
theorem LwI.start {w1 : World} (ht : Pow10 w) (hd : DrOk w w1 P Q D c) (he : wx = w1.alloc (.cells #[.int .i64 D.s, .slice P D.m c, .slice Q D.k d] 26)) : LwI w w1.heap.size P Q D c d wx := by
  subst he
  exact ⟨Blk.new _ _ _, hd.at_.alloc _, (ht.below hd.bel).below (Joins.below_alloc1 _ _), Below.then_ hd.bel (Joins.below_alloc1 _ _)⟩
end
theorem beq_beq {x a b : Int} (h : x = 0 ↔ a = b) : ((x == 0) == (a == b)) = true := by
  by_cases e : a = b
  · simp [e, h.2 e]
  · have hx : ¬ x = 0 := fun k => e (h.1 k)
    simp [beq_eq_false_iff_ne.2 e, beq_eq_false_iff_ne.2 hx]
theorem WalkTime_implV (P Q : Option Addr) (D : SrchD) (c d : Nat) (f t : Int) (w : World) (hx : SrchAt w P Q D) (hs : SrchSmall D) :
    Calls Tryd.prog 18 #[.agg #[.int .i64 D.s, .slice P D.m c, .slice Q D.k d], .int .i64 f, .int .i64 t] w (RetV (.int .i64 (wtF D f t)) w) :=
  RetI.val (WalkTime_impl P Q D c d f t w hx hs) fun _ h => h.uniq (wtF_spec D f t)
end Go.Proofs.YtlhcjbgcgbeocaaDoor
