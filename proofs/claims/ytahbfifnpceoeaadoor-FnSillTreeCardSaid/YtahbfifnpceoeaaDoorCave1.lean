/- Caves in memory, and the two CaveValid, which tell the same property. Lists are at most 2^20 long. -/
import Derived.Test.YtahbfifnpceoeaaDoorLeaf
namespace Go.Proofs.YtahbfifnpceoeaaDoor
open Go.RowKit

/-- A cave as data. -/
structure CaveD where
  n : Nat
  f : Nat → Int
  q : Nat
  g : Nat → Int
  m : Nat
  a : Nat → Int
  b : Nat → Int
  h : Nat → Int

/-- m triples of numbers from A on. -/
def Triples (w : World) (A : Option Addr) (m : Nat) (x y z : Nat → Int) : Prop :=
  0 < m → ∃ b o, A = some ⟨b, o, none⟩ ∧ ∀ j, j < m → w.cell? ⟨b, o + j * 3, none⟩ = some (.int .i64 (x j)) ∧ w.cell? ⟨b, o + j * 3 + 1, none⟩ = some (.int .i64 (y j)) ∧ w.cell? ⟨b, o + j * 3 + 2, none⟩ = some (.int .i64 (z j))
theorem Triples.below {w w' : World} {A : Option Addr} {m : Nat} {x y z : Nat → Int} (h : Triples w A m x y z) (hb : Below w.heap.size w w') : Triples w' A m x y z := fun h0 => by
  obtain ⟨b, o, hA, hc⟩ := h h0
  exact ⟨b, o, hA, fun j hj => ⟨cell_below hb (hc j hj).1, cell_below hb (hc j hj).2.1, cell_below hb (hc j hj).2.2⟩⟩
theorem Triples.at_ {w : World} {A : Option Addr} {m : Nat} {x y z : Nat → Int} (h : Triples w A m x y z) {k : Nat} (hk : k < m) :
    ∃ b o, A = some ⟨b, o, none⟩ ∧ w.cell? ⟨b, o + k * 3, none⟩ = some (.int .i64 (x k)) ∧ w.cell? ⟨b, o + k * 3 + 1, none⟩ = some (.int .i64 (y k)) ∧ w.cell? ⟨b, o + k * 3 + 2, none⟩ = some (.int .i64 (z k)) := by
  obtain ⟨b, o, hA, hc⟩ := h (by omega)
  exact ⟨b, o, hA, hc k hk⟩

/-- The cave with these three slices reads as D. -/
structure CaveAt (w : World) (F G S : Option Addr) (D : CaveD) : Prop where
  flo : Ints w F D.n D.f
  are : Ints w G D.q D.g
  sil : Triples w S D.m D.a D.b D.h
theorem CaveAt.below {w w' : World} {F G S : Option Addr} {D : CaveD} (h : CaveAt w F G S D) (hb : Below w.heap.size w w') : CaveAt w' F G S D := ⟨h.flo.below hb, h.are.below hb, h.sil.below hb⟩
theorem CaveAt.alloc {w : World} {F G S : Option Addr} {D : CaveD} (h : CaveAt w F G S D) (o : Obj) : CaveAt (w.alloc o) F G S D := h.below ((Below.refl _ _).alloc (Nat.le_refl _) _)
def CaveSmall (D : CaveD) : Prop := D.n ≤ 1048576 ∧ D.q ≤ 1048576 ∧ D.m ≤ 1048576

def ChamOk (D : CaveD) (j : Nat) : Prop := (0 ≤ D.f j ∧ D.f j ≤ 40) ∧ 1 ≤ D.g j ∧ D.g j ≤ 9
def SillOk (D : CaveD) (j : Nat) : Prop := (0 ≤ D.a j ∧ D.a j < D.n) ∧ (0 ≤ D.b j ∧ D.b j < D.n) ∧ D.a j ≠ D.b j ∧ D.f (D.a j).toNat ≤ D.h j ∧ D.f (D.b j).toNat ≤ D.h j ∧ D.h j ≤ 40
def CaveOk (D : CaveD) : Prop := (1 ≤ D.n ∧ D.n ≤ 6) ∧ D.q = D.n ∧ D.m ≤ 9 ∧ (∀ j, j < D.n → ChamOk D j) ∧ ∀ j, j < D.m → SillOk D j

theorem below_alloc {w w' : World} (h : Below w.heap.size w w') (o : Obj) : Below w.heap.size w (w'.alloc o) := h.alloc h.size o
theorem below_alloc1 (w : World) (o : Obj) : Below w.heap.size w (w.alloc o) := (Below.refl _ _).alloc (Nat.le_refl _) o
end Go.Proofs.YtahbfifnpceoeaaDoor
