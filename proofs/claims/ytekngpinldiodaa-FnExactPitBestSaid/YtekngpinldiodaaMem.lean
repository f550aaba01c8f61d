/- Words on memory that all proofs of this seat use: cells that read as told, worlds that keep old memory, and regions that draw their order over such worlds. No condition. -/
import Derived.Test.YtekngpinldiodaaRows
import Derived.WalkKit
import Derived.Deep.OwnRows
import Derived.Deep.QuietTactic
import Derived.BigQuiet
namespace Go.Proofs.Ytekngpinldiodaa
open Go.RowKit

theorem hid {p : Prop} (h : p) : Hid p := h

theorem info3 : (Try.prog.info? 3).map (fun i => (i.zero, i.size, i.bytes)) = some (some (.int .i64 0), 1, 8) := by kernel_rfl

theorem below_drewN {B : Nat} {a w : World} (h : Below B a w) (n : Nat) : Below B a (w.drewN n) := ⟨h.os, h.tape, h.output, h.size, h.block⟩

/-- Two steps, each of which keeps all that was there when it began. -/
theorem Below.then_ {a b c : World} (h : Below a.heap.size a b) (k : Below b.heap.size b c) : Below a.heap.size a c := h.trans (k.mono h.size)

/-- The cells from A on hold cs 0, cs 1, .., m of them. -/
def Rd (w : World) (A : Option Addr) (m : Nat) (cs : Nat → Value) : Prop :=
  0 < m → ∃ b o, A = some ⟨b, o, none⟩ ∧ ∀ j, j < m → w.cell? ⟨b, o + j, none⟩ = some (cs j)

theorem Rd.below {w w' : World} {A : Option Addr} {m : Nat} {cs : Nat → Value} (h : Rd w A m cs) (hb : Below w.heap.size w w') : Rd w' A m cs := fun hm => by
  obtain ⟨b, o, hA, hc⟩ := h hm
  exact ⟨b, o, hA, fun j hj => (hb.cell (p := ⟨b, o + j, none⟩) (World.block_lt_of_cell? _ _ (hc j hj))).trans (hc j hj)⟩

theorem Rd.drewN {w : World} {A : Option Addr} {m : Nat} {cs : Nat → Value} (h : Rd w A m cs) (n : Nat) : Rd (w.drewN n) A m cs := h

theorem Rd.alloc {w : World} {A : Option Addr} {m : Nat} {cs : Nat → Value} (h : Rd w A m cs) (o : Obj) : Rd (w.alloc o) A m cs := h.below ((Below.refl _ _).alloc (Nat.le_refl _) o)

theorem Rd.congr {w : World} {A : Option Addr} {m : Nat} {cs ds : Nat → Value} (h : Rd w A m cs) (e : ∀ j, j < m → cs j = ds j) : Rd w A m ds := fun hm => by
  obtain ⟨b, o, hA, hc⟩ := h hm
  exact ⟨b, o, hA, fun j hj => by rw [← e j hj]; exact hc j hj⟩

theorem Rd.of_row {w : World} {g : Nat} {t : TypeId} {n : Nat} {f : Nat → Value} (h : w.rowIs g t n f) : Rd w (some ⟨g, 0, none⟩) n f := fun _ => ⟨g, 0, rfl, fun j hj => by rw [Nat.zero_add]; exact h.cell hj⟩

/-- A slice of whole numbers that reads x 0, .., x (n-1). -/
abbrev Ints (w : World) (A : Option Addr) (n : Nat) (x : Nat → Int) : Prop := Rd w A n (fun j => .int .i64 (x j))

theorem cell_below {w w' : World} {p : Addr} {v : Value} (hb : Below w.heap.size w w') (h : w.cell? p = some v) : w'.cell? p = some v := (hb.cell (World.block_lt_of_cell? _ _ h)).trans h
theorem row_below {w w' : World} {g : Nat} {t : TypeId} {n : Nat} {f : Nat → Value} (hb : Below w.heap.size w w') (h : w.rowIs g t n f) : w'.rowIs g t n f := h.of_block (hb.block g h.lt)

/-- Block g is just these cells, none frozen. -/
def Blk (w : World) (g : Nat) (t : TypeId) (cs : Array Value) : Prop := w.heap[g]? = some (.cells cs t (0, 0))

theorem Blk.lt {w : World} {g : Nat} {t : TypeId} {cs : Array Value} (h : Blk w g t cs) : g < w.heap.size := (Array.getElem?_eq_some_iff.1 h).1
theorem Blk.cell {w : World} {g : Nat} {t : TypeId} {cs : Array Value} (h : Blk w g t cs) {i : Nat} {v : Value} (hv : cs[i]? = some v) : w.cell? ⟨g, i, none⟩ = some v := by
  unfold Blk at h
  simp [World.cell?, h, hv]
theorem Blk.frozen {w : World} {g : Nat} {t : TypeId} {cs : Array Value} (h : Blk w g t cs) (i : Nat) : w.frozen? ⟨g, i, none⟩ = false := by
  unfold Blk at h
  simp [World.frozen?, h]
theorem Blk.new (w : World) (t : TypeId) (cs : Array Value) : Blk (w.alloc (.cells cs t)) w.heap.size t cs := heap_alloc_new w _
theorem Blk.alloc {w : World} {g : Nat} {t : TypeId} {cs : Array Value} (h : Blk w g t cs) (o : Obj) : Blk (w.alloc o) g t cs := (Below.heap_alloc w o g h.lt).trans h
theorem Blk.far {w : World} {g : Nat} {t : TypeId} {cs : Array Value} (h : Blk w g t cs) {p : Addr} (hp : g ≠ p.block) (u : Value) : Blk (w.setCell p u) g t cs := (Below.heap_setCell w p u g hp).trans h
theorem Blk.set_ {w : World} {g : Nat} {t : TypeId} {cs : Array Value} (h : Blk w g t cs) (i : Nat) (u : Value) : Blk (w.setCell ⟨g, i, none⟩ u) g t (cs.setIfInBounds i u) := by
  unfold Blk at h ⊢
  simp [World.setCell, Array.getElem?_modify, h]
theorem Blk.drew {w : World} {g : Nat} {t : TypeId} {cs : Array Value} (h : Blk w g t cs) : Blk w.drew g t cs := h
theorem Blk.drewN {w : World} {g : Nat} {t : TypeId} {cs : Array Value} (h : Blk w g t cs) (n : Nat) : Blk (w.drewN n) g t cs := h
theorem Blk.below {w w' : World} {g : Nat} {t : TypeId} {cs : Array Value} (h : Blk w g t cs) (hb : Below w.heap.size w w') : Blk w' g t cs := (hb.block g h.lt).trans h

/-! ### Worlds that keep what is there -/
structure Sub (w : World) where
  val : World
  h : Below w.heap.size w val

instance (w : World) : Nonempty (Sub w) := ⟨⟨w, Below.refl _ _⟩⟩

/-- A region that draws its order, whose operations only read and whose callees keep old memory: one walk, in the text's order; behind it the world is one that keeps old memory. -/
theorem wp_region_sub {P : Program} {id : Nat} {Q : Exit → Act → World → Prop} {a : Act} {w : World} {l : List Oper} (hm : P.follows .mixedOrders = true) (hB : Region.lexB .any l.toArray = true)
    (h : wpQuiet P l.toArray (fun w' => ∃ s : Sub w, w' = s.val) (fun a' => ∀ w', (∃ s : Sub w, w' = s.val) → Q .normal a' w') l a) : (Code.region id l.toArray true).wp P Q a w :=
  wp_region_quiet (C := fun w' => ∃ s : Sub w, w' = s.val) hm hB ⟨⟨w.drew, (Below.refl _ _).drew⟩, rfl⟩ (by simpa using h)

theorem Calls.sub {P : Program} {f : FuncId} {args : Array Value} {w : World} {s : Sub w} {v : Value} (h : Calls P f args s.val fun e w' => e = .returned v ∧ Below s.val.heap.size s.val w') :
    Calls P f args s.val fun e w'' => e = .returned v ∧ ∃ s' : Sub w, w'' = s'.val :=
  h.mono fun _ _ ⟨he, hb⟩ => ⟨he, ⟨_, s.h.trans (hb.mono s.h.size)⟩, rfl⟩

theorem sub_cell {w : World} {p : Addr} {v : Value} (h : w.cell? p = some v) : ∀ s : Sub w, s.val.cell? p = some v := fun s => cell_below s.h h

/-! ### What a call that only computes leaves -/
/-- It returns a Bool that tells P. -/
def RetB (P : Prop) (w : World) (e : Ending) (w' : World) : Prop := ∃ b : Bool, e = .returned (.bool b) ∧ (b = true ↔ P) ∧ Below w.heap.size w w'
/-- It returns this value. -/
def RetV (v : Value) (w : World) (e : Ending) (w' : World) : Prop := e = .returned v ∧ Below w.heap.size w w'

/-- It returns a Bool that tells P, and leaves the world alone. -/
def RetBS (P : Prop) (w : World) (e : Ending) (w' : World) : Prop := ∃ b : Bool, e = .returned (.bool b) ∧ (b = true ↔ P) ∧ w = w'
theorem RetBS.mk_t {P : Prop} {w : World} {e : Ending} (h : P) (he : e = .returned (.bool true)) : RetBS P w e w := ⟨true, he, ⟨fun _ => h, fun _ => rfl⟩, rfl⟩
theorem RetBS.mk_f {P : Prop} {w : World} {e : Ending} (h : ¬ P) (he : e = .returned (.bool false)) : RetBS P w e w := ⟨false, he, ⟨(fun h => by cases h), fun hp => absurd hp h⟩, rfl⟩
theorem RetB.mk_t {P : Prop} {w w' : World} {e : Ending} (h : P) (hb : Below w.heap.size w w') (he : e = .returned (.bool true)) : RetB P w e w' := ⟨true, he, ⟨fun _ => h, fun _ => rfl⟩, hb⟩
theorem RetB.mk_f {P : Prop} {w w' : World} {e : Ending} (h : ¬ P) (hb : Below w.heap.size w w') (he : e = .returned (.bool false)) : RetB P w e w' := ⟨false, he, ⟨(fun h => by cases h), fun hp => absurd hp h⟩, hb⟩
theorem RetBS.toB {P : Program} {f : FuncId} {args : Array Value} {w : World} {p : Prop} (h : Calls P f args w (RetBS p w)) : Calls P f args w (RetB p w) :=
  h.mono fun _ _ ⟨b, he, hb, hw⟩ => ⟨b, he, hb, hw ▸ Below.refl _ _⟩

theorem RetB.yes {P : Program} {f : FuncId} {args : Array Value} {w : World} {p : Prop} (h : Calls P f args w (RetB p w)) (hp : p) : Calls P f args w (RetV (.bool true) w) :=
  h.mono fun _ _ ⟨b, he, hb, hw⟩ => ⟨by rw [he, hb.2 hp], hw⟩
theorem RetB.no {P : Program} {f : FuncId} {args : Array Value} {w : World} {p : Prop} (h : Calls P f args w (RetB p w)) (hp : ¬ p) : Calls P f args w (RetV (.bool false) w) :=
  h.mono fun _ _ ⟨b, he, hb, hw⟩ => ⟨by cases b with | true => exact absurd (hb.1 rfl) hp | false => exact he, hw⟩
theorem RetB.iff {P : Program} {f : FuncId} {args : Array Value} {w : World} {p q : Prop} (h : Calls P f args w (RetB p w)) (hp : p ↔ q) : Calls P f args w (RetB q w) :=
  h.mono fun _ _ ⟨b, he, hb, hw⟩ => ⟨b, he, hb.trans hp, hw⟩
theorem RetV.sub {P : Program} {f : FuncId} {args : Array Value} {w : World} {s : Sub w} {v : Value} (h : Calls P f args s.val (RetV v s.val)) :
    Calls P f args s.val fun e w'' => e = .returned v ∧ ∃ s' : Sub w, w'' = s'.val := Calls.sub h

/-- It returns this value and leaves the world alone. -/
def RetS (v : Value) (w : World) (e : Ending) (w' : World) : Prop := e = .returned v ∧ w = w'
theorem RetBS.yes {P : Program} {f : FuncId} {args : Array Value} {w : World} {p : Prop} (h : Calls P f args w (RetBS p w)) (hp : p) : Calls P f args w (RetS (.bool true) w) :=
  h.mono fun _ _ ⟨b, he, hb, hw⟩ => ⟨by rw [he, hb.2 hp], hw⟩
theorem RetBS.no {P : Program} {f : FuncId} {args : Array Value} {w : World} {p : Prop} (h : Calls P f args w (RetBS p w)) (hp : ¬ p) : Calls P f args w (RetS (.bool false) w) :=
  h.mono fun _ _ ⟨b, he, hb, hw⟩ => ⟨by cases b with | true => exact absurd (hb.1 rfl) hp | false => exact he, hw⟩
theorem RetS.sub {P : Program} {f : FuncId} {args : Array Value} {w : World} {s : Sub w} {v : Value} (h : Calls P f args s.val (RetS v s.val)) :
    Calls P f args s.val fun e w'' => e = .returned v ∧ ∃ s' : Sub w, w'' = s'.val :=
  h.mono fun _ _ ⟨he, hw⟩ => ⟨he, s, hw.symm⟩

theorem ret_dec_t {p : Prop} [Decidable p] (h : p) : Ending.returned (.bool (decide p)) = .returned (.bool true) := by rw [decide_eq_true h]
theorem ret_dec_f {p : Prop} [Decidable p] (h : ¬ p) : Ending.returned (.bool (decide p)) = .returned (.bool false) := by rw [decide_eq_false h]
theorem vint {a b : Int} (h : a = b) : Value.int .i64 a = .int .i64 b := by rw [h]
theorem int_bne {n m : Nat} (h : n ≠ m) : ((n : Int) != (m : Int)) = true := by rw [bne_iff_ne]; omega
theorem int_lt {n m : Nat} (h : n < m) : (n : Int) < (m : Int) := by omega
end Go.Proofs.Ytekngpinldiodaa
