/- WalkTime as a function of the data; nearest exits. -/
import Derived.Test.YtlhcjbgcgbeocaaDoorWT
namespace Go.Proofs.YtlhcjbgcgbeocaaDoor
open Go.RowKit

theorem least_nat {P : Nat → Prop} : ∀ n, P n → ∃ m, P m ∧ ∀ k, P k → m ≤ k := by
  intro n
  induction n using Nat.strongRecOn with
  | _ n ih =>
    intro hn
    by_cases h : ∃ k, k < n ∧ P k
    · obtain ⟨k, hk, hp⟩ := h
      exact ih k hk hp
    · exact ⟨n, hn, fun k hp => by
        by_cases hk : k < n
        · exact absurd ⟨k, hk, hp⟩ h
        · omega⟩
theorem Dist.ex {D : SrchD} (hok : SrchOk D) (a b : Nat) : ∃ r, Dist D a b r := by
  by_cases h : ∃ d, Way D a b d
  · obtain ⟨d, hd⟩ := h
    obtain ⟨m, hm, hl⟩ := least_nat (P := fun n => Way D a b (n : Int)) d.toNat (by show Way D a b (d.toNat : Int); rwa [Int.toNat_of_nonneg (way_nonneg hok hd)])
    refine ⟨m, .inr ⟨by omega, hm, fun e he => ?_⟩⟩
    have := hl e.toNat (by show Way D a b (e.toNat : Int); rwa [Int.toNat_of_nonneg (way_nonneg hok he)])
    have := way_nonneg hok he
    omega
  · exact ⟨-1, .inl ⟨rfl, fun d hd => h ⟨d, hd⟩⟩⟩
theorem WT.ex (D : SrchD) (f t : Int) : ∃ r, WT D f t r := by
  by_cases h : SrchOk D ∧ (0 ≤ f ∧ f < D.s) ∧ (0 ≤ t ∧ t < D.s)
  · obtain ⟨r, hr⟩ := Dist.ex h.1 f.toNat t.toNat
    exact ⟨r, .inl ⟨h.1, h.2.1, h.2.2, hr⟩⟩
  · exact ⟨-1, .inr ⟨h, rfl⟩⟩
/-- What WalkTime returns, as a function. -/
noncomputable def wtF (D : SrchD) (f t : Int) : Int := Classical.choose (WT.ex D f t)
theorem wtF_spec (D : SrchD) (f t : Int) : WT D f t (wtF D f t) := Classical.choose_spec (WT.ex D f t)
theorem wtF_lo (D : SrchD) (f t : Int) : -1 ≤ wtF D f t := (wtF_spec D f t).lo
theorem wtF_bad {D : SrchD} {f t : Int} (h : ¬ (SrchOk D ∧ (0 ≤ f ∧ f < D.s) ∧ (0 ≤ t ∧ t < D.s))) : wtF D f t = -1 := (wtF_spec D f t).uniq (.inr ⟨h, rfl⟩)
theorem wtF_same {D : SrchD} {f : Int} (hok : SrchOk D) (hf : 0 ≤ f ∧ f < D.s) : wtF D f f = 0 := by
  refine (wtF_spec D f f).uniq (.inl ⟨hok, hf, hf, .inr ⟨by omega, .refl _, fun d hd => way_nonneg hok hd⟩⟩)
theorem wtF_self {D : SrchD} {f : Int} : wtF D f f < 0 ↔ ¬ (SrchOk D ∧ 0 ≤ f ∧ f < D.s) := by
  by_cases h : SrchOk D ∧ 0 ≤ f ∧ f < D.s
  · have := wtF_same h.1 h.2
    exact ⟨fun k => by omega, fun k => absurd h k⟩
  · have := wtF_bad (D := D) (f := f) (t := f) (fun k => h ⟨k.1, k.2.1⟩)
    exact ⟨fun _ => h, fun _ => by omega⟩

theorem RetI.val {P : Program} {f : FuncId} {args : Array Value} {w : World} {F : Int → Prop} (h : Calls P f args w (RetI F w)) {q : Int} (hq : ∀ r, F r → r = q) : Calls P f args w (RetV (.int .i64 q) w) :=
  h.mono fun _ _ ⟨r, he, hr, hb⟩ => ⟨by rw [he, hq r hr], hb⟩

theorem WalkTime_specV (P Q : Option Addr) (D : SrchD) (c d : Nat) (f t : Int) (w : World) (hx : SrchAt w P Q D) (hs : SrchSmall D) :
    Calls Tryd.prog 19 #[.agg #[.int .i64 D.s, .slice P D.m c, .slice Q D.k d], .int .i64 f, .int .i64 t] w (RetV (.int .i64 (wtF D f t)) w) :=
  RetI.val (WalkTime_spec P Q D c d f t w hx hs) fun _ h => h.uniq (wtF_spec D f t)

/-- The nearest of the first k exits x, which take q minutes: the place and the minutes. -/
def nearK (q x : Nat → Int) : Nat → Int × Int
  | 0 => (-1, -1)
  | k + 1 => if 0 ≤ q k ∧ ((nearK q x k).2 < 0 ∨ q k < (nearK q x k).2) then (x k, q k) else nearK q x k
theorem nearK_neg (q x : Nat → Int) {n : Nat} (hx : ∀ j, j < n → 0 ≤ x j) : ∀ k, k ≤ n → ((nearK q x k).1 < 0 ↔ (nearK q x k).2 < 0)
  | 0, _ => by simp [nearK]
  | k + 1, hk => by
    have ih := nearK_neg q x hx k (by omega)
    have := hx k (by omega)
    unfold nearK
    split
    · rename_i h; simp only; omega
    · exact ih
open Classical in
/-- What ExitNear returns, as a function. -/
noncomputable def nearF (D : SrchD) (f : Int) (x : Nat → Int) (n : Nat) : Int × Int :=
  if SrchOk D ∧ (0 ≤ f ∧ f < D.s) ∧ ∀ j, j < n → 0 ≤ x j ∧ x j < D.s then nearK (fun j => wtF D f (x j)) x n else (-1, -1)

/-- It returns these two numbers. -/
def RetP (a b : Int) (w : World) (e : Ending) (w' : World) : Prop := e = .returned (.tuple #[.int .i64 a, .int .i64 b]) ∧ Below w.heap.size w w'
end Go.Proofs.YtlhcjbgcgbeocaaDoor
