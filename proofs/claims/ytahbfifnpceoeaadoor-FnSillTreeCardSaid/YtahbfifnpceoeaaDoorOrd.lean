/- The order in which sills are taken: by height, and among the same by number; the stable insertion sort yields it; the lowest sills. Plain words, no program in sight. -/
import Derived.Test.YtahbfifnpceoeaaDoorTree
import Derived.Sort.LotA
namespace Go.Proofs.YtahbfifnpceoeaaDoor
open Go.RowKit

def LX (h : Nat → Int) (x y : Nat) : Prop := h x < h y ∨ (h x = h y ∧ x < y)
theorem LX.irr {h : Nat → Int} (x : Nat) : ¬ LX h x x := fun e => by unfold LX at e; omega
theorem LX.asymm {h : Nat → Int} {x y : Nat} (e : LX h x y) : ¬ LX h y x := fun e2 => by unfold LX at e e2; omega
/-- A list is told by its members and its order. -/
theorem pw_ext {R : Nat → Nat → Prop} (irr : ∀ x, ¬ R x x) (asy : ∀ x y, R x y → ¬ R y x) : ∀ l m : List Nat, l.Pairwise R → m.Pairwise R → (∀ x, x ∈ l ↔ x ∈ m) → l = m
  | [], [], _, _, _ => rfl
  | [], b :: m, _, _, h => by have := (h b).2 (by simp); cases this
  | a :: l, [], _, _, h => by have := (h a).1 (by simp); cases this
  | a :: l, b :: m, hl, hm, h => by
    rw [List.pairwise_cons] at hl hm
    have e : a = b := by
      rcases List.mem_cons.1 ((h a).1 (by simp)) with e | e
      · exact e
      · rcases List.mem_cons.1 ((h b).2 (by simp)) with e2 | e2
        · exact e2.symm
        · exact absurd (hl.1 b e2) (asy _ _ (hm.1 a e))
    subst e
    have ht : ∀ x, x ∈ l ↔ x ∈ m := fun x => by
      have hx := h x
      simp only [List.mem_cons] at hx
      refine ⟨fun k => ?_, fun k => ?_⟩
      · rcases hx.1 (.inr k) with e | e
        · subst e; exact absurd (hl.1 x k) (irr x)
        · exact e
      · rcases hx.2 (.inr k) with e | e
        · subst e; exact absurd (hm.1 x k) (irr x)
        · exact e
    rw [pw_ext irr asy l m hl.2 hm.2 ht]

/-- The sills of the first k that are just so high. -/
def atH (h : Nat → Int) (H : Int) (k : Nat) : List Nat := (List.range k).filter fun j => h j == H
theorem atH_succ (h : Nat → Int) (H : Int) (k : Nat) : atH h H (k + 1) = if h k = H then atH h H k ++ [k] else atH h H k := by
  unfold atH
  rw [List.range_succ, List.filter_append]
  by_cases e : h k = H
  · rw [if_pos e]; simp [e]
  · rw [if_neg e]; simp [e]
theorem mem_atH {h : Nat → Int} {H : Int} {k j : Nat} : j ∈ atH h H k ↔ j < k ∧ h j = H := by
  unfold atH
  rw [List.mem_filter, List.mem_range]
  simp
/-- The sills lower than H, in order. -/
def ordS (h : Nat → Int) (m : Nat) : Nat → List Nat
  | 0 => []
  | H + 1 => ordS h m H ++ atH h H m
theorem mem_ordS {h : Nat → Int} {m j : Nat} : ∀ H : Nat, j ∈ ordS h m H ↔ j < m ∧ 0 ≤ h j ∧ h j < H
  | 0 => by simp [ordS] <;> omega
  | H + 1 => by
    rw [ordS, List.mem_append, mem_ordS H, mem_atH]
    omega
theorem pw_atH (h : Nat → Int) (H : Int) (k : Nat) : (atH h H k).Pairwise (LX h) := by
  unfold atH
  have h1 : (List.range k).Pairwise (fun x y => x < y) := List.pairwise_lt_range
  have h2 := h1.filter (fun j => h j == H)
  refine List.Pairwise.imp_of_mem (fun {x y} hx hy hlt => ?_) h2
  have e1 := (List.mem_filter.1 hx).2
  have e2 := (List.mem_filter.1 hy).2
  simp at e1 e2
  exact .inr ⟨by omega, hlt⟩
theorem pw_ordS (h : Nat → Int) (m : Nat) : ∀ H, (ordS h m H).Pairwise (LX h)
  | 0 => .nil
  | H + 1 => by
    rw [ordS, List.pairwise_append]
    refine ⟨pw_ordS h m H, pw_atH h H m, fun x hx y hy => ?_⟩
    have e1 := (mem_ordS H).1 hx
    have e2 := mem_atH.1 hy
    exact .inl (by omega)

/-! ### The stable insertion sort -/
section
variable {n : Nat} (h : Nat → Int)
abbrev F (n : Nat) := Fin (n + 1)
def ltH (x y : F n) : Bool := decide (h x.val < h y.val)
def ltX (x y : F n) : Bool := decide (h x.val < h y.val ∨ (h x.val = h y.val ∧ x.val < y.val))
theorem swo_X : Sort.SWO (ltX (n := n) h) where
  irrefl x := by simp [ltX]
  trans x y z := by simp only [ltX, decide_eq_true_eq]; omega
  ntrans x y z := by simp only [ltX, decide_eq_false_iff_not]; omega
theorem insInner_same : ∀ (j : Nat) (d : Array (F n)), j < d.size → (∀ k, k < j → d[k]!.val < d[j]!.val) → Sort.insInner (ltH h) 0 j d = Sort.insInner (ltX h) 0 j d
  | 0, d, _, _ => rfl
  | j + 1, d, hj, hb => by
    have hlt := hb j (by omega)
    have e : ltH h d[j + 1]! d[j]! = ltX h d[j + 1]! d[j]! := by
      unfold ltH ltX
      congr 1
      apply propext
      omega
    unfold Sort.insInner
    rw [e]
    split
    · have g := Sort.swp_get d hj (show j < d.size by omega)
      refine insInner_same j _ (by rw [Sort.swp_size]; omega) fun k hk => ?_
      rw [g, g, if_neg (by omega), if_neg (by omega), if_pos rfl]
      exact hb k (by omega)
    · rfl
theorem perm_le {b : Nat} {d d' : Array (F n)} {p : F n → Prop} (hb : b ≤ d.size) (h : Sort.PermIn 0 b d d') (hp : ∀ i, i < b → p d[i]!) : ∀ i, i < b → p d'[i]! := fun i hi =>
  Sort.permIn_all d d' 0 b p hb h (fun i _ hi => hp i hi) i (Nat.zero_le _) hi
theorem insOuter_same (m : Nat) : ∀ (r i : Nat) (d : Array (F n)), m - i = r → 0 < i → i ≤ m → m ≤ d.size → (∀ k, k < i → d[k]!.val < i) → (∀ k, i ≤ k → k < m → d[k]!.val = k) → Sort.SortedIn (ltX h) 0 i d → Sort.insOuter (ltH h) 0 m i d = Sort.insOuter (ltX h) 0 m i d
  | 0, i, d, hr, h0, hi, hm, _, _, _ => by
    rw [Sort.insOuter, if_neg (by omega)]
    symm
    rw [Sort.insOuter, if_neg (by omega)]
  | r + 1, i, d, hr, h0, hi, hm, hlo, hhi, hs => by
    have hlt : i < m := by omega
    have hei := hhi i (Nat.le_refl _) hlt
    rw [Sort.insOuter, if_pos hlt, insInner_same h i d (by omega) (fun k hk => by have := hlo k hk; omega)]
    symm
    rw [Sort.insOuter, if_pos hlt]
    symm
    have h1 := Sort.insInner_spec (swo_X h) Sort.swp_permIn Sort.permIn_refl Sort.permIn_trans 0 (i + 1) i (by omega) i d (by omega) (Nat.le_refl _) (by omega) ⟨fun p q hap hpq hqi _ hq => hs p q hap hpq (by omega), fun q h1 h2 => by omega⟩
    refine insOuter_same m r (i + 1) _ (by omega) (by omega) (by omega) (by rw [h1.1.1]; exact hm) (fun k hk => ?_) (fun k hk1 hk2 => ?_) h1.2
    · refine perm_le (p := fun x : F n => x.val < i + 1) (by omega) h1.1 (fun j hj => ?_) k hk
      by_cases e : j = i
      · subst e; rw [hei]; omega
      · have := hlo j (by omega); omega
    · rw [h1.1.2.1 k (Or.inr (by omega))]
      exact hhi k (by omega) hk2
end

/-! ### The lowest sills -/
section
variable {a b : Nat → Nat} {h : Nat → Int} {n : Nat}
theorem KruI.same {u u' all all' : List Nat} (K : KruI a b h n u all) (hu : ∀ k, k ∈ u ↔ k ∈ u') (hn : u'.Nodup) (ha : ∀ k, k ∈ all ↔ k ∈ all') : KruI a b h n u' all' := by
  have hE : ∀ P, EP a b u' P = EP a b u P := fun P => funext fun x => funext fun y => propext ⟨fun ⟨k, hk, e⟩ => ⟨k, (hu k).2 hk, e⟩, fun ⟨k, hk, e⟩ => ⟨k, (hu k).1 hk, e⟩⟩
  refine ⟨fun k hk => K.inn k ((ha k).2 hk), fun k hk => (ha k).1 (K.sub k ((hu k).2 hk)), hn, fun k hk => ?_, fun k hk => ?_⟩
  · rw [hE]; exact K.conn k ((ha k).2 hk)
  · rw [hE]; exact K.brid k ((hu k).2 hk)
end
def kruL (D : CaveD) : List Nat := kru D.A D.B (ordS D.h D.m 41)
def treeF (D : CaveD) : List Nat := (List.range D.m).filter fun k => decide (k ∈ kruL D)
theorem kruL_ok {D : CaveD} (hok : CaveOk D) : KruI D.A D.B D.h D.n (kruL D) (ordS D.h D.m 41) := by
  refine kru_ok (fun k hk => sill_lt hok ((mem_ordS 41).1 hk).1) ?_ ?_
  · exact (pw_ordS D.h D.m 41).imp fun {x y} e e2 => by subst e2; exact LX.irr x e
  · exact (pw_ordS D.h D.m 41).imp fun {x y} e => by unfold LX at e; omega
theorem mem_treeF {D : CaveD} (hok : CaveOk D) {k : Nat} : k ∈ treeF D ↔ k ∈ kruL D := by
  unfold treeF
  rw [List.mem_filter, List.mem_range]
  refine ⟨fun e => by simpa using e.2, fun e => ⟨((mem_ordS 41).1 ((kruL_ok hok).sub k e)).1, by simpa using e⟩⟩
theorem treeF_lt (D : CaveD) : (treeF D).Pairwise (fun x y => x < y) := (List.pairwise_lt_range (n := D.m)).filter _
theorem treeF_m {D : CaveD} {k : Nat} (h : k ∈ treeF D) : k < D.m := by
  unfold treeF at h
  exact List.mem_range.1 (List.mem_filter.1 h).1
theorem treeF_len (D : CaveD) : (treeF D).length ≤ D.m := by
  unfold treeF
  have := List.length_filter_le (fun k => decide (k ∈ kruL D)) (List.range D.m)
  simpa using this
theorem treeF_ok {D : CaveD} (hok : CaveOk D) : KruI D.A D.B D.h D.n (treeF D) (List.range D.m) :=
  (kruL_ok hok).same (fun _ => (mem_treeF hok).symm) ((treeF_lt D).imp fun {x y} e e2 => by omega) (fun _ => by
    rw [mem_ordS, List.mem_range]
    refine ⟨fun e => e.1, fun e => ?_⟩
    have := sill_h hok e
    exact ⟨e, this.1, by omega⟩)
theorem treeF_h {D : CaveD} (hok : CaveOk D) : ∀ k, k ∈ treeF D → 0 ≤ D.h k ∧ D.h k ≤ 40 := fun _ hk => sill_h hok (treeF_m hk)
/-- A list that ascends and has just the lowest sills is treeF. -/
theorem treeF_of {D : CaveD} (hok : CaveOk D) {l : List Nat} (hl : l.Pairwise (fun x y => x < y)) (hm : ∀ k, k ∈ l ↔ k ∈ kruL D) : l = treeF D :=
  pw_ext (R := fun x y => x < y) (fun x => by omega) (fun x y _ => by omega) l _ hl (treeF_lt D) fun x => (hm x).trans (mem_treeF hok).symm
/-- The level of the tree is that of the pools. -/
theorem tree_lev {D : CaveD} (hok : CaveOk D) {x y : Nat} (hx : x < D.n) (hy : y < D.n) {r : Int} (hr : LevOf (fun L => Cn (EP D.A D.B (treeF D) (fun j => D.h j ≤ L)) x y) r) : r = jlF D x y :=
  hr.uniq (jlF_lev hok hx hy) fun L _ => ((treeF_ok hok).at_level L).symm
end Go.Proofs.YtahbfifnpceoeaaDoor
