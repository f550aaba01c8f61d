/- Ways over the lowest sills, in plain words: by breadth (levels, queue) and by depth (from one chamber on, not back): both tell the level at which two chambers are joined. No program in sight. -/
import Derived.Test.YtahbfifnpceoeaaDoorCaveF
namespace Go.Proofs.YtahbfifnpceoeaaDoor
open Go.RowKit

section
variable {a b : Nat → Nat} {h : Nat → Int} {n : Nat} {u all : List Nat}
/-- Sill k joins x and y. -/
def Inc (a b : Nat → Nat) (k x y : Nat) : Prop := (a k = x ∧ b k = y) ∨ (b k = x ∧ a k = y)
theorem Inc.symm {k x y : Nat} (i : Inc a b k x y) : Inc a b k y x := i.elim (fun ⟨h1, h2⟩ => .inr ⟨h2, h1⟩) (fun ⟨h1, h2⟩ => .inl ⟨h2, h1⟩)
theorem Inc.cn {k x y : Nat} {P : Nat → Prop} (i : Inc a b k x y) (hk : k ∈ u) (hP : P k) : Cn (EP a b u P) x y := by
  rcases i with ⟨h1, h2⟩ | ⟨h1, h2⟩
  · exact .one ⟨k, hk, hP, h1, h2⟩
  · exact (Cn.one ⟨k, hk, hP, h2, h1⟩ : Cn (EP a b u P) y x).symm
theorem Inc.of_ep {P : Nat → Prop} {c d : Nat} (e : EP a b u P c d ∨ EP a b u P d c) : ∃ k, k ∈ u ∧ P k ∧ Inc a b k c d := by
  rcases e with ⟨k, hk, hP, h1, h2⟩ | ⟨k, hk, hP, h1, h2⟩
  · exact ⟨k, hk, hP, .inl ⟨h1, h2⟩⟩
  · exact ⟨k, hk, hP, .inr ⟨h2, h1⟩⟩
theorem ep_mono {P Q : Nat → Prop} (hPQ : ∀ k, k ∈ u → P k → Q k) {x y : Nat} (c : Cn (EP a b u P) x y) : Cn (EP a b u Q) x y := c.mono fun _ _ ⟨k, hk, hP, e⟩ => .one ⟨k, hk, hPQ k hk hP, e⟩
theorem KruI.bridge (K : KruI a b h n u all) {k x y : Nat} (hk : k ∈ u) (i : Inc a b k x y) : ¬ Cn (EP a b u (fun j => j ≠ k)) x y := fun c => by
  rcases i with ⟨h1, h2⟩ | ⟨h1, h2⟩
  · subst h1 h2; exact K.brid k hk c
  · subst h1 h2; exact K.brid k hk c.symm
theorem KruI.inc_lt (K : KruI a b h n u all) {k x y : Nat} (hk : k ∈ u) (i : Inc a b k x y) : x < n ∧ y < n := by
  have := K.inn k (K.sub k hk)
  rcases i with ⟨h1, h2⟩ | ⟨h1, h2⟩ <;> subst h1 h2
  · exact this
  · exact ⟨this.2, this.1⟩

/-! ### By breadth -/
/-- Levels told so far (-1: not reached), chambers that wait, and chamber c whose first i sills are done. -/
structure BFp (a b : Nat → Nat) (h : Nat → Int) (n : Nat) (u : List Nat) (s : Nat) (lev : Nat → Int) (q : List Nat) (c i : Nat) : Prop where
  lo : ∀ v, -1 ≤ lev v
  top : ∀ v, lev v ≤ 40
  src : lev s = 0
  lvl : ∀ v, v < n → 0 ≤ lev v → ∀ L, 0 ≤ L → (Cn (EP a b u (fun j => h j ≤ L)) s v ↔ lev v ≤ L)
  conn : ∀ v, v < n → 0 ≤ lev v → Cn (fun x y => EL a b u x y ∧ 0 ≤ lev x ∧ 0 ≤ lev y) s v
  que : ∀ v, v ∈ q → v < n ∧ 0 ≤ lev v
  clo : ∀ v, v < n → 0 ≤ lev v → v ∉ q → ∀ j k y, u[j]? = some k → (v = c → j < i) → Inc a b k v y → 0 ≤ lev y
/-- Between two chambers. -/
def BF (a b : Nat → Nat) (h : Nat → Int) (n : Nat) (u : List Nat) (s : Nat) (lev : Nat → Int) (q : List Nat) : Prop := ∀ c, BFp a b h n u s lev q c u.length
theorem BF.start {s : Nat} (hs : s < n) : BF a b h n u s (fun v => if v = s then 0 else -1) [s] := fun c => by
  refine ⟨fun v => by split <;> omega, fun v => by split <;> omega, if_pos rfl, fun v hv h0 L hL => ?_, fun v hv h0 => ?_, fun v hv => ?_, fun v hv h0 hq => ?_⟩
  · by_cases e : v = s
    · subst e; simp only [if_true]; exact ⟨fun _ => hL, fun _ => .refl _⟩
    · rw [if_neg e] at h0; omega
  · by_cases e : v = s
    · subst e; exact .refl _
    · rw [if_neg e] at h0; omega
  · rw [List.mem_singleton.1 hv, if_pos rfl]; exact ⟨hs, Int.le_refl _⟩
  · by_cases e : v = s
    · subst e; exact absurd (List.mem_singleton.2 rfl) hq
    · rw [if_neg e] at h0; omega
theorem BF.pop {s c : Nat} {lev : Nat → Int} {q : List Nat} (H : BF a b h n u s lev (c :: q)) : BFp a b h n u s lev q c 0 ∧ c < n ∧ 0 ≤ lev c := by
  have H1 := H c
  refine ⟨⟨H1.lo, H1.top, H1.src, H1.lvl, H1.conn, fun v hv => H1.que v (by simp [hv]), fun v hv h0 hq j k y hj hc i => ?_⟩, H1.que c (by simp)⟩
  by_cases e : v = c
  · have := hc e; omega
  · exact H1.clo v hv h0 (by simp [e, hq]) j k y hj (fun e2 => absurd e2 e) i
theorem BFp.done {s c : Nat} {lev : Nat → Int} {q : List Nat} (H : BFp a b h n u s lev q c u.length) : BF a b h n u s lev q := fun _ =>
  ⟨H.lo, H.top, H.src, H.lvl, H.conn, H.que, fun v hv h0 hq j k y hj _ i => H.clo v hv h0 hq j k y hj (fun _ => (List.getElem?_eq_some_iff.1 hj).1) i⟩
theorem BFp.skip {s c i k : Nat} {lev : Nat → Int} {q : List Nat} (H : BFp a b h n u s lev q c i) (hk : u[i]? = some k) (hno : ∀ y, Inc a b k c y → 0 ≤ lev y) : BFp a b h n u s lev q c (i + 1) :=
  ⟨H.lo, H.top, H.src, H.lvl, H.conn, H.que, fun v hv h0 hq j k' y hj hc i' => by
    by_cases e : v = c ∧ j = i
    · obtain ⟨rfl, rfl⟩ := e
      rw [hk] at hj
      obtain rfl := Option.some.inj hj
      exact hno y i'
    · exact H.clo v hv h0 hq j k' y hj (fun e2 => by have := hc e2; omega) i'⟩
theorem BFp.set (K : KruI a b h n u all) (hh : ∀ k, k ∈ u → 0 ≤ h k ∧ h k ≤ 40) {s c i k x : Nat} {lev : Nat → Int} {q : List Nat} (H : BFp a b h n u s lev q c i) (hc : c < n) (hc0 : 0 ≤ lev c) (hk : u[i]? = some k) (hx : Inc a b k c x) (hneg : lev x < 0) :
    BFp a b h n u s (fun v => if v = x then max (lev c) (h k) else lev v) (q ++ [x]) c (i + 1) := by
  have hku : k ∈ u := List.mem_of_getElem? hk
  have hxl := (K.inc_lt hku hx).2
  have hhk := hh k hku
  have hup : ∀ v, 0 ≤ lev v → 0 ≤ (if v = x then max (lev c) (h k) else lev v) := fun v hv => by split <;> omega
  have hcx : c ≠ x := fun e => by subst e; omega
  have hsx : s ≠ x := fun e => by subst e; have := H.src; omega
  have hav : Cn (EP a b u (fun j => j ≠ k)) s c := (H.conn c hc hc0).mono fun y z ⟨⟨j, hj, e1, e2⟩, y0, z0⟩ => .one ⟨j, hj, fun e => by
    subst e
    rcases hx with ⟨h1, h2⟩ | ⟨h1, h2⟩
    · rw [← e2, h2] at z0; omega
    · rw [← e1, h2] at y0; omega, e1, e2⟩
  refine ⟨fun v => ?_, fun v => ?_, ?_, fun v hv h0 L hL => ?_, fun v hv h0 => ?_, fun v hv => ?_, fun v hv h0 hq j k' y hj hci i' => ?_⟩
  · have := H.lo v
    split <;> omega
  · have := H.top v
    have := H.top c
    split <;> omega
  · rw [if_neg hsx]; exact H.src
  · by_cases e : v = x
    · subst e
      rw [if_pos rfl]
      refine ⟨fun hcn => ?_, fun hle => ?_⟩
      · by_cases e1 : h k ≤ L
        · have := (H.lvl c hc hc0 L hL).1 (hcn.trans (hx.symm.cn hku e1))
          omega
        · exfalso
          have h2 : Cn (EP a b u (fun j => j ≠ k)) s v := ep_mono (fun j _ hj e2 => by subst e2; exact e1 hj) hcn
          exact K.bridge hku hx (hav.symm.trans h2)
      · exact ((H.lvl c hc hc0 L hL).2 (by omega)).trans (hx.cn hku (by omega))
    · rw [if_neg e] at h0 ⊢
      exact H.lvl v hv h0 L hL
  · have hm : ∀ {y z : Nat}, Cn (fun x y => EL a b u x y ∧ 0 ≤ lev x ∧ 0 ≤ lev y) y z → Cn (fun y z => EL a b u y z ∧ 0 ≤ (if y = x then max (lev c) (h k) else lev y) ∧ 0 ≤ (if z = x then max (lev c) (h k) else lev z)) y z := fun k => k.mono fun y z ⟨e1, e2, e3⟩ => .one ⟨e1, hup y e2, hup z e3⟩
    by_cases e : v = x
    · subst e
      have h1 := hup c hc0
      have h2 : 0 ≤ (if v = v then max (lev c) (h k) else lev v) := by rw [if_pos rfl]; omega
      rcases hx with ⟨e1, e2⟩ | ⟨e1, e2⟩
      · exact .snoc (hm (H.conn c hc hc0)) (.inl ⟨⟨k, hku, e1, e2⟩, h1, h2⟩)
      · exact .snoc (hm (H.conn c hc hc0)) (.inr ⟨⟨k, hku, e2, e1⟩, h2, h1⟩)
    · rw [if_neg e] at h0
      exact hm (H.conn v hv h0)
  · rcases List.mem_append.1 hv with hv | hv
    · exact ⟨(H.que v hv).1, hup v (H.que v hv).2⟩
    · rw [List.mem_singleton.1 hv, if_pos rfl]; exact ⟨hxl, by omega⟩
  · have hvx : v ≠ x := fun e => hq (by rw [e]; simp)
    rw [if_neg hvx] at h0
    by_cases e : v = c ∧ j = i
    · obtain ⟨rfl, rfl⟩ := e
      rw [hk] at hj
      obtain rfl := Option.some.inj hj
      have : y = x := by
        rcases hx with ⟨h1, h2⟩ | ⟨h1, h2⟩ <;> rcases i' with ⟨h3, h4⟩ | ⟨h3, h4⟩ <;> omega
      rw [if_pos this]; omega
    · exact hup y (H.clo v hv h0 (fun hm => hq (by simp [hm])) j k' y hj (fun e2 => by have := hci e2; omega) i')
theorem BF.lev {s : Nat} {lev : Nat → Int} (K : KruI a b h n u all) (hs : s < n) (H : BF a b h n u s lev []) {v : Nat} (hv : v < n) : LevOf (fun L => Cn (EP a b u (fun j => h j ≤ L)) s v) (lev v) := by
  have H1 := H 0
  refine ⟨H1.lo v, fun L hL => ?_⟩
  by_cases h0 : 0 ≤ lev v
  · exact (H1.lvl v hv h0 L hL).trans ⟨fun h => ⟨h0, h⟩, fun h => h.2⟩
  · refine ⟨fun c => absurd ?_ h0, fun h => absurd h.1 h0⟩
    have hall : ∀ y, Cn (EP a b u (fun j => h j ≤ L)) s y → y < n ∧ 0 ≤ lev y := fun y c => by
      induction c with
      | refl => exact ⟨hs, by rw [H1.src]; omega⟩
      | @snoc x y _ e ih =>
        obtain ⟨k, hk, _, i⟩ := Inc.of_ep e
        obtain ⟨j, hj⟩ := List.mem_iff_getElem?.1 hk
        exact ⟨(K.inc_lt hk i).2, H1.clo x ih.1 ih.2 (by simp) j k y hj (fun _ => (List.getElem?_eq_some_iff.1 hj).1) i⟩
    exact (hall v c).2

/-! ### By depth: not back over the sills of which O holds -/
/-- From x on: the sill by which x was come to (if any) is left out. -/
def Off (a b : Nat → Nat) (u : List Nat) (x : Nat) (o : Int) (O : Nat → Prop) : Prop := (∀ k, k ∈ u → ∀ y : Nat, Inc a b k x y → (O k ↔ (y : Int) = o)) ∧ ∀ k, k ∈ u → O k → ∃ y, Inc a b k x y
theorem Off.root (x : Nat) : Off a b u x (-1) (fun _ => False) := ⟨fun k _ y _ => ⟨fun h => h.elim, fun h => by omega⟩, fun k _ h => h.elim⟩
theorem Off.next (K : KruI a b h n u all) {k x y : Nat} (hk : k ∈ u) (i : Inc a b k x y) : Off a b u y (x : Int) (fun j => j = k) := by
  refine ⟨fun j hj z i' => ⟨fun e => ?_, fun e => ?_⟩, fun j _ e => ⟨x, by rw [e]; exact i.symm⟩⟩
  · subst e
    have hne : x ≠ y := fun e => K.bridge hk i (by rw [e]; exact .refl _)
    have : z = x := by
      rcases i with ⟨h1, h2⟩ | ⟨h1, h2⟩ <;> rcases i' with ⟨h3, h4⟩ | ⟨h3, h4⟩ <;> omega
    omega
  · obtain rfl : z = x := by omega
    by_cases e2 : j = k
    · exact e2
    · exact absurd (i'.symm.cn (P := fun i => i ≠ k) hj e2) (K.bridge hk i)
/-- What is joined with the next chamber without the sill to it is joined with it without the sills left out, too. -/
theorem off_side (K : KruI a b h n u all) {k x y : Nat} {o : Int} {O P : Nat → Prop} (hO : Off a b u x o O) (hk : k ∈ u) (i : Inc a b k x y) {z : Nat} (c : Cn (EP a b u (fun j => P j ∧ j ≠ k)) y z) : Cn (EP a b u (fun j => P j ∧ ¬ O j)) y z := by
  have key : Cn (EP a b u (fun j => P j ∧ ¬ O j)) y z ∧ Cn (EP a b u (fun j => j ≠ k)) y z := by
    induction c with
    | refl => exact ⟨.refl _, .refl _⟩
    | @snoc c d _ e ih =>
      obtain ⟨j, hj, ⟨hP, hne⟩, i'⟩ := Inc.of_ep e
      have h2 := ih.2.trans (i'.cn (P := fun j => j ≠ k) hj hne)
      refine ⟨ih.1.trans (i'.cn hj ⟨hP, fun hOj => ?_⟩), h2⟩
      obtain ⟨w, iw⟩ := hO.2 j hj hOj
      have hx : c = x ∨ d = x := by
        rcases iw with ⟨h1, h3⟩ | ⟨h1, h3⟩ <;> rcases i' with ⟨h4, h5⟩ | ⟨h4, h5⟩ <;> omega
      rcases hx with rfl | rfl
      · exact K.bridge hk i ih.2.symm
      · exact K.bridge hk i h2.symm
  exact key.1
/-- Over a sill to a chamber from which the goal is come to. -/
theorem off_lev (K : KruI a b h n u all) (hh : ∀ k, k ∈ u → 0 ≤ h k ∧ h k ≤ 40) {k x y t : Nat} {o r : Int} {O : Nat → Prop} (hO : Off a b u x o O) (hk : k ∈ u) (i : Inc a b k x y) (hyo : (y : Int) ≠ o)
    (hr : LevOf (fun L => Cn (EP a b u (fun j => h j ≤ L ∧ j ≠ k)) y t) r) (h0 : 0 ≤ r) : LevOf (fun L => Cn (EP a b u (fun j => h j ≤ L ∧ ¬ O j)) x t) (max r (h k)) := by
  have hkO : ¬ O k := fun hO2 => hyo ((hO.1 k hk y i).1 hO2)
  have hyt : Cn (EP a b u (fun j => j ≠ k)) y t := ep_mono (fun _ _ h => h.2) ((hr.2 r h0).2 ⟨h0, Int.le_refl _⟩)
  refine ⟨by omega, fun L hL => ⟨fun c => ?_, fun hle => ?_⟩⟩
  · have hhk := hh k hk
    have hkL : h k ≤ L := by
      by_cases e : h k ≤ L
      · exact e
      · exact absurd ((ep_mono (Q := fun j => j ≠ k) (fun j _ hj e2 => by subst e2; exact e hj.1) c).trans hyt.symm) (K.bridge hk i)
    have c2 : Cn (fun p q => EP a b u (fun j => h j ≤ L ∧ j ≠ k) p q ∨ (p = a k ∧ q = b k)) x t := c.mono fun p q ⟨j, hj, hP, e1, e2⟩ => by
      by_cases e : j = k
      · subst e; exact .one (.inr ⟨e1.symm, e2.symm⟩)
      · exact .one (.inl ⟨j, hj, ⟨hP.1, e⟩, e1, e2⟩)
    have hdn : ∀ {p q : Nat}, Cn (EP a b u (fun j => h j ≤ L ∧ j ≠ k)) p q → Cn (EP a b u (fun j => j ≠ k)) p q := fun c => ep_mono (fun _ _ h => h.2) c
    have hy : Cn (EP a b u (fun j => h j ≤ L ∧ j ≠ k)) y t := by
      rcases cn_add c2 with c | ⟨c1, c2⟩ | ⟨c1, c2⟩
      · exact absurd ((hdn c).trans hyt.symm) (K.bridge hk i)
      · rcases i with ⟨e1, e2⟩ | ⟨e1, e2⟩
        · rw [e2] at c2; exact c2
        · exfalso
          rw [e2] at c1
          exact K.bridge hk (.inr ⟨e1, e2⟩) (hdn c1)
      · rcases i with ⟨e1, e2⟩ | ⟨e1, e2⟩
        · exfalso
          rw [e2] at c1
          exact K.bridge hk (.inl ⟨e1, e2⟩) (hdn c1)
        · rw [e2] at c2; exact c2
    have := ((hr.2 L hL).1 hy).2
    omega
  · exact (i.cn hk ⟨by omega, hkO⟩).trans (off_side K hO hk i ((hr.2 L hL).2 ⟨h0, by omega⟩))
/-- From none of the next chambers the goal is come to. -/
theorem off_none {x t : Nat} {o : Int} {O : Nat → Prop} (hO : Off a b u x o O) (hne : x ≠ t)
    (hr : ∀ k, k ∈ u → ∀ y : Nat, Inc a b k x y → (y : Int) ≠ o → ¬ Cn (EP a b u (fun j => j ≠ k)) y t) : LevOf (fun L => Cn (EP a b u (fun j => h j ≤ L ∧ ¬ O j)) x t) (-1) := by
  refine ⟨by omega, fun L _ => ⟨fun c => ?_, fun h => absurd h.1 (by omega)⟩⟩
  exfalso
  have key : ∀ z, Cn (EP a b u (fun j => h j ≤ L ∧ ¬ O j)) x z → z = x ∨ ∃ k y, k ∈ u ∧ Inc a b k x y ∧ (y : Int) ≠ o ∧ Cn (EP a b u (fun j => j ≠ k)) y z := fun z c => by
    induction c with
    | refl => exact .inl rfl
    | @snoc c d _ e ih =>
      obtain ⟨j, hj, ⟨_, hnO⟩, i⟩ := Inc.of_ep e
      rcases ih with rfl | ⟨k, y, hk, iy, hyo, hc⟩
      · exact .inr ⟨j, d, hj, i, fun e2 => hnO ((hO.1 j hj d i).2 e2), .refl _⟩
      · by_cases e2 : j = k
        · subst e2
          have hd : d = x ∨ d = y := by
            rcases i with ⟨h1, h2⟩ | ⟨h1, h2⟩ <;> rcases iy with ⟨h3, h4⟩ | ⟨h3, h4⟩ <;> omega
          rcases hd with rfl | rfl
          · exact .inl rfl
          · exact .inr ⟨j, _, hk, iy, hyo, .refl _⟩
        · exact .inr ⟨k, y, hk, iy, hyo, hc.trans (i.cn hj e2)⟩
  rcases key t c with e | ⟨k, y, hk, iy, hyo, hc⟩
  · exact hne e.symm
  · exact hr k hk y iy hyo hc
theorem off_self {x : Nat} {O : Nat → Prop} : LevOf (fun L => Cn (EP a b u (fun j => h j ≤ L ∧ ¬ O j)) x x) 0 := ⟨by omega, fun L hL => ⟨fun _ => ⟨by omega, hL⟩, fun _ => .refl _⟩⟩
/-- Chambers that were gone through are not come to again. -/
theorem off_seen (K : KruI a b h n u all) {k x y : Nat} {o : Int} {O : Nat → Prop} (hO : Off a b u x o O) (hk : k ∈ u) (i : Inc a b k x y) (hyo : (y : Int) ≠ o) {V : List Nat} (hV : ∀ v, v ∈ V → ¬ Cn (EP a b u (fun j => ¬ O j)) x v) :
    ∀ v, v ∈ x :: V → ¬ Cn (EP a b u (fun j => j ≠ k)) y v := fun v hv c => by
  have hkO : ¬ O k := fun hO2 => hyo ((hO.1 k hk y i).1 hO2)
  rcases List.mem_cons.1 hv with rfl | hv
  · exact K.bridge hk i c.symm
  · have c2 : Cn (EP a b u (fun j => True ∧ j ≠ k)) y v := ep_mono (fun _ _ h => ⟨trivial, h⟩) c
    exact hV v hv ((i.cn hk hkO).trans (ep_mono (fun _ _ h => h.2) (off_side K hO hk i c2)))
theorem lev_no {P : Nat → Prop} {y t : Nat} {r : Int} (hh : ∀ k, k ∈ u → 0 ≤ h k ∧ h k ≤ 40) (hr : LevOf (fun L => Cn (EP a b u (fun j => h j ≤ L ∧ P j)) y t) r) (h0 : r < 0) : ¬ Cn (EP a b u P) y t := fun c => by
  have := ((hr.2 40 (by omega)).1 (ep_mono (fun j hj hP => ⟨(hh j hj).2, hP⟩) c)).1
  omega
end
end Go.Proofs.YtahbfifnpceoeaaDoor
