/- The lowest sills that join everything, in plain words: they join what all join, at each level too; without any one they do not; and none that join everything are lower together. No program in sight. -/
import Derived.Test.YtahbfifnpceoeaaDoorConn
namespace Go.Proofs.YtahbfifnpceoeaaDoor
open Go.RowKit

theorem cn_add {E : Nat → Nat → Prop} {s t x y : Nat} (h : Cn (fun x y => E x y ∨ (x = s ∧ y = t)) x y) : Cn E x y ∨ (Cn E x s ∧ Cn E t y) ∨ (Cn E x t ∧ Cn E s y) := by
  induction h with
  | refl => exact .inl (.refl _)
  | @snoc c d _ e ih =>
    rcases e with (e | ⟨rfl, rfl⟩) | (e | ⟨rfl, rfl⟩)
    · rcases ih with ih | ⟨i1, i2⟩ | ⟨i1, i2⟩
      · exact .inl (.snoc ih (.inl e))
      · exact .inr (.inl ⟨i1, .snoc i2 (.inl e)⟩)
      · exact .inr (.inr ⟨i1, .snoc i2 (.inl e)⟩)
    · rcases ih with ih | ⟨i1, i2⟩ | ⟨i1, i2⟩
      · exact .inr (.inl ⟨ih, .refl _⟩)
      · exact .inr (.inl ⟨i1, .refl _⟩)
      · exact .inl i1
    · rcases ih with ih | ⟨i1, i2⟩ | ⟨i1, i2⟩
      · exact .inl (.snoc ih (.inr e))
      · exact .inr (.inl ⟨i1, .snoc i2 (.inr e)⟩)
      · exact .inr (.inr ⟨i1, .snoc i2 (.inr e)⟩)
    · rcases ih with ih | ⟨i1, i2⟩ | ⟨i1, i2⟩
      · exact .inr (.inr ⟨ih, .refl _⟩)
      · exact .inl i1
      · exact .inr (.inr ⟨i1, .refl _⟩)

section
variable (a b : Nat → Nat) (h : Nat → Int)
/-- The sills of l of which P holds. -/
def EP (l : List Nat) (P : Nat → Prop) (x y : Nat) : Prop := ∃ k, k ∈ l ∧ P k ∧ a k = x ∧ b k = y
def kruS (u : List Nat) (k : Nat) : List Nat := if partL a b u (a k) = partL a b u (b k) then u else u ++ [k]
def kru (l : List Nat) : List Nat := l.foldl (kruS a b) []

/-- u was taken out of what is done. -/
structure KruI (n : Nat) (u done : List Nat) : Prop where
  inn : ∀ k, k ∈ done → a k < n ∧ b k < n
  sub : ∀ k, k ∈ u → k ∈ done
  nod : u.Nodup
  conn : ∀ k, k ∈ done → Cn (EP a b u (fun j => h j ≤ h k)) (a k) (b k)
  brid : ∀ k, k ∈ u → ¬ Cn (EP a b u (fun j => j ≠ k)) (a k) (b k)

theorem KruI.start (n : Nat) : KruI a b h n [] [] := ⟨(fun _ h => by cases h), (fun _ h => by cases h), .nil, (fun _ h => by cases h), (fun _ h => by cases h)⟩
variable {a b h}
theorem KruI.step {n : Nat} {u done : List Nat} (K : KruI a b h n u done) {k : Nat} (hk : a k < n ∧ b k < n) (hnew : k ∉ done) (hle : ∀ j, j ∈ done → h j ≤ h k) : KruI a b h n (kruS a b u k) (done ++ [k]) := by
  have hu : PartOf n (partL a b u) (EL a b u) := partL_of a b u (fun j hj => K.inn j (K.sub j hj))
  have hinn : ∀ j, j ∈ done ++ [k] → a j < n ∧ b j < n := fun j hj => by
    rcases List.mem_append.1 hj with hj | hj
    · exact K.inn j hj
    · rw [List.mem_singleton.1 hj]; exact hk
  have hall : ∀ x y, EL a b u x y → EP a b u (fun j => h j ≤ h k) x y := fun x y ⟨j, hj, e⟩ => ⟨j, hj, hle j (K.sub j hj), e⟩
  unfold kruS
  split <;> rename_i e
  · refine ⟨hinn, fun j hj => List.mem_append.2 (.inl (K.sub j hj)), K.nod, fun j hj => ?_, K.brid⟩
    rcases List.mem_append.1 hj with hj | hj
    · exact K.conn j hj
    · rw [List.mem_singleton.1 hj]
      exact ((hu.iff _ _ hk.1 hk.2).1 e).mono fun x y e => .one (hall x y e)
  · have hno : ¬ Cn (EL a b u) (a k) (b k) := fun hc => e ((hu.iff _ _ hk.1 hk.2).2 hc)
    have hku : k ∉ u := fun hj => hnew (K.sub k hj)
    refine ⟨hinn, fun j hj => ?_, ?_, fun j hj => ?_, fun j hj hc => ?_⟩
    · rcases List.mem_append.1 hj with hj | hj
      · exact List.mem_append.2 (.inl (K.sub j hj))
      · exact List.mem_append.2 (.inr hj)
    · rw [List.nodup_append]
      exact ⟨K.nod, by simp, fun x hx y hy e => by rw [List.mem_singleton.1 hy] at e; subst e; exact hku hx⟩
    · rcases List.mem_append.1 hj with hj | hj
      · exact (K.conn j hj).mono fun x y ⟨i, hi, e⟩ => .one ⟨i, List.mem_append.2 (.inl hi), e⟩
      · rw [List.mem_singleton.1 hj]
        exact .one ⟨k, by simp, Int.le_refl _, rfl, rfl⟩
    · by_cases ejk : j = k
      · subst ejk
        refine hno (hc.mono fun x y ⟨i, hi, hne, e⟩ => .one ⟨i, ?_, e⟩)
        rcases List.mem_append.1 hi with hi | hi
        · exact hi
        · exact absurd (List.mem_singleton.1 hi) hne
      · have hju : j ∈ u := by
          rcases List.mem_append.1 hj with hj | hj
          · exact hj
          · exact absurd (List.mem_singleton.1 hj) ejk
        have hc2 : Cn (fun x y => EP a b u (fun i => i ≠ j) x y ∨ (x = a k ∧ y = b k)) (a j) (b j) := hc.mono fun x y ⟨i, hi, hne, e1, e2⟩ => by
          rcases List.mem_append.1 hi with hi | hi
          · exact .one (.inl ⟨i, hi, hne, e1, e2⟩)
          · rw [List.mem_singleton.1 hi] at e1 e2
            exact .one (.inr ⟨e1.symm, e2.symm⟩)
        have hup : ∀ {x y}, Cn (EP a b u (fun i => i ≠ j)) x y → Cn (EL a b u) x y := fun k => k.mono fun x y ⟨i, hi, _, e⟩ => .one ⟨i, hi, e⟩
        have hej : Cn (EL a b u) (a j) (b j) := .one ⟨j, hju, rfl, rfl⟩
        rcases cn_add hc2 with hc | ⟨h1, h2⟩ | ⟨h1, h2⟩
        · exact K.brid j hju hc
        · exact hno (((hup h1).symm.trans hej).trans (hup h2).symm)
        · exact hno (((hup h2).trans hej.symm).trans (hup h1))
/-- Sills in an order by height. -/
def SortH (h : Nat → Int) (l : List Nat) : Prop := l.Pairwise (fun i j => h i ≤ h j)
theorem KruI.foldl {n : Nat} : ∀ (l u done : List Nat), KruI a b h n u done → (∀ k, k ∈ l → a k < n ∧ b k < n) → (done ++ l).Nodup → SortH h (done ++ l) → KruI a b h n (l.foldl (kruS a b) u) (done ++ l)
  | [], u, done, K, _, _, _ => by simpa using K
  | k :: l, u, done, K, hl, hn, hs => by
    have e : done ++ k :: l = (done ++ [k]) ++ l := by simp
    have hn2 := hn
    have hs2 := hs
    rw [List.nodup_append] at hn2
    unfold SortH at hs2
    rw [List.pairwise_append] at hs2
    have K1 := K.step (k := k) (hl k (by simp)) (fun hk => hn2.2.2 k hk k (by simp) rfl) (fun j hj => hs2.2.2 j hj k (by simp))
    rw [e] at hn hs ⊢
    exact KruI.foldl l _ _ K1 (fun j hj => hl j (by simp [hj])) hn hs
theorem kru_ok {n : Nat} {l : List Nat} (hl : ∀ k, k ∈ l → a k < n ∧ b k < n) (hn : l.Nodup) (hs : SortH h l) : KruI a b h n (kru a b l) l := by
  have := KruI.foldl l [] [] (KruI.start a b h n) hl (by simpa using hn) (by simpa using hs)
  simpa [kru] using this

section
variable {n : Nat} {u all : List Nat} (K : KruI a b h n u all)
include K
theorem KruI.at_level (L : Int) {x y : Nat} : Cn (EP a b all (fun j => h j ≤ L)) x y ↔ Cn (EP a b u (fun j => h j ≤ L)) x y :=
  ⟨fun c => c.mono fun x y ⟨k, hk, hL, e1, e2⟩ => by
    rw [← e1, ← e2]
    exact (K.conn k hk).mono fun x y ⟨j, hj, hle, e⟩ => .one ⟨j, hj, Int.le_trans hle hL, e⟩, fun c => c.mono fun x y ⟨k, hk, e⟩ => .one ⟨k, K.sub k hk, e⟩⟩
theorem KruI.joins {x y : Nat} : Cn (EL a b all) x y ↔ Cn (EL a b u) x y :=
  ⟨fun c => c.mono fun x y ⟨k, hk, e1, e2⟩ => by
    rw [← e1, ← e2]
    exact (K.conn k hk).mono fun x y ⟨j, hj, _, e⟩ => .one ⟨j, hj, e⟩, fun c => c.mono fun x y ⟨k, hk, e⟩ => .one ⟨k, K.sub k hk, e⟩⟩
/-- A sill of the tree is not higher than any that joins the same. -/
theorem KruI.lowest {k j : Nat} (hk : k ∈ u) (hj : j ∈ all) (e : (a k = a j ∧ b k = b j) ∨ (a k = b j ∧ b k = a j)) : h k ≤ h j := by
  by_cases hlt : h j < h k
  · exfalso
    have h1 : Cn (EP a b u (fun i => i ≠ k)) (a j) (b j) := (K.conn j hj).mono fun x y ⟨i, hi, hle, e⟩ => .one ⟨i, hi, fun e2 => by subst e2; omega, e⟩
    rcases e with ⟨e1, e2⟩ | ⟨e1, e2⟩
    · exact K.brid k hk (by rw [e1, e2]; exact h1)
    · exact K.brid k hk (by rw [e1, e2]; exact h1.symm)
  · omega
end

/-! ### Counting parts -/
def cntR (p : Nat → Nat) : Nat → Nat
  | 0 => 0
  | k + 1 => cntR p k + if p k = k then 1 else 0
theorem cntR_mono {p q : Nat → Nat} : ∀ n, (∀ v, v < n → q v = v → p v = v) → cntR q n ≤ cntR p n
  | 0, _ => Nat.le_refl _
  | n + 1, hh => by
    have := cntR_mono n (fun v hv => hh v (by omega))
    have h2 := hh n (by omega)
    unfold cntR
    by_cases e : q n = n
    · rw [if_pos e, if_pos (h2 e)]; omega
    · rw [if_neg e]; omega
theorem cntR_drop {p q : Nat → Nat} {c : Nat} : ∀ n, c < n → p c = c → (∀ v, v < n → (q v = v ↔ p v = v ∧ v ≠ c)) → cntR q n + 1 = cntR p n
  | 0, hc, _, _ => absurd hc (by omega)
  | n + 1, hc, hp, hh => by
    unfold cntR
    have hn := hh n (by omega)
    by_cases e : n = c
    · subst e
      have h1 := cntR_mono (p := p) (q := q) n (fun v hv e => ((hh v (by omega)).1 e).1)
      have h2 := cntR_mono (p := q) (q := p) n (fun v hv e => (hh v (by omega)).2 ⟨e, by omega⟩)
      rw [if_neg (fun e => ((hn.1 e).2 rfl)), if_pos hp]
      omega
    · have ih := cntR_drop n (by omega) hp (fun v hv => hh v (by omega))
      by_cases e2 : p n = n
      · rw [if_pos e2, if_pos (hn.2 ⟨e2, e⟩)]; omega
      · rw [if_neg e2, if_neg (fun e3 => e2 (hn.1 e3).1)]; omega
theorem cnt_le {n : Nat} {p q : Nat → Nat} {E F : Nat → Nat → Prop} (hp : PartOf n p E) (hq : PartOf n q F) (hEF : ∀ x y, Cn E x y → Cn F x y) : cntR q n ≤ cntR p n := cntR_mono n fun v hv e => by
  have h1 := hp.lt hv
  have h2 := (hp.iff v (p v) hv h1).1 (hp.idem v hv).symm
  have h3 := (hq.iff v (p v) hv h1).2 (hEF _ _ h2)
  have h4 := hq.le (p v) h1
  have h5 := hp.le v hv
  omega
theorem cnt_relab {n : Nat} {p : Nat → Nat} {E : Nat → Nat → Prop} (hp : PartOf n p E) {x y : Nat} (hx : x < n) (hy : y < n) (hne : p x ≠ p y) : cntR (relab p x y) n + 1 = cntR p n := by
  have h1 := hp.lt hx
  have h2 := hp.lt hy
  have i1 := hp.idem x hx
  have i2 := hp.idem y hy
  have hc : p (max (p x) (p y)) = max (p x) (p y) := by
    by_cases e : p x ≤ p y
    · rw [show max (p x) (p y) = p y by omega]; exact i2
    · rw [show max (p x) (p y) = p x by omega]; exact i1
  refine cntR_drop (c := max (p x) (p y)) n (by omega) hc fun v hv => ?_
  have hle := hp.le v hv
  unfold relab
  by_cases e : p v = max (p x) (p y)
  · rw [if_pos e]
    refine ⟨fun e2 => by omega, fun e2 => by omega⟩
  · rw [if_neg e]
    refine ⟨fun e2 => ⟨e2, fun e3 => e ?_⟩, fun e2 => e2.1⟩
    rw [e3]; exact hc
theorem cnt_more {n : Nat} : ∀ (m l : List Nat), (∀ k, k ∈ l ++ m → a k < n ∧ b k < n) → cntR (partL a b l) n ≤ cntR (partL a b (l ++ m)) n + m.length
  | [], l, _ => by simp
  | k :: m, l, hl => by
    have e : l ++ k :: m = (l ++ [k]) ++ m := by simp
    have h1 := cnt_more m (l ++ [k]) (by rw [← e]; exact hl)
    rw [← e] at h1
    have hp := partL_of a b (n := n) l (fun j hj => hl j (by simp [hj]))
    have hk := hl k (by simp)
    rw [partL_snoc] at h1
    have h2 : cntR (partL a b l) n ≤ cntR (relab (partL a b l) (a k) (b k)) n + 1 := by
      by_cases e2 : partL a b l (a k) = partL a b l (b k)
      · rw [relab_same e2]; omega
      · have := cnt_relab hp hk.1 hk.2 e2; omega
    simp only [List.length_cons]
    omega
/-- Each sill behind l joins what was apart. -/
theorem cnt_forest {n : Nat} : ∀ (m l : List Nat), (∀ k, k ∈ l ++ m → a k < n ∧ b k < n) → (l ++ m).Nodup → (∀ k, k ∈ l ++ m → ¬ Cn (EP a b (l ++ m) (fun j => j ≠ k)) (a k) (b k)) → cntR (partL a b l) n = cntR (partL a b (l ++ m)) n + m.length
  | [], l, _, _, _ => by simp
  | k :: m, l, hl, hn, hb => by
    have e : l ++ k :: m = (l ++ [k]) ++ m := by simp
    have h1 := cnt_forest m (l ++ [k]) (by rw [← e]; exact hl) (by rw [← e]; exact hn) (by rw [← e]; exact hb)
    rw [← e] at h1
    have hp := partL_of a b (n := n) l (fun j hj => hl j (by simp [hj]))
    have hk := hl k (by simp)
    have hkl : k ∉ l := fun hk2 => by
      rw [List.nodup_append] at hn
      exact hn.2.2 k hk2 k (by simp) rfl
    rw [partL_snoc] at h1
    have h2 := cnt_relab hp hk.1 hk.2 (fun e2 => hb k (by simp) (((hp.iff _ _ hk.1 hk.2).1 e2).mono fun x y ⟨j, hj, e⟩ => .one ⟨j, by simp [hj], fun e3 => by subst e3; exact hkl hj, e⟩))
    simp only [List.length_cons]
    omega

/-! ### Heights together -/
def sumH (h : Nat → Int) : List Nat → Int
  | [] => 0
  | k :: l => h k + sumH h l
def numGt (h : Nat → Int) (L : Int) : List Nat → Nat
  | [] => 0
  | k :: l => (if L < h k then 1 else 0) + numGt h L l
def levs (f : Nat → Nat) : Nat → Nat
  | 0 => 0
  | k + 1 => levs f k + f k
theorem levs_one (x : Int) (h0 : 0 ≤ x) : ∀ n : Nat, ((levs (fun L => if (L : Int) < x then 1 else 0) n : Nat) : Int) = min x n
  | 0 => by simp [levs]; omega
  | n + 1 => by
    have := levs_one x h0 n
    unfold levs
    split <;> omega
theorem levs_add (f g : Nat → Nat) : ∀ n, levs (fun L => f L + g L) n = levs f n + levs g n
  | 0 => rfl
  | n + 1 => by simp only [levs, levs_add f g n]; omega
theorem levs_le {f g : Nat → Nat} : ∀ n, (∀ L, L < n → f L ≤ g L) → levs f n ≤ levs g n
  | 0, _ => Nat.le_refl _
  | n + 1, hh => by
    have := levs_le n (fun L hL => hh L (by omega))
    have := hh n (by omega)
    simp only [levs]; omega
theorem sumH_levs : ∀ l : List Nat, (∀ k, k ∈ l → 0 ≤ h k ∧ h k ≤ 40) → sumH h l = ((levs (fun L => numGt h L l) 40 : Nat) : Int)
  | [], _ => by simp [sumH, numGt]; decide
  | k :: l, hl => by
    have ih := sumH_levs l (fun j hj => hl j (by simp [hj]))
    have hk := hl k (by simp)
    have h1 := levs_one (h k) hk.1 40
    have h2 := levs_add (fun L : Nat => if (L : Int) < h k then 1 else 0) (fun L => numGt h L l) 40
    show h k + sumH h l = ((levs (fun L => (if (L : Int) < h k then 1 else 0) + numGt h L l) 40 : Nat) : Int)
    rw [h2, ih]
    omega
theorem numGt_eq (L : Int) : ∀ l : List Nat, numGt h L l = (l.filter (fun k => decide (L < h k))).length
  | [] => rfl
  | k :: l => by
    unfold numGt
    rw [numGt_eq L l, List.filter_cons]
    by_cases e : L < h k
    · rw [if_pos e, if_pos (by simpa using e)]; simp; omega
    · rw [if_neg e, if_neg (by simpa using e)]; omega
/-- None that join everything are lower together. -/
theorem KruI.least {n : Nat} {u all some : List Nat} (K : KruI a b h n u all) (hh : ∀ k, k ∈ all → 0 ≤ h k ∧ h k ≤ 40) (hsub : ∀ k, k ∈ some → k ∈ all) (hj : ∀ x y, x < n → y < n → (Cn (EL a b some) x y ↔ Cn (EL a b all) x y)) : sumH h u ≤ sumH h some := by
  rw [sumH_levs u (fun k hk => hh k (K.sub k hk)), sumH_levs some (fun k hk => hh k (hsub k hk))]
  refine Int.ofNat_le.2 (levs_le 40 fun L _ => ?_)
  have pt : ∀ l : List Nat, (∀ k, k ∈ l → k ∈ all) → PartOf n (partL a b l) (EL a b l) := fun l hl => partL_of a b l (fun k hk => K.inn k (hl k hk))
  have split_ : ∀ l : List Nat, (∀ k, k ∈ l → k ∈ all) → ∀ x y, Cn (EL a b (l.filter (fun k => decide (h k ≤ (L : Int))) ++ l.filter (fun k => decide ((L : Int) < h k)))) x y ↔ Cn (EL a b l) x y := fun l _ x y =>
    ⟨cn_el_mono a b (fun k hk => by
      rcases List.mem_append.1 hk with hk | hk
      · exact (List.mem_filter.1 hk).1
      · exact (List.mem_filter.1 hk).1), cn_el_mono a b (fun k hk => by
      by_cases e : h k ≤ (L : Int)
      · exact List.mem_append.2 (.inl (List.mem_filter.2 ⟨hk, by simpa using e⟩))
      · exact List.mem_append.2 (.inr (List.mem_filter.2 ⟨hk, by simp; omega⟩)))⟩
  have hin : ∀ l : List Nat, (∀ k, k ∈ l → k ∈ all) → ∀ k, k ∈ l.filter (fun k => decide (h k ≤ (L : Int))) ++ l.filter (fun k => decide ((L : Int) < h k)) → k ∈ all := fun l hl k hk => by
    rcases List.mem_append.1 hk with hk | hk
    · exact hl k (List.mem_filter.1 hk).1
    · exact hl k (List.mem_filter.1 hk).1
  -- the number of parts is the same, in whatever order
  have heq : ∀ l m : List Nat, (∀ k, k ∈ l → k ∈ all) → (∀ k, k ∈ m → k ∈ all) → (∀ x y, x < n → y < n → (Cn (EL a b l) x y ↔ Cn (EL a b m) x y)) → cntR (partL a b l) n = cntR (partL a b m) n := fun l m hl hm hlm => by
    have h1 := cntR_mono (p := partL a b l) (q := partL a b m) n fun v hv e => by rw [(pt l hl).uniq (pt m hm) hlm hv]; exact e
    have h2 := cntR_mono (p := partL a b m) (q := partL a b l) n fun v hv e => by rw [(pt m hm).uniq (pt l hl) (fun x y hx hy => (hlm x y hx hy).symm) hv]; exact e
    omega
  have t1 := cnt_more (a := a) (b := b) (n := n) (some.filter (fun k => decide ((L : Int) < h k))) (some.filter (fun k => decide (h k ≤ (L : Int)))) (fun k hk => K.inn k (hin some hsub k hk))
  have t2 := heq _ some (hin some hsub) hsub (fun x y _ _ => split_ some hsub x y)
  have t3 := heq some all hsub (fun _ h => h) hj
  have q1 : (u.filter (fun k => decide (h k ≤ (L : Int))) ++ u.filter (fun k => decide ((L : Int) < h k))).Nodup := by
    rw [List.nodup_append]
    refine ⟨K.nod.filter _, K.nod.filter _, fun x hx y hy e => ?_⟩
    subst e
    have := (List.mem_filter.1 hx).2
    have := (List.mem_filter.1 hy).2
    simp at *
    omega
  have q2 := cnt_forest (a := a) (b := b) (n := n) (u.filter (fun k => decide ((L : Int) < h k))) (u.filter (fun k => decide (h k ≤ (L : Int)))) (fun k hk => K.inn k (hin u K.sub k hk)) q1 (fun k hk hc => by
    have hku : k ∈ u := by
      rcases List.mem_append.1 hk with hk | hk
      · exact (List.mem_filter.1 hk).1
      · exact (List.mem_filter.1 hk).1
    refine K.brid k hku (hc.mono fun x y ⟨j, hj, hne, e⟩ => .one ⟨j, ?_, hne, e⟩)
    rcases List.mem_append.1 hj with hj | hj
    · exact (List.mem_filter.1 hj).1
    · exact (List.mem_filter.1 hj).1)
  have q3 := heq _ u (hin u K.sub) K.sub (fun x y _ _ => split_ u K.sub x y)
  have q4 := heq u all K.sub (fun _ h => h) (fun x y _ _ => K.joins.symm)
  have fin : ∀ l : List Nat, (∀ k, k ∈ l → k ∈ all) → ∀ k, k ∈ l.filter (fun k => decide (h k ≤ (L : Int))) → k ∈ all := fun l hl k hk => hl k (List.mem_filter.1 hk).1
  have r1 := cnt_le (pt _ (fin some hsub)) (pt _ (fin u K.sub)) (fun x y c => by
    have c2 : Cn (EP a b all (fun j => h j ≤ (L : Int))) x y := c.mono fun x y ⟨k, hk, e⟩ => .one ⟨k, hsub k (List.mem_filter.1 hk).1, by simpa using (List.mem_filter.1 hk).2, e⟩
    exact ((K.at_level (L : Int)).1 c2).mono fun x y ⟨k, hk, hL, e⟩ => .one ⟨k, List.mem_filter.2 ⟨hk, by simpa using hL⟩, e⟩)
  rw [numGt_eq, numGt_eq]
  omega
end
end Go.Proofs.YtahbfifnpceoeaaDoor
