/- Marking the blocks of a pit that lies in memory of the call's own, and reading the marks. Lists are at most 2^20 long. -/
import Derived.Test.YtekngpinldiodaaPit2
import Derived.Test.YtekngpinldiodaaApp
namespace Go.Proofs.Ytekngpinldiodaa
open Go.RowKit

/-- The pit at A may be written: its outer row is block g, what block j needs lies in block G j; all within lo, .., hi-1, no two of them one. -/
structure PitM (w : World) (lo hi : Nat) (A : Option Addr) (D : PitD) (g : Nat) (G : Nat → Nat) : Prop where
  outer : 0 < D.n → A = some ⟨g, 0, none⟩ ∧ lo ≤ g ∧ g < hi ∧ ∃ cap, ∃ f : Nat → Value, D.n * 2 ≤ cap ∧ w.rowIs g 48 cap f ∧ ∀ j, j < D.n → f (j * 2) = .int .i64 (D.p j) ∧ ∃ C c, f (j * 2 + 1) = .slice C (D.l j) c ∧ (0 < D.l j → C = some ⟨G j, 0, none⟩)
  inner : ∀ j, j < D.n → 0 < D.l j → lo ≤ G j ∧ G j < hi ∧ G j ≠ g ∧ ∃ cap, ∃ f : Nat → Value, D.l j ≤ cap ∧ w.rowIs (G j) 3 cap f ∧ ∀ i, i < D.l j → f i = .int .i64 (D.x j i)
  sep : ∀ i j, i < D.n → j < D.n → i ≠ j → 0 < D.l i → 0 < D.l j → G i ≠ G j

theorem PitM.of_own {w : World} {lo g : Nat} {G : Nat → Nat} {D : PitD} (h : PitOwn w g G D) (hlo : lo ≤ g) : PitM w lo w.heap.size (some ⟨g, 0, none⟩) D g G :=
  ⟨fun _ => ⟨rfl, hlo, h.outer.lt, _, _, Nat.le_refl _, h.outer, fun j hj => ⟨blkF_0 _ _ _ _, _, _, blkF_1 _ _ _ _, fun _ => rfl⟩⟩,
   fun j hj _ => ⟨by have := h.above j hj; omega, (h.inner j hj).lt, by have := h.above j hj; omega, _, _, Nat.le_refl _, h.inner j hj, fun _ _ => rfl⟩,
   fun i j hi hj hne _ _ => by
    rcases Nat.lt_or_ge i j with hlt | hge
    · have := h.mono i j hlt hj; omega
    · have := h.mono j i (by omega) hi; omega⟩

theorem PitM.at_ {w : World} {lo hi : Nat} {A : Option Addr} {D : PitD} {g : Nat} {G : Nat → Nat} (h : PitM w lo hi A D g G) : PitAt w A D := fun h0 => by
  obtain ⟨hA, _, _, cap, f, hc, hrow, hf⟩ := h.outer h0
  refine ⟨g, 0, hA, fun j hj => ?_⟩
  obtain ⟨f0, C, c, f1, hC⟩ := hf j hj
  refine ⟨by rw [Nat.zero_add, hrow.cell (by omega), f0], C, c, by rw [Nat.zero_add, hrow.cell (by omega), f1], fun hl => ?_⟩
  obtain ⟨_, _, _, cap', f', hc', hrow', hf'⟩ := h.inner j hj hl
  exact ⟨G j, 0, hC hl, fun i hi => by rw [Nat.zero_add, hrow'.cell (by omega), hf' i hi]⟩

theorem PitM.below {w w' : World} {lo hi : Nat} {A : Option Addr} {D : PitD} {g : Nat} {G : Nat → Nat} (h : PitM w lo hi A D g G) (hb : Below w.heap.size w w') : PitM w' lo hi A D g G :=
  ⟨fun h0 => by
    obtain ⟨hA, h1, h2, cap, f, hc, hrow, hf⟩ := h.outer h0
    exact ⟨hA, h1, h2, cap, f, hc, row_below hb hrow, hf⟩, fun j hj hl => by
    obtain ⟨h1, h2, h3, cap, f, hc, hrow, hf⟩ := h.inner j hj hl
    exact ⟨h1, h2, h3, cap, f, hc, row_below hb hrow, hf⟩, h.sep⟩

theorem PitM.kept {w w' : World} {lo hi lo' hi' : Nat} {A : Option Addr} {D : PitD} {g : Nat} {G : Nat → Nat} (h : PitM w lo hi A D g G) (hb : Kept lo' hi' w w') (hs : hi ≤ lo' ∨ hi' ≤ lo) : PitM w' lo hi A D g G :=
  ⟨fun h0 => by
    obtain ⟨hA, h1, h2, cap, f, hc, hrow, hf⟩ := h.outer h0
    exact ⟨hA, h1, h2, cap, f, hc, hb.row hrow (by omega), hf⟩, fun j hj hl => by
    obtain ⟨h1, h2, h3, cap, f, hc, hrow, hf⟩ := h.inner j hj hl
    exact ⟨h1, h2, h3, cap, f, hc, hb.row hrow (by omega), hf⟩, h.sep⟩

/-- The mark of block t, when the first mark is k. -/
def mkN (D : PitD) (k : Nat) : Nat → Nat
  | 0 => k
  | t + 1 => mkN D k t + 1 + D.l t
theorem mkN_le {D : PitD} (hs : PitSmall D) (k : Nat) : ∀ t, t ≤ D.n → mkN D k t ≤ k + t * 1048577
  | 0, _ => by simp [mkN]
  | t + 1, h => by
    have ih := mkN_le hs k t (by omega)
    have := hs.2 t (by omega)
    simp only [mkN]
    omega
theorem mkN_ge (D : PitD) (k : Nat) : ∀ t, k ≤ mkN D k t
  | 0 => Nat.le_refl _
  | t + 1 => by have := mkN_ge D k t; simp only [mkN]; omega
/-- D with its first t blocks marked. -/
def markD (D : PitD) (k t : Nat) : PitD :=
  { n := D.n, p := fun j => if j < t then ((mkN D k j : Nat) : Int) else D.p j, l := D.l, x := fun j i => if j < t then ((mkN D k j + 1 + i : Nat) : Int) else D.x j i }

theorem PitM.mark0 {w : World} {lo hi : Nat} {A : Option Addr} {D : PitD} {g : Nat} {G : Nat → Nat} (h : PitM w lo hi A D g G) (k : Nat) : PitM w lo hi A (markD D k 0) g G := by
  have e : markD D k 0 = D := by simp [markD]
  rw [e]; exact h

theorem PitM.step {w w2 : World} {lo hi : Nat} {A : Option Addr} {D : PitD} {g : Nat} {G : Nat → Nat} {k t : Nat} (h : PitM w lo hi A (markD D k t) g G) (ht : t < D.n) {C : Option Addr} (hC : 0 < D.l t → C = some ⟨G t, 0, none⟩)
    (hm : MutI w2 (if 0 < D.l t then G t else 0) (if 0 < D.l t then G t + 1 else 0) C (D.l t) (fun i => ((mkN D k t + 1 + i : Nat) : Int)))
    (hk : Kept (if 0 < D.l t then G t else 0) (if 0 < D.l t then G t + 1 else 0) (w.setCell ⟨g, t * 2, none⟩ (.int .i64 ((mkN D k t : Nat) : Int))) w2) : PitM w2 lo hi A (markD D k (t + 1)) g G := by
  have hn : (markD D k t).n = D.n := rfl
  have hlt : ∀ j, (markD D k t).l j = D.l j := fun _ => rfl
  obtain ⟨hA, h1, h2, cap, f, hc, hrow, hf⟩ := h.outer (by rw [hn]; omega)
  have hgo : g < (if 0 < D.l t then G t else 0) ∨ (if 0 < D.l t then G t + 1 else 0) ≤ g := by
    by_cases hl : 0 < D.l t
    · obtain ⟨_, _, h3, _⟩ := h.inner t ht hl
      rw [if_pos hl, if_pos hl]
      omega
    · rw [if_neg hl, if_neg hl]; omega
  refine ⟨fun _ => ⟨hA, h1, h2, cap, _, hc, hk.row (hrow.set _ _) hgo, fun j hj => ?_⟩, fun j hj hl => ?_, h.sep⟩
  · have hj' : j < D.n := hj
    obtain ⟨f0, C', c', f1, hC'⟩ := hf j hj'
    refine ⟨?_, C', c', ?_, hC'⟩
    · by_cases e : j = t
      · subst e; simp [markD]
      · rw [if_neg (by omega), f0]
        simp only [markD]
        by_cases e2 : j < t
        · rw [if_pos e2, if_pos (by omega)]
        · rw [if_neg e2, if_neg (by omega)]
    · rw [if_neg (by omega), f1]; rfl
  · have hj' : j < D.n := hj
    have hl' : 0 < D.l j := hl
    obtain ⟨i1, i2, i3, cap', f', hc', hrow', hf'⟩ := h.inner j hj' hl'
    by_cases e : j = t
    · subst e
      obtain ⟨g', cap2, f2, hA2, _, _, hc2, hrow2, hf2⟩ := hm hl'
      rw [hC hl'] at hA2
      simp only [Option.some.injEq, Addr.mk.injEq, and_true] at hA2
      subst hA2
      exact ⟨i1, i2, i3, cap2, f2, hc2, hrow2, fun i hi => by rw [hf2 i hi]; simp [markD]⟩
    · refine ⟨i1, i2, i3, cap', f', hc', hk.row (hrow'.setOther (by show G j ≠ g; exact i3) _) ?_, fun i hi => ?_⟩
      · by_cases hl2 : 0 < D.l t
        · have := h.sep j t hj' ht e hl' hl2
          rw [if_pos hl2, if_pos hl2]
          omega
        · rw [if_neg hl2, if_neg hl2]; omega
      · rw [hf' i hi]
        simp only [markD]
        by_cases e2 : j < t
        · rw [if_pos e2, if_pos (by omega)]
        · rw [if_neg e2, if_neg (by omega)]

set_option maxHeartbeats 800000 in
theorem markBlockS_any (A : Option Addr) (D : PitD) (c lo hi g : Nat) (G : Nat → Nat) (k : Nat) (w : World) (hm : PitM w lo hi A D g G) (hs : PitSmall D) (hk : k ≤ 1000) :
    Calls Try.prog 31 #[.slice A D.n c, .int .i64 k] w fun e w' => e = .returned (.int .i64 ((mkN D k D.n : Nat) : Int)) ∧ PitM w' lo hi A (markD D k D.n) g G ∧ Kept lo hi w w' := by
  have hn := hs.1
  have HS := hid hs
  go_enter Try.func31, Try.ntmps31
  go_wp2
  go_loopw [1, 5] (fun q i wr => ∃ t : Nat, t ≤ D.n ∧ i = .int .i64 t ∧ q = .int .i64 ((mkN D k t : Nat) : Int) ∧ PitM wr lo hi A (markD D k t) g G ∧ Kept lo hi w wr) (fun _ i _ => D.n - (intOf i).toNat)
  case atStart => exact ⟨0, by omega, rfl, rfl, hm.mark0 k, Kept.refl _ _ _⟩
  case round =>
    obtain ⟨t, ht, rfl, rfl, hpm, hkp⟩ := hrel
    by_cases hlt : t < D.n
    · have hltz : (t : Int) < (D.n : Int) := by omega
      obtain ⟨hA, o1, o2, cap, f, hc, hrow, hf⟩ := hpm.outer (show 0 < D.n by omega)
      obtain ⟨f0, C, cc, f1, hC⟩ := hf t hlt
      have hfc : f (t * 2 + 1) = .slice C (D.l t) cc := f1
      have hC' : 0 < D.l t → C = some ⟨G t, 0, none⟩ := hC
      obtain rfl := hA
      have hcap : D.n * 2 ≤ cap := hc
      have c1 := hrow.cell (show t * 2 < cap by omega)
      have c2 : wr.cell? ⟨g, t * 2 + 1, none⟩ = some (.slice C (D.l t) cc) := by rw [hrow.cell (show t * 2 + 1 < cap by omega), hfc]
      have z1 := hrow.frozen (t * 2)
      rw [f0] at c1
      have hlk := HS.out.2 t hlt
      have hmk := mkN_le HS.out k t (by omega)
      have HPM := hid hpm
      have HKP := hid hkp
      have hmu : MutI (wr.setCell ⟨g, t * 2, none⟩ (.int .i64 ((mkN D k t : Nat) : Int))) (if 0 < D.l t then G t else 0) (if 0 < D.l t then G t + 1 else 0) C (D.l t) ((markD D k t).x t) := fun hl => by
        obtain ⟨_, _, i3, cap', f', hc', hrow', hf'⟩ := HPM.out.inner t hlt hl
        exact ⟨G t, cap', f', hC' hl, by rw [if_pos hl]; omega, by rw [if_pos hl]; omega, hc', hrow'.setOther (by show G t ≠ g; exact i3) _, hf'⟩
      have HMU := hid hmu
      have HCC := hid hC'
      have HIN : Hid (0 < D.l t → lo ≤ G t ∧ G t < hi) := fun hl => ⟨(HPM.out.inner t hlt hl).1, (HPM.out.inner t hlt hl).2.1⟩
      clear hmu hC' hC hf f0 f1 hfc hpm hkp hm hrow
      go_wp2_with fail
      have e1 : ((mkN D k t : Nat) : Int) + 1 = ((mkN D k t + 1 : Nat) : Int) := by omega
      rw [e1]
      refine (markIntS_any C (D.l t) cc _ _ _ (mkN D k t + 1) _ HMU.out hlk (by omega)).mono ?_
      rintro e w2 ⟨rfl, hmu2, hk2⟩
      have hst := hid (HPM.out.step hlt HCC.out hmu2 hk2)
      have hkw : Hid (Kept lo hi w w2) := by
        refine (HKP.out.setCell (p := ⟨g, t * 2, none⟩) o1 o2 (.int .i64 ((mkN D k t : Nat) : Int))).trans ?_
        by_cases hl : 0 < D.l t
        · rw [if_pos hl, if_pos hl] at hk2
          exact hk2.wide (HIN.out hl).1 (HIN.out hl).2
        · rw [if_neg hl, if_neg hl] at hk2
          exact ⟨hk2.os, hk2.tape, hk2.output, hk2.size, fun b hb _ => hk2.block b hb (by omega)⟩
      clear hmu2 hk2 e1
      go_wp2
      go_roundw
      case rel => exact ⟨t + 1, by omega, by go_num, rfl, hst.out, hkw.out⟩
      case measure => simp [intOf] <;> omega
    · have : t = D.n := by omega
      subst this
      go_wp2
      go_ret
      exact ⟨rfl, hpm, hkp⟩

theorem heldBlockS_any (A : Option Addr) (D : PitD) (c : Nat) (k : Nat) (w : World) (hx : PitAt w A (markD D k D.n)) (hs : PitSmall D) (hk : k ≤ 1000) :
    Calls Try.prog 32 #[.slice A D.n c, .int .i64 k] w (RetS (.int .i64 ((mkN D k D.n : Nat) : Int)) w) := by
  have hn := hs.1
  have HS := hid hs
  go_enter Try.func32, Try.ntmps32
  go_wp2
  go_loop [1, 5] (fun q i => ∃ t : Nat, t ≤ D.n ∧ i = .int .i64 t ∧ q = .int .i64 ((mkN D k t : Nat) : Int)) (fun _ i => D.n - (intOf i).toNat)
  case atStart => exact ⟨0, by omega, rfl, rfl⟩
  case round =>
    obtain ⟨t, ht, rfl, rfl⟩ := hrel
    by_cases hlt : t < D.n
    · have hltz : (t : Int) < (D.n : Int) := by omega
      obtain ⟨b, o, C, cc, rfl, a1, a2, a3⟩ := hx.at_ (show t < D.n from hlt)
      have c1 : w.cell? ⟨b, o + t * 2, none⟩ = some (.int .i64 ((mkN D k t : Nat) : Int)) := by rw [a1]; simp [markD, hlt]
      have c2 : w.cell? ⟨b, o + t * 2 + 1, none⟩ = some (.slice C (D.l t) cc) := a2
      have c3 : Ints w C (D.l t) (fun i => ((mkN D k t + 1 + i : Nat) : Int)) := Rd.congr a3 (fun i _ => by simp [markD, hlt])
      have hlk := HS.out.2 t hlt
      have hmk := mkN_le HS.out k t (by omega)
      have hne : (((mkN D k t : Nat) : Int) != ((mkN D k t : Nat) : Int)) = false := by simp
      clear a1 a2 a3 hx
      go_wp2_with fail
      have e1 : ((mkN D k t : Nat) : Int) + 1 = ((mkN D k t + 1 : Nat) : Int) := by omega
      rw [e1]
      refine (heldIntS_any C (D.l t) cc (mkN D k t + 1) _ c3 hlk (by omega)).mono ?_
      rintro e w2 ⟨rfl, rfl⟩
      clear e1
      have hnn : ¬ ((mkN D k t + 1 + D.l t : Nat) : Int) < 0 := by omega
      go_wp2
      go_round
      case rel => exact ⟨t + 1, by omega, by go_num, rfl⟩
      case measure => simp [intOf] <;> omega
    · have : t = D.n := by omega
      subst this
      go_wp2
      go_ret
      exact ⟨rfl, rfl⟩
end Go.Proofs.Ytekngpinldiodaa
