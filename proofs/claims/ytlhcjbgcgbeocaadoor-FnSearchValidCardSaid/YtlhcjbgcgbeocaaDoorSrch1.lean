/- Searches in memory, and the two SearchValid, which tell the same property. Lists are at most 2^20 long. -/
import Derived.Test.YtlhcjbgcgbeocaaDoorLeaf
namespace Go.Proofs.YtlhcjbgcgbeocaaDoor
open Go.RowKit

/-- A search as data. -/
structure SrchD where
  s : Int
  m : Nat
  a : Nat → Int
  b : Nat → Int
  t : Nat → Int
  k : Nat
  dep : Nat → Bool

/-- m triples of numbers from A on. -/
def Triples (w : World) (A : Option Addr) (m : Nat) (x y z : Nat → Int) : Prop :=
  0 < m → ∃ b o, A = some ⟨b, o, none⟩ ∧ ∀ j, j < m → w.cell? ⟨b, o + j * 3, none⟩ = some (.int .i64 (x j)) ∧ w.cell? ⟨b, o + j * 3 + 1, none⟩ = some (.int .i64 (y j)) ∧ w.cell? ⟨b, o + j * 3 + 2, none⟩ = some (.int .i64 (z j))
abbrev Bools (w : World) (A : Option Addr) (n : Nat) (x : Nat → Bool) : Prop := Rd w A n (fun j => .bool (x j))

theorem Triples.below {w w' : World} {A : Option Addr} {m : Nat} {x y z : Nat → Int} (h : Triples w A m x y z) (hb : Below w.heap.size w w') : Triples w' A m x y z := fun h0 => by
  obtain ⟨b, o, hA, hc⟩ := h h0
  exact ⟨b, o, hA, fun j hj => ⟨cell_below hb (hc j hj).1, cell_below hb (hc j hj).2.1, cell_below hb (hc j hj).2.2⟩⟩
theorem Triples.at_ {w : World} {A : Option Addr} {m : Nat} {x y z : Nat → Int} (h : Triples w A m x y z) {k : Nat} (hk : k < m) :
    ∃ b o, A = some ⟨b, o, none⟩ ∧ w.cell? ⟨b, o + k * 3, none⟩ = some (.int .i64 (x k)) ∧ w.cell? ⟨b, o + k * 3 + 1, none⟩ = some (.int .i64 (y k)) ∧ w.cell? ⟨b, o + k * 3 + 2, none⟩ = some (.int .i64 (z k)) := by
  obtain ⟨b, o, hA, hc⟩ := h (by omega)
  exact ⟨b, o, hA, hc k hk⟩

/-- The search with these two slices reads as D. -/
structure SrchAt (w : World) (P Q : Option Addr) (D : SrchD) : Prop where
  pas : Triples w P D.m D.a D.b D.t
  dep : Bools w Q D.k D.dep
theorem SrchAt.below {w w' : World} {P Q : Option Addr} {D : SrchD} (h : SrchAt w P Q D) (hb : Below w.heap.size w w') : SrchAt w' P Q D := ⟨h.pas.below hb, h.dep.below hb⟩
theorem SrchAt.alloc {w : World} {P Q : Option Addr} {D : SrchD} (h : SrchAt w P Q D) (o : Obj) : SrchAt (w.alloc o) P Q D := h.below ((Below.refl _ _).alloc (Nat.le_refl _) _)
def SrchSmall (D : SrchD) : Prop := D.m ≤ 1048576 ∧ D.k ≤ 1048576

def PasOk (D : SrchD) (j : Nat) : Prop := (0 ≤ D.a j ∧ D.a j < D.s) ∧ (0 ≤ D.b j ∧ D.b j < D.s) ∧ D.a j ≠ D.b j ∧ 1 ≤ D.t j ∧ D.t j ≤ 20
def SrchOk (D : SrchD) : Prop := (1 ≤ D.s ∧ D.s ≤ 7) ∧ D.m ≤ 10 ∧ (D.k : Int) = D.s ∧ ∀ j, j < D.m → PasOk D j

theorem below_alloc {w w' : World} (h : Below w.heap.size w w') (o : Obj) : Below w.heap.size w (w'.alloc o) := h.alloc h.size o
theorem below_alloc1 (w : World) (o : Obj) : Below w.heap.size w (w.alloc o) := (Below.refl _ _).alloc (Nat.le_refl _) o

set_option maxHeartbeats 1600000 in
theorem SearchValid_impl (P Q : Option Addr) (D : SrchD) (c d : Nat) (w : World) (hx : SrchAt w P Q D) (hs : SrchSmall D) :
    Calls Tryd.prog 14 #[.agg #[.int .i64 D.s, .slice P D.m c, .slice Q D.k d]] w (RetB (SrchOk D) w) := by
  obtain ⟨hm, hk⟩ := hs
  by_cases h1 : 1 ≤ D.s ∧ D.s ≤ 7
  · obtain ⟨h1a, h1b⟩ := h1
    have hw1 := below_alloc1 w (.cells #[.int .i64 D.s, .slice P D.m c, .slice Q D.k d] 26)
    have g1 : decide (D.s < 1) = false := decide_eq_false (by omega)
    have g2 : decide ((7 : Int) < D.s) = false := decide_eq_false (by omega)
    by_cases h2 : D.m ≤ 10
    · have g3 : decide ((10 : Int) < (D.m : Int)) = false := decide_eq_false (by omega)
      by_cases h3 : (D.k : Int) = D.s
      · have g4 : ((D.k : Int) != D.s) = false := by simp [h3]
        have H3 := hid h3
        clear h3
        have hB := Blk.new w 26 #[.int .i64 D.s, .slice P D.m c, .slice Q D.k d]
        go_enter Tryd.func14, Tryd.ntmps14
        go_wp2
        go_loopw [30] (fun i wr => ∃ j : Nat, j ≤ D.m ∧ i = .int .i64 j ∧ (∀ i, i < j → PasOk D i) ∧ Below (w.alloc (.cells #[.int .i64 D.s, .slice P D.m c, .slice Q D.k d] 26)).heap.size (w.alloc (.cells #[.int .i64 D.s, .slice P D.m c, .slice Q D.k d] 26)) wr) (fun i _ => D.m - (intOf i).toNat)
        case atStart => exact ⟨0, by omega, rfl, fun j hj => absurd hj (by omega), Below.refl _ _⟩
        case round =>
          obtain ⟨j, hj, rfl, hall, hbel⟩ := hrel
          have HA := hid hall
          clear hall
          have hbw := hid (Below.then_ hw1 hbel)
          have hb0 := hid hbel
          by_cases hlt : j < D.m
          · have hltz : (j : Int) < (D.m : Int) := by omega
            obtain ⟨b, o, rfl, a1, a2, a3⟩ := (hx.below hbw.out).pas.at_ hlt
            have hB' := hB.below hbel
            have z1 := cell_below (below_alloc1 wr (.cells #[.int .i64 (D.a j), .int .i64 (D.b j), .int .i64 (D.t j)] 31)) (hB'.cell (i := 0) rfl)
            clear hB' hB hx hbel hw1
            by_cases hA : 0 ≤ D.a j ∧ D.a j < D.s
            · obtain ⟨hA1, hA2⟩ := hA
              by_cases hBb : 0 ≤ D.b j ∧ D.b j < D.s
              · obtain ⟨hB1, hB2⟩ := hBb
                by_cases hne : D.a j = D.b j
                · have e1 : (D.a j == D.b j) = true := by simp [hne]
                  have HN := hid hne
                  clear hne
                  go_wp2_with (go_at_call 48; refine (isIndex_y _ _ _ (by omega) (by omega)).mono ?_; rintro e w' ⟨rfl, rfl⟩)
                  go_ret
                  exact .mk_f (fun h => (h.2.2.2 j hlt).2.2.1 HN.out) (below_alloc hbw.out _) rfl
                · have e1 : (D.a j == D.b j) = false := by simp [hne]
                  have HN := hid hne
                  clear hne
                  by_cases ht1 : D.t j < 1
                  · have e2 : decide (D.t j < 1) = true := decide_eq_true ht1
                    go_wp2_with (go_at_call 48; refine (isIndex_y _ _ _ (by omega) (by omega)).mono ?_; rintro e w' ⟨rfl, rfl⟩)
                    go_ret
                    exact .mk_f (fun h => by have := (h.2.2.2 j hlt).2.2.2.1; omega) (below_alloc hbw.out _) rfl
                  · have e2 : decide (D.t j < 1) = false := decide_eq_false ht1
                    by_cases ht2 : 20 < D.t j
                    · go_wp2_with (go_at_call 48; refine (isIndex_y _ _ _ (by omega) (by omega)).mono ?_; rintro e w' ⟨rfl, rfl⟩)
                      go_ret
                      exact .mk_f (fun h => by have := (h.2.2.2 j hlt).2.2.2.2; omega) (below_alloc hbw.out _) rfl
                    · go_wp2_with (go_at_call 48; refine (isIndex_y _ _ _ (by omega) (by omega)).mono ?_; rintro e w' ⟨rfl, rfl⟩)
                      go_roundw
                      case rel => exact ⟨j + 1, by omega, by go_num, fun i hi => by
                        by_cases e : i = j
                        · subst e; exact ⟨⟨hA1, hA2⟩, ⟨hB1, hB2⟩, HN.out, by omega, by omega⟩
                        · exact HA.out i (by omega), below_alloc hb0.out _⟩
                      case measure => simp [intOf] <;> omega
              · have HB := hid hBb
                clear hBb
                go_wp2_with (first | (go_at_call 48; (with_reducible refine (isIndex_y _ _ _ hA1 hA2).mono ?_); rintro e w' ⟨rfl, rfl⟩) | (go_at_call 48; (with_reducible refine (isIndex_n _ _ _ HB.out).mono ?_); rintro e w' ⟨rfl, rfl⟩))
                go_ret
                exact .mk_f (fun h => HB.out (h.2.2.2 j hlt).2.1) (below_alloc hbw.out _) rfl
            · have HA' := hid hA
              clear hA
              go_wp2_with (go_at_call 48; refine (isIndex_n _ _ _ HA'.out).mono ?_; rintro e w' ⟨rfl, rfl⟩)
              go_ret
              exact .mk_f (fun h => HA'.out (h.2.2.2 j hlt).1) (below_alloc hbw.out _) rfl
          · have : j = D.m := by omega
            subst this
            go_wp2
            go_ret
            exact .mk_t ⟨⟨h1a, h1b⟩, h2, H3.out, HA.out⟩ hbw.out rfl
      · have g4 : ((D.k : Int) != D.s) = true := by simp [h3]
        have H3 := hid h3
        clear h3
        go_enter Tryd.func14, Tryd.ntmps14
        go_wp2
        go_ret
        exact .mk_f (fun h => H3.out h.2.2.1) hw1 rfl
    · have g3 : decide ((10 : Int) < (D.m : Int)) = true := decide_eq_true (by omega)
      have H2 := hid h2
      clear h2
      go_enter Tryd.func14, Tryd.ntmps14
      go_wp2
      go_ret
      exact .mk_f (fun h => H2.out h.2.1) hw1 rfl
  · have hw1 := below_alloc1 w (.cells #[.int .i64 D.s, .slice P D.m c, .slice Q D.k d] 26)
    by_cases h1a : D.s < 1
    · have g1 : decide (D.s < 1) = true := decide_eq_true (by omega)
      clear h1
      go_enter Tryd.func14, Tryd.ntmps14
      go_wp2
      go_ret
      exact .mk_f (fun h => by have := h.1; omega) hw1 rfl
    · have g1 : decide (D.s < 1) = false := decide_eq_false (by omega)
      have g2 : decide ((7 : Int) < D.s) = true := decide_eq_true (by omega)
      have h17 : 7 < D.s := by omega
      clear h1
      go_enter Tryd.func14, Tryd.ntmps14
      go_wp2
      go_ret
      exact .mk_f (fun h => by have := h.1; omega) hw1 rfl

def PasOk' (D : SrchD) (q : Int) (j : Nat) : Prop := (0 ≤ D.a j ∧ D.a j ≤ q) ∧ (0 ≤ D.b j ∧ D.b j ≤ q) ∧ D.a j ≠ D.b j ∧ 1 ≤ D.t j ∧ D.t j ≤ 20
theorem wrap_s {s : Int} (h1 : 1 ≤ s) (h2 : s ≤ 7) : wrap64 (s - 1) = s - 1 := by unfold wrap64; omega
theorem pasOk_iff {D : SrchD} (h1 : 1 ≤ D.s) (h2 : D.s ≤ 7) (j : Nat) : PasOk' D (wrap64 (D.s - 1)) j ↔ PasOk D j := by
  rw [wrap_s h1 h2]
  unfold PasOk PasOk'
  omega

set_option maxHeartbeats 1600000 in
theorem SearchValid_spec (P Q : Option Addr) (D : SrchD) (c d : Nat) (w : World) (hx : SrchAt w P Q D) (hs : SrchSmall D) :
    Calls Tryd.prog 15 #[.agg #[.int .i64 D.s, .slice P D.m c, .slice Q D.k d]] w (RetB (SrchOk D) w) := by
  obtain ⟨hm, hk⟩ := hs
  have hw1 := below_alloc1 w (.cells #[.int .i64 D.s, .slice P D.m c, .slice Q D.k d] 26)
  have hB := Blk.new w 26 #[.int .i64 D.s, .slice P D.m c, .slice Q D.k d]
  go_enter Tryd.func15, Tryd.ntmps15
  go_wp2
  go_loopw [3] (fun i wr => ∃ j : Nat, j ≤ D.m ∧ i = .int .i64 j ∧ (∀ i, i < j → PasOk' D (wrap64 (D.s - 1)) i) ∧ Below (w.alloc (.cells #[.int .i64 D.s, .slice P D.m c, .slice Q D.k d] 26)).heap.size (w.alloc (.cells #[.int .i64 D.s, .slice P D.m c, .slice Q D.k d] 26)) wr) (fun i _ => D.m - (intOf i).toNat)
  case atStart => exact ⟨0, by omega, rfl, fun j hj => absurd hj (by omega), Below.refl _ _⟩
  case round =>
    obtain ⟨j, hj, rfl, hall, hbel⟩ := hrel
    have HA := hid hall
    clear hall
    have hbw := hid (Below.then_ hw1 hbel)
    have hb0 := hid hbel
    have hB' := hB.below hbel
    have y0 := hB'.cell (i := 0) rfl
    have y1 := hB'.cell (i := 1) rfl
    have y2 := hB'.cell (i := 2) rfl
    by_cases hlt : j < D.m
    · have hltz : (j : Int) < (D.m : Int) := by omega
      obtain ⟨b, o, rfl, a1, a2, a3⟩ := (hx.below hbw.out).pas.at_ hlt
      have z1 := cell_below (below_alloc1 wr (.cells #[.int .i64 (D.a j), .int .i64 (D.b j), .int .i64 (D.t j)] 31)) y0
      clear hB' hB hx hbel hw1 y2
      have hbad : ∀ q : Int, q = wrap64 (D.s - 1) → ¬ PasOk' D q j → ¬ SrchOk D := fun q hq hn h => hn (by rw [hq]; exact (pasOk_iff h.1.1 h.1.2 j).2 (h.2.2.2 j hlt))
      have HBAD := hid hbad
      clear hbad
      by_cases hA : 0 ≤ D.a j ∧ D.a j ≤ wrap64 (D.s - 1)
      · obtain ⟨hA1, hA2⟩ := hA
        by_cases hBb : 0 ≤ D.b j ∧ D.b j ≤ wrap64 (D.s - 1)
        · obtain ⟨hB1, hB2⟩ := hBb
          by_cases hne : D.a j = D.b j
          · have e1 : (D.a j == D.b j) = true := by simp [hne]
            have HN := hid hne
            clear hne
            go_wp2_with (first | (go_at_call 49; (with_reducible refine (l1In_y _ _ _ _ hA1 hA2).mono ?_); rintro e w' ⟨rfl, rfl⟩) | (go_at_call 49; (with_reducible refine (l1In_y _ _ _ _ hB1 hB2).mono ?_); rintro e w' ⟨rfl, rfl⟩))
            go_ret
            exact .mk_f (HBAD.out _ rfl (fun h => h.2.2.1 HN.out)) (below_alloc hbw.out _) rfl
          · have e1 : (D.a j == D.b j) = false := by simp [hne]
            have HN := hid hne
            clear hne
            by_cases ht : 1 ≤ D.t j ∧ D.t j ≤ 20
            · obtain ⟨ht1, ht2⟩ := ht
              go_wp2_with (first | (go_at_call 49; (with_reducible refine (l1In_y _ _ _ _ hA1 hA2).mono ?_); rintro e w' ⟨rfl, rfl⟩) | (go_at_call 49; (with_reducible refine (l1In_y _ _ _ _ hB1 hB2).mono ?_); rintro e w' ⟨rfl, rfl⟩) | (go_at_call 49; (with_reducible refine (l1In_y _ _ _ _ ht1 ht2).mono ?_); rintro e w' ⟨rfl, rfl⟩))
              go_roundw
              case rel => exact ⟨j + 1, by omega, by go_num, fun i hi => by
                by_cases e : i = j
                · subst e; exact ⟨⟨hA1, hA2⟩, ⟨hB1, hB2⟩, HN.out, ht1, ht2⟩
                · exact HA.out i (by omega), below_alloc hb0.out _⟩
              case measure => simp [intOf] <;> omega
            · have HT := hid ht
              clear ht
              go_wp2_with (first | (go_at_call 49; (with_reducible refine (l1In_y _ _ _ _ hA1 hA2).mono ?_); rintro e w' ⟨rfl, rfl⟩) | (go_at_call 49; (with_reducible refine (l1In_y _ _ _ _ hB1 hB2).mono ?_); rintro e w' ⟨rfl, rfl⟩) | (go_at_call 49; (with_reducible refine (l1In_n _ _ _ _ HT.out).mono ?_); rintro e w' ⟨rfl, rfl⟩))
              go_ret
              exact .mk_f (HBAD.out _ rfl (fun h => HT.out h.2.2.2)) (below_alloc hbw.out _) rfl
        · have HB := hid hBb
          clear hBb
          go_wp2_with (first | (go_at_call 49; (with_reducible refine (l1In_y _ _ _ _ hA1 hA2).mono ?_); rintro e w' ⟨rfl, rfl⟩) | (go_at_call 49; (with_reducible refine (l1In_n _ _ _ _ HB.out).mono ?_); rintro e w' ⟨rfl, rfl⟩))
          go_ret
          exact .mk_f (HBAD.out _ rfl (fun h => HB.out h.2.1)) (below_alloc hbw.out _) rfl
      · have HA' := hid hA
        clear hA
        go_wp2_with (go_at_call 49; (with_reducible refine (l1In_n _ _ _ _ HA'.out).mono ?_); rintro e w' ⟨rfl, rfl⟩)
        go_ret
        exact .mk_f (HBAD.out _ rfl (fun h => HA'.out h.1)) (below_alloc hbw.out _) rfl
    · have : j = D.m := by omega
      subst this
      by_cases h1 : 1 ≤ D.s ∧ D.s ≤ 7
      · obtain ⟨h1a, h1b⟩ := h1
        have HOK : Hid (∀ i, i < D.m → PasOk D i) := fun i hi => (pasOk_iff h1a h1b i).1 (HA.out i hi)
        by_cases h2 : D.m ≤ 10
        · by_cases h3 : (D.k : Int) = D.s
          · have g4 : ((D.k : Int) == D.s) = true := by simp [h3]
            have H3 := hid h3
            clear h3
            go_wp2_with (go_at_call 49; (with_reducible refine (l1In_y _ _ _ _ h1a h1b).mono ?_); rintro e w' ⟨rfl, rfl⟩)
            go_ret
            exact .mk_t ⟨⟨h1a, h1b⟩, h2, H3.out, HOK.out⟩ hbw.out rfl
          · have g4 : ((D.k : Int) == D.s) = false := by simp [h3]
            have H3 := hid h3
            clear h3
            go_wp2_with (go_at_call 49; (with_reducible refine (l1In_y _ _ _ _ h1a h1b).mono ?_); rintro e w' ⟨rfl, rfl⟩)
            go_ret
            exact .mk_f (fun h => H3.out h.2.2.1) hbw.out rfl
        · have g3 : decide ((D.m : Int) ≤ 10) = false := decide_eq_false (by omega)
          have H2 := hid h2
          clear h2
          go_wp2_with (go_at_call 49; (with_reducible refine (l1In_y _ _ _ _ h1a h1b).mono ?_); rintro e w' ⟨rfl, rfl⟩)
          go_ret
          exact .mk_f (fun h => H2.out h.2.1) hbw.out rfl
      · have H1 := hid h1
        clear h1
        go_wp2_with (go_at_call 49; (with_reducible refine (l1In_n _ _ _ _ H1.out).mono ?_); rintro e w' ⟨rfl, rfl⟩)
        go_ret
        exact .mk_f (fun h => H1.out h.1) hbw.out rfl
end Go.Proofs.YtlhcjbgcgbeocaaDoor
