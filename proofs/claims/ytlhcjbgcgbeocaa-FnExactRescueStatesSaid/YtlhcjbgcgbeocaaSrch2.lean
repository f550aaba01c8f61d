/- Searches: weighing, copying, comparing. Lists are at most 2^20 long. -/
import Derived.Test.YtlhcjbgcgbeocaaSrch1
import Derived.Laws.MakeOwn
namespace Go.Proofs.Ytlhcjbgcgbeocaa
open Go.RowKit

theorem info4 : (Try.prog.info? 4).map (fun i => (i.zero, i.size, i.bytes)) = some (some (.bool false), 1, 1) := by kernel_rfl
theorem info53 : (Try.prog.info? 53).map (fun i => (i.zero, i.size, i.bytes)) = some (some (.agg #[.int .i64 0, .int .i64 0, .int .i64 0]), 3, 24) := by kernel_rfl

/-- It returns what is left of l (negative: too much), where P. -/
def SzB (P : Prop) (l : Int) (w : World) (e : Ending) (w' : World) : Prop := ∃ r : Int, e = .returned (.int .i64 r) ∧ (r < 0 ∨ (0 ≤ r ∧ r ≤ l ∧ P)) ∧ Below w.heap.size w w'

theorem szPassageS_any (A : Option Addr) (n c : Nat) (l : Int) (w : World) (hl : l ≤ 1048576) (h0 : 0 ≤ l) (hn : n ≤ 9223372036854775807) :
    Calls Try.prog 38 #[.slice A n c, .int .i64 l] w (SzB (n ≤ 1048576) l w) := by
  by_cases h : l - (n : Int) < 0
  · go_enter Try.func38, Try.ntmps38
    go_wp2
    go_ret
    exact ⟨-1, rfl, .inl (by omega), Below.refl _ _⟩
  · go_enter Try.func38, Try.ntmps38
    go_wp2
    go_ret
    exact ⟨l - n, rfl, .inr ⟨by omega, by omega, by omega⟩, Below.refl _ _⟩
theorem szBoolS_any (A : Option Addr) (n c : Nat) (l : Int) (w : World) (hl : l ≤ 1048576) (h0 : 0 ≤ l) (hn : n ≤ 9223372036854775807) :
    Calls Try.prog 39 #[.slice A n c, .int .i64 l] w (SzB (n ≤ 1048576) l w) := by
  by_cases h : l - (n : Int) < 0
  · go_enter Try.func39, Try.ntmps39
    go_wp2
    go_ret
    exact ⟨-1, rfl, .inl (by omega), Below.refl _ _⟩
  · go_enter Try.func39, Try.ntmps39
    go_wp2
    go_ret
    exact ⟨l - n, rfl, .inr ⟨by omega, by omega, by omega⟩, Below.refl _ _⟩

theorem szSearch_any (P Q : Option Addr) (D : SrchD) (c d : Nat) (l : Int) (w : World) (hl : l ≤ 1048576) (h0 : 0 ≤ l) (hm : D.m ≤ 9223372036854775807) (hk : D.k ≤ 9223372036854775807) :
    Calls Try.prog 13 #[.agg #[.int .i64 D.s, .slice P D.m c, .slice Q D.k d], .int .i64 l] w (SzB (SrchSmall D) l w) := by
  have hw1 := below_alloc1 w (.cells #[.int .i64 D.s, .slice P D.m c, .slice Q D.k d] 25)
  have hB := Blk.new w 25 #[.int .i64 D.s, .slice P D.m c, .slice Q D.k d]
  go_enter Try.func13, Try.ntmps13
  go_wp2_with fail
  refine (szPassageS_any P D.m c l _ hl h0 hm).mono ?_
  rintro e w1 ⟨r, rfl, hr, hb1⟩
  have HR := hid hr
  clear hr
  by_cases hneg : r < 0
  · go_wp2
    go_ret
    exact ⟨-1, rfl, .inl (by omega), Below.then_ hw1 hb1⟩
  · have hR : 0 ≤ r ∧ r ≤ l ∧ D.m ≤ 1048576 := HR.out.elim (fun h => absurd h hneg) id
    obtain ⟨r0, r1, r2⟩ := hR
    have y2 := (hB.below hb1).cell (i := 2) rfl
    go_wp2_with fail
    refine (szBoolS_any Q D.k d r w1 (by omega) (by omega) hk).mono ?_
    rintro e w2 ⟨r', rfl, hr', hb2⟩
    have HR' := hid hr'
    clear hr'
    by_cases hneg' : r' < 0
    · go_wp2
      go_ret
      exact ⟨-1, rfl, .inl (by omega), Below.then_ (Below.then_ hw1 hb1) hb2⟩
    · have hR : 0 ≤ r' ∧ r' ≤ r ∧ D.k ≤ 1048576 := HR'.out.elim (fun h => absurd h hneg') id
      obtain ⟨q0, q1, q2⟩ := hR
      go_wp2
      go_ret
      exact ⟨r', rfl, .inr ⟨by omega, by omega, r2, q2⟩, Below.then_ (Below.then_ hw1 hb1) hb2⟩

/-! ### Comparing -/
theorem eqPassage_any (a b t a' b' t' : Int) (w : World) :
    Calls Try.prog 56 #[.agg #[.int .i64 a, .int .i64 b, .int .i64 t], .agg #[.int .i64 a', .int .i64 b', .int .i64 t']] w (RetB (a = a' ∧ b = b' ∧ t = t') w) := by
  have hw : ∀ o o', Below w.heap.size w ((w.alloc o).alloc o') := fun o o' => below_alloc (below_alloc1 w o) o'
  have HW := hid hw
  clear hw
  by_cases h1 : a = a'
  · have e1 : (a != a') = false := by simp [h1]
    have H1 := hid h1
    clear h1
    by_cases h2 : b = b'
    · have e2 : (b != b') = false := by simp [h2]
      have H2 := hid h2
      clear h2
      by_cases h3 : t = t'
      · have e3 : (t != t') = false := by simp [h3]
        have H3 := hid h3
        clear h3
        go_enter Try.func56, Try.ntmps56
        go_wp2
        go_ret
        exact .mk_t ⟨H1.out, H2.out, H3.out⟩ (HW.out _ _) rfl
      · have e3 : (t != t') = true := by simp [h3]
        have H3 := hid h3
        clear h3
        go_enter Try.func56, Try.ntmps56
        go_wp2
        go_ret
        exact .mk_f (fun h => H3.out h.2.2) (HW.out _ _) rfl
    · have e2 : (b != b') = true := by simp [h2]
      have H2 := hid h2
      clear h2
      go_enter Try.func56, Try.ntmps56
      go_wp2
      go_ret
      exact .mk_f (fun h => H2.out h.2.1) (HW.out _ _) rfl
  · have e1 : (a != a') = true := by simp [h1]
    have H1 := hid h1
    clear h1
    go_enter Try.func56, Try.ntmps56
    go_wp2
    go_ret
    exact .mk_f (fun h => H1.out h.1) (HW.out _ _) rfl

set_option maxHeartbeats 400000 in
/-- Two lists of passages with the same data: it answers yes. -/
theorem eqPassageS_yes (A B : Option Addr) (n c d : Nat) (x y z : Nat → Int) (w : World) (hx : Triples w A n x y z) (hy : Triples w B n x y z) (hn : n ≤ 1048576) :
    Calls Try.prog 44 #[.slice A n c, .slice B n d] w (RetV (.bool true) w) := by
  go_enter Try.func44, Try.ntmps44
  go_wp2
  go_loopw [5] (fun i wr => ∃ k : Nat, k ≤ n ∧ i = .int .i64 k ∧ Below w.heap.size w wr) (fun i _ => n - (intOf i).toNat)
  case atStart => exact ⟨0, by omega, rfl, Below.refl _ _⟩
  case round =>
    obtain ⟨k, hk, rfl, hbel⟩ := hrel
    by_cases hlt : k < n
    · obtain ⟨b, o, rfl, a1, a2, a3⟩ := (hx.below hbel).at_ hlt
      obtain ⟨b', o', rfl, e1, e2, e3⟩ := (hy.below hbel).at_ hlt
      have hltz : (k : Int) < (n : Int) := by omega
      have s1 := sub_cell a1
      have s2 := sub_cell a2
      have s3 := sub_cell a3
      have s4 := sub_cell e1
      have s5 := sub_cell e2
      have s6 := sub_cell e3
      clear a1 a2 a3 e1 e2 e3 hx hy
      go_wp2
      refine wp_region_sub (by kernel_rfl) (by kernel_rfl) ?_
      repeat (go_big_quiet_step ((go_at_call 56; exact RetV.sub (RetB.yes (eqPassage_any _ _ _ _ _ _ _) ⟨rfl, rfl, rfl⟩))))
      refine wpQuiet_nil ?_
      intro _ hw'
      obtain ⟨s, hw''⟩ := hw'
      subst hw''
      go_wp2
      go_roundw
      case rel => exact ⟨k + 1, by omega, by go_num, Below.then_ hbel s.h⟩
      case measure => simp [intOf] <;> omega
    · have : k = n := by omega
      subst this
      go_wp2
      go_ret
      exact ⟨rfl, hbel⟩

theorem eqBoolS_yes (A B : Option Addr) (n c d : Nat) (x : Nat → Bool) (w : World) (hx : Bools w A n x) (hy : Bools w B n x) (hn : n ≤ 1048576) :
    Calls Try.prog 45 #[.slice A n c, .slice B n d] w (RetV (.bool true) w) := by
  go_enter Try.func45, Try.ntmps45
  go_wp2
  go_loopw [5] (fun i wr => ∃ k : Nat, k ≤ n ∧ i = .int .i64 k ∧ Below w.heap.size w wr) (fun i _ => n - (intOf i).toNat)
  case atStart => exact ⟨0, by omega, rfl, Below.refl _ _⟩
  case round =>
    obtain ⟨k, hk, rfl, hbel⟩ := hrel
    by_cases hlt : k < n
    · obtain ⟨b, o, rfl, a1⟩ := (hx.below hbel) (by omega)
      obtain ⟨b', o', rfl, e1⟩ := (hy.below hbel) (by omega)
      have hltz : (k : Int) < (n : Int) := by omega
      have s1 := sub_cell (a1 k hlt)
      have s2 := sub_cell (e1 k hlt)
      have hne : (x k != x k) = false := by simp
      clear a1 e1 hx hy
      go_wp2
      refine wp_region_sub (by kernel_rfl) (by kernel_rfl) ?_
      repeat (go_big_quiet_step ((fail)))
      refine wpQuiet_nil ?_
      intro _ hw'
      obtain ⟨s, hw''⟩ := hw'
      subst hw''
      go_wp2
      go_roundw
      case rel => exact ⟨k + 1, by omega, by go_num, Below.then_ hbel s.h⟩
      case measure => simp [intOf] <;> omega
    · have : k = n := by omega
      subst this
      go_wp2
      go_ret
      exact ⟨rfl, hbel⟩

theorem eqSearch_yes (P Q P' Q' : Option Addr) (D : SrchD) (c d c' d' : Nat) (w : World) (hx : SrchAt w P Q D) (hy : SrchAt w P' Q' D) (hs : SrchSmall D) :
    Calls Try.prog 17 #[.agg #[.int .i64 D.s, .slice P D.m c, .slice Q D.k d], .agg #[.int .i64 D.s, .slice P' D.m c', .slice Q' D.k d']] w (RetV (.bool true) w) := by
  have hn : (D.s != D.s) = false := by simp
  have hw1 := below_alloc (below_alloc1 w (.cells #[.int .i64 D.s, .slice P D.m c, .slice Q D.k d] 30)) (.cells #[.int .i64 D.s, .slice P' D.m c', .slice Q' D.k d'] 30)
  have hB := (Blk.new w 30 #[.int .i64 D.s, .slice P D.m c, .slice Q D.k d]).alloc (.cells #[.int .i64 D.s, .slice P' D.m c', .slice Q' D.k d'] 30)
  have hB' := Blk.new (w.alloc (.cells #[.int .i64 D.s, .slice P D.m c, .slice Q D.k d] 30)) 30 #[.int .i64 D.s, .slice P' D.m c', .slice Q' D.k d']
  go_enter Try.func17, Try.ntmps17
  go_wp2_with fail
  refine (eqPassageS_yes _ _ _ _ _ _ _ _ _ (hx.below hw1).pas (hy.below hw1).pas hs.1).mono ?_
  rintro e w1 ⟨rfl, hb1⟩
  have y1 := (hB.below hb1).cell (i := 2) rfl
  have y2 := (hB'.below hb1).cell (i := 2) rfl
  simp only [World.size_alloc] at y2
  have hw2 := Below.then_ hw1 hb1
  go_wp2_with fail
  refine (eqBoolS_yes _ _ _ _ _ _ _ (hx.below hw2).dep (hy.below hw2).dep hs.2).mono ?_
  rintro e w2 ⟨rfl, hb2⟩
  go_wp2
  go_ret
  exact ⟨rfl, Below.then_ hw2 hb2⟩
end Go.Proofs.Ytlhcjbgcgbeocaa
