/- Caves: weighing, comparing. Lists are at most 2^20 long. -/
import Derived.Test.YtahbfifnpceoeaaCave1
import Derived.Laws.MakeOwn
namespace Go.Proofs.Ytahbfifnpceoeaa
open Go.RowKit

theorem info57 : (Try.prog.info? 57).map (fun i => (i.zero, i.size, i.bytes)) = some (some (.agg #[.int .i64 0, .int .i64 0, .int .i64 0]), 3, 24) := by kernel_rfl

/-- It returns what is left of l (negative: too much), where P. -/
def SzB (P : Prop) (l : Int) (w : World) (e : Ending) (w' : World) : Prop := ∃ r : Int, e = .returned (.int .i64 r) ∧ (r < 0 ∨ (0 ≤ r ∧ r ≤ l ∧ P)) ∧ Below w.heap.size w w'

theorem szSillS_any (A : Option Addr) (n c : Nat) (l : Int) (w : World) (hl : l ≤ 1048576) (h0 : 0 ≤ l) (hn : n ≤ 9223372036854775807) :
    Calls Try.prog 30 #[.slice A n c, .int .i64 l] w (SzB (n ≤ 1048576) l w) := by
  by_cases h : l - (n : Int) < 0
  · go_enter Try.func30, Try.ntmps30
    go_wp2
    go_ret
    exact ⟨-1, rfl, .inl (by omega), Below.refl _ _⟩
  · go_enter Try.func30, Try.ntmps30
    go_wp2
    go_ret
    exact ⟨l - n, rfl, .inr ⟨by omega, by omega, by omega⟩, Below.refl _ _⟩

theorem szCave_any (F G S : Option Addr) (D : CaveD) (c d e : Nat) (l : Int) (w : World) (hl : l ≤ 1048576) (h0 : 0 ≤ l) (hn : D.n ≤ 9223372036854775807) (hq : D.q ≤ 9223372036854775807) (hm : D.m ≤ 9223372036854775807) :
    Calls Try.prog 9 #[.agg #[.slice F D.n c, .slice G D.q d, .slice S D.m e], .int .i64 l] w (SzB (CaveSmall D) l w) := by
  have hw1 := below_alloc1 w (.cells #[.slice F D.n c, .slice G D.q d, .slice S D.m e] 25)
  have hB := Blk.new w 25 #[.slice F D.n c, .slice G D.q d, .slice S D.m e]
  go_enter Try.func9, Try.ntmps9
  go_wp2_with fail
  refine (szIntS_any F D.n c l _ hl h0 hn).mono ?_
  rintro e w1 ⟨r, rfl, hr, rfl⟩
  have HR := hid hr
  clear hr
  by_cases hneg : r < 0
  · go_wp2
    go_ret
    exact ⟨-1, rfl, .inl (by omega), hw1⟩
  · have hR : 0 ≤ r ∧ r ≤ l ∧ D.n ≤ 1048576 := HR.out.elim (fun h => absurd h (by omega)) (fun h => ⟨h.1, h.2.1, by omega⟩)
    obtain ⟨r0, r1, r2⟩ := hR
    go_wp2_with fail
    refine (szIntS_any G D.q d r _ (by omega) (by omega) hq).mono ?_
    rintro e w2 ⟨r', rfl, hr', rfl⟩
    have HR' := hid hr'
    clear hr'
    by_cases hneg' : r' < 0
    · go_wp2
      go_ret
      exact ⟨-1, rfl, .inl (by omega), hw1⟩
    · have hR : 0 ≤ r' ∧ r' ≤ r ∧ D.q ≤ 1048576 := HR'.out.elim (fun h => absurd h (by omega)) (fun h => ⟨h.1, h.2.1, by omega⟩)
      obtain ⟨q0, q1, q2⟩ := hR
      go_wp2_with fail
      refine (szSillS_any S D.m e r' _ (by omega) (by omega) hm).mono ?_
      rintro e w3 ⟨r3, rfl, hr3, hb3⟩
      have HR3 := hid hr3
      clear hr3
      by_cases hneg3 : r3 < 0
      · go_wp2
        go_ret
        exact ⟨-1, rfl, .inl (by omega), Below.then_ hw1 hb3⟩
      · have hR : 0 ≤ r3 ∧ r3 ≤ r' ∧ D.m ≤ 1048576 := HR3.out.elim (fun h => absurd h hneg3) id
        obtain ⟨p0, p1, p2⟩ := hR
        go_wp2
        go_ret
        exact ⟨r3, rfl, .inr ⟨by omega, by omega, r2, q2, p2⟩, Below.then_ hw1 hb3⟩

/-! ### Comparing -/
theorem eqSill_any (a b t a' b' t' : Int) (w : World) :
    Calls Try.prog 56 #[.agg #[.int .i64 a, .int .i64 b, .int .i64 t], .agg #[.int .i64 a', .int .i64 b', .int .i64 t']] w (RetB (a = a' ∧ b = b' ∧ t = t') w) := by
  have hw : ∀ o o', Below w.heap.size w ((w.alloc o).alloc o') := fun o o' => below_alloc (below_alloc1 w o) o'
  have HW := hid hw
  clear hw
  by_cases h1 : a = a'
  · have e1 : (a != a') = false := by simp [h1]
    have H1 := hid h1
    clear h1
    by_cases h2 : b = b'
    · have e2 : (b != b') = false := by simp [h2]
      have H2 := hid h2
      clear h2
      by_cases h3 : t = t'
      · have e3 : (t != t') = false := by simp [h3]
        have H3 := hid h3
        clear h3
        go_enter Try.func56, Try.ntmps56
        go_wp2
        go_ret
        exact .mk_t ⟨H1.out, H2.out, H3.out⟩ (HW.out _ _) rfl
      · have e3 : (t != t') = true := by simp [h3]
        have H3 := hid h3
        clear h3
        go_enter Try.func56, Try.ntmps56
        go_wp2
        go_ret
        exact .mk_f (fun h => H3.out h.2.2) (HW.out _ _) rfl
    · have e2 : (b != b') = true := by simp [h2]
      have H2 := hid h2
      clear h2
      go_enter Try.func56, Try.ntmps56
      go_wp2
      go_ret
      exact .mk_f (fun h => H2.out h.2.1) (HW.out _ _) rfl
  · have e1 : (a != a') = true := by simp [h1]
    have H1 := hid h1
    clear h1
    go_enter Try.func56, Try.ntmps56
    go_wp2
    go_ret
    exact .mk_f (fun h => H1.out h.1) (HW.out _ _) rfl

set_option maxHeartbeats 400000 in
/-- Two lists of sills with the same data: it answers yes. -/
theorem eqSillS_yes (A B : Option Addr) (n c d : Nat) (x y z : Nat → Int) (w : World) (hx : Triples w A n x y z) (hy : Triples w B n x y z) (hn : n ≤ 1048576) :
    Calls Try.prog 42 #[.slice A n c, .slice B n d] w (RetV (.bool true) w) := by
  go_enter Try.func42, Try.ntmps42
  go_wp2
  go_loopw [5] (fun i wr => ∃ k : Nat, k ≤ n ∧ i = .int .i64 k ∧ Below w.heap.size w wr) (fun i _ => n - (intOf i).toNat)
  case atStart => exact ⟨0, by omega, rfl, Below.refl _ _⟩
  case round =>
    obtain ⟨k, hk, rfl, hbel⟩ := hrel
    by_cases hlt : k < n
    · obtain ⟨b, o, rfl, a1, a2, a3⟩ := (hx.below hbel).at_ hlt
      obtain ⟨b', o', rfl, e1, e2, e3⟩ := (hy.below hbel).at_ hlt
      have hltz : (k : Int) < (n : Int) := by omega
      have s1 := sub_cell a1
      have s2 := sub_cell a2
      have s3 := sub_cell a3
      have s4 := sub_cell e1
      have s5 := sub_cell e2
      have s6 := sub_cell e3
      clear a1 a2 a3 e1 e2 e3 hx hy
      go_wp2
      refine wp_region_sub (by kernel_rfl) (by kernel_rfl) ?_
      repeat (go_big_quiet_step ((go_at_call 56; exact RetV.sub (RetB.yes (eqSill_any _ _ _ _ _ _ _) ⟨rfl, rfl, rfl⟩))))
      refine wpQuiet_nil ?_
      intro _ hw'
      obtain ⟨s, hw''⟩ := hw'
      subst hw''
      go_wp2
      go_roundw
      case rel => exact ⟨k + 1, by omega, by go_num, Below.then_ hbel s.h⟩
      case measure => simp [intOf] <;> omega
    · have : k = n := by omega
      subst this
      go_wp2
      go_ret
      exact ⟨rfl, hbel⟩


set_option maxHeartbeats 400000 in
theorem eqCave_yes (F G S F' G' S' : Option Addr) (D : CaveD) (c d e c' d' e' : Nat) (w : World) (hx : CaveAt w F G S D) (hy : CaveAt w F' G' S' D) (hs : CaveSmall D) :
    Calls Try.prog 14 #[.agg #[.slice F D.n c, .slice G D.q d, .slice S D.m e], .agg #[.slice F' D.n c', .slice G' D.q d', .slice S' D.m e']] w (RetV (.bool true) w) := by
  have hw1 := below_alloc (below_alloc1 w (.cells #[.slice F D.n c, .slice G D.q d, .slice S D.m e] 30)) (.cells #[.slice F' D.n c', .slice G' D.q d', .slice S' D.m e'] 30)
  have hB := (Blk.new w 30 #[.slice F D.n c, .slice G D.q d, .slice S D.m e]).alloc (.cells #[.slice F' D.n c', .slice G' D.q d', .slice S' D.m e'] 30)
  have hB' := Blk.new (w.alloc (.cells #[.slice F D.n c, .slice G D.q d, .slice S D.m e] 30)) 30 #[.slice F' D.n c', .slice G' D.q d', .slice S' D.m e']
  simp only [World.size_alloc] at hB'
  go_enter Try.func14, Try.ntmps14
  go_wp2_with fail
  refine (RetB.yes (eqIntS_any _ _ _ _ _ _ _ _ _ (hx.below hw1).flo (hy.below hw1).flo hs.1) ⟨rfl, fun _ _ => rfl⟩).mono ?_
  rintro e w1 ⟨rfl, hb1⟩
  have y1 := (hB.below hb1).cell (i := 1) rfl
  have y2 := (hB'.below hb1).cell (i := 1) rfl
  have hw2 := Below.then_ hw1 hb1
  go_wp2_with fail
  refine (RetB.yes (eqIntS_any _ _ _ _ _ _ _ _ _ (hx.below hw2).are (hy.below hw2).are hs.2.1) ⟨rfl, fun _ _ => rfl⟩).mono ?_
  rintro e w2 ⟨rfl, hb2⟩
  clear y1 y2
  have y1 := ((hB.below hb1).below hb2).cell (i := 2) rfl
  have y2 := ((hB'.below hb1).below hb2).cell (i := 2) rfl
  have hw3 := Below.then_ hw2 hb2
  go_wp2_with fail
  refine (eqSillS_yes _ _ _ _ _ _ _ _ _ (hx.below hw3).sil (hy.below hw3).sil hs.2.2).mono ?_
  rintro e w3 ⟨rfl, hb3⟩
  go_wp2
  go_ret
  exact ⟨rfl, Below.then_ hw3 hb3⟩
end Go.Proofs.Ytahbfifnpceoeaa
