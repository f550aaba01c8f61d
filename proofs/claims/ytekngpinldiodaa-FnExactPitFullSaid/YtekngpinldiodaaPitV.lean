/- PitFull of the reference. Lists are at most 2^20 long. -/
import Derived.Test.YtekngpinldiodaaPitU
namespace Go.Proofs.Ytekngpinldiodaa
open Go.RowKit

/-- append of a block, as one step. -/
theorem app_blk {w0 : World} {ops : Array Oper} {rest : List Oper} {o : Oper} {a : Act} {Q : Exit → Act → World → Prop} (hgd : o.guard = none) (s x : Operand)
    (ho : o.op = .call { callee := .builtin .append, args := #[s, x], argTypes := #[25, 25] }) (B k : Nat) (v : Value) (p : Nat → Int) (L : Nat → List Int) (V : Nat → Value) (u : Value) (hs : a.eval s = v)
    (hP : PitA w0 B v k p L V) (hu : OwnL w0 B u (L k)) (hap : Apart u v) (hx : a.eval x = .slice (some ⟨w0.heap.size, 0, none⟩) 1 1) (h1 : u.oneCell' = true) (hk : k ≤ 1048576) (hB : B ≤ w0.heap.size)
    (h : ∀ v' w' V', PitA w' B v' (k + 1) p L V' → (∀ W, Below B W w0 → Below B W w') → wpList Try.prog ops Q rest (a.put o.dst v') w') :
    wpList Try.prog ops Q (o :: rest) a (w0.alloc (.cells #[.int .i64 (p k), u] 48)) := by
  obtain ⟨j0, hj, hy0, hy1, hy2⟩ := info_parts info48
  obtain ⟨v', w', hrun, hown, hg, _, hat⟩ := run_append_own_at (P := Try.prog) (w0.alloc (.cells #[.int .i64 (p k), u] 48)) B 25 o.type 48 j0 (.agg #[.int .i64 0, .slice none 0 0]) 2 32 Try.underlying25 hj hy0 hy1 hy2 rfl (by decide) v k _ (World.ownsRow.alloc hP.own _) ⟨w0.heap.size, 0, none⟩ 1 1 [_, _] rfl (cells2_new _ _ _ _) (fun u' hu' => by simp at hu'; rcases hu' with rfl | rfl; rfl; exact h1) (by unfold maxLen; omega) (by omega) (by simp; omega)
  refine wpList_plain hgd fun K hK => ?_
  unfold Oper.wp
  simp [execOp, ho, resolve, invoke, builtin, hs, hx, hrun, Result.andThen]
  exact hK _ _ (h v' w' _ (hP.push hu hap hown hg hat) (fun W hW => (hW.alloc hB _).grown hg (by simp; omega) (fun a ha => (World.ownsRow.lt hP.own a ha).1)))

set_option maxRecDepth 20000 in
set_option maxHeartbeats 3200000 in
theorem PitFull_spec (A : Option Addr) (D : PitD) (c : Nat) (w : World) (hx : PitAt w A D) (hs : PitSmall D) (hok : PitOk D) :
    Calls Try.prog 38 #[.slice A D.n c] w (RetPA (mkPit D.n D.p (fulL D)) w) := by
  have hn := hs.1
  have h8 := hok.1
  have HO := hid hok
  have HP0 := hid (PitA.lit0 w (B := w.heap.size) (Nat.le_refl _) D.p (fulL D) (fun _ => .slice none 0 0))
  have HB0 : Hid (Below w.heap.size w (w.alloc (.cells #[] 48))) := hid ((Below.refl _ _).alloc (Nat.le_refl _) _)
  clear hok
  go_enter Try.func38, Try.ntmps38
  go_wp2
  go_loopw [3, 4] (fun v i wr => ∃ (k : Nat) (V : Nat → Value), k ≤ D.n ∧ i = .int .i64 k ∧ Hid (PitA wr w.heap.size v k D.p (fulL D) V) ∧ Hid (Below w.heap.size w wr)) (fun _ i _ => D.n - (intOf i).toNat)
  case atStart => exact ⟨0, _, by omega, rfl, HP0, HB0⟩
  case round =>
    clear HP0 HB0
    obtain ⟨k, V, hk, rfl, HPA, HB⟩ := hrel
    by_cases hlt : k < D.n
    · have hltz : (k : Int) < (D.n : Int) := by omega
      obtain ⟨Pw, hPw⟩ : ∃ Pw, Pw = 2 ^ k := ⟨_, rfl⟩
      have e1 : wrap64 (2 ^ k) = (Pw : Int) := by rw [wrap_pow (by omega), hPw, pow_int]
      have e1' : IntKind.i64.wrap (2 ^ k) = (Pw : Int) := by rw [IntKind.wrap_i64]; have h := e1; unfold wrap64 at h; omega
      have HF : Hid (SetFits D (Pw : Int)) := hid ⟨HO.out, Int.natCast_nonneg _, by rw [hPw, pow_int]; have := Nat.pow_lt_pow_right (a := 2) (by decide) hlt; omega⟩
      obtain ⟨T, hT⟩ : ∃ T, T = clO D Pw D.n := ⟨_, rfl⟩
      have HFL : Hid (fulL D k = setL T k) := hid (by rw [hT, hPw]; rfl)
      have HT := hid hT
      have hPI : ((2 : Int) ^ k) = (Pw : Int) := by rw [hPw, pow_int]
      have hP62 : Pw < 2 ^ 62 := by rw [hPw]; exact Nat.pow_lt_pow_right (by decide) (by omega)
      have hwP : wrap64 (Pw : Int) = (Pw : Int) := by unfold wrap64; omega
      clear e1 e1' hPw hT hP62
      go_wp2_with (go_at_call 15; (with_reducible refine (RetB.yes (PitValid_spec A D c _ (hx.below HB.out) hs) HO.out).mono ?_); rintro e w1 ⟨rfl, hb1⟩; have HPA1 := hid (HPA.out.below hb1); have HB1 := hid (Below.then_ HB.out hb1); clear hb1 HPA HB)
      refine (PitClose_spec A D c Pw _ (hx.below HB1.out) hs HF.out).mono ?_
      rintro e w2 ⟨rfl, hb2⟩
      have HPA2 := hid (HPA1.out.below hb2)
      have HB2 := hid (Below.then_ HB1.out hb2)
      obtain ⟨b, o, C, cc, rfl, q1, q2, q3⟩ := (hx.below HB2.out).at_ hlt
      rw [← HT.out]
      clear hb2 HPA1 HB1 hPI hwP
      go_wp2
      have HBK := hid (Blk.new w2 48 #[.int .i64 (D.p k), .slice none 0 0])
      have HWW : Hid (Below w2.heap.size w2 (w2.alloc (.cells #[.int .i64 (D.p k), .slice none 0 0] 48))) := hid ((Below.refl _ _).alloc (Nat.le_refl _) _)
      have HUU : Hid (OwnL (w2.alloc (.cells #[.int .i64 (D.p k), .slice none 0 0] 48)) (w2.heap.size + 1) (.slice none 0 0) (setL T 0)) := hid (OwnL.nil_ _ _)
      clear q1 q2 q3
      go_loopw [7] (fun i wr => ∃ (j : Nat) (u : Value), j ≤ k ∧ i = .int .i64 j ∧ Hid (Blk wr w2.heap.size 48 #[.int .i64 (D.p k), u]) ∧ Hid (OwnL wr (w2.heap.size + 1) u (setL T j)) ∧ Hid (Below w2.heap.size w2 wr)) (fun i _ => k - (intOf i).toNat)
      case atStart => exact ⟨0, _, by omega, rfl, HBK, HUU, HWW⟩
      case round =>
        clear HBK HUU HWW
        obtain ⟨j, u, hj, rfl, HK, HU, HW⟩ := hrel
        have hlen := setL_len T j
        obtain ⟨A1, c1, rfl⟩ := HU.out.form
        have x0 := HK.out.cell (i := 0) rfl
        have x1 := HK.out.cell (i := 1) rfl
        have hKl := HK.out.lt
        by_cases hjk : j < k
        · have hjz : (j : Int) < (k : Int) := by omega
          rcases (Bool.eq_false_or_eq_true (T.testBit j)).symm with hbit | hbit
          · have t1 := tmod1_f hbit
            have HS : Hid (setL T (j + 1) = setL T j) := by show _ = _; simp [setL, hbit]
            clear hbit
            go_wp2
            go_roundw
            case rel => exact ⟨j + 1, _, by omega, by go_num, HK, by rw [HS.out]; exact HU, HW⟩
            case measure => simp [intOf] <;> omega
          · have t1 := tmod1_t hbit
            have HS : Hid (setL T (j + 1) = setL T j ++ [(j : Int)]) := by show _ = _; simp [setL, hbit]
            clear hbit
            go_wp2_with (at_builtin; refine app_int rfl _ _ rfl (w2.heap.size + 1) _ _ rfl (HU.out.alloc _) wr.heap.size j rfl (by simp) (by omega) (by simp; omega) ?_)
            intro v' w6 hown' hbel'
            have HB6 : Hid (Below (w2.heap.size + 1) wr w6) := hid (hbel' wr ((Below.refl _ _).alloc (by omega) (.cells #[.int .i64 j] 3)))
            have HK6 : Hid (Blk w6 w2.heap.size 48 #[.int .i64 (D.p k), .slice A1 (setL T j).length c1]) := hid ((HB6.out.block _ (by omega)).trans HK.out)
            have HU6 : Hid (OwnL w6 (w2.heap.size + 1) v' (setL T (j + 1))) := hid (by rw [HS.out]; exact hown')
            have HW6 : Hid (Below w2.heap.size w2 w6) := hid (HW.out.trans (HB6.out.mono (by omega)))
            clear hown' hbel' HK HU HW HB6 x0 x1
            obtain ⟨A2, c2, rfl⟩ := HU6.out.form
            have x0 := HK6.out.cell (i := 0) rfl
            have x1 := HK6.out.cell (i := 1) rfl
            have z1 := HK6.out.frozen 1
            have HK7 := hid (HK6.out.set_ 1 (.slice A2 (setL T (j + 1)).length c2))
            have HU7 : Hid (OwnL (w6.setCell ⟨w2.heap.size, 1, none⟩ (.slice A2 (setL T (j + 1)).length c2)) (w2.heap.size + 1) (.slice A2 (setL T (j + 1)).length c2) (setL T (j + 1))) := hid (HU6.out.of_block (fun a ha => Below.heap_setCell _ _ _ _ (by have := (HU6.out.lt a ha).1; show a ≠ w2.heap.size; omega)))
            have HW7 := hid (HW6.out.setCell (p := ⟨w2.heap.size, 1, none⟩) (Nat.le_refl _) (.slice A2 (setL T (j + 1)).length c2))
            go_wp2
            go_roundw
            case rel => exact ⟨j + 1, _, by omega, by go_num, HK7, HU7, HW7⟩
            case measure => simp [intOf] <;> omega
        · have : j = k := by omega
          subst this
          have HU' : Hid (OwnL wr w.heap.size (.slice A1 (setL T j).length c1) (fulL D j)) := hid (by rw [HFL.out]; exact HU.out.base (by have := HB2.out.size; omega))
          obtain ⟨A9, c9, hv9, _⟩ := HPA2.out.at_
          subst hv9
          have HPW := hid (HPA2.out.below HW.out)
          have HAP : Hid (Apart (.slice A1 (setL T j).length c1) (.slice A9 j c9)) := hid (fun a ha e => by have h1 := (World.ownsRow.lt HPA2.out.own a e).2; have h2 := (HU.out.lt a ha).1; omega)
          have HBW := hid (HB2.out.trans (HW.out.mono HB2.out.size))
          have APP := fun ops rest o a Q hgd s x ho hs hx => app_blk (w0 := wr) (ops := ops) (rest := rest) (o := o) (a := a) (Q := Q) hgd s x ho w.heap.size _ _ D.p (fulL D) _ _ hs HPW.out HU'.out HAP.out hx rfl (by omega) HBW.out.size
          go_wp2_with (at_builtin; refine APP _ _ _ _ _ rfl _ _ rfl rfl rfl ?_)
          intro v' w8 V8 hP8 hb8
          have HP8 := hid hP8
          have HB8 := hid (hb8 w HBW.out)
          obtain ⟨A8, c8, hv8, _⟩ := hP8.at_
          subst hv8
          clear hP8 hb8
          go_wp2
          go_roundw
          case rel => exact ⟨j + 1, _, by omega, by go_num, HP8, HB8⟩
          case measure => simp [intOf] <;> omega
    · have : k = D.n := by omega
      subst this
      obtain ⟨A9, c9, hv9, hat⟩ := HPA.out.at_
      subst hv9
      have HAT := hid hat
      clear hat
      go_wp2
      go_ret
      exact ⟨A9, c9, rfl, HAT.out, HB.out⟩

theorem PitFull_spec0 (A : Option Addr) (D : PitD) (c : Nat) (p : Nat → Int) (L : Nat → List Int) (w : World) (hx : PitAt w A D) (hs : PitSmall D) (hno : ¬ PitOk D) :
    Calls Try.prog 38 #[.slice A D.n c] w (RetPA (mkPit 0 p L) w) := by
  have hn := hs.1
  have hw1 : Below w.heap.size w (w.alloc (.cells #[] 48)) := (Below.refl _ _).alloc (Nat.le_refl _) _
  have HN1 : Hid (∀ B w', PitAt w' B (mkPit 0 p L)) := hid (fun B w' h => absurd h (by show ¬ 0 < 0; omega))
  by_cases h0 : 0 < D.n
  · have hltz : (0 : Int) < (D.n : Int) := by omega
    have HO := hid hno
    clear hno
    go_enter Try.func38, Try.ntmps38
    go_wp2
    refine wp_loop_rounds 1 ?_
    rw [rounds_succ]
    go_wp2_with (go_at_call 15; (with_reducible refine (RetB.no (PitValid_spec A D c _ (hx.below hw1) hs) HO.out).mono ?_); rintro e w1 ⟨rfl, hb1⟩)
    go_ret
    exact ⟨_, _, rfl, HN1.out _ _, Below.then_ hw1 hb1⟩
  · have h00 : D.n = 0 := by omega
    rw [h00]
    go_enter Try.func38, Try.ntmps38
    go_wp2
    refine wp_loop_rounds 1 ?_
    rw [rounds_succ]
    go_wp2
    go_ret
    exact ⟨_, _, rfl, HN1.out _ _, hw1⟩
end Go.Proofs.Ytekngpinldiodaa
