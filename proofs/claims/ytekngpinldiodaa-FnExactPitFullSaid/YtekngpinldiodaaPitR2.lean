/- PitRaise of the reference. Lists are at most 2^20 long. -/
import Derived.Test.YtekngpinldiodaaPitR
import Derived.IntWalk
namespace Go.Proofs.Ytekngpinldiodaa
open Go.RowKit

theorem cells2_new (w : World) (x y : Value) (t : TypeId) : ∀ j u, [x, y][j]? = some u → (w.alloc (.cells #[x, y] t)).cell? ((⟨w.heap.size, 0, none⟩ : Addr).add j) = some u := by
  intro j u hj
  have hb := Blk.new w t #[x, y]
  rw [Addr.add_lit, Nat.zero_add]
  match j, hj with
  | 0, hj => simp at hj; subst hj; exact hb.cell rfl
  | 1, hj => simp at hj; subst hj; exact hb.cell rfl

set_option maxRecDepth 20000 in
set_option maxHeartbeats 3200000 in
theorem PitRaise_spec (A : Option Addr) (D : PitD) (c : Nat) (x : Int) (w : World) (hx : PitAt w A D) (hs : PitSmall D) (hok : PitOk D) (h0 : 0 ≤ x) (h20 : x ≤ 20) :
    Calls Try.prog 29 #[.slice A D.n c, .int .i64 x] w (RetPA (mkPit D.n (raiP D x) (raiL D)) w) := by
  have hn := hs.1
  have h8 := hok.1
  have HO := hid hok
  have HL := hid hs.2
  obtain ⟨i0, hi, hz0, hz1, hz2⟩ := info_parts info3
  obtain ⟨j0, hj, hy0, hy1, hy2⟩ := info_parts info48
  have HP0 := hid (PitA.lit0 w (B := w.heap.size) (Nat.le_refl _) (raiP D x) (raiL D) (fun _ => .slice none 0 0))
  have HB0 : Hid (Below w.heap.size w (w.alloc (.cells #[] 48))) := hid ((Below.refl _ _).alloc (Nat.le_refl _) _)
  clear hok
  go_enter Try.func29, Try.ntmps29
  go_wp2
  go_loopw [5, 6] (fun v i wr => ∃ (k : Nat) (V : Nat → Value), k ≤ D.n ∧ i = .int .i64 k ∧ Hid (PitA wr w.heap.size v k (raiP D x) (raiL D) V) ∧ Hid (Below w.heap.size w wr)) (fun _ i _ => D.n - (intOf i).toNat)
  case atStart => exact ⟨0, _, by omega, rfl, HP0, HB0⟩
  case round =>
    clear HP0 HB0
    obtain ⟨k, V, hk, rfl, HPA, HB⟩ := hrel
    by_cases hlt : k < D.n
    · have hltz : (k : Int) < (D.n : Int) := by omega
      go_wp2_with (first | (go_at_call 15; (with_reducible refine (RetB.yes (PitValid_spec A D c _ (hx.below HB.out) hs) HO.out).mono ?_); rintro e w1 ⟨rfl, hb1⟩; have HPA1 := hid (HPA.out.below hb1); have HB1 := hid (Below.then_ HB.out hb1); clear hb1 HPA HB) | (go_at_call 48; (with_reducible refine (l1In_y x 0 20 _ h0 h20).mono ?_); rintro e w' ⟨rfl, rfl⟩))
      have hs1 := HB1.out.size
      obtain ⟨b, o, C, cc, rfl, q1, q2, q3⟩ := hx.at_ hlt
      have a1 := cell_below HB1.out q1
      have a2 := cell_below HB1.out q2
      have a3 := q3.below HB1.out
      have Q1 := hid q1
      have Q2 := hid q2
      clear q1 q2 q3
      have hp := (HO.out.2 k hlt).1
      have hlk := HL.out k hlt
      have HOWN : Hid (World.ownsRow (w1.alloc (.cells #[] 3)).drew w1.heap.size 3 1 (.slice (some ⟨w1.heap.size, 0, none⟩) 0 0) 0 []) := hid (OwnL.lit0 (B := w1.heap.size) w1 (Nat.le_refl _) #[] rfl)
      have HW : Hid (Below w1.heap.size w1 (w1.alloc (.cells #[] 3)).drew) := hid (((Below.refl w1.heap.size w1).alloc (Nat.le_refl _) (.cells #[] 3)).drew)
      obtain ⟨A9, c9, hv9, _⟩ := HPA1.out.at_
      subst hv9
      have HVB : Hid (∀ a, (Value.slice A9 k c9).ownBlock = some a → a < w1.heap.size) := hid (fun a ha => (World.ownsRow.lt HPA1.out.own a ha).2)
      have e1 := a1
      have e2 := a2
      have hwr : IntKind.i64.wrap (D.p k + x) = D.p k + x := IntWalk.i64_in _ (by omega)
      have hmn : (if 20 < D.p k + x then (20 : Int) else D.p k + x) = raiP D x k := rfl
      cases C with
      | none =>
        have hl0 : D.l k = 0 := by
          by_cases h : 0 < D.l k
          · obtain ⟨_, _, e, _⟩ := a3 h
            cases e
          · omega
        have HL0 : Hid (raiL D k = []) := hid (by unfold raiL xsL; rw [hl0]; rfl)
        rw [hl0] at a2 e2 hlk Q2
        clear a3 hl0
        go_wp2
        go_region_held3 (fun W => W.cell? ⟨b, o + k * 2, none⟩ = some (.int .i64 (D.p k)) ∧ W.cell? ⟨b, o + k * 2 + 1, none⟩ = some (.slice none 0 cc)) (go_keep) (first
            | (refine step_append_none rfl (.tmp 31) (.tmp 36) 33 rfl w1.heap.size 3 i0 1 Try.underlying33 hi _ 0 [] rfl HOWN.out cc rfl ?_
               have HB6 := hid (HB1.out.trans (HW.out.mono hs1))
               have HPA6 := hid (HPA1.out.below HW.out)
               have HO6 : Hid (OwnL (w1.alloc (.cells #[] 3)).drew w1.heap.size (.slice (some ⟨w1.heap.size, 0, none⟩) 0 0) (raiL D k)) := hid (by rw [HL0.out]; exact HOWN.out)
               have HAP : Hid (Apart (.slice (some ⟨w1.heap.size, 0, none⟩) 0 0) (.slice A9 k c9)) := hid (fun a ha e => by have h1 := HVB.out a e; simp [Value.ownBlock] at ha; omega)
               have f1 := cell_below HW.out e1
               have f2 := cell_below HW.out e2
               have hs6 : w1.heap.size < (w1.alloc (.cells #[] 3)).drew.heap.size := by simp
               generalize (w1.alloc (.cells #[] 3)).drew = w6 at HB6 HPA6 HO6 hs6 f1 f2 ⊢)
            | (refine step_append_own rfl (.tmp 22) (.tmp 39) 25 rfl w.heap.size 48 j0 (.agg #[.int .i64 0, .slice none 0 0]) 2 32 Try.underlying25 hj hy0 hy1 hy2 rfl (by decide) _ k _ rfl (World.ownsRow.alloc HPA6.out.own _) ⟨w6.heap.size, 0, none⟩ 1 1 [_, _] rfl rfl (cells2_new _ _ _ _) (fun u hu => by simp at hu; rcases hu with rfl | rfl <;> rfl) (by unfold maxLen; omega) (by omega) (by simp; omega) ?_; intro v8 w8 hown8 hg8 hat8; have HP8 := hid (PitA.push (k := k) HPA6.out (HO6.out.base hs1) HAP.out hown8 hg8 hat8); have HB8 := hid ((HB6.out.alloc HB6.out.size _).grown hg8 (by simp; omega) (fun a ha => (World.ownsRow.lt HPA6.out.own a ha).1)); obtain ⟨A8, c8, hv8, _⟩ := HP8.out.at_; subst hv8; have y1 := cell_below HB8.out Q1.out; have y2 := cell_below HB8.out Q2.out; clear hown8 hg8 hat8; go_simp))
        all_goals
          go_wp2
          go_roundw
          case rel => exact ⟨k + 1, _, by omega, by go_num, HP8, HB8⟩
          case measure => simp [intOf]; omega
      | some ad =>
        have HC : Hid (∀ j u, ((xsL (D.l k) (D.x k)).map (Value.int .i64))[j]? = some u → (w1.alloc (.cells #[] 3)).drew.cell? (ad.add j) = some u) := hid (ints_news (a3.below HW.out) rfl)
        clear a3
        go_wp2
        go_region_held3 (fun W => W.cell? ⟨b, o + k * 2, none⟩ = some (.int .i64 (D.p k)) ∧ W.cell? ⟨b, o + k * 2 + 1, none⟩ = some (.slice (some ad) (D.l k) cc)) (go_keep) (first
            | (refine step_append_own rfl (.tmp 31) (.tmp 36) 33 rfl w1.heap.size 3 i0 (.int .i64 0) 1 8 Try.underlying33 hi hz0 hz1 hz2 rfl (by decide) _ 0 [] rfl HOWN.out ad (D.l k) cc _ rfl (by simp [xsL_len]) HC.out ints_one (by unfold maxLen; omega) (by omega) (by simp) ?_
               intro v5 w6 hown5 hg5 hat5
               have HW6 := hid (HW.out.grown hg5 (by simp) (fun a ha => (World.ownsRow.lt HOWN.out a ha).1))
               have HO6 : Hid (OwnL w6 w1.heap.size v5 (raiL D k)) := hid (ownL_of (by simpa using hown5))
               have HB6 := hid (HB1.out.trans (HW6.out.mono hs1))
               have HPA6 := hid (HPA1.out.below HW6.out)
               have hs6 : w1.heap.size ≤ w6.heap.size := HW6.out.size
               obtain ⟨A5, c5, rfl⟩ := HO6.out.form
               have HAP : Hid (Apart (.slice A5 (raiL D k).length c5) (.slice A9 k c9)) := hid (fun a ha e => by have h1 := HVB.out a e; have h2 := (HO6.out.lt a ha).1; omega)
               have f1 := cell_below HW6.out e1
               have f2 := cell_below HW6.out e2
               clear hown5 hg5 hat5)
            | (refine step_append_own rfl (.tmp 22) (.tmp 39) 25 rfl w.heap.size 48 j0 (.agg #[.int .i64 0, .slice none 0 0]) 2 32 Try.underlying25 hj hy0 hy1 hy2 rfl (by decide) _ k _ rfl (World.ownsRow.alloc HPA6.out.own _) ⟨w6.heap.size, 0, none⟩ 1 1 [_, _] rfl rfl (cells2_new _ _ _ _) (fun u hu => by simp at hu; rcases hu with rfl | rfl <;> rfl) (by unfold maxLen; omega) (by omega) (by simp; omega) ?_; intro v8 w8 hown8 hg8 hat8; have HP8 := hid (PitA.push (k := k) HPA6.out (HO6.out.base hs1) HAP.out hown8 hg8 hat8); have HB8 := hid ((HB6.out.alloc HB6.out.size _).grown hg8 (by simp; omega) (fun a ha => (World.ownsRow.lt HPA6.out.own a ha).1)); obtain ⟨A8, c8, hv8, _⟩ := HP8.out.at_; subst hv8; have y1 := cell_below HB8.out Q1.out; have y2 := cell_below HB8.out Q2.out; clear hown8 hg8 hat8; go_simp))
        all_goals
          go_wp2
          go_roundw
          case rel => exact ⟨k + 1, _, by omega, by go_num, HP8, HB8⟩
          case measure => simp [intOf]; omega
    · have : k = D.n := by omega
      subst this
      obtain ⟨A9, c9, hv9, hat⟩ := HPA.out.at_
      subst hv9
      have HAT := hid hat
      clear hat
      go_wp2
      go_ret
      exact ⟨A9, c9, rfl, HAT.out, HB.out⟩

theorem PitRaise_spec0 (A : Option Addr) (D : PitD) (c : Nat) (x : Int) (p : Nat → Int) (L : Nat → List Int) (w : World) (hx : PitAt w A D) (hs : PitSmall D) (hno : ¬ (PitOk D ∧ 0 ≤ x ∧ x ≤ 20)) :
    Calls Try.prog 29 #[.slice A D.n c, .int .i64 x] w (RetPA (mkPit 0 p L) w) := by
  have hn := hs.1
  have hw1 : Below w.heap.size w (w.alloc (.cells #[] 48)) := (Below.refl _ _).alloc (Nat.le_refl _) _
  have HNO : ∀ B, Hid (PitAt w B (mkPit 0 p L)) := fun B => hid (fun h => absurd h (by show ¬ 0 < 0; omega))
  have HN1 : Hid (∀ B w', PitAt w' B (mkPit 0 p L)) := hid (fun B w' h => absurd h (by show ¬ 0 < 0; omega))
  clear HNO
  by_cases h0 : 0 < D.n
  · have hltz : (0 : Int) < (D.n : Int) := by omega
    by_cases hok : PitOk D
    · have HX : Hid (¬ (0 ≤ x ∧ x ≤ 20)) := hid (fun h => hno ⟨hok, h⟩)
      have HO := hid hok
      clear hok hno
      go_enter Try.func29, Try.ntmps29
      go_wp2
      refine wp_loop_rounds 1 ?_
      rw [rounds_succ]
      go_wp2_with (first | (go_at_call 15; (with_reducible refine (RetB.yes (PitValid_spec A D c _ (hx.below hw1) hs) HO.out).mono ?_); rintro e w1 ⟨rfl, hb1⟩) | (go_at_call 48; (with_reducible refine (l1In_n x 0 20 _ HX.out).mono ?_); rintro e w' ⟨rfl, rfl⟩))
      go_ret
      exact ⟨_, _, rfl, HN1.out _ _, Below.then_ hw1 hb1⟩
    · have HO := hid hok
      clear hok hno
      go_enter Try.func29, Try.ntmps29
      go_wp2
      refine wp_loop_rounds 1 ?_
      rw [rounds_succ]
      go_wp2_with (go_at_call 15; (with_reducible refine (RetB.no (PitValid_spec A D c _ (hx.below hw1) hs) HO.out).mono ?_); rintro e w1 ⟨rfl, hb1⟩)
      go_ret
      exact ⟨_, _, rfl, HN1.out _ _, Below.then_ hw1 hb1⟩
  · clear hno
    go_enter Try.func29, Try.ntmps29
    go_wp2
    refine wp_loop_rounds 1 ?_
    rw [rounds_succ]
    go_wp2
    go_ret
    exact ⟨_, _, rfl, HN1.out _ _, hw1⟩
end Go.Proofs.Ytekngpinldiodaa
