/- Parts of chambers: the program's ownParts and joinParts, the reference's l1All and l4Parts. Lists are at most 2^20 long. -/
import Derived.Test.YtahbfifnpceoeaaDoorCaveF
import Derived.Test.YtahbfifnpceoeaaDoorApp
import Derived.BigRegion
namespace Go.Proofs.YtahbfifnpceoeaaDoor
open Go.RowKit

def Row (w : World) (g cap n : Nat) (x : Nat → Int) : Prop := ∃ f : Nat → Value, w.rowIs g 3 cap f ∧ ∀ j, j < n → f j = .int .i64 (x j)
theorem Row.below {w w' : World} {g cap n : Nat} {x : Nat → Int} (h : Row w g cap n x) (hb : Below w.heap.size w w') : Row w' g cap n x := by
  obtain ⟨f, h1, h2⟩ := h
  exact ⟨f, row_below hb h1, h2⟩
theorem Row.drew {w : World} {g cap n : Nat} {x : Nat → Int} (h : Row w g cap n x) : Row w.drew g cap n x := h.below (Below.refl _ _).drew
theorem Row.alloc {w : World} {g cap n : Nat} {x : Nat → Int} (h : Row w g cap n x) (o : Obj) : Row (w.alloc o) g cap n x := h.below (below_alloc1 _ _)
theorem Row.set {w : World} {g cap n : Nat} {x : Nat → Int} (h : Row w g cap n x) (i : Nat) (v : Int) : Row (w.setCell ⟨g, i, none⟩ (.int .i64 v)) g cap n (fun j => if j = i then v else x j) := by
  obtain ⟨f, h1, h2⟩ := h
  refine ⟨_, h1.set i _, fun j hj => ?_⟩
  by_cases e : j = i
  · simp [e]
  · simp [e, h2 j hj]
theorem Row.congr {w : World} {g cap n : Nat} {x y : Nat → Int} (h : Row w g cap n x) (e : ∀ j, j < n → x j = y j) : Row w g cap n y := by
  obtain ⟨f, h1, h2⟩ := h
  exact ⟨f, h1, fun j hj => by rw [h2 j hj, e j hj]⟩
theorem Row.cell {w : World} {g cap n : Nat} {x : Nat → Int} (h : Row w g cap n x) (hc : n ≤ cap) {i : Nat} (hi : i < n) : w.cell? ⟨g, i, none⟩ = some (.int .i64 (x i)) := by
  obtain ⟨f, h1, h2⟩ := h
  rw [h1.cell (by omega), h2 i hi]
theorem Row.froz {w : World} {g cap n : Nat} {x : Nat → Int} (h : Row w g cap n x) (i : Nat) : w.frozen? ⟨g, i, none⟩ = false := by
  obtain ⟨f, h1, h2⟩ := h
  exact h1.frozen i
theorem Row.lt {w : World} {g cap n : Nat} {x : Nat → Int} (h : Row w g cap n x) : g < w.heap.size := by
  obtain ⟨f, h1, h2⟩ := h
  exact h1.lt
theorem Row.ints {w : World} {g cap n : Nat} {x : Nat → Int} (h : Row w g cap n x) (hc : n ≤ cap) : Ints w (some ⟨g, 0, none⟩) n x := fun _ => ⟨g, 0, rfl, fun j hj => by rw [Nat.zero_add]; exact h.cell hc hj⟩

theorem Row.far {w : World} {g cap n : Nat} {x : Nat → Int} (h : Row w g cap n x) {p : Addr} (hp : g ≠ p.block) (u : Value) : Row (w.setCell p u) g cap n x := by
  obtain ⟨f, h1, h2⟩ := h
  exact ⟨f, h1.setOther hp u, h2⟩


/-- A list of indices, as whole numbers. -/
def toZ (l : List Nat) : List Int := l.map (fun k : Nat => (k : Int))
theorem toZ_snoc (l : List Nat) (k : Nat) : toZ (l ++ [k]) = toZ l ++ [(k : Int)] := by simp [toZ]
theorem toZ_len (l : List Nat) : (toZ l).length = l.length := by simp [toZ]
theorem toZ_get (l : List Nat) {j : Nat} (hj : j < l.length) : (toZ l).getD j 0 = ((l.getD j 0 : Nat) : Int) := by simp [toZ, hj]
/-- Numbers of parts, as whole numbers. -/
def zN (p : Nat → Nat) (j : Nat) : Int := ((p j : Nat) : Int)

theorem ownParts_any (n : Nat) (w : World) (hn : n ≤ 1048576) :
    Calls Tryd.prog 53 #[.int .i64 n] w fun e w' => e = .returned (.slice (some ⟨w.heap.size, 0, none⟩) n n) ∧ Row w' w.heap.size n n (zN (fun v => v)) ∧ Below w.heap.size w w' := by
  have hmk := run_make_row' (P := Tryd.prog) 23 3 (.int .i64 0) 8 Tryd.underlying23 info3 rfl .i64 .i64 n (by omega) (by omega)
  go_enter Tryd.func53, Tryd.ntmps53
  go_wp2
  clear hmk
  go_loopw [9] (fun i wr => ∃ k : Nat, k ≤ n ∧ i = .int .i64 k ∧ wr.rowIs w.heap.size 3 n (fun j => if j < k then .int .i64 j else .int .i64 0) ∧ Below w.heap.size w wr) (fun i _ => n - (intOf i).toNat)
  case atStart => exact ⟨0, by omega, rfl, (World.rowIs_made w _ n 3).congr (fun j _ => by simp), below_alloc1 _ _⟩
  case round =>
    obtain ⟨k, hk, rfl, hrow, hbel⟩ := hrel
    by_cases hlt : k < n
    · have c2 := hrow.cell hlt
      have c3 := hrow.frozen k
      have hltz : (k : Int) < (n : Int) := by omega
      simp only [Nat.lt_irrefl, if_false] at c2
      go_wp2
      go_roundw
      case rel => exact ⟨k + 1, by omega, by go_num, (hrow.set k _).congr (fun j hj => by
        by_cases e : j = k
        · subst e; simp
        · rw [if_neg e]
          by_cases e2 : j < k
          · rw [if_pos e2, if_pos (by omega)]
          · rw [if_neg e2, if_neg (by omega)]), hbel.setCell (Nat.le_refl _) _⟩
      case measure => simp [intOf] <;> omega
    · have : k = n := by omega
      subst this
      go_wp2
      go_ret
      exact ⟨rfl, ⟨_, hrow, fun j hj => by rw [if_pos hj]; rfl⟩, hbel⟩

/-- It told whether they were apart, and joined them. -/
def JoinRet (g n : Nat) (p : Nat → Nat) (a b : Nat) (w : World) (e : Ending) (w' : World) : Prop :=
  e = .returned (.bool (decide (p a ≠ p b))) ∧ Row w' g n n (zN (relab p a b)) ∧ Kept g (g + 1) w w'
set_option maxRecDepth 20000 in
set_option maxHeartbeats 1600000 in
theorem joinParts_any (g n c : Nat) (p : Nat → Nat) (a b : Nat) (w : World) (hR : Row w g n n (zN p)) (hn : n ≤ 1048576) (ha : a < n) (hb : b < n) :
    Calls Tryd.prog 57 #[.slice (some ⟨g, 0, none⟩) n c, .int .i64 a, .int .i64 b] w (JoinRet g n p a b w) := by
  have haz : (a : Int) < (n : Int) := by omega
  have hbz : (b : Int) < (n : Int) := by omega
  have c1 : w.cell? ⟨g, a, none⟩ = some (.int .i64 (p a)) := hR.cell (Nat.le_refl _) ha
  have c2 : w.cell? ⟨g, b, none⟩ = some (.int .i64 (p b)) := hR.cell (Nat.le_refl _) hb
  have s1 := sub_cell c1
  have s2 := sub_cell c2
  by_cases hlt : p a < p b
  · have hltz : (p a : Int) ≤ (p b : Int) := by omega
    have hez : ((p a : Int) == (p b : Int)) = false := by simp; omega
    have HD : Hid (decide (p a ≠ p b) = true) := by show _ = _; simp; omega
    go_enter Tryd.func57, Tryd.ntmps57
    go_wp2
    refine wp_region_sub (by kernel_rfl) (by kernel_rfl) ?_
    repeat (go_big_quiet_step ((fail)))
    refine wpQuiet_nil ?_
    intro _ hw'
    obtain ⟨s, hw''⟩ := hw'
    subst hw''
    have hsv := s.h
    generalize s.val = v at hsv ⊢
    clear s1 s2
    go_wp2
    have HL0 : Hid (Row v g n n (zN p)) := hid (hR.below hsv)
    have HK0 : Hid (Kept g (g + 1) w v) := hid ⟨hsv.os, hsv.tape, hsv.output, hsv.size, fun k hk _ => hsv.block k hk⟩
    clear hsv c1 c2
    go_loopw [34] (fun i wr => ∃ k : Nat, k ≤ n ∧ i = .int .i64 k ∧ Hid (Row wr g n n (fun j => if j < k then zN (relab p a b) j else zN p j)) ∧ Hid (Kept g (g + 1) w wr)) (fun i _ => n - (intOf i).toNat)
    case atStart => exact ⟨0, by omega, rfl, HL0.out.congr (fun j _ => by simp), HK0⟩
    case round =>
      clear HL0 HK0
      obtain ⟨k, hk, rfl, HR, HK⟩ := hrel
      by_cases hlt : k < n
      · have hltz : (k : Int) < (n : Int) := by omega
        have c1 : wr.cell? ⟨g, k, none⟩ = some (.int .i64 (p k)) := by have := HR.out.cell (Nat.le_refl _) hlt; simpa [zN] using this
        have c3 := HR.out.froz k
        by_cases he : p k = p b
        · have hez : ((p k : Int) == (p b : Int)) = true := by simp [he]
          have HE : Hid (relab p a b k = p a) := by
            have h1 : max (p a) (p b) = p b := by omega
            have h2 : min (p a) (p b) = p a := by omega
            show _ = _
            unfold relab; rw [h1, h2, if_pos he]
          clear he
          go_wp2
          go_roundw
          case rel => exact ⟨k + 1, by omega, by go_num, hid ((HR.out.set k (p a : Int)).congr (fun j hj => by
            by_cases e : j = k
            · subst e; rw [if_pos rfl, if_pos (by omega)]; unfold zN; rw [HE.out]
            · rw [if_neg e]
              by_cases e2 : j < k
              · rw [if_pos e2, if_pos (by omega)]
              · rw [if_neg e2, if_neg (by omega)])), hid (HK.out.setCell (p := ⟨g, k, none⟩) (Nat.le_refl _) (by show g < g + 1; omega) _)⟩
          case measure => simp [intOf] <;> omega
        · have hez : ((p k : Int) == (p b : Int)) = false := by simp; omega
          have HE : Hid (relab p a b k = p k) := by
            have h1 : max (p a) (p b) = p b := by omega
            show _ = _
            unfold relab; rw [h1, if_neg he]
          clear he
          go_wp2
          go_roundw
          case rel => exact ⟨k + 1, by omega, by go_num, hid (HR.out.congr (fun j hj => by
            by_cases e : j = k
            · subst e; rw [if_neg (by omega), if_pos (by omega)]; unfold zN; rw [HE.out]
            · by_cases e2 : j < k
              · rw [if_pos e2, if_pos (by omega)]
              · rw [if_neg e2, if_neg (by omega)])), HK⟩
          case measure => simp [intOf] <;> omega
      · have : k = n := by omega
        subst this
        go_wp2
        go_ret
        exact ⟨by rw [HD.out]; rfl, HR.out.congr (fun j hj => by rw [if_pos hj]), HK.out⟩
  · by_cases hgt : p b < p a
    · have hltz : ¬ (p a : Int) ≤ (p b : Int) := by omega
      have hltz2 : (p b : Int) ≤ (p a : Int) := by omega
      have hez : ((p b : Int) == (p a : Int)) = false := by simp; omega
      have HD : Hid (decide (p a ≠ p b) = true) := by show _ = _; simp; omega
      clear hlt
      go_enter Tryd.func57, Tryd.ntmps57
      go_wp2
      refine wp_region_sub (by kernel_rfl) (by kernel_rfl) ?_
      repeat (go_big_quiet_step ((fail)))
      refine wpQuiet_nil ?_
      intro _ hw'
      obtain ⟨s, hw''⟩ := hw'
      subst hw''
      have hsv := s.h
      generalize s.val = v at hsv ⊢
      clear s1 s2
      go_wp2
      have HL0 : Hid (Row v g n n (zN p)) := hid (hR.below hsv)
      have HK0 : Hid (Kept g (g + 1) w v) := hid ⟨hsv.os, hsv.tape, hsv.output, hsv.size, fun k hk _ => hsv.block k hk⟩
      clear hsv c1 c2
      go_loopw [34] (fun i wr => ∃ k : Nat, k ≤ n ∧ i = .int .i64 k ∧ Hid (Row wr g n n (fun j => if j < k then zN (relab p a b) j else zN p j)) ∧ Hid (Kept g (g + 1) w wr)) (fun i _ => n - (intOf i).toNat)
      case atStart => exact ⟨0, by omega, rfl, HL0.out.congr (fun j _ => by simp), HK0⟩
      case round =>
        clear HL0 HK0
        obtain ⟨k, hk, rfl, HR, HK⟩ := hrel
        by_cases hlt : k < n
        · have hltz : (k : Int) < (n : Int) := by omega
          have c1 : wr.cell? ⟨g, k, none⟩ = some (.int .i64 (p k)) := by have := HR.out.cell (Nat.le_refl _) hlt; simpa [zN] using this
          have c3 := HR.out.froz k
          by_cases he : p k = p a
          · have hez : ((p k : Int) == (p a : Int)) = true := by simp [he]
            have HE : Hid (relab p a b k = p b) := by
              have h1 : max (p a) (p b) = p a := by omega
              have h2 : min (p a) (p b) = p b := by omega
              show _ = _
              unfold relab; rw [h1, h2, if_pos he]
            clear he
            go_wp2
            go_roundw
            case rel => exact ⟨k + 1, by omega, by go_num, hid ((HR.out.set k (p b : Int)).congr (fun j hj => by
              by_cases e : j = k
              · subst e; rw [if_pos rfl, if_pos (by omega)]; unfold zN; rw [HE.out]
              · rw [if_neg e]
                by_cases e2 : j < k
                · rw [if_pos e2, if_pos (by omega)]
                · rw [if_neg e2, if_neg (by omega)])), hid (HK.out.setCell (p := ⟨g, k, none⟩) (Nat.le_refl _) (by show g < g + 1; omega) _)⟩
            case measure => simp [intOf] <;> omega
          · have hez : ((p k : Int) == (p a : Int)) = false := by simp; omega
            have HE : Hid (relab p a b k = p k) := by
              have h1 : max (p a) (p b) = p a := by omega
              show _ = _
              unfold relab; rw [h1, if_neg he]
            clear he
            go_wp2
            go_roundw
            case rel => exact ⟨k + 1, by omega, by go_num, hid (HR.out.congr (fun j hj => by
              by_cases e : j = k
              · subst e; rw [if_neg (by omega), if_pos (by omega)]; unfold zN; rw [HE.out]
              · by_cases e2 : j < k
                · rw [if_pos e2, if_pos (by omega)]
                · rw [if_neg e2, if_neg (by omega)])), HK⟩
            case measure => simp [intOf] <;> omega
        · have : k = n := by omega
          subst this
          go_wp2
          go_ret
          exact ⟨by rw [HD.out]; rfl, HR.out.congr (fun j hj => by rw [if_pos hj]), HK.out⟩
    · have he : p a = p b := by omega
      have hez : ((p a : Int) == (p b : Int)) = true := by simp [he]
      have hez2 : ((p b : Int) == (p a : Int)) = true := by simp [he]
      have hez3 : ((p b : Int) == (p b : Int)) = true := by simp
      have HD : Hid (decide (p a ≠ p b) = false) := by show _ = _; simp [he]
      have HS : Hid (relab p a b = p) := relab_same he
      have hltz : ¬ (p a : Int) < (p b : Int) := by omega
      have hltz2 : ¬ (p b : Int) < (p a : Int) := by omega
      have hez4 : ((p a : Int) == (p a : Int)) = true := by simp
      clear he
      go_enter Tryd.func57, Tryd.ntmps57
      go_wp2
      refine wp_region_sub (by kernel_rfl) (by kernel_rfl) ?_
      repeat (go_big_quiet_step ((fail)))
      refine wpQuiet_nil ?_
      intro _ hw'
      obtain ⟨s, hw''⟩ := hw'
      subst hw''
      have hsv := s.h
      generalize s.val = v at hsv ⊢
      clear s1 s2
      go_wp2
      go_ret
      exact ⟨by rw [HD.out]; rfl, by rw [HS.out]; exact hR.below hsv, ⟨hsv.os, hsv.tape, hsv.output, hsv.size, fun k hk _ => hsv.block k hk⟩⟩

theorem Kept.belowg {g : Nat} {a b : World} (h : Kept g (g + 1) a b) {B : Nat} (hB : B ≤ g) (hs : B ≤ a.heap.size) : Below B a b := h.below hB hs

/-- A list of numbers below, by l1All. -/
theorem l1All_any (n : Nat) (w : World) (hn : n ≤ 1048576) :
    Calls Tryd.prog 78 #[.int .i64 n] w fun e w' => ∃ v, e = .returned v ∧ OwnL w' w.heap.size v (toZ (List.range n)) ∧ Below w.heap.size w w' := by
  go_enter Tryd.func78, Tryd.ntmps78
  go_wp2
  go_loopw [3, 4] (fun v i wr => ∃ k : Nat, k ≤ n ∧ i = .int .i64 k ∧ OwnL wr w.heap.size v (toZ (List.range k)) ∧ Below w.heap.size w wr) (fun _ i _ => n - (intOf i).toNat)
  case atStart => exact ⟨0, by omega, rfl, OwnL.lit0 w (Nat.le_refl _) _ rfl, below_alloc1 _ _⟩
  case round =>
    obtain ⟨k, hk, rfl, hown, hbel⟩ := hrel
    by_cases hlt : k < n
    · have hltz : (k : Int) < (n : Int) := by omega
      have hsz := hbel.size
      go_wp2_with (at_builtin; refine app_int rfl _ _ rfl w.heap.size _ _ rfl (hown.alloc _) wr.heap.size k rfl (by simp) (by rw [toZ_len]; simp; omega) (by simp; omega) ?_)
      intro v' w' hown' hb'
      have hb2 := hb' _ (hbel.alloc hbel.size _)
      clear hb' hown
      go_wp2
      go_roundw
      case rel => exact ⟨k + 1, by omega, by go_num, by rw [List.range_succ, toZ_snoc]; exact hown', hb2⟩
      case measure => simp [intOf] <;> omega
    · have : k = n := by omega
      subst this
      go_wp2
      go_ret
      exact ⟨_, rfl, hown, hbel⟩
end Go.Proofs.YtahbfifnpceoeaaDoor
