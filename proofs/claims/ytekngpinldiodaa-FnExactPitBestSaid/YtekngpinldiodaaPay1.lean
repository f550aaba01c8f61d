/- Tables of payments in memory: weighing, copying, comparing. Lists are at most 2^20 long. -/
import Derived.Test.YtekngpinldiodaaPitLaw
import Derived.Test.YtekngpinldiodaaPit3
import Derived.Test.YtekngpinldiodaaLists
namespace Go.Proofs.Ytekngpinldiodaa
open Go.RowKit

theorem info33 : (Try.prog.info? 33).map (fun i => (i.zero, i.size, i.bytes)) = some (some (.slice none 0 0), 1, 24) := by kernel_rfl

/-- The slice at A, of T.n lists, reads as T's lists. -/
def RowsAt (w : World) (A : Option Addr) (T : PitD) : Prop :=
  0 < T.n → ∃ b o, A = some ⟨b, o, none⟩ ∧ ∀ j, j < T.n → ∃ C c, w.cell? ⟨b, o + j, none⟩ = some (.slice C (T.l j) c) ∧ Ints w C (T.l j) (T.x j)
theorem RowsAt.below {w w' : World} {A : Option Addr} {T : PitD} (h : RowsAt w A T) (hb : Below w.heap.size w w') : RowsAt w' A T := fun hn => by
  obtain ⟨b, o, hA, hc⟩ := h hn
  refine ⟨b, o, hA, fun j hj => ?_⟩
  obtain ⟨C, c, h2, h3⟩ := hc j hj
  exact ⟨C, c, cell_below hb h2, h3.below hb⟩
theorem RowsAt.at_ {w : World} {A : Option Addr} {T : PitD} (h : RowsAt w A T) {k : Nat} (hk : k < T.n) :
    ∃ b o C c, A = some ⟨b, o, none⟩ ∧ w.cell? ⟨b, o + k, none⟩ = some (.slice C (T.l k) c) ∧ Ints w C (T.l k) (T.x k) := by
  obtain ⟨b, o, hA, hc⟩ := h (by omega)
  obtain ⟨C, c, h2, h3⟩ := hc k hk
  exact ⟨b, o, C, c, hA, h2, h3⟩
theorem rows_data {w : World} {A : Option Addr} {n : Nat} (h : 0 < n → ∃ b o, A = some ⟨b, o, none⟩ ∧ ∀ j, j < n → ∃ B m d y, w.cell? ⟨b, o + j, none⟩ = some (.slice B m d) ∧ Ints w B m y ∧ m ≤ 9223372036854775807 ∧ ∀ k, -9223372036854775808 ≤ y k ∧ y k ≤ 9223372036854775807) :
    ∃ T : PitD, T.n = n ∧ RowsAt w A T ∧ (∀ j, j < T.n → T.l j ≤ 9223372036854775807) := by
  by_cases h0 : 0 < n
  · obtain ⟨b, o, hA, hc⟩ := h h0
    have hex : ∀ j, ∃ q : Option Addr × Nat × Nat × (Nat → Int), j < n → w.cell? ⟨b, o + j, none⟩ = some (.slice q.1 q.2.1 q.2.2.1) ∧ Ints w q.1 q.2.1 q.2.2.2 ∧ q.2.1 ≤ 9223372036854775807 := fun j => by
      by_cases hj : j < n
      · obtain ⟨B, m, d, y, h1, h2, h3, _⟩ := hc j hj
        exact ⟨(B, m, d, y), fun _ => ⟨h1, h2, h3⟩⟩
      · exact ⟨(none, 0, 0, fun _ => 0), fun h => absurd h hj⟩
    obtain ⟨f, hf⟩ := Classical.axiomOfChoice hex
    exact ⟨⟨n, fun _ => 0, fun j => (f j).2.1, fun j => (f j).2.2.2⟩, rfl, fun _ => ⟨b, o, hA, fun j hj => ⟨(f j).1, (f j).2.2.1, (hf j hj).1, (hf j hj).2.1⟩⟩, fun j hj => (hf j hj).2.2⟩
  · exact ⟨⟨n, fun _ => 0, fun _ => 0, fun _ _ => 0⟩, rfl, fun h => absurd h h0, fun j hj => absurd hj (fun h => h0 (Nat.lt_of_le_of_lt (Nat.zero_le _) h))⟩

set_option maxHeartbeats 400000 in
theorem szIntSS_any (A : Option Addr) (T : PitD) (c : Nat) (l : Int) (w : World) (hA : RowsAt w A T) (hl : l ≤ 1048576) (h0 : 0 ≤ l) (hn : T.n ≤ 9223372036854775807) (hm : ∀ j, j < T.n → T.l j ≤ 9223372036854775807) :
    Calls Try.prog 42 #[.slice A T.n c, .int .i64 l] w (SzB (PitSmall T) l w) := by
  by_cases hbig : l - (T.n : Int) < 0
  · clear hm
    go_enter Try.func42, Try.ntmps42
    go_wp2
    go_ret
    exact ⟨-1, rfl, .inl (by omega), Below.refl _ _⟩
  · have HM := hid hm
    clear hm
    go_enter Try.func42, Try.ntmps42
    go_wp2
    go_loopw [1, 5] (fun r i wr => ∃ (k : Nat) (q : Int), k ≤ T.n ∧ i = .int .i64 k ∧ r = .int .i64 q ∧ 0 ≤ q ∧ q ≤ l ∧ (∀ j, j < k → T.l j ≤ 1048576) ∧ Below w.heap.size w wr) (fun _ i _ => T.n - (intOf i).toNat)
    case atStart => exact ⟨0, l - T.n, by omega, rfl, rfl, by omega, by omega, fun j hj => absurd hj (by omega), Below.refl _ _⟩
    case round =>
      obtain ⟨k, q, hk, rfl, rfl, hq0, hql, hall, hbel⟩ := hrel
      have HA := hid hall
      clear hall
      by_cases hlt : k < T.n
      · obtain ⟨b, o, C, cc, rfl, a1, -⟩ := (hA.below hbel).at_ hlt
        have hltz : (k : Int) < (T.n : Int) := by omega
        clear hA
        go_wp2_with fail
        refine (szIntS_any _ _ _ _ _ (by omega) (by omega) (HM.out k hlt)).mono ?_
        rintro e w' ⟨r, rfl, hr, rfl⟩
        have HR := hid hr
        clear hr
        by_cases hneg : r < 0
        · go_wp2
          go_ret
          exact ⟨-1, rfl, .inl (by omega), hbel⟩
        · have h9 : 0 ≤ r ∧ r ≤ q ∧ T.l k ≤ 1048576 := HR.out.elim (fun h => absurd h (by omega)) (fun h => ⟨h.1, h.2.1, by omega⟩)
          go_wp2
          go_roundw
          case rel => exact ⟨k + 1, r, by omega, by go_num, rfl, by omega, by omega, fun j hj => by
            by_cases e : j = k
            · subst e; exact h9.2.2
            · exact HA.out j (by omega), hbel⟩
          case measure => simp [intOf] <;> omega
      · have : k = T.n := by omega
        subst this
        go_wp2
        go_ret
        exact ⟨q, rfl, .inr ⟨hq0, hql, by omega, HA.out⟩, hbel⟩

/-- k lists of the copy are made. -/
def TrRel (w : World) (g : Nat) (T : PitD) (k : Nat) (wr : World) : Prop :=
  ∃ G : Nat → Nat, wr.rowIs g 33 T.n (fun j => if j < k then .slice (some ⟨G j, 0, none⟩) (T.l j) (T.l j) else .slice none 0 0) ∧ (∀ j, j < k → g < G j ∧ wr.rowIs (G j) 3 (T.l j) (fun i => .int .i64 (T.x j i))) ∧ Below w.heap.size w wr
theorem TrRel.start (w : World) (T : PitD) : TrRel w w.heap.size T 0 (w.alloc (.cells (madeCells #[.slice none 0 0] T.n) 33)) :=
  ⟨fun _ => 0, (World.rowIs_made w _ T.n 33).congr (fun j _ => by simp), fun j hj => absurd hj (by omega), (Below.refl _ _).alloc (Nat.le_refl _) _⟩
theorem TrRel.step {w wr w1 : World} {T : PitD} {k h : Nat} (hr : TrRel w w.heap.size T k wr) (hh : wr.heap.size ≤ h) (hrow : w1.rowIs h 3 (T.l k) (fun i => .int .i64 (T.x k i))) (hb : Below wr.heap.size wr w1) :
    TrRel w w.heap.size T (k + 1) (w1.setCell ⟨w.heap.size, k, none⟩ (.slice (some ⟨h, 0, none⟩) (T.l k) (T.l k))) := by
  obtain ⟨G, h1, h2, h4⟩ := hr
  have hlt := h1.lt
  refine ⟨fun j => if j = k then h else G j, ((row_below hb h1).set _ _).congr (fun i hi => ?_), fun j hj => ?_, (Below.then_ h4 hb).setCell (Nat.le_refl _) _⟩
  · by_cases e : i = k
    · subst e; simp
    · rw [if_neg e]
      by_cases e2 : i < k
      · simp [e, e2, show i < k + 1 by omega]
      · simp [e2, show ¬ i < k + 1 by omega]
  · show w.heap.size < (if j = k then h else G j) ∧ World.rowIs _ (if j = k then h else G j) _ _ _
    by_cases e : j = k
    · subst e
      rw [if_pos rfl]
      exact ⟨by omega, hrow.setOther (by simp <;> omega) _⟩
    · rw [if_neg e]
      obtain ⟨a, b⟩ := h2 j (by omega)
      exact ⟨a, (row_below hb b).setOther (by simp <;> omega) _⟩
theorem TrRel.cells {w wr : World} {T : PitD} {k : Nat} (hr : TrRel w w.heap.size T k wr) (hk : k < T.n) :
    wr.cell? ⟨w.heap.size, k, none⟩ = some (.slice none 0 0) ∧ (∀ i, wr.frozen? ⟨w.heap.size, i, none⟩ = false) ∧ Below w.heap.size w wr ∧ w.heap.size < wr.heap.size := by
  obtain ⟨G, h1, h2, h4⟩ := hr
  exact ⟨by rw [h1.cell hk, if_neg (by omega)], h1.frozen, h4, h1.lt⟩
theorem TrRel.done {w wr : World} {T : PitD} (hr : TrRel w w.heap.size T T.n wr) : RowsAt wr (some ⟨w.heap.size, 0, none⟩) T ∧ Below w.heap.size w wr := by
  obtain ⟨G, h1, h2, h4⟩ := hr
  exact ⟨fun _ => ⟨_, 0, rfl, fun j hj => ⟨_, _, by rw [Nat.zero_add, h1.cell hj, if_pos hj], Rd.of_row (h2 j hj).2⟩⟩, h4⟩

/-- It returns a copy of T in new blocks. -/
def ToRows (T : PitD) (w : World) (e : Ending) (w' : World) : Prop :=
  ∃ A, e = .returned (.slice A T.n T.n) ∧ RowsAt w' A T ∧ Below w.heap.size w w'
set_option maxHeartbeats 400000 in
theorem toIntSS_any (A : Option Addr) (T : PitD) (c : Nat) (w : World) (hx : RowsAt w A T) (hs : PitSmall T) :
    Calls Try.prog 44 #[.slice A T.n c] w (ToRows T w) := by
  obtain ⟨hn, hl⟩ := hs
  have hmk := run_make_row' (P := Try.prog) 39 33 (.slice none 0 0) 24 Try.underlying39 info33 rfl .i64 .i64 T.n (by omega) (by omega)
  have HL := hid hl
  clear hl
  go_enter Try.func44, Try.ntmps44
  go_wp2
  clear hmk
  go_loopw [4] (fun i wr => ∃ k : Nat, k ≤ T.n ∧ i = .int .i64 k ∧ TrRel w w.heap.size T k wr) (fun i _ => T.n - (intOf i).toNat)
  case atStart => exact ⟨0, by omega, rfl, TrRel.start w T⟩
  case round =>
    obtain ⟨k, hk, rfl, hrel⟩ := hrel
    by_cases hlt : k < T.n
    · obtain ⟨t1, t3, t4, t5⟩ := hrel.cells hlt
      obtain ⟨b, o, C, cc, rfl, a2, a3⟩ := (hx.below t4).at_ hlt
      have hltz : (k : Int) < (T.n : Int) := by omega
      go_wp2_with fail
      refine (toIntS_any _ _ _ (T.x k) _ a3 (HL.out k hlt)).mono ?_
      rintro e w1 ⟨rfl, hrow, hb⟩
      have u1 := cell_below hb t1
      have u4 : w1.frozen? ⟨w.heap.size, k, none⟩ = false := (hb.frozen (by show w.heap.size < _; omega)).trans (t3 k)
      have hst := hid (hrel.step (Nat.le_refl _) hrow hb)
      clear hb hrow t1 t3 t4 a2 a3
      go_wp2
      go_roundw
      case rel => exact ⟨k + 1, by omega, by go_num, hst.out⟩
      case measure => simp [intOf] <;> omega
    · have : k = T.n := by omega
      subst this
      go_wp2
      go_ret
      exact ⟨_, rfl, hrel.done⟩

set_option maxHeartbeats 400000 in
theorem eqIntSS_yes (A B : Option Addr) (T : PitD) (c d : Nat) (w : World) (hx : RowsAt w A T) (hy : RowsAt w B T) (hs : PitSmall T) :
    Calls Try.prog 46 #[.slice A T.n c, .slice B T.n d] w (RetV (.bool true) w) := by
  have hn := hs.1
  have HL := hid hs.2
  go_enter Try.func46, Try.ntmps46
  go_wp2
  go_loopw [5] (fun i wr => ∃ k : Nat, k ≤ T.n ∧ i = .int .i64 k ∧ Below w.heap.size w wr) (fun i _ => T.n - (intOf i).toNat)
  case atStart => exact ⟨0, by omega, rfl, Below.refl _ _⟩
  case round =>
    obtain ⟨k, hk, rfl, hbel⟩ := hrel
    by_cases hlt : k < T.n
    · obtain ⟨b, o, C, cc, rfl, a2, a3⟩ := (hx.below hbel).at_ hlt
      obtain ⟨b', o', C', cc', rfl, e2, e3⟩ := (hy.below hbel).at_ hlt
      have hltz : (k : Int) < (T.n : Int) := by omega
      have s2 := sub_cell a2
      have s4 := sub_cell e2
      clear a2 e2 hx hy
      go_wp2
      refine wp_region_sub (by kernel_rfl) (by kernel_rfl) ?_
      repeat (go_big_quiet_step ((go_at_call 35; exact RetV.sub (RetB.yes (eqIntS_any _ _ _ cc _ cc' (T.x k) (T.x k) _ (a3.below (Sub.h _)) (e3.below (Sub.h _)) (HL.out k hlt)) ⟨rfl, fun _ _ => rfl⟩))))
      refine wpQuiet_nil ?_
      intro _ hw'
      obtain ⟨s, hw''⟩ := hw'
      subst hw''
      go_wp2
      go_roundw
      case rel => exact ⟨k + 1, by omega, by go_num, Below.then_ hbel s.h⟩
      case measure => simp [intOf] <;> omega
    · have : k = T.n := by omega
      subst this
      go_wp2
      go_ret
      exact ⟨rfl, hbel⟩
end Go.Proofs.Ytekngpinldiodaa
