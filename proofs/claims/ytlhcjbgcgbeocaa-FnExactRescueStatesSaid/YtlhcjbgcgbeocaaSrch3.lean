/- Copies of searches: each lies in new memory. Lists are at most 2^20 long. -/
import Derived.Test.YtlhcjbgcgbeocaaSrch2
namespace Go.Proofs.Ytlhcjbgcgbeocaa
open Go.RowKit

/-- It returns this value in new memory that reads so. -/
def triF (x y z : Nat → Int) (i : Nat) : Value := if i % 3 = 0 then .int .i64 (x (i / 3)) else if i % 3 = 1 then .int .i64 (y (i / 3)) else .int .i64 (z (i / 3))
theorem triF_0 (x y z : Nat → Int) (k : Nat) : triF x y z (k * 3) = .int .i64 (x k) := by
  unfold triF; rw [if_pos (by omega), show k * 3 / 3 = k by omega]
theorem triF_1 (x y z : Nat → Int) (k : Nat) : triF x y z (k * 3 + 1) = .int .i64 (y k) := by
  unfold triF; rw [if_neg (by omega), if_pos (by omega), show (k * 3 + 1) / 3 = k by omega]
theorem triF_2 (x y z : Nat → Int) (k : Nat) : triF x y z (k * 3 + 2) = .int .i64 (z k) := by
  unfold triF; rw [if_neg (by omega), if_neg (by omega), show (k * 3 + 2) / 3 = k by omega]
theorem triples_of {w : World} {g : Nat} {t : TypeId} {n : Nat} {x y z : Nat → Int} (h : w.rowIs g t (n * 3) (triF x y z)) : Triples w (some ⟨g, 0, none⟩) n x y z := fun _ =>
  ⟨g, 0, rfl, fun j hj => ⟨by rw [Nat.zero_add, h.cell (by omega), triF_0], by rw [Nat.zero_add, h.cell (by omega), triF_1], by rw [Nat.zero_add, h.cell (by omega), triF_2]⟩⟩

theorem toPassage_any (a b t : Int) (w : World) : Calls Try.prog 55 #[.agg #[.int .i64 a, .int .i64 b, .int .i64 t]] w (RetV (.agg #[.int .i64 a, .int .i64 b, .int .i64 t]) w) := by
  go_enter Try.func55, Try.ntmps55
  go_wp2
  refine bodyPost_ret (v := .agg #[.int .i64 a, .int .i64 b, .int .i64 t]) (by simp [results, Try.results55, go_sem]) rfl ⟨rfl, ?_⟩
  repeat (first | exact Below.refl _ _ | refine Below.setCell ?_ (by simp <;> omega) _ | refine Below.alloc ?_ (by simp <;> omega) _)

theorem run_make_wide {P : Program} (t e : TypeId) (z : Value) (size bytes : Nat) (ht : P.underlying t = some (.slice e)) (hinfo : (P.info? e).map (fun i => (i.zero, i.size, i.bytes)) = some (some z, size, bytes))
    (kl kc : IntKind) (n : Nat) (hb : bytes * n ≤ 281474976710656) (h63 : n ≤ 9223372036854775807) (w : World) :
    (Instr.makeSlice t (.int kl (n : Int)) (.int kc (n : Int))).run P w = .ok (.slice (some ⟨w.heap.size, 0, none⟩) n n) (w.alloc (.cells (madeCells z.cells (n * size)) e)) := by
  obtain ⟨i, hi, hz, hs, hby⟩ := info_parts hinfo
  have hb' : (i.bytes : Int) * (n : Int) ≤ 281474976710656 := by
    have h : ((i.bytes * n : Nat) : Int) ≤ 281474976710656 := by rw [hby]; omega
    rwa [Int.natCast_mul] at h
  have hr := run_make (P := P) w t e i z ht hi hz kl kc n n (by omega) (Int.le_refl _) hb' (by omega)
  simp only [Int.toNat_natCast, hs] at hr
  exact hr

theorem made_triples (w : World) (n : Nat) (t : TypeId) : (w.alloc (.cells (madeCells (Value.agg #[.int .i64 0, .int .i64 0, .int .i64 0]).cells (n * 3)) t)).rowIs w.heap.size t (n * 3) (fun _ => .int .i64 0) :=
  ⟨_, heap_alloc_new w _, size_madeCells _ _, fun i hi => by
    have e : (Value.agg #[.int .i64 0, .int .i64 0, .int .i64 0]).cells = #[.int .i64 0, .int .i64 0, .int .i64 0] := rfl
    rw [e]
    have h3 : i % 3 = 0 ∨ i % 3 = 1 ∨ i % 3 = 2 := by omega
    rcases h3 with h | h | h <;> simp [madeCells, hi, h]⟩

set_option maxHeartbeats 400000 in
theorem toPassageS_any (A : Option Addr) (n c : Nat) (x y z : Nat → Int) (w : World) (hx : Triples w A n x y z) (hn : n ≤ 1048576) :
    Calls Try.prog 41 #[.slice A n c] w fun e w' => e = .returned (.slice (some ⟨w.heap.size, 0, none⟩) n n) ∧ w'.rowIs w.heap.size 53 (n * 3) (triF x y z) ∧ Below w.heap.size w w' := by
  have hmk := run_make_wide (P := Try.prog) 28 53 _ 3 24 Try.underlying28 info53 .i64 .i64 n (by omega) (by omega)
  go_enter Try.func41, Try.ntmps41
  go_wp2
  clear hmk
  go_loopw [4] (fun i wr => ∃ k : Nat, k ≤ n ∧ i = .int .i64 k ∧ wr.rowIs w.heap.size 53 (n * 3) (fun i => if i < k * 3 then triF x y z i else .int .i64 0) ∧ Below w.heap.size w wr) (fun i _ => n - (intOf i).toNat)
  case atStart => exact ⟨0, by omega, rfl, (made_triples w n _).congr (fun j _ => by simp), below_alloc1 _ _⟩
  case round =>
    obtain ⟨k, hk, rfl, hrow, hbel⟩ := hrel
    by_cases hlt : k < n
    · obtain ⟨b, o, rfl, a1, a2, a3⟩ := (hx.below hbel).at_ hlt
      have hltz : (k : Int) < (n : Int) := by omega
      go_wp2_with fail
      refine (toPassage_any _ _ _ _).mono ?_
      rintro e w1 ⟨rfl, hb⟩
      have hrow1 := row_below hb hrow
      have hbel1 := Below.then_ hbel hb
      have u1 := hrow1.cell (show k * 3 < n * 3 by omega)
      have u2 := hrow1.cell (show k * 3 + 1 < n * 3 by omega)
      have u3 := hrow1.cell (show k * 3 + 2 < n * 3 by omega)
      have z1 := hrow1.frozen (k * 3)
      have z2 := hrow1.frozen (k * 3 + 1)
      have z3 := hrow1.frozen (k * 3 + 2)
      clear hrow hbel hb a1 a2 a3 hx
      go_wp2
      go_roundw
      case rel => exact ⟨k + 1, by omega, by go_num, (((hrow1.set _ _).set _ _).set _ _).congr (fun i hi => by
        by_cases e2 : i = k * 3 + 2
        · subst e2; rw [if_pos rfl, if_pos (by omega), triF_2]
        · rw [if_neg e2]
          by_cases e1 : i = k * 3 + 1
          · subst e1; rw [if_pos rfl, if_pos (by omega), triF_1]
          · rw [if_neg e1]
            by_cases e0 : i = k * 3
            · subst e0; rw [if_pos rfl, if_pos (by omega), triF_0]
            · rw [if_neg e0]
              by_cases e : i < k * 3
              · rw [if_pos e, if_pos (by omega)]
              · rw [if_neg e, if_neg (by omega)]), ((hbel1.setCell (Nat.le_refl _) _).setCell (Nat.le_refl _) _).setCell (Nat.le_refl _) _⟩
      case measure => simp [intOf] <;> omega
    · have : k = n := by omega
      subst this
      go_wp2
      go_ret
      exact ⟨rfl, hrow.congr (fun j hj => by rw [if_pos hj]), hbel⟩

theorem toBoolS_any (A : Option Addr) (n c : Nat) (x : Nat → Bool) (w : World) (h : Bools w A n x) (hn : n ≤ 1048576) :
    Calls Try.prog 42 #[.slice A n c] w fun e w' => e = .returned (.slice (some ⟨w.heap.size, 0, none⟩) n n) ∧ w'.rowIs w.heap.size 4 n (fun j => .bool (x j)) ∧ Below w.heap.size w w' := by
  have hmk := run_make_row' (P := Try.prog) 23 4 (.bool false) 1 Try.underlying23 info4 rfl .i64 .i64 n (by omega) (by omega)
  go_enter Try.func42, Try.ntmps42
  go_wp2
  clear hmk
  go_loopw [4] (fun i wr => ∃ k : Nat, k ≤ n ∧ i = .int .i64 k ∧ wr.rowIs w.heap.size 4 n (fun j => if j < k then .bool (x j) else .bool false) ∧ Below w.heap.size w wr) (fun i _ => n - (intOf i).toNat)
  case atStart => exact ⟨0, by omega, rfl, (World.rowIs_made w _ n 4).congr (fun j _ => by simp), below_alloc1 _ _⟩
  case round =>
    obtain ⟨k, hk, rfl, hrow, hbel⟩ := hrel
    by_cases hlt : k < n
    · obtain ⟨b, o, rfl, hc⟩ := h (by omega)
      have c1 := cell_below hbel (hc k hlt)
      have c2 := hrow.cell hlt
      have c3 := hrow.frozen k
      have hltz : (k : Int) < (n : Int) := by omega
      clear hc h
      simp only [Nat.lt_irrefl, if_false] at c2
      go_wp2
      go_roundw
      case rel => exact ⟨k + 1, by omega, by go_num, (hrow.set k _).congr (fun j hj => by
        by_cases e : j = k
        · subst e; simp
        · rw [if_neg e]
          by_cases e2 : j < k
          · rw [if_pos e2, if_pos (by omega)]
          · rw [if_neg e2, if_neg (by omega)]), hbel.setCell (Nat.le_refl _) _⟩
      case measure => simp [intOf] <;> omega
    · have : k = n := by omega
      subst this
      go_wp2
      go_ret
      exact ⟨rfl, hrow.congr (fun j hj => by rw [if_pos hj]), hbel⟩

/-- It returns a copy of the search. -/
def ToSrch (D : SrchD) (w : World) (e : Ending) (w' : World) : Prop :=
  ∃ P Q, e = .returned (.agg #[.int .i64 D.s, .slice P D.m D.m, .slice Q D.k D.k]) ∧ SrchAt w' P Q D ∧ Below w.heap.size w w'

set_option maxHeartbeats 800000 in
theorem toSearch_any (P Q : Option Addr) (D : SrchD) (c d : Nat) (w : World) (hx : SrchAt w P Q D) (hs : SrchSmall D) :
    Calls Try.prog 15 #[.agg #[.int .i64 D.s, .slice P D.m c, .slice Q D.k d]] w (ToSrch D w) := by
  have hW : ∀ o1 o2 o3, Below w.heap.size w (((w.alloc o1).alloc o2).alloc o3) := fun o1 o2 o3 => below_alloc (below_alloc (below_alloc1 w o1) o2) o3
  have HW := hid hW
  clear hW
  go_enter Try.func15, Try.ntmps15
  go_wp2_with fail
  refine (toPassageS_any P D.m c _ _ _ _ (hx.below (HW.out _ _ _)).pas hs.1).mono ?_
  rintro e w1 ⟨rfl, hrow, hb⟩
  have b1 := (((Blk.new _ _ _).alloc _).alloc _).below hb
  have b2 := ((Blk.new _ _ _).alloc _).below hb
  have b3 := (Blk.new _ _ _).below hb
  have hw1 := Below.then_ (HW.out _ _ _) hb
  have hg : w.heap.size + 3 < w1.heap.size := by have := hrow.lt; simp at this; omega
  simp only [World.size_alloc] at b1 b2 b3 hrow
  have p1 := b1.cell (i := 2) rfl
  have f0 := b3.cell (i := 0) rfl
  have f1 := b3.cell (i := 1) rfl
  have f2 := b3.cell (i := 2) rfl
  have z1 := b3.frozen 1
  go_wp2_with fail
  have hrow2 := hrow.setOther (a := ⟨w.heap.size + 1 + 1, 1, none⟩) (by simp) (.slice (some ⟨w.heap.size + 1 + 1 + 1, 0, none⟩) D.m D.m)
  have hw2 := hw1.setCell (p := ⟨w.heap.size + 1 + 1, 1, none⟩) (by simp <;> omega) (.slice (some ⟨w.heap.size + 1 + 1 + 1, 0, none⟩) D.m D.m)
  have b2' := b2.far (p := ⟨w.heap.size + 1 + 1, 1, none⟩) (by simp) (.slice (some ⟨w.heap.size + 1 + 1 + 1, 0, none⟩) D.m D.m)
  have b3' := b3.set_ 1 (.slice (some ⟨w.heap.size + 1 + 1 + 1, 0, none⟩) D.m D.m)
  refine (toBoolS_any Q D.k d _ _ (hx.below hw2).dep hs.2).mono ?_
  rintro e w2 ⟨rfl, hrowb, hb2⟩
  have hrow3 := row_below hb2 hrow2
  have hw3 := Below.then_ hw2 hb2
  have c2 := b2'.below hb2
  have c3 := b3'.below hb2
  have hg2 : w1.heap.size ≤ w2.heap.size := by have := hb2.size; simpa using this
  simp only [World.size_setCell] at hrowb
  have q0 := c3.cell (i := 0) rfl
  have q1 := c3.cell (i := 1) rfl
  have q2 := c3.cell (i := 2) rfl
  have y0 := c2.cell (i := 0) rfl
  have y1 := c2.cell (i := 1) rfl
  have y2 := c2.cell (i := 2) rfl
  have t2 := c3.frozen 2
  have r0 := c2.frozen 0
  have r1 := c2.frozen 1
  have r2 := c2.frozen 2
  clear b1 b2 b3 b2' b3' p1 f0 f1 f2 z1 hb hb2 hrow2 hrow
  go_wp2
  refine bodyPost_ret (v := .agg #[.int .i64 D.s, .slice (some ⟨w.heap.size + 1 + 1 + 1, 0, none⟩) D.m D.m, .slice (some ⟨w1.heap.size, 0, none⟩) D.k D.k]) (by simp [results, Try.results15, go_sem, y0, y1, y2]) rfl ⟨_, _, rfl, ⟨triples_of (t := 53) ?_, Rd.of_row (t := 4) ?_⟩, ?_⟩
  · exact (((hrow3.setOther (by simp <;> omega) _).setOther (by simp <;> omega) _).setOther (by simp <;> omega) _).setOther (by simp <;> omega) _
  · exact (((hrowb.setOther (by simp <;> omega) _).setOther (by simp <;> omega) _).setOther (by simp <;> omega) _).setOther (by simp <;> omega) _
  · exact (((hw3.setCell (by simp <;> omega) _).setCell (by simp <;> omega) _).setCell (by simp <;> omega) _).setCell (by simp <;> omega) _
end Go.Proofs.Ytlhcjbgcgbeocaa
