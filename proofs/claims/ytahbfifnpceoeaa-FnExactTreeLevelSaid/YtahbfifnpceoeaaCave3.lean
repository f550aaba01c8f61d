/- Copies of caves: each lies in new memory. Lists are at most 2^20 long. -/
import Derived.Test.YtahbfifnpceoeaaCave2
namespace Go.Proofs.Ytahbfifnpceoeaa
open Go.RowKit

/-- It returns this value in new memory that reads so. -/
def triF (x y z : Nat → Int) (i : Nat) : Value := if i % 3 = 0 then .int .i64 (x (i / 3)) else if i % 3 = 1 then .int .i64 (y (i / 3)) else .int .i64 (z (i / 3))
theorem triF_0 (x y z : Nat → Int) (k : Nat) : triF x y z (k * 3) = .int .i64 (x k) := by
  unfold triF; rw [if_pos (by omega), show k * 3 / 3 = k by omega]
theorem triF_1 (x y z : Nat → Int) (k : Nat) : triF x y z (k * 3 + 1) = .int .i64 (y k) := by
  unfold triF; rw [if_neg (by omega), if_pos (by omega), show (k * 3 + 1) / 3 = k by omega]
theorem triF_2 (x y z : Nat → Int) (k : Nat) : triF x y z (k * 3 + 2) = .int .i64 (z k) := by
  unfold triF; rw [if_neg (by omega), if_neg (by omega), show (k * 3 + 2) / 3 = k by omega]
theorem triples_of {w : World} {g : Nat} {t : TypeId} {n : Nat} {x y z : Nat → Int} (h : w.rowIs g t (n * 3) (triF x y z)) : Triples w (some ⟨g, 0, none⟩) n x y z := fun _ =>
  ⟨g, 0, rfl, fun j hj => ⟨by rw [Nat.zero_add, h.cell (by omega), triF_0], by rw [Nat.zero_add, h.cell (by omega), triF_1], by rw [Nat.zero_add, h.cell (by omega), triF_2]⟩⟩


theorem toSill_any (a b t : Int) (w : World) : Calls Try.prog 55 #[.agg #[.int .i64 a, .int .i64 b, .int .i64 t]] w (RetV (.agg #[.int .i64 a, .int .i64 b, .int .i64 t]) w) := by
  go_enter Try.func55, Try.ntmps55
  go_wp2
  refine bodyPost_ret (v := .agg #[.int .i64 a, .int .i64 b, .int .i64 t]) (by simp [results, Try.results55, go_sem]) rfl ⟨rfl, ?_⟩
  repeat (first | exact Below.refl _ _ | refine Below.setCell ?_ (by simp <;> omega) _ | refine Below.alloc ?_ (by simp <;> omega) _)


theorem run_make_wide {P : Program} (t e : TypeId) (z : Value) (size bytes : Nat) (ht : P.underlying t = some (.slice e)) (hinfo : (P.info? e).map (fun i => (i.zero, i.size, i.bytes)) = some (some z, size, bytes))
    (kl kc : IntKind) (n : Nat) (hb : bytes * n ≤ 281474976710656) (h63 : n ≤ 9223372036854775807) (w : World) :
    (Instr.makeSlice t (.int kl (n : Int)) (.int kc (n : Int))).run P w = .ok (.slice (some ⟨w.heap.size, 0, none⟩) n n) (w.alloc (.cells (madeCells z.cells (n * size)) e)) := by
  obtain ⟨i, hi, hz, hs, hby⟩ := info_parts hinfo
  have hb' : (i.bytes : Int) * (n : Int) ≤ 281474976710656 := by
    have h : ((i.bytes * n : Nat) : Int) ≤ 281474976710656 := by rw [hby]; omega
    rwa [Int.natCast_mul] at h
  have hr := run_make (P := P) w t e i z ht hi hz kl kc n n (by omega) (Int.le_refl _) hb' (by omega)
  simp only [Int.toNat_natCast, hs] at hr
  exact hr

theorem made_triples (w : World) (n : Nat) (t : TypeId) : (w.alloc (.cells (madeCells (Value.agg #[.int .i64 0, .int .i64 0, .int .i64 0]).cells (n * 3)) t)).rowIs w.heap.size t (n * 3) (fun _ => .int .i64 0) :=
  ⟨_, heap_alloc_new w _, size_madeCells _ _, fun i hi => by
    have e : (Value.agg #[.int .i64 0, .int .i64 0, .int .i64 0]).cells = #[.int .i64 0, .int .i64 0, .int .i64 0] := rfl
    rw [e]
    have h3 : i % 3 = 0 ∨ i % 3 = 1 ∨ i % 3 = 2 := by omega
    rcases h3 with h | h | h <;> simp [madeCells, hi, h]⟩


set_option maxHeartbeats 400000 in
theorem toSillS_any (A : Option Addr) (n c : Nat) (x y z : Nat → Int) (w : World) (hx : Triples w A n x y z) (hn : n ≤ 1048576) :
    Calls Try.prog 35 #[.slice A n c] w fun e w' => e = .returned (.slice (some ⟨w.heap.size, 0, none⟩) n n) ∧ w'.rowIs w.heap.size 57 (n * 3) (triF x y z) ∧ Below w.heap.size w w' := by
  have hmk := run_make_wide (P := Try.prog) 28 57 _ 3 24 Try.underlying28 info57 .i64 .i64 n (by omega) (by omega)
  go_enter Try.func35, Try.ntmps35
  go_wp2
  clear hmk
  go_loopw [4] (fun i wr => ∃ k : Nat, k ≤ n ∧ i = .int .i64 k ∧ wr.rowIs w.heap.size 57 (n * 3) (fun i => if i < k * 3 then triF x y z i else .int .i64 0) ∧ Below w.heap.size w wr) (fun i _ => n - (intOf i).toNat)
  case atStart => exact ⟨0, by omega, rfl, (made_triples w n _).congr (fun j _ => by simp), below_alloc1 _ _⟩
  case round =>
    obtain ⟨k, hk, rfl, hrow, hbel⟩ := hrel
    by_cases hlt : k < n
    · obtain ⟨b, o, rfl, a1, a2, a3⟩ := (hx.below hbel).at_ hlt
      have hltz : (k : Int) < (n : Int) := by omega
      go_wp2_with fail
      refine (toSill_any _ _ _ _).mono ?_
      rintro e w1 ⟨rfl, hb⟩
      have hrow1 := row_below hb hrow
      have hbel1 := Below.then_ hbel hb
      have u1 := hrow1.cell (show k * 3 < n * 3 by omega)
      have u2 := hrow1.cell (show k * 3 + 1 < n * 3 by omega)
      have u3 := hrow1.cell (show k * 3 + 2 < n * 3 by omega)
      have z1 := hrow1.frozen (k * 3)
      have z2 := hrow1.frozen (k * 3 + 1)
      have z3 := hrow1.frozen (k * 3 + 2)
      clear hrow hbel hb a1 a2 a3 hx
      go_wp2
      go_roundw
      case rel => exact ⟨k + 1, by omega, by go_num, (((hrow1.set _ _).set _ _).set _ _).congr (fun i hi => by
        by_cases e2 : i = k * 3 + 2
        · subst e2; rw [if_pos rfl, if_pos (by omega), triF_2]
        · rw [if_neg e2]
          by_cases e1 : i = k * 3 + 1
          · subst e1; rw [if_pos rfl, if_pos (by omega), triF_1]
          · rw [if_neg e1]
            by_cases e0 : i = k * 3
            · subst e0; rw [if_pos rfl, if_pos (by omega), triF_0]
            · rw [if_neg e0]
              by_cases e : i < k * 3
              · rw [if_pos e, if_pos (by omega)]
              · rw [if_neg e, if_neg (by omega)]), ((hbel1.setCell (Nat.le_refl _) _).setCell (Nat.le_refl _) _).setCell (Nat.le_refl _) _⟩
      case measure => simp [intOf] <;> omega
    · have : k = n := by omega
      subst this
      go_wp2
      go_ret
      exact ⟨rfl, hrow.congr (fun j hj => by rw [if_pos hj]), hbel⟩


/-- It returns a copy of the cave. -/
def ToCave (D : CaveD) (w : World) (e : Ending) (w' : World) : Prop :=
  ∃ F G S, e = .returned (.agg #[.slice F D.n D.n, .slice G D.q D.q, .slice S D.m D.m]) ∧ CaveAt w' F G S D ∧ Below w.heap.size w w'

set_option maxHeartbeats 1600000 in
theorem toCave_any (F G S : Option Addr) (D : CaveD) (c d e : Nat) (w : World) (hx : CaveAt w F G S D) (hs : CaveSmall D) :
    Calls Try.prog 11 #[.agg #[.slice F D.n c, .slice G D.q d, .slice S D.m e]] w (ToCave D w) := by
  have hW : ∀ o1 o2 o3, Below w.heap.size w (((w.alloc o1).alloc o2).alloc o3) := fun o1 o2 o3 => below_alloc (below_alloc (below_alloc1 w o1) o2) o3
  have HW := hid hW
  clear hW
  go_enter Try.func11, Try.ntmps11
  go_wp2_with fail
  refine (toIntS_any F D.n c _ _ (hx.below (HW.out _ _ _)).flo hs.1).mono ?_
  rintro ex w1 ⟨rfl, hrow, hb⟩
  have b1 := (((Blk.new _ _ _).alloc _).alloc _).below hb
  have b2 := ((Blk.new _ _ _).alloc _).below hb
  have b3 := (Blk.new _ _ _).below hb
  have hw1 := Below.then_ (HW.out _ _ _) hb
  have hg : w.heap.size + 3 < w1.heap.size := by have := hrow.lt; simp at this; omega
  simp only [World.size_alloc] at b1 b2 b3 hrow
  have p1 := b1.cell (i := 1) rfl
  have f0 := b3.cell (i := 0) rfl
  have f1 := b3.cell (i := 1) rfl
  have f2 := b3.cell (i := 2) rfl
  have z0 := b3.frozen 0
  go_wp2_with fail
  have hrow2 := hrow.setOther (a := ⟨w.heap.size + 1 + 1, 0, none⟩) (by simp) (.slice (some ⟨w.heap.size + 1 + 1 + 1, 0, none⟩) D.n D.n)
  have hw2 := hw1.setCell (p := ⟨w.heap.size + 1 + 1, 0, none⟩) (by simp <;> omega) (.slice (some ⟨w.heap.size + 1 + 1 + 1, 0, none⟩) D.n D.n)
  have b1' := b1.far (p := ⟨w.heap.size + 1 + 1, 0, none⟩) (by simp <;> omega) (.slice (some ⟨w.heap.size + 1 + 1 + 1, 0, none⟩) D.n D.n)
  have b2' := b2.far (p := ⟨w.heap.size + 1 + 1, 0, none⟩) (by simp) (.slice (some ⟨w.heap.size + 1 + 1 + 1, 0, none⟩) D.n D.n)
  have b3' := b3.set_ 0 (.slice (some ⟨w.heap.size + 1 + 1 + 1, 0, none⟩) D.n D.n)
  refine (toIntS_any G D.q d _ _ (hx.below hw2).are hs.2.1).mono ?_
  rintro ex w2 ⟨rfl, hrowb, hb2⟩
  have hrow3 := row_below hb2 hrow2
  have hw3 := Below.then_ hw2 hb2
  have c1 := b1'.below hb2
  have c2 := b2'.below hb2
  have c3 := b3'.below hb2
  have hg2 : w1.heap.size < w2.heap.size := by have := hrowb.lt; simpa using this
  simp only [World.size_setCell] at hrowb
  clear b1 b2 b3 b1' b2' b3' p1 f0 f1 f2 z0 hb hb2 hrow2 hrow
  have p2 := c1.cell (i := 2) rfl
  have z1 := c3.frozen 1
  have f1 := c3.cell (i := 1) rfl
  go_wp2_with fail
  have hrow4 := hrow3.setOther (a := ⟨w.heap.size + 1 + 1, 1, none⟩) (by simp) (.slice (some ⟨w1.heap.size, 0, none⟩) D.q D.q)
  have hrowb2 := hrowb.setOther (a := ⟨w.heap.size + 1 + 1, 1, none⟩) (by simp <;> omega) (.slice (some ⟨w1.heap.size, 0, none⟩) D.q D.q)
  have hw4 := hw3.setCell (p := ⟨w.heap.size + 1 + 1, 1, none⟩) (by simp <;> omega) (.slice (some ⟨w1.heap.size, 0, none⟩) D.q D.q)
  have d2 := c2.far (p := ⟨w.heap.size + 1 + 1, 1, none⟩) (by simp) (.slice (some ⟨w1.heap.size, 0, none⟩) D.q D.q)
  have d3 := c3.set_ 1 (.slice (some ⟨w1.heap.size, 0, none⟩) D.q D.q)
  refine (toSillS_any S D.m e _ _ _ _ (hx.below hw4).sil hs.2.2).mono ?_
  rintro ex w3 ⟨rfl, hrowc, hb3⟩
  have hrow5 := row_below hb3 hrow4
  have hrowb3 := row_below hb3 hrowb2
  have hw5 := Below.then_ hw4 hb3
  have e2 := d2.below hb3
  have e3 := d3.below hb3
  have hg3 : w2.heap.size < w3.heap.size := by have := hrowc.lt; simpa using this
  simp only [World.size_setCell] at hrowc
  clear c1 c2 c3 d2 d3 p2 z1 f1 hb3 hrow4 hrow3 hrowb2 hrowb
  have q0 := e3.cell (i := 0) rfl
  have q1 := e3.cell (i := 1) rfl
  have q2 := e3.cell (i := 2) rfl
  have y0 := e2.cell (i := 0) rfl
  have y1 := e2.cell (i := 1) rfl
  have y2 := e2.cell (i := 2) rfl
  have t2 := e3.frozen 2
  have r0 := e2.frozen 0
  have r1 := e2.frozen 1
  have r2 := e2.frozen 2
  go_wp2
  refine bodyPost_ret (v := .agg #[.slice (some ⟨w.heap.size + 1 + 1 + 1, 0, none⟩) D.n D.n, .slice (some ⟨w1.heap.size, 0, none⟩) D.q D.q, .slice (some ⟨w2.heap.size, 0, none⟩) D.m D.m]) (by simp [results, Try.results11, go_sem, y0, y1, y2]) rfl ⟨_, _, _, rfl, ⟨Rd.of_row (t := 3) ?_, Rd.of_row (t := 3) ?_, triples_of (t := 57) ?_⟩, ?_⟩
  · exact (((hrow5.setOther (by simp <;> omega) _).setOther (by simp <;> omega) _).setOther (by simp <;> omega) _).setOther (by simp <;> omega) _
  · exact (((hrowb3.setOther (by simp <;> omega) _).setOther (by simp <;> omega) _).setOther (by simp <;> omega) _).setOther (by simp <;> omega) _
  · exact (((hrowc.setOther (by simp <;> omega) _).setOther (by simp <;> omega) _).setOther (by simp <;> omega) _).setOther (by simp <;> omega) _
  · exact (((hw5.setCell (by simp <;> omega) _).setCell (by simp <;> omega) _).setCell (by simp <;> omega) _).setCell (by simp <;> omega) _
end Go.Proofs.Ytahbfifnpceoeaa
