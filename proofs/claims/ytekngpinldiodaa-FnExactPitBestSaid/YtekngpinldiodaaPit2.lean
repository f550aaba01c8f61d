/- Copies of pits: each lies in new blocks of its own; comparing pits tells whether they are the same data. Lists are at most 2^20 long. -/
import Derived.Test.YtekngpinldiodaaPit1
namespace Go.Proofs.Ytekngpinldiodaa
open Go.RowKit

theorem info48 : (Try.prog.info? 48).map (fun i => (i.zero, i.size, i.bytes)) = some (some (.agg #[.int .i64 0, .slice none 0 0]), 2, 32) := by kernel_rfl

/-- What the cells of a slice of blocks hold: the worth, the slice of what is needed. -/
def blkF (p : Nat → Int) (G l : Nat → Nat) (i : Nat) : Value := if i % 2 = 0 then .int .i64 (p (i / 2)) else .slice (some ⟨G (i / 2), 0, none⟩) (l (i / 2)) (l (i / 2))
theorem blkF_0 (p : Nat → Int) (G l : Nat → Nat) (k : Nat) : blkF p G l (k * 2) = .int .i64 (p k) := by
  unfold blkF
  rw [if_pos (by omega), show k * 2 / 2 = k by omega]
theorem blkF_1 (p : Nat → Int) (G l : Nat → Nat) (k : Nat) : blkF p G l (k * 2 + 1) = .slice (some ⟨G k, 0, none⟩) (l k) (l k) := by
  unfold blkF
  rw [if_neg (by omega), show (k * 2 + 1) / 2 = k by omega]

/-- A pit in new blocks: the outer one is g, what block j needs lies in G j. -/
structure PitOwn (w : World) (g : Nat) (G : Nat → Nat) (D : PitD) : Prop where
  outer : w.rowIs g 48 (D.n * 2) (blkF D.p G D.l)
  inner : ∀ j, j < D.n → w.rowIs (G j) 3 (D.l j) (fun i => .int .i64 (D.x j i))
  above : ∀ j, j < D.n → g < G j
  mono : ∀ i j, i < j → j < D.n → G i < G j

theorem PitOwn.at_ {w : World} {g : Nat} {G : Nat → Nat} {D : PitD} (h : PitOwn w g G D) : PitAt w (some ⟨g, 0, none⟩) D := fun _ => by
  refine ⟨g, 0, rfl, fun j hj => ⟨?_, some ⟨G j, 0, none⟩, D.l j, ?_, Rd.of_row (h.inner j hj)⟩⟩
  · rw [Nat.zero_add, h.outer.cell (by omega), blkF_0]
  · rw [Nat.zero_add, h.outer.cell (by omega), blkF_1]

theorem PitOwn.below {w w' : World} {g : Nat} {G : Nat → Nat} {D : PitD} (h : PitOwn w g G D) (hb : Below w.heap.size w w') : PitOwn w' g G D :=
  ⟨row_below hb h.outer, fun j hj => row_below hb (h.inner j hj), h.above, h.mono⟩

theorem eqBlock_any (p q : Int) (A B : Option Addr) (n c m d : Nat) (x y : Nat → Int) (w : World) (hx : Ints w A n x) (hy : Ints w B m y) (hn : n ≤ 1048576) :
    Calls Try.prog 52 #[.agg #[.int .i64 p, .slice A n c], .agg #[.int .i64 q, .slice B m d]] w (RetB (p = q ∧ n = m ∧ ∀ j, j < n → x j = y j) w) := by
  by_cases hpq : p = q
  · subst hpq
    refine RetB.iff (p := n = m ∧ ∀ j, j < n → x j = y j) ?_ (by simp)
    have hall : ∀ (o o' : Obj) w', Below ((w.alloc o).alloc o').heap.size ((w.alloc o).alloc o') w' → Below w.heap.size w w' := fun o o' w' hb => (((Below.refl _ _).alloc (Nat.le_refl _) _).alloc (by simp) _).trans (hb.mono (by simp; omega))
    by_cases he : n = m ∧ ∀ j, j < n → x j = y j
    · have HE := hid he
      have HL := hid hall
      clear he hall
      go_enter Try.func52, Try.ntmps52
      go_wp2_with (go_at_call 35; refine (RetB.yes (eqIntS_any A B n c m d x y _ ((hx.alloc _).alloc _) ((hy.alloc _).alloc _) hn) HE.out).mono ?_; rintro e w' ⟨rfl, hbel⟩)
      go_ret
      exact .mk_t HE.out (HL.out _ _ _ hbel) rfl
    · have HE := hid he
      have HL := hid hall
      clear he hall
      go_enter Try.func52, Try.ntmps52
      go_wp2_with (go_at_call 35; refine (RetB.no (eqIntS_any A B n c m d x y _ ((hx.alloc _).alloc _) ((hy.alloc _).alloc _) hn) HE.out).mono ?_; rintro e w' ⟨rfl, hbel⟩)
      go_ret
      exact .mk_f HE.out (HL.out _ _ _ hbel) rfl
  · have hne : (p != q) = true := by simp [hpq]
    go_enter Try.func52, Try.ntmps52
    go_wp2
    go_ret
    exact .mk_f (fun h => hpq h.1) (((Below.refl _ _).alloc (Nat.le_refl _) _).alloc (by simp) _) rfl

/-- Two pits are the same data. -/
def PitSame (D E : PitD) : Prop := D.n = E.n ∧ ∀ j, j < D.n → D.p j = E.p j ∧ D.l j = E.l j ∧ ∀ i, i < D.l j → D.x j i = E.x j i
theorem PitSame.refl (D : PitD) : PitSame D D := ⟨rfl, fun _ _ => ⟨rfl, rfl, fun _ _ => rfl⟩⟩

set_option maxHeartbeats 400000 in
theorem eqBlockS_any (A B : Option Addr) (D E : PitD) (c d : Nat) (w : World) (hx : PitAt w A D) (hy : PitAt w B E) (hs : PitSmall D) :
    Calls Try.prog 18 #[.slice A D.n c, .slice B E.n d] w (RetB (PitSame D E) w) := by
  obtain ⟨hn, hl⟩ := hs
  by_cases hnm : D.n = E.n
  · have HN := hid hnm
    rw [← hnm]
    clear hnm
    have HL := hid hl
    clear hl
    go_enter Try.func18, Try.ntmps18
    go_wp2
    go_loopw [5] (fun i wr => ∃ k : Nat, k ≤ D.n ∧ i = .int .i64 k ∧ (∀ j, j < k → D.p j = E.p j ∧ D.l j = E.l j ∧ ∀ i, i < D.l j → D.x j i = E.x j i) ∧ Below w.heap.size w wr) (fun i _ => D.n - (intOf i).toNat)
    case atStart => exact ⟨0, by omega, rfl, fun j hj => absurd hj (by omega), Below.refl _ _⟩
    case round =>
      obtain ⟨k, hk, rfl, hall, hbel⟩ := hrel
      have HA := hid hall
      clear hall
      by_cases hlt : k < D.n
      · obtain ⟨b, o, C, cc, rfl, a1, a2, a3⟩ := (hx.below hbel).at_ hlt
        obtain ⟨b', o', C', cc', rfl, e1, e2, e3⟩ := (hy.below hbel).at_ (k := k) (by rw [← HN.out]; exact hlt)
        have hltz : (k : Int) < (D.n : Int) := by omega
        have s1 := sub_cell a1
        have s2 := sub_cell a2
        have s3 := sub_cell e1
        have s4 := sub_cell e2
        clear a1 a2 e1 e2 hx hy
        go_wp2
        refine wp_region_sub (by kernel_rfl) (by kernel_rfl) ?_
        by_cases he : D.p k = E.p k ∧ D.l k = E.l k ∧ ∀ i, i < D.l k → D.x k i = E.x k i
        · have HE := hid he
          clear he
          repeat (go_big_quiet_step ((go_at_call 52; exact RetV.sub (RetB.yes (eqBlock_any _ _ C C' _ cc _ cc' (D.x k) (E.x k) _ (a3.below (Sub.h _)) (e3.below (Sub.h _)) (HL.out k hlt)) HE.out))))
          refine wpQuiet_nil ?_
          intro _ hw'
          obtain ⟨s, hw''⟩ := hw'
          subst hw''
          go_wp2
          go_roundw
          case rel => exact ⟨k + 1, by omega, by go_num, fun j hj => by
            by_cases e : j = k
            · subst e; exact HE.out
            · exact HA.out j (by omega), Below.then_ hbel s.h⟩
          case measure => simp [intOf]; omega
        · have HE := hid he
          clear he
          repeat (go_big_quiet_step ((go_at_call 52; exact RetV.sub (RetB.no (eqBlock_any _ _ C C' _ cc _ cc' (D.x k) (E.x k) _ (a3.below (Sub.h _)) (e3.below (Sub.h _)) (HL.out k hlt)) HE.out))))
          refine wpQuiet_nil ?_
          intro _ hw'
          obtain ⟨s, hw''⟩ := hw'
          subst hw''
          go_wp2
          go_ret
          exact .mk_f (fun h => HE.out (h.2 k hlt)) (Below.then_ hbel s.h) rfl
      · have : k = D.n := by omega
        subst this
        go_wp2
        go_ret
        exact .mk_t ⟨HN.out, HA.out⟩ hbel rfl
  · have hne : ((D.n : Int) != (E.n : Int)) = true := int_bne hnm
    clear hl
    go_enter Try.func18, Try.ntmps18
    go_wp2
    go_ret
    exact .mk_f (fun h => hnm h.1) (Below.refl _ _) rfl

/-- It returns a block whose list lies in a new row. -/
def ToBlk (p : Int) (n : Nat) (x : Nat → Int) (w : World) (e : Ending) (w' : World) : Prop :=
  ∃ h, e = .returned (.agg #[.int .i64 p, .slice (some ⟨h, 0, none⟩) n n]) ∧ w.heap.size ≤ h ∧ w'.rowIs h 3 n (fun i => .int .i64 (x i)) ∧ Below w.heap.size w w'

theorem toBlock_any (p : Int) (A : Option Addr) (n c : Nat) (x : Nat → Int) (w : World) (hx : Ints w A n x) (hn : n ≤ 1048576) :
    Calls Try.prog 49 #[.agg #[.int .i64 p, .slice A n c]] w (ToBlk p n x w) := by
  go_enter Try.func49, Try.ntmps49
  go_wp2_with fail
  refine (toIntS_any A n c x _ (((hx.alloc _).alloc _).alloc _) hn).mono ?_
  rintro e w1 ⟨rfl, hrow, hb⟩
  have b3 := (Blk.new _ _ _).below hb
  have b2 := ((Blk.new _ _ _).alloc _).below hb
  have hall : Below w.heap.size w w1 := ((((Below.refl _ _).alloc (Nat.le_refl _) _).alloc (by simp) _).alloc (by simp; omega) _).trans (hb.mono (by simp; omega))
  simp only [World.size_alloc] at b2 b3 hrow
  have f1 := b3.cell (i := 0) rfl
  have f2 := b3.cell (i := 1) rfl
  have f3 := b2.cell (i := 0) rfl
  have f4 := b2.cell (i := 1) rfl
  have z1 := b3.frozen 0
  have z2 := b3.frozen 1
  have z3 := b2.frozen 0
  have z4 := b2.frozen 1
  clear hb
  go_wp2
  refine bodyPost_ret (v := .agg #[.int .i64 p, .slice (some ⟨w.heap.size + 1 + 1 + 1, 0, none⟩) n n]) (by simp [results, Try.results49, go_sem, f3, f4]) rfl ⟨_, rfl, by omega, ?_, ?_⟩
  · exact ((hrow.setOther (by simp) _).setOther (by simp <;> omega) _).setOther (by simp <;> omega) _
  · exact ((hall.setCell (by simp <;> omega) _).setCell (by simp <;> omega) _).setCell (by simp <;> omega) _

theorem run_make_wide {P : Program} (t e : TypeId) (z : Value) (size bytes : Nat) (ht : P.underlying t = some (.slice e)) (hinfo : (P.info? e).map (fun i => (i.zero, i.size, i.bytes)) = some (some z, size, bytes))
    (kl kc : IntKind) (n : Nat) (hb : bytes * n ≤ 281474976710656) (h63 : n ≤ 9223372036854775807) (w : World) :
    (Instr.makeSlice t (.int kl (n : Int)) (.int kc (n : Int))).run P w = .ok (.slice (some ⟨w.heap.size, 0, none⟩) n n) (w.alloc (.cells (madeCells z.cells (n * size)) e)) := by
  obtain ⟨i, hi, hz, hs, hby⟩ := info_parts hinfo
  have hb' : (i.bytes : Int) * (n : Int) ≤ 281474976710656 := by
    have h : ((i.bytes * n : Nat) : Int) ≤ 281474976710656 := by rw [hby]; omega
    rwa [Int.natCast_mul] at h
  have hr := run_make (P := P) w t e i z ht hi hz kl kc n n (by omega) (Int.le_refl _) hb' (by omega)
  simp only [Int.toNat_natCast, hs] at hr
  exact hr

def zeroF (i : Nat) : Value := if i % 2 = 0 then .int .i64 0 else .slice none 0 0

theorem made_blocks (w : World) (n : Nat) (t : TypeId) : (w.alloc (.cells (madeCells (Value.agg #[.int .i64 0, .slice none 0 0]).cells (n * 2)) t)).rowIs w.heap.size t (n * 2) zeroF :=
  ⟨_, heap_alloc_new w _, size_madeCells _ _, fun i hi => by
    have e : (Value.agg #[.int .i64 0, .slice none 0 0]).cells = #[.int .i64 0, .slice none 0 0] := rfl
    rw [e]
    unfold zeroF
    rcases Nat.mod_two_eq_zero_or_one i with h | h
    · simp [madeCells, hi, h]
    · simp [madeCells, hi, h]⟩

/-- k blocks of the copy are made. -/
def TbRel (w : World) (g : Nat) (D : PitD) (k : Nat) (wr : World) : Prop :=
  ∃ G : Nat → Nat, wr.rowIs g 48 (D.n * 2) (fun i => if i < k * 2 then blkF D.p G D.l i else zeroF i) ∧ (∀ j, j < k → g < G j ∧ wr.rowIs (G j) 3 (D.l j) (fun i => .int .i64 (D.x j i))) ∧
    (∀ i j, i < j → j < k → G i < G j) ∧ Below w.heap.size w wr

theorem TbRel.start (w : World) (D : PitD) : TbRel w w.heap.size D 0 (w.alloc (.cells (madeCells (Value.agg #[.int .i64 0, .slice none 0 0]).cells (D.n * 2)) 48)) :=
  ⟨fun _ => 0, (made_blocks w D.n _).congr (fun j _ => by simp), fun j hj => absurd hj (by omega), fun i j _ hj => absurd hj (by omega), (Below.refl _ _).alloc (Nat.le_refl _) _⟩

theorem TbRel.step {w wr w1 : World} {D : PitD} {k h : Nat} (hr : TbRel w w.heap.size D k wr) (hk : k < D.n) (hh : wr.heap.size ≤ h) (hrow : w1.rowIs h 3 (D.l k) (fun i => .int .i64 (D.x k i))) (hb : Below wr.heap.size wr w1) :
    TbRel w w.heap.size D (k + 1) ((w1.setCell ⟨w.heap.size, k * 2, none⟩ (.int .i64 (D.p k))).setCell ⟨w.heap.size, k * 2 + 1, none⟩ (.slice (some ⟨h, 0, none⟩) (D.l k) (D.l k))) := by
  obtain ⟨G, h1, h2, h3, h4⟩ := hr
  have hlt := h1.lt
  refine ⟨fun j => if j = k then h else G j, (((row_below hb h1).set _ _).set _ _).congr (fun i hi => ?_), fun j hj => ?_, fun i j hij hj => ?_, ((Below.then_ h4 hb).setCell (Nat.le_refl _) _).setCell (Nat.le_refl _) _⟩
  · by_cases e1 : i = k * 2 + 1
    · subst e1
      rw [if_pos rfl, if_pos (by omega)]
      unfold blkF
      rw [if_neg (by omega), show (k * 2 + 1) / 2 = k by omega]
      simp
    · rw [if_neg e1]
      by_cases e2 : i = k * 2
      · subst e2
        rw [if_pos rfl, if_pos (by omega)]
        unfold blkF
        rw [if_pos (by omega), show k * 2 / 2 = k by omega]
      · rw [if_neg e2]
        by_cases e3 : i < k * 2
        · rw [if_pos e3, if_pos (by omega)]
          unfold blkF
          simp only [if_neg (show ¬ i / 2 = k by omega)]
        · rw [if_neg e3, if_neg (by omega)]
  · show w.heap.size < (if j = k then h else G j) ∧ World.rowIs _ (if j = k then h else G j) _ _ _
    by_cases e : j = k
    · subst e
      rw [if_pos rfl]
      exact ⟨by omega, (hrow.setOther (by simp <;> omega) _).setOther (by simp <;> omega) _⟩
    · rw [if_neg e]
      obtain ⟨a, b⟩ := h2 j (by omega)
      exact ⟨a, ((row_below hb b).setOther (by simp <;> omega) _).setOther (by simp <;> omega) _⟩
  · show (if i = k then h else G i) < (if j = k then h else G j)
    rw [if_neg (show ¬ i = k by omega)]
    by_cases e : j = k
    · rw [if_pos e]
      have := (h2 i (by omega)).2.lt
      omega
    · rw [if_neg e]
      exact h3 i j hij (by omega)

theorem TbRel.done {w wr : World} {D : PitD} (hr : TbRel w w.heap.size D D.n wr) : ∃ G, PitOwn wr w.heap.size G D ∧ Below w.heap.size w wr := by
  obtain ⟨G, h1, h2, h3, h4⟩ := hr
  exact ⟨G, ⟨h1.congr (fun i hi => by rw [if_pos hi]), fun j hj => (h2 j hj).2, fun j hj => (h2 j hj).1, h3⟩, h4⟩

theorem TbRel.cells {w wr : World} {D : PitD} {k : Nat} (hr : TbRel w w.heap.size D k wr) (hk : k < D.n) :
    wr.cell? ⟨w.heap.size, k * 2, none⟩ = some (.int .i64 0) ∧ wr.cell? ⟨w.heap.size, k * 2 + 1, none⟩ = some (.slice none 0 0) ∧ (∀ i, wr.frozen? ⟨w.heap.size, i, none⟩ = false) ∧ Below w.heap.size w wr ∧ w.heap.size < wr.heap.size := by
  obtain ⟨G, h1, h2, h3, h4⟩ := hr
  refine ⟨?_, ?_, h1.frozen, h4, h1.lt⟩
  · rw [h1.cell (by omega)]
    unfold zeroF
    rw [if_neg (by omega), if_pos (by omega)]
  · rw [h1.cell (by omega)]
    unfold zeroF
    rw [if_neg (by omega), if_neg (by omega)]

/-- It returns a copy of D in new blocks. -/
def ToPit (D : PitD) (w : World) (e : Ending) (w' : World) : Prop :=
  e = .returned (.slice (some ⟨w.heap.size, 0, none⟩) D.n D.n) ∧ ∃ G, PitOwn w' w.heap.size G D ∧ Below w.heap.size w w'

set_option maxHeartbeats 400000 in
theorem toBlockS_any (A : Option Addr) (D : PitD) (c : Nat) (w : World) (hx : PitAt w A D) (hs : PitSmall D) :
    Calls Try.prog 16 #[.slice A D.n c] w (ToPit D w) := by
  obtain ⟨hn, hl⟩ := hs
  have hmk := run_make_wide (P := Try.prog) 25 48 _ 2 32 Try.underlying25 info48 .i64 .i64 D.n (by omega) (by omega)
  have HL := hid hl
  clear hl
  go_enter Try.func16, Try.ntmps16
  go_wp2
  clear hmk
  go_loopw [4] (fun i wr => ∃ k : Nat, k ≤ D.n ∧ i = .int .i64 k ∧ TbRel w w.heap.size D k wr) (fun i _ => D.n - (intOf i).toNat)
  case atStart => exact ⟨0, by omega, rfl, TbRel.start w D⟩
  case round =>
    obtain ⟨k, hk, rfl, hrel⟩ := hrel
    by_cases hlt : k < D.n
    · obtain ⟨t1, t2, t3, t4, t5⟩ := hrel.cells hlt
      obtain ⟨b, o, C, cc, rfl, a1, a2, a3⟩ := (hx.below t4).at_ hlt
      have hltz : (k : Int) < (D.n : Int) := by omega
      go_wp2_with (go_at_call 49; refine (toBlock_any _ _ _ _ (D.x k) _ a3 (HL.out k hlt)).mono ?_)
      rintro e w1 ⟨h, rfl, hh, hrow, hb⟩
      have u1 := cell_below hb t1
      have u2 := cell_below hb t2
      have u3 : ∀ i, w1.frozen? ⟨w.heap.size, i, none⟩ = false := fun i => (hb.frozen (by show w.heap.size < _; omega)).trans (t3 i)
      have u4 := u3 (k * 2)
      have u5 := u3 (k * 2 + 1)
      have hst := hid (hrel.step hlt hh hrow hb)
      clear hb hrow t1 t2 t3 t4 a1 a2 a3 u3
      go_wp2
      go_roundw
      case rel => exact ⟨k + 1, by omega, by go_num, hst.out⟩
      case measure => simp [intOf]; omega
    · have : k = D.n := by omega
      subst this
      go_wp2
      go_ret
      exact ⟨rfl, hrel.done⟩
end Go.Proofs.Ytekngpinldiodaa
