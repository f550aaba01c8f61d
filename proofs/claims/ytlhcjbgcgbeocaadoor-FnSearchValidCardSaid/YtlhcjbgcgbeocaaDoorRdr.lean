/- The reader of a code: what it picks lies within its bounds; only its own block turns. Codes are at most 2000 bytes of what came in. -/
import Derived.Test.YtlhcjbgcgbeocaaDoorApp
import Derived.BigRegion
namespace Go.Proofs.YtlhcjbgcgbeocaaDoor
open Go.RowKit

abbrev Bytes (w : World) (A : Option Addr) (n : Nat) (y : Nat → Int) : Prop := Rd w A n (fun j => .int .u8 (y j))
/-- Block g is a reader that has picked p times. -/
structure Rdr (w : World) (g p : Nat) : Prop where
  ex : ∃ (A : Option Addr) (n c : Nat) (y : Nat → Int), Blk w g 77 #[.slice A n c, .int .i64 p] ∧ Bytes w A n y ∧ (∀ j, 0 ≤ y j ∧ y j < 256) ∧ n ≤ 2000 ∧ (0 < n → ∀ b o, A = some ⟨b, o, none⟩ → b < g)
theorem Rdr.lt {w : World} {g p : Nat} (h : Rdr w g p) : g < w.heap.size := by
  obtain ⟨A, n, c, y, h1, _⟩ := h.ex
  exact h1.lt
theorem Rdr.below {w w' : World} {g p : Nat} (h : Rdr w g p) (hb : Below w.heap.size w w') : Rdr w' g p := by
  obtain ⟨A, n, c, y, h1, h2, h3⟩ := h.ex
  exact ⟨A, n, c, y, h1.below hb, h2.below hb, h3⟩
/-- What lies up to the reader is as it was. -/
theorem Rdr.low {w w' : World} {g p : Nat} (h : Rdr w g p) (hb : ∀ k, k ≤ g → w'.heap[k]? = w.heap[k]?) : Rdr w' g p := by
  obtain ⟨A, n, c, y, h1, h2, h3, h4, h5⟩ := h.ex
  refine ⟨A, n, c, y, (hb g (Nat.le_refl _)).trans h1, fun h0 => ?_, h3, h4, h5⟩
  obtain ⟨b, o, e, hc⟩ := h2 h0
  have := h5 h0 b o e
  exact ⟨b, o, e, fun j hj => (World.cell?_of_block (w := w) (w' := w') (a := ⟨b, o + j, none⟩) (hb b (by omega))).trans (hc j hj)⟩
theorem Rdr.kept {w w' : World} {g p lo hi : Nat} (h : Rdr w g p) (hb : Kept lo hi w w') (hlo : w.heap.size ≤ lo) : Rdr w' g p :=
  h.below ⟨hb.os, hb.tape, hb.output, hb.size, fun k hk => hb.block k hk (.inl (by omega))⟩
theorem Kept.below' {lo hi : Nat} {a b : World} (h : Kept lo hi a b) (hlo : a.heap.size ≤ lo) : Below a.heap.size a b := ⟨h.os, h.tape, h.output, h.size, fun k hk => h.block k hk (.inl (by omega))⟩
theorem below_kept {a b : World} (h : Below a.heap.size a b) (lo hi : Nat) : Kept lo hi a b := ⟨h.os, h.tape, h.output, h.size, fun k hk _ => h.block k hk⟩

theorem tmod_cast (p n : Nat) : (p : Int).tmod (n : Int) = ((p % n : Nat) : Int) := by
  rw [Int.tmod_eq_emod_of_nonneg (Int.natCast_nonneg _), Int.natCast_emod]
theorem tdiv_cast (p n : Nat) : (p : Int).tdiv (n : Int) = ((p / n : Nat) : Int) := by
  rw [Int.tdiv_eq_ediv_of_nonneg (Int.natCast_nonneg _), Int.natCast_ediv]
theorem wrapI62 (n : Int) (h₀ : 0 ≤ n) (h₁ : n < 2 ^ 62) : IntKind.i64.wrap n = n := by rw [IntKind.wrap_i64]; omega
theorem xor_nat (a b : Nat) (ha : a < 2 ^ 62) (hb : b < 2 ^ 62) : bits .xor .i64 (a : Int) (b : Int) = ((a ^^^ b : Nat) : Int) := by
  have hp : 2 ^ 62 ≤ 2 ^ IntKind.i64.bits := Nat.pow_le_pow_right (by decide) (by decide)
  have ha' : a % 2 ^ IntKind.i64.bits = a := Nat.mod_eq_of_lt (Nat.lt_of_lt_of_le ha hp)
  have hb' : b % 2 ^ IntKind.i64.bits = b := Nat.mod_eq_of_lt (Nat.lt_of_lt_of_le hb hp)
  simp only [bits, BitVec.ofInt_natCast, BitVec.toNat_xor, BitVec.toNat_ofNat, ha', hb']
  have hx := Nat.xor_lt_two_pow ha hb
  exact wrapI62 _ (Int.natCast_nonneg _) (by exact_mod_cast hx)
theorem xor_nonneg {a b : Int} (ha : 0 ≤ a) (ha2 : a < 2 ^ 62) (hb : 0 ≤ b) (hb2 : b < 2 ^ 62) : 0 ≤ bits .xor .i64 a b ∧ bits .xor .i64 a b < 2 ^ 62 := by
  obtain ⟨x, rfl⟩ := Int.eq_ofNat_of_zero_le ha
  obtain ⟨y, rfl⟩ := Int.eq_ofNat_of_zero_le hb
  have hx := Nat.xor_lt_two_pow (show x < 2 ^ 62 by omega) (show y < 2 ^ 62 by omega)
  rw [xor_nat x y (by omega) (by omega)]
  omega

/-- It picked a number. -/
def Pick (g p : Nat) (m : Int) (w : World) (e : Ending) (w' : World) : Prop := ∃ v : Int, e = .returned (.int .i64 v) ∧ 0 ≤ v ∧ (v = 0 ∨ v < m) ∧ Rdr w' g (p + 1) ∧ Kept g (g + 1) w w'

set_option maxRecDepth 20000 in
set_option maxHeartbeats 4000000 in
theorem pick_any (g p : Nat) (m : Int) (w : World) (h : Rdr w g p) (hp : p ≤ 1000000) (hm : m ≤ 1000000) :
    Calls Tryd.prog 62 #[.pointer (some ⟨g, 0, none⟩), .int .i64 m] w (Pick g p m w) := by
  obtain ⟨A, n, c, y, hB, hy, hy2, hn, hA⟩ := h.ex
  have x0 := hB.cell (i := 0) rfl
  have x1 := hB.cell (i := 1) rfl
  have x2 := hB.frozen 1
  have hB1 := hB.set_ 1 (.int .i64 ((p : Int) + 1))
  have y0 := hB1.cell (i := 0) rfl
  have y1 := hB1.cell (i := 1) rfl
  have hp1 : ((p + 1 : Nat) : Int) = (p : Int) + 1 := by omega
  have HY : Hid (Bytes (w.setCell ⟨g, 1, none⟩ (.int .i64 ((p : Int) + 1))) A n y) := fun h0 => by
    obtain ⟨b, o, e, hc⟩ := hy h0
    have hne : b ≠ g := by have := hA h0 b o e; omega
    exact ⟨b, o, e, fun j hj => (World.cell?_of_block (w := w) (w' := w.setCell ⟨g, 1, none⟩ (.int .i64 ((p : Int) + 1))) (a := ⟨b, o + j, none⟩) (Below.heap_setCell w ⟨g, 1, none⟩ _ b hne)).trans (hc j hj)⟩
  have HR : Hid (Rdr (w.setCell ⟨g, 1, none⟩ (.int .i64 ((p : Int) + 1))) g (p + 1)) := ⟨A, n, c, y, by rw [hp1]; exact hB1, HY.out, hy2, hn, hA⟩
  have HK : Hid (Kept g (g + 1) w (w.setCell ⟨g, 1, none⟩ (.int .i64 ((p : Int) + 1)))) := (Kept.refl g (g + 1) w).setCell (p := ⟨g, 1, none⟩) (Nat.le_refl _) (by show g < g + 1; omega) _
  clear hB hB1 hp1 hy
  by_cases hm1 : m < 1
  · go_enter Tryd.func62, Tryd.ntmps62
    go_wp2
    go_ret
    exact ⟨0, rfl, by omega, .inl rfl, HR.out, HK.out⟩
  · by_cases hn0 : n = 0
    · have hn0z : ((n : Int) == 0) = true := by simp [hn0]
      clear hn0
      go_enter Tryd.func62, Tryd.ntmps62
      go_wp2
      go_ret
      exact ⟨0, rfl, by omega, .inl rfl, HR.out, HK.out⟩
    · have hn0z : ((n : Int) == 0) = false := by simp; omega
      obtain ⟨b, o, rfl, hc⟩ := HY.out (by omega)
      by_cases hlt : p < n
      · have hltz : (p : Int) < (n : Int) := by omega
        have c1 := hc p hlt
        have hyp := hy2 p
        dsimp only at c1
        generalize y p = yp at c1 hyp
        clear hc hy2
        go_enter Tryd.func62, Tryd.ntmps62
        go_wp2
        go_ret
        have h1 := Int.emod_nonneg yp (show m ≠ 0 by omega)
        have h2 := Int.emod_lt_of_pos yp (show 0 < m by omega)
        exact ⟨_, rfl, h1, .inr h2, HR.out, HK.out⟩
      · have hltz : ¬ (p : Int) < (n : Int) := by omega
        have hnz : (n : Int) ≠ 0 := by omega
        have e1 : (p : Int) % (n : Int) = ((p % n : Nat) : Int) := (Int.natCast_emod p n).symm
        have e2 : ((p : Int) * 7 + 3) % (n : Int) = (((p * 7 + 3) % n : Nat) : Int) := by rw [Int.natCast_emod]; congr 1
        have e3 : (p : Int) / (n : Int) = ((p / n : Nat) : Int) := (Int.natCast_ediv p n).symm
        have l1 : p % n < n := Nat.mod_lt _ (by omega)
        have l2 : (p * 7 + 3) % n < n := Nat.mod_lt _ (by omega)
        have l3 : p / n ≤ p := Nat.div_le_self _ _
        have c1 := hc _ l1
        have c2 := hc _ l2
        have hy3 := hy2 (p % n)
        have hy4 := hy2 ((p * 7 + 3) % n)
        dsimp only at c1 c2
        generalize y (p % n) = ya at c1 hy3
        generalize y ((p * 7 + 3) % n) = yb at c2 hy4
        generalize p % n = pa at e1 l1 c1
        generalize (p * 7 + 3) % n = pb at e2 l2 c2
        generalize p / n = pd at e3 l3
        have l1z : (pa : Int) < (n : Int) := by omega
        have l2z : (pb : Int) < (n : Int) := by omega
        have l3z : (pd : Int) ≤ 1000000 := by omega
        have hpz : (p : Int) ≤ 1000000 := by omega
        have s1 := sub_cell c1
        have s2 := sub_cell c2
        have s3 := sub_cell y0
        have s4 := sub_cell y1
        clear hc hy2
        go_enter Tryd.func62, Tryd.ntmps62
        go_wp2
        refine wp_region_sub (by kernel_rfl) (by kernel_rfl) ?_
        repeat (go_big_quiet_step ((fail)))
        refine wpQuiet_nil ?_
        intro _ hw'
        obtain ⟨s, hw''⟩ := hw'
        subst hw''
        go_wp2
        go_ret
        have hx := xor_nonneg (a := ya * 131 + yb * 1117 + (p : Int) * 29 + (pd : Int) * 53) (b := (ya * 131 + yb * 1117 + (p : Int) * 29 + (pd : Int) * 53) / 64) (by omega) (by omega) (by omega) (by omega)
        have h1 := Int.tmod_nonneg m hx.1
        have h2 := Int.tmod_lt_of_pos (bits .xor .i64 (ya * 131 + yb * 1117 + (p : Int) * 29 + (pd : Int) * 53) ((ya * 131 + yb * 1117 + (p : Int) * 29 + (pd : Int) * 53) / 64)) (show 0 < m by omega)
        exact ⟨_, rfl, h1, .inr h2, HR.out.below s.h, HK.out.trans (below_kept s.h _ _)⟩

/-- It told a truth, and picked once. -/
def Odd (g p : Nat) (w : World) (e : Ending) (w' : World) : Prop := ∃ b : Bool, e = .returned (.bool b) ∧ Rdr w' g (p + 1) ∧ Kept g (g + 1) w w'
theorem odd_any (g p : Nat) (m : Int) (w : World) (h : Rdr w g p) (hp : p ≤ 1000000) (hm0 : 0 < m) (hm : m ≤ 1000000) :
    Calls Tryd.prog 63 #[.pointer (some ⟨g, 0, none⟩), .int .i64 m] w (Odd g p w) := by
  go_enter Tryd.func63, Tryd.ntmps63
  go_wp2_with (go_at_call 62; refine (pick_any g p m w h hp hm).mono ?_)
  rintro e w1 ⟨v, rfl, hv0, hv, hr, hk⟩
  have HV := hid hv
  clear hv
  go_wp2
  go_ret
  exact ⟨_, rfl, hr, hk⟩

theorem l20Open_any (A : Option Addr) (n c : Nat) (y : Nat → Int) (w : World) (hx : Bytes w A n y) (hy : ∀ j, 0 ≤ y j ∧ y j < 256) (hn : n ≤ c) :
    Calls Tryd.prog 47 #[.slice A n c] w fun e w' => e = .returned (.pointer (some ⟨w.heap.size, 0, none⟩)) ∧ Rdr w' w.heap.size 0 ∧ Below w.heap.size w w' := by
  have hA : ∀ b o, A = some ⟨b, o, none⟩ → 0 < n → b < w.heap.size := fun b o e h0 => by
    obtain ⟨b', o', e', hc⟩ := hx h0
    rw [e] at e'
    simp at e'
    rw [e'.1]
    exact World.block_lt_of_cell? _ _ (hc 0 h0)
  have HA := hid hA
  by_cases hbig : (2000 : Int) < (n : Int)
  · obtain ⟨b, o, rfl, hc⟩ := hx (by omega)
    have hcz : (2000 : Int) ≤ (c : Int) := by omega
    have hb := HA.out b o rfl (by omega)
    have HC := hid hc
    clear hc hx hA
    go_enter Tryd.func47, Tryd.ntmps47
    go_wp2
    go_ret
    refine ⟨rfl, ⟨some ⟨b, o, none⟩, 2000, c, y, Blk.new _ _ _, fun _ => ⟨b, o, rfl, fun j hj => cell_below (((Below.refl _ _).alloc (Nat.le_refl _) _)) (HC.out j (by omega))⟩, hy, by omega, fun _ b' o' e => ?_⟩, ((Below.refl _ _).alloc (Nat.le_refl _) _)⟩
    simp at e
    omega
  · have HX := hid hx
    clear hx hA
    go_enter Tryd.func47, Tryd.ntmps47
    go_wp2
    go_ret
    exact ⟨rfl, ⟨A, n, c, y, Blk.new _ _ _, HX.out.alloc _, hy, by omega, fun h0 b' o' e => HA.out b' o' e h0⟩, ((Below.refl _ _).alloc (Nat.le_refl _) _)⟩
end Go.Proofs.YtlhcjbgcgbeocaaDoor
