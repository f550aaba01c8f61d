/- LevelLeft, both. Lists are at most 2^20 long. -/
import Derived.Test.YtahbfifnpceoeaaDoorCave8
namespace Go.Proofs.YtahbfifnpceoeaaDoor
open Go.RowKit

/-- It returns a number of which P holds. -/
def RetI (P : Int → Prop) (w : World) (e : Ending) (w' : World) : Prop := ∃ r : Int, e = .returned (.int .i64 r) ∧ P r ∧ Below w.heap.size w w'
abbrev PumpsOk (D : CaveD) (n : Nat) (y : Nat → Int) : Prop := ∀ j, j < n → 0 ≤ y j ∧ y j < D.n
theorem llG_step {D : CaveD} {L : Int} {ch k m : Nat} {y : Nat → Int} (h : y k = (m : Int)) : llG D L ch y (k + 1) = if 0 ≤ jlF D ch m then min (llG D L ch y k) (jlF D ch m) else llG D L ch y k := by
  rw [llG, h, Int.toNat_natCast]

set_option maxRecDepth 20000 in
set_option maxHeartbeats 1600000 in
theorem LevelLeft_impl (F G S : Option Addr) (D : CaveD) (c d e : Nat) (L : Int) (A : Option Addr) (n cu : Nat) (y : Nat → Int) (ch : Nat) (w : World) (hx : CaveAt w F G S D) (hs : CaveSmall D) (hok : CaveOk D) (h0 : 0 ≤ L) (h40 : L ≤ 40)
    (hi : Ints w A n y) (hn : n ≤ 1048576) (hy : PumpsOk D n y) (hch : ch < D.n) :
    Calls Tryd.prog 39 #[.agg #[.slice F D.n c, .slice G D.q d, .slice S D.m e], .int .i64 L, .slice A n cu, .int .i64 ch] w (RetV (.int .i64 (llF D L y n ch)) w) := by
  have hn6 := hok.1.2
  have hf := (hok.2.2.2.1 ch hch).1
  have hcz : (ch : Int) < (D.n : Int) := by omega
  have HX := hid hx
  have HI := hid hi
  have HY := hid hy
  have HV := hid (fun w' hx' => RetB.yes (CaveValid_impl F G S D c d e w' hx' hs) hok)
  have HP := hid (fun (m : Nat) w' hx' hm => JoinLevel_impl F G S D c d e ch m w' hx' hs hok hch hm)
  have HZ := hid (fun j (h1 : (y j).toNat = ch) (h2 : j < n) => llF_zero hok h0 hch y h1 h2)
  have hg := fun k => llG_bd (D := D) h0 ch y k
  have HG := hid hg
  clear hx hok hy hi hg
  have hB := hid (Blk.new w 26 #[.slice F D.n c, .slice G D.q d, .slice S D.m e])
  have hw1 := hid (below_alloc1 w (.cells #[.slice F D.n c, .slice G D.q d, .slice S D.m e] 26))
  go_enter Tryd.func39, Tryd.ntmps39
  go_wp2_with fail
  refine (HV.out _ (HX.out.below hw1.out)).mono ?_
  rintro ex w1 ⟨rfl, hb1⟩
  have hB1 := hid (hB.out.below hb1)
  have y0 := hB1.out.cell (i := 0) rfl
  have HW1 := hid (Below.then_ hw1.out hb1)
  obtain ⟨bf, off, rfl, hcf⟩ := (HX.out.below HW1.out).flo (by omega)
  have c1 : w1.cell? ⟨bf, off + ch, none⟩ = some (.int .i64 (D.f ch)) := hcf ch hch
  clear hb1 HV hcf
  go_wp2_with (first | (go_at_call 63; (with_reducible refine (RetBS.yes (areIndices_any A n cu y (D.n : Int) _ (HI.out.below HW1.out) hn) HY.out).mono ?_); rintro e w' ⟨rfl, rfl⟩) | (go_at_call 67; (with_reducible refine (isIndex_y (ch : Int) _ _ (by omega) hcz).mono ?_); rintro e w' ⟨rfl, rfl⟩))
  go_loopw [10, 47] (fun v i wr => ∃ k : Nat, k ≤ n ∧ i = .int .i64 k ∧ v = .int .i64 (llG D L ch y k) ∧ Hid (Below w1.heap.size w1 wr)) (fun _ i _ => n - (intOf i).toNat)
  case atStart => exact ⟨0, by omega, rfl, rfl, Below.refl _ _⟩
  case round =>
    clear y0
    obtain ⟨k, hk, rfl, rfl, HB⟩ := hrel
    have hBr := hB1.out.below HB.out
    have y0 := hBr.cell (i := 0) rfl
    have y1 := hBr.cell (i := 1) rfl
    have y2 := hBr.cell (i := 2) rfl
    have hbd := HG.out k
    have HBW := hid (Below.then_ HW1.out HB.out)
    by_cases hlt : k < n
    · have hltz : (k : Int) < (n : Int) := by omega
      obtain ⟨g, o, rfl, hc⟩ := HI.out.below HBW.out (by omega)
      obtain ⟨m, hm⟩ := Int.eq_ofNat_of_zero_le (HY.out k hlt).1
      have hmn : m < D.n := by have := (HY.out k hlt).2; omega
      have c2 : wr.cell? ⟨g, o + k, none⟩ = some (.int .i64 m) := by rw [← hm]; exact hc k hlt
      have HS := hid (llG_step (D := D) (L := L) (ch := ch) hm)
      have HM := hid hm
      clear hc hm
      by_cases hmc : m = ch
      · have hmz : ((m : Int) == (ch : Int)) = true := by simp [hmc]
        have HE : Hid (llF D L y n ch = D.f ch) := HZ.out k (by rw [HM.out, Int.toNat_natCast]; exact hmc) hlt
        clear hmc
        go_wp2
        go_ret
        exact ⟨by rw [HE.out]; rfl, HBW.out⟩
      · have hmz : ((m : Int) == (ch : Int)) = false := by simp; omega
        have hj := jlF_bd (D := D) ch m
        go_wp2_with fail
        refine (HP.out m wr (HX.out.below HBW.out) hmn).mono ?_
        rintro ex w2 ⟨rfl, hb2⟩
        have HB2 := hid (Below.then_ HB.out hb2)
        clear hb2 y0 y1 y2 hBr HB
        obtain ⟨r2, hr2⟩ : ∃ r2, llG D L ch y (k + 1) = r2 := ⟨_, rfl⟩
        have HR2 := hid hr2
        rw [hr2] at HS
        clear hr2
        obtain ⟨r, hr⟩ : ∃ r, llG D L ch y k = r := ⟨_, rfl⟩
        rw [hr] at HS hbd ⊢
        clear hr
        obtain ⟨q, hq⟩ : ∃ q, jlF D ch m = q := ⟨_, rfl⟩
        rw [hq] at HS hj ⊢
        clear hq
        by_cases hq0 : 0 ≤ q
        · by_cases hqr : q < r
          · have HE : Hid (r2 = q) := by show _ = _; rw [HS.out, if_pos hq0]; omega
            go_wp2
            go_roundw
            case rel => exact ⟨k + 1, by omega, by go_num, by rw [HR2.out, HE.out], HB2⟩
            case measure => simp [intOf] <;> omega
          · have HE : Hid (r2 = r) := by show _ = _; rw [HS.out, if_pos hq0]; omega
            go_wp2
            go_roundw
            case rel => exact ⟨k + 1, by omega, by go_num, by rw [HR2.out, HE.out], HB2⟩
            case measure => simp [intOf] <;> omega
        · have HE : Hid (r2 = r) := by show _ = _; rw [HS.out, if_neg hq0]
          go_wp2
          go_roundw
          case rel => exact ⟨k + 1, by omega, by go_num, by rw [HR2.out, HE.out], HB2⟩
          case measure => simp [intOf] <;> omega
    · have : k = n := by omega
      subst this
      have HE : Hid (llF D L y k ch = max (llG D L ch y k) (D.f ch)) := rfl
      generalize llG D L ch y k = r at hbd HE
      by_cases hr : r < D.f ch
      · go_wp2
        go_ret
        exact ⟨by rw [HE.out, show max r (D.f ch) = D.f ch by omega]; rfl, HBW.out⟩
      · go_wp2
        go_ret
        exact ⟨by rw [HE.out, show max r (D.f ch) = r by omega]; rfl, HBW.out⟩
end Go.Proofs.YtahbfifnpceoeaaDoor
