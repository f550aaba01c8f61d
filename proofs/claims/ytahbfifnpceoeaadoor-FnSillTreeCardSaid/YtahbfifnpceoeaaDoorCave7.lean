/- The reference's l4Parts; the pools, both. The cave is valid; lists are at most 2^20 long. -/
import Derived.Test.YtahbfifnpceoeaaDoorCave4
import Derived.Test.YtahbfifnpceoeaaDoorCave6
namespace Go.Proofs.YtahbfifnpceoeaaDoor
open Go.RowKit

/-- The first k of a list, as indices. -/
def idxL (y : Nat → Int) (k : Nat) : List Nat := (List.range k).map fun j => (y j).toNat
theorem idxL_succ (y : Nat → Int) (k : Nat) : idxL y (k + 1) = idxL y k ++ [(y k).toNat] := by simp [idxL, List.range_succ]
theorem mem_idxL {y : Nat → Int} {n x : Nat} : x ∈ idxL y n ↔ ∃ j, j < n ∧ (y j).toNat = x := by simp [idxL]
theorem idxL_toZ (l : List Nat) : idxL (fun j => (toZ l).getD j 0) l.length = l := by
  apply List.ext_getElem
  · simp [idxL]
  · intro i h1 h2
    have h3 : i < l.length := h2
    simp [idxL, toZ, h3]

/-- It returns a list of so many numbers of parts. -/
def RetP (n : Nat) (p : Nat → Nat) (w : World) (e : Ending) (w' : World) : Prop := ∃ A c, e = .returned (.slice A n c) ∧ Ints w' A n (zN p) ∧ Below w.heap.size w w'
set_option maxRecDepth 20000 in
set_option maxHeartbeats 3200000 in
theorem l4Parts_any (F G S : Option Addr) (D : CaveD) (c d e : Nat) (U : Option Addr) (n cu : Nat) (y : Nat → Int) (w : World) (hx : CaveAt w F G S D) (hok : CaveOk D) (hU : Ints w U n y) (hn : n ≤ 1048576) (hy : ∀ j, j < n → 0 ≤ y j ∧ y j < D.m) :
    Calls Tryd.prog 59 #[.agg #[.slice F D.n c, .slice G D.q d, .slice S D.m e], .slice U n cu] w (RetP D.n (partL D.A D.B (idxL y n)) w) := by
  have hn6 := hok.1.2
  have hn1 := hok.1.1
  have hm9 := hok.2.2.1
  have HOK := hid hok
  have HX := hid hx
  have HU := hid hU
  have HY := hid hy
  clear hok hx hU hy
  have hB := hid (Blk.new w 26 #[.slice F D.n c, .slice G D.q d, .slice S D.m e])
  have hw1 := hid (below_alloc1 w (.cells #[.slice F D.n c, .slice G D.q d, .slice S D.m e] 26))
  go_enter Tryd.func59, Tryd.ntmps59
  go_wp2_with fail
  refine (l1All_any D.n _ (by omega)).mono ?_
  rintro ex w1 ⟨v, rfl, hown, hb1⟩
  obtain ⟨A, cc, hv, hm⟩ := hown.mut
  rw [toZ_len, List.length_range] at hv hm
  obtain ⟨g, cap, f, rfl, hg1, hg2, hcap, hrow, hf⟩ := hm (by omega)
  subst hv
  simp only [World.size_alloc] at hg1
  have HR0 : Hid (Row w1 g cap D.n (zN (partL D.A D.B (idxL y 0)))) := ⟨f, hrow, fun j hj => by
    rw [hf j hj]
    show Value.int .i64 ((toZ (List.range D.n)).getD j 0) = _
    rw [toZ_get _ (by simpa using hj)]
    simp [zN, idxL, partL_nil, hj]⟩
  have HB0 : Hid (Below (w.heap.size + 1) (w.alloc (.cells #[.slice F D.n c, .slice G D.q d, .slice S D.m e] 26)) w1) := hid (by simpa using hb1)
  clear hown hb1 hm hrow hf
  go_wp2
  go_loopw [6] (fun i wr => ∃ k : Nat, k ≤ n ∧ i = .int .i64 k ∧ Hid (Row wr g cap D.n (zN (partL D.A D.B (idxL y k)))) ∧ Hid (Below (w.heap.size + 1) (w.alloc (.cells #[.slice F D.n c, .slice G D.q d, .slice S D.m e] 26)) wr)) (fun i _ => n - (intOf i).toNat)
  case atStart => exact ⟨0, by omega, rfl, HR0, HB0⟩
  case round =>
    clear HR0 HB0
    obtain ⟨k, hk, rfl, HR, HB⟩ := hrel
    have HBW : Hid (Below w.heap.size w wr) := hw1.out.trans (HB.out.mono (by omega))
    by_cases hlt : k < n
    · have hltz : (k : Int) < (n : Int) := by omega
      have hyk := HY.out k hlt
      obtain ⟨i, hi⟩ := Int.eq_ofNat_of_zero_le hyk.1
      have him : i < D.m := by omega
      have HI : Hid ((y k).toNat = i) := by show _ = _; omega
      obtain ⟨bu, ou, rfl, hcu⟩ := (HU.out.below HBW.out) (by omega)
      have s1 : ∀ s : Sub wr, s.val.cell? ⟨bu, ou + k, none⟩ = some (.int .i64 i) := by rw [← hi]; exact sub_cell (hcu k hlt)
      clear hcu hi hyk
      obtain ⟨bs, os, hS, a1, a2, a3⟩ := (HX.out.below HBW.out).sil.at_ him
      obtain ⟨⟨q1, q2⟩, ⟨q3, q4⟩, _⟩ := HOK.out.2.2.2.2 i him
      obtain ⟨x, hxx⟩ := Int.eq_ofNat_of_zero_le q1
      obtain ⟨z, hzz⟩ := Int.eq_ofNat_of_zero_le q3
      have HXA : Hid (D.A i = x) := by show (D.a i).toNat = x; omega
      have HZB : Hid (D.B i = z) := by show (D.b i).toNat = z; omega
      have hxn : x < D.n := by omega
      have hzn : z < D.n := by omega
      have hxz : (x : Int) < (D.n : Int) := by omega
      have hzz2 : (z : Int) < (D.n : Int) := by omega
      have himz : (i : Int) < (D.m : Int) := by omega
      rw [hxx] at a1
      rw [hzz] at a2
      clear hxx hzz q1 q2 q3 q4
      have s2 := sub_cell a1
      have s3 := sub_cell a2
      have s4 := sub_cell ((hB.out.below (HB.out.mono (by simp))).cell (i := 2) rfl)
      rw [hS] at s4
      clear hS
      have HP2 : Hid (partL D.A D.B (idxL y (k + 1)) = relab (partL D.A D.B (idxL y k)) x z) := by
        show _ = _
        rw [idxL_succ, partL_snoc, HI.out, HXA.out, HZB.out]
      generalize partL D.A D.B (idxL y k) = p at HR HP2
      have s5 : ∀ s : Sub wr, s.val.cell? ⟨g, x, none⟩ = some (.int .i64 (p x)) := sub_cell (HR.out.cell hcap hxn)
      have s6 : ∀ s : Sub wr, s.val.cell? ⟨g, z, none⟩ = some (.int .i64 (p z)) := sub_cell (HR.out.cell hcap hzn)
      clear a1 a2 a3
      go_wp2
      refine wp_region_sub (by kernel_rfl) (by kernel_rfl) ?_
      repeat (go_big_quiet_step ((fail)))
      refine wpQuiet_nil ?_
      intro _ hw'
      obtain ⟨s, hw''⟩ := hw'
      subst hw''
      have hsv := s.h
      have b1 := s1 s
      have b2 := s2 s
      have b3 := s3 s
      have b4 := s4 s
      have b6 := s6 s
      generalize s.val = v at hsv b1 b2 b3 b4 b6 ⊢
      clear s1 s2 s3 s4 s5 s6
      have HRV := hid (HR.out.below hsv)
      have HBV := hid (HB.out.trans (hsv.mono (by have := HB.out.size; simp at this; omega)))
      have s1 := sub_cell b1
      have s3 := sub_cell b3
      have s4 := sub_cell b4
      have s6 := sub_cell b6
      clear HR HB hsv b1 b2 b3 b4 b6 HBW
      go_wp2
      refine wp_region_sub (by kernel_rfl) (by kernel_rfl) ?_
      repeat (go_big_quiet_step ((fail)))
      refine wpQuiet_nil ?_
      intro _ hw'
      obtain ⟨s, hw''⟩ := hw'
      subst hw''
      have hsv := s.h
      generalize s.val = v2 at hsv ⊢
      clear s1 s3 s4 s6
      have HRR := hid (HRV.out.below hsv)
      have HBB2 := hid (HBV.out.trans (hsv.mono (by have := HBV.out.size; simp at this; omega)))
      clear HRV HBV hsv
      by_cases hlt2 : p x < p z
      · have hl1 : (p x : Int) < (p z : Int) := by omega
        have hl2 : ¬ (p z : Int) < (p x : Int) := by omega
        go_wp2
        go_loopw [9] (fun i wr => ∃ j : Nat, j ≤ D.n ∧ i = .int .i64 j ∧ Hid (Row wr g cap D.n (fun v => if v < j then zN (relab p x z) v else zN p v)) ∧ Hid (Below (w.heap.size + 1) (w.alloc (.cells #[.slice F D.n c, .slice G D.q d, .slice S D.m e] 26)) wr)) (fun i _ => D.n - (intOf i).toNat)
        case atStart => exact ⟨0, by omega, rfl, hid (HRR.out.congr (fun j _ => by simp)), HBB2⟩
        case round =>
          clear HRR HBB2
          obtain ⟨j, hj, rfl, HR, HB⟩ := hrel
          by_cases hlt : j < D.n
          · have hltz : (j : Int) < (D.n : Int) := by omega
            have c1 : wr.cell? ⟨g, j, none⟩ = some (.int .i64 (p j)) := by have := HR.out.cell hcap hlt; simpa [zN] using this
            have c3 := HR.out.froz j
            by_cases he : p j = p z
            · have hez : ((p j : Int) == (p z : Int)) = true := by simp [he]
              have HE : Hid (relab p x z j = p x) := by
                have h1 : max (p x) (p z) = p z := by omega
                have h2 : min (p x) (p z) = p x := by omega
                show _ = _
                unfold relab; rw [h1, h2, if_pos he]
              clear he
              go_wp2
              go_roundw
              case rel => exact ⟨j + 1, by omega, by go_num, hid ((HR.out.set j (p x : Int)).congr (fun v hv => by
                by_cases e : v = j
                · subst e; rw [if_pos rfl, if_pos (by omega)]; unfold zN; rw [HE.out]
                · rw [if_neg e]
                  by_cases e2 : v < j
                  · rw [if_pos e2, if_pos (by omega)]
                  · rw [if_neg e2, if_neg (by omega)])), hid (HB.out.setCell (p := ⟨g, j, none⟩) hg1 _)⟩
              case measure => simp [intOf] <;> omega
            · have hez : ((p j : Int) == (p z : Int)) = false := by simp; omega
              have HE : Hid (relab p x z j = p j) := by
                have h1 : max (p x) (p z) = p z := by omega
                show _ = _
                unfold relab; rw [h1, if_neg he]
              clear he
              go_wp2
              go_roundw
              case rel => exact ⟨j + 1, by omega, by go_num, hid (HR.out.congr (fun v hv => by
                by_cases e : v = j
                · subst e; rw [if_neg (by omega), if_pos (by omega)]; unfold zN; rw [HE.out]
                · by_cases e2 : v < j
                  · rw [if_pos e2, if_pos (by omega)]
                  · rw [if_neg e2, if_neg (by omega)])), HB⟩
              case measure => simp [intOf] <;> omega
          · have : j = D.n := by omega
            subst this
            have HR2 : Hid (Row wr g cap D.n (zN (partL D.A D.B (idxL y (k + 1))))) := by
              rw [HP2.out]
              exact HR.out.congr (fun v hv => by rw [if_pos hv])
            clear HR
            go_wp2
            go_roundw
            case rel => exact ⟨k + 1, by omega, by go_num, HR2, HB⟩
            case measure => simp [intOf] <;> omega
      · by_cases hgt2 : p z < p x
        · have hl1 : (p z : Int) < (p x : Int) := by omega
          have hl2 : ¬ (p x : Int) < (p z : Int) := by omega
          go_wp2
          go_loopw [9] (fun i wr => ∃ j : Nat, j ≤ D.n ∧ i = .int .i64 j ∧ Hid (Row wr g cap D.n (fun v => if v < j then zN (relab p x z) v else zN p v)) ∧ Hid (Below (w.heap.size + 1) (w.alloc (.cells #[.slice F D.n c, .slice G D.q d, .slice S D.m e] 26)) wr)) (fun i _ => D.n - (intOf i).toNat)
          case atStart => exact ⟨0, by omega, rfl, hid (HRR.out.congr (fun j _ => by simp)), HBB2⟩
          case round =>
            clear HRR HBB2
            obtain ⟨j, hj, rfl, HR, HB⟩ := hrel
            by_cases hlt : j < D.n
            · have hltz : (j : Int) < (D.n : Int) := by omega
              have c1 : wr.cell? ⟨g, j, none⟩ = some (.int .i64 (p j)) := by have := HR.out.cell hcap hlt; simpa [zN] using this
              have c3 := HR.out.froz j
              by_cases he : p j = p x
              · have hez : ((p j : Int) == (p x : Int)) = true := by simp [he]
                have HE : Hid (relab p x z j = p z) := by
                  have h1 : max (p x) (p z) = p x := by omega
                  have h2 : min (p x) (p z) = p z := by omega
                  show _ = _
                  unfold relab; rw [h1, h2, if_pos he]
                clear he
                go_wp2
                go_roundw
                case rel => exact ⟨j + 1, by omega, by go_num, hid ((HR.out.set j (p z : Int)).congr (fun v hv => by
                  by_cases e : v = j
                  · subst e; rw [if_pos rfl, if_pos (by omega)]; unfold zN; rw [HE.out]
                  · rw [if_neg e]
                    by_cases e2 : v < j
                    · rw [if_pos e2, if_pos (by omega)]
                    · rw [if_neg e2, if_neg (by omega)])), hid (HB.out.setCell (p := ⟨g, j, none⟩) hg1 _)⟩
                case measure => simp [intOf] <;> omega
              · have hez : ((p j : Int) == (p x : Int)) = false := by simp; omega
                have HE : Hid (relab p x z j = p j) := by
                  have h1 : max (p x) (p z) = p x := by omega
                  show _ = _
                  unfold relab; rw [h1, if_neg he]
                clear he
                go_wp2
                go_roundw
                case rel => exact ⟨j + 1, by omega, by go_num, hid (HR.out.congr (fun v hv => by
                  by_cases e : v = j
                  · subst e; rw [if_neg (by omega), if_pos (by omega)]; unfold zN; rw [HE.out]
                  · by_cases e2 : v < j
                    · rw [if_pos e2, if_pos (by omega)]
                    · rw [if_neg e2, if_neg (by omega)])), HB⟩
                case measure => simp [intOf] <;> omega
            · have : j = D.n := by omega
              subst this
              have HR2 : Hid (Row wr g cap D.n (zN (partL D.A D.B (idxL y (k + 1))))) := by
                rw [HP2.out]
                exact HR.out.congr (fun v hv => by rw [if_pos hv])
              clear HR
              go_wp2
              go_roundw
              case rel => exact ⟨k + 1, by omega, by go_num, HR2, HB⟩
              case measure => simp [intOf] <;> omega
        · have hl1 : ¬ (p z : Int) < (p x : Int) := by omega
          have hl2 : ¬ (p x : Int) < (p z : Int) := by omega
          go_wp2
          go_loopw [9] (fun i wr => ∃ j : Nat, j ≤ D.n ∧ i = .int .i64 j ∧ Hid (Row wr g cap D.n (fun v => if v < j then zN (relab p x z) v else zN p v)) ∧ Hid (Below (w.heap.size + 1) (w.alloc (.cells #[.slice F D.n c, .slice G D.q d, .slice S D.m e] 26)) wr)) (fun i _ => D.n - (intOf i).toNat)
          case atStart => exact ⟨0, by omega, rfl, hid (HRR.out.congr (fun j _ => by simp)), HBB2⟩
          case round =>
            clear HRR HBB2
            obtain ⟨j, hj, rfl, HR, HB⟩ := hrel
            by_cases hlt : j < D.n
            · have hltz : (j : Int) < (D.n : Int) := by omega
              have c1 : wr.cell? ⟨g, j, none⟩ = some (.int .i64 (p j)) := by have := HR.out.cell hcap hlt; simpa [zN] using this
              have c3 := HR.out.froz j
              by_cases he : p j = p x
              · have hez : ((p j : Int) == (p x : Int)) = true := by simp [he]
                have HE : Hid (relab p x z j = p x) := by
                  have h1 : max (p x) (p z) = p x := by omega
                  have h2 : min (p x) (p z) = p x := by omega
                  show _ = _
                  unfold relab; rw [h1, h2, if_pos he]
                clear he
                go_wp2
                go_roundw
                case rel => exact ⟨j + 1, by omega, by go_num, hid ((HR.out.set j (p x : Int)).congr (fun v hv => by
                  by_cases e : v = j
                  · subst e; rw [if_pos rfl, if_pos (by omega)]; unfold zN; rw [HE.out]
                  · rw [if_neg e]
                    by_cases e2 : v < j
                    · rw [if_pos e2, if_pos (by omega)]
                    · rw [if_neg e2, if_neg (by omega)])), hid (HB.out.setCell (p := ⟨g, j, none⟩) hg1 _)⟩
                case measure => simp [intOf] <;> omega
              · have hez : ((p j : Int) == (p x : Int)) = false := by simp; omega
                have HE : Hid (relab p x z j = p j) := by
                  have h1 : max (p x) (p z) = p x := by omega
                  show _ = _
                  unfold relab; rw [h1, if_neg he]
                clear he
                go_wp2
                go_roundw
                case rel => exact ⟨j + 1, by omega, by go_num, hid (HR.out.congr (fun v hv => by
                  by_cases e : v = j
                  · subst e; rw [if_neg (by omega), if_pos (by omega)]; unfold zN; rw [HE.out]
                  · by_cases e2 : v < j
                    · rw [if_pos e2, if_pos (by omega)]
                    · rw [if_neg e2, if_neg (by omega)])), HB⟩
                case measure => simp [intOf] <;> omega
            · have : j = D.n := by omega
              subst this
              have HR2 : Hid (Row wr g cap D.n (zN (partL D.A D.B (idxL y (k + 1))))) := by
                rw [HP2.out]
                exact HR.out.congr (fun v hv => by rw [if_pos hv])
              clear HR
              go_wp2
              go_roundw
              case rel => exact ⟨k + 1, by omega, by go_num, HR2, HB⟩
              case measure => simp [intOf] <;> omega
    · have : k = n := by omega
      subst this
      go_wp2
      go_ret
      exact ⟨_, _, rfl, HR.out.ints hcap, HBW.out⟩

theorem idxL_use (D : CaveD) (L : Int) : idxL (fun j => (toZ (useL D.h L D.m)).getD j 0) (useL D.h L D.m).length = useL D.h L D.m := idxL_toZ _

set_option maxRecDepth 20000 in
set_option maxHeartbeats 1600000 in
theorem PoolsAt_spec (F G S : Option Addr) (D : CaveD) (c d e : Nat) (L : Int) (w : World) (hx : CaveAt w F G S D) (hs : CaveSmall D) (hok : CaveOk D) :
    Calls Tryd.prog 37 #[.agg #[.slice F D.n c, .slice G D.q d, .slice S D.m e], .int .i64 L] w (RetP D.n (poolF D L) w) := by
  have hm9 := hok.2.2.1
  have HX := hid hx
  have HV := hid (fun w' hx' => RetB.yes (CaveValid_spec F G S D c d e w' hx' hs) hok)
  have HP := hid (fun (U : Option Addr) (n cu : Nat) (y : Nat → Int) (w' : World) (hx' : CaveAt w' F G S D) (hU : Ints w' U n y) hn hy => l4Parts_any F G S D c d e U n cu y w' hx' hok hU hn hy)
  clear hx hok
  have hB := hid (Blk.new w 26 #[.slice F D.n c, .slice G D.q d, .slice S D.m e])
  have hw1 := hid (below_alloc1 w (.cells #[.slice F D.n c, .slice G D.q d, .slice S D.m e] 26))
  have hB2 := hid (hB.out.alloc (.cells #[] 3))
  have hw2 := hid (below_alloc hw1.out (.cells #[] 3))
  have y0 := hB2.out.cell (i := 0) rfl
  have y1 := hB2.out.cell (i := 1) rfl
  have y2 := hB2.out.cell (i := 2) rfl
  have ho : OwnL ((w.alloc (.cells #[.slice F D.n c, .slice G D.q d, .slice S D.m e] 26)).alloc (.cells #[] 3)) (w.heap.size + 1) (.slice (some ⟨w.heap.size + 1, 0, none⟩) 0 0) [] := by
    have := OwnL.lit0 (B := w.heap.size + 1) (w.alloc (.cells #[.slice F D.n c, .slice G D.q d, .slice S D.m e] 26)) (by simp) #[] rfl
    simpa using this
  have HO := hid ho
  clear ho
  go_enter Tryd.func37, Tryd.ntmps37
  go_wp2_with fail
  refine (HV.out _ (HX.out.below hw2.out)).mono ?_
  rintro ex w1 ⟨rfl, hb1⟩
  have hB1 := hid (hB2.out.below hb1)
  have HO1 := hid (HO.out.below hb1)
  have HW1 : Hid (Below (w.heap.size + 1) (w.alloc (.cells #[.slice F D.n c, .slice G D.q d, .slice S D.m e] 26)) w1) := hid (((Below.refl (w.heap.size + 1) _).alloc (by simp) _).trans (hb1.mono (by simp)))
  clear hb1 y0 y1 y2 HV HO hB2 hw2 hB1
  go_wp2
  go_loopw [5, 6] (fun v i wr => ∃ k : Nat, k ≤ D.m ∧ i = .int .i64 k ∧ Hid (OwnL wr (w.heap.size + 1) v (toZ (useL D.h L k))) ∧ Hid (Below (w.heap.size + 1) (w.alloc (.cells #[.slice F D.n c, .slice G D.q d, .slice S D.m e] 26)) wr)) (fun _ i _ => D.m - (intOf i).toNat)
  case atStart => exact ⟨0, by omega, rfl, HO1, HW1⟩
  case round =>
    clear HO1 HW1
    obtain ⟨k, hk, rfl, HO, HB⟩ := hrel
    have hbs : Blk wr w.heap.size 26 #[.slice F D.n c, .slice G D.q d, .slice S D.m e] := hB.out.below (HB.out.mono (by simp))
    have HBW : Hid (Below w.heap.size w wr) := hw1.out.trans (HB.out.mono (by omega))
    have y0 := hbs.cell (i := 0) rfl
    have y1 := hbs.cell (i := 1) rfl
    have y2 := hbs.cell (i := 2) rfl
    have hlen := len_useL D.h L k
    by_cases hlt : k < D.m
    · have hltz : (k : Int) < (D.m : Int) := by omega
      obtain ⟨bs, os, rfl, a1, a2, a3⟩ := (HX.out.below HBW.out).sil.at_ hlt
      clear hbs a1 a2
      by_cases hh : D.h k ≤ L
      · have HU : Hid (useL D.h L (k + 1) = useL D.h L k ++ [k]) := if_pos hh
        have hsz : w.heap.size + 1 ≤ wr.heap.size := by have := HB.out.size; simp at this; omega
        go_wp2_with (at_builtin; refine app_int rfl _ _ rfl (w.heap.size + 1) _ _ rfl (HO.out.alloc _) wr.heap.size k rfl (by simp) (by rw [toZ_len]; omega) (by simp; omega) ?_)
        intro v' w' hown' hb'
        have HB2 := hid (hb' _ (HB.out.alloc hsz _))
        clear hb' HO
        go_wp2
        go_roundw
        case rel => exact ⟨k + 1, by omega, by go_num, by rw [HU.out, toZ_snoc]; exact hown', HB2⟩
        case measure => simp [intOf] <;> omega
      · have HU : Hid (useL D.h L (k + 1) = useL D.h L k) := if_neg hh
        go_wp2
        go_roundw
        case rel => exact ⟨k + 1, by omega, by go_num, by rw [HU.out]; exact HO, HB⟩
        case measure => simp [intOf] <;> omega
    · have : k = D.m := by omega
      subst this
      obtain ⟨U, cu, hv, hi⟩ := HO.out.ints
      subst hv
      have HI := hid hi
      clear hi hbs HO
      go_wp2_with fail
      rw [toZ_len]
      rw [toZ_len] at HI
      refine (HP.out U _ cu _ wr (HX.out.below HBW.out) HI.out (by omega) (fun j hj => ?_)).mono ?_
      · rw [toZ_get _ hj]
        have hmem : (useL D.h L D.m).getD j 0 ∈ useL D.h L D.m := by
          rw [List.getD_eq_getElem?_getD, List.getElem?_eq_getElem hj]
          exact List.getElem_mem hj
        have := ((mem_useL D.h L _ D.m).1 hmem).1
        omega
      · rintro ex w2 ⟨A, c2, rfl, hA, hb2⟩
        rw [idxL_use] at hA
        go_wp2
        go_ret
        exact ⟨A, c2, rfl, hA, Below.then_ HBW.out hb2⟩
end Go.Proofs.YtahbfifnpceoeaaDoor
