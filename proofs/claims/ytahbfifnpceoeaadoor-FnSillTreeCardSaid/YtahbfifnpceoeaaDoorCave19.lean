/- TreeLevel of the program: by breadth over the tree. -/
import Derived.Test.YtahbfifnpceoeaaDoorCave18
import Derived.Test.YtahbfifnpceoeaaDoorQueue
import Derived.Test.YtahbfifnpceoeaaDoorTree
import Derived.Deep.LoopGhost
namespace Go.Proofs.YtahbfifnpceoeaaDoor
open Go.RowKit

/-- How many are not reached. -/
def cntN (lev : Nat → Int) : Nat → Nat
  | 0 => 0
  | n + 1 => cntN lev n + if lev n < 0 then 1 else 0
theorem cntN_le (lev : Nat → Int) : ∀ n, cntN lev n ≤ n
  | 0 => Nat.le_refl _
  | n + 1 => by have := cntN_le lev n; unfold cntN; split <;> omega
theorem cntN_set {lev : Nat → Int} {x : Nat} {v : Int} (h0 : lev x < 0) (hv : 0 ≤ v) : ∀ n, cntN (fun j => if j = x then v else lev j) n + (if x < n then 1 else 0) = cntN lev n
  | 0 => by simp [cntN]
  | n + 1 => by
    have ih := cntN_set h0 hv n
    unfold cntN
    by_cases e : n = x
    · subst e
      rw [if_neg (by omega)] at ih
      simp only [if_true, if_neg (show ¬ v < 0 by omega), if_pos h0, if_pos (show n < n + 1 by omega)]
      omega
    · simp only [if_neg e]
      by_cases e2 : x < n
      · rw [if_pos e2] at ih
        rw [if_pos (show x < n + 1 by omega)]
        omega
      · rw [if_neg e2] at ih
        rw [if_neg (show ¬ x < n + 1 by omega)]
        omega
theorem kept_then {lo hi : Nat} {a b c : World} (h : Kept lo hi a b) (k : Below a.heap.size b c) : Kept lo hi a c :=
  ⟨k.os.trans h.os, k.tape.trans h.tape, k.output.trans h.output, Nat.le_trans h.size k.size, fun j hj hh => (k.block j hj).trans (h.block j hj hh)⟩
theorem kept_low {lo hi B : Nat} {z a b : World} (h : Below B z a) (k : Kept lo hi a b) (h1 : B ≤ lo) (h2 : B ≤ a.heap.size) : Below B z b :=
  ⟨k.os.trans h.os, k.tape.trans h.tape, k.output.trans h.output, Nat.le_trans h.size k.size, fun j hj => (k.block j (by omega) (.inl (by omega))).trans (h.block j hj)⟩

set_option maxRecDepth 20000 in
set_option maxHeartbeats 3200000 in
theorem TreeLevel_impl (F G S : Option Addr) (D : CaveD) (c d e : Nat) (a b : Nat) (w : World) (hx : CaveAt w F G S D) (hs : CaveSmall D) (hok : CaveOk D) (ha : a < D.n) (hb : b < D.n) :
    Calls Tryd.prog 26 #[.agg #[.slice F D.n c, .slice G D.q d, .slice S D.m e], .int .i64 a, .int .i64 b] w (RetV (.int .i64 (jlF D a b)) w) := by
  have hn1 := hok.1.1
  have hn6 := hok.1.2
  have hm9 := hok.2.2.1
  have htl := treeF_len D
  have HX := hid hx
  have HOK := hid hok
  have K := hid (treeF_ok hok)
  have HH := hid (treeF_h hok)
  have HV := hid (fun w' hx' => RetB.yes (CaveValid_impl F G S D c d e w' hx' hs) hok)
  have HT := hid (fun w' hx' => SillTree_impl F G S D c d e w' hx' hs hok)
  have HQ := hid (fun r hr => tree_lev (D := D) hok ha hb (r := r) hr)
  have haz : (a : Int) < (D.n : Int) := by omega
  have hbz : (b : Int) < (D.n : Int) := by omega
  clear hx hok
  have hB := hid (Blk.new w 26 #[.slice F D.n c, .slice G D.q d, .slice S D.m e])
  have hw1 := hid (below_alloc1 w (.cells #[.slice F D.n c, .slice G D.q d, .slice S D.m e] 26))
  have hmk := run_make_row' (P := Tryd.prog) 23 3 (.int .i64 0) 8 Tryd.underlying23 info3 rfl .i64 .i64 D.n (by omega) (by omega)
  go_enter Tryd.func26, Tryd.ntmps26
  go_wp2_with fail
  refine (HV.out _ (HX.out.below hw1.out)).mono ?_
  rintro ex w1 ⟨rfl, hb1⟩
  have hB1 := hid (hB.out.below hb1)
  have y0 := hB1.out.cell (i := 0) rfl
  have hlt1 := hB1.out.lt
  have HW1 := hid (Below.then_ hw1.out hb1)
  clear hb1 HV hB hw1
  go_wp2_with (first | (go_at_call 67; (with_reducible refine (isIndex_y (a : Int) _ _ (by omega) haz).mono ?_); rintro e w' ⟨rfl, rfl⟩) | (go_at_call 67; (with_reducible refine (isIndex_y (b : Int) _ _ (by omega) hbz).mono ?_); rintro e w' ⟨rfl, rfl⟩))
  clear hmk
  go_loopw [41] (fun i wr => ∃ k : Nat, k ≤ D.n ∧ i = .int .i64 k ∧ Hid (Row wr w1.heap.size D.n D.n (fun j => if j < k then -1 else 0)) ∧ Hid (Below w1.heap.size w1 wr)) (fun i _ => D.n - (intOf i).toNat)
  case atStart => exact ⟨0, by omega, rfl, hid ⟨_, World.rowIs_made _ _ _ _, fun j hj => by simp⟩, hid (below_alloc1 _ _)⟩
  case round =>
    obtain ⟨k, hk, rfl, HR, HB⟩ := hrel
    by_cases hlt : k < D.n
    · have hltz : (k : Int) < (D.n : Int) := by omega
      have c1 := HR.out.cell (Nat.le_refl _) hlt
      have c2 := HR.out.froz k
      go_wp2
      go_roundw
      case rel => exact ⟨k + 1, by omega, by go_num, hid ((HR.out.set k (-1)).congr (fun j hj => by
        by_cases e : j = k
        · subst e; simp
        · rw [if_neg e]
          by_cases e2 : j < k
          · rw [if_pos e2, if_pos (by omega)]
          · rw [if_neg e2, if_neg (by omega)])), hid (HB.out.setCell (p := ⟨w1.heap.size, k, none⟩) (Nat.le_refl _) _)⟩
      case measure => simp [intOf] <;> omega
    · have : k = D.n := by omega
      subst this
      have c1 := HR.out.cell (Nat.le_refl _) ha
      have c2 := HR.out.froz a
      have HR2 := hid ((HR.out.set a 0).congr (y := fun v => if v = a then 0 else -1) (fun j hj => by
        by_cases e : j = a
        · subst e; simp
        · rw [if_neg e, if_neg e, if_pos hj]))
      have HB2 := hid (HB.out.setCell (p := ⟨w1.heap.size, a, none⟩) (Nat.le_refl _) (.int .i64 0))
      have hBX := hid (hB1.out.below HB2.out)
      have y0 := hBX.out.cell (i := 0) rfl
      have y1 := hBX.out.cell (i := 1) rfl
      have y2 := hBX.out.cell (i := 2) rfl
      clear HR HB
      go_wp2_with fail
      refine (HT.out _ (HX.out.below (Below.then_ HW1.out HB2.out))).mono ?_
      rintro ex w3 ⟨U, cu, rfl, hm3, hb3⟩
      have hg3 := HR2.out.lt
      have HR3 := hid (HR2.out.below hb3)
      have HB3 := hid (Below.then_ HB2.out hb3)
      have HU3 := hid (show MutI w3 (w1.heap.size + 1) w3.heap.size U (treeF D).length (fun j => (toZ (treeF D)).getD j 0) from fun h0 => by
        obtain ⟨g, cap, f, h1, h2, h3, h4, h5, h6⟩ := hm3 h0
        exact ⟨g, cap, f, h1, by omega, h3, h4, h5, h6⟩)
      have hg31 : w1.heap.size < w3.heap.size := HR3.out.lt
      have HQ0 : Hid (QS (w3.alloc (.cells #[.int .i64 a] 3)) w3.heap.size (.slice (some ⟨w3.heap.size, 0, none⟩) 1 1) [((a : Nat) : Int)]) := hid (QS.one (Nat.le_refl _) a)
      have HR4 := hid (HR3.out.alloc (.cells #[.int .i64 a] 3))
      have HK4 : Hid (Kept w1.heap.size (w1.heap.size + 1) w3 (w3.alloc (.cells #[.int .i64 a] 3))) := hid (kept_then (Kept.refl _ _ _) (below_alloc1 _ _))
      clear hm3 hb3 y0 y1 y2 HR2 HB2 hBX hg3 c1 c2
      go_wp2
      go_loopg [10] (D.n + 1) (fun gg qv wr => ∃ (lev : Nat → Int) (q : List Nat), Hid (Row wr w1.heap.size D.n D.n lev) ∧ Hid (QS wr w3.heap.size qv (toZ q)) ∧ Hid (BF D.A D.B D.h D.n (treeF D) a lev q) ∧ Hid (Kept w1.heap.size (w1.heap.size + 1) w3 wr) ∧ Hid (cntN lev D.n + q.length ≤ gg ∧ gg ≤ D.n + 1))
      case atStart => exact ⟨_, [a], HR4, HQ0, hid (BF.start ha), HK4, hid (by have := cntN_le (fun v => if v = a then (0 : Int) else -1) D.n; simp; omega)⟩
      case round =>
        clear HR4 HQ0 HK4
        obtain ⟨lev, q, HR, HQQ, HF, HK, HC⟩ := hrel
        cases q with
        | nil =>
          obtain ⟨A, cc, rfl, _⟩ := HQQ.out
          have c1 := HR.out.cell (Nat.le_refl _) hb
          have HE := hid (HQ.out _ (BF.lev K.out ha HF.out hb))
          have HBZ := hid (HW1.out.trans ((kept_low HB3.out HK.out (Nat.le_refl _) (by omega)).mono HW1.out.size))
          go_wp2
          go_ret
          exact ⟨by rw [← HE.out]; rfl, HBZ.out⟩
        | cons cc q =>
          have HFP := hid (HF.out.pop)
          obtain ⟨g, o, cp, rfl, hc1, hc2, hc3, hq3⟩ := QS.head (x := (cc : Int)) (l := toZ q) HQQ.out
          have HQ2 := hid hq3
          clear hq3 HQQ HF
          by_cases hcp : cp = 1
          · have hq := HQ2.out
            rw [if_pos hcp] at hq
            have hq0 : q = [] := by
              have h0 := hc1
              rw [toZ_len] at h0
              cases q with
              | nil => rfl
              | cons _ _ => simp at h0; omega
            subst hcp
            subst hq0
            simp only [Nat.sub_self, toZ, List.map_nil, List.length_nil] at hq
            have HQ3 := hid hq
            clear hq HQ2
            go_wp2
            go_loopw [10, 65] (fun qv i wr => ∃ (k : Nat) (lev : Nat → Int) (q : List Nat), k ≤ (treeF D).length ∧ i = .int .i64 k ∧ Hid (Row wr w1.heap.size D.n D.n lev) ∧ Hid (QS wr w3.heap.size qv (toZ q)) ∧ Hid (BFp D.A D.B D.h D.n (treeF D) a lev q cc k ∧ cc < D.n ∧ 0 ≤ lev cc) ∧ Hid (Kept w1.heap.size (w1.heap.size + 1) w3 wr) ∧ Hid (cntN lev D.n + q.length + 1 ≤ gk ∧ gk ≤ D.n + 1)) (fun _ i _ => (treeF D).length - (intOf i).toNat)
            case atStart => exact ⟨0, lev, [], by omega, rfl, HR, HQ3, HFP, HK, hid (by have := HC.out; simp at this; (try simp); omega)⟩
            case round =>
              clear HR HQ3 HFP HK HC hc1 hc2 hc3
              obtain ⟨k, lev, q, hk, rfl, HR, HQ3, HFP, HK, HC⟩ := hrel
              by_cases hlt : k < (treeF D).length
              · have hltz : (k : Int) < ((treeF D).length : Int) := by omega
                obtain ⟨i, hi⟩ : ∃ i, (treeF D)[k]? = some i := ⟨_, List.getElem?_eq_getElem hlt⟩
                have him : i < D.m := treeF_m (List.mem_of_getElem? hi)
                have hin : (toZ (treeF D)).getD k 0 = (i : Int) := by rw [toZ_get _ hlt]; simp [List.getD, hi]
                have HI := hid hi
                have HMEM := hid (List.mem_of_getElem? hi)
                obtain ⟨bu, ou, hUU, hcu⟩ := (HU3.out.kept HK.out (.inr (Nat.le_refl _))).ints (by omega)
                have c1 := hcu k hlt
                simp only [hin] at c1
                subst hUU
                clear hcu hin hi
                have himz : (i : Int) < (D.m : Int) := by omega
                have HBr := hid (kept_low HB3.out HK.out (Nat.le_refl _) (by omega))
                obtain ⟨bs, os, hS, a1, a2, a3⟩ := (HX.out.below (Below.then_ HW1.out HBr.out)).sil.at_ him
                obtain ⟨⟨q1, q2⟩, ⟨q3, q4⟩, _⟩ := HOK.out.2.2.2.2 i him
                obtain ⟨p, hpp⟩ := Int.eq_ofNat_of_zero_le q1
                obtain ⟨z, hzz⟩ := Int.eq_ofNat_of_zero_le q3
                have HPA : Hid (D.A i = p) := by show (D.a i).toNat = p; omega
                have HZB : Hid (D.B i = z) := by show (D.b i).toNat = z; omega
                have hpn : p < D.n := by omega
                have hzn : z < D.n := by omega
                have hpnz : (p : Int) < (D.n : Int) := by omega
                have hznz : (z : Int) < (D.n : Int) := by omega
                rw [hpp] at a1
                rw [hzz] at a2
                clear hpp hzz q1 q2 q3 q4
                have hbs := hid (hB1.out.below HBr.out)
                have y2 := hbs.out.cell (i := 2) rfl
                rw [hS] at y2
                clear hS
                have hccn := HFP.out.2.1
                have hccz : (cc : Int) < (D.n : Int) := by omega
                have hcc0 := HFP.out.2.2
                have hgr : w1.heap.size < wr.heap.size := HR.out.lt
                have r0 : ∀ ob, (wr.alloc ob).cell? ⟨w1.heap.size, cc, none⟩ = some (.int .i64 (lev cc)) := fun ob => (HR.out.alloc ob).cell (Nat.le_refl _) hccn
                by_cases hpx : p = cc
                · have hpz : ((p : Int) == (cc : Int)) = true := by simp [hpx]
                  have HINC : Hid (Inc D.A D.B i cc z) := hid (.inl ⟨HPA.out.trans hpx, HZB.out⟩)
                  have HNE : Hid (cc ≠ z) := hid (fun e => K.out.bridge HMEM.out HINC.out (by rw [e]; exact .refl _))
                  have r1 : ∀ ob, (wr.alloc ob).cell? ⟨w1.heap.size, z, none⟩ = some (.int .i64 (lev z)) := fun ob => (HR.out.alloc ob).cell (Nat.le_refl _) hzn
                  have r2 : ∀ ob, (wr.alloc ob).frozen? ⟨w1.heap.size, z, none⟩ = false := fun ob => (HR.out.alloc ob).froz z
                  have HYN := hzn
                  clear hpx
                  by_cases hneg : lev z < 0
                  ·
                    have HV4 : Hid (Row (((wr.setCell ⟨w1.heap.size, z, none⟩ (.int .i64 (max (lev cc) (D.h i)))).alloc (.cells #[.int .i64 p, .int .i64 z, .int .i64 (D.h i)] 34)).drew) w1.heap.size D.n D.n (fun v => if v = z then max (lev cc) (D.h i) else lev v)) := hid ((HR.out.set z _).alloc _).drew
                    have HK4 : Hid (Kept w1.heap.size (w1.heap.size + 1) w3 (((wr.setCell ⟨w1.heap.size, z, none⟩ (.int .i64 (max (lev cc) (D.h i)))).alloc (.cells #[.int .i64 p, .int .i64 z, .int .i64 (D.h i)] 34)).drew)) := hid (kept_then (HK.out.setCell (p := ⟨w1.heap.size, z, none⟩) (Nat.le_refl _) (by show w1.heap.size < w1.heap.size + 1; omega) (.int .i64 (max (lev cc) (D.h i)))) (((Below.refl w3.heap.size (wr.setCell ⟨w1.heap.size, z, none⟩ (.int .i64 (max (lev cc) (D.h i))))).alloc (by simpa using HK.out.size) (.cells #[.int .i64 p, .int .i64 z, .int .i64 (D.h i)] 34)).drew))
                    have HQ4 := hid (((HQ3.out.far (p := ⟨w1.heap.size, z, none⟩) hg31 (.int .i64 (max (lev cc) (D.h i)))).alloc (.cells #[.int .i64 p, .int .i64 z, .int .i64 (D.h i)] 34)).below (Below.refl _ _).drew)
                    have HF6 := hid (HFP.out.1.set K.out HH.out hccn hcc0 HI.out HINC.out hneg)
                    have HC6 : Hid (cntN (fun v => if v = z then max (lev cc) (D.h i) else lev v) D.n + (q ++ [z]).length + 1 ≤ gk ∧ gk ≤ D.n + 1) := hid (by
                      have h1 := cntN_set (lev := lev) (x := z) (v := max (lev cc) (D.h i)) hneg (by omega) D.n
                      rw [if_pos HYN] at h1
                      have := HC.out
                      simp
                      omega)
                    have hcx : 0 ≤ (if cc = z then max (lev cc) (D.h i) else lev cc) := by split <;> omega
                    have HCX := hid hcx
                    clear hcx
                    go_wp2
                    go_region
                    obtain ⟨v4, hv4⟩ : ∃ v4, v4 = (((wr.setCell ⟨w1.heap.size, z, none⟩ (.int .i64 (max (lev cc) (D.h i)))).alloc (.cells #[.int .i64 p, .int .i64 z, .int .i64 (D.h i)] 34)).drew) := ⟨_, rfl⟩
                    rw [← hv4] at HV4 HQ4 HK4 ⊢
                    have hs4 : w3.heap.size ≤ v4.heap.size := HK4.out.size
                    clear hv4 c1 a1 a2 a3 y2 r0 r1 r2 hbs HBr hneg HR HQ3 HK
                    go_wp2_with (at_builtin; refine app_q rfl _ _ rfl w3.heap.size _ (toZ q) rfl (HQ4.out.alloc _) v4.heap.size (z : Nat) rfl (by simp) (by rw [toZ_len]; have := HC.out; omega) (by simp; omega) ?_)
                    intro A' c' w' hq' hb'
                    have HBA := hid (hb' v4 ((Below.refl _ v4).alloc hs4 _))
                    have HR6 := hid (HV4.out.low (HBA.out.block w1.heap.size hg31))
                    have HK6 := hid (kept_then HK4.out HBA.out)
                    have HQ6 := hid hq'
                    clear hq' hb'
                    go_wp2
                    go_roundw
                    case rel => exact ⟨k + 1, _, q ++ [z], by omega, by go_num, HR6, by rw [toZ_snoc]; exact HQ6, hid ⟨HF6.out, hccn, HCX.out⟩, HK6, HC6⟩
                    case measure => simp [intOf] <;> omega
                  · have HSK : Hid (∀ y, Inc D.A D.B i cc y → 0 ≤ lev y) := hid (fun y iy => by rw [inc_one HNE.out HINC.out iy]; omega)
                    have HK2 := hid (kept_then HK.out ((Below.refl w3.heap.size wr).alloc HK.out.size (.cells #[.int .i64 p, .int .i64 z, .int .i64 (D.h i)] 34)))
                    have HR2 := hid (HR.out.alloc (.cells #[.int .i64 p, .int .i64 z, .int .i64 (D.h i)] 34))
                    have HQ4 := hid (HQ3.out.alloc (.cells #[.int .i64 p, .int .i64 z, .int .i64 (D.h i)] 34))
                    go_wp2
                    go_roundw
                    case rel => exact ⟨k + 1, lev, q, by omega, by go_num, HR2, HQ4, hid ⟨HFP.out.1.skip HI.out HSK.out, HFP.out.2⟩, HK2, HC⟩
                    case measure => simp [intOf] <;> omega
                · have hpz : ((p : Int) == (cc : Int)) = false := by simp; omega
                  by_cases hzx0 : z = cc
                  · have hzx : ((z : Int) != (cc : Int)) = false := by simp [hzx0]
                    have HINC : Hid (Inc D.A D.B i cc p) := hid (.inr ⟨HZB.out.trans hzx0, HPA.out⟩)
                    have HNE : Hid (cc ≠ p) := hid (fun e => hpx e.symm)
                    have r1 : ∀ ob, (wr.alloc ob).cell? ⟨w1.heap.size, p, none⟩ = some (.int .i64 (lev p)) := fun ob => (HR.out.alloc ob).cell (Nat.le_refl _) hpn
                    have r2 : ∀ ob, (wr.alloc ob).frozen? ⟨w1.heap.size, p, none⟩ = false := fun ob => (HR.out.alloc ob).froz p
                    have HYN := hpn
                    clear hpx hzx0
                    by_cases hneg : lev p < 0
                    ·
                      have HV4 : Hid (Row (((wr.setCell ⟨w1.heap.size, p, none⟩ (.int .i64 (max (lev cc) (D.h i)))).alloc (.cells #[.int .i64 p, .int .i64 z, .int .i64 (D.h i)] 34)).drew) w1.heap.size D.n D.n (fun v => if v = p then max (lev cc) (D.h i) else lev v)) := hid ((HR.out.set p _).alloc _).drew
                      have HK4 : Hid (Kept w1.heap.size (w1.heap.size + 1) w3 (((wr.setCell ⟨w1.heap.size, p, none⟩ (.int .i64 (max (lev cc) (D.h i)))).alloc (.cells #[.int .i64 p, .int .i64 z, .int .i64 (D.h i)] 34)).drew)) := hid (kept_then (HK.out.setCell (p := ⟨w1.heap.size, p, none⟩) (Nat.le_refl _) (by show w1.heap.size < w1.heap.size + 1; omega) (.int .i64 (max (lev cc) (D.h i)))) (((Below.refl w3.heap.size (wr.setCell ⟨w1.heap.size, p, none⟩ (.int .i64 (max (lev cc) (D.h i))))).alloc (by simpa using HK.out.size) (.cells #[.int .i64 p, .int .i64 z, .int .i64 (D.h i)] 34)).drew))
                      have HQ4 := hid (((HQ3.out.far (p := ⟨w1.heap.size, p, none⟩) hg31 (.int .i64 (max (lev cc) (D.h i)))).alloc (.cells #[.int .i64 p, .int .i64 z, .int .i64 (D.h i)] 34)).below (Below.refl _ _).drew)
                      have HF6 := hid (HFP.out.1.set K.out HH.out hccn hcc0 HI.out HINC.out hneg)
                      have HC6 : Hid (cntN (fun v => if v = p then max (lev cc) (D.h i) else lev v) D.n + (q ++ [p]).length + 1 ≤ gk ∧ gk ≤ D.n + 1) := hid (by
                        have h1 := cntN_set (lev := lev) (x := p) (v := max (lev cc) (D.h i)) hneg (by omega) D.n
                        rw [if_pos HYN] at h1
                        have := HC.out
                        simp
                        omega)
                      have hcx : 0 ≤ (if cc = p then max (lev cc) (D.h i) else lev cc) := by split <;> omega
                      have HCX := hid hcx
                      clear hcx
                      go_wp2
                      go_region
                      obtain ⟨v4, hv4⟩ : ∃ v4, v4 = (((wr.setCell ⟨w1.heap.size, p, none⟩ (.int .i64 (max (lev cc) (D.h i)))).alloc (.cells #[.int .i64 p, .int .i64 z, .int .i64 (D.h i)] 34)).drew) := ⟨_, rfl⟩
                      rw [← hv4] at HV4 HQ4 HK4 ⊢
                      have hs4 : w3.heap.size ≤ v4.heap.size := HK4.out.size
                      clear hv4 c1 a1 a2 a3 y2 r0 r1 r2 hbs HBr hneg HR HQ3 HK
                      go_wp2_with (at_builtin; refine app_q rfl _ _ rfl w3.heap.size _ (toZ q) rfl (HQ4.out.alloc _) v4.heap.size (p : Nat) rfl (by simp) (by rw [toZ_len]; have := HC.out; omega) (by simp; omega) ?_)
                      intro A' c' w' hq' hb'
                      have HBA := hid (hb' v4 ((Below.refl _ v4).alloc hs4 _))
                      have HR6 := hid (HV4.out.low (HBA.out.block w1.heap.size hg31))
                      have HK6 := hid (kept_then HK4.out HBA.out)
                      have HQ6 := hid hq'
                      clear hq' hb'
                      go_wp2
                      go_roundw
                      case rel => exact ⟨k + 1, _, q ++ [p], by omega, by go_num, HR6, by rw [toZ_snoc]; exact HQ6, hid ⟨HF6.out, hccn, HCX.out⟩, HK6, HC6⟩
                      case measure => simp [intOf] <;> omega
                    · have HSK : Hid (∀ y, Inc D.A D.B i cc y → 0 ≤ lev y) := hid (fun y iy => by rw [inc_one HNE.out HINC.out iy]; omega)
                      have HK2 := hid (kept_then HK.out ((Below.refl w3.heap.size wr).alloc HK.out.size (.cells #[.int .i64 p, .int .i64 z, .int .i64 (D.h i)] 34)))
                      have HR2 := hid (HR.out.alloc (.cells #[.int .i64 p, .int .i64 z, .int .i64 (D.h i)] 34))
                      have HQ4 := hid (HQ3.out.alloc (.cells #[.int .i64 p, .int .i64 z, .int .i64 (D.h i)] 34))
                      go_wp2
                      go_roundw
                      case rel => exact ⟨k + 1, lev, q, by omega, by go_num, HR2, HQ4, hid ⟨HFP.out.1.skip HI.out HSK.out, HFP.out.2⟩, HK2, HC⟩
                      case measure => simp [intOf] <;> omega
                  · have hzx : ((z : Int) != (cc : Int)) = true := by simp; omega
                    have HSK : Hid (∀ y, Inc D.A D.B i cc y → 0 ≤ lev y) := hid (fun y iy => by
                      have h1 := HPA.out
                      have h2 := HZB.out
                      rcases iy with ⟨h3, h4⟩ | ⟨h3, h4⟩ <;> omega)
                    clear hpx hzx0
                    have HK2 := hid (kept_then HK.out ((Below.refl w3.heap.size wr).alloc HK.out.size (.cells #[.int .i64 p, .int .i64 z, .int .i64 (D.h i)] 34)))
                    have HR2 := hid (HR.out.alloc (.cells #[.int .i64 p, .int .i64 z, .int .i64 (D.h i)] 34))
                    have HQ4 := hid (HQ3.out.alloc (.cells #[.int .i64 p, .int .i64 z, .int .i64 (D.h i)] 34))
                    go_wp2
                    go_roundw
                    case rel => exact ⟨k + 1, lev, q, by omega, by go_num, HR2, HQ4, hid ⟨HFP.out.1.skip HI.out HSK.out, HFP.out.2⟩, HK2, HC⟩
                    case measure => simp [intOf] <;> omega
              · have : k = (treeF D).length := by omega
                subst this
                go_wp2
                go_roundg (gk - 1)
                case measure => have := HC.out; omega
                case rel => exact ⟨lev, q, HR, HQ3, hid (HFP.out.1.done), HK, hid (by have := HC.out; omega)⟩
          · have hq := HQ2.out
            rw [if_neg hcp] at hq
            have HQ3 := hid hq
            clear hq HQ2
            go_wp2
            go_loopw [10, 65] (fun qv i wr => ∃ (k : Nat) (lev : Nat → Int) (q : List Nat), k ≤ (treeF D).length ∧ i = .int .i64 k ∧ Hid (Row wr w1.heap.size D.n D.n lev) ∧ Hid (QS wr w3.heap.size qv (toZ q)) ∧ Hid (BFp D.A D.B D.h D.n (treeF D) a lev q cc k ∧ cc < D.n ∧ 0 ≤ lev cc) ∧ Hid (Kept w1.heap.size (w1.heap.size + 1) w3 wr) ∧ Hid (cntN lev D.n + q.length + 1 ≤ gk ∧ gk ≤ D.n + 1)) (fun _ i _ => (treeF D).length - (intOf i).toNat)
            case atStart => exact ⟨0, lev, q, by omega, rfl, HR, HQ3, HFP, HK, hid (by have := HC.out; simp at this; (try simp); omega)⟩
            case round =>
              clear HR HQ3 HFP HK HC hc1 hc2 hc3
              obtain ⟨k, lev, q, hk, rfl, HR, HQ3, HFP, HK, HC⟩ := hrel
              by_cases hlt : k < (treeF D).length
              · have hltz : (k : Int) < ((treeF D).length : Int) := by omega
                obtain ⟨i, hi⟩ : ∃ i, (treeF D)[k]? = some i := ⟨_, List.getElem?_eq_getElem hlt⟩
                have him : i < D.m := treeF_m (List.mem_of_getElem? hi)
                have hin : (toZ (treeF D)).getD k 0 = (i : Int) := by rw [toZ_get _ hlt]; simp [List.getD, hi]
                have HI := hid hi
                have HMEM := hid (List.mem_of_getElem? hi)
                obtain ⟨bu, ou, hUU, hcu⟩ := (HU3.out.kept HK.out (.inr (Nat.le_refl _))).ints (by omega)
                have c1 := hcu k hlt
                simp only [hin] at c1
                subst hUU
                clear hcu hin hi
                have himz : (i : Int) < (D.m : Int) := by omega
                have HBr := hid (kept_low HB3.out HK.out (Nat.le_refl _) (by omega))
                obtain ⟨bs, os, hS, a1, a2, a3⟩ := (HX.out.below (Below.then_ HW1.out HBr.out)).sil.at_ him
                obtain ⟨⟨q1, q2⟩, ⟨q3, q4⟩, _⟩ := HOK.out.2.2.2.2 i him
                obtain ⟨p, hpp⟩ := Int.eq_ofNat_of_zero_le q1
                obtain ⟨z, hzz⟩ := Int.eq_ofNat_of_zero_le q3
                have HPA : Hid (D.A i = p) := by show (D.a i).toNat = p; omega
                have HZB : Hid (D.B i = z) := by show (D.b i).toNat = z; omega
                have hpn : p < D.n := by omega
                have hzn : z < D.n := by omega
                have hpnz : (p : Int) < (D.n : Int) := by omega
                have hznz : (z : Int) < (D.n : Int) := by omega
                rw [hpp] at a1
                rw [hzz] at a2
                clear hpp hzz q1 q2 q3 q4
                have hbs := hid (hB1.out.below HBr.out)
                have y2 := hbs.out.cell (i := 2) rfl
                rw [hS] at y2
                clear hS
                have hccn := HFP.out.2.1
                have hccz : (cc : Int) < (D.n : Int) := by omega
                have hcc0 := HFP.out.2.2
                have hgr : w1.heap.size < wr.heap.size := HR.out.lt
                have r0 : ∀ ob, (wr.alloc ob).cell? ⟨w1.heap.size, cc, none⟩ = some (.int .i64 (lev cc)) := fun ob => (HR.out.alloc ob).cell (Nat.le_refl _) hccn
                by_cases hpx : p = cc
                · have hpz : ((p : Int) == (cc : Int)) = true := by simp [hpx]
                  have HINC : Hid (Inc D.A D.B i cc z) := hid (.inl ⟨HPA.out.trans hpx, HZB.out⟩)
                  have HNE : Hid (cc ≠ z) := hid (fun e => K.out.bridge HMEM.out HINC.out (by rw [e]; exact .refl _))
                  have r1 : ∀ ob, (wr.alloc ob).cell? ⟨w1.heap.size, z, none⟩ = some (.int .i64 (lev z)) := fun ob => (HR.out.alloc ob).cell (Nat.le_refl _) hzn
                  have r2 : ∀ ob, (wr.alloc ob).frozen? ⟨w1.heap.size, z, none⟩ = false := fun ob => (HR.out.alloc ob).froz z
                  have HYN := hzn
                  clear hpx
                  by_cases hneg : lev z < 0
                  ·
                    have HV4 : Hid (Row (((wr.setCell ⟨w1.heap.size, z, none⟩ (.int .i64 (max (lev cc) (D.h i)))).alloc (.cells #[.int .i64 p, .int .i64 z, .int .i64 (D.h i)] 34)).drew) w1.heap.size D.n D.n (fun v => if v = z then max (lev cc) (D.h i) else lev v)) := hid ((HR.out.set z _).alloc _).drew
                    have HK4 : Hid (Kept w1.heap.size (w1.heap.size + 1) w3 (((wr.setCell ⟨w1.heap.size, z, none⟩ (.int .i64 (max (lev cc) (D.h i)))).alloc (.cells #[.int .i64 p, .int .i64 z, .int .i64 (D.h i)] 34)).drew)) := hid (kept_then (HK.out.setCell (p := ⟨w1.heap.size, z, none⟩) (Nat.le_refl _) (by show w1.heap.size < w1.heap.size + 1; omega) (.int .i64 (max (lev cc) (D.h i)))) (((Below.refl w3.heap.size (wr.setCell ⟨w1.heap.size, z, none⟩ (.int .i64 (max (lev cc) (D.h i))))).alloc (by simpa using HK.out.size) (.cells #[.int .i64 p, .int .i64 z, .int .i64 (D.h i)] 34)).drew))
                    have HQ4 := hid (((HQ3.out.far (p := ⟨w1.heap.size, z, none⟩) hg31 (.int .i64 (max (lev cc) (D.h i)))).alloc (.cells #[.int .i64 p, .int .i64 z, .int .i64 (D.h i)] 34)).below (Below.refl _ _).drew)
                    have HF6 := hid (HFP.out.1.set K.out HH.out hccn hcc0 HI.out HINC.out hneg)
                    have HC6 : Hid (cntN (fun v => if v = z then max (lev cc) (D.h i) else lev v) D.n + (q ++ [z]).length + 1 ≤ gk ∧ gk ≤ D.n + 1) := hid (by
                      have h1 := cntN_set (lev := lev) (x := z) (v := max (lev cc) (D.h i)) hneg (by omega) D.n
                      rw [if_pos HYN] at h1
                      have := HC.out
                      simp
                      omega)
                    have hcx : 0 ≤ (if cc = z then max (lev cc) (D.h i) else lev cc) := by split <;> omega
                    have HCX := hid hcx
                    clear hcx
                    go_wp2
                    go_region
                    obtain ⟨v4, hv4⟩ : ∃ v4, v4 = (((wr.setCell ⟨w1.heap.size, z, none⟩ (.int .i64 (max (lev cc) (D.h i)))).alloc (.cells #[.int .i64 p, .int .i64 z, .int .i64 (D.h i)] 34)).drew) := ⟨_, rfl⟩
                    rw [← hv4] at HV4 HQ4 HK4 ⊢
                    have hs4 : w3.heap.size ≤ v4.heap.size := HK4.out.size
                    clear hv4 c1 a1 a2 a3 y2 r0 r1 r2 hbs HBr hneg HR HQ3 HK
                    go_wp2_with (at_builtin; refine app_q rfl _ _ rfl w3.heap.size _ (toZ q) rfl (HQ4.out.alloc _) v4.heap.size (z : Nat) rfl (by simp) (by rw [toZ_len]; have := HC.out; omega) (by simp; omega) ?_)
                    intro A' c' w' hq' hb'
                    have HBA := hid (hb' v4 ((Below.refl _ v4).alloc hs4 _))
                    have HR6 := hid (HV4.out.low (HBA.out.block w1.heap.size hg31))
                    have HK6 := hid (kept_then HK4.out HBA.out)
                    have HQ6 := hid hq'
                    clear hq' hb'
                    go_wp2
                    go_roundw
                    case rel => exact ⟨k + 1, _, q ++ [z], by omega, by go_num, HR6, by rw [toZ_snoc]; exact HQ6, hid ⟨HF6.out, hccn, HCX.out⟩, HK6, HC6⟩
                    case measure => simp [intOf] <;> omega
                  · have HSK : Hid (∀ y, Inc D.A D.B i cc y → 0 ≤ lev y) := hid (fun y iy => by rw [inc_one HNE.out HINC.out iy]; omega)
                    have HK2 := hid (kept_then HK.out ((Below.refl w3.heap.size wr).alloc HK.out.size (.cells #[.int .i64 p, .int .i64 z, .int .i64 (D.h i)] 34)))
                    have HR2 := hid (HR.out.alloc (.cells #[.int .i64 p, .int .i64 z, .int .i64 (D.h i)] 34))
                    have HQ4 := hid (HQ3.out.alloc (.cells #[.int .i64 p, .int .i64 z, .int .i64 (D.h i)] 34))
                    go_wp2
                    go_roundw
                    case rel => exact ⟨k + 1, lev, q, by omega, by go_num, HR2, HQ4, hid ⟨HFP.out.1.skip HI.out HSK.out, HFP.out.2⟩, HK2, HC⟩
                    case measure => simp [intOf] <;> omega
                · have hpz : ((p : Int) == (cc : Int)) = false := by simp; omega
                  by_cases hzx0 : z = cc
                  · have hzx : ((z : Int) != (cc : Int)) = false := by simp [hzx0]
                    have HINC : Hid (Inc D.A D.B i cc p) := hid (.inr ⟨HZB.out.trans hzx0, HPA.out⟩)
                    have HNE : Hid (cc ≠ p) := hid (fun e => hpx e.symm)
                    have r1 : ∀ ob, (wr.alloc ob).cell? ⟨w1.heap.size, p, none⟩ = some (.int .i64 (lev p)) := fun ob => (HR.out.alloc ob).cell (Nat.le_refl _) hpn
                    have r2 : ∀ ob, (wr.alloc ob).frozen? ⟨w1.heap.size, p, none⟩ = false := fun ob => (HR.out.alloc ob).froz p
                    have HYN := hpn
                    clear hpx hzx0
                    by_cases hneg : lev p < 0
                    ·
                      have HV4 : Hid (Row (((wr.setCell ⟨w1.heap.size, p, none⟩ (.int .i64 (max (lev cc) (D.h i)))).alloc (.cells #[.int .i64 p, .int .i64 z, .int .i64 (D.h i)] 34)).drew) w1.heap.size D.n D.n (fun v => if v = p then max (lev cc) (D.h i) else lev v)) := hid ((HR.out.set p _).alloc _).drew
                      have HK4 : Hid (Kept w1.heap.size (w1.heap.size + 1) w3 (((wr.setCell ⟨w1.heap.size, p, none⟩ (.int .i64 (max (lev cc) (D.h i)))).alloc (.cells #[.int .i64 p, .int .i64 z, .int .i64 (D.h i)] 34)).drew)) := hid (kept_then (HK.out.setCell (p := ⟨w1.heap.size, p, none⟩) (Nat.le_refl _) (by show w1.heap.size < w1.heap.size + 1; omega) (.int .i64 (max (lev cc) (D.h i)))) (((Below.refl w3.heap.size (wr.setCell ⟨w1.heap.size, p, none⟩ (.int .i64 (max (lev cc) (D.h i))))).alloc (by simpa using HK.out.size) (.cells #[.int .i64 p, .int .i64 z, .int .i64 (D.h i)] 34)).drew))
                      have HQ4 := hid (((HQ3.out.far (p := ⟨w1.heap.size, p, none⟩) hg31 (.int .i64 (max (lev cc) (D.h i)))).alloc (.cells #[.int .i64 p, .int .i64 z, .int .i64 (D.h i)] 34)).below (Below.refl _ _).drew)
                      have HF6 := hid (HFP.out.1.set K.out HH.out hccn hcc0 HI.out HINC.out hneg)
                      have HC6 : Hid (cntN (fun v => if v = p then max (lev cc) (D.h i) else lev v) D.n + (q ++ [p]).length + 1 ≤ gk ∧ gk ≤ D.n + 1) := hid (by
                        have h1 := cntN_set (lev := lev) (x := p) (v := max (lev cc) (D.h i)) hneg (by omega) D.n
                        rw [if_pos HYN] at h1
                        have := HC.out
                        simp
                        omega)
                      have hcx : 0 ≤ (if cc = p then max (lev cc) (D.h i) else lev cc) := by split <;> omega
                      have HCX := hid hcx
                      clear hcx
                      go_wp2
                      go_region
                      obtain ⟨v4, hv4⟩ : ∃ v4, v4 = (((wr.setCell ⟨w1.heap.size, p, none⟩ (.int .i64 (max (lev cc) (D.h i)))).alloc (.cells #[.int .i64 p, .int .i64 z, .int .i64 (D.h i)] 34)).drew) := ⟨_, rfl⟩
                      rw [← hv4] at HV4 HQ4 HK4 ⊢
                      have hs4 : w3.heap.size ≤ v4.heap.size := HK4.out.size
                      clear hv4 c1 a1 a2 a3 y2 r0 r1 r2 hbs HBr hneg HR HQ3 HK
                      go_wp2_with (at_builtin; refine app_q rfl _ _ rfl w3.heap.size _ (toZ q) rfl (HQ4.out.alloc _) v4.heap.size (p : Nat) rfl (by simp) (by rw [toZ_len]; have := HC.out; omega) (by simp; omega) ?_)
                      intro A' c' w' hq' hb'
                      have HBA := hid (hb' v4 ((Below.refl _ v4).alloc hs4 _))
                      have HR6 := hid (HV4.out.low (HBA.out.block w1.heap.size hg31))
                      have HK6 := hid (kept_then HK4.out HBA.out)
                      have HQ6 := hid hq'
                      clear hq' hb'
                      go_wp2
                      go_roundw
                      case rel => exact ⟨k + 1, _, q ++ [p], by omega, by go_num, HR6, by rw [toZ_snoc]; exact HQ6, hid ⟨HF6.out, hccn, HCX.out⟩, HK6, HC6⟩
                      case measure => simp [intOf] <;> omega
                    · have HSK : Hid (∀ y, Inc D.A D.B i cc y → 0 ≤ lev y) := hid (fun y iy => by rw [inc_one HNE.out HINC.out iy]; omega)
                      have HK2 := hid (kept_then HK.out ((Below.refl w3.heap.size wr).alloc HK.out.size (.cells #[.int .i64 p, .int .i64 z, .int .i64 (D.h i)] 34)))
                      have HR2 := hid (HR.out.alloc (.cells #[.int .i64 p, .int .i64 z, .int .i64 (D.h i)] 34))
                      have HQ4 := hid (HQ3.out.alloc (.cells #[.int .i64 p, .int .i64 z, .int .i64 (D.h i)] 34))
                      go_wp2
                      go_roundw
                      case rel => exact ⟨k + 1, lev, q, by omega, by go_num, HR2, HQ4, hid ⟨HFP.out.1.skip HI.out HSK.out, HFP.out.2⟩, HK2, HC⟩
                      case measure => simp [intOf] <;> omega
                  · have hzx : ((z : Int) != (cc : Int)) = true := by simp; omega
                    have HSK : Hid (∀ y, Inc D.A D.B i cc y → 0 ≤ lev y) := hid (fun y iy => by
                      have h1 := HPA.out
                      have h2 := HZB.out
                      rcases iy with ⟨h3, h4⟩ | ⟨h3, h4⟩ <;> omega)
                    clear hpx hzx0
                    have HK2 := hid (kept_then HK.out ((Below.refl w3.heap.size wr).alloc HK.out.size (.cells #[.int .i64 p, .int .i64 z, .int .i64 (D.h i)] 34)))
                    have HR2 := hid (HR.out.alloc (.cells #[.int .i64 p, .int .i64 z, .int .i64 (D.h i)] 34))
                    have HQ4 := hid (HQ3.out.alloc (.cells #[.int .i64 p, .int .i64 z, .int .i64 (D.h i)] 34))
                    go_wp2
                    go_roundw
                    case rel => exact ⟨k + 1, lev, q, by omega, by go_num, HR2, HQ4, hid ⟨HFP.out.1.skip HI.out HSK.out, HFP.out.2⟩, HK2, HC⟩
                    case measure => simp [intOf] <;> omega
              · have : k = (treeF D).length := by omega
                subst this
                go_wp2
                go_roundg (gk - 1)
                case measure => have := HC.out; omega
                case rel => exact ⟨lev, q, HR, HQ3, hid (HFP.out.1.done), HK, hid (by have := HC.out; omega)⟩
end Go.Proofs.YtahbfifnpceoeaaDoor
