/- SillTree of the reference. -/
import Derived.Test.YtahbfifnpceoeaaDoorCave11
import Derived.Test.YtahbfifnpceoeaaDoorOrd
namespace Go.Proofs.YtahbfifnpceoeaaDoor
open Go.RowKit

def HasN (n : Nat) (x : Nat → Int) (v : Int) : Prop := ∃ j, j < n ∧ x j = v

theorem l1Has_any (A : Option Addr) (n c : Nat) (x : Nat → Int) (v : Int) (w : World) (hx : Ints w A n x) (hn : n ≤ 1048576) :
    Calls Tryd.prog 60 #[.slice A n c, .int .i64 v] w (RetBS (HasN n x v) w) := by
  go_enter Tryd.func60, Tryd.ntmps60
  go_wp2
  go_loop [5] (fun i => ∃ k : Nat, k ≤ n ∧ i = .int .i64 k ∧ ∀ j, j < k → x j ≠ v) (fun i => n - (intOf i).toNat)
  case atStart => exact ⟨0, by omega, rfl, fun j hj => absurd hj (by omega)⟩
  case round =>
    obtain ⟨k, hk, rfl, hall⟩ := hrel
    have HA := hid hall
    clear hall
    by_cases hlt : k < n
    · obtain ⟨b, o, rfl, hc⟩ := hx (by omega)
      have c1 := hc k hlt
      have hltz : (k : Int) < (n : Int) := by omega
      clear hc hx
      by_cases he : x k = v
      · have t : (x k == v) = true := by simp [he]
        have HE := hid he
        clear he
        go_wp2
        go_ret
        exact .mk_t ⟨k, hlt, HE.out⟩ rfl
      · have t : (x k == v) = false := by simp [he]
        have HE := hid he
        clear he
        go_wp2
        go_round
        case rel => exact ⟨k + 1, by omega, by go_num, fun j hj => by
          by_cases e : j = k
          · subst e; exact HE.out
          · exact HA.out j (by omega)⟩
        case measure => simp [intOf]; omega
    · go_wp2
      go_ret
      exact .mk_f (fun ⟨j, hj, e⟩ => HA.out j (by omega) e) rfl

/-! ### The lowest sills, sill by sill -/
section
variable (a b : Nat → Nat)
theorem kru_snoc (l : List Nat) (k : Nat) : kru a b (l ++ [k]) = kruS a b (kru a b l) k := by unfold kru; rw [List.foldl_append]; rfl
theorem foldl_kru_len : ∀ (l u : List Nat), (l.foldl (kruS a b) u).length ≤ u.length + l.length
  | [], u => by simp
  | k :: l, u => by
    have := foldl_kru_len l (kruS a b u k)
    have h2 : (kruS a b u k).length ≤ u.length + 1 := by unfold kruS; split <;> simp
    simp only [List.foldl_cons, List.length_cons]
    omega
theorem foldl_kru_mem (x : Nat) : ∀ (l u : List Nat), x ∈ l.foldl (kruS a b) u → x ∈ u ∨ x ∈ l
  | [], u, h => .inl h
  | k :: l, u, h => by
    rcases foldl_kru_mem x l (kruS a b u k) h with h1 | h1
    · unfold kruS at h1
      split at h1
      · exact .inl h1
      · rcases List.mem_append.1 h1 with h2 | h2
        · exact .inl h2
        · simp at h2; subst h2; exact .inr (by simp)
    · exact .inr (by simp [h1])
theorem kru_len (l : List Nat) : (kru a b l).length ≤ l.length := by have := foldl_kru_len a b l []; simpa [kru] using this
theorem kru_mem {x : Nat} {l : List Nat} (h : x ∈ kru a b l) : x ∈ l := by rcases foldl_kru_mem a b x l [] h with h1 | h1; cases h1; exact h1
end
/-- The sills that are taken behind all lower than H and the first k at H. -/
def kk (D : CaveD) (H k : Nat) : List Nat := kru D.A D.B (ordS D.h D.m H ++ atH D.h H k)
theorem atH_len (h : Nat → Int) (H : Int) (k : Nat) : (atH h H k).length ≤ k := by unfold atH; have := List.length_filter_le (fun j => h j == H) (List.range k); simpa using this
theorem ordS_len (h : Nat → Int) (m : Nat) : ∀ H, (ordS h m H).length ≤ H * m
  | 0 => by simp [ordS]
  | H + 1 => by
    have h1 := ordS_len h m H
    have h2 := atH_len h H m
    rw [ordS, List.length_append, Nat.succ_mul]
    omega
theorem kk_len {D : CaveD} (hm : D.m ≤ 9) {H k : Nat} (hH : H ≤ 41) (hk : k ≤ D.m) : (kk D H k).length ≤ 400 := by
  have h1 := kru_len D.A D.B (ordS D.h D.m H ++ atH D.h H k)
  have h2 := ordS_len D.h D.m H
  have h3 := atH_len D.h H k
  have h4 := Nat.mul_le_mul hH hm
  rw [List.length_append] at h1
  unfold kk
  omega
theorem kk_mem {D : CaveD} {H k : Nat} (hk : k ≤ D.m) : ∀ x, x ∈ kk D H k → x < D.m := fun x hx => by
  rcases List.mem_append.1 (kru_mem D.A D.B hx) with h | h
  · exact ((mem_ordS H).1 h).1
  · have := (mem_atH.1 h).1; omega
theorem kk_zero (D : CaveD) : kk D 0 0 = [] := by simp [kk, ordS, atH, kru]
theorem kk_next (D : CaveD) (H : Nat) : kk D (H + 1) 0 = kk D H D.m := by
  show kru D.A D.B (ordS D.h D.m (H + 1) ++ atH D.h _ 0) = _
  rw [ordS]
  simp [kk, atH]
theorem kk_other {D : CaveD} {H k : Nat} (h : D.h k ≠ H) : kk D H (k + 1) = kk D H k := by unfold kk; rw [atH_succ, if_neg h]
theorem kk_same {D : CaveD} {H k : Nat} (h : D.h k = H) : kk D H (k + 1) = kruS D.A D.B (kk D H k) k := by
  unfold kk
  rw [atH_succ, if_pos h, ← List.append_assoc, kru_snoc]
theorem kk_last (D : CaveD) : kk D 41 0 = kruL D := by simp [kk, kruL, atH]
def outF (D : CaveD) (k : Nat) : List Nat := (List.range k).filter fun j => decide (j ∈ kruL D)
theorem outF_len (D : CaveD) (k : Nat) : (outF D k).length ≤ k := by
  unfold outF
  have := List.length_filter_le (fun j => decide (j ∈ kruL D)) (List.range k)
  simpa using this
theorem outF_yes {D : CaveD} {k : Nat} (h : k ∈ kruL D) : outF D (k + 1) = outF D k ++ [k] := by unfold outF; rw [List.range_succ, List.filter_append]; simp [h]
theorem outF_no {D : CaveD} {k : Nat} (h : ¬ k ∈ kruL D) : outF D (k + 1) = outF D k := by unfold outF; rw [List.range_succ, List.filter_append]; simp [h]
theorem toZ_has {l : List Nat} {k : Nat} : HasN l.length (fun j => (toZ l).getD j 0) (k : Int) ↔ k ∈ l := by
  refine ⟨fun ⟨j, hj, e⟩ => ?_, fun h => ?_⟩
  · dsimp only at e
    rw [toZ_get _ hj] at e
    have e2 : l.getD j 0 = k := by omega
    rw [← e2, List.getD_eq_getElem?_getD, List.getElem?_eq_getElem hj]
    exact List.getElem_mem hj
  · obtain ⟨j, hj, e⟩ := List.getElem_of_mem h
    refine ⟨j, hj, ?_⟩
    dsimp only
    rw [toZ_get _ hj, List.getD_eq_getElem?_getD, List.getElem?_eq_getElem hj]
    simp [e]

/-- It returns this list. -/
def RetT (l : List Nat) (w : World) (e : Ending) (w' : World) : Prop := ∃ A c, e = .returned (.slice A l.length c) ∧ Ints w' A l.length (fun j => (toZ l).getD j 0) ∧ Below w.heap.size w w'

set_option maxRecDepth 20000 in
set_option maxHeartbeats 3200000 in
theorem SillTree_spec (F G S : Option Addr) (D : CaveD) (c d e : Nat) (w : World) (hx : CaveAt w F G S D) (hs : CaveSmall D) (hok : CaveOk D) :
    Calls Tryd.prog 17 #[.agg #[.slice F D.n c, .slice G D.q d, .slice S D.m e]] w (RetT (treeF D) w) := by
  have hn6 := hok.1.2
  have hm9 := hok.2.2.1
  have HX := hid hx
  have HOK := hid hok
  have HV := hid (fun w' hx' => RetB.yes (CaveValid_spec F G S D c d e w' hx' hs) hok)
  have HP := hid (fun (U : Option Addr) (n cu : Nat) (y : Nat → Int) (w' : World) (hx' : CaveAt w' F G S D) (hU : Ints w' U n y) hn hy => l4Parts_any F G S D c d e U n cu y w' hx' hok hU hn hy)
  clear hx hok
  have hB := hid (Blk.new w 26 #[.slice F D.n c, .slice G D.q d, .slice S D.m e])
  have hw1 := hid (below_alloc1 w (.cells #[.slice F D.n c, .slice G D.q d, .slice S D.m e] 26))
  have hB2 := hid (hB.out.alloc (.cells #[] 3))
  have hw2 := hid (below_alloc hw1.out (.cells #[] 3))
  have y0 := hB2.out.cell (i := 0) rfl
  have y1 := hB2.out.cell (i := 1) rfl
  have y2 := hB2.out.cell (i := 2) rfl
  have ho : OwnL ((w.alloc (.cells #[.slice F D.n c, .slice G D.q d, .slice S D.m e] 26)).alloc (.cells #[] 3)) (w.heap.size + 1) (.slice (some ⟨w.heap.size + 1, 0, none⟩) 0 0) [] := by
    have := OwnL.lit0 (B := w.heap.size + 1) (w.alloc (.cells #[.slice F D.n c, .slice G D.q d, .slice S D.m e] 26)) (by simp) #[] rfl
    simpa using this
  have HO := hid ho
  clear ho
  go_enter Tryd.func17, Tryd.ntmps17
  go_wp2_with fail
  refine (HV.out _ (HX.out.below hw2.out)).mono ?_
  rintro ex w1 ⟨rfl, hb1⟩
  have HO1 : Hid (OwnL w1 (w.heap.size + 1) (.slice (some ⟨w.heap.size + 1, 0, none⟩) 0 0) (toZ (kk D 0 0))) := by rw [kk_zero]; exact hid (HO.out.below hb1)
  have HW1 : Hid (Below (w.heap.size + 1) (w.alloc (.cells #[.slice F D.n c, .slice G D.q d, .slice S D.m e] 26)) w1) := hid (((Below.refl (w.heap.size + 1) _).alloc (by simp) _).trans (hb1.mono (by simp)))
  clear hb1 y0 y1 y2 HV HO hB2 hw2
  go_wp2
  go_loopw [3, 4] (fun v i wr => ∃ H : Nat, H ≤ 41 ∧ i = .int .i64 H ∧ Hid (OwnL wr (w.heap.size + 1) v (toZ (kk D H 0))) ∧ Hid (Below (w.heap.size + 1) (w.alloc (.cells #[.slice F D.n c, .slice G D.q d, .slice S D.m e] 26)) wr)) (fun _ i _ => 41 - (intOf i).toNat)
  case atStart => exact ⟨0, by omega, rfl, HO1, HW1⟩
  case round =>
    clear HO1 HW1
    obtain ⟨H, hH, rfl, HO, HB⟩ := hrel
    by_cases hHlt : H < 41
    · have hHz : (H : Int) ≤ 40 := by omega
      go_wp2
      go_loopw [3, 5] (fun v i wr => ∃ k : Nat, k ≤ D.m ∧ i = .int .i64 k ∧ Hid (OwnL wr (w.heap.size + 1) v (toZ (kk D H k))) ∧ Hid (Below (w.heap.size + 1) (w.alloc (.cells #[.slice F D.n c, .slice G D.q d, .slice S D.m e] 26)) wr)) (fun _ i _ => D.m - (intOf i).toNat)
      case atStart => exact ⟨0, by omega, rfl, HO, HB⟩
      case round =>
        clear HO HB
        obtain ⟨k, hk, rfl, HO, HB⟩ := hrel
        have hbs := hid (show Blk _ w.heap.size 26 #[.slice F D.n c, .slice G D.q d, .slice S D.m e] from hB.out.below (HB.out.mono (by simp)))
        have HBW := hid (hw1.out.trans (HB.out.mono (by omega)))
        have y0 := hbs.out.cell (i := 0) rfl
        have y1 := hbs.out.cell (i := 1) rfl
        have y2 := hbs.out.cell (i := 2) rfl
        have hlen := kk_len (D := D) hm9 hH hk
        have HMEM := hid (kk_mem (D := D) (H := H) hk)
        by_cases hlt : k < D.m
        · have hltz : (k : Int) < (D.m : Int) := by omega
          obtain ⟨U, cu, hv, hi⟩ := HO.out.ints
          have HVV := hid hv
          subst hv
          rw [toZ_len] at hi
          have HI := hid hi
          clear hi
          go_wp2_with fail
          rw [toZ_len]
          refine (HP.out U _ cu _ _ (HX.out.below HBW.out) HI.out (by omega) (fun j hj => ?_)).mono ?_
          · rw [toZ_get _ hj]
            have hmem : (kk D H k).getD j 0 ∈ kk D H k := by
              rw [List.getD_eq_getElem?_getD, List.getElem?_eq_getElem hj]
              exact List.getElem_mem hj
            have := HMEM.out _ hmem
            omega
          rintro ex w2 ⟨A2, c2, rfl, hA2, hb2⟩
          rw [idxL_toZ] at hA2
          have HA2 := hid hA2
          have HO2 := hid (HO.out.below hb2)
          rw [toZ_len] at HO2
          have HB2 := hid (HB.out.trans (hb2.mono (by have := HB.out.size; simp at this; omega)))
          have hB2 := hid (hbs.out.below hb2)
          have HBW2 := hid (Below.then_ HBW.out hb2)
          clear hA2 hb2 HO HB hbs HBW y0 y1 y2 HI
          have y0 := hB2.out.cell (i := 0) rfl
          have y1 := hB2.out.cell (i := 1) rfl
          have y2 := hB2.out.cell (i := 2) rfl
          obtain ⟨bs, os, hS, a1, a2, a3⟩ := (HX.out.below HBW2.out).sil.at_ hlt
          rw [hS] at y2
          clear hS
          by_cases hh : D.h k = (H : Int)
          · have hhz : (D.h k == (H : Int)) = true := by simp [hh]
            obtain ⟨⟨q1, q2⟩, ⟨q3, q4⟩, _⟩ := HOK.out.2.2.2.2 k hlt
            obtain ⟨x, hxx⟩ := Int.eq_ofNat_of_zero_le q1
            obtain ⟨z, hzz⟩ := Int.eq_ofNat_of_zero_le q3
            have HXA : Hid (D.A k = x) := by show (D.a k).toNat = x; omega
            have HZB : Hid (D.B k = z) := by show (D.b k).toNat = z; omega
            have hxn : x < D.n := by omega
            have hzn : z < D.n := by omega
            have hxz : (x : Int) < (D.n : Int) := by omega
            have hzz2 : (z : Int) < (D.n : Int) := by omega
            rw [hxx] at a1
            rw [hzz] at a2
            have HS := hid (kk_same (D := D) (H := H) hh)
            clear hxx hzz q1 q2 q3 q4 hh
            obtain ⟨bp, op, rfl, hp⟩ := HA2.out (by omega)
            have p1 : w2.cell? ⟨bp, op + x, none⟩ = some (.int .i64 (partL D.A D.B (kk D H k) x)) := hp x hxn
            have p2 : w2.cell? ⟨bp, op + z, none⟩ = some (.int .i64 (partL D.A D.B (kk D H k) z)) := hp z hzn
            clear hp
            by_cases he : partL D.A D.B (kk D H k) x = partL D.A D.B (kk D H k) z
            · have he2 : ((partL D.A D.B (kk D H k) x : Int) != (partL D.A D.B (kk D H k) z : Int)) = false := by simp [he]
              have HU : Hid (kk D H (k + 1) = kk D H k) := by
                show _ = _
                rw [HS.out]; unfold kruS; rw [HXA.out, HZB.out, if_pos he]
              clear he
              go_wp2
              go_quiet (fail)
              go_wp2
              go_roundw
              case rel => exact ⟨k + 1, by omega, by go_num, by rw [HU.out]; exact hid (HO2.out.below (below_drewN (Below.refl _ _) _)), hid (below_drewN HB2.out _)⟩
              case measure => simp [intOf] <;> omega
            · have he2 : ((partL D.A D.B (kk D H k) x : Int) != (partL D.A D.B (kk D H k) z : Int)) = true := by simp; omega
              have HU : Hid (kk D H (k + 1) = kk D H k ++ [k]) := by
                show _ = _
                rw [HS.out]; unfold kruS; rw [HXA.out, HZB.out, if_neg he]
              clear he
              go_wp2
              go_quiet (fail)
              have HO3 := hid (HO2.out.below (w' := w2.drewN nq) (below_drewN (Below.refl _ _) _))
              have HB3 := hid (below_drewN HB2.out nq)
              clear y0 y1 y2 a1 a2 a3 p1 p2 HO2 HB2
              generalize w2.drewN nq = w3 at HO3 HB3 ⊢
              have hsz : w.heap.size + 1 ≤ w3.heap.size := by have := HB3.out.size; simp at this; omega
              go_wp2_with (at_builtin; refine app_int rfl _ _ rfl (w.heap.size + 1) _ (toZ (kk D H k)) rfl (HO3.out.alloc _) w3.heap.size k rfl (by simp) (by rw [toZ_len]; omega) (by simp; omega) ?_)
              intro v' w' hown' hb'
              have HB4 := hid (hb' _ (HB3.out.alloc hsz _))
              clear hb' HO3
              go_wp2
              go_roundw
              case rel => exact ⟨k + 1, by omega, by go_num, by rw [HU.out, toZ_snoc]; exact hown', HB4⟩
              case measure => simp [intOf] <;> omega
          · have hhz : (D.h k == (H : Int)) = false := by simp [hh]
            have HU := hid (kk_other (D := D) (H := H) hh)
            clear hh
            go_wp2
            go_quiet (fail)
            go_wp2
            go_roundw
            case rel => exact ⟨k + 1, by omega, by go_num, by rw [HU.out]; exact hid (HO2.out.below (below_drewN (Below.refl _ _) _)), hid (below_drewN HB2.out _)⟩
            case measure => simp [intOf] <;> omega
        · have : k = D.m := by omega
          subst this
          have HO2' := HO.out
          rw [← kk_next] at HO2'
          have HO2 := hid HO2'
          clear HO2' HO
          go_wp2
          go_roundw
          case rel => exact ⟨H + 1, by omega, by go_num, HO2, HB⟩
          case measure => simp [intOf] <;> omega
    · have hH41 : H = 41 := by omega
      have hHz : ¬ (H : Int) ≤ 40 := by omega
      have HO2' := HO.out
      rw [hH41, kk_last] at HO2'
      clear hH41
      have HO2 := hid HO2'
      clear HO2'
      have hlen : (kruL D).length ≤ 400 := by rw [← kk_last]; exact kk_len hm9 (by omega) (by omega)
      obtain ⟨U, cu, hv, hi⟩ := HO2.out.ints
      subst hv
      rw [toZ_len] at hi
      have HI := hid hi
      clear HO HO2 hi
      have hsz : w.heap.size + 1 ≤ wr.heap.size := by have := HB.out.size; simp at this; omega
      have HOut : Hid (OwnL (wr.alloc (.cells #[] 3)) wr.heap.size (.slice (some ⟨wr.heap.size, 0, none⟩) 0 0) (toZ (outF D 0))) := hid (OwnL.lit0 (B := wr.heap.size) wr (Nat.le_refl _) #[] rfl)
      have HB3 := hid (below_alloc1 wr (.cells #[] 3))
      have HBW := hid (hw1.out.trans (HB.out.mono (by omega)))
      have hbs := hid (show Blk _ w.heap.size 26 #[.slice F D.n c, .slice G D.q d, .slice S D.m e] from hB.out.below (HB.out.mono (by simp)))
      clear HB
      generalize wr = wo at *
      go_wp2
      rw [toZ_len]
      go_loopw [7, 8] (fun v i wz => ∃ k : Nat, k ≤ D.m ∧ i = .int .i64 k ∧ Hid (OwnL wz wo.heap.size v (toZ (outF D k))) ∧ Hid (Below wo.heap.size wo wz)) (fun _ i _ => D.m - (intOf i).toNat)
      case atStart => exact ⟨0, by omega, rfl, HOut, HB3⟩
      case round =>
        clear HOut HB3 hsz
        obtain ⟨k, hk, rfl, HO, HB⟩ := hrel
        have hbz := hid (hbs.out.below HB.out)
        have y2 := hbz.out.cell (i := 2) rfl
        have hol := outF_len D k
        by_cases hlt : k < D.m
        · have hltz : (k : Int) < (D.m : Int) := by omega
          have hsz := HB.out.size
          have HIz := hid (HI.out.below HB.out)
          by_cases hin : k ∈ kruL D
          · have HH := hid (toZ_has.2 hin)
            have HU := hid (outF_yes hin)
            clear hin
            go_wp2_with (first
              | (go_at_call 60; (with_reducible refine (RetBS.yes (l1Has_any U (kruL D).length cu (fun j => (toZ (kruL D)).getD j 0) (k : Int) _ HIz.out (by omega)) HH.out).mono ?_); rintro e w' ⟨rfl, rfl⟩)
              | (at_builtin; refine app_int rfl _ _ rfl wo.heap.size _ (toZ (outF D k)) rfl (HO.out.alloc _) wr.heap.size k rfl (by simp) (by rw [toZ_len]; omega) (by simp; omega) ?_))
            intro v' w' hown' hb'
            have HB4 := hid (hb' _ (HB.out.alloc hsz _))
            clear hb' HO
            go_wp2
            go_roundw
            case rel => exact ⟨k + 1, by omega, by go_num, by rw [HU.out, toZ_snoc]; exact hown', HB4⟩
            case measure => simp [intOf] <;> omega
          · have HH := hid (fun h => hin (toZ_has.1 h))
            have HU := hid (outF_no hin)
            clear hin
            go_wp2_with (go_at_call 60; (with_reducible refine (RetBS.no (l1Has_any U (kruL D).length cu (fun j => (toZ (kruL D)).getD j 0) (k : Int) _ HIz.out (by omega)) HH.out).mono ?_); rintro e w' ⟨rfl, rfl⟩)
            go_roundw
            case rel => exact ⟨k + 1, by omega, by go_num, by rw [HU.out]; exact HO, HB⟩
            case measure => simp [intOf] <;> omega
        · have : k = D.m := by omega
          subst this
          obtain ⟨U2, cu2, hv, hi⟩ := HO.out.ints
          subst hv
          have HI2 := hid hi
          clear hi
          go_wp2
          rw [toZ_len] at HI2 ⊢
          go_ret
          exact ⟨U2, cu2, rfl, HI2.out, Below.then_ HBW.out HB.out⟩

/-- For caves that are not valid. -/
theorem SillTree_spec0 (F G S : Option Addr) (D : CaveD) (c d e : Nat) (w : World) (hx : CaveAt w F G S D) (hs : CaveSmall D) (hok : ¬ CaveOk D) :
    Calls Tryd.prog 17 #[.agg #[.slice F D.n c, .slice G D.q d, .slice S D.m e]] w (RetT [] w) := by
  have HV := hid (fun w' hx' => RetB.no (CaveValid_spec F G S D c d e w' hx' hs) hok)
  have HX := hid hx
  clear hx hok
  have hB := hid ((Blk.new w 26 #[.slice F D.n c, .slice G D.q d, .slice S D.m e]).alloc (.cells #[] 3))
  have hw1 := hid (below_alloc (below_alloc1 w (.cells #[.slice F D.n c, .slice G D.q d, .slice S D.m e] 26)) (.cells #[] 3))
  have y0 := hB.out.cell (i := 0) rfl
  have y1 := hB.out.cell (i := 1) rfl
  have y2 := hB.out.cell (i := 2) rfl
  go_enter Tryd.func17, Tryd.ntmps17
  go_wp2_with fail
  refine (HV.out _ (HX.out.below hw1.out)).mono ?_
  rintro ex w1 ⟨rfl, hb1⟩
  go_wp2
  go_ret
  exact ⟨_, _, rfl, fun h => absurd h (by simp), Below.then_ hw1.out hb1⟩
end Go.Proofs.YtahbfifnpceoeaaDoor
