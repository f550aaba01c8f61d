/- TreeLevel of the reference: l4High goes through the tree by depth. -/
import Derived.Test.YtahbfifnpceoeaaDoorCave16
import Derived.Deep.RegionHeld3
namespace Go.Proofs.YtahbfifnpceoeaaDoor
open Go.RowKit

theorem nodup_le (n : Nat) : ∀ l : List Nat, l.Nodup → (∀ x ∈ l, x < n) → l.length ≤ n := by
  induction n with
  | zero =>
    intro l _ h
    cases l with
    | nil => simp
    | cons x _ => exact absurd (h x (by simp)) (by omega)
  | succ n ih =>
    intro l hn h
    by_cases hm : n ∈ l
    · have h1 := ih (l.erase n) (hn.erase _) (fun x hx => by
        have h2 := h x (List.mem_of_mem_erase hx)
        have h3 : x ≠ n := fun e => hn.not_mem_erase (e ▸ hx)
        omega)
      rw [List.length_erase_of_mem hm] at h1
      omega
    · have := ih l hn (fun x hx => by
        have h2 := h x hx
        have h3 : x ≠ n := fun e => hm (e ▸ hx)
        omega)
      omega
/-- It returns the level of the way. -/
def HighRet (D : CaveD) (x t : Nat) (O : Nat → Prop) (w : World) (e : Ending) (w' : World) : Prop :=
  ∃ r : Int, e = .returned (.int .i64 r) ∧ LevOf (fun L => Cn (EP D.A D.B (treeF D) (fun j => D.h j ≤ L ∧ ¬ O j)) x t) r ∧ Below w.heap.size w w'

theorem inc_one {a b : Nat → Nat} {k x y z : Nat} (_hne : x ≠ y) (i : Inc a b k x y) (i2 : Inc a b k x z) : z = y := by
  rcases i with ⟨h1, h2⟩ | ⟨h1, h2⟩ <;> rcases i2 with ⟨h3, h4⟩ | ⟨h3, h4⟩ <;> omega
set_option maxRecDepth 20000 in
set_option maxHeartbeats 3200000 in
theorem l4High_any (F G S : Option Addr) (D : CaveD) (c d e : Nat) (U : Option Addr) (cu : Nat) (t : Nat) (hok : CaveOk D) : ∀ (N : Nat) (V : List Nat), D.n - V.length ≤ N → V.Nodup → (∀ v, v ∈ V → v < D.n) → ∀ (x : Nat) (o : Int) (O : Nat → Prop) (w : World),
    x < D.n → Off D.A D.B (treeF D) x o O → (∀ v, v ∈ V → ¬ Cn (EP D.A D.B (treeF D) (fun j => ¬ O j)) x v) → CaveAt w F G S D → Ints w U (treeF D).length (fun j => (toZ (treeF D)).getD j 0) →
    Calls Tryd.prog 68 #[.agg #[.slice F D.n c, .slice G D.q d, .slice S D.m e], .slice U (treeF D).length cu, .int .i64 x, .int .i64 t, .int .i64 o] w (HighRet D x t O w)
  | 0, V, hN, hV, hVn, x, o, O, w, hx, hO, hno, _, _ => by
    have h1 : x ∉ V := fun h => hno x h (.refl _)
    have := nodup_le D.n (x :: V) (List.nodup_cons.2 ⟨h1, hV⟩) (fun v hv => by
      rcases List.mem_cons.1 hv with rfl | hv
      · exact hx
      · exact hVn v hv)
    simp at this
    omega
  | N + 1, V, hN, hV, hVn, x, o, O, w, hx, hO, hno, hca, hU => by
    have h1 : x ∉ V := fun h => hno x h (.refl _)
    have IH := hid (fun y o' O' w' a1 a2 a3 a4 a5 => l4High_any F G S D c d e U cu t hok N (x :: V) (by simp; omega) (List.nodup_cons.2 ⟨h1, hV⟩) (fun v hv => by
      rcases List.mem_cons.1 hv with rfl | hv
      · exact hx
      · exact hVn v hv) y o' O' w' a1 a2 a3 a4 a5)
    have hm9 := hok.2.2.1
    have hn6 := hok.1.2
    have hlen := treeF_len D
    have HX := hid hca
    have HU := hid hU
    have HOO := hid hO
    have HNO := hid hno
    have HOK := hid hok
    have K := hid (treeF_ok hok)
    have HH := hid (treeF_h hok)
    clear hca hU hO hno hok h1 hV hVn hN
    have hB := hid (Blk.new w 26 #[.slice F D.n c, .slice G D.q d, .slice S D.m e])
    have hw1 := hid (below_alloc1 w (.cells #[.slice F D.n c, .slice G D.q d, .slice S D.m e] 26))
    by_cases hxt : x = t
    · subst hxt
      have hz : ((x : Int) == (x : Int)) = true := by simp
      go_enter Tryd.func68, Tryd.ntmps68
      go_wp2
      go_ret
      exact ⟨0, rfl, off_self, hw1.out⟩
    · have hz : ((x : Int) == (t : Int)) = false := by simp; omega
      have HXT := hid hxt
      clear hxt
      go_enter Tryd.func68, Tryd.ntmps68
      go_wp2
      go_loopw [11] (fun i wr => ∃ k : Nat, k ≤ (treeF D).length ∧ i = .int .i64 k ∧ Hid (∀ j, j < k → ∀ i, (treeF D)[j]? = some i → ∀ y : Nat, Inc D.A D.B i x y → (y : Int) ≠ o → ¬ Cn (EP D.A D.B (treeF D) (fun j => j ≠ i)) y t) ∧ Hid (Below (w.heap.size + 1) (w.alloc (.cells #[.slice F D.n c, .slice G D.q d, .slice S D.m e] 26)) wr)) (fun i _ => (treeF D).length - (intOf i).toNat)
      case atStart => exact ⟨0, by omega, rfl, hid (fun j hj => absurd hj (by omega)), hid (Below.refl _ _)⟩
      case round =>
        obtain ⟨k, hk, rfl, HK, HB⟩ := hrel
        have HBW := hid (hw1.out.trans (HB.out.mono (by omega)))
        have hbs := hid (show Blk wr w.heap.size 26 #[.slice F D.n c, .slice G D.q d, .slice S D.m e] from hB.out.below (HB.out.mono (by simp)))
        by_cases hlt : k < (treeF D).length
        · have hltz : (k : Int) < ((treeF D).length : Int) := by omega
          obtain ⟨i, hi⟩ : ∃ i, (treeF D)[k]? = some i := ⟨_, List.getElem?_eq_getElem hlt⟩
          have him : i < D.m := treeF_m (List.mem_of_getElem? hi)
          have hin : (toZ (treeF D)).getD k 0 = (i : Int) := by rw [toZ_get _ hlt]; simp [List.getD, hi]
          have HI := hid hi
          obtain ⟨bu, ou, rfl, hcu⟩ := (HU.out.below HBW.out) (by omega)
          have c1 := hcu k hlt
          simp only [hin] at c1
          clear hcu hin hi
          have himz : (i : Int) < (D.m : Int) := by omega
          obtain ⟨bs, os, hS, a1, a2, a3⟩ := (HX.out.below HBW.out).sil.at_ him
          obtain ⟨⟨q1, q2⟩, ⟨q3, q4⟩, _⟩ := HOK.out.2.2.2.2 i him
          obtain ⟨p, hpp⟩ := Int.eq_ofNat_of_zero_le q1
          obtain ⟨z, hzz⟩ := Int.eq_ofNat_of_zero_le q3
          have HPA : Hid (D.A i = p) := by show (D.a i).toNat = p; omega
          have HZB : Hid (D.B i = z) := by show (D.b i).toNat = z; omega
          have hpn : p < D.n := by omega
          have hzn : z < D.n := by omega
          rw [hpp] at a1
          rw [hzz] at a2
          clear hpp hzz q1 q2 q3 q4
          have y2 := hbs.out.cell (i := 2) rfl
          rw [hS] at y2
          clear hS
          have hlw := hbs.out.lt
          have hlu := World.block_lt_of_cell? _ _ c1
          have hls := World.block_lt_of_cell? _ _ a1
          simp only at hlu hls
          have n1 : w.heap.size ≠ wr.heap.size := by omega
          have n2 : wr.heap.size ≠ w.heap.size := by omega
          have n3 : bu ≠ wr.heap.size := by omega
          have n4 : wr.heap.size ≠ bu := by omega
          have n5 : bs ≠ wr.heap.size := by omega
          have n6 : wr.heap.size ≠ bs := by omega
          go_wp2
          go_region_held3 (fun v => v.cell? ⟨w.heap.size, 2, none⟩ = some (.slice (some ⟨bs, os, none⟩) D.m e) ∧ v.cell? ⟨bu, ou + k, none⟩ = some (.int .i64 i) ∧ v.cell? ⟨bs, os + i * 3, none⟩ = some (.int .i64 p) ∧ v.cell? ⟨bs, os + i * 3 + 1, none⟩ = some (.int .i64 z) ∧ v.cell? ⟨bs, os + i * 3 + 2, none⟩ = some (.int .i64 (D.h i))) (go_keep) (fail)
          have hN : Hid (Blk (wr.alloc (.cells #[.int .i64 p, .int .i64 z, .int .i64 (D.h i)] 34)).drew wr.heap.size 34 #[.int .i64 p, .int .i64 z, .int .i64 (D.h i)]) := hid (Blk.below (Blk.new wr 34 #[.int .i64 p, .int .i64 z, .int .i64 (D.h i)]) (Below.refl _ _).drew)
          have HB2 := hid ((HB.out.alloc (by have := HB.out.size; simp at this; omega) (.cells #[.int .i64 p, .int .i64 z, .int .i64 (D.h i)] 34)).drew)
          have HBW2 := hid (hw1.out.trans (HB2.out.mono (by omega)))
          have hbs2 := hid (hbs.out.below ((below_alloc1 wr (.cells #[.int .i64 p, .int .i64 z, .int .i64 (D.h i)] 34)).drew))
          have HMEM := hid (List.mem_of_getElem? HI.out)
          have hsill := sill_h HOK.out him
          clear c1 a1 a2 a3 y2 hlw hlu hls n1 n2 n3 n4 n5 n6 HB HBW hbs HOK
          obtain ⟨v2, hv2⟩ : ∃ v2, v2 = (wr.alloc (.cells #[.int .i64 p, .int .i64 z, .int .i64 (D.h i)] 34)).drew := ⟨_, rfl⟩
          rw [← hv2] at hN HB2 HBW2 hbs2 ⊢
          clear hv2
          generalize wr.heap.size = bk at hN ⊢
          have x0 := hN.out.cell (i := 0) rfl
          have x1 := hN.out.cell (i := 1) rfl
          have x2 := hN.out.cell (i := 2) rfl
          have y0 := hbs2.out.cell (i := 0) rfl
          have y1 := hbs2.out.cell (i := 1) rfl
          have y2 := hbs2.out.cell (i := 2) rfl
          by_cases hpx : p = x
          · have hpz : ((p : Int) == (x : Int)) = true := by simp [hpx]
            have HINC : Hid (Inc D.A D.B i x z) := hid (.inl ⟨HPA.out.trans hpx, HZB.out⟩)
            have HNE : Hid (x ≠ z) := hid (fun e => K.out.bridge HMEM.out HINC.out (by rw [e]; exact .refl _))
            have hzx : ((z : Int) == (x : Int)) = false := by have := HNE.out; simp; omega
            have HYN := hzn
            clear hpx
            by_cases hyo : (z : Int) = o
            · have hyz : ((z : Int) != o) = false := by simp [hyo]
              have HYO := hid hyo
              have HK2 : Hid (∀ j, j < k + 1 → ∀ i, (treeF D)[j]? = some i → ∀ y : Nat, Inc D.A D.B i x y → (y : Int) ≠ o → ¬ Cn (EP D.A D.B (treeF D) (fun j => j ≠ i)) y t) := fun j hj i' hi' y iy hne => by
                by_cases ej : j = k
                · subst ej
                  obtain rfl := Option.some.inj (HI.out.symm.trans hi')
                  exact absurd (by rw [inc_one HNE.out HINC.out iy]; exact HYO.out) hne
                · exact HK.out j (by omega) i' hi' y iy hne
              have HB5 := HB2
              clear hyo
              go_wp2
              go_roundw
              case rel => exact ⟨k + 1, by omega, by go_num, HK2, HB5⟩
              case measure => simp [intOf] <;> omega
            · have hyz : ((z : Int) != o) = true := by simp [hyo]
              have HYO := hid hyo
              clear hyo
              go_wp2_with fail
              refine (IH.out z (x : Int) (fun j => j = i) _ HYN (Off.next K.out HMEM.out HINC.out) (off_seen K.out HOO.out HMEM.out HINC.out HYO.out HNO.out) (HX.out.below HBW2.out) (HU.out.below HBW2.out)).mono ?_
              rintro ex w5 ⟨r, rfl, hlev, hb5⟩
              have HLEV := hid hlev
              have HB5 := hid (HB2.out.trans (hb5.mono (by have := HB2.out.size; simp at this; omega)))
              have HBW5 := hid (Below.then_ HBW2.out hb5)
              have hN5 := hid (hN.out.below hb5)
              clear hlev hb5 x0 x1 x2 y0 y1 y2
              have x2 := hN5.out.cell (i := 2) rfl
              by_cases hr : 0 ≤ r
              · have HLV := hid (off_lev K.out HH.out HOO.out HMEM.out HINC.out HYO.out HLEV.out hr)
                by_cases hrh : r < D.h i
                · have hrh' : ¬ D.h i < r := by omega
                  go_wp2
                  go_ret
                  exact ⟨_, rfl, HLV.out, HBW5.out⟩
                · by_cases hrh2 : D.h i < r
                  · go_wp2
                    go_ret
                    exact ⟨_, rfl, HLV.out, HBW5.out⟩
                  · go_wp2
                    go_ret
                    exact ⟨_, rfl, HLV.out, HBW5.out⟩
              · have HR := hid (show r < 0 by omega)
                have HK2 : Hid (∀ j, j < k + 1 → ∀ i, (treeF D)[j]? = some i → ∀ y : Nat, Inc D.A D.B i x y → (y : Int) ≠ o → ¬ Cn (EP D.A D.B (treeF D) (fun j => j ≠ i)) y t) := fun j hj i' hi' y iy hne => by
                  by_cases ej : j = k
                  · subst ej
                    obtain rfl := Option.some.inj (HI.out.symm.trans hi')
                    rw [inc_one HNE.out HINC.out iy]
                    exact lev_no HH.out HLEV.out HR.out
                  · exact HK.out j (by omega) i' hi' y iy hne
                go_wp2
                go_roundw
                case rel => exact ⟨k + 1, by omega, by go_num, HK2, HB5⟩
                case measure => simp [intOf] <;> omega
          · have hpz : ((p : Int) == (x : Int)) = false := by simp; omega
            by_cases hzx0 : z = x
            · have hzx : ((z : Int) == (x : Int)) = true := by simp [hzx0]
              have HINC : Hid (Inc D.A D.B i x p) := hid (.inr ⟨HZB.out.trans hzx0, HPA.out⟩)
              have HNE : Hid (x ≠ p) := hid (fun e => hpx e.symm)
              have HYN := hpn
              clear hpx hzx0
              by_cases hyo : (p : Int) = o
              · have hyz : ((p : Int) != o) = false := by simp [hyo]
                have HYO := hid hyo
                have HK2 : Hid (∀ j, j < k + 1 → ∀ i, (treeF D)[j]? = some i → ∀ y : Nat, Inc D.A D.B i x y → (y : Int) ≠ o → ¬ Cn (EP D.A D.B (treeF D) (fun j => j ≠ i)) y t) := fun j hj i' hi' y iy hne => by
                  by_cases ej : j = k
                  · subst ej
                    obtain rfl := Option.some.inj (HI.out.symm.trans hi')
                    exact absurd (by rw [inc_one HNE.out HINC.out iy]; exact HYO.out) hne
                  · exact HK.out j (by omega) i' hi' y iy hne
                have HB5 := HB2
                clear hyo
                go_wp2
                go_roundw
                case rel => exact ⟨k + 1, by omega, by go_num, HK2, HB5⟩
                case measure => simp [intOf] <;> omega
              · have hyz : ((p : Int) != o) = true := by simp [hyo]
                have HYO := hid hyo
                clear hyo
                go_wp2_with fail
                refine (IH.out p (x : Int) (fun j => j = i) _ HYN (Off.next K.out HMEM.out HINC.out) (off_seen K.out HOO.out HMEM.out HINC.out HYO.out HNO.out) (HX.out.below HBW2.out) (HU.out.below HBW2.out)).mono ?_
                rintro ex w5 ⟨r, rfl, hlev, hb5⟩
                have HLEV := hid hlev
                have HB5 := hid (HB2.out.trans (hb5.mono (by have := HB2.out.size; simp at this; omega)))
                have HBW5 := hid (Below.then_ HBW2.out hb5)
                have hN5 := hid (hN.out.below hb5)
                clear hlev hb5 x0 x1 x2 y0 y1 y2
                have x2 := hN5.out.cell (i := 2) rfl
                by_cases hr : 0 ≤ r
                · have HLV := hid (off_lev K.out HH.out HOO.out HMEM.out HINC.out HYO.out HLEV.out hr)
                  by_cases hrh : r < D.h i
                  · have hrh' : ¬ D.h i < r := by omega
                    go_wp2
                    go_ret
                    exact ⟨_, rfl, HLV.out, HBW5.out⟩
                  · by_cases hrh2 : D.h i < r
                    · go_wp2
                      go_ret
                      exact ⟨_, rfl, HLV.out, HBW5.out⟩
                    · go_wp2
                      go_ret
                      exact ⟨_, rfl, HLV.out, HBW5.out⟩
                · have HR := hid (show r < 0 by omega)
                  have HK2 : Hid (∀ j, j < k + 1 → ∀ i, (treeF D)[j]? = some i → ∀ y : Nat, Inc D.A D.B i x y → (y : Int) ≠ o → ¬ Cn (EP D.A D.B (treeF D) (fun j => j ≠ i)) y t) := fun j hj i' hi' y iy hne => by
                    by_cases ej : j = k
                    · subst ej
                      obtain rfl := Option.some.inj (HI.out.symm.trans hi')
                      rw [inc_one HNE.out HINC.out iy]
                      exact lev_no HH.out HLEV.out HR.out
                    · exact HK.out j (by omega) i' hi' y iy hne
                  go_wp2
                  go_roundw
                  case rel => exact ⟨k + 1, by omega, by go_num, HK2, HB5⟩
                  case measure => simp [intOf] <;> omega
            · have hzx : ((z : Int) == (x : Int)) = false := by simp; omega
              have HK2 : Hid (∀ j, j < k + 1 → ∀ i, (treeF D)[j]? = some i → ∀ y : Nat, Inc D.A D.B i x y → (y : Int) ≠ o → ¬ Cn (EP D.A D.B (treeF D) (fun j => j ≠ i)) y t) := by
                have h1 := HPA.out
                have h2 := HZB.out
                intro j hj i' hi' y iy hne
                by_cases ej : j = k
                · subst ej
                  obtain rfl := Option.some.inj (HI.out.symm.trans hi')
                  rcases iy with ⟨h3, h4⟩ | ⟨h3, h4⟩ <;> omega
                · exact HK.out j (by omega) i' hi' y iy hne
              have HB5 := HB2
              clear hpx hzx0
              go_wp2
              go_roundw
              case rel => exact ⟨k + 1, by omega, by go_num, HK2, HB5⟩
              case measure => simp [intOf] <;> omega
        · have : k = (treeF D).length := by omega
          subst this
          go_wp2
          go_ret
          exact ⟨-1, rfl, off_none HOO.out HXT.out (fun i hi y iy hyo => by
            obtain ⟨j, hj⟩ := List.mem_iff_getElem?.1 hi
            exact HK.out j (List.getElem?_eq_some_iff.1 hj).1 i hj y iy hyo), HBW.out⟩

end Go.Proofs.YtahbfifnpceoeaaDoor
