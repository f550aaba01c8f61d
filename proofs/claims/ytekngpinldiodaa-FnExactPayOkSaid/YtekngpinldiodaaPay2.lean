/- PayOk, both: the payments of a table. Lists are at most 2^20 long. -/
import Derived.Test.YtekngpinldiodaaPay1
import Derived.Test.YtekngpinldiodaaFlow
namespace Go.Proofs.Ytekngpinldiodaa
open Go.RowKit

theorem sumN_part {f : Nat → Int} {u : Nat} : ∀ n, (∀ j, j < n → 0 ≤ f j) → u ≤ n → sumN u f ≤ sumN n f
  | 0, _, h => by rw [show u = 0 by omega]; exact Int.le_refl _
  | n + 1, hf, h => by
    by_cases e : u = n + 1
    · rw [e]; exact Int.le_refl _
    · have h1 := sumN_part (f := f) (u := u) n (fun j hj => hf j (by omega)) (by omega)
      have h2 := hf n (by omega)
      show sumN u f ≤ sumN n f + f n
      omega

def PayRow (D T : PitD) (i : Nat) : Prop := T.l i = D.n ∧ (∀ j, j < D.n → 0 ≤ T.x i j) ∧ (∀ j, j < D.n → 0 < T.x i j → HasN (D.l i) (D.x i) j) ∧ sumN D.n (T.x i) ≤ max (D.p i) 0
/-- What block j gets from the first k. -/
def colS (T : PitD) (j k : Nat) : Int := sumN k (fun i => T.x i j)
def PayP (D T : PitD) : Prop := PitOk D ∧ T.n = D.n ∧ (∀ i, i < D.n → PayRow D T i) ∧ ∀ j, j < D.n → colS T j D.n ≤ max (-D.p j) 0
theorem PayRow.le {D T : PitD} {i j : Nat} (h : PayRow D T i) (hj : j < D.n) : T.x i j ≤ max (D.p i) 0 := by
  have := sumN_ge1 (f := T.x i) (i := j) D.n h.2.1 hj
  have := h.2.2.2
  omega
theorem colS_bd {D T : PitD} (hok : PitOk D) {j : Nat} (hj : j < D.n) : ∀ k, k ≤ D.n → (∀ i, i < k → PayRow D T i) → 0 ≤ colS T j k ∧ colS T j k ≤ 20 * (k : Int)
  | 0, _, _ => by simp [colS, sumN]
  | k + 1, hk, h => by
    have ih := colS_bd hok hj k (by omega) (fun i hi => h i (by omega))
    have hr := h k (by omega)
    have h1 := hr.2.1 j hj
    have h2 := hr.le hj
    have h3 := (hok.2 k (by omega)).1
    have e : colS T j (k + 1) = colS T j k + T.x k j := rfl
    omega

/-- A list of numbers in a row. -/
def RowN (w : World) (g n : Nat) (x : Nat → Int) : Prop := w.rowIs g 3 n (fun j => .int .i64 (x j))
theorem RowN.below {w w' : World} {g n : Nat} {x : Nat → Int} (h : RowN w g n x) (hb : Below w.heap.size w w') : RowN w' g n x := row_below hb h
theorem RowN.alloc {w : World} {g n : Nat} {x : Nat → Int} (h : RowN w g n x) (o : Obj) : RowN (w.alloc o) g n x := h.below ((Below.refl _ _).alloc (Nat.le_refl _) o)
theorem RowN.cell {w : World} {g n : Nat} {x : Nat → Int} (h : RowN w g n x) {i : Nat} (hi : i < n) : w.cell? ⟨g, i, none⟩ = some (.int .i64 (x i)) := World.rowIs.cell h hi
theorem RowN.froz {w : World} {g n : Nat} {x : Nat → Int} (h : RowN w g n x) (i : Nat) : w.frozen? ⟨g, i, none⟩ = false := World.rowIs.frozen h i
theorem RowN.set {w : World} {g n : Nat} {x : Nat → Int} (h : RowN w g n x) (i : Nat) (v : Int) : RowN (w.setCell ⟨g, i, none⟩ (.int .i64 v)) g n (fun j => if j = i then v else x j) :=
  (World.rowIs.set h i _).congr fun j _ => by
    by_cases e : j = i
    · simp [e]
    · simp [e]
theorem RowN.congr {w : World} {g n : Nat} {x y : Nat → Int} (h : RowN w g n x) (e : ∀ j, j < n → x j = y j) : RowN w g n y := World.rowIs.congr h fun j hj => by rw [e j hj]

set_option maxRecDepth 20000 in
set_option maxHeartbeats 1600000 in
theorem PayOk_impl (A B : Option Addr) (D T : PitD) (c d : Nat) (w : World) (hx : PitAt w A D) (hs : PitSmall D) (hy : RowsAt w B T) (ht : PitSmall T) :
    Calls Try.prog 45 #[.slice A D.n c, .slice B T.n d] w (RetB (PayP D T) w) := by
  by_cases hok : PitOk D
  · by_cases hn : T.n = D.n
    · have hn0 : ((T.n : Int) != (D.n : Int)) = false := by simp [hn]
      have h8 := hok.1
      have hT8 : T.n ≤ 8 := by omega
      have HOK := hid hok
      have HN := hid hn
      have HTL := hid ht.2
      have HDL := hid hs.2
      have HX := hid hx
      have HY := hid hy
      have HV := hid (fun w' hx' => RetB.yes (PitValid_impl A D c w' hx' hs) hok)
      have hmk := run_make_row' (P := Try.prog) 33 3 (.int .i64 0) 8 Try.underlying33 info3 rfl .i64 .i64 D.n (by omega) (by omega)
      clear hok hn hx hy ht hs
      go_enter Try.func45, Try.ntmps45
      go_wp2_with fail
      refine (HV.out _ HX.out).mono ?_
      rintro e w1 ⟨rfl, hb1⟩
      go_wp2
      clear hmk
      go_loopw [28] (fun i wr => ∃ k : Nat, k ≤ T.n ∧ i = .int .i64 k ∧ Hid (∀ i, i < k → PayRow D T i) ∧ Hid (RowN wr w1.heap.size D.n (fun j => colS T j k)) ∧ Hid (Below w.heap.size w wr)) (fun i _ => T.n - (intOf i).toNat)
      case atStart => exact ⟨0, by omega, rfl, fun j hj => absurd hj (by omega), (World.rowIs_made w1 _ D.n 3).congr (fun j _ => rfl), hb1.alloc hb1.size _⟩
      case round =>
        have hg := hb1.size
        clear hb1
        obtain ⟨k, hk, rfl, HA, HR, HB⟩ := hrel
        by_cases hlt : k < T.n
        · obtain ⟨b, o, C, cc, hBq, a10, a20⟩ := HY.out.at_ hlt
          have a1 := cell_below HB.out a10
          have hltz : (k : Int) < (T.n : Int) := by omega
          have hkD : k < D.n := by have := HN.out; omega
          have hkDz : (k : Int) < (D.n : Int) := by omega
          obtain ⟨b', o', C', cc', hAq, e10, e20, e30⟩ := HX.out.at_ hkD
          have e1 := cell_below HB.out e10
          have hpk := (HOK.out.2 k hkD).1
          obtain rfl := hBq
          obtain rfl := hAq
          by_cases hl : T.l k = D.n
          · have hlz : ((T.l k : Int) != (D.n : Int)) = false := by simp [hl]
            have HL := hid hl
            have hl8 : T.l k ≤ 8 := by omega
            clear hl
            by_cases hp0 : D.p k < 0
            · obtain ⟨M, hM⟩ : ∃ M : Int, M = 0 := ⟨_, rfl⟩
              have HM : Hid (M = max (D.p k) 0) := by show _ = _; omega
              go_wp2
              go_loopw [8, 46] (fun l i wr => ∃ u : Nat, ∃ q : Int, u ≤ T.l k ∧ i = .int .i64 u ∧ l = .int .i64 q ∧ 0 ≤ q ∧ q ≤ 20 ∧ Hid (q = M - sumN u (T.x k)) ∧ Hid (∀ j, j < u → 0 ≤ T.x k j) ∧ Hid (∀ j, j < u → 0 < T.x k j → HasN (D.l k) (D.x k) j) ∧ Hid (RowN wr w1.heap.size D.n (fun j => colS T j k + if j < u then T.x k j else 0)) ∧ Hid (Below w.heap.size w wr)) (fun _ i _ => T.l k - (intOf i).toNat)
              case atStart => exact ⟨0, M, by omega, rfl, vint (by first | (subst hM; rfl) | omega), by omega, by omega, by show _ = _; simp [sumN], fun j hj => absurd hj (by omega), fun j hj => absurd hj (by omega), HR.out.congr (fun j _ => by simp), HB⟩
              case round =>
                clear HR HB a1 e1
                obtain ⟨u, q, hu, rfl, rfl, hq0, hq20, HQ, HNN, HH, HR, HB⟩ := hrel
                by_cases hul : u < T.l k
                · obtain ⟨b4, o4, rfl, hc⟩ := a20.below HB.out (by omega)
                  have c1 : wr.cell? ⟨b4, o4 + u, none⟩ = some (.int .i64 (T.x k u)) := hc u hul
                  have huD : u < D.n := by have := HL.out; omega
                  have huDz : (u : Int) < (D.n : Int) := by omega
                  have hulz : (u : Int) < (T.l k : Int) := by omega
                  have e2 := cell_below HB.out e20
                  have e3 := e30.below HB.out
                  clear hc
                  have hcb := colS_bd HOK.out huD k (by omega) HA.out
                  have c3 : wr.cell? ⟨w1.heap.size, u, none⟩ = some (.int .i64 (colS T u k)) := by simpa using HR.out.cell huD
                  have c4 := HR.out.froz u
                  have HBAD : Hid (∀ h : PayRow D T k, 0 ≤ T.x k u ∧ (0 < T.x k u → HasN (D.l k) (D.x k) u) ∧ T.x k u ≤ q) := fun h => by
                    refine ⟨h.2.1 u huD, h.2.2.1 u huD, ?_⟩
                    have h1 := sumN_part (f := T.x k) (u := u + 1) D.n h.2.1 (by omega)
                    have h2 := h.2.2.2
                    have h3 := HQ.out
                    have h4 := HM.out
                    have h5 : sumN (u + 1) (T.x k) = sumN u (T.x k) + T.x k u := rfl
                    omega
                  by_cases hneg : T.x k u < 0
                  · go_wp2
                    go_ret
                    exact .mk_f (fun h => by have := (HBAD.out (h.2.2.1 k hkD)).1; omega) HB.out rfl
                  · by_cases hgt : q < T.x k u
                    · go_wp2
                      go_ret
                      exact .mk_f (fun h => by have := (HBAD.out (h.2.2.1 k hkD)).2.2; omega) HB.out rfl
                    · have HR2 := hid ((HR.out.set u (colS T u k + T.x k u)).congr (y := fun j => colS T j k + if j < u + 1 then T.x k j else 0) fun j hj => by
                        by_cases e : j = u
                        · subst e; simp
                        · rw [if_neg e]
                          by_cases e2 : j < u
                          · rw [if_pos e2, if_pos (by omega)]
                          · rw [if_neg e2, if_neg (by omega)])
                      have HB2 := hid (HB.out.setCell (p := ⟨w1.heap.size, u, none⟩) hg (.int .i64 (colS T u k + T.x k u)))
                      have HQ2 : Hid (q - T.x k u = M - sumN (u + 1) (T.x k)) := by
                        have h3 := HQ.out
                        have h5 : sumN (u + 1) (T.x k) = sumN u (T.x k) + T.x k u := rfl
                        show _ = _
                        omega
                      have HNN2 : Hid (∀ j, j < u + 1 → 0 ≤ T.x k j) := fun j hj => by
                        by_cases e : j = u
                        · subst e; omega
                        · exact HNN.out j (by omega)
                      clear HQ HNN HR
                      by_cases h0 : 0 < T.x k u
                      · by_cases hh : HasN (D.l k) (D.x k) u
                        · have HH2 : Hid (∀ j, j < u + 1 → 0 < T.x k j → HasN (D.l k) (D.x k) j) := fun j hj hp => by
                            by_cases e : j = u
                            · subst e; exact hh
                            · exact HH.out j (by omega) hp
                          clear HH
                          go_wp2_with (go_at_call 56; refine (RetBS.yes (Contains_any _ (D.l k) _ (D.x k) _ _ e3 (HDL.out k hkD)) hh).mono ?_; rintro e w' ⟨rfl, rfl⟩)
                          go_roundw
                          case rel => exact ⟨u + 1, _, by omega, by go_num, rfl, by omega, by omega, HQ2, HNN2, HH2, HR2, HB2⟩
                          case measure => simp [intOf] <;> omega
                        · go_wp2_with (go_at_call 56; refine (RetBS.no (Contains_any _ (D.l k) _ (D.x k) _ _ e3 (HDL.out k hkD)) hh).mono ?_; rintro e w' ⟨rfl, rfl⟩)
                          go_ret
                          exact .mk_f (fun h => hh ((HBAD.out (h.2.2.1 k hkD)).2.1 h0)) HB.out rfl
                      · have HH2 : Hid (∀ j, j < u + 1 → 0 < T.x k j → HasN (D.l k) (D.x k) j) := fun j hj hp => by
                          by_cases e : j = u
                          · subst e; exact absurd hp h0
                          · exact HH.out j (by omega) hp
                        clear HH
                        go_wp2
                        go_roundw
                        case rel => exact ⟨u + 1, _, by omega, by go_num, rfl, by omega, by omega, HQ2, HNN2, HH2, HR2, HB2⟩
                        case measure => simp [intOf] <;> omega
                · have : u = D.n := by have := HL.out; omega
                  subst this
                  have HA2 : Hid (∀ i, i < k + 1 → PayRow D T i) := fun i hi => by
                    by_cases e : i = k
                    · subst e
                      have h3 := HQ.out
                      have h4 := HM.out
                      exact ⟨HL.out, HNN.out, HH.out, by omega⟩
                    · exact HA.out i (by omega)
                  have HR2 := hid (HR.out.congr (y := fun j => colS T j (k + 1)) fun j hj => by rw [if_pos hj]; rfl)
                  clear HQ HNN HH HR
                  go_wp2
                  go_roundw
                  case rel => exact ⟨k + 1, by omega, by go_num, HA2, HR2, HB⟩
                  case measure => simp [intOf] <;> omega
            · obtain ⟨M, hM⟩ : ∃ M : Int, M = D.p k := ⟨_, rfl⟩
              have HM : Hid (M = max (D.p k) 0) := by show _ = _; omega
              go_wp2
              go_loopw [8, 46] (fun l i wr => ∃ u : Nat, ∃ q : Int, u ≤ T.l k ∧ i = .int .i64 u ∧ l = .int .i64 q ∧ 0 ≤ q ∧ q ≤ 20 ∧ Hid (q = M - sumN u (T.x k)) ∧ Hid (∀ j, j < u → 0 ≤ T.x k j) ∧ Hid (∀ j, j < u → 0 < T.x k j → HasN (D.l k) (D.x k) j) ∧ Hid (RowN wr w1.heap.size D.n (fun j => colS T j k + if j < u then T.x k j else 0)) ∧ Hid (Below w.heap.size w wr)) (fun _ i _ => T.l k - (intOf i).toNat)
              case atStart => exact ⟨0, M, by omega, rfl, vint (by first | (subst hM; rfl) | omega), by omega, by omega, by show _ = _; simp [sumN], fun j hj => absurd hj (by omega), fun j hj => absurd hj (by omega), HR.out.congr (fun j _ => by simp), HB⟩
              case round =>
                clear HR HB a1 e1
                obtain ⟨u, q, hu, rfl, rfl, hq0, hq20, HQ, HNN, HH, HR, HB⟩ := hrel
                by_cases hul : u < T.l k
                · obtain ⟨b4, o4, rfl, hc⟩ := a20.below HB.out (by omega)
                  have c1 : wr.cell? ⟨b4, o4 + u, none⟩ = some (.int .i64 (T.x k u)) := hc u hul
                  have huD : u < D.n := by have := HL.out; omega
                  have huDz : (u : Int) < (D.n : Int) := by omega
                  have hulz : (u : Int) < (T.l k : Int) := by omega
                  have e2 := cell_below HB.out e20
                  have e3 := e30.below HB.out
                  clear hc
                  have hcb := colS_bd HOK.out huD k (by omega) HA.out
                  have c3 : wr.cell? ⟨w1.heap.size, u, none⟩ = some (.int .i64 (colS T u k)) := by simpa using HR.out.cell huD
                  have c4 := HR.out.froz u
                  have HBAD : Hid (∀ h : PayRow D T k, 0 ≤ T.x k u ∧ (0 < T.x k u → HasN (D.l k) (D.x k) u) ∧ T.x k u ≤ q) := fun h => by
                    refine ⟨h.2.1 u huD, h.2.2.1 u huD, ?_⟩
                    have h1 := sumN_part (f := T.x k) (u := u + 1) D.n h.2.1 (by omega)
                    have h2 := h.2.2.2
                    have h3 := HQ.out
                    have h4 := HM.out
                    have h5 : sumN (u + 1) (T.x k) = sumN u (T.x k) + T.x k u := rfl
                    omega
                  by_cases hneg : T.x k u < 0
                  · go_wp2
                    go_ret
                    exact .mk_f (fun h => by have := (HBAD.out (h.2.2.1 k hkD)).1; omega) HB.out rfl
                  · by_cases hgt : q < T.x k u
                    · go_wp2
                      go_ret
                      exact .mk_f (fun h => by have := (HBAD.out (h.2.2.1 k hkD)).2.2; omega) HB.out rfl
                    · have HR2 := hid ((HR.out.set u (colS T u k + T.x k u)).congr (y := fun j => colS T j k + if j < u + 1 then T.x k j else 0) fun j hj => by
                        by_cases e : j = u
                        · subst e; simp
                        · rw [if_neg e]
                          by_cases e2 : j < u
                          · rw [if_pos e2, if_pos (by omega)]
                          · rw [if_neg e2, if_neg (by omega)])
                      have HB2 := hid (HB.out.setCell (p := ⟨w1.heap.size, u, none⟩) hg (.int .i64 (colS T u k + T.x k u)))
                      have HQ2 : Hid (q - T.x k u = M - sumN (u + 1) (T.x k)) := by
                        have h3 := HQ.out
                        have h5 : sumN (u + 1) (T.x k) = sumN u (T.x k) + T.x k u := rfl
                        show _ = _
                        omega
                      have HNN2 : Hid (∀ j, j < u + 1 → 0 ≤ T.x k j) := fun j hj => by
                        by_cases e : j = u
                        · subst e; omega
                        · exact HNN.out j (by omega)
                      clear HQ HNN HR
                      by_cases h0 : 0 < T.x k u
                      · by_cases hh : HasN (D.l k) (D.x k) u
                        · have HH2 : Hid (∀ j, j < u + 1 → 0 < T.x k j → HasN (D.l k) (D.x k) j) := fun j hj hp => by
                            by_cases e : j = u
                            · subst e; exact hh
                            · exact HH.out j (by omega) hp
                          clear HH
                          go_wp2_with (go_at_call 56; refine (RetBS.yes (Contains_any _ (D.l k) _ (D.x k) _ _ e3 (HDL.out k hkD)) hh).mono ?_; rintro e w' ⟨rfl, rfl⟩)
                          go_roundw
                          case rel => exact ⟨u + 1, _, by omega, by go_num, rfl, by omega, by omega, HQ2, HNN2, HH2, HR2, HB2⟩
                          case measure => simp [intOf] <;> omega
                        · go_wp2_with (go_at_call 56; refine (RetBS.no (Contains_any _ (D.l k) _ (D.x k) _ _ e3 (HDL.out k hkD)) hh).mono ?_; rintro e w' ⟨rfl, rfl⟩)
                          go_ret
                          exact .mk_f (fun h => hh ((HBAD.out (h.2.2.1 k hkD)).2.1 h0)) HB.out rfl
                      · have HH2 : Hid (∀ j, j < u + 1 → 0 < T.x k j → HasN (D.l k) (D.x k) j) := fun j hj hp => by
                          by_cases e : j = u
                          · subst e; exact absurd hp h0
                          · exact HH.out j (by omega) hp
                        clear HH
                        go_wp2
                        go_roundw
                        case rel => exact ⟨u + 1, _, by omega, by go_num, rfl, by omega, by omega, HQ2, HNN2, HH2, HR2, HB2⟩
                        case measure => simp [intOf] <;> omega
                · have : u = D.n := by have := HL.out; omega
                  subst this
                  have HA2 : Hid (∀ i, i < k + 1 → PayRow D T i) := fun i hi => by
                    by_cases e : i = k
                    · subst e
                      have h3 := HQ.out
                      have h4 := HM.out
                      exact ⟨HL.out, HNN.out, HH.out, by omega⟩
                    · exact HA.out i (by omega)
                  have HR2 := hid (HR.out.congr (y := fun j => colS T j (k + 1)) fun j hj => by rw [if_pos hj]; rfl)
                  clear HQ HNN HH HR
                  go_wp2
                  go_roundw
                  case rel => exact ⟨k + 1, by omega, by go_num, HA2, HR2, HB⟩
                  case measure => simp [intOf] <;> omega
          · have hlz : ((T.l k : Int) != (D.n : Int)) = true := by simp; omega
            have HL := hid hl
            clear hl
            go_wp2
            go_ret
            exact .mk_f (fun h => HL.out (h.2.2.1 k hkD).1) HB.out rfl
        · have : k = T.n := by omega
          subst this
          rw [HN.out] at HR HA
          go_wp2
          go_loopw [84] (fun i wr => ∃ j : Nat, j ≤ D.n ∧ i = .int .i64 j ∧ Hid (∀ i, i < j → colS T i D.n ≤ max (-D.p i) 0) ∧ Hid (RowN wr w1.heap.size D.n (fun j => colS T j D.n)) ∧ Hid (Below w.heap.size w wr)) (fun i _ => D.n - (intOf i).toNat)
          case atStart => exact ⟨0, by omega, rfl, fun j hj => absurd hj (by omega), HR, HB⟩
          case round =>
            clear HR HB
            obtain ⟨j, hj, rfl, HS, HR, HB⟩ := hrel
            by_cases hlt : j < D.n
            · have hltz : (j : Int) < (D.n : Int) := by omega
              obtain ⟨b', o', C', cc', hAq, e1, e2, e3⟩ := (HX.out.below HB.out).at_ hlt
              obtain rfl := hAq
              have hpk := (HOK.out.2 j hlt).1
              have c3 : ∀ ob, (wr.alloc ob).cell? ⟨w1.heap.size, j, none⟩ = some (.int .i64 (colS T j D.n)) := fun ob => (HR.out.alloc ob).cell hlt
              have c3' := HR.out.cell hlt
              have hgl : w1.heap.size < wr.heap.size := World.rowIs.lt HR.out
              have HR2 := hid (HR.out.alloc (.cells #[.int .i64 (D.p j), .slice C' (D.l j) cc'] 48))
              have HB2 := hid (HB.out.alloc HB.out.size (.cells #[.int .i64 (D.p j), .slice C' (D.l j) cc'] 48))
              by_cases hle : colS T j D.n ≤ max (-D.p j) 0
              · have HS2 : Hid (∀ i, i < j + 1 → colS T i D.n ≤ max (-D.p i) 0) := fun i hi => by
                  by_cases e : i = j
                  · subst e; exact hle
                  · exact HS.out i (by omega)
                by_cases hp0 : -D.p j < 0
                · go_wp2
                  go_region
                  go_wp2
                  go_roundw
                  case rel => exact ⟨j + 1, by omega, by go_num, HS2, hid HR2.out, hid HB2.out.drew⟩
                  case measure => simp [intOf] <;> omega
                · have hle2 : colS T j D.n ≤ -D.p j := by omega
                  go_wp2
                  go_region
                  go_wp2
                  go_roundw
                  case rel => exact ⟨j + 1, by omega, by go_num, HS2, hid HR2.out, hid HB2.out.drew⟩
                  case measure => simp [intOf] <;> omega
              · have HLE := hid hle
                by_cases hp0 : -D.p j < 0
                · have hle2 : ¬ colS T j D.n ≤ 0 := by omega
                  clear hle
                  go_wp2
                  go_region
                  go_wp2
                  go_ret
                  exact .mk_f (fun h => by have := HLE.out; have := h.2.2.2 j hlt; omega) HB2.out.drew rfl
                · have hle2 : ¬ colS T j D.n ≤ -D.p j := by omega
                  clear hle
                  go_wp2
                  go_region
                  go_wp2
                  go_ret
                  exact .mk_f (fun h => by have := HLE.out; have := h.2.2.2 j hlt; omega) HB2.out.drew rfl
            · have : j = D.n := by omega
              subst this
              go_wp2
              go_ret
              exact .mk_t ⟨HOK.out, HN.out, HA.out, HS.out⟩ HB.out rfl
    · have hn0 : ((T.n : Int) != (D.n : Int)) = true := by simp; omega
      have HN := hid hn
      clear hn
      go_enter Try.func45, Try.ntmps45
      go_wp2_with (go_at_call 17; refine (RetB.yes (PitValid_impl A D c w hx hs) hok).mono ?_; rintro e w1 ⟨rfl, hb⟩)
      go_ret
      exact .mk_f (fun h => HN.out h.2.1) hb rfl
  · go_enter Try.func45, Try.ntmps45
    go_wp2_with (go_at_call 17; refine (RetB.no (PitValid_impl A D c w hx hs) hok).mono ?_; rintro e w1 ⟨rfl, hb⟩)
    go_ret
    exact .mk_f (fun h => hok h.1) hb rfl

set_option maxRecDepth 20000 in
set_option maxHeartbeats 1600000 in
theorem PayOk_spec (A B : Option Addr) (D T : PitD) (c d : Nat) (w : World) (hx : PitAt w A D) (hs : PitSmall D) (hy : RowsAt w B T) (ht : PitSmall T) :
    Calls Try.prog 43 #[.slice A D.n c, .slice B T.n d] w (RetB (PayP D T) w) := by
  by_cases hok : PitOk D
  · by_cases hn : T.n = D.n
    · have hn0 : ((T.n : Int) != (D.n : Int)) = false := by simp [hn]
      have h8 := hok.1
      have HOK := hid hok
      have HN := hid hn
      have HTL := hid ht.2
      have HDL := hid hs.2
      have HX := hid hx
      have HY := hid hy
      have HV := hid (fun w' hx' => RetB.yes (PitValid_spec A D c w' hx' hs) hok)
      have hmk := run_make_row' (P := Try.prog) 33 3 (.int .i64 0) 8 Try.underlying33 info3 rfl .i64 .i64 D.n (by omega) (by omega)
      clear hok hn hx hy ht hs
      go_enter Try.func43, Try.ntmps43
      go_wp2_with fail
      refine (HV.out _ HX.out).mono ?_
      rintro e w1 ⟨rfl, hb1⟩
      go_wp2
      clear hmk
      go_loopw [6] (fun i wr => ∃ k : Nat, k ≤ D.n ∧ i = .int .i64 k ∧ Hid (∀ i, i < k → PayRow D T i) ∧ Hid (RowN wr w1.heap.size D.n (fun j => colS T j k)) ∧ Hid (Below w.heap.size w wr)) (fun i _ => D.n - (intOf i).toNat)
      case atStart => exact ⟨0, by omega, rfl, fun j hj => absurd hj (by omega), (World.rowIs_made w1 _ D.n 3).congr (fun j _ => rfl), hb1.alloc hb1.size _⟩
      case round =>
        have hg := hb1.size
        clear hb1
        obtain ⟨k, hk, rfl, HA, HR, HB⟩ := hrel
        by_cases hlt : k < D.n
        · have hkT : k < T.n := by have := HN.out; omega
          obtain ⟨b, o, C, cc, hBq, a10, a20⟩ := HY.out.at_ hkT
          have a1 := cell_below HB.out a10
          have hltz : (k : Int) < (D.n : Int) := by omega
          have hkTz : (k : Int) < (T.n : Int) := by omega
          obtain ⟨b', o', C', cc', hAq, e10, e20, e30⟩ := HX.out.at_ hlt
          have hpk := (HOK.out.2 k hlt).1
          obtain rfl := hBq
          obtain rfl := hAq
          by_cases hl : T.l k = D.n
          · have hlz : ((T.l k : Int) != (D.n : Int)) = false := by simp [hl]
            have HL := hid hl
            have hl8 : T.l k ≤ 8 := by omega
            clear hl
            go_wp2
            go_loopw [7, 8] (fun l i wr => ∃ u : Nat, u ≤ D.n ∧ i = .int .i64 u ∧ l = .int .i64 (sumN u (T.x k)) ∧ Hid (∀ j, j < u → 0 ≤ T.x k j ∧ T.x k j ≤ 20) ∧ Hid (∀ j, j < u → 0 < T.x k j → HasN (D.l k) (D.x k) j) ∧ Hid (0 ≤ sumN u (T.x k) ∧ sumN u (T.x k) ≤ 20 * (u : Int)) ∧ Hid (RowN wr w1.heap.size D.n (fun j => colS T j k + if j < u then T.x k j else 0)) ∧ Hid (Below w.heap.size w wr)) (fun _ i _ => D.n - (intOf i).toNat)
            case atStart => exact ⟨0, by omega, rfl, rfl, fun j hj => absurd hj (by omega), fun j hj => absurd hj (by omega), by show _ ∧ _; simp [sumN], HR.out.congr (fun j _ => by simp), HB⟩
            case round =>
              clear HR HB a1
              obtain ⟨u, hu, rfl, rfl, HNN, HH, HS, HR, HB⟩ := hrel
              have a1 := cell_below HB.out a10
              by_cases hul : u < D.n
              · have hulT : u < T.l k := by have := HL.out; omega
                obtain ⟨b4, o4, rfl, hc⟩ := a20.below HB.out (by omega)
                have c1 : wr.cell? ⟨b4, o4 + u, none⟩ = some (.int .i64 (T.x k u)) := hc u hulT
                have hulz : (u : Int) < (D.n : Int) := by omega
                have hulTz : (u : Int) < (T.l k : Int) := by omega
                have e2 := cell_below HB.out e20
                have e3 := e30.below HB.out
                clear hc
                have hcb := colS_bd HOK.out hul k (by omega) HA.out
                have c3 : wr.cell? ⟨w1.heap.size, u, none⟩ = some (.int .i64 (colS T u k)) := by simpa using HR.out.cell hul
                have c4 := HR.out.froz u
                have HBAD : Hid (∀ h : PayRow D T k, (0 ≤ T.x k u ∧ T.x k u ≤ 20) ∧ (0 < T.x k u → HasN (D.l k) (D.x k) u)) := fun h => ⟨⟨h.2.1 u hul, by have := h.le hul; omega⟩, h.2.2.1 u hul⟩
                by_cases hin : 0 ≤ T.x k u ∧ T.x k u ≤ 20
                · obtain ⟨hin1, hin2⟩ := hin
                  have hsb := HS.out
                  have HR2 := hid ((HR.out.set u (colS T u k + T.x k u)).congr (y := fun j => colS T j k + if j < u + 1 then T.x k j else 0) fun j hj => by
                    by_cases e : j = u
                    · subst e; simp
                    · rw [if_neg e]
                      by_cases e2 : j < u
                      · rw [if_pos e2, if_pos (by omega)]
                      · rw [if_neg e2, if_neg (by omega)])
                  have HB2 := hid (HB.out.setCell (p := ⟨w1.heap.size, u, none⟩) hg (.int .i64 (colS T u k + T.x k u)))
                  have HNN2 : Hid (∀ j, j < u + 1 → 0 ≤ T.x k j ∧ T.x k j ≤ 20) := fun j hj => by
                    by_cases e : j = u
                    · subst e; exact ⟨hin1, hin2⟩
                    · exact HNN.out j (by omega)
                  have HS2 : Hid (0 ≤ sumN (u + 1) (T.x k) ∧ sumN (u + 1) (T.x k) ≤ 20 * ((u + 1 : Nat) : Int)) := by
                    have h5 : sumN (u + 1) (T.x k) = sumN u (T.x k) + T.x k u := rfl
                    show _ ∧ _
                    omega
                  have HE : Hid (sumN (u + 1) (T.x k) = sumN u (T.x k) + T.x k u) := rfl
                  clear HNN HR HS
                  by_cases h0 : 0 < T.x k u
                  · by_cases hh : HasN (D.l k) (D.x k) u
                    · have HH2 : Hid (∀ j, j < u + 1 → 0 < T.x k j → HasN (D.l k) (D.x k) j) := fun j hj hp => by
                        by_cases e : j = u
                        · subst e; exact hh
                        · exact HH.out j (by omega) hp
                      clear HH
                      go_wp2_with (first | (go_at_call 48; refine (l1In_y _ _ _ _ hin1 hin2).mono ?_; rintro e w' ⟨rfl, rfl⟩) | (go_at_call 55; refine (RetBS.yes (l1Has_any _ (D.l k) _ (D.x k) _ _ e3 (HDL.out k hlt)) hh).mono ?_; rintro e w' ⟨rfl, rfl⟩))
                      go_region
                      go_wp2
                      go_roundw
                      case rel => exact ⟨u + 1, by omega, by go_num, by rw [HE.out], HNN2, HH2, HS2, hid HR2.out, hid HB2.out.drew⟩
                      case measure => simp [intOf] <;> omega
                    · go_wp2_with (first | (go_at_call 48; refine (l1In_y _ _ _ _ hin1 hin2).mono ?_; rintro e w' ⟨rfl, rfl⟩) | (go_at_call 55; refine (RetBS.no (l1Has_any _ (D.l k) _ (D.x k) _ _ e3 (HDL.out k hlt)) hh).mono ?_; rintro e w' ⟨rfl, rfl⟩))
                      go_ret
                      exact .mk_f (fun h => hh ((HBAD.out (h.2.2.1 k hlt)).2 h0)) HB.out rfl
                  · have HH2 : Hid (∀ j, j < u + 1 → 0 < T.x k j → HasN (D.l k) (D.x k) j) := fun j hj hp => by
                      by_cases e : j = u
                      · subst e; exact absurd hp h0
                      · exact HH.out j (by omega) hp
                    clear HH
                    go_wp2_with (go_at_call 48; refine (l1In_y _ _ _ _ hin1 hin2).mono ?_; rintro e w' ⟨rfl, rfl⟩)
                    go_region
                    go_wp2
                    go_roundw
                    case rel => exact ⟨u + 1, by omega, by go_num, by rw [HE.out], HNN2, HH2, HS2, hid HR2.out, hid HB2.out.drew⟩
                    case measure => simp [intOf] <;> omega
                · have HIN := hid hin
                  clear hin
                  go_wp2_with (go_at_call 48; refine (l1In_n _ _ _ _ HIN.out).mono ?_; rintro e w' ⟨rfl, rfl⟩)
                  go_ret
                  exact .mk_f (fun h => HIN.out (HBAD.out (h.2.2.1 k hlt)).1) HB.out rfl
              · have : u = D.n := by omega
                subst this
                have e1 := cell_below HB.out e10
                by_cases hle : sumN D.n (T.x k) ≤ max (D.p k) 0
                · have HA2 : Hid (∀ i, i < k + 1 → PayRow D T i) := fun i hi => by
                    by_cases e : i = k
                    · subst e
                      exact ⟨HL.out, fun j hj => (HNN.out j hj).1, HH.out, hle⟩
                    · exact HA.out i (by omega)
                  have HR2 := hid (HR.out.congr (y := fun j => colS T j (k + 1)) fun j hj => by rw [if_pos hj]; rfl)
                  clear HNN HH HR
                  by_cases hp0 : D.p k < 0
                  · have hle2 : sumN D.n (T.x k) ≤ 0 := by omega
                    go_wp2
                    go_roundw
                    case rel => exact ⟨k + 1, by omega, by go_num, HA2, HR2, HB⟩
                    case measure => simp [intOf] <;> omega
                  · have hle2 : sumN D.n (T.x k) ≤ D.p k := by omega
                    go_wp2
                    go_roundw
                    case rel => exact ⟨k + 1, by omega, by go_num, HA2, HR2, HB⟩
                    case measure => simp [intOf] <;> omega
                · have HLE := hid hle
                  by_cases hp0 : D.p k < 0
                  · have hle2 : ¬ sumN D.n (T.x k) ≤ 0 := by omega
                    clear hle
                    go_wp2
                    go_ret
                    exact .mk_f (fun h => by have := HLE.out; have := (h.2.2.1 k hlt).2.2.2; omega) HB.out rfl
                  · have hle2 : ¬ sumN D.n (T.x k) ≤ D.p k := by omega
                    clear hle
                    go_wp2
                    go_ret
                    exact .mk_f (fun h => by have := HLE.out; have := (h.2.2.1 k hlt).2.2.2; omega) HB.out rfl
          · have hlz : ((T.l k : Int) != (D.n : Int)) = true := by simp; omega
            have HL := hid hl
            clear hl
            go_wp2
            go_ret
            exact .mk_f (fun h => HL.out (h.2.2.1 k hlt).1) HB.out rfl
        · have : k = D.n := by omega
          subst this
          go_wp2
          go_loopw [9] (fun i wr => ∃ j : Nat, j ≤ D.n ∧ i = .int .i64 j ∧ Hid (∀ i, i < j → colS T i D.n ≤ max (-D.p i) 0) ∧ Hid (RowN wr w1.heap.size D.n (fun j => colS T j D.n)) ∧ Hid (Below w.heap.size w wr)) (fun i _ => D.n - (intOf i).toNat)
          case atStart => exact ⟨0, by omega, rfl, fun j hj => absurd hj (by omega), HR, HB⟩
          case round =>
            clear HR HB
            obtain ⟨j, hj, rfl, HS, HR, HB⟩ := hrel
            by_cases hlt : j < D.n
            · have hltz : (j : Int) < (D.n : Int) := by omega
              obtain ⟨b', o', C', cc', hAq, e1, e2, e3⟩ := (HX.out.below HB.out).at_ hlt
              obtain rfl := hAq
              have hpk := (HOK.out.2 j hlt).1
              have c3' := HR.out.cell hlt
              by_cases hle : colS T j D.n ≤ max (-D.p j) 0
              · have HS2 : Hid (∀ i, i < j + 1 → colS T i D.n ≤ max (-D.p i) 0) := fun i hi => by
                  by_cases e : i = j
                  · subst e; exact hle
                  · exact HS.out i (by omega)
                by_cases hp0 : -D.p j < 0
                · go_wp2
                  go_region
                  go_wp2
                  go_roundw
                  case rel => exact ⟨j + 1, by omega, by go_num, HS2, hid HR.out, hid HB.out.drew⟩
                  case measure => simp [intOf] <;> omega
                · have hle2 : colS T j D.n ≤ -D.p j := by omega
                  go_wp2
                  go_region
                  go_wp2
                  go_roundw
                  case rel => exact ⟨j + 1, by omega, by go_num, HS2, hid HR.out, hid HB.out.drew⟩
                  case measure => simp [intOf] <;> omega
              · have HLE := hid hle
                by_cases hp0 : -D.p j < 0
                · have hle2 : ¬ colS T j D.n ≤ 0 := by omega
                  clear hle
                  go_wp2
                  go_region
                  go_wp2
                  go_ret
                  exact .mk_f (fun h => by have := HLE.out; have := h.2.2.2 j hlt; omega) HB.out.drew rfl
                · have hle2 : ¬ colS T j D.n ≤ -D.p j := by omega
                  clear hle
                  go_wp2
                  go_region
                  go_wp2
                  go_ret
                  exact .mk_f (fun h => by have := HLE.out; have := h.2.2.2 j hlt; omega) HB.out.drew rfl
            · have : j = D.n := by omega
              subst this
              go_wp2
              go_ret
              exact .mk_t ⟨HOK.out, HN.out, HA.out, HS.out⟩ HB.out rfl
    · have hn0 : ((T.n : Int) != (D.n : Int)) = true := by simp; omega
      have HN := hid hn
      clear hn
      go_enter Try.func43, Try.ntmps43
      go_wp2_with (go_at_call 15; refine (RetB.yes (PitValid_spec A D c w hx hs) hok).mono ?_; rintro e w1 ⟨rfl, hb⟩)
      go_ret
      exact .mk_f (fun h => HN.out h.2.1) hb rfl
  · go_enter Try.func43, Try.ntmps43
    go_wp2_with (go_at_call 15; refine (RetB.no (PitValid_spec A D c w hx hs) hok).mono ?_; rintro e w1 ⟨rfl, hb⟩)
    go_ret
    exact .mk_f (fun h => hok h.1) hb rfl
end Go.Proofs.Ytekngpinldiodaa
