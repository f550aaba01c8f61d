/- reachedFrom of the program: whence each point is reached over what is free. -/
import Derived.Test.YtekngpinldiodaaReachP
import Derived.Test.YtekngpinldiodaaTabl
import Derived.Test.YtekngpinldiodaaQueue
import Derived.Deep.LoopGhost
namespace Go.Proofs.Ytekngpinldiodaa
open Go.RowKit

def RetR (N s : Nat) (T : Nat → Nat → Int) (w : World) (e : Ending) (w' : World) : Prop := ∃ cf : Nat → Int, e = .returned (.slice (some ⟨w.heap.size, 0, none⟩) N N) ∧ w'.rowIs w.heap.size 3 N (fun j => .int .i64 (cf j)) ∧ Reached N s T cf ∧ Below w.heap.size w w'
theorem _root_.Go.World.rowIs.low_ {w w' : World} {g n : Nat} {e : TypeId} {f : Nat → Value} (h : w.rowIs g e n f) (hb : w'.heap[g]? = w.heap[g]?) : w'.rowIs g e n f := by
  obtain ⟨cs, h1, h2⟩ := h
  exact ⟨cs, hb.trans h1, h2⟩
set_option maxRecDepth 20000 in
set_option maxHeartbeats 1600000 in
theorem reachedFrom_any (g0 N cA s : Nat) (r : Nat → Nat) (T : Nat → Nat → Int) (w : World) (ht : Tab w g0 N N r T N) (hN : N ≤ 1048576) (hs : s < N) :
    Calls Try.prog 60 #[.slice (some ⟨g0, 0, none⟩) N cA, .int .i64 s] w (RetR N s T w) := by
  have HT := hid ht
  have hsz : (s : Int) < (N : Int) := by omega
  clear ht
  go_enter Try.func60, Try.ntmps60
  go_wp2_with fail
  refine (noTimes_any N w hN).mono ?_
  rintro ex w1 ⟨rfl, hr1, hb1⟩
  have HR1 := hid (hr1.set s (.int .i64 s))
  have hgl := hr1.lt
  have c1 := hr1.cell hs
  have c2 := hr1.frozen s
  have HB1 := hid (hb1.setCell (p := ⟨w.heap.size, s, none⟩) (Nat.le_refl _) (.int .i64 s))
  have HR2 : Hid (((w1.setCell ⟨w.heap.size, s, none⟩ (.int .i64 s)).alloc (.cells #[.int .i64 s] 3)).rowIs w.heap.size 3 N (fun j => .int .i64 (if j = s then (s : Int) else -1))) := hid ((row_below (below_alloc1 _ _) HR1.out).congr fun j hj => by
    by_cases e : j = s
    · simp [e]
    · simp [e])
  have hsw : w1.heap.size ≤ (w1.setCell ⟨w.heap.size, s, none⟩ (.int .i64 s)).heap.size := by simp [World.setCell]
  have hse : (w1.setCell ⟨w.heap.size, s, none⟩ (.int .i64 s)).heap.size = w1.heap.size := by simp [World.setCell]
  have hq0 := QS.one (w := w1.setCell ⟨w.heap.size, s, none⟩ (.int .i64 s)) hsw s
  rw [hse] at hq0
  have HQ0 := hid hq0
  clear hq0 hse
  have HB2 := hid (HB1.out.alloc HB1.out.size (.cells #[.int .i64 s] 3))
  have HS := hid (BRo.start (T := T) hs)
  clear hr1 hb1 HR1 HB1
  go_wp2
  go_loopg [6] (N + 1) (fun gg qv wr => ∃ (cf : Nat → Int) (q : List Int) (l : Nat), Hid (wr.rowIs w.heap.size 3 N (fun j => .int .i64 (cf j))) ∧ Hid (QS wr w1.heap.size qv q) ∧ Hid (BRo N s T cf q l) ∧ Hid (Below w.heap.size w wr ∧ w1.heap.size ≤ wr.heap.size ∧ q.length ≤ N + 1) ∧ Hid (l ≤ gg ∧ gg ≤ N + 1))
  case atStart =>
    obtain ⟨l, hl, hS⟩ := HS.out
    exact ⟨_, [(s : Int)], l, HR2, HQ0, hid hS, hid ⟨HB2.out, by simp [World.setCell], by simp⟩, hid ⟨hl, by omega⟩⟩
  case round =>
    clear HR2 HQ0 HB2 HS c1 c2
    obtain ⟨cf, q, l, HR, HQQ, HBO, HB, HL⟩ := hrel
    cases q with
    | nil =>
      obtain ⟨A, cc, rfl, _⟩ := HQQ.out
      go_wp2
      go_ret
      exact ⟨cf, rfl, HR.out, HBO.out.reached, HB.out.1⟩
    | cons z q =>
      obtain ⟨c, rfl, hF⟩ := HBO.out.pop
      have HF := hid hF
      have hcN := hF.2.1
      have hcz : (c : Int) < (N : Int) := by omega
      obtain ⟨g, o, cp, rfl, hc1, hc2, hc3, hq3⟩ := QS.head (x := (c : Int)) (l := q) HQQ.out
      have HQ2 := hid hq3
      have t1 := (HT.out.below HB.out.1).row hcN hcN
      replace HB : Hid (Below w.heap.size w wr ∧ w1.heap.size ≤ wr.heap.size ∧ q.length ≤ N + 1) := hid ⟨HB.out.1, HB.out.2.1, by have := HB.out.2.2; simp at this; omega⟩
      clear hq3 HQQ HBO hF
      by_cases hcp : cp = 1
      · have hq := HQ2.out
        rw [if_pos hcp] at hq
        have hq0 : q = [] := by
          cases q with
          | nil => rfl
          | cons _ _ => simp at hc1; omega
        subst hcp
        subst hq0
        simp only [Nat.sub_self, List.length_nil] at hq
        have HQ3 := hid hq
        clear hq HQ2
        simp only [List.length_nil, Nat.zero_add]
        go_wp2
        go_loopw [6, 32] (fun qv i wr => ∃ (k : Nat) (cf : Nat → Int) (q : List Int), k ≤ N ∧ i = .int .i64 k ∧ Hid (wr.rowIs w.heap.size 3 N (fun j => .int .i64 (cf j))) ∧ Hid (QS wr w1.heap.size qv q) ∧ Hid (BRi N s T cf q l c k) ∧ Hid (Below w.heap.size w wr ∧ w1.heap.size ≤ wr.heap.size ∧ q.length ≤ N + 1)) (fun _ i _ => N - (intOf i).toNat)
        case atStart => exact ⟨0, cf, [], by omega, rfl, HR, HQ3, HF, HB⟩
        case round =>
          clear HR HQ3 HF HB hc1 hc2 hc3
          obtain ⟨k, cf, q, hk, rfl, HR, HQ3, HF, HB⟩ := hrel
          have hTT := hid (HT.out.below HB.out.1)
          have hcN := HF.out.2.1
          by_cases hlt : k < N
          · have hltz : (k : Int) < (N : Int) := by omega
            have c1 := hTT.out.cell hcN hlt
            have c2 := HR.out.cell hlt
            have c3 := HR.out.frozen k
            have hg1 : w.heap.size < w1.heap.size := hgl
            by_cases hp : 0 < T c k
            · have d1 : decide ((0 : Int) < T c k) = true := decide_eq_true hp
              by_cases hneg : cf k < 0
              · have d2 : decide (cf k < 0) = true := decide_eq_true hneg
                have HF2 := hid (HF.out.set hlt hp hneg)
                have HR2 := hid (HR.out.set k (.int .i64 c))
                have HQ4 := hid (HQ3.out.far (p := ⟨w.heap.size, k, none⟩) hg1 (.int .i64 c))
                have HB2 := hid (HB.out.1.setCell (p := ⟨w.heap.size, k, none⟩) (Nat.le_refl _) (.int .i64 c))
                have hsz : w1.heap.size ≤ (wr.setCell ⟨w.heap.size, k, none⟩ (.int .i64 c)).heap.size := by have := HB.out.2.1; simpa [World.setCell] using this
                have hql : q.length + 1 ≤ N + 1 := by
                  have h1 := HF2.out.1
                  simp at h1
                  have := HL.out
                  omega
                have hqb := HB.out.2.2
                have hse : (wr.setCell ⟨w.heap.size, k, none⟩ (.int .i64 c)).heap.size = wr.heap.size := by simp [World.setCell]
                have hce := (Blk.new (wr.setCell ⟨w.heap.size, k, none⟩ (.int .i64 c)) 3 #[.int .i64 k]).cell (i := 0) rfl
                rw [hse] at hce
                have HCE := hid hce
                have hsa : w1.heap.size ≤ ((wr.setCell ⟨w.heap.size, k, none⟩ (.int .i64 c)).alloc (.cells #[.int .i64 k] 3)).heap.size := by rw [World.size_alloc]; omega
                clear hp hneg hse hce
                have APP := fun ops rest o a Q hgd s x ho hs hx => app_q (w := (wr.setCell ⟨w.heap.size, k, none⟩ (.int .i64 c)).alloc (.cells #[.int .i64 k] 3)) (ops := ops) (rest := rest) (o := o) (a := a) (Q := Q) hgd s x ho w1.heap.size _ q hs (HQ4.out.alloc _) wr.heap.size (k : Nat) hx HCE.out (by omega) hsa
                go_wp2_with (at_builtin; refine APP _ _ _ _ _ rfl _ _ rfl rfl rfl ?_)
                intro A' c' w' hq' hb'
                have HBA := hid (hb' _ ((Below.refl _ (wr.setCell ⟨w.heap.size, k, none⟩ (.int .i64 c))).alloc hsz _))
                have HQ5 := hid hq'
                clear hq' hb'
                go_wp2
                go_roundw
                case rel => exact ⟨k + 1, fun v => if v = k then (c : Int) else cf v, q ++ [(k : Int)], by omega, by go_num, hid ((HR2.out.low_ (HBA.out.block _ hg1)).congr (fun j hj => by by_cases e : j = k <;> simp [e])), by simpa using HQ5, HF2, hid ⟨HB2.out.trans (HBA.out.mono (by omega)), by have := HBA.out.size; omega, by simpa using hql⟩⟩
                case measure => simp [intOf] <;> omega
              · have d2 : decide (cf k < 0) = false := decide_eq_false hneg
                have HF2 := hid (HF.out.skip (fun _ => by omega))
                clear hp hneg
                go_wp2
                go_roundw
                case rel => exact ⟨k + 1, cf, q, by omega, by go_num, HR, HQ3, HF2, HB⟩
                case measure => simp [intOf] <;> omega
            · have d1 : decide ((0 : Int) < T c k) = false := decide_eq_false hp
              have HF2 := hid (HF.out.skip (fun h => absurd h hp))
              clear hp
              go_wp2
              go_roundw
              case rel => exact ⟨k + 1, cf, q, by omega, by go_num, HR, HQ3, HF2, HB⟩
              case measure => simp [intOf] <;> omega
          · have : k = N := by omega
            subst this
            have HD := hid HF.out.done
            go_wp2
            go_roundg (gk - 1)
            case measure => have := HL.out; have := HD.out.2; omega
            case rel => exact ⟨cf, q, l - 1, HR, HQ3, hid HD.out.1, HB, hid (by have := HL.out; omega)⟩
      · have hq := HQ2.out
        rw [if_neg hcp] at hq
        have HQ3 := hid hq
        clear hq HQ2
        go_wp2
        go_loopw [6, 32] (fun qv i wr => ∃ (k : Nat) (cf : Nat → Int) (q : List Int), k ≤ N ∧ i = .int .i64 k ∧ Hid (wr.rowIs w.heap.size 3 N (fun j => .int .i64 (cf j))) ∧ Hid (QS wr w1.heap.size qv q) ∧ Hid (BRi N s T cf q l c k) ∧ Hid (Below w.heap.size w wr ∧ w1.heap.size ≤ wr.heap.size ∧ q.length ≤ N + 1)) (fun _ i _ => N - (intOf i).toNat)
        case atStart => exact ⟨0, cf, q, by omega, rfl, HR, HQ3, HF, HB⟩
        case round =>
          clear HR HQ3 HF HB hc1 hc2 hc3
          obtain ⟨k, cf, q, hk, rfl, HR, HQ3, HF, HB⟩ := hrel
          have hTT := hid (HT.out.below HB.out.1)
          have hcN := HF.out.2.1
          by_cases hlt : k < N
          · have hltz : (k : Int) < (N : Int) := by omega
            have c1 := hTT.out.cell hcN hlt
            have c2 := HR.out.cell hlt
            have c3 := HR.out.frozen k
            have hg1 : w.heap.size < w1.heap.size := hgl
            by_cases hp : 0 < T c k
            · have d1 : decide ((0 : Int) < T c k) = true := decide_eq_true hp
              by_cases hneg : cf k < 0
              · have d2 : decide (cf k < 0) = true := decide_eq_true hneg
                have HF2 := hid (HF.out.set hlt hp hneg)
                have HR2 := hid (HR.out.set k (.int .i64 c))
                have HQ4 := hid (HQ3.out.far (p := ⟨w.heap.size, k, none⟩) hg1 (.int .i64 c))
                have HB2 := hid (HB.out.1.setCell (p := ⟨w.heap.size, k, none⟩) (Nat.le_refl _) (.int .i64 c))
                have hsz : w1.heap.size ≤ (wr.setCell ⟨w.heap.size, k, none⟩ (.int .i64 c)).heap.size := by have := HB.out.2.1; simpa [World.setCell] using this
                have hql : q.length + 1 ≤ N + 1 := by
                  have h1 := HF2.out.1
                  simp at h1
                  have := HL.out
                  omega
                have hqb := HB.out.2.2
                have hse : (wr.setCell ⟨w.heap.size, k, none⟩ (.int .i64 c)).heap.size = wr.heap.size := by simp [World.setCell]
                have hce := (Blk.new (wr.setCell ⟨w.heap.size, k, none⟩ (.int .i64 c)) 3 #[.int .i64 k]).cell (i := 0) rfl
                rw [hse] at hce
                have HCE := hid hce
                have hsa : w1.heap.size ≤ ((wr.setCell ⟨w.heap.size, k, none⟩ (.int .i64 c)).alloc (.cells #[.int .i64 k] 3)).heap.size := by rw [World.size_alloc]; omega
                clear hp hneg hse hce
                have APP := fun ops rest o a Q hgd s x ho hs hx => app_q (w := (wr.setCell ⟨w.heap.size, k, none⟩ (.int .i64 c)).alloc (.cells #[.int .i64 k] 3)) (ops := ops) (rest := rest) (o := o) (a := a) (Q := Q) hgd s x ho w1.heap.size _ q hs (HQ4.out.alloc _) wr.heap.size (k : Nat) hx HCE.out (by omega) hsa
                go_wp2_with (at_builtin; refine APP _ _ _ _ _ rfl _ _ rfl rfl rfl ?_)
                intro A' c' w' hq' hb'
                have HBA := hid (hb' _ ((Below.refl _ (wr.setCell ⟨w.heap.size, k, none⟩ (.int .i64 c))).alloc hsz _))
                have HQ5 := hid hq'
                clear hq' hb'
                go_wp2
                go_roundw
                case rel => exact ⟨k + 1, fun v => if v = k then (c : Int) else cf v, q ++ [(k : Int)], by omega, by go_num, hid ((HR2.out.low_ (HBA.out.block _ hg1)).congr (fun j hj => by by_cases e : j = k <;> simp [e])), by simpa using HQ5, HF2, hid ⟨HB2.out.trans (HBA.out.mono (by omega)), by have := HBA.out.size; omega, by simpa using hql⟩⟩
                case measure => simp [intOf] <;> omega
              · have d2 : decide (cf k < 0) = false := decide_eq_false hneg
                have HF2 := hid (HF.out.skip (fun _ => by omega))
                clear hp hneg
                go_wp2
                go_roundw
                case rel => exact ⟨k + 1, cf, q, by omega, by go_num, HR, HQ3, HF2, HB⟩
                case measure => simp [intOf] <;> omega
            · have d1 : decide ((0 : Int) < T c k) = false := decide_eq_false hp
              have HF2 := hid (HF.out.skip (fun h => absurd h hp))
              clear hp
              go_wp2
              go_roundw
              case rel => exact ⟨k + 1, cf, q, by omega, by go_num, HR, HQ3, HF2, HB⟩
              case measure => simp [intOf] <;> omega
          · have : k = N := by omega
            subst this
            have HD := hid HF.out.done
            go_wp2
            go_roundg (gk - 1)
            case measure => have := HL.out; have := HD.out.2; omega
            case rel => exact ⟨cf, q, l - 1, HR, HQ3, hid HD.out.1, HB, hid (by have := HL.out; omega)⟩
end Go.Proofs.Ytekngpinldiodaa
