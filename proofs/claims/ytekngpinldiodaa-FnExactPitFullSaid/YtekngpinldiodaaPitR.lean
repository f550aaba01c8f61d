/- Copies of lists of numbers; PitRaise, both. Lists are at most 2^20 long. -/
import Derived.Test.YtekngpinldiodaaPitNew
import Derived.Test.YtekngpinldiodaaPit3
import Derived.Deep.RegionHeld3
import Derived.Deep.RegionLaw
namespace Go.Proofs.Ytekngpinldiodaa
open Go.RowKit

/-- The numbers as a list. -/
def xsL (n : Nat) (x : Nat → Int) : List Int := (List.range n).map x
theorem xsL_len (n : Nat) (x : Nat → Int) : (xsL n x).length = n := by simp [xsL]
theorem xsL_get {n : Nat} {x : Nat → Int} {j : Nat} (hj : j < n) : (xsL n x).getD j 0 = x j := by simp [xsL, hj]
theorem xsL_vals (n : Nat) (x : Nat → Int) : (xsL n x).map (Value.int .i64) = (List.range n).map fun j => Value.int .i64 (x j) := by simp [xsL, Function.comp_def]
theorem ints_news {W : World} {A : Option Addr} {n : Nat} {x : Nat → Int} {ad : Addr} (hx : Ints W A n x) (hA : A = some ad) :
    ∀ j u, ((xsL n x).map (Value.int .i64))[j]? = some u → W.cell? (ad.add j) = some u := fun j u hu => by
  by_cases hj : j < n
  · obtain ⟨b, o, e, hc⟩ := hx (by omega)
    rw [hA] at e
    simp only [Option.some.injEq] at e
    subst e
    rw [xsL_vals] at hu
    simp [hj] at hu
    subst hu
    rw [Addr.add_lit]
    exact hc j hj
  · have : ((xsL n x).map (Value.int .i64))[j]? = none := by simp [xsL_len]; omega
    rw [this] at hu
    cases hu
theorem ints_one {n : Nat} {x : Nat → Int} : ∀ u ∈ (xsL n x).map (Value.int .i64), u.oneCell' = true := fun u hu => by
  obtain ⟨j, _, rfl⟩ := List.mem_map.1 hu
  rfl
theorem ownL_of {w : World} {B n : Nat} {v : Value} {x : Nat → Int} (h : w.ownsRow B 3 1 v n ((xsL n x).map (Value.int .i64))) : OwnL w B v (xsL n x) := by
  unfold OwnL
  rw [xsL_len]
  exact h

set_option maxRecDepth 100000 in
theorem CloneI_any (A : Option Addr) (n c : Nat) (x : Nat → Int) (w : World) (hx : Ints w A n x) (hn : n ≤ 1048576) :
    Calls Try.prog 57 #[.slice A n c] w (RetL (xsL n x) w) := by
  cases A with
  | none =>
    have hn0 : n = 0 := by
      by_cases h0 : 0 < n
      · obtain ⟨b, o, e, _⟩ := hx h0
        cases e
      · omega
    subst hn0
    have he : ∀ w : World, (binOp .eql 33 (.slice none 0 c) (.slice none 0 0)).run Try.prog w = .ok (.bool true) w := fun _ => rfl
    go_enter Try.func57, Try.ntmps57
    go_wp2
    go_ret
    exact ⟨_, rfl, OwnL.nil_ _ _, Below.refl _ _⟩
  | some ad =>
    obtain ⟨i0, hi, hz0, hz1, hz2⟩ := info_parts info3
    have he : ∀ w : World, (binOp .eql 33 (.slice (some ad) n c) (.slice none 0 0)).run Try.prog w = .ok (.bool false) w := fun _ => rfl
    have hw1 := (Below.refl w.heap.size w).alloc (Nat.le_refl _) (.cells #[] 3)
    have HOWN := hid (OwnL.lit0 (B := w.heap.size) w (Nat.le_refl _) #[] rfl)
    have HC := hid (ints_news (hx.below hw1) rfl)
    clear hx
    go_enter Try.func57, Try.ntmps57
    go_wp2_with (at_builtin; refine wpList_append_own _ rfl _ _ 33 rfl w.heap.size 3 i0 (.int .i64 0) 1 8 Try.underlying33 hi hz0 hz1 hz2 rfl (by decide) _ 0 [] rfl HOWN.out ad n c _ rfl (by simp [xsL_len]) HC.out ints_one (by unfold maxLen; omega) (by omega) (by simp) ?_)
    intro v' w' hown' hg _
    have HB := hid (hw1.grown hg (by simp) (fun k hk => (World.ownsRow.lt HOWN.out k hk).1))
    have HO := hid (ownL_of hown')
    clear hown' hg
    obtain ⟨A', c', rfl⟩ := HO.out.form
    go_wp2
    go_ret
    exact ⟨_, rfl, HO.out, HB.out⟩
/-- append to a list of the call's own, as one step of a region that draws. -/
theorem step_append_own {P : Program} {ops : Array Oper} {o : Oper} {a : Act} {w : World} {K : Act → World → Prop} {Q : Exit → Act → World → Prop} {E : Prop}
    (hg : o.guard = none) (s x : Operand) (t : TypeId) (hop : o.op = Op.call { callee := Callee.builtin Builtin.append, args := #[s, x], argTypes := #[t, t] })
    (base : Nat) (e : TypeId) (i : TypeInfo) (z : Value) (size bytes : Nat) (h1 : P.underlying t = some (.slice e)) (h2 : P.info? e = some i) (h3 : i.zero = some z) (h4 : i.size = size) (h5 : i.bytes = bytes) (h6 : z.cells.size = size) (h7 : 0 < size)
    (v : Value) (n : Nat) (xs : List Value) (hs : a.eval s = v) (hown : w.ownsRow base e size v n xs)
    (ad : Addr) (m c : Nat) (news : List Value) (hx : a.eval x = .slice (some ad) m c) (hn : news.length = m * size) (hc : ∀ j u, news[j]? = some u → w.cell? (ad.add j) = some u) (h1c : ∀ u ∈ news, u.oneCell' = true)
    (b1 : n + m ≤ maxLen) (b2 : (n + m) * bytes ≤ 140737488355328) (hbase : base ≤ w.heap.size)
    (hK : ∀ v' w', w'.ownsRow base e size v' (n + m) (xs ++ news) → w.grownBy w' v.ownBlock → (v'.ownBlock = v.ownBlock ∨ v'.ownBlock = some w.heap.size) → K (a.put o.dst v') w') :
    if Region.wanted o (yielded ops a.tmps) = true then Oper.wp P o a w K Q else E := by
  have hw : Region.wanted o (yielded ops a.tmps) = true := by simp [Region.wanted, hg]
  rw [if_pos hw]
  obtain ⟨v', w', hrun, r1, r2, _, r3⟩ := run_append_own_at (P := P) w base t o.type e i z size bytes h1 h2 h3 h4 h5 h6 h7 v n xs hown ad m c news hn hc h1c b1 b2 hbase
  unfold Oper.wp
  simp [execOp, hop, resolve, invoke, builtin, hs, hx, hrun, Result.andThen]
  exact hK v' w' r1 r2 r3
/-- The source is nil. -/
theorem step_append_none {P : Program} {ops : Array Oper} {o : Oper} {a : Act} {w : World} {K : Act → World → Prop} {Q : Exit → Act → World → Prop} {E : Prop}
    (hg : o.guard = none) (s x : Operand) (t : TypeId) (hop : o.op = Op.call { callee := Callee.builtin Builtin.append, args := #[s, x], argTypes := #[t, t] })
    (base : Nat) (e : TypeId) (i : TypeInfo) (size : Nat) (h1 : P.underlying t = some (.slice e)) (h2 : P.info? e = some i)
    (v : Value) (n : Nat) (xs : List Value) (hs : a.eval s = v) (hown : w.ownsRow base e size v n xs) (c : Nat) (hx : a.eval x = .slice none 0 c)
    (hK : K (a.put o.dst v) w) :
    if Region.wanted o (yielded ops a.tmps) = true then Oper.wp P o a w K Q else E := by
  have hw : Region.wanted o (yielded ops a.tmps) = true := by simp [Region.wanted, hg]
  rw [if_pos hw]
  have hrun : (Builtin.append_ #[t, t] o.type #[v, .slice none 0 c]).run P w = .ok v w := by
    rcases hown.2 with ⟨rfl, rfl⟩ | ⟨g, cap, cur, rfl, _, _, hnc, _⟩
    · simp [Builtin.append_, run_underlying h1, sizeOf, typeInfo, h2, Builtin.lenOf, Builtin.firstCells]
    · simp [Builtin.append_, run_underlying h1, sizeOf, typeInfo, h2, Builtin.lenOf, Builtin.firstCells, hnc, storeCells]
  unfold Oper.wp
  simp [execOp, hop, resolve, invoke, builtin, hs, hx, hrun, Result.andThen]
  exact hK

def raiP (D : PitD) (x : Int) (j : Nat) : Int := if 20 < D.p j + x then 20 else D.p j + x
def raiL (D : PitD) (j : Nat) : List Int := xsL (D.l j) (D.x j)
set_option maxRecDepth 20000 in
set_option maxHeartbeats 1600000 in
theorem PitRaise_impl (A : Option Addr) (D : PitD) (c : Nat) (x : Int) (w : World) (hx : PitAt w A D) (hs : PitSmall D) (hok : PitOk D) (h0 : 0 ≤ x) (h20 : x ≤ 20) :
    Calls Try.prog 30 #[.slice A D.n c, .int .i64 x] w (RetPM (mkPit D.n (raiP D x) (raiL D)) w) := by
  have hn := hs.1
  have h8 := hok.1
  have HO := hid hok
  have HL := hid hs.2
  have g1 : decide (x < 0) = false := decide_eq_false (by omega)
  have g2 : decide ((20 : Int) < x) = false := decide_eq_false (by omega)
  have hmk := run_make_wide (P := Try.prog) 25 48 _ 2 32 Try.underlying25 info48 .i64 .i64 D.n (by omega) (by omega)
  clear hok
  go_enter Try.func30, Try.ntmps30
  go_wp2_with (go_at_call 17; refine (RetB.yes (PitValid_impl A D c w hx hs) HO.out).mono ?_; rintro e w1 ⟨rfl, hb1⟩)
  clear hmk
  have HI0 := hid (PitI.start w1 D.n (raiP D x) (raiL D) (fun _ => .slice none 0 0))
  have HB0 : Hid (Below w1.heap.size w1 (w1.alloc (.cells (madeCells (Value.agg #[.int .i64 0, .slice none 0 0]).cells (D.n * 2)) 48))) := hid ((Below.refl _ _).alloc (Nat.le_refl _) _)
  have HB1 := hid hb1
  clear hb1
  go_loopw [24] (fun i wr => ∃ (k : Nat) (V : Nat → Value), k ≤ D.n ∧ i = .int .i64 k ∧ Hid (PitI wr w1.heap.size D.n k (raiP D x) (raiL D) V) ∧ Hid (Below w1.heap.size w1 wr)) (fun i _ => D.n - (intOf i).toNat)
  case atStart => exact ⟨0, _, by omega, rfl, HI0, HB0⟩
  case round =>
    clear HI0 HB0
    obtain ⟨k, V, hk, rfl, HI, HB⟩ := hrel
    by_cases hlt : k < D.n
    · obtain ⟨b, o, C, cc, rfl, a1, a2, a3⟩ := (hx.below (Below.then_ HB1.out HB.out)).at_ hlt
      have hltz : (k : Int) < (D.n : Int) := by omega
      have hp := (HO.out.2 k hlt).1
      have hlt1 := HI.out.lt
      have HA3 := hid (a3.below (((Below.refl wr.heap.size wr).alloc (Nat.le_refl _) (.cells #[.int .i64 (D.p k), .slice C (D.l k) cc] 48)).drew))
      have HW : Hid (Below wr.heap.size wr (wr.alloc (.cells #[.int .i64 (D.p k), .slice C (D.l k) cc] 48)).drew) := hid (((Below.refl wr.heap.size wr).alloc (Nat.le_refl _) (.cells #[.int .i64 (D.p k), .slice C (D.l k) cc] 48)).drew)
      have HBX := hid (Blk.new wr 48 #[.int .i64 (D.p k), .slice C (D.l k) cc])
      have hn1 : wr.heap.size ≠ w1.heap.size := by omega
      have hn2 : w1.heap.size ≠ wr.heap.size := by omega
      clear a3
      go_wp2
      go_region_held3 (fun W => W.cell? ⟨wr.heap.size, 0, none⟩ = some (.int .i64 (D.p k)) ∧ W.cell? ⟨wr.heap.size, 1, none⟩ = some (.slice C (D.l k) cc)) (go_keep) (first
          | (go_at_call 57; (with_reducible refine (CloneI_any C (D.l k) cc (D.x k) _ HA3.out (HL.out k hlt)).mono ?_); rintro e w5 ⟨v5, rfl, ho5, hb5⟩; have HI5 := hid (HI.out.below HW.out |>.below hb5); have HP5 := hid (PitI.push (k := k) HI.out (HW.out.trans (hb5.mono HW.out.size)) (ho5.base HW.out.size)); obtain ⟨A5, c5, rfl⟩ := ho5.form; obtain ⟨⟨x0, x1, n0, n1⟩, z0, z1⟩ := HI5.out.cells hlt; have HB5 := hid (((HB.out.trans ((HW.out.trans (hb5.mono HW.out.size)).mono HB.out.size)).setCell (p := ⟨w1.heap.size, k * 2, none⟩) (Nat.le_refl _) (.int .i64 (raiP D x k))).setCell (p := ⟨w1.heap.size, k * 2 + 1, none⟩) (Nat.le_refl _) (.slice A5 (xsL (D.l k) (D.x k)).length c5)); have y0 := (HBX.out.drew.below hb5).cell (i := 0) rfl; have y1 := (HBX.out.drew.below hb5).cell (i := 1) rfl; clear hb5 ho5 HI5; go_simp))
      all_goals
        go_wp2
        go_roundw
        case rel => exact ⟨k + 1, _, by omega, by go_num, HP5, HB5⟩
        case measure => simp [intOf]; omega
    · have : k = D.n := by omega
      subst this
      obtain ⟨G, hG⟩ := HI.out.done (lo := w.heap.size) HB1.out.size
      go_wp2
      go_ret
      exact ⟨_, _, _, G, rfl, hG, Below.then_ HB1.out HB.out⟩

theorem PitRaise_impl0 (A : Option Addr) (D : PitD) (c : Nat) (x : Int) (p : Nat → Int) (L : Nat → List Int) (w : World) (hx : PitAt w A D) (hs : PitSmall D) (hno : ¬ (PitOk D ∧ 0 ≤ x ∧ x ≤ 20)) :
    Calls Try.prog 30 #[.slice A D.n c, .int .i64 x] w (RetPM (mkPit 0 p L) w) := by
  by_cases hok : PitOk D
  · have HO := hid hok
    have HX : Hid (¬ (0 ≤ x ∧ x ≤ 20)) := hid (fun h => hno ⟨hok, h⟩)
    clear hok hno
    by_cases h0 : x < 0
    · have g1 : decide (x < 0) = true := decide_eq_true h0
      go_enter Try.func30, Try.ntmps30
      go_wp2_with (go_at_call 17; refine (RetB.yes (PitValid_impl A D c w hx hs) HO.out).mono ?_; rintro e w1 ⟨rfl, hb1⟩)
      go_ret
      exact ⟨none, 0, 0, _, rfl, PitM.none_ _ _ _ _ _ _, hb1⟩
    · have g1 : decide (x < 0) = false := decide_eq_false h0
      have g2 : decide ((20 : Int) < x) = true := decide_eq_true (by have := HX.out; omega)
      go_enter Try.func30, Try.ntmps30
      go_wp2_with (go_at_call 17; refine (RetB.yes (PitValid_impl A D c w hx hs) HO.out).mono ?_; rintro e w1 ⟨rfl, hb1⟩)
      go_ret
      exact ⟨none, 0, 0, _, rfl, PitM.none_ _ _ _ _ _ _, hb1⟩
  · go_enter Try.func30, Try.ntmps30
    go_wp2_with (go_at_call 17; refine (RetB.no (PitValid_impl A D c w hx hs) hok).mono ?_; rintro e w1 ⟨rfl, hb1⟩)
    go_ret
    exact ⟨none, 0, 0, _, rfl, PitM.none_ _ _ _ _ _ _, hb1⟩
end Go.Proofs.Ytekngpinldiodaa
