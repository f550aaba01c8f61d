/- FnLevelLeft: pumps never make water rise. -/
import Derived.Test.YtahbfifnpceoeaaDoorLawV
import Derived.Deep.RegionHeld3
import Derived.Deep.RegionLawGrows
namespace Go.Proofs.YtahbfifnpceoeaaDoor
open Go.ChangeShapes Go.WideShapes Go.ChangeAt Go.RowKit

theorem ints_news {W : World} {b o n : Nat} {x : Nat → Int} (hc : ∀ j, j < n → W.cell? ⟨b, o + j, none⟩ = some (.int .i64 (x j))) :
    ∀ j u, ((List.range n).map fun j => Value.int .i64 (x j))[j]? = some u → W.cell? ((⟨b, o, none⟩ : Addr).add j) = some u := fun j u hu => by
  by_cases hj : j < n
  · simp [hj] at hu
    subst hu
    rw [Addr.add_lit]
    exact hc j hj
  · have : ((List.range n).map fun j => Value.int .i64 (x j))[j]? = none := by simp; omega
    rw [this] at hu
    cases hu
theorem ints_one {n : Nat} {x : Nat → Int} : ∀ u ∈ (List.range n).map fun j => Value.int .i64 (x j), u.oneCell' = true := fun u hu => by
  obtain ⟨j, _, rfl⟩ := List.mem_map.1 hu
  rfl
theorem one_news {W : World} {b : Nat} {t : TypeId} {k : Int} (h : Blk W b t #[.int .i64 k]) : ∀ j u, [Value.int .i64 k][j]? = some u → W.cell? ((⟨b, 0, none⟩ : Addr).add j) = some u := fun j u hu => by
  match j, hu with
  | 0, hu => simp at hu; subst hu; rw [Addr.add_lit]; exact h.cell rfl
theorem own_ints_app {w : World} {B n : Nat} {x : Nat → Int} {k : Int} {v : Value} (h : w.ownsRow B 3 1 v (n + 1) (((List.range n).map fun j => Value.int .i64 (x j)) ++ [.int .i64 k])) :
    ∃ A c, v = .slice A (n + 1) c ∧ Ints w A (n + 1) (fun j => if j < n then x j else k) := by
  have e1 : ((List.range n).map x ++ [k]).length = n + 1 := by simp
  have h' : OwnL w B v ((List.range n).map x ++ [k]) := by
    unfold OwnL
    rw [e1]
    simpa [List.map_append, Function.comp_def] using h
  obtain ⟨A, c, hv, hi⟩ := h'.ints
  rw [e1] at hv hi
  refine ⟨A, c, hv, hi.congr (fun j hj => ?_)⟩
  by_cases hj' : j < n
  · simp [List.getD, hj', List.getElem?_append]
  · have : j = n := by omega
    subst this
    simp [List.getD]
theorem own_base {w : World} {B B' : Nat} {e : TypeId} {size : Nat} {v : Value} {n : Nat} {xs : List Value} (h : Own w B e size v n xs) (hB : B' ≤ B) : Own w B' e size v n xs := by
  refine ⟨h.1, ?_⟩
  rcases h.2 with hn | ⟨g, cap, cur, hv, hb, rest⟩
  · exact .inl hn
  · exact .inr ⟨g, cap, cur, hv, by omega, rest⟩
theorem blk_grown_B {w w' : World} {x y : Array Value} {t t' : TypeId} (h : ((w.alloc (.cells x t)).alloc (.cells y t')).drew.grownBy w' none) : Blk w' w.heap.size t x :=
  (h.block _ (by simp; omega) (by simp)).trans ((Blk.new w t x).alloc (.cells y t'))
theorem blk_grown_C {w w' : World} {x y : Array Value} {t t' : TypeId} (h : ((w.alloc (.cells x t)).alloc (.cells y t')).drew.grownBy w' none) : Blk w' (w.heap.size + 1) t' y := by
  have := Blk.new (w.alloc (.cells x t)) t' y
  rw [World.size_alloc] at this
  exact (h.block _ (by simp) (by simp)).trans this
/-- append of nothing, as one step of a region that draws. -/
theorem step_append_zero {P : Program} {ops : Array Oper} {o : Oper} {a : Act} {w : World} {K : Act → World → Prop} {Q : Exit → Act → World → Prop} {E : Prop}
    (hg : o.guard = none) (s x : Operand) (t : TypeId) (hop : o.op = Op.call { callee := Callee.builtin Builtin.append, args := #[s, x], argTypes := #[t, t] })
    (e : TypeId) (i : TypeInfo) (h1 : P.underlying t = some (.slice e)) (h2 : P.info? e = some i)
    (g n cap : Nat) (hs : a.eval s = .slice (some ⟨g, 0, none⟩) n cap) (hc : n ≤ cap) (A : Option Addr) (c : Nat) (hx : a.eval x = .slice A 0 c)
    (hK : K (a.put o.dst (.slice (some ⟨g, 0, none⟩) n cap)) w) :
    if Region.wanted o (yielded ops a.tmps) = true then Oper.wp P o a w K Q else E := by
  have hw : Region.wanted o (yielded ops a.tmps) = true := by simp [Region.wanted, hg]
  rw [if_pos hw]
  have hrun : (Builtin.append_ #[t, t] o.type #[.slice (some ⟨g, 0, none⟩) n cap, .slice A 0 c]).run P w = .ok (.slice (some ⟨g, 0, none⟩) n cap) w := by
    cases A with
    | none => simp [Builtin.append_, run_underlying h1, sizeOf, typeInfo, h2, Builtin.lenOf, Builtin.firstCells, hc, storeCells]
    | some ad => simp [Builtin.append_, run_underlying h1, sizeOf, typeInfo, h2, Builtin.lenOf, run_firstCells_some w i.size 0 ad 0 c [] (by simp) (by simp) (P := P), hc, storeCells]
  unfold Oper.wp
  simp [execOp, hop, resolve, invoke, builtin, hs, hx, hrun, Result.andThen]
  exact hK
theorem own_litB (w : World) (x : Array Value) (t : TypeId) : OwnL ((w.alloc (.cells x t)).alloc (.cells #[] 3)) w.heap.size (.slice (some ⟨w.heap.size + 1, 0, none⟩) 0 0) [] := by
  have h := OwnL.lit0 (w.alloc (.cells x t)) (B := w.heap.size) (by simp) #[] rfl
  rwa [World.size_alloc] at h
/-- A literal of nothing, and a list behind it. -/
theorem step_append_ints {P : Program} {ops : Array Oper} {o : Oper} {a : Act} {w : World} {K : Act → World → Prop} {Q : Exit → Act → World → Prop} {E : Prop}
    (hg : o.guard = none) (s x : Operand) (t : TypeId) (hop : o.op = Op.call { callee := Callee.builtin Builtin.append, args := #[s, x], argTypes := #[t, t] })
    (i : TypeInfo) (h1 : P.underlying t = some (.slice 3)) (h2 : P.info? 3 = some i) (h3 : i.zero = some (.int .i64 0)) (h4 : i.size = 1) (h5 : i.bytes = 8)
    (g B : Nat) (hs : a.eval s = .slice (some ⟨g, 0, none⟩) 0 0) (hown : OwnL w B (.slice (some ⟨g, 0, none⟩) 0 0) []) (hB : B ≤ w.heap.size)
    (A : Option Addr) (m c : Nat) (y : Nat → Int) (hx : a.eval x = .slice A m c) (hi : Ints w A m y) (hm : m ≤ 1048576)
    (hK : ∀ v' w', w'.ownsRow B 3 1 v' m ((List.range m).map fun j => Value.int .i64 (y j)) → w.grownBy w' none → K (a.put o.dst v') w') :
    if Region.wanted o (yielded ops a.tmps) = true then Oper.wp P o a w K Q else E := by
  by_cases h0 : m = 0
  · subst h0
    exact step_append_zero hg s x t hop 3 i h1 h2 g 0 0 hs (Nat.le_refl _) A c hx (hK _ _ hown ⟨rfl, rfl, rfl, Nat.le_refl _, fun _ _ _ => rfl⟩)
  · obtain ⟨b, ob, rfl, hc⟩ := hi (by omega)
    refine step_append_grows hg s x t hop 3 i (.int .i64 0) 1 8 h1 h2 h3 h4 h5 rfl (by decide) _ 0 0 [] hs (fun _ => ⟨rfl, rfl⟩) rfl (fun _ _ j u hu => by simp at hu) ⟨b, ob, none⟩ m c _ hx (by simp) (ints_news hc) ints_one (by omega) (by unfold maxLen; omega) (by omega) ?_
    intro v' w' ho hg'
    simp only [Nat.zero_add, List.nil_append] at ho
    exact hK v' w' (own_base ho hB) hg'

set_option maxRecDepth 20000 in
set_option maxHeartbeats 4000000 in
theorem FnLevelLeft_walk (A : Option Addr) (n c0 : Nat) (y : Nat → Int) (w : World) (htab : Pow10 w) (hx : Bytes w A n y) (hn : n ≤ c0) (hy : ∀ j, 0 ≤ y j ∧ y j < 256) :
    Calls Tryd.prog 10 #[.slice A n c0] w (RetV (.bool true) w) := by
  by_cases hbig : (n : Int) > 1048576
  · go_enter Tryd.func10, Tryd.ntmps10
    go_wp2
    go_ret
    exact ⟨rfl, Below.refl _ _⟩
  · go_enter Tryd.func10, Tryd.ntmps10
    go_wp2_with fail
    refine (DrawLevelLeft_any A n c0 y w hx hy hn).mono ?_
    rintro ex w1 ⟨F, G, S, D, c, d, e, L, A2, n2, c2, yy, ch, rfl, hD, hLb, hi, hn2, hyb, hch⟩
    have hs := hD.small
    have hsm := hD.sm
    have H1 := hid (LwC.start (c := c) (d := d) htab hD rfl)
    clear hx hD htab
    have HI1 := hid (hi.alloc (.cells #[.slice F D.n c, .slice G D.q d, .slice S D.m e] 26))
    clear hi
    go_wp2_with fail
    generalize w1.alloc (.cells #[.slice F D.n c, .slice G D.q d, .slice S D.m e] 26) = w2 at H1 HI1 ⊢
    generalize w1.heap.size = X at H1 ⊢

    refine (LevelLeft_implV F G S D c d e L A2 n2 c2 yy ch _ H1.out.cave hs HI1.out (by omega)).mono ?_
    rintro ex w3 ⟨rfl, hb'⟩
    have H2 := hid (H1.out.then_ hb')
    replace HI1 := hid (HI1.out.below hb')
    clear hb' H1
    have y0 := H2.out.box.cell (i := 0) rfl
    have y1 := H2.out.box.cell (i := 1) rfl
    have y2 := H2.out.box.cell (i := 2) rfl
    go_wp2_with fail
    refine (LevelLeft_specV F G S D c d e L A2 n2 c2 yy ch _ H2.out.cave hs HI1.out (by omega)).mono ?_
    rintro ex w4 ⟨rfl, hb'⟩
    have H3 := hid (H2.out.then_ hb')
    replace HI1 := hid (HI1.out.below hb')
    clear hb' H2
    have y0 := H3.out.box.cell (i := 0) rfl
    have y1 := H3.out.box.cell (i := 1) rfl
    have y2 := H3.out.box.cell (i := 2) rfl
    have hr0 : (llV D L n2 yy ch != llV D L n2 yy ch) = false := by simp
    by_cases hok : LlOk D L n2 yy ch
    · have hv := llV_yes hok
      obtain ⟨hc, ⟨hL0, hL40⟩, hpo, hc0, hc1⟩ := hok
      obtain ⟨cn, rfl⟩ := Int.eq_ofNat_of_zero_le hc0
      have hcn : cn < D.n := by omega
      have hn1 := hc.1.1
      have hn6 := hc.1.2
      have hf := (hc.2.2.2.1 cn hcn).1
      rw [show ((cn : Nat) : Int).toNat = cn from rfl] at hv
      have hbd := llF_bd (D := D) hL0 yy n2 cn
      have HMORE : Hid (∀ k : Nat, k < D.n → 0 ≤ llV D L (n2 + 1) (fun j => if j < n2 then yy j else (k : Int)) (cn : Int) ∧ llV D L (n2 + 1) (fun j => if j < n2 then yy j else (k : Int)) (cn : Int) ≤ llV D L n2 yy (cn : Int)) := hid (fun k hk => by
        have hpo2 : PumpsOk D (n2 + 1) (fun j => if j < n2 then yy j else (k : Int)) := fun j hj => by
          by_cases hj' : j < n2
          · simp only [hj', if_true]; exact hpo j hj'
          · simp only [hj', if_false]; exact ⟨by omega, by omega⟩
        rw [hv, llV_yes ⟨hc, ⟨hL0, hL40⟩, hpo2, hc0, hc1⟩, show ((cn : Nat) : Int).toNat = cn from rfl]
        have b2 := llF_bd (D := D) hL0 (fun j => if j < n2 then yy j else (k : Int)) (n2 + 1) cn
        have g1 := llG_down D L cn (fun j => if j < n2 then yy j else (k : Int)) n2
        rw [llG_congr (z := yy) n2 (fun j hj => by simp [hj])] at g1
        refine ⟨by omega, ?_⟩
        unfold llF
        omega)
      have HZ : Hid (HasI n2 yy (cn : Int) → llV D L n2 yy (cn : Int) = D.f cn) := hid (fun ⟨j, hj, e⟩ => by
        rw [hv]
        exact llF_zero hc hL0 hcn yy (by rw [e]; rfl) hj)
      rw [← hv] at hbd
      generalize llV D L n2 yy (cn : Int) = x at *
      have HC := hid hc
      have hx0 : 0 ≤ x := by omega
      have hnn : ¬ x < 0 := by omega
      have HB0 := hid (Below.refl w4.heap.size w4)
      obtain ⟨i0, hi, hz0, hz1, hz2⟩ := info_parts info3
      clear hv hpo hc
      go_wp2
      clear y0 y1 y2
      go_loopw [8] (fun i wr => ∃ k : Nat, k ≤ D.n ∧ i = .int .i64 k ∧ Hid (Below w4.heap.size w4 wr)) (fun i _ => D.n - (intOf i).toNat)
      case atStart => exact ⟨0, by omega, rfl, HB0⟩
      case round =>
        clear HB0
        obtain ⟨k, hk, rfl, HB⟩ := hrel
        have HX := hid (H3.out.then_ HB.out)
        have y0 := HX.out.box.cell (i := 0) rfl
        have y1 := HX.out.box.cell (i := 1) rfl
        have y2 := HX.out.box.cell (i := 2) rfl
        have HC2 : Hid (∀ W, Below wr.heap.size wr W → Ints W A2 n2 yy) := hid (fun W hW => (HI1.out.below HB.out).below hW)
        by_cases hlt : k < D.n
        · have hltz : (k : Int) < (D.n : Int) := by omega
          have hlX := HX.out.box.lt
          have hne1 : X ≠ wr.heap.size := by omega
          have hne2 : wr.heap.size ≠ X := by omega
          have hne3 : X ≠ wr.heap.size + 1 := by omega
          have hne4 : wr.heap.size + 1 ≠ X := by omega
          go_wp2
          go_region_held3 (fun W => W.cell? ⟨X, 0, none⟩ = some (.slice F D.n c) ∧ W.cell? ⟨X, 1, none⟩ = some (.slice G D.q d) ∧ W.cell? ⟨X, 2, none⟩ = some (.slice S D.m e)) (go_keep) (first
              | (first | refine step_append_ints rfl (.tmp 48) (.tmp 49) 23 rfl i0 Tryd.underlying23 hi hz0 hz1 hz2 wr.heap.size wr.heap.size rfl ((OwnL.lit0 wr (Nat.le_refl _) #[] rfl).below (by repeat (first | exact Below.refl _ _ | refine Below.drew ?_ | refine Below.alloc ?_ (by simp <;> omega) _))) (by simp <;> omega) A2 n2 c2 yy rfl (HC2.out _ (by repeat (first | exact Below.refl _ _ | refine Below.drew ?_ | refine Below.alloc ?_ (by simp <;> omega) _))) (by omega) ?_ | refine step_append_ints rfl (.tmp 48) (.tmp 49) 23 rfl i0 Tryd.underlying23 hi hz0 hz1 hz2 (wr.heap.size + 1) wr.heap.size rfl ((own_litB wr _ _).below (by repeat (first | exact Below.refl _ _ | refine Below.drew ?_ | refine Below.alloc ?_ (by simp <;> omega) _))) (by simp <;> omega) A2 n2 c2 yy rfl (HC2.out _ (by repeat (first | exact Below.refl _ _ | refine Below.drew ?_ | refine Below.alloc ?_ (by simp <;> omega) _))) (by omega) ?_
                 intro v7 w7 hown7 hg7
                 obtain ⟨A7, c7, rfl⟩ := own_form hown7
                 have HO7 := hid hown7
                 have hb7 : Hid (Below wr.heap.size wr w7) := Below.grown (by repeat (first | exact Below.refl _ _ | refine Below.drew ?_ | refine Below.alloc ?_ (by simp <;> omega) _)) hg7 (by simp <;> omega) (fun k hk => by cases hk)
                 have q0 := cell_below hb7.out y0
                 have q1 := cell_below hb7.out y1
                 have q2 := cell_below hb7.out y2
                 have hs7 := hb7.out.size
                 try (have nb7 := hid (blk_grown_B (x := #[.int .i64 k]) (y := #[]) hg7))
                 try (have nb7 := hid (blk_grown_C (x := #[]) (y := #[.int .i64 k]) hg7))
                 clear hown7 hg7)
              | (refine step_append_own rfl (.tmp 50) (.tmp 52) 23 rfl wr.heap.size 3 i0 (.int .i64 0) 1 8 Tryd.underlying23 hi hz0 hz1 hz2 rfl (by decide) _ n2 _ rfl (World.ownsRow.alloc HO7.out _) _ 1 1 [.int .i64 k] rfl rfl (one_news (Blk.new _ _ _)) (fun u hu => by simp at hu; subst hu; rfl) (by unfold maxLen; omega) (by omega) (by simp <;> omega) ?_; intro v8 w8 hown8 hg8 _
                 obtain ⟨A8, c8, rfl, hi8⟩ := own_ints_app hown8
                 have hi8 := hid hi8
                 have hb8 : Hid (Below wr.heap.size wr w8) := Below.grown (hb7.out.alloc hs7 _) hg8 (by simp <;> omega) (fun k hk => (World.ownsRow.lt HO7.out k hk).1)
                 have q0 := cell_below hb8.out y0
                 have q1 := cell_below hb8.out y1
                 have q2 := cell_below hb8.out y2
                 clear hown8 hg8)
              | (refine step_append_own rfl (.tmp 50) (.tmp 52) 23 rfl wr.heap.size 3 i0 (.int .i64 0) 1 8 Tryd.underlying23 hi hz0 hz1 hz2 rfl (by decide) _ n2 _ rfl HO7.out _ 1 1 [.int .i64 k] rfl rfl (one_news nb7.out) (fun u hu => by simp at hu; subst hu; rfl) (by unfold maxLen; omega) (by omega) (by omega) ?_; intro v8 w8 hown8 hg8 _
                 obtain ⟨A8, c8, rfl, hi8⟩ := own_ints_app hown8
                 have hi8 := hid hi8
                 have hb8 : Hid (Below wr.heap.size wr w8) := Below.grown hb7.out hg8 hs7 (fun k hk => (World.ownsRow.lt HO7.out k hk).1)
                 have q0 := cell_below hb8.out y0
                 have q1 := cell_below hb8.out y1
                 have q2 := cell_below hb8.out y2
                 clear hown8 hg8)
              | (go_at_call 39; (with_reducible refine (LevelLeft_implV F G S D c d e L A8 (n2 + 1) c8 _ (cn : Int) _ (HX.out.cave.below hb8.out) hs hi8.out (by omega)).mono ?_); rintro ex w9 ⟨rfl, hb9⟩; have HB9 := hid (Below.then_ hb8.out hb9); have q0 := cell_below HB9.out y0; have q1 := cell_below HB9.out y1; have q2 := cell_below HB9.out y2; clear hb9))
          all_goals
            obtain ⟨hq1, hq2⟩ := HMORE.out k hlt
            generalize llV D L (n2 + 1) (fun j => if j < n2 then yy j else (k : Int)) (cn : Int) = z at *
            have hd1 : decide (z < 0) = false := decide_eq_false (by omega)
            have hd2 : decide (x < z) = false := decide_eq_false (by omega)
            have HBE := hid (HB.out.trans (HB9.out.mono HB.out.size))
            go_wp2
            go_roundw
            case rel => exact ⟨k + 1, by omega, by go_num, HBE⟩
            case measure => simp [intOf] <;> omega
        · have hke : k = D.n := by omega
          obtain ⟨bf, off, rfl, hcf⟩ := HX.out.cave.flo (by omega)
          have f1 := hcf cn hcn
          have HI2 := hid (HC2.out wr (Below.refl _ _))
          have HHAS := hid (hasInt_any A2 n2 c2 yy (cn : Int) wr HI2.out (by omega))
          clear hcf
          have d2 : decide (D.f cn ≤ x) = true := decide_eq_true (by omega)
          by_cases hm : D.f cn < L
          · have d1 : decide (x ≤ L) = true := decide_eq_true (by omega)
            by_cases hh : HasI n2 yy (cn : Int)
            · have HR := hid (RetBS.yes HHAS.out hh)
              have ez : (x == D.f cn) = true := by simp [HZ.out hh]
              go_wp2_with (go_at_call 41; (with_reducible refine HR.out.mono ?_); rintro ex w' ⟨rfl, rfl⟩)
              go_wp2
              go_ret
              exact ⟨rfl, HX.out.bel⟩
            · have HR := hid (RetBS.no HHAS.out hh)
              go_wp2_with (go_at_call 41; (with_reducible refine HR.out.mono ?_); rintro ex w' ⟨rfl, rfl⟩)
              go_wp2
              go_ret
              exact ⟨rfl, HX.out.bel⟩
          · have d1 : decide (x ≤ D.f cn) = true := decide_eq_true (by omega)
            by_cases hh : HasI n2 yy (cn : Int)
            · have HR := hid (RetBS.yes HHAS.out hh)
              have ez : (x == D.f cn) = true := by simp [HZ.out hh]
              go_wp2_with (go_at_call 41; (with_reducible refine HR.out.mono ?_); rintro ex w' ⟨rfl, rfl⟩)
              go_wp2
              go_ret
              exact ⟨rfl, HX.out.bel⟩
            · have HR := hid (RetBS.no HHAS.out hh)
              go_wp2_with (go_at_call 41; (with_reducible refine HR.out.mono ?_); rintro ex w' ⟨rfl, rfl⟩)
              go_wp2
              go_ret
              exact ⟨rfl, HX.out.bel⟩
    · have hr1 : llV D L n2 yy ch = -1 := llV_no hok
      go_wp2_with fail
      refine (alive_any _ H3.out.tab).mono ?_
      rintro ex w6 ⟨rfl, hb6⟩
      go_wp2
      go_ret
      exact ⟨rfl, (H3.out.then_ hb6).bel⟩

set_option maxRecDepth 100000 in
theorem FnLevelLeft_lifted (os : Os) (started : os.Started) (H : Type) (enc : TypeId × Value → H) :
    ReturnsInHanded {} Tryd.checked os 10 .any (fun w args => (Rows.fnLevelLeftSpec.pre enc Tryd.prog Tryd.f10 [] false w args ∧ laidMetH Tryd.prog Rows.fnLevelLeftRow.laid w) ∧ sizedMet enc Tryd.prog Tryd.f10 (OpenSpec.ofChange Rows.fnLevelLeftSpec) false w args)
      (Rows.fnLevelLeftSpec.post enc Tryd.prog Tryd.f10 false true false false) := by
  refine returnsInHanded_of_change_and (C := Tryd.checked) (X := fun w _ => laidMetH Tryd.prog Rows.fnLevelLeftRow.laid w) (fun _ _ _ hh h => h.of_heap hh) own started (by kernel_rfl) Tryd.func10
    (ChangeSpec.witness_shaped (enc := enc) (C := Tryd.checked) (os := os) (X := fun w _ => laidMetH Tryd.prog Rows.fnLevelLeftRow.laid w) false (World.doorLaid Tryd.prog 24 os) #[.slice none 0 0] 8 rfl (World.shaped_of_RefB (by kernel_rfl) (by kernel_rfl)) (by kernel_rfl) (by kernel_rfl) (by kernel_rfl)
      (laidMetH_of_parts3 (fuel := 8) (laidMet_of_run' 8 (by kernel_rfl) (by kernel_rfl)) (by kernel_rfl) (by kernel_rfl))) ?_
  intro W base args ds gs before hval0 hW _ _ hL _
  have hval : ∀ (j : Nat) t v, Tryd.f10.params[j]? = some t → args[j]? = some v → Value.okWide Tryd.prog W .any base t v := hval0
  have hW' := hW
  obtain ⟨p, q, hA0, hV, rfl, hfz, hnd⟩ := hW
  have hA : DataW.TrodAll enc Tryd.prog W 0 (fun _ => true) true Tryd.f10.params.toList args.toList ds p := hA0
  rw [Tryd.params10] at hA hval
  obtain ⟨v0, vs0, d0, ds0, p0, q0, hargs, rfl, rfl, h0, r0⟩ := trodAll_cons hA
  obtain ⟨rfl, rfl, rfl⟩ := trodAll_nil r0
  obtain rfl : args = #[v0] := by cases args; simp_all
  obtain ⟨rfl, rfl⟩ := trodVars_none hV
  have k0 := h0
  obtain ⟨m0, hm0⟩ := k0
  have lt0 : ∀ x ∈ p0, x.block < W.heap.size := DataW.trod_lt m0 _ _ _ hm0
  obtain ⟨a0, len0, cap0, rfl⟩ := okWide_slice Tryd.underlying22 (hval 0 22 v0 rfl rfl)
  obtain ⟨A0, n0, c0, y0, hv0, hp0, hn0, hl0⟩ := open_Bytes (v := .slice a0 len0 cap0) Tryd.underlying22 Tryd.underlying5 (by kernel_rfl) hm0
  simp only [Value.slice.injEq] at hv0
  obtain ⟨rfl, rfl, rfl⟩ := hv0
  clear hA0 hval0
  have htab := tab_of_laid hL
  refine (FnLevelLeft_walk _ _ _ y0 W htab hp0 hn0 hl0).mono fun e W' ⟨he, bel⟩ => ?_
  subst he
  exact ⟨_, rfl, _, _, _, [], _, [], hW', trodAll_mk1 (shut_bool Tryd.underlying4 _), (trodAll_cons_mk (Below.trod laidOut (by kernel_rfl) (of_decide_eq_true (by kernel_rfl)) h0 bel lt0) trodAll_mk0), rfl, bel.frame _, fun h => by cases h⟩

theorem FnLevelLeft_row : Rows.FnLevelLeftSaid :=
  OpenClaim.holds_of_wide 10 Tryd.f10 rfl rfl rfl rfl rfl rfl rfl ⟨rfl, rfl, rfl, rfl, rfl⟩ rfl rfl rfl rfl rfl (by kernel_rfl) Tryd.func10 (by kernel_rfl)
    (of_decide_eq_true (by kernel_rfl)) (by unfold Func.isWrapper; first | (rw [if_pos (by decide +kernel)]; kernel_rfl) | (rw [if_neg (by decide +kernel)]; exact ⟨rfl, rfl⟩))
    (fun os started H enc _ => FnLevelLeft_lifted os started H enc)
theorem FnLevelLeft_holds : Rows.FnLevelLeftCardSaid :=
  Claim7.holds_tied_plain_at .later [] [.data, .data, .data] true (true, "a5a7d22d484212bf2246ed34c495e7e4937a4be0a82855a3527b2b559f36e5e1") false
    FnLevelLeft_row (fun _ h => by cases h) (by kernel_rfl) (fun _ h => by cases h) fnLevelLeft_row_tie rfl ⟨rfl, rfl⟩ (by kernel_rfl) rfl
    (fun f fn hf hfn => by
      obtain rfl : f = 10 := Option.some.inj ((show Tryd.prog.funcNamed "loop.example/cavesurvey/laws.FnLevelLeft" = some 10 by kernel_rfl).symm.trans hf) |>.symm
      obtain rfl : fn = Tryd.f10 := (Option.some.inj (Tryd.func10.symm.trans hfn)).symm
      exact ⟨by kernel_rfl, fun j t ht => by
        rw [Tryd.params10] at ht
        have hm : t ∈ [22] := by simpa using Array.mem_of_getElem? ht
        have hall : ([22].all fun u => !Tryd.prog.wantsStandIn u) = true := by kernel_rfl
        exact (show Tryd.prog.wantsStandIn t = false by simpa using List.all_eq_true.1 hall t hm)⟩)
    (by kernel_rfl)
#print axioms FnLevelLeft_holds
end Go.Proofs.YtahbfifnpceoeaaDoor
