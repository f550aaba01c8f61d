/- FnSearchValid: a search stays valid when its first passage is taken away, and is not when a passage from a site to itself comes in. -/
import Derived.Test.YtlhcjbgcgbeocaaDoorStock
import Derived.Test.YtlhcjbgcgbeocaaDoorLaw
import Derived.Deep.RegionHeld3
namespace Go.Proofs.YtlhcjbgcgbeocaaDoor
open Go.ChangeShapes Go.WideShapes Go.ChangeAt Go.RowKit

def NilS : SrchD := ⟨0, 0, fun _ => 0, fun _ => 0, fun _ => 0, 0, fun _ => false⟩
theorem nilS_any (w : World) : Calls Tryd.prog 14 #[.agg #[.int .i64 0, .slice none 0 0, .slice none 0 0]] w (RetV (.bool false) w) :=
  RetB.no (SearchValid_impl none none NilS 0 0 w ⟨fun h => absurd h (by simp [NilS]), fun h => absurd h (by simp [NilS])⟩ ⟨by simp [NilS], by simp [NilS]⟩) (fun h => by have := h.1.1; simp [NilS] at this)
def tailS (D : SrchD) : SrchD := ⟨D.s, D.m - 1, fun j => D.a (j + 1), fun j => D.b (j + 1), fun j => D.t (j + 1), D.k, D.dep⟩
theorem tailS_ok {D : SrchD} (h : SrchOk D) : SrchOk (tailS D) := ⟨h.1, by show D.m - 1 ≤ 10; have := h.2.1; omega, h.2.2.1, fun j hj => h.2.2.2 (j + 1) (by have : j < D.m - 1 := hj; omega)⟩
theorem tailS_at {w : World} {Q : Option Addr} {b o : Nat} {D : SrchD} (h : SrchAt w (some ⟨b, o, none⟩) Q D) : SrchAt w (some ⟨b, o + 3, none⟩) Q (tailS D) :=
  ⟨fun h0 => by
    have h0' : 0 < D.m - 1 := h0
    obtain ⟨b', o', e, hc⟩ := h.pas (by omega)
    cases e
    refine ⟨b, o + 3, rfl, fun j hj => ?_⟩
    have hj' : j < D.m - 1 := hj
    have := hc (j + 1) (by omega)
    rw [show o + (j + 1) * 3 = o + 3 + j * 3 by omega] at this
    exact this, h.dep⟩
theorem tailS_one {w : World} {P P' Q : Option Addr} {D : SrchD} (h : SrchAt w P Q D) (h1 : D.m = 1) : SrchAt w P' Q (tailS D) :=
  ⟨fun h0 => absurd (show 0 < D.m - 1 from h0) (by omega), h.dep⟩
def lst (D : SrchD) : List (Int × Int × Int) := (List.range D.m).map fun j => (D.a j, D.b j, D.t j)
theorem lst_len (D : SrchD) : (lst D).length = D.m := by simp [lst]
def badS (D : SrchD) : SrchD := ⟨D.s, D.m + 1, fun j => ((lst D ++ [(0, 0, 1)]).getD j (0, 0, 0)).1, fun j => ((lst D ++ [(0, 0, 1)]).getD j (0, 0, 0)).2.1, fun j => ((lst D ++ [(0, 0, 1)]).getD j (0, 0, 0)).2.2, D.k, D.dep⟩
theorem badS_no (D : SrchD) : ¬ SrchOk (badS D) := fun h => by
  have h3 := (h.2.2.2 D.m (by show D.m < D.m + 1; omega)).2.2.1
  refine h3 ?_
  have e : (lst D ++ [(0, 0, 1)]).getD D.m (0, 0, 0) = (0, 0, 1) := by
    have := lst_len D
    simp [List.getD, this]
  show ((lst D ++ [(0, 0, 1)]).getD D.m (0, 0, 0)).1 = ((lst D ++ [(0, 0, 1)]).getD D.m (0, 0, 0)).2.1
  rw [e]
theorem badS_any {D : SrchD} {A Q : Option Addr} (c d : Nat) (w : World) (hx : SrchAt w A Q (badS D)) (hs : D.m ≤ 20 ∧ D.k ≤ 20) : Calls Tryd.prog 14 #[.agg #[.int .i64 D.s, .slice A (D.m + 1) c, .slice Q D.k d]] w (RetV (.bool false) w) :=
  RetB.no (SearchValid_impl A Q (badS D) c d w hx ⟨by show D.m + 1 ≤ _; omega, by show D.k ≤ _; omega⟩) (badS_no D)
theorem triL_len : ∀ l, (triL l).length = l.length * 3
  | [] => rfl
  | t :: l => by simp [triL, triL_len l]; omega
theorem triL_one : ∀ l, ∀ u ∈ triL l, u.oneCell' = true
  | [], u, hu => by simp [triL] at hu
  | t :: l, u, hu => by
    simp only [triL, List.mem_cons] at hu
    rcases hu with rfl | rfl | rfl | hu
    · rfl
    · rfl
    · rfl
    · exact triL_one l u hu
theorem lst_cells {W : World} {D : SrchD} {b o : Nat} (hc : ∀ j, j < D.m → W.cell? ⟨b, o + j * 3, none⟩ = some (.int .i64 (D.a j)) ∧ W.cell? ⟨b, o + j * 3 + 1, none⟩ = some (.int .i64 (D.b j)) ∧ W.cell? ⟨b, o + j * 3 + 2, none⟩ = some (.int .i64 (D.t j))) :
    ∀ j u, (triL (lst D))[j]? = some u → W.cell? ((⟨b, o, none⟩ : Addr).add j) = some u := fun j u hu => by
  have hl := triL_len (lst D)
  have hl2 := lst_len D
  have hj : j < (triL (lst D)).length := (List.getElem?_eq_some_iff.1 hu).1
  have hq : j / 3 < D.m := by omega
  have hg := triL_get (j / 3) (lst D) (by omega)
  have e : (lst D).getD (j / 3) (0, 0, 0) = (D.a (j / 3), D.b (j / 3), D.t (j / 3)) := by simp [lst, List.getD, hq]
  rw [e] at hg
  obtain ⟨h0, h1, h2⟩ := hc (j / 3) hq
  rw [Addr.add_lit]
  rcases (by omega : j = j / 3 * 3 ∨ j = j / 3 * 3 + 1 ∨ j = j / 3 * 3 + 2) with hr | hr | hr
  · rw [hr] at hu ⊢; rw [hg.1] at hu; cases hu; exact h0
  · rw [hr] at hu ⊢; rw [hg.2.1] at hu; cases hu; exact h1
  · rw [hr] at hu ⊢; rw [hg.2.2] at hu; cases hu; exact h2
theorem own_pas0 (w : World) {B : Nat} (hB : B ≤ w.heap.size) : (w.alloc (.cells #[] 31)).ownsRow B 31 3 (.slice (some ⟨w.heap.size, 0, none⟩) 0 0) 0 [] :=
  ⟨rfl, .inr ⟨w.heap.size, 0, #[], rfl, hB, heap_alloc_new w _, Nat.le_refl _, by unfold maxLen; omega, rfl, rfl⟩⟩
theorem own_pas1 (w : World) (x : Array Value) (t : TypeId) : ((w.alloc (.cells x t)).alloc (.cells #[] 31)).ownsRow w.heap.size 31 3 (.slice (some ⟨w.heap.size + 1, 0, none⟩) 0 0) 0 [] := by
  have h := own_pas0 (w.alloc (.cells x t)) (B := w.heap.size) (by simp)
  rwa [World.size_alloc] at h
theorem own_blw {w w' : World} {B : Nat} {v : Value} {n : Nat} {xs : List Value} (h : w.ownsRow B 31 3 v n xs) (hb : Below w.heap.size w w') : w'.ownsRow B 31 3 v n xs :=
  World.ownsRow.kept (row := none) h ⟨hb.os, hb.tape, hb.output, hb.size, fun k hk _ => hb.block k hk⟩ (by
    cases e : v.ownBlock with
    | none => exact .inl rfl
    | some _ => exact .inr (by simp))
theorem own_bs {w : World} {B B' : Nat} {e : TypeId} {size : Nat} {v : Value} {n : Nat} {xs : List Value} (h : Own w B e size v n xs) (hB : B' ≤ B) : Own w B' e size v n xs := by
  refine ⟨h.1, ?_⟩
  rcases h.2 with hn | ⟨g, cap, cur, hv, hb, rest⟩
  · exact .inl hn
  · exact .inr ⟨g, cap, cur, hv, by omega, rest⟩
theorem stepg {P : Program} {ops : Array Oper} {o : Oper} {a : Act} {w : World} {K : Act → World → Prop} {Q : Exit → Act → World → Prop} {E : Prop}
    (hw : Region.wanted o (yielded ops a.tmps) = true) (s x : Operand) (t : TypeId) (hop : o.op = Op.call { callee := Callee.builtin Builtin.append, args := #[s, x], argTypes := #[t, t] })
    (vs vx : Value) (hs : a.eval s = vs) (hx : a.eval x = vx) (v' : Value) (w' : World) (hrun : (Builtin.append_ #[t, t] o.type #[vs, vx]).run P w = .ok v' w') (hK : K (a.put o.dst v') w') :
    if Region.wanted o (yielded ops a.tmps) = true then Oper.wp P o a w K Q else E := by
  rw [if_pos hw]
  unfold Oper.wp
  simp [execOp, hop, resolve, invoke, builtin, hs, hx, hrun, Result.andThen]
  exact hK
theorem stepg_lit {ops : Array Oper} {o : Oper} {a : Act} {w : World} {K : Act → World → Prop} {Q : Exit → Act → World → Prop} {E : Prop}
    (hw : Region.wanted o (yielded ops a.tmps) = true) (s x : Operand) (hop : o.op = Op.call { callee := Callee.builtin Builtin.append, args := #[s, x], argTypes := #[23, 23] })
    (g B : Nat) (hs : a.eval s = .slice (some ⟨g, 0, none⟩) 0 0) (hown : w.ownsRow B 31 3 (.slice (some ⟨g, 0, none⟩) 0 0) 0 []) (hB : B ≤ w.heap.size)
    (A : Option Addr) (D : SrchD) (c : Nat) (hx : a.eval x = .slice A D.m c) (hi : Triples w A D.m D.a D.b D.t) (hm : D.m ≤ 20)
    (hK : ∀ v' w', w'.ownsRow B 31 3 v' D.m (triL (lst D)) → w.grownBy w' none → K (a.put o.dst v') w') :
    if Region.wanted o (yielded ops a.tmps) = true then Oper.wp Tryd.prog o a w K Q else E := by
  obtain ⟨j0, hj, hy0, hy1, hy2⟩ := info_parts info31
  by_cases h0 : D.m = 0
  · rw [h0] at hx
    have e : lst D = [] := List.length_eq_zero_iff.1 (by rw [lst_len, h0])
    refine stepg hw s x _ hop _ _ hs hx (.slice (some ⟨g, 0, none⟩) 0 0) w ?_ (hK _ _ (by rw [h0, e]; exact hown) ⟨rfl, rfl, rfl, Nat.le_refl _, fun _ _ _ => rfl⟩)
    cases A with
    | none => simp [Builtin.append_, run_underlying Tryd.underlying23, sizeOf, typeInfo, hj, Builtin.lenOf, Builtin.firstCells, storeCells]
    | some ad => simp [Builtin.append_, run_underlying Tryd.underlying23, sizeOf, typeInfo, hj, Builtin.lenOf, run_firstCells_some w j0.size 0 ad 0 c [] (by simp) (by simp) (P := Tryd.prog), storeCells]
  · obtain ⟨b, ob, rfl, hc⟩ := hi (by omega)
    obtain ⟨v', w', hrun, r1, r2⟩ := run_append_arg_grows (P := Tryd.prog) (w := w) 23 o.type 31 j0 (.agg #[.int .i64 0, .int .i64 0, .int .i64 0]) 3 24 Tryd.underlying23 hj hy0 hy1 hy2 rfl (by decide) ⟨g, 0, none⟩ 0 0 [] rfl (fun j u hu => by simp at hu) ⟨b, ob, none⟩ D.m c (triL (lst D)) (by rw [triL_len, lst_len]) (lst_cells hc) (by omega) (by unfold maxLen; omega) (by omega)
    simp only [Nat.zero_add, List.nil_append] at r1
    exact stepg hw s x _ hop _ _ hs hx v' w' hrun (hK v' w' (own_bs r1 hB) r2)
theorem stepg_own {ops : Array Oper} {o : Oper} {a : Act} {w : World} {K : Act → World → Prop} {Q : Exit → Act → World → Prop} {E : Prop}
    (hw : Region.wanted o (yielded ops a.tmps) = true) (s x : Operand) (hop : o.op = Op.call { callee := Callee.builtin Builtin.append, args := #[s, x], argTypes := #[23, 23] })
    (B : Nat) (v : Value) (D : SrchD) (hs : a.eval s = v) (hown : w.ownsRow B 31 3 v D.m (triL (lst D))) (hB : B ≤ w.heap.size)
    (g : Nat) (hx : a.eval x = .slice (some ⟨g, 0, none⟩) 1 1) (hc : Blk w g 31 #[.int .i64 0, .int .i64 0, .int .i64 1]) (hm : D.m ≤ 20)
    (hK : ∀ v' w', w'.ownsRow B 31 3 v' (D.m + 1) (triL (lst D ++ [(0, 0, 1)])) → w.grownBy w' v.ownBlock → K (a.put o.dst v') w') :
    if Region.wanted o (yielded ops a.tmps) = true then Oper.wp Tryd.prog o a w K Q else E := by
  obtain ⟨j0, hj, hy0, hy1, hy2⟩ := info_parts info31
  obtain ⟨v', w', hrun, r1, r2, _⟩ := run_append_own (P := Tryd.prog) w B 23 o.type 31 j0 (.agg #[.int .i64 0, .int .i64 0, .int .i64 0]) 3 24 Tryd.underlying23 hj hy0 hy1 hy2 rfl (by decide) v D.m _ hown ⟨g, 0, none⟩ 1 1 [.int .i64 0, .int .i64 0, .int .i64 1] rfl (fun j u hu => by
    rw [Addr.add_lit, Nat.zero_add]
    match j, hu with
    | 0, hu => simp at hu; subst hu; exact hc.cell rfl
    | 1, hu => simp at hu; subst hu; exact hc.cell rfl
    | 2, hu => simp at hu; subst hu; exact hc.cell rfl) (fun u hu => by simp at hu; rcases hu with rfl | rfl <;> rfl) (by unfold maxLen; omega) (by omega) hB
  exact stepg hw s x _ hop _ _ hs hx v' w' hrun (hK v' w' (by rw [triL_snoc]; exact r1) r2)
theorem own_bad {w : World} {B : Nat} {v : Value} {D : SrchD} (h : w.ownsRow B 31 3 v (D.m + 1) (triL (lst D ++ [(0, 0, 1)]))) : ∃ A c, v = .slice A (D.m + 1) c ∧ Triples w A (badS D).m (badS D).a (badS D).b (badS D).t := by
  have e : (lst D ++ [(0, 0, 1)]).length = D.m + 1 := by simp [lst_len]
  have h' : Own w B 31 3 v (lst D ++ [(0, 0, 1)]).length (triL (lst D ++ [(0, 0, 1)])) := by rw [e]; exact h
  obtain ⟨A, c, hv, ht⟩ := own_triples h'
  rw [e] at hv ht
  exact ⟨A, c, hv, ht⟩

theorem blk_g1 {w w' : World} {x y : Array Value} {t t' : TypeId} (h : ((w.alloc (.cells x t)).alloc (.cells y t')).grownBy w' none) : Blk w' w.heap.size t x :=
  (h.block _ (by simp; omega) (by simp)).trans ((Blk.new w t x).alloc (.cells y t'))
theorem blk_g2 {w w' : World} {x y : Array Value} {t t' : TypeId} (h : ((w.alloc (.cells x t)).alloc (.cells y t')).grownBy w' none) : Blk w' (w.heap.size + 1) t' y := by
  have := Blk.new (w.alloc (.cells x t)) t' y
  rw [World.size_alloc] at this
  exact (h.block _ (by simp) (by simp)).trans this

theorem blk_g3 {w w' : World} {x y : Array Value} {t t' : TypeId} (h : ((w.alloc (.cells x t)).alloc (.cells y t')).drew.grownBy w' none) : Blk w' w.heap.size t x :=
  (h.block _ (by simp; omega) (by simp)).trans ((Blk.new w t x).alloc (.cells y t'))
theorem blk_g4 {w w' : World} {x y : Array Value} {t t' : TypeId} (h : ((w.alloc (.cells x t)).alloc (.cells y t')).drew.grownBy w' none) : Blk w' (w.heap.size + 1) t' y := by
  have := Blk.new (w.alloc (.cells x t)) t' y
  rw [World.size_alloc] at this
  exact (h.block _ (by simp) (by simp)).trans this

set_option linter.unusedSimpArgs false in
set_option maxRecDepth 20000 in
set_option maxHeartbeats 4000000 in
theorem FnSearchValid_walk (A : Option Addr) (n c0 : Nat) (y : Nat → Int) (w : World) (htab : Pow10 w) (hx : Bytes w A n y) (hn : n ≤ c0) (hy : ∀ j, 0 ≤ y j ∧ y j < 256) :
    Calls Tryd.prog 3 #[.slice A n c0] w (RetV (.bool true) w) := by
  by_cases hbig : (n : Int) > 1048576
  · go_enter Tryd.func3, Tryd.ntmps3
    go_wp2
    go_ret
    exact ⟨rfl, Below.refl _ _⟩
  · go_enter Tryd.func3, Tryd.ntmps3
    go_wp2_with fail
    refine (DrawSearchValid_any A n c0 y w hx hy hn).mono ?_
    rintro ex w1 ⟨P, Q, D, c, d, rfl, hD⟩
    have hs := hD.small
    have hsm := hD.sm
    have H1 := hid (LwI.start (d := d) htab hD rfl)
    clear hx hD htab
    go_wp2_with fail
    generalize w1.alloc (.cells #[.int .i64 D.s, .slice P D.m c, .slice Q D.k d] 26) = w2 at H1 ⊢
    generalize w1.heap.size = X at H1 ⊢
    have HV := hid (SearchValid_impl P Q D c d _ H1.out.srch hs)
    by_cases hok : SrchOk D
    · refine (RetB.yes HV.out hok).mono ?_
      rintro ex w3 ⟨rfl, hb3⟩
      have H3 := hid (H1.out.then_ hb3)
      clear hb3 H1 HV
      have y0 := H3.out.box.cell (i := 0) rfl
      have y1 := H3.out.box.cell (i := 1) rfl
      have y2 := H3.out.box.cell (i := 2) rfl
      go_wp2_with fail
      refine (RetB.yes (SearchValid_spec P Q D c d _ H3.out.srch hs) hok).mono ?_
      rintro ex w4 ⟨rfl, hb4⟩
      have H4 := hid (H3.out.then_ hb4)
      clear hb4 H3 y0 y1 y2
      have y0 := H4.out.box.cell (i := 0) rfl
      have y1 := H4.out.box.cell (i := 1) rfl
      have y2 := H4.out.box.cell (i := 2) rfl
      have HOK := hid (tailS_ok hok)
      have HS : Hid (SrchSmall (tailS D)) := hid ⟨by have := hs.1; show D.m - 1 ≤ 1048576; omega, hs.2⟩
      clear hok
      by_cases h0 : D.m = 0
      · have e1 : ((D.m : Int) == 0) = true := by simp [h0]
        clear h0
        go_wp2
        refine wp_region_held_drew (S := (fun W => W.cell? ⟨X, 0, none⟩ = some (.int .i64 D.s) ∧ W.cell? ⟨X, 1, none⟩ = some (.slice P D.m c) ∧ W.cell? ⟨X, 2, none⟩ = some (.slice Q D.k d))) (by kernel_rfl) ?_ (fun hHeld => ?_)
        · ((try dsimp only); go_keep)
        refine wpAnyH_take (i := 0) (v := ?_) rfl (by kernel_rfl) (by kernel_rfl) (by kernel_rfl) (fun _ _ _ h => h) (Or.inl ⟨by rfl, ?_⟩) (by assumption) ?_
        rotate_left
        · (intro w hSw; (try dsimp only at hSw); go_simp; try with_reducible rfl)
        try simp only [Act.put, List.getElem_toArray, List.getElem_cons_zero, List.getElem_cons_succ, List.setIfInBounds_toArray, List.set_cons_zero, List.set_cons_succ]
        refine wpAnyH_take (i := 1) (v := ?_) rfl (by kernel_rfl) (by kernel_rfl) (by kernel_rfl) (fun _ _ _ h => h) (Or.inl ⟨by rfl, ?_⟩) (by assumption) ?_
        rotate_left
        · (intro w hSw; (try dsimp only at hSw); go_simp; try with_reducible rfl)
        try simp only [Act.put, List.getElem_toArray, List.getElem_cons_zero, List.getElem_cons_succ, List.setIfInBounds_toArray, List.set_cons_zero, List.set_cons_succ]
        refine wpAnyH_take (i := 2) (v := ?_) rfl (by kernel_rfl) (by kernel_rfl) (by kernel_rfl) (fun _ _ _ h => h) (Or.inl ⟨by rfl, ?_⟩) (by assumption) ?_
        rotate_left
        · (intro w hSw; (try dsimp only at hSw); go_simp; try with_reducible rfl)
        try simp only [Act.put, List.getElem_toArray, List.getElem_cons_zero, List.getElem_cons_succ, List.setIfInBounds_toArray, List.set_cons_zero, List.set_cons_succ]
        refine wpAnyH_take (i := 3) (v := ?_) rfl (by kernel_rfl) (by kernel_rfl) (by kernel_rfl) (fun _ _ _ h => h) (Or.inl ⟨by rfl, ?_⟩) (by assumption) ?_
        rotate_left
        · (intro w hSw; (try dsimp only at hSw); go_simp; try with_reducible rfl)
        try simp only [Act.put, List.getElem_toArray, List.getElem_cons_zero, List.getElem_cons_succ, List.setIfInBounds_toArray, List.set_cons_zero, List.set_cons_succ]
        refine wpAnyH_take (i := 4) (v := ?_) rfl (by kernel_rfl) (by kernel_rfl) (by kernel_rfl) (fun _ _ _ h => h) (Or.inl ⟨by rfl, ?_⟩) (by assumption) ?_
        rotate_left
        · (intro w hSw; (try dsimp only at hSw); go_simp; try with_reducible rfl)
        try simp only [Act.put, List.getElem_toArray, List.getElem_cons_zero, List.getElem_cons_succ, List.setIfInBounds_toArray, List.set_cons_zero, List.set_cons_succ]
        refine wpAnyH_take (i := 5) (v := undef) rfl (by kernel_rfl) (by kernel_rfl) (by kernel_rfl) (fun _ _ _ h => h) (Or.inr ⟨by rfl, rfl⟩) (by assumption) ?_
        try simp only [Act.put, List.getElem_toArray, List.getElem_cons_zero, List.getElem_cons_succ, List.setIfInBounds_toArray, List.set_cons_zero, List.set_cons_succ]
        refine wpAnyH_take (i := 6) (v := undef) rfl (by kernel_rfl) (by kernel_rfl) (by kernel_rfl) (fun _ _ _ h => h) (Or.inr ⟨by rfl, rfl⟩) (by assumption) ?_
        try simp only [Act.put, List.getElem_toArray, List.getElem_cons_zero, List.getElem_cons_succ, List.setIfInBounds_toArray, List.set_cons_zero, List.set_cons_succ]
        refine wpAnyH_take (i := 7) (v := undef) rfl (by kernel_rfl) (by kernel_rfl) (by kernel_rfl) (fun _ _ _ h => h) (Or.inr ⟨by rfl, rfl⟩) (by assumption) ?_
        try simp only [Act.put, List.getElem_toArray, List.getElem_cons_zero, List.getElem_cons_succ, List.setIfInBounds_toArray, List.set_cons_zero, List.set_cons_succ]
        refine wpAnyH_take (i := 8) (v := undef) rfl (by kernel_rfl) (by kernel_rfl) (by kernel_rfl) (fun _ _ _ h => h) (Or.inr ⟨by rfl, rfl⟩) (by assumption) ?_
        try simp only [Act.put, List.getElem_toArray, List.getElem_cons_zero, List.getElem_cons_succ, List.setIfInBounds_toArray, List.set_cons_zero, List.set_cons_succ]
        refine wpAnyH_take (i := 9) (v := undef) rfl (by kernel_rfl) (by kernel_rfl) (by kernel_rfl) (fun _ _ _ h => h) (Or.inr ⟨by rfl, rfl⟩) (by assumption) ?_
        try simp only [Act.put, List.getElem_toArray, List.getElem_cons_zero, List.getElem_cons_succ, List.setIfInBounds_toArray, List.set_cons_zero, List.set_cons_succ]
        refine wpAnyH_take (i := 10) (v := undef) rfl (by kernel_rfl) (by kernel_rfl) (by kernel_rfl) (fun _ _ _ h => h) (Or.inr ⟨by rfl, rfl⟩) (by assumption) ?_
        try simp only [Act.put, List.getElem_toArray, List.getElem_cons_zero, List.getElem_cons_succ, List.setIfInBounds_toArray, List.set_cons_zero, List.set_cons_succ]
        refine wpAnyH_take (i := 11) (v := undef) rfl (by kernel_rfl) (by kernel_rfl) (by kernel_rfl) (fun _ _ _ h => h) (Or.inr ⟨by rfl, rfl⟩) (by assumption) ?_
        try simp only [Act.put, List.getElem_toArray, List.getElem_cons_zero, List.getElem_cons_succ, List.setIfInBounds_toArray, List.set_cons_zero, List.set_cons_succ]
        refine wpAnyH_take (i := 12) (v := undef) rfl (by kernel_rfl) (by kernel_rfl) (by kernel_rfl) (fun _ _ _ h => h) (Or.inr ⟨by rfl, rfl⟩) (by assumption) ?_
        try simp only [Act.put, List.getElem_toArray, List.getElem_cons_zero, List.getElem_cons_succ, List.setIfInBounds_toArray, List.set_cons_zero, List.set_cons_succ]
        refine wpAnyH_take (i := 13) (v := undef) rfl (by kernel_rfl) (by kernel_rfl) (by kernel_rfl) (fun _ _ _ h => h) (Or.inr ⟨by rfl, rfl⟩) (by assumption) ?_
        try simp only [Act.put, List.getElem_toArray, List.getElem_cons_zero, List.getElem_cons_succ, List.setIfInBounds_toArray, List.set_cons_zero, List.set_cons_succ]
        refine wpAnyH_take (i := 14) (v := ?_) rfl (by kernel_rfl) (by kernel_rfl) (by kernel_rfl) (fun _ _ _ h => h) (Or.inl ⟨by rfl, ?_⟩) (by assumption) ?_
        rotate_left
        · (intro w hSw; (try dsimp only at hSw); go_simp; try with_reducible rfl)
        try simp only [Act.put, List.getElem_toArray, List.getElem_cons_zero, List.getElem_cons_succ, List.setIfInBounds_toArray, List.set_cons_zero, List.set_cons_succ]
        refine wpAnyH_take (i := 15) (v := ?_) rfl (by kernel_rfl) (by kernel_rfl) (by kernel_rfl) (fun _ _ _ h => h) (Or.inl ⟨by rfl, ?_⟩) (by assumption) ?_
        rotate_left
        · (intro w hSw; (try dsimp only at hSw); go_simp; try with_reducible rfl)
        try simp only [Act.put, List.getElem_toArray, List.getElem_cons_zero, List.getElem_cons_succ, List.setIfInBounds_toArray, List.set_cons_zero, List.set_cons_succ]
        refine wpAnyH_take (i := 16) (v := ?_) rfl (by kernel_rfl) (by kernel_rfl) (by kernel_rfl) (fun _ _ _ h => h) (Or.inl ⟨by rfl, ?_⟩) (by assumption) ?_
        rotate_left
        · (intro w hSw; (try dsimp only at hSw); go_simp; try with_reducible rfl)
        try simp only [Act.put, List.getElem_toArray, List.getElem_cons_zero, List.getElem_cons_succ, List.setIfInBounds_toArray, List.set_cons_zero, List.set_cons_succ]
        refine wpAnyH_take (i := 17) (v := ?_) rfl (by kernel_rfl) (by kernel_rfl) (by kernel_rfl) (fun _ _ _ h => h) (Or.inl ⟨by rfl, ?_⟩) (by assumption) ?_
        rotate_left
        · (intro w hSw; (try dsimp only at hSw); go_simp; try with_reducible rfl)
        try simp only [Act.put, List.getElem_toArray, List.getElem_cons_zero, List.getElem_cons_succ, List.setIfInBounds_toArray, List.set_cons_zero, List.set_cons_succ]
        refine wpAnyH_take (i := 19) (v := ?_) rfl (by kernel_rfl) (by kernel_rfl) (by kernel_rfl) (fun _ _ _ h => h) (Or.inl ⟨by rfl, ?_⟩) (by assumption) ?_
        rotate_left
        · (intro w hSw; (try dsimp only at hSw); go_simp; try with_reducible rfl)
        try simp only [Act.put, List.getElem_toArray, List.getElem_cons_zero, List.getElem_cons_succ, List.setIfInBounds_toArray, List.set_cons_zero, List.set_cons_succ]
        refine wpAnyH_take (i := 20) (v := ?_) rfl (by kernel_rfl) (by kernel_rfl) (by kernel_rfl) (fun _ _ _ h => h) (Or.inl ⟨by rfl, ?_⟩) (by assumption) ?_
        rotate_left
        · (intro w hSw; (try dsimp only at hSw); go_simp; try with_reducible rfl)
        try simp only [Act.put, List.getElem_toArray, List.getElem_cons_zero, List.getElem_cons_succ, List.setIfInBounds_toArray, List.set_cons_zero, List.set_cons_succ]
        refine wpAnyH_take (i := 22) (v := ?_) rfl (by kernel_rfl) (by kernel_rfl) (by kernel_rfl) (fun _ _ _ h => h) (Or.inl ⟨by rfl, ?_⟩) (by assumption) ?_
        rotate_left
        · (intro w hSw; (try dsimp only at hSw); go_simp; try with_reducible rfl)
        try simp only [Act.put, List.getElem_toArray, List.getElem_cons_zero, List.getElem_cons_succ, List.setIfInBounds_toArray, List.set_cons_zero, List.set_cons_succ]
        refine wpAnyH_take (i := 25) (v := ?_) rfl (by kernel_rfl) (by kernel_rfl) (by kernel_rfl) (fun _ _ _ h => h) (Or.inl ⟨by rfl, ?_⟩) (by assumption) ?_
        rotate_left
        · (intro w hSw; (try dsimp only at hSw); go_simp; try with_reducible rfl)
        try simp only [Act.put, List.getElem_toArray, List.getElem_cons_zero, List.getElem_cons_succ, List.setIfInBounds_toArray, List.set_cons_zero, List.set_cons_succ]
        refine wpAnyH_take (i := 26) (v := ?_) rfl (by kernel_rfl) (by kernel_rfl) (by kernel_rfl) (fun _ _ _ h => h) (Or.inl ⟨by rfl, ?_⟩) (by assumption) ?_
        rotate_left
        · (intro w hSw; (try dsimp only at hSw); go_simp; try with_reducible rfl)
        try simp only [Act.put, List.getElem_toArray, List.getElem_cons_zero, List.getElem_cons_succ, List.setIfInBounds_toArray, List.set_cons_zero, List.set_cons_succ]
        refine wpAnyH_ready (rs := [18, 23]) (by kernel_rfl) (by simp) ?_
        refine AllReadyH.cons rfl (fun K hK => ?_) (AllReadyH.cons rfl (fun K hK => ?_) AllReadyH.nil)
        · go_simp
          refine hK.out _ _ ?_ (fun hHeld => ?_)
          · ((try dsimp only); go_keep)
          clear hK K
          try simp only [Act.put, List.getElem_toArray, List.getElem_cons_zero, List.getElem_cons_succ, List.setIfInBounds_toArray, List.set_cons_zero, List.set_cons_succ]
          refine wpAnyH_ready (rs := [21, 23]) (by kernel_rfl) (by simp) ?_
          refine AllReadyH.cons rfl (fun K hK => ?_) (AllReadyH.cons rfl (fun K hK => ?_) AllReadyH.nil)
          · (first
                | (first | refine stepg_lit rfl (.tmp 42) (.tmp 44) rfl w4.heap.size w4.heap.size rfl (own_blw (own_pas0 w4 (Nat.le_refl _)) (by repeat (first | exact Below.refl _ _ | refine Below.drew ?_ | refine Below.alloc ?_ (by simp <;> omega) _))) (by simp <;> omega) P D (c) rfl (Triples.below H4.out.srch.pas (by repeat (first | exact Below.refl _ _ | refine Below.drew ?_ | refine Below.alloc ?_ (by simp <;> omega) _))) hsm.1 ?_ | refine stepg_lit rfl (.tmp 42) (.tmp 44) rfl (w4.heap.size + 1) w4.heap.size rfl (own_blw (own_pas1 w4 _ _) (by repeat (first | exact Below.refl _ _ | refine Below.drew ?_ | refine Below.alloc ?_ (by simp <;> omega) _))) (by simp <;> omega) P D (c) rfl (Triples.below H4.out.srch.pas (by repeat (first | exact Below.refl _ _ | refine Below.drew ?_ | refine Below.alloc ?_ (by simp <;> omega) _))) hsm.1 ?_
                   intro v7 w7 hown7 hg7
                   obtain ⟨A7, c7, rfl⟩ := own_form hown7
                   have HO7 := hid hown7
                   have hb7 : Hid (Below w4.heap.size w4 w7) := Below.grown (by repeat (first | exact Below.refl _ _ | refine Below.drew ?_ | refine Below.alloc ?_ (by simp <;> omega) _)) hg7 (by simp <;> omega) (fun k hk => by cases hk)
                   have q0 := cell_below hb7.out (H4.out.box.cell (i := 0) rfl)
                   have q1 := cell_below hb7.out (H4.out.box.cell (i := 1) rfl)
                   have q2 := cell_below hb7.out (H4.out.box.cell (i := 2) rfl)
                   have hs7 := hb7.out.size
                   try (have nb7 := hid (blk_g1 (x := #[.int .i64 0, .int .i64 0, .int .i64 1]) (y := #[]) hg7))
                   try (have nb7 := hid (blk_g2 (x := #[]) (y := #[.int .i64 0, .int .i64 0, .int .i64 1]) hg7))
                   try (have nb7 := hid (blk_g3 (x := #[.int .i64 0, .int .i64 0, .int .i64 1]) (y := #[]) hg7))
                   try (have nb7 := hid (blk_g4 (x := #[]) (y := #[.int .i64 0, .int .i64 0, .int .i64 1]) hg7))
                   clear hown7 hg7)
                | (refine stepg_own rfl (.tmp 45) (.tmp 47) rfl w4.heap.size _ D rfl (World.ownsRow.alloc HO7.out _) (by simp <;> omega) w7.heap.size rfl (Blk.new _ _ _) hsm.1 ?_
                   intro v8 w8 hown8 hg8
                   obtain ⟨A8, c8, rfl, ht8⟩ := own_bad hown8
                   have HT8 := hid ht8
                   have hb8 : Hid (Below w4.heap.size w4 w8) := Below.grown (hb7.out.alloc hs7 _) hg8 (by simp <;> omega) (fun k hk => (World.ownsRow.lt HO7.out k hk).1)
                   have q0 := cell_below hb8.out (H4.out.box.cell (i := 0) rfl)
                   have q1 := cell_below hb8.out (H4.out.box.cell (i := 1) rfl)
                   have q2 := cell_below hb8.out (H4.out.box.cell (i := 2) rfl)
                   clear hown8 hg8 ht8)
                | (refine stepg_own rfl (.tmp 45) (.tmp 47) rfl w4.heap.size _ D rfl HO7.out hs7 _ rfl nb7.out hsm.1 ?_
                   intro v8 w8 hown8 hg8
                   obtain ⟨A8, c8, rfl, ht8⟩ := own_bad hown8
                   have HT8 := hid ht8
                   have hb8 : Hid (Below w4.heap.size w4 w8) := Below.grown hb7.out hg8 hs7 (fun k hk => (World.ownsRow.lt HO7.out k hk).1)
                   have q0 := cell_below hb8.out (H4.out.box.cell (i := 0) rfl)
                   have q1 := cell_below hb8.out (H4.out.box.cell (i := 1) rfl)
                   have q2 := cell_below hb8.out (H4.out.box.cell (i := 2) rfl)
                   clear hown8 hg8 ht8)
                | (go_at_call 14; (with_reducible refine (badS_any c8 d _ ⟨HT8.out, (H4.out.srch.below hb8.out).dep⟩ ⟨hsm.1, hsm.2.1⟩).mono ?_); rintro ex w9 ⟨rfl, hb9⟩; have HEND := hid (H4.out.then_ (Below.then_ hb8.out hb9)); have q0 := HEND.out.box.cell (i := 0) rfl; have q1 := HEND.out.box.cell (i := 1) rfl; have q2 := HEND.out.box.cell (i := 2) rfl; clear hb9; go_simp))
            refine hK.out _ _ ?_ (fun hHeld => ?_)
            · ((try dsimp only); go_keep)
            clear hK K
            try simp only [Act.put, List.getElem_toArray, List.getElem_cons_zero, List.getElem_cons_succ, List.setIfInBounds_toArray, List.set_cons_zero, List.set_cons_succ]
            refine wpAnyH_ready (rs := [23]) (by kernel_rfl) (by simp) ?_
            refine AllReadyH.cons rfl (fun K hK => ?_) AllReadyH.nil
            go_simp
            refine hK.out _ _ ?_ (fun hHeld => ?_)
            · ((try dsimp only); go_keep)
            clear hK K
            try simp only [Act.put, List.getElem_toArray, List.getElem_cons_zero, List.getElem_cons_succ, List.setIfInBounds_toArray, List.set_cons_zero, List.set_cons_succ]
            refine wpAnyH_ready (rs := [24]) (by kernel_rfl) (by simp) ?_
            refine AllReadyH.cons rfl (fun K hK => ?_) AllReadyH.nil
            (first
                | (first | refine stepg_lit rfl (.tmp 42) (.tmp 44) rfl w4.heap.size w4.heap.size rfl (own_blw (own_pas0 w4 (Nat.le_refl _)) (by repeat (first | exact Below.refl _ _ | refine Below.drew ?_ | refine Below.alloc ?_ (by simp <;> omega) _))) (by simp <;> omega) P D (c) rfl (Triples.below H4.out.srch.pas (by repeat (first | exact Below.refl _ _ | refine Below.drew ?_ | refine Below.alloc ?_ (by simp <;> omega) _))) hsm.1 ?_ | refine stepg_lit rfl (.tmp 42) (.tmp 44) rfl (w4.heap.size + 1) w4.heap.size rfl (own_blw (own_pas1 w4 _ _) (by repeat (first | exact Below.refl _ _ | refine Below.drew ?_ | refine Below.alloc ?_ (by simp <;> omega) _))) (by simp <;> omega) P D (c) rfl (Triples.below H4.out.srch.pas (by repeat (first | exact Below.refl _ _ | refine Below.drew ?_ | refine Below.alloc ?_ (by simp <;> omega) _))) hsm.1 ?_
                   intro v7 w7 hown7 hg7
                   obtain ⟨A7, c7, rfl⟩ := own_form hown7
                   have HO7 := hid hown7
                   have hb7 : Hid (Below w4.heap.size w4 w7) := Below.grown (by repeat (first | exact Below.refl _ _ | refine Below.drew ?_ | refine Below.alloc ?_ (by simp <;> omega) _)) hg7 (by simp <;> omega) (fun k hk => by cases hk)
                   have q0 := cell_below hb7.out (H4.out.box.cell (i := 0) rfl)
                   have q1 := cell_below hb7.out (H4.out.box.cell (i := 1) rfl)
                   have q2 := cell_below hb7.out (H4.out.box.cell (i := 2) rfl)
                   have hs7 := hb7.out.size
                   try (have nb7 := hid (blk_g1 (x := #[.int .i64 0, .int .i64 0, .int .i64 1]) (y := #[]) hg7))
                   try (have nb7 := hid (blk_g2 (x := #[]) (y := #[.int .i64 0, .int .i64 0, .int .i64 1]) hg7))
                   try (have nb7 := hid (blk_g3 (x := #[.int .i64 0, .int .i64 0, .int .i64 1]) (y := #[]) hg7))
                   try (have nb7 := hid (blk_g4 (x := #[]) (y := #[.int .i64 0, .int .i64 0, .int .i64 1]) hg7))
                   clear hown7 hg7)
                | (refine stepg_own rfl (.tmp 45) (.tmp 47) rfl w4.heap.size _ D rfl (World.ownsRow.alloc HO7.out _) (by simp <;> omega) w7.heap.size rfl (Blk.new _ _ _) hsm.1 ?_
                   intro v8 w8 hown8 hg8
                   obtain ⟨A8, c8, rfl, ht8⟩ := own_bad hown8
                   have HT8 := hid ht8
                   have hb8 : Hid (Below w4.heap.size w4 w8) := Below.grown (hb7.out.alloc hs7 _) hg8 (by simp <;> omega) (fun k hk => (World.ownsRow.lt HO7.out k hk).1)
                   have q0 := cell_below hb8.out (H4.out.box.cell (i := 0) rfl)
                   have q1 := cell_below hb8.out (H4.out.box.cell (i := 1) rfl)
                   have q2 := cell_below hb8.out (H4.out.box.cell (i := 2) rfl)
                   clear hown8 hg8 ht8)
                | (refine stepg_own rfl (.tmp 45) (.tmp 47) rfl w4.heap.size _ D rfl HO7.out hs7 _ rfl nb7.out hsm.1 ?_
                   intro v8 w8 hown8 hg8
                   obtain ⟨A8, c8, rfl, ht8⟩ := own_bad hown8
                   have HT8 := hid ht8
                   have hb8 : Hid (Below w4.heap.size w4 w8) := Below.grown hb7.out hg8 hs7 (fun k hk => (World.ownsRow.lt HO7.out k hk).1)
                   have q0 := cell_below hb8.out (H4.out.box.cell (i := 0) rfl)
                   have q1 := cell_below hb8.out (H4.out.box.cell (i := 1) rfl)
                   have q2 := cell_below hb8.out (H4.out.box.cell (i := 2) rfl)
                   clear hown8 hg8 ht8)
                | (go_at_call 14; (with_reducible refine (badS_any c8 d _ ⟨HT8.out, (H4.out.srch.below hb8.out).dep⟩ ⟨hsm.1, hsm.2.1⟩).mono ?_); rintro ex w9 ⟨rfl, hb9⟩; have HEND := hid (H4.out.then_ (Below.then_ hb8.out hb9)); have q0 := HEND.out.box.cell (i := 0) rfl; have q1 := HEND.out.box.cell (i := 1) rfl; have q2 := HEND.out.box.cell (i := 2) rfl; clear hb9; go_simp))
            refine hK.out _ _ ?_ (fun hHeld => ?_)
            · ((try dsimp only); go_keep)
            clear hK K
            try simp only [Act.put, List.getElem_toArray, List.getElem_cons_zero, List.getElem_cons_succ, List.setIfInBounds_toArray, List.set_cons_zero, List.set_cons_succ]
            refine wpAnyH_take (i := 27) (v := ?_) rfl (by kernel_rfl) (by kernel_rfl) (by kernel_rfl) (fun _ _ _ h => h) (Or.inl ⟨by rfl, ?_⟩) (by assumption) ?_
            rotate_left
            · (intro w hSw; (try dsimp only at hSw); go_simp; try with_reducible rfl)
            try simp only [Act.put, List.getElem_toArray, List.getElem_cons_zero, List.getElem_cons_succ, List.setIfInBounds_toArray, List.set_cons_zero, List.set_cons_succ]
            refine wpAnyH_ready (rs := [28]) (by kernel_rfl) (by simp) ?_
            refine AllReadyH.cons rfl (fun K hK => ?_) AllReadyH.nil
            go_simp
            (first
                | (first | refine stepg_lit rfl (.tmp 42) (.tmp 44) rfl w4.heap.size w4.heap.size rfl (own_blw (own_pas0 w4 (Nat.le_refl _)) (by repeat (first | exact Below.refl _ _ | refine Below.drew ?_ | refine Below.alloc ?_ (by simp <;> omega) _))) (by simp <;> omega) P D (c) rfl (Triples.below H4.out.srch.pas (by repeat (first | exact Below.refl _ _ | refine Below.drew ?_ | refine Below.alloc ?_ (by simp <;> omega) _))) hsm.1 ?_ | refine stepg_lit rfl (.tmp 42) (.tmp 44) rfl (w4.heap.size + 1) w4.heap.size rfl (own_blw (own_pas1 w4 _ _) (by repeat (first | exact Below.refl _ _ | refine Below.drew ?_ | refine Below.alloc ?_ (by simp <;> omega) _))) (by simp <;> omega) P D (c) rfl (Triples.below H4.out.srch.pas (by repeat (first | exact Below.refl _ _ | refine Below.drew ?_ | refine Below.alloc ?_ (by simp <;> omega) _))) hsm.1 ?_
                   intro v7 w7 hown7 hg7
                   obtain ⟨A7, c7, rfl⟩ := own_form hown7
                   have HO7 := hid hown7
                   have hb7 : Hid (Below w4.heap.size w4 w7) := Below.grown (by repeat (first | exact Below.refl _ _ | refine Below.drew ?_ | refine Below.alloc ?_ (by simp <;> omega) _)) hg7 (by simp <;> omega) (fun k hk => by cases hk)
                   have q0 := cell_below hb7.out (H4.out.box.cell (i := 0) rfl)
                   have q1 := cell_below hb7.out (H4.out.box.cell (i := 1) rfl)
                   have q2 := cell_below hb7.out (H4.out.box.cell (i := 2) rfl)
                   have hs7 := hb7.out.size
                   try (have nb7 := hid (blk_g1 (x := #[.int .i64 0, .int .i64 0, .int .i64 1]) (y := #[]) hg7))
                   try (have nb7 := hid (blk_g2 (x := #[]) (y := #[.int .i64 0, .int .i64 0, .int .i64 1]) hg7))
                   try (have nb7 := hid (blk_g3 (x := #[.int .i64 0, .int .i64 0, .int .i64 1]) (y := #[]) hg7))
                   try (have nb7 := hid (blk_g4 (x := #[]) (y := #[.int .i64 0, .int .i64 0, .int .i64 1]) hg7))
                   clear hown7 hg7)
                | (refine stepg_own rfl (.tmp 45) (.tmp 47) rfl w4.heap.size _ D rfl (World.ownsRow.alloc HO7.out _) (by simp <;> omega) w7.heap.size rfl (Blk.new _ _ _) hsm.1 ?_
                   intro v8 w8 hown8 hg8
                   obtain ⟨A8, c8, rfl, ht8⟩ := own_bad hown8
                   have HT8 := hid ht8
                   have hb8 : Hid (Below w4.heap.size w4 w8) := Below.grown (hb7.out.alloc hs7 _) hg8 (by simp <;> omega) (fun k hk => (World.ownsRow.lt HO7.out k hk).1)
                   have q0 := cell_below hb8.out (H4.out.box.cell (i := 0) rfl)
                   have q1 := cell_below hb8.out (H4.out.box.cell (i := 1) rfl)
                   have q2 := cell_below hb8.out (H4.out.box.cell (i := 2) rfl)
                   clear hown8 hg8 ht8)
                | (refine stepg_own rfl (.tmp 45) (.tmp 47) rfl w4.heap.size _ D rfl HO7.out hs7 _ rfl nb7.out hsm.1 ?_
                   intro v8 w8 hown8 hg8
                   obtain ⟨A8, c8, rfl, ht8⟩ := own_bad hown8
                   have HT8 := hid ht8
                   have hb8 : Hid (Below w4.heap.size w4 w8) := Below.grown hb7.out hg8 hs7 (fun k hk => (World.ownsRow.lt HO7.out k hk).1)
                   have q0 := cell_below hb8.out (H4.out.box.cell (i := 0) rfl)
                   have q1 := cell_below hb8.out (H4.out.box.cell (i := 1) rfl)
                   have q2 := cell_below hb8.out (H4.out.box.cell (i := 2) rfl)
                   clear hown8 hg8 ht8)
                | (go_at_call 14; (with_reducible refine (badS_any c8 d _ ⟨HT8.out, (H4.out.srch.below hb8.out).dep⟩ ⟨hsm.1, hsm.2.1⟩).mono ?_); rintro ex w9 ⟨rfl, hb9⟩; have HEND := hid (H4.out.then_ (Below.then_ hb8.out hb9)); have q0 := HEND.out.box.cell (i := 0) rfl; have q1 := HEND.out.box.cell (i := 1) rfl; have q2 := HEND.out.box.cell (i := 2) rfl; clear hb9; go_simp))
            refine hK.out _ _ ?_ (fun hHeld => ?_)
            · ((try dsimp only); go_keep)
            clear hK K
            try simp only [Act.put, List.getElem_toArray, List.getElem_cons_zero, List.getElem_cons_succ, List.setIfInBounds_toArray, List.set_cons_zero, List.set_cons_succ]
            refine wpAnyH_take (i := 29) (v := ?_) rfl (by kernel_rfl) (by kernel_rfl) (by kernel_rfl) (fun _ _ _ h => h) (Or.inl ⟨by rfl, ?_⟩) (by assumption) ?_
            rotate_left
            · (intro w hSw; (try dsimp only at hSw); go_simp; try with_reducible rfl)
            try simp only [Act.put, List.getElem_toArray, List.getElem_cons_zero, List.getElem_cons_succ, List.setIfInBounds_toArray, List.set_cons_zero, List.set_cons_succ]
            refine wpAnyH_take (i := 30) (v := ?_) rfl (by kernel_rfl) (by kernel_rfl) (by kernel_rfl) (fun _ _ _ h => h) (Or.inl ⟨by rfl, ?_⟩) (by assumption) ?_
            rotate_left
            · (intro w hSw; (try dsimp only at hSw); go_simp; try with_reducible rfl)
            try simp only [Act.put, List.getElem_toArray, List.getElem_cons_zero, List.getElem_cons_succ, List.setIfInBounds_toArray, List.set_cons_zero, List.set_cons_succ]
            refine wpAnyH_take (i := 31) (v := ?_) rfl (by kernel_rfl) (by kernel_rfl) (by kernel_rfl) (fun _ _ _ h => h) (Or.inl ⟨by rfl, ?_⟩) (by assumption) ?_
            rotate_left
            · (intro w hSw; (try dsimp only at hSw); go_simp; try with_reducible rfl)
            try simp only [Act.put, List.getElem_toArray, List.getElem_cons_zero, List.getElem_cons_succ, List.setIfInBounds_toArray, List.set_cons_zero, List.set_cons_succ]
            refine wpAnyH_done (by kernel_rfl) ?_ _
            all_goals
              go_wp2
              go_ret
              exact ⟨rfl, HEND.out.bel⟩
          · go_simp
            refine hK.out _ _ ?_ (fun hHeld => ?_)
            · ((try dsimp only); go_keep)
            clear hK K
            try simp only [Act.put, List.getElem_toArray, List.getElem_cons_zero, List.getElem_cons_succ, List.setIfInBounds_toArray, List.set_cons_zero, List.set_cons_succ]
            refine wpAnyH_ready (rs := [21]) (by kernel_rfl) (by simp) ?_
            refine AllReadyH.cons rfl (fun K hK => ?_) AllReadyH.nil
            (first
                | (first | refine stepg_lit rfl (.tmp 42) (.tmp 44) rfl w4.heap.size w4.heap.size rfl (own_blw (own_pas0 w4 (Nat.le_refl _)) (by repeat (first | exact Below.refl _ _ | refine Below.drew ?_ | refine Below.alloc ?_ (by simp <;> omega) _))) (by simp <;> omega) P D (c) rfl (Triples.below H4.out.srch.pas (by repeat (first | exact Below.refl _ _ | refine Below.drew ?_ | refine Below.alloc ?_ (by simp <;> omega) _))) hsm.1 ?_ | refine stepg_lit rfl (.tmp 42) (.tmp 44) rfl (w4.heap.size + 1) w4.heap.size rfl (own_blw (own_pas1 w4 _ _) (by repeat (first | exact Below.refl _ _ | refine Below.drew ?_ | refine Below.alloc ?_ (by simp <;> omega) _))) (by simp <;> omega) P D (c) rfl (Triples.below H4.out.srch.pas (by repeat (first | exact Below.refl _ _ | refine Below.drew ?_ | refine Below.alloc ?_ (by simp <;> omega) _))) hsm.1 ?_
                   intro v7 w7 hown7 hg7
                   obtain ⟨A7, c7, rfl⟩ := own_form hown7
                   have HO7 := hid hown7
                   have hb7 : Hid (Below w4.heap.size w4 w7) := Below.grown (by repeat (first | exact Below.refl _ _ | refine Below.drew ?_ | refine Below.alloc ?_ (by simp <;> omega) _)) hg7 (by simp <;> omega) (fun k hk => by cases hk)
                   have q0 := cell_below hb7.out (H4.out.box.cell (i := 0) rfl)
                   have q1 := cell_below hb7.out (H4.out.box.cell (i := 1) rfl)
                   have q2 := cell_below hb7.out (H4.out.box.cell (i := 2) rfl)
                   have hs7 := hb7.out.size
                   try (have nb7 := hid (blk_g1 (x := #[.int .i64 0, .int .i64 0, .int .i64 1]) (y := #[]) hg7))
                   try (have nb7 := hid (blk_g2 (x := #[]) (y := #[.int .i64 0, .int .i64 0, .int .i64 1]) hg7))
                   try (have nb7 := hid (blk_g3 (x := #[.int .i64 0, .int .i64 0, .int .i64 1]) (y := #[]) hg7))
                   try (have nb7 := hid (blk_g4 (x := #[]) (y := #[.int .i64 0, .int .i64 0, .int .i64 1]) hg7))
                   clear hown7 hg7)
                | (refine stepg_own rfl (.tmp 45) (.tmp 47) rfl w4.heap.size _ D rfl (World.ownsRow.alloc HO7.out _) (by simp <;> omega) w7.heap.size rfl (Blk.new _ _ _) hsm.1 ?_
                   intro v8 w8 hown8 hg8
                   obtain ⟨A8, c8, rfl, ht8⟩ := own_bad hown8
                   have HT8 := hid ht8
                   have hb8 : Hid (Below w4.heap.size w4 w8) := Below.grown (hb7.out.alloc hs7 _) hg8 (by simp <;> omega) (fun k hk => (World.ownsRow.lt HO7.out k hk).1)
                   have q0 := cell_below hb8.out (H4.out.box.cell (i := 0) rfl)
                   have q1 := cell_below hb8.out (H4.out.box.cell (i := 1) rfl)
                   have q2 := cell_below hb8.out (H4.out.box.cell (i := 2) rfl)
                   clear hown8 hg8 ht8)
                | (refine stepg_own rfl (.tmp 45) (.tmp 47) rfl w4.heap.size _ D rfl HO7.out hs7 _ rfl nb7.out hsm.1 ?_
                   intro v8 w8 hown8 hg8
                   obtain ⟨A8, c8, rfl, ht8⟩ := own_bad hown8
                   have HT8 := hid ht8
                   have hb8 : Hid (Below w4.heap.size w4 w8) := Below.grown hb7.out hg8 hs7 (fun k hk => (World.ownsRow.lt HO7.out k hk).1)
                   have q0 := cell_below hb8.out (H4.out.box.cell (i := 0) rfl)
                   have q1 := cell_below hb8.out (H4.out.box.cell (i := 1) rfl)
                   have q2 := cell_below hb8.out (H4.out.box.cell (i := 2) rfl)
                   clear hown8 hg8 ht8)
                | (go_at_call 14; (with_reducible refine (badS_any c8 d _ ⟨HT8.out, (H4.out.srch.below hb8.out).dep⟩ ⟨hsm.1, hsm.2.1⟩).mono ?_); rintro ex w9 ⟨rfl, hb9⟩; have HEND := hid (H4.out.then_ (Below.then_ hb8.out hb9)); have q0 := HEND.out.box.cell (i := 0) rfl; have q1 := HEND.out.box.cell (i := 1) rfl; have q2 := HEND.out.box.cell (i := 2) rfl; clear hb9; go_simp))
            refine hK.out _ _ ?_ (fun hHeld => ?_)
            · ((try dsimp only); go_keep)
            clear hK K
            try simp only [Act.put, List.getElem_toArray, List.getElem_cons_zero, List.getElem_cons_succ, List.setIfInBounds_toArray, List.set_cons_zero, List.set_cons_succ]
            refine wpAnyH_ready (rs := [24]) (by kernel_rfl) (by simp) ?_
            refine AllReadyH.cons rfl (fun K hK => ?_) AllReadyH.nil
            (first
                | (first | refine stepg_lit rfl (.tmp 42) (.tmp 44) rfl w4.heap.size w4.heap.size rfl (own_blw (own_pas0 w4 (Nat.le_refl _)) (by repeat (first | exact Below.refl _ _ | refine Below.drew ?_ | refine Below.alloc ?_ (by simp <;> omega) _))) (by simp <;> omega) P D (c) rfl (Triples.below H4.out.srch.pas (by repeat (first | exact Below.refl _ _ | refine Below.drew ?_ | refine Below.alloc ?_ (by simp <;> omega) _))) hsm.1 ?_ | refine stepg_lit rfl (.tmp 42) (.tmp 44) rfl (w4.heap.size + 1) w4.heap.size rfl (own_blw (own_pas1 w4 _ _) (by repeat (first | exact Below.refl _ _ | refine Below.drew ?_ | refine Below.alloc ?_ (by simp <;> omega) _))) (by simp <;> omega) P D (c) rfl (Triples.below H4.out.srch.pas (by repeat (first | exact Below.refl _ _ | refine Below.drew ?_ | refine Below.alloc ?_ (by simp <;> omega) _))) hsm.1 ?_
                   intro v7 w7 hown7 hg7
                   obtain ⟨A7, c7, rfl⟩ := own_form hown7
                   have HO7 := hid hown7
                   have hb7 : Hid (Below w4.heap.size w4 w7) := Below.grown (by repeat (first | exact Below.refl _ _ | refine Below.drew ?_ | refine Below.alloc ?_ (by simp <;> omega) _)) hg7 (by simp <;> omega) (fun k hk => by cases hk)
                   have q0 := cell_below hb7.out (H4.out.box.cell (i := 0) rfl)
                   have q1 := cell_below hb7.out (H4.out.box.cell (i := 1) rfl)
                   have q2 := cell_below hb7.out (H4.out.box.cell (i := 2) rfl)
                   have hs7 := hb7.out.size
                   try (have nb7 := hid (blk_g1 (x := #[.int .i64 0, .int .i64 0, .int .i64 1]) (y := #[]) hg7))
                   try (have nb7 := hid (blk_g2 (x := #[]) (y := #[.int .i64 0, .int .i64 0, .int .i64 1]) hg7))
                   try (have nb7 := hid (blk_g3 (x := #[.int .i64 0, .int .i64 0, .int .i64 1]) (y := #[]) hg7))
                   try (have nb7 := hid (blk_g4 (x := #[]) (y := #[.int .i64 0, .int .i64 0, .int .i64 1]) hg7))
                   clear hown7 hg7)
                | (refine stepg_own rfl (.tmp 45) (.tmp 47) rfl w4.heap.size _ D rfl (World.ownsRow.alloc HO7.out _) (by simp <;> omega) w7.heap.size rfl (Blk.new _ _ _) hsm.1 ?_
                   intro v8 w8 hown8 hg8
                   obtain ⟨A8, c8, rfl, ht8⟩ := own_bad hown8
                   have HT8 := hid ht8
                   have hb8 : Hid (Below w4.heap.size w4 w8) := Below.grown (hb7.out.alloc hs7 _) hg8 (by simp <;> omega) (fun k hk => (World.ownsRow.lt HO7.out k hk).1)
                   have q0 := cell_below hb8.out (H4.out.box.cell (i := 0) rfl)
                   have q1 := cell_below hb8.out (H4.out.box.cell (i := 1) rfl)
                   have q2 := cell_below hb8.out (H4.out.box.cell (i := 2) rfl)
                   clear hown8 hg8 ht8)
                | (refine stepg_own rfl (.tmp 45) (.tmp 47) rfl w4.heap.size _ D rfl HO7.out hs7 _ rfl nb7.out hsm.1 ?_
                   intro v8 w8 hown8 hg8
                   obtain ⟨A8, c8, rfl, ht8⟩ := own_bad hown8
                   have HT8 := hid ht8
                   have hb8 : Hid (Below w4.heap.size w4 w8) := Below.grown hb7.out hg8 hs7 (fun k hk => (World.ownsRow.lt HO7.out k hk).1)
                   have q0 := cell_below hb8.out (H4.out.box.cell (i := 0) rfl)
                   have q1 := cell_below hb8.out (H4.out.box.cell (i := 1) rfl)
                   have q2 := cell_below hb8.out (H4.out.box.cell (i := 2) rfl)
                   clear hown8 hg8 ht8)
                | (go_at_call 14; (with_reducible refine (badS_any c8 d _ ⟨HT8.out, (H4.out.srch.below hb8.out).dep⟩ ⟨hsm.1, hsm.2.1⟩).mono ?_); rintro ex w9 ⟨rfl, hb9⟩; have HEND := hid (H4.out.then_ (Below.then_ hb8.out hb9)); have q0 := HEND.out.box.cell (i := 0) rfl; have q1 := HEND.out.box.cell (i := 1) rfl; have q2 := HEND.out.box.cell (i := 2) rfl; clear hb9; go_simp))
            refine hK.out _ _ ?_ (fun hHeld => ?_)
            · ((try dsimp only); go_keep)
            clear hK K
            try simp only [Act.put, List.getElem_toArray, List.getElem_cons_zero, List.getElem_cons_succ, List.setIfInBounds_toArray, List.set_cons_zero, List.set_cons_succ]
            refine wpAnyH_take (i := 27) (v := ?_) rfl (by kernel_rfl) (by kernel_rfl) (by kernel_rfl) (fun _ _ _ h => h) (Or.inl ⟨by rfl, ?_⟩) (by assumption) ?_
            rotate_left
            · (intro w hSw; (try dsimp only at hSw); go_simp; try with_reducible rfl)
            try simp only [Act.put, List.getElem_toArray, List.getElem_cons_zero, List.getElem_cons_succ, List.setIfInBounds_toArray, List.set_cons_zero, List.set_cons_succ]
            refine wpAnyH_ready (rs := [28]) (by kernel_rfl) (by simp) ?_
            refine AllReadyH.cons rfl (fun K hK => ?_) AllReadyH.nil
            go_simp
            (first
                | (first | refine stepg_lit rfl (.tmp 42) (.tmp 44) rfl w4.heap.size w4.heap.size rfl (own_blw (own_pas0 w4 (Nat.le_refl _)) (by repeat (first | exact Below.refl _ _ | refine Below.drew ?_ | refine Below.alloc ?_ (by simp <;> omega) _))) (by simp <;> omega) P D (c) rfl (Triples.below H4.out.srch.pas (by repeat (first | exact Below.refl _ _ | refine Below.drew ?_ | refine Below.alloc ?_ (by simp <;> omega) _))) hsm.1 ?_ | refine stepg_lit rfl (.tmp 42) (.tmp 44) rfl (w4.heap.size + 1) w4.heap.size rfl (own_blw (own_pas1 w4 _ _) (by repeat (first | exact Below.refl _ _ | refine Below.drew ?_ | refine Below.alloc ?_ (by simp <;> omega) _))) (by simp <;> omega) P D (c) rfl (Triples.below H4.out.srch.pas (by repeat (first | exact Below.refl _ _ | refine Below.drew ?_ | refine Below.alloc ?_ (by simp <;> omega) _))) hsm.1 ?_
                   intro v7 w7 hown7 hg7
                   obtain ⟨A7, c7, rfl⟩ := own_form hown7
                   have HO7 := hid hown7
                   have hb7 : Hid (Below w4.heap.size w4 w7) := Below.grown (by repeat (first | exact Below.refl _ _ | refine Below.drew ?_ | refine Below.alloc ?_ (by simp <;> omega) _)) hg7 (by simp <;> omega) (fun k hk => by cases hk)
                   have q0 := cell_below hb7.out (H4.out.box.cell (i := 0) rfl)
                   have q1 := cell_below hb7.out (H4.out.box.cell (i := 1) rfl)
                   have q2 := cell_below hb7.out (H4.out.box.cell (i := 2) rfl)
                   have hs7 := hb7.out.size
                   try (have nb7 := hid (blk_g1 (x := #[.int .i64 0, .int .i64 0, .int .i64 1]) (y := #[]) hg7))
                   try (have nb7 := hid (blk_g2 (x := #[]) (y := #[.int .i64 0, .int .i64 0, .int .i64 1]) hg7))
                   try (have nb7 := hid (blk_g3 (x := #[.int .i64 0, .int .i64 0, .int .i64 1]) (y := #[]) hg7))
                   try (have nb7 := hid (blk_g4 (x := #[]) (y := #[.int .i64 0, .int .i64 0, .int .i64 1]) hg7))
                   clear hown7 hg7)
                | (refine stepg_own rfl (.tmp 45) (.tmp 47) rfl w4.heap.size _ D rfl (World.ownsRow.alloc HO7.out _) (by simp <;> omega) w7.heap.size rfl (Blk.new _ _ _) hsm.1 ?_
                   intro v8 w8 hown8 hg8
                   obtain ⟨A8, c8, rfl, ht8⟩ := own_bad hown8
                   have HT8 := hid ht8
                   have hb8 : Hid (Below w4.heap.size w4 w8) := Below.grown (hb7.out.alloc hs7 _) hg8 (by simp <;> omega) (fun k hk => (World.ownsRow.lt HO7.out k hk).1)
                   have q0 := cell_below hb8.out (H4.out.box.cell (i := 0) rfl)
                   have q1 := cell_below hb8.out (H4.out.box.cell (i := 1) rfl)
                   have q2 := cell_below hb8.out (H4.out.box.cell (i := 2) rfl)
                   clear hown8 hg8 ht8)
                | (refine stepg_own rfl (.tmp 45) (.tmp 47) rfl w4.heap.size _ D rfl HO7.out hs7 _ rfl nb7.out hsm.1 ?_
                   intro v8 w8 hown8 hg8
                   obtain ⟨A8, c8, rfl, ht8⟩ := own_bad hown8
                   have HT8 := hid ht8
                   have hb8 : Hid (Below w4.heap.size w4 w8) := Below.grown hb7.out hg8 hs7 (fun k hk => (World.ownsRow.lt HO7.out k hk).1)
                   have q0 := cell_below hb8.out (H4.out.box.cell (i := 0) rfl)
                   have q1 := cell_below hb8.out (H4.out.box.cell (i := 1) rfl)
                   have q2 := cell_below hb8.out (H4.out.box.cell (i := 2) rfl)
                   clear hown8 hg8 ht8)
                | (go_at_call 14; (with_reducible refine (badS_any c8 d _ ⟨HT8.out, (H4.out.srch.below hb8.out).dep⟩ ⟨hsm.1, hsm.2.1⟩).mono ?_); rintro ex w9 ⟨rfl, hb9⟩; have HEND := hid (H4.out.then_ (Below.then_ hb8.out hb9)); have q0 := HEND.out.box.cell (i := 0) rfl; have q1 := HEND.out.box.cell (i := 1) rfl; have q2 := HEND.out.box.cell (i := 2) rfl; clear hb9; go_simp))
            refine hK.out _ _ ?_ (fun hHeld => ?_)
            · ((try dsimp only); go_keep)
            clear hK K
            try simp only [Act.put, List.getElem_toArray, List.getElem_cons_zero, List.getElem_cons_succ, List.setIfInBounds_toArray, List.set_cons_zero, List.set_cons_succ]
            refine wpAnyH_take (i := 29) (v := ?_) rfl (by kernel_rfl) (by kernel_rfl) (by kernel_rfl) (fun _ _ _ h => h) (Or.inl ⟨by rfl, ?_⟩) (by assumption) ?_
            rotate_left
            · (intro w hSw; (try dsimp only at hSw); go_simp; try with_reducible rfl)
            try simp only [Act.put, List.getElem_toArray, List.getElem_cons_zero, List.getElem_cons_succ, List.setIfInBounds_toArray, List.set_cons_zero, List.set_cons_succ]
            refine wpAnyH_take (i := 30) (v := ?_) rfl (by kernel_rfl) (by kernel_rfl) (by kernel_rfl) (fun _ _ _ h => h) (Or.inl ⟨by rfl, ?_⟩) (by assumption) ?_
            rotate_left
            · (intro w hSw; (try dsimp only at hSw); go_simp; try with_reducible rfl)
            try simp only [Act.put, List.getElem_toArray, List.getElem_cons_zero, List.getElem_cons_succ, List.setIfInBounds_toArray, List.set_cons_zero, List.set_cons_succ]
            refine wpAnyH_take (i := 31) (v := ?_) rfl (by kernel_rfl) (by kernel_rfl) (by kernel_rfl) (fun _ _ _ h => h) (Or.inl ⟨by rfl, ?_⟩) (by assumption) ?_
            rotate_left
            · (intro w hSw; (try dsimp only at hSw); go_simp; try with_reducible rfl)
            try simp only [Act.put, List.getElem_toArray, List.getElem_cons_zero, List.getElem_cons_succ, List.setIfInBounds_toArray, List.set_cons_zero, List.set_cons_succ]
            refine wpAnyH_done (by kernel_rfl) ?_ _
            all_goals
              go_wp2
              go_ret
              exact ⟨rfl, HEND.out.bel⟩
        · go_simp
          refine hK.out _ _ ?_ (fun hHeld => ?_)
          · ((try dsimp only); go_keep)
          clear hK K
          try simp only [Act.put, List.getElem_toArray, List.getElem_cons_zero, List.getElem_cons_succ, List.setIfInBounds_toArray, List.set_cons_zero, List.set_cons_succ]
          refine wpAnyH_ready (rs := [18]) (by kernel_rfl) (by simp) ?_
          refine AllReadyH.cons rfl (fun K hK => ?_) AllReadyH.nil
          go_simp
          refine hK.out _ _ ?_ (fun hHeld => ?_)
          · ((try dsimp only); go_keep)
          clear hK K
          try simp only [Act.put, List.getElem_toArray, List.getElem_cons_zero, List.getElem_cons_succ, List.setIfInBounds_toArray, List.set_cons_zero, List.set_cons_succ]
          refine wpAnyH_ready (rs := [21]) (by kernel_rfl) (by simp) ?_
          refine AllReadyH.cons rfl (fun K hK => ?_) AllReadyH.nil
          (first
              | (first | refine stepg_lit rfl (.tmp 42) (.tmp 44) rfl w4.heap.size w4.heap.size rfl (own_blw (own_pas0 w4 (Nat.le_refl _)) (by repeat (first | exact Below.refl _ _ | refine Below.drew ?_ | refine Below.alloc ?_ (by simp <;> omega) _))) (by simp <;> omega) P D (c) rfl (Triples.below H4.out.srch.pas (by repeat (first | exact Below.refl _ _ | refine Below.drew ?_ | refine Below.alloc ?_ (by simp <;> omega) _))) hsm.1 ?_ | refine stepg_lit rfl (.tmp 42) (.tmp 44) rfl (w4.heap.size + 1) w4.heap.size rfl (own_blw (own_pas1 w4 _ _) (by repeat (first | exact Below.refl _ _ | refine Below.drew ?_ | refine Below.alloc ?_ (by simp <;> omega) _))) (by simp <;> omega) P D (c) rfl (Triples.below H4.out.srch.pas (by repeat (first | exact Below.refl _ _ | refine Below.drew ?_ | refine Below.alloc ?_ (by simp <;> omega) _))) hsm.1 ?_
                 intro v7 w7 hown7 hg7
                 obtain ⟨A7, c7, rfl⟩ := own_form hown7
                 have HO7 := hid hown7
                 have hb7 : Hid (Below w4.heap.size w4 w7) := Below.grown (by repeat (first | exact Below.refl _ _ | refine Below.drew ?_ | refine Below.alloc ?_ (by simp <;> omega) _)) hg7 (by simp <;> omega) (fun k hk => by cases hk)
                 have q0 := cell_below hb7.out (H4.out.box.cell (i := 0) rfl)
                 have q1 := cell_below hb7.out (H4.out.box.cell (i := 1) rfl)
                 have q2 := cell_below hb7.out (H4.out.box.cell (i := 2) rfl)
                 have hs7 := hb7.out.size
                 try (have nb7 := hid (blk_g1 (x := #[.int .i64 0, .int .i64 0, .int .i64 1]) (y := #[]) hg7))
                 try (have nb7 := hid (blk_g2 (x := #[]) (y := #[.int .i64 0, .int .i64 0, .int .i64 1]) hg7))
                 try (have nb7 := hid (blk_g3 (x := #[.int .i64 0, .int .i64 0, .int .i64 1]) (y := #[]) hg7))
                 try (have nb7 := hid (blk_g4 (x := #[]) (y := #[.int .i64 0, .int .i64 0, .int .i64 1]) hg7))
                 clear hown7 hg7)
              | (refine stepg_own rfl (.tmp 45) (.tmp 47) rfl w4.heap.size _ D rfl (World.ownsRow.alloc HO7.out _) (by simp <;> omega) w7.heap.size rfl (Blk.new _ _ _) hsm.1 ?_
                 intro v8 w8 hown8 hg8
                 obtain ⟨A8, c8, rfl, ht8⟩ := own_bad hown8
                 have HT8 := hid ht8
                 have hb8 : Hid (Below w4.heap.size w4 w8) := Below.grown (hb7.out.alloc hs7 _) hg8 (by simp <;> omega) (fun k hk => (World.ownsRow.lt HO7.out k hk).1)
                 have q0 := cell_below hb8.out (H4.out.box.cell (i := 0) rfl)
                 have q1 := cell_below hb8.out (H4.out.box.cell (i := 1) rfl)
                 have q2 := cell_below hb8.out (H4.out.box.cell (i := 2) rfl)
                 clear hown8 hg8 ht8)
              | (refine stepg_own rfl (.tmp 45) (.tmp 47) rfl w4.heap.size _ D rfl HO7.out hs7 _ rfl nb7.out hsm.1 ?_
                 intro v8 w8 hown8 hg8
                 obtain ⟨A8, c8, rfl, ht8⟩ := own_bad hown8
                 have HT8 := hid ht8
                 have hb8 : Hid (Below w4.heap.size w4 w8) := Below.grown hb7.out hg8 hs7 (fun k hk => (World.ownsRow.lt HO7.out k hk).1)
                 have q0 := cell_below hb8.out (H4.out.box.cell (i := 0) rfl)
                 have q1 := cell_below hb8.out (H4.out.box.cell (i := 1) rfl)
                 have q2 := cell_below hb8.out (H4.out.box.cell (i := 2) rfl)
                 clear hown8 hg8 ht8)
              | (go_at_call 14; (with_reducible refine (badS_any c8 d _ ⟨HT8.out, (H4.out.srch.below hb8.out).dep⟩ ⟨hsm.1, hsm.2.1⟩).mono ?_); rintro ex w9 ⟨rfl, hb9⟩; have HEND := hid (H4.out.then_ (Below.then_ hb8.out hb9)); have q0 := HEND.out.box.cell (i := 0) rfl; have q1 := HEND.out.box.cell (i := 1) rfl; have q2 := HEND.out.box.cell (i := 2) rfl; clear hb9; go_simp))
          refine hK.out _ _ ?_ (fun hHeld => ?_)
          · ((try dsimp only); go_keep)
          clear hK K
          try simp only [Act.put, List.getElem_toArray, List.getElem_cons_zero, List.getElem_cons_succ, List.setIfInBounds_toArray, List.set_cons_zero, List.set_cons_succ]
          refine wpAnyH_ready (rs := [24]) (by kernel_rfl) (by simp) ?_
          refine AllReadyH.cons rfl (fun K hK => ?_) AllReadyH.nil
          (first
              | (first | refine stepg_lit rfl (.tmp 42) (.tmp 44) rfl w4.heap.size w4.heap.size rfl (own_blw (own_pas0 w4 (Nat.le_refl _)) (by repeat (first | exact Below.refl _ _ | refine Below.drew ?_ | refine Below.alloc ?_ (by simp <;> omega) _))) (by simp <;> omega) P D (c) rfl (Triples.below H4.out.srch.pas (by repeat (first | exact Below.refl _ _ | refine Below.drew ?_ | refine Below.alloc ?_ (by simp <;> omega) _))) hsm.1 ?_ | refine stepg_lit rfl (.tmp 42) (.tmp 44) rfl (w4.heap.size + 1) w4.heap.size rfl (own_blw (own_pas1 w4 _ _) (by repeat (first | exact Below.refl _ _ | refine Below.drew ?_ | refine Below.alloc ?_ (by simp <;> omega) _))) (by simp <;> omega) P D (c) rfl (Triples.below H4.out.srch.pas (by repeat (first | exact Below.refl _ _ | refine Below.drew ?_ | refine Below.alloc ?_ (by simp <;> omega) _))) hsm.1 ?_
                 intro v7 w7 hown7 hg7
                 obtain ⟨A7, c7, rfl⟩ := own_form hown7
                 have HO7 := hid hown7
                 have hb7 : Hid (Below w4.heap.size w4 w7) := Below.grown (by repeat (first | exact Below.refl _ _ | refine Below.drew ?_ | refine Below.alloc ?_ (by simp <;> omega) _)) hg7 (by simp <;> omega) (fun k hk => by cases hk)
                 have q0 := cell_below hb7.out (H4.out.box.cell (i := 0) rfl)
                 have q1 := cell_below hb7.out (H4.out.box.cell (i := 1) rfl)
                 have q2 := cell_below hb7.out (H4.out.box.cell (i := 2) rfl)
                 have hs7 := hb7.out.size
                 try (have nb7 := hid (blk_g1 (x := #[.int .i64 0, .int .i64 0, .int .i64 1]) (y := #[]) hg7))
                 try (have nb7 := hid (blk_g2 (x := #[]) (y := #[.int .i64 0, .int .i64 0, .int .i64 1]) hg7))
                 try (have nb7 := hid (blk_g3 (x := #[.int .i64 0, .int .i64 0, .int .i64 1]) (y := #[]) hg7))
                 try (have nb7 := hid (blk_g4 (x := #[]) (y := #[.int .i64 0, .int .i64 0, .int .i64 1]) hg7))
                 clear hown7 hg7)
              | (refine stepg_own rfl (.tmp 45) (.tmp 47) rfl w4.heap.size _ D rfl (World.ownsRow.alloc HO7.out _) (by simp <;> omega) w7.heap.size rfl (Blk.new _ _ _) hsm.1 ?_
                 intro v8 w8 hown8 hg8
                 obtain ⟨A8, c8, rfl, ht8⟩ := own_bad hown8
                 have HT8 := hid ht8
                 have hb8 : Hid (Below w4.heap.size w4 w8) := Below.grown (hb7.out.alloc hs7 _) hg8 (by simp <;> omega) (fun k hk => (World.ownsRow.lt HO7.out k hk).1)
                 have q0 := cell_below hb8.out (H4.out.box.cell (i := 0) rfl)
                 have q1 := cell_below hb8.out (H4.out.box.cell (i := 1) rfl)
                 have q2 := cell_below hb8.out (H4.out.box.cell (i := 2) rfl)
                 clear hown8 hg8 ht8)
              | (refine stepg_own rfl (.tmp 45) (.tmp 47) rfl w4.heap.size _ D rfl HO7.out hs7 _ rfl nb7.out hsm.1 ?_
                 intro v8 w8 hown8 hg8
                 obtain ⟨A8, c8, rfl, ht8⟩ := own_bad hown8
                 have HT8 := hid ht8
                 have hb8 : Hid (Below w4.heap.size w4 w8) := Below.grown hb7.out hg8 hs7 (fun k hk => (World.ownsRow.lt HO7.out k hk).1)
                 have q0 := cell_below hb8.out (H4.out.box.cell (i := 0) rfl)
                 have q1 := cell_below hb8.out (H4.out.box.cell (i := 1) rfl)
                 have q2 := cell_below hb8.out (H4.out.box.cell (i := 2) rfl)
                 clear hown8 hg8 ht8)
              | (go_at_call 14; (with_reducible refine (badS_any c8 d _ ⟨HT8.out, (H4.out.srch.below hb8.out).dep⟩ ⟨hsm.1, hsm.2.1⟩).mono ?_); rintro ex w9 ⟨rfl, hb9⟩; have HEND := hid (H4.out.then_ (Below.then_ hb8.out hb9)); have q0 := HEND.out.box.cell (i := 0) rfl; have q1 := HEND.out.box.cell (i := 1) rfl; have q2 := HEND.out.box.cell (i := 2) rfl; clear hb9; go_simp))
          refine hK.out _ _ ?_ (fun hHeld => ?_)
          · ((try dsimp only); go_keep)
          clear hK K
          try simp only [Act.put, List.getElem_toArray, List.getElem_cons_zero, List.getElem_cons_succ, List.setIfInBounds_toArray, List.set_cons_zero, List.set_cons_succ]
          refine wpAnyH_take (i := 27) (v := ?_) rfl (by kernel_rfl) (by kernel_rfl) (by kernel_rfl) (fun _ _ _ h => h) (Or.inl ⟨by rfl, ?_⟩) (by assumption) ?_
          rotate_left
          · (intro w hSw; (try dsimp only at hSw); go_simp; try with_reducible rfl)
          try simp only [Act.put, List.getElem_toArray, List.getElem_cons_zero, List.getElem_cons_succ, List.setIfInBounds_toArray, List.set_cons_zero, List.set_cons_succ]
          refine wpAnyH_ready (rs := [28]) (by kernel_rfl) (by simp) ?_
          refine AllReadyH.cons rfl (fun K hK => ?_) AllReadyH.nil
          go_simp
          (first
              | (first | refine stepg_lit rfl (.tmp 42) (.tmp 44) rfl w4.heap.size w4.heap.size rfl (own_blw (own_pas0 w4 (Nat.le_refl _)) (by repeat (first | exact Below.refl _ _ | refine Below.drew ?_ | refine Below.alloc ?_ (by simp <;> omega) _))) (by simp <;> omega) P D (c) rfl (Triples.below H4.out.srch.pas (by repeat (first | exact Below.refl _ _ | refine Below.drew ?_ | refine Below.alloc ?_ (by simp <;> omega) _))) hsm.1 ?_ | refine stepg_lit rfl (.tmp 42) (.tmp 44) rfl (w4.heap.size + 1) w4.heap.size rfl (own_blw (own_pas1 w4 _ _) (by repeat (first | exact Below.refl _ _ | refine Below.drew ?_ | refine Below.alloc ?_ (by simp <;> omega) _))) (by simp <;> omega) P D (c) rfl (Triples.below H4.out.srch.pas (by repeat (first | exact Below.refl _ _ | refine Below.drew ?_ | refine Below.alloc ?_ (by simp <;> omega) _))) hsm.1 ?_
                 intro v7 w7 hown7 hg7
                 obtain ⟨A7, c7, rfl⟩ := own_form hown7
                 have HO7 := hid hown7
                 have hb7 : Hid (Below w4.heap.size w4 w7) := Below.grown (by repeat (first | exact Below.refl _ _ | refine Below.drew ?_ | refine Below.alloc ?_ (by simp <;> omega) _)) hg7 (by simp <;> omega) (fun k hk => by cases hk)
                 have q0 := cell_below hb7.out (H4.out.box.cell (i := 0) rfl)
                 have q1 := cell_below hb7.out (H4.out.box.cell (i := 1) rfl)
                 have q2 := cell_below hb7.out (H4.out.box.cell (i := 2) rfl)
                 have hs7 := hb7.out.size
                 try (have nb7 := hid (blk_g1 (x := #[.int .i64 0, .int .i64 0, .int .i64 1]) (y := #[]) hg7))
                 try (have nb7 := hid (blk_g2 (x := #[]) (y := #[.int .i64 0, .int .i64 0, .int .i64 1]) hg7))
                 try (have nb7 := hid (blk_g3 (x := #[.int .i64 0, .int .i64 0, .int .i64 1]) (y := #[]) hg7))
                 try (have nb7 := hid (blk_g4 (x := #[]) (y := #[.int .i64 0, .int .i64 0, .int .i64 1]) hg7))
                 clear hown7 hg7)
              | (refine stepg_own rfl (.tmp 45) (.tmp 47) rfl w4.heap.size _ D rfl (World.ownsRow.alloc HO7.out _) (by simp <;> omega) w7.heap.size rfl (Blk.new _ _ _) hsm.1 ?_
                 intro v8 w8 hown8 hg8
                 obtain ⟨A8, c8, rfl, ht8⟩ := own_bad hown8
                 have HT8 := hid ht8
                 have hb8 : Hid (Below w4.heap.size w4 w8) := Below.grown (hb7.out.alloc hs7 _) hg8 (by simp <;> omega) (fun k hk => (World.ownsRow.lt HO7.out k hk).1)
                 have q0 := cell_below hb8.out (H4.out.box.cell (i := 0) rfl)
                 have q1 := cell_below hb8.out (H4.out.box.cell (i := 1) rfl)
                 have q2 := cell_below hb8.out (H4.out.box.cell (i := 2) rfl)
                 clear hown8 hg8 ht8)
              | (refine stepg_own rfl (.tmp 45) (.tmp 47) rfl w4.heap.size _ D rfl HO7.out hs7 _ rfl nb7.out hsm.1 ?_
                 intro v8 w8 hown8 hg8
                 obtain ⟨A8, c8, rfl, ht8⟩ := own_bad hown8
                 have HT8 := hid ht8
                 have hb8 : Hid (Below w4.heap.size w4 w8) := Below.grown hb7.out hg8 hs7 (fun k hk => (World.ownsRow.lt HO7.out k hk).1)
                 have q0 := cell_below hb8.out (H4.out.box.cell (i := 0) rfl)
                 have q1 := cell_below hb8.out (H4.out.box.cell (i := 1) rfl)
                 have q2 := cell_below hb8.out (H4.out.box.cell (i := 2) rfl)
                 clear hown8 hg8 ht8)
              | (go_at_call 14; (with_reducible refine (badS_any c8 d _ ⟨HT8.out, (H4.out.srch.below hb8.out).dep⟩ ⟨hsm.1, hsm.2.1⟩).mono ?_); rintro ex w9 ⟨rfl, hb9⟩; have HEND := hid (H4.out.then_ (Below.then_ hb8.out hb9)); have q0 := HEND.out.box.cell (i := 0) rfl; have q1 := HEND.out.box.cell (i := 1) rfl; have q2 := HEND.out.box.cell (i := 2) rfl; clear hb9; go_simp))
          refine hK.out _ _ ?_ (fun hHeld => ?_)
          · ((try dsimp only); go_keep)
          clear hK K
          try simp only [Act.put, List.getElem_toArray, List.getElem_cons_zero, List.getElem_cons_succ, List.setIfInBounds_toArray, List.set_cons_zero, List.set_cons_succ]
          refine wpAnyH_take (i := 29) (v := ?_) rfl (by kernel_rfl) (by kernel_rfl) (by kernel_rfl) (fun _ _ _ h => h) (Or.inl ⟨by rfl, ?_⟩) (by assumption) ?_
          rotate_left
          · (intro w hSw; (try dsimp only at hSw); go_simp; try with_reducible rfl)
          try simp only [Act.put, List.getElem_toArray, List.getElem_cons_zero, List.getElem_cons_succ, List.setIfInBounds_toArray, List.set_cons_zero, List.set_cons_succ]
          refine wpAnyH_take (i := 30) (v := ?_) rfl (by kernel_rfl) (by kernel_rfl) (by kernel_rfl) (fun _ _ _ h => h) (Or.inl ⟨by rfl, ?_⟩) (by assumption) ?_
          rotate_left
          · (intro w hSw; (try dsimp only at hSw); go_simp; try with_reducible rfl)
          try simp only [Act.put, List.getElem_toArray, List.getElem_cons_zero, List.getElem_cons_succ, List.setIfInBounds_toArray, List.set_cons_zero, List.set_cons_succ]
          refine wpAnyH_take (i := 31) (v := ?_) rfl (by kernel_rfl) (by kernel_rfl) (by kernel_rfl) (fun _ _ _ h => h) (Or.inl ⟨by rfl, ?_⟩) (by assumption) ?_
          rotate_left
          · (intro w hSw; (try dsimp only at hSw); go_simp; try with_reducible rfl)
          try simp only [Act.put, List.getElem_toArray, List.getElem_cons_zero, List.getElem_cons_succ, List.setIfInBounds_toArray, List.set_cons_zero, List.set_cons_succ]
          refine wpAnyH_done (by kernel_rfl) ?_ _
          all_goals
            go_wp2
            go_ret
            exact ⟨rfl, HEND.out.bel⟩
      · have e1 : ((D.m : Int) == 0) = false := by simp; omega
        have hpas := hid H4.out.srch.pas
        obtain ⟨b, o, rfl, _⟩ := hpas.out (by omega)
        have hm1 : (1 : Int) ≤ (D.m : Int) := by omega
        have hme : (D.m : Int) ≤ (c : Int) := by have := hsm.2.2; omega
        have hem : ((D.m : Int) - 1).toNat = D.m - 1 := by omega
        clear hpas
        by_cases hc1 : c = 1
        · subst hc1
          have hD1 : D.m = 1 := by have := hsm.2.2; omega
          have hz : (tailS D).m = 0 := by show D.m - 1 = 0; omega
          have W1 : Hid (∀ W, Below w4.heap.size w4 W → Calls Tryd.prog 14 #[.agg #[.int .i64 D.s, .slice (some ⟨b, o, none⟩) 0 0, .slice Q D.k d]] W (RetV (.bool true) W)) := hid (fun W hW => by
            have := RetB.yes (SearchValid_impl (some ⟨b, o, none⟩) Q (tailS D) 0 d W (tailS_one ((H4.out.then_ hW).srch) hD1) HS.out) HOK.out
            rw [hz] at this
            exact this)
          clear hz hD1
          go_wp2
          go_region_held3 (fun W => W.cell? ⟨X, 0, none⟩ = some (.int .i64 D.s) ∧ W.cell? ⟨X, 1, none⟩ = some (.slice (some ⟨b, o, none⟩) D.m 1) ∧ W.cell? ⟨X, 2, none⟩ = some (.slice Q D.k d)) (go_keep) (first
              | (go_at_call 14; (with_reducible refine (W1.out _ (Below.refl _ _).drew).mono ?_); rintro ex w5 ⟨rfl, hb5⟩; have H5 := hid (H4.out.then_ ((Below.refl w4.heap.size w4).drew.trans hb5)); have q0 := H5.out.box.cell (i := 0) rfl; have q1 := H5.out.box.cell (i := 1) rfl; have q2 := H5.out.box.cell (i := 2) rfl; clear hb5)
              | (first | refine stepg_lit rfl (.tmp 42) (.tmp 44) rfl w5.heap.size w5.heap.size rfl (own_blw (own_pas0 w5 (Nat.le_refl _)) (by repeat (first | exact Below.refl _ _ | refine Below.drew ?_ | refine Below.alloc ?_ (by simp <;> omega) _))) (by simp <;> omega) _ D (1) rfl (Triples.below H5.out.srch.pas (by repeat (first | exact Below.refl _ _ | refine Below.drew ?_ | refine Below.alloc ?_ (by simp <;> omega) _))) hsm.1 ?_ | refine stepg_lit rfl (.tmp 42) (.tmp 44) rfl (w5.heap.size + 1) w5.heap.size rfl (own_blw (own_pas1 w5 _ _) (by repeat (first | exact Below.refl _ _ | refine Below.drew ?_ | refine Below.alloc ?_ (by simp <;> omega) _))) (by simp <;> omega) _ D (1) rfl (Triples.below H5.out.srch.pas (by repeat (first | exact Below.refl _ _ | refine Below.drew ?_ | refine Below.alloc ?_ (by simp <;> omega) _))) hsm.1 ?_
                 intro v7 w7 hown7 hg7
                 obtain ⟨A7, c7, rfl⟩ := own_form hown7
                 have HO7 := hid hown7
                 have hb7 : Hid (Below w5.heap.size w5 w7) := Below.grown (by repeat (first | exact Below.refl _ _ | refine Below.drew ?_ | refine Below.alloc ?_ (by simp <;> omega) _)) hg7 (by simp <;> omega) (fun k hk => by cases hk)
                 have q0 := cell_below hb7.out (H5.out.box.cell (i := 0) rfl)
                 have q1 := cell_below hb7.out (H5.out.box.cell (i := 1) rfl)
                 have q2 := cell_below hb7.out (H5.out.box.cell (i := 2) rfl)
                 have hs7 := hb7.out.size
                 try (have nb7 := hid (blk_g1 (x := #[.int .i64 0, .int .i64 0, .int .i64 1]) (y := #[]) hg7))
                 try (have nb7 := hid (blk_g2 (x := #[]) (y := #[.int .i64 0, .int .i64 0, .int .i64 1]) hg7))
                 try (have nb7 := hid (blk_g3 (x := #[.int .i64 0, .int .i64 0, .int .i64 1]) (y := #[]) hg7))
                 try (have nb7 := hid (blk_g4 (x := #[]) (y := #[.int .i64 0, .int .i64 0, .int .i64 1]) hg7))
                 clear hown7 hg7)
              | (refine stepg_own rfl (.tmp 45) (.tmp 47) rfl w5.heap.size _ D rfl (World.ownsRow.alloc HO7.out _) (by simp <;> omega) w7.heap.size rfl (Blk.new _ _ _) hsm.1 ?_
                 intro v8 w8 hown8 hg8
                 obtain ⟨A8, c8, rfl, ht8⟩ := own_bad hown8
                 have HT8 := hid ht8
                 have hb8 : Hid (Below w5.heap.size w5 w8) := Below.grown (hb7.out.alloc hs7 _) hg8 (by simp <;> omega) (fun k hk => (World.ownsRow.lt HO7.out k hk).1)
                 have q0 := cell_below hb8.out (H5.out.box.cell (i := 0) rfl)
                 have q1 := cell_below hb8.out (H5.out.box.cell (i := 1) rfl)
                 have q2 := cell_below hb8.out (H5.out.box.cell (i := 2) rfl)
                 clear hown8 hg8 ht8)
              | (refine stepg_own rfl (.tmp 45) (.tmp 47) rfl w5.heap.size _ D rfl HO7.out hs7 _ rfl nb7.out hsm.1 ?_
                 intro v8 w8 hown8 hg8
                 obtain ⟨A8, c8, rfl, ht8⟩ := own_bad hown8
                 have HT8 := hid ht8
                 have hb8 : Hid (Below w5.heap.size w5 w8) := Below.grown hb7.out hg8 hs7 (fun k hk => (World.ownsRow.lt HO7.out k hk).1)
                 have q0 := cell_below hb8.out (H5.out.box.cell (i := 0) rfl)
                 have q1 := cell_below hb8.out (H5.out.box.cell (i := 1) rfl)
                 have q2 := cell_below hb8.out (H5.out.box.cell (i := 2) rfl)
                 clear hown8 hg8 ht8)
              | (go_at_call 14; (with_reducible refine (badS_any c8 d _ ⟨HT8.out, (H5.out.srch.below hb8.out).dep⟩ ⟨hsm.1, hsm.2.1⟩).mono ?_); rintro ex w9 ⟨rfl, hb9⟩; have HEND := hid (H5.out.then_ (Below.then_ hb8.out hb9)); have q0 := HEND.out.box.cell (i := 0) rfl; have q1 := HEND.out.box.cell (i := 1) rfl; have q2 := HEND.out.box.cell (i := 2) rfl; clear hb9; go_simp))
          all_goals
            go_wp2
            go_ret
            exact ⟨rfl, HEND.out.bel⟩
        · have W1 : Hid (∀ W, Below w4.heap.size w4 W → Calls Tryd.prog 14 #[.agg #[.int .i64 D.s, .slice (some ⟨b, o + 3, none⟩) (D.m - 1) (c - 1), .slice Q D.k d]] W (RetV (.bool true) W)) := hid (fun W hW =>
            RetB.yes (SearchValid_impl (some ⟨b, o + 3, none⟩) Q (tailS D) (c - 1) d W (tailS_at ((H4.out.then_ hW).srch)) HS.out) HOK.out)
          go_wp2
          go_region_held3 (fun W => W.cell? ⟨X, 0, none⟩ = some (.int .i64 D.s) ∧ W.cell? ⟨X, 1, none⟩ = some (.slice (some ⟨b, o, none⟩) D.m c) ∧ W.cell? ⟨X, 2, none⟩ = some (.slice Q D.k d)) (go_keep) (first
              | (go_at_call 14; (with_reducible refine (W1.out _ (Below.refl _ _).drew).mono ?_); rintro ex w5 ⟨rfl, hb5⟩; have H5 := hid (H4.out.then_ ((Below.refl w4.heap.size w4).drew.trans hb5)); have q0 := H5.out.box.cell (i := 0) rfl; have q1 := H5.out.box.cell (i := 1) rfl; have q2 := H5.out.box.cell (i := 2) rfl; clear hb5)
              | (first | refine stepg_lit rfl (.tmp 42) (.tmp 44) rfl w5.heap.size w5.heap.size rfl (own_blw (own_pas0 w5 (Nat.le_refl _)) (by repeat (first | exact Below.refl _ _ | refine Below.drew ?_ | refine Below.alloc ?_ (by simp <;> omega) _))) (by simp <;> omega) _ D (c) rfl (Triples.below H5.out.srch.pas (by repeat (first | exact Below.refl _ _ | refine Below.drew ?_ | refine Below.alloc ?_ (by simp <;> omega) _))) hsm.1 ?_ | refine stepg_lit rfl (.tmp 42) (.tmp 44) rfl (w5.heap.size + 1) w5.heap.size rfl (own_blw (own_pas1 w5 _ _) (by repeat (first | exact Below.refl _ _ | refine Below.drew ?_ | refine Below.alloc ?_ (by simp <;> omega) _))) (by simp <;> omega) _ D (c) rfl (Triples.below H5.out.srch.pas (by repeat (first | exact Below.refl _ _ | refine Below.drew ?_ | refine Below.alloc ?_ (by simp <;> omega) _))) hsm.1 ?_
                 intro v7 w7 hown7 hg7
                 obtain ⟨A7, c7, rfl⟩ := own_form hown7
                 have HO7 := hid hown7
                 have hb7 : Hid (Below w5.heap.size w5 w7) := Below.grown (by repeat (first | exact Below.refl _ _ | refine Below.drew ?_ | refine Below.alloc ?_ (by simp <;> omega) _)) hg7 (by simp <;> omega) (fun k hk => by cases hk)
                 have q0 := cell_below hb7.out (H5.out.box.cell (i := 0) rfl)
                 have q1 := cell_below hb7.out (H5.out.box.cell (i := 1) rfl)
                 have q2 := cell_below hb7.out (H5.out.box.cell (i := 2) rfl)
                 have hs7 := hb7.out.size
                 try (have nb7 := hid (blk_g1 (x := #[.int .i64 0, .int .i64 0, .int .i64 1]) (y := #[]) hg7))
                 try (have nb7 := hid (blk_g2 (x := #[]) (y := #[.int .i64 0, .int .i64 0, .int .i64 1]) hg7))
                 try (have nb7 := hid (blk_g3 (x := #[.int .i64 0, .int .i64 0, .int .i64 1]) (y := #[]) hg7))
                 try (have nb7 := hid (blk_g4 (x := #[]) (y := #[.int .i64 0, .int .i64 0, .int .i64 1]) hg7))
                 clear hown7 hg7)
              | (refine stepg_own rfl (.tmp 45) (.tmp 47) rfl w5.heap.size _ D rfl (World.ownsRow.alloc HO7.out _) (by simp <;> omega) w7.heap.size rfl (Blk.new _ _ _) hsm.1 ?_
                 intro v8 w8 hown8 hg8
                 obtain ⟨A8, c8, rfl, ht8⟩ := own_bad hown8
                 have HT8 := hid ht8
                 have hb8 : Hid (Below w5.heap.size w5 w8) := Below.grown (hb7.out.alloc hs7 _) hg8 (by simp <;> omega) (fun k hk => (World.ownsRow.lt HO7.out k hk).1)
                 have q0 := cell_below hb8.out (H5.out.box.cell (i := 0) rfl)
                 have q1 := cell_below hb8.out (H5.out.box.cell (i := 1) rfl)
                 have q2 := cell_below hb8.out (H5.out.box.cell (i := 2) rfl)
                 clear hown8 hg8 ht8)
              | (refine stepg_own rfl (.tmp 45) (.tmp 47) rfl w5.heap.size _ D rfl HO7.out hs7 _ rfl nb7.out hsm.1 ?_
                 intro v8 w8 hown8 hg8
                 obtain ⟨A8, c8, rfl, ht8⟩ := own_bad hown8
                 have HT8 := hid ht8
                 have hb8 : Hid (Below w5.heap.size w5 w8) := Below.grown hb7.out hg8 hs7 (fun k hk => (World.ownsRow.lt HO7.out k hk).1)
                 have q0 := cell_below hb8.out (H5.out.box.cell (i := 0) rfl)
                 have q1 := cell_below hb8.out (H5.out.box.cell (i := 1) rfl)
                 have q2 := cell_below hb8.out (H5.out.box.cell (i := 2) rfl)
                 clear hown8 hg8 ht8)
              | (go_at_call 14; (with_reducible refine (badS_any c8 d _ ⟨HT8.out, (H5.out.srch.below hb8.out).dep⟩ ⟨hsm.1, hsm.2.1⟩).mono ?_); rintro ex w9 ⟨rfl, hb9⟩; have HEND := hid (H5.out.then_ (Below.then_ hb8.out hb9)); have q0 := HEND.out.box.cell (i := 0) rfl; have q1 := HEND.out.box.cell (i := 1) rfl; have q2 := HEND.out.box.cell (i := 2) rfl; clear hb9; go_simp))
          all_goals
            go_wp2
            go_ret
            exact ⟨rfl, HEND.out.bel⟩
    · refine (RetB.no HV.out hok).mono ?_
      rintro ex w3 ⟨rfl, hb3⟩
      have H3 := hid (H1.out.then_ hb3)
      clear hb3 H1 HV
      have y0 := H3.out.box.cell (i := 0) rfl
      have y1 := H3.out.box.cell (i := 1) rfl
      have y2 := H3.out.box.cell (i := 2) rfl
      go_wp2_with fail
      refine (RetB.no (SearchValid_spec P Q D c d _ H3.out.srch hs) hok).mono ?_
      rintro ex w4 ⟨rfl, hb4⟩
      have H4 := hid (H3.out.then_ hb4)
      clear hb4 H3 y0 y1 y2
      go_wp2_with fail
      refine (nilS_any _).mono ?_
      rintro ex w5 ⟨rfl, hb5⟩
      have H5 := hid (H4.out.then_ hb5)
      clear hb5
      go_wp2_with fail
      refine (alive_any _ H5.out.tab).mono ?_
      rintro ex w6 ⟨rfl, hb6⟩
      go_wp2
      go_ret
      exact ⟨rfl, (H5.out.then_ hb6).bel⟩

set_option maxRecDepth 100000 in
theorem FnSearchValid_lifted (os : Os) (started : os.Started) (H : Type) (enc : TypeId × Value → H) :
    ReturnsInHanded {} Tryd.checked os 3 .any (fun w args => (Rows.fnSearchValidSpec.pre enc Tryd.prog Tryd.f3 [] false w args ∧ laidMetH Tryd.prog Rows.fnSearchValidRow.laid w) ∧ sizedMet enc Tryd.prog Tryd.f3 (OpenSpec.ofChange Rows.fnSearchValidSpec) false w args)
      (Rows.fnSearchValidSpec.post enc Tryd.prog Tryd.f3 false true false false) := by
  refine returnsInHanded_of_change_and (C := Tryd.checked) (X := fun w _ => laidMetH Tryd.prog Rows.fnSearchValidRow.laid w) (fun _ _ _ hh h => h.of_heap hh) own started (by kernel_rfl) Tryd.func3
    (ChangeSpec.witness_shaped (enc := enc) (C := Tryd.checked) (os := os) (X := fun w _ => laidMetH Tryd.prog Rows.fnSearchValidRow.laid w) false (World.doorLaid Tryd.prog 24 os) #[.slice none 0 0] 8 rfl (World.shaped_of_RefB (by kernel_rfl) (by kernel_rfl)) (by kernel_rfl) (by kernel_rfl) (by kernel_rfl)
      (laidMetH_of_parts3 (fuel := 8) (laidMet_of_run' 8 (by kernel_rfl) (by kernel_rfl)) (by kernel_rfl) (by kernel_rfl))) ?_
  intro W base args ds gs before hval0 hW _ _ hL _
  have hval : ∀ (j : Nat) t v, Tryd.f3.params[j]? = some t → args[j]? = some v → Value.okWide Tryd.prog W .any base t v := hval0
  have hW' := hW
  obtain ⟨p, q, hA0, hV, rfl, hfz, hnd⟩ := hW
  have hA : DataW.TrodAll enc Tryd.prog W 0 (fun _ => true) true Tryd.f3.params.toList args.toList ds p := hA0
  rw [Tryd.params3] at hA hval
  obtain ⟨v0, vs0, d0, ds0, p0, q0, hargs, rfl, rfl, h0, r0⟩ := trodAll_cons hA
  obtain ⟨rfl, rfl, rfl⟩ := trodAll_nil r0
  obtain rfl : args = #[v0] := by cases args; simp_all
  obtain ⟨rfl, rfl⟩ := trodVars_none hV
  have k0 := h0
  obtain ⟨m0, hm0⟩ := k0
  have lt0 : ∀ x ∈ p0, x.block < W.heap.size := DataW.trod_lt m0 _ _ _ hm0
  obtain ⟨a0, len0, cap0, rfl⟩ := okWide_slice Tryd.underlying22 (hval 0 22 v0 rfl rfl)
  obtain ⟨A0, n0, c0, y0, hv0, hp0, hn0, hl0⟩ := open_Bytes (v := .slice a0 len0 cap0) Tryd.underlying22 Tryd.underlying5 (by kernel_rfl) hm0
  simp only [Value.slice.injEq] at hv0
  obtain ⟨rfl, rfl, rfl⟩ := hv0
  clear hA0 hval0
  have htab := tab_of_laid hL
  refine (FnSearchValid_walk _ _ _ y0 W htab hp0 hn0 hl0).mono fun e W' ⟨he, bel⟩ => ?_
  subst he
  exact ⟨_, rfl, _, _, _, [], _, [], hW', trodAll_mk1 (shut_bool Tryd.underlying4 _), (trodAll_cons_mk (Below.trod laidOut (by kernel_rfl) (of_decide_eq_true (by kernel_rfl)) h0 bel lt0) trodAll_mk0), rfl, bel.frame _, fun h => by cases h⟩

theorem FnSearchValid_row : Rows.FnSearchValidSaid :=
  OpenClaim.holds_of_wide 3 Tryd.f3 rfl rfl rfl rfl rfl rfl rfl ⟨rfl, rfl, rfl, rfl, rfl⟩ rfl rfl rfl rfl rfl (by kernel_rfl) Tryd.func3 (by kernel_rfl)
    (of_decide_eq_true (by kernel_rfl)) (by unfold Func.isWrapper; first | (rw [if_pos (by decide +kernel)]; kernel_rfl) | (rw [if_neg (by decide +kernel)]; exact ⟨rfl, rfl⟩))
    (fun os started H enc _ => FnSearchValid_lifted os started H enc)
theorem FnSearchValid_holds : Rows.FnSearchValidCardSaid :=
  Claim7.holds_tied_plain_at .later [] [.data, .data, .data] true (true, "9a40d749f94adb9d5418125119b5fe0381ba681992067a3458f9e82ceadcb754") false
    FnSearchValid_row (fun _ h => by cases h) (by kernel_rfl) (fun _ h => by cases h) fnSearchValid_row_tie rfl ⟨rfl, rfl⟩ (by kernel_rfl) rfl
    (fun f fn hf hfn => by
      obtain rfl : f = 3 := Option.some.inj ((show Tryd.prog.funcNamed "loop.example/cavesurvey/laws.FnSearchValid" = some 3 by kernel_rfl).symm.trans hf) |>.symm
      obtain rfl : fn = Tryd.f3 := (Option.some.inj (Tryd.func3.symm.trans hfn)).symm
      exact ⟨by kernel_rfl, fun j t ht => by
        rw [Tryd.params3] at ht
        have hm : t ∈ [22] := by simpa using Array.mem_of_getElem? ht
        have hall : ([22].all fun u => !Tryd.prog.wantsStandIn u) = true := by kernel_rfl
        exact (show Tryd.prog.wantsStandIn t = false by simpa using List.all_eq_true.1 hall t hm)⟩)
    (by kernel_rfl)
#print axioms FnSearchValid_holds
end Go.Proofs.YtlhcjbgcgbeocaaDoor
