/- What sills and lists hold, for the laws of SillTree: the same rows as in the texts of FnSillsJoin and FnLevelLeft. -/
import Derived.Test.YtahbfifnpceoeaaDoorLawH
import Derived.Deep.RegionHeld3
import Derived.Deep.RegionLawGrows
namespace Go.Proofs.YtahbfifnpceoeaaDoor
open Go.ChangeShapes Go.WideShapes Go.ChangeAt Go.RowKit

theorem sumH_snoc (h : Nat → Int) (k : Nat) : ∀ l : List Nat, sumH h (l ++ [k]) = sumH h l + h k
  | [] => by simp [sumH]
  | x :: l => by show h x + sumH h (l ++ [k]) = h x + sumH h l + h k; rw [sumH_snoc h k l]; omega
theorem shF_sum (D : CaveD) (y : Nat → Int) : ∀ n, shF D y n = sumH D.h (idxL y n)
  | 0 => by simp [shF, idxL, sumH]
  | n + 1 => by rw [shF, shF_sum D y n, idxL_succ, sumH_snoc]
theorem el_range {D : CaveD} (hok : CaveOk D) (x y : Nat) : EL D.A D.B (useL D.h 40 D.m) x y ↔ EL D.A D.B (List.range D.m) x y :=
  ⟨fun ⟨k, hk, e⟩ => ⟨k, List.mem_range.2 ((mem_useL D.h 40 k D.m).1 hk).1, e⟩, fun ⟨k, hk, e⟩ => ⟨k, (mem_useL D.h 40 k D.m).2 ⟨List.mem_range.1 hk, (sill_h hok (List.mem_range.1 hk)).2⟩, e⟩⟩
theorem idx_lt {D : CaveD} {n : Nat} {y : Nat → Int} (h : SomeOk D n y) {k : Nat} (hk : k ∈ idxL y n) : k < D.m := by
  obtain ⟨j, hj, rfl⟩ := mem_idxL.1 hk
  have := h j hj
  omega
theorem sj_iff {D : CaveD} {n : Nat} {y : Nat → Int} (hok : CaveOk D) (h : SomeOk D n y) : (∀ v, v < D.n → partL D.A D.B (idxL y n) v = poolF D 40 v) ↔ ∀ x z, x < D.n → z < D.n → (Cn (EL D.A D.B (idxL y n)) x z ↔ Cn (EL D.A D.B (List.range D.m)) x z) := by
  have p1 : PartOf D.n (partL D.A D.B (idxL y n)) (EL D.A D.B (idxL y n)) := partL_of D.A D.B _ fun k hk => sill_lt hok (idx_lt h hk)
  have p2 : PartOf D.n (poolF D 40) (EL D.A D.B (List.range D.m)) := (pool_part hok 40).congr (fun x y => el_range hok x y)
  refine ⟨fun he x z hx hz => ?_, fun hc v hv => p1.uniq p2 hc hv⟩
  rw [← p1.iff x z hx hz, ← p2.iff x z hx hz, he x hx, he z hz]
theorem sj_all {D : CaveD} (hok : CaveOk D) : SjOk D D.m (fun j => (j : Int)) := by
  have hs : SomeOk D D.m (fun j => (j : Int)) := fun j hj => ⟨by show (0 : Int) ≤ (j : Int); omega, by show (j : Int) < (D.m : Int); omega⟩
  refine ⟨hok, hs, (sj_iff hok hs).2 fun x z _ _ => ?_⟩
  have e : idxL (fun j => (j : Int)) D.m = List.range D.m := by simp [idxL]
  rw [e]
theorem sj_least {D : CaveD} {n : Nat} {y : Nat → Int} (h : SjOk D n y) : sumH D.h (treeF D) ≤ shF D y n := by
  rw [shF_sum]
  exact (treeF_ok h.1).least (fun k hk => sill_h h.1 (List.mem_range.1 hk)) (fun k hk => List.mem_range.2 (idx_lt h.2.1 hk)) ((sj_iff h.1 h.2.1).1 h.2.2)
def trF (D : CaveD) (j : Nat) : Int := (toZ (treeF D)).getD j 0
theorem tree_some (D : CaveD) : SomeOk D (treeF D).length (trF D) := fun j hj => by
  unfold trF
  have hm := treeF_m (D := D) (k := (treeF D).getD j 0) (by simp [List.getD, hj])
  simp only [toZ_get _ hj]
  omega
theorem tree_sum {D : CaveD} (hok : CaveOk D) : shV D (treeF D).length (trF D) = sumH D.h (treeF D) := by
  rw [shV_yes ⟨hok, tree_some D⟩, shF_sum]
  exact congrArg _ (idxL_toZ _)
theorem tree_sum0 {D : CaveD} (hok : CaveOk D) : 0 ≤ sumH D.h (treeF D) := by
  rw [← tree_sum hok, shV_yes ⟨hok, tree_some D⟩]
  exact (shF_bd hok (tree_some D) _ (Nat.le_refl _)).1

theorem ints_news {W : World} {b o n : Nat} {x : Nat → Int} (hc : ∀ j, j < n → W.cell? ⟨b, o + j, none⟩ = some (.int .i64 (x j))) :
    ∀ j u, ((List.range n).map fun j => Value.int .i64 (x j))[j]? = some u → W.cell? ((⟨b, o, none⟩ : Addr).add j) = some u := fun j u hu => by
  by_cases hj : j < n
  · simp [hj] at hu
    subst hu
    rw [Addr.add_lit]
    exact hc j hj
  · have : ((List.range n).map fun j => Value.int .i64 (x j))[j]? = none := by simp; omega
    rw [this] at hu
    cases hu
theorem ints_one {n : Nat} {x : Nat → Int} : ∀ u ∈ (List.range n).map fun j => Value.int .i64 (x j), u.oneCell' = true := fun u hu => by
  obtain ⟨j, _, rfl⟩ := List.mem_map.1 hu
  rfl
theorem one_news {W : World} {b : Nat} {t : TypeId} {k : Int} (h : Blk W b t #[.int .i64 k]) : ∀ j u, [Value.int .i64 k][j]? = some u → W.cell? ((⟨b, 0, none⟩ : Addr).add j) = some u := fun j u hu => by
  match j, hu with
  | 0, hu => simp at hu; subst hu; rw [Addr.add_lit]; exact h.cell rfl
theorem own_ints_app {w : World} {B n : Nat} {x : Nat → Int} {k : Int} {v : Value} (h : w.ownsRow B 3 1 v (n + 1) (((List.range n).map fun j => Value.int .i64 (x j)) ++ [.int .i64 k])) :
    ∃ A c, v = .slice A (n + 1) c ∧ Ints w A (n + 1) (fun j => if j < n then x j else k) := by
  have e1 : ((List.range n).map x ++ [k]).length = n + 1 := by simp
  have h' : OwnL w B v ((List.range n).map x ++ [k]) := by
    unfold OwnL
    rw [e1]
    simpa [List.map_append, Function.comp_def] using h
  obtain ⟨A, c, hv, hi⟩ := h'.ints
  rw [e1] at hv hi
  refine ⟨A, c, hv, hi.congr (fun j hj => ?_)⟩
  by_cases hj' : j < n
  · simp [List.getD, hj', List.getElem?_append]
  · have : j = n := by omega
    subst this
    simp [List.getD]
theorem own_base {w : World} {B B' : Nat} {e : TypeId} {size : Nat} {v : Value} {n : Nat} {xs : List Value} (h : Own w B e size v n xs) (hB : B' ≤ B) : Own w B' e size v n xs := by
  refine ⟨h.1, ?_⟩
  rcases h.2 with hn | ⟨g, cap, cur, hv, hb, rest⟩
  · exact .inl hn
  · exact .inr ⟨g, cap, cur, hv, by omega, rest⟩
theorem blk_grown_B {w w' : World} {x y : Array Value} {t t' : TypeId} (h : ((w.alloc (.cells x t)).alloc (.cells y t')).drew.grownBy w' none) : Blk w' w.heap.size t x :=
  (h.block _ (by simp; omega) (by simp)).trans ((Blk.new w t x).alloc (.cells y t'))
theorem blk_grown_C {w w' : World} {x y : Array Value} {t t' : TypeId} (h : ((w.alloc (.cells x t)).alloc (.cells y t')).drew.grownBy w' none) : Blk w' (w.heap.size + 1) t' y := by
  have := Blk.new (w.alloc (.cells x t)) t' y
  rw [World.size_alloc] at this
  exact (h.block _ (by simp) (by simp)).trans this
/-- append of nothing, as one step of a region that draws. -/
theorem step_append_zero {P : Program} {ops : Array Oper} {o : Oper} {a : Act} {w : World} {K : Act → World → Prop} {Q : Exit → Act → World → Prop} {E : Prop}
    (hg : o.guard = none) (s x : Operand) (t : TypeId) (hop : o.op = Op.call { callee := Callee.builtin Builtin.append, args := #[s, x], argTypes := #[t, t] })
    (e : TypeId) (i : TypeInfo) (h1 : P.underlying t = some (.slice e)) (h2 : P.info? e = some i)
    (g n cap : Nat) (hs : a.eval s = .slice (some ⟨g, 0, none⟩) n cap) (hc : n ≤ cap) (A : Option Addr) (c : Nat) (hx : a.eval x = .slice A 0 c)
    (hK : K (a.put o.dst (.slice (some ⟨g, 0, none⟩) n cap)) w) :
    if Region.wanted o (yielded ops a.tmps) = true then Oper.wp P o a w K Q else E := by
  have hw : Region.wanted o (yielded ops a.tmps) = true := by simp [Region.wanted, hg]
  rw [if_pos hw]
  have hrun : (Builtin.append_ #[t, t] o.type #[.slice (some ⟨g, 0, none⟩) n cap, .slice A 0 c]).run P w = .ok (.slice (some ⟨g, 0, none⟩) n cap) w := by
    cases A with
    | none => simp [Builtin.append_, run_underlying h1, sizeOf, typeInfo, h2, Builtin.lenOf, Builtin.firstCells, hc, storeCells]
    | some ad => simp [Builtin.append_, run_underlying h1, sizeOf, typeInfo, h2, Builtin.lenOf, run_firstCells_some w i.size 0 ad 0 c [] (by simp) (by simp) (P := P), hc, storeCells]
  unfold Oper.wp
  simp [execOp, hop, resolve, invoke, builtin, hs, hx, hrun, Result.andThen]
  exact hK
theorem own_litB (w : World) (x : Array Value) (t : TypeId) : OwnL ((w.alloc (.cells x t)).alloc (.cells #[] 3)) w.heap.size (.slice (some ⟨w.heap.size + 1, 0, none⟩) 0 0) [] := by
  have h := OwnL.lit0 (w.alloc (.cells x t)) (B := w.heap.size) (by simp) #[] rfl
  rwa [World.size_alloc] at h
/-- A literal of nothing, and a list behind it. -/
theorem step_append_ints {P : Program} {ops : Array Oper} {o : Oper} {a : Act} {w : World} {K : Act → World → Prop} {Q : Exit → Act → World → Prop} {E : Prop}
    (hg : o.guard = none) (s x : Operand) (t : TypeId) (hop : o.op = Op.call { callee := Callee.builtin Builtin.append, args := #[s, x], argTypes := #[t, t] })
    (i : TypeInfo) (h1 : P.underlying t = some (.slice 3)) (h2 : P.info? 3 = some i) (h3 : i.zero = some (.int .i64 0)) (h4 : i.size = 1) (h5 : i.bytes = 8)
    (g B : Nat) (hs : a.eval s = .slice (some ⟨g, 0, none⟩) 0 0) (hown : OwnL w B (.slice (some ⟨g, 0, none⟩) 0 0) []) (hB : B ≤ w.heap.size)
    (A : Option Addr) (m c : Nat) (y : Nat → Int) (hx : a.eval x = .slice A m c) (hi : Ints w A m y) (hm : m ≤ 1048576)
    (hK : ∀ v' w', w'.ownsRow B 3 1 v' m ((List.range m).map fun j => Value.int .i64 (y j)) → w.grownBy w' none → K (a.put o.dst v') w') :
    if Region.wanted o (yielded ops a.tmps) = true then Oper.wp P o a w K Q else E := by
  by_cases h0 : m = 0
  · subst h0
    exact step_append_zero hg s x t hop 3 i h1 h2 g 0 0 hs (Nat.le_refl _) A c hx (hK _ _ hown ⟨rfl, rfl, rfl, Nat.le_refl _, fun _ _ _ => rfl⟩)
  · obtain ⟨b, ob, rfl, hc⟩ := hi (by omega)
    refine step_append_grows hg s x t hop 3 i (.int .i64 0) 1 8 h1 h2 h3 h4 h5 rfl (by decide) _ 0 0 [] hs (fun _ => ⟨rfl, rfl⟩) rfl (fun _ _ j u hu => by simp at hu) ⟨b, ob, none⟩ m c _ hx (by simp) (ints_news hc) ints_one (by omega) (by unfold maxLen; omega) (by omega) ?_
    intro v' w' ho hg'
    simp only [Nat.zero_add, List.nil_append] at ho
    exact hK v' w' (own_base ho hB) hg'

end Go.Proofs.YtahbfifnpceoeaaDoor
