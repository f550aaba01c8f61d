/- The stable sort of indices by height: plain words, and the walks over the shelf's insertion sort. -/
import Derived.Test.YtahbfifnpceoeaaDoorSort0
import Derived.Test.YtahbfifnpceoeaaDoorCave4
import Derived.Test.YtahbfifnpceoeaaDoorOrd
namespace Go.Proofs.YtahbfifnpceoeaaDoor
open Go.RowKit

/-! ### Plain -/
/-- 0, 1, .., n. -/
def idF (n : Nat) : Array (F n) := Array.ofFn (fun i : Fin (n + 1) => i)
theorem idF_size (n : Nat) : (idF n).size = n + 1 := by simp [idF]
theorem idF_get {n k : Nat} (hk : k < n + 1) : (idF n)[k]!.val = k := by rw [getElem!_pos _ k (by rw [idF_size]; exact hk)]; simp [idF]
/-- They in the order of heights. -/
def srtF (h : Nat → Int) (n : Nat) : Array (F n) := Sort.insertionSort (ltH h) (idF n) 0 (n + 1)
theorem srtF_eq (h : Nat → Int) (n : Nat) : srtF h n = Sort.insertionSort (ltX h) (idF n) 0 (n + 1) := by
  unfold srtF Sort.insertionSort
  exact insOuter_same h (n + 1) n 1 (idF n) (by omega) (by omega) (by omega) (by rw [idF_size]; exact Nat.le_refl _) (fun k hk => by rw [idF_get (by omega)]; exact hk) (fun k _ hk => idF_get hk) (fun i j h1 h2 h3 => by omega)
theorem srtF_spec (h : Nat → Int) (n : Nat) : Sort.PermIn 0 (n + 1) (idF n) (srtF h n) ∧ Sort.SortedIn (ltX h) 0 (n + 1) (srtF h n) := by
  rw [srtF_eq]
  exact Sort.insertionSort_holds (swo_X h) (idF n) 0 (n + 1) (Nat.zero_le _) (by rw [idF_size]; exact Nat.le_refl _)
theorem srtF_size (h : Nat → Int) (n : Nat) : (srtF h n).size = n + 1 := by rw [(srtF_spec h n).1.1, idF_size]
theorem srtF_perm (h : Nat → Int) (n : Nat) : (srtF h n).toList.Perm (idF n).toList := by
  have hp := (srtF_spec h n).1.2.2
  have e1 : (srtF h n).extract 0 (n + 1) = srtF h n := by rw [← srtF_size h n]; exact Array.extract_size
  have e2 : (idF n).extract 0 (n + 1) = idF n := by rw [← idF_size n]; exact Array.extract_size
  rwa [e1, e2] at hp
theorem idF_list (n : Nat) : (idF n).toList.map (fun x : F n => x.val) = List.range (n + 1) := by
  apply List.ext_getElem
  · simp [idF]
  · intro i h1 h2
    have hi : i < n + 1 := by simpa using h2
    have := idF_get hi
    rw [getElem!_pos _ i (by rw [idF_size]; exact hi)] at this
    simpa only [List.getElem_map, Array.getElem_toList, List.getElem_range] using this
/-- The sorted list of indices. -/
theorem srtF_list {D : CaveD} (hok : CaveOk D) {n : Nat} (hm : D.m = n + 1) : (srtF D.h n).toList.map (fun x : F n => x.val) = ordS D.h D.m 41 := by
  have hp := (srtF_perm D.h n).map (fun x : F n => x.val)
  have hr : List.range (n + 1) = List.range D.m := by rw [hm]
  rw [idF_list, hr] at hp
  refine pw_ext (R := LX D.h) LX.irr (fun x y => LX.asymm) _ _ ?_ (pw_ordS D.h D.m 41) fun x => ?_
  · rw [List.pairwise_iff_getElem]
    intro i j hi hj hij
    have hi' : i < n + 1 := by have := srtF_size D.h n; simp at hi; omega
    have hj' : j < n + 1 := by have := srtF_size D.h n; simp at hj; omega
    have hs := (srtF_spec D.h n).2 i j (Nat.zero_le _) hij hj'
    have hnd : ((srtF D.h n).toList.map (fun x : F n => x.val)).Nodup := hp.nodup_iff.2 List.nodup_range
    have hne := (List.pairwise_iff_getElem.1 hnd) i j hi hj hij
    rw [getElem!_pos _ j (by rw [srtF_size]; exact hj'), getElem!_pos _ i (by rw [srtF_size]; exact hi')] at hs
    simp only [List.getElem_map, Array.getElem_toList] at hne ⊢
    simp only [ltX, decide_eq_false_iff_not] at hs
    unfold LX
    omega
  · rw [hp.mem_iff, List.mem_range, mem_ordS]
    refine ⟨fun e => ?_, fun e => e.1⟩
    have := sill_h hok e
    exact ⟨e, this.1, by omega⟩

/-! ### Walks -/
def cmpI (x y : Int) : Int := if x < y then -1 else if y < x then 1 else 0
theorem isNaN_any (x : Int) (w : World) : Calls Tryd.prog 75 #[.int .i64 x] w (RetS (.bool false) w) := by
  have h : (x != x) = false := by simp
  go_enter Tryd.func75, Tryd.ntmps75
  go_wp2
  go_ret
  exact ⟨rfl, rfl⟩
theorem cmpI_any (x y : Int) (w : World) : Calls Tryd.prog 56 #[.int .i64 x, .int .i64 y] w (RetS (.int .i64 (cmpI x y)) w) := by
  by_cases h1 : x < y
  · go_enter Tryd.func56, Tryd.ntmps56
    go_wp2_with fail
    refine (isNaN_any x _).mono ?_
    rintro e w1 ⟨rfl, rfl⟩
    go_wp2_with fail
    refine (isNaN_any y _).mono ?_
    rintro e w2 ⟨rfl, rfl⟩
    go_wp2
    go_ret
    exact ⟨by unfold cmpI; rw [if_pos (by omega)]; rfl, rfl⟩
  · by_cases h2 : y < x
    · go_enter Tryd.func56, Tryd.ntmps56
      go_wp2_with fail
      refine (isNaN_any x _).mono ?_
      rintro e w1 ⟨rfl, rfl⟩
      go_wp2_with fail
      refine (isNaN_any y _).mono ?_
      rintro e w2 ⟨rfl, rfl⟩
      go_wp2
      go_ret
      exact ⟨by unfold cmpI; rw [if_neg (by omega), if_pos (by omega)]; rfl, rfl⟩
    · go_enter Tryd.func56, Tryd.ntmps56
      go_wp2_with fail
      refine (isNaN_any x _).mono ?_
      rintro e w1 ⟨rfl, rfl⟩
      go_wp2_with fail
      refine (isNaN_any y _).mono ?_
      rintro e w2 ⟨rfl, rfl⟩
      go_wp2
      go_ret
      exact ⟨by unfold cmpI; rw [if_neg (by omega), if_neg (by omega)]; rfl, rfl⟩

theorem closure_any (bx bs os m e : Nat) (h : Nat → Int) (x y : Nat) (hx : x < m) (hy : y < m) (W : World) (c2 : W.cell? ⟨bx, 2, none⟩ = some (.slice (some ⟨bs, os, none⟩) m e))
    (a1 : W.cell? ⟨bs, os + x * 3 + 2, none⟩ = some (.int .i64 (h x))) (a2 : W.cell? ⟨bs, os + y * 3 + 2, none⟩ = some (.int .i64 (h y))) :
    Calls Tryd.prog 55 #[.int .i64 x, .int .i64 y, .pointer (some ⟨bx, 0, none⟩)] W fun e w' => e = .returned (.int .i64 (cmpI (h x) (h y))) ∧ ∃ q, w' = W.drewN q := by
  have hxz : (x : Int) < (m : Int) := by omega
  have hyz : (y : Int) < (m : Int) := by omega
  have hc : ∀ n, Calls Tryd.prog 56 #[.int .i64 (h x), .int .i64 (h y)] (W.drewN n) fun e w' => e = .returned (.int .i64 (cmpI (h x) (h y))) ∧ ∃ q, w' = (W.drewN n).drewN q := fun n => (cmpI_any _ _ _).mono fun _ _ ⟨he, hw⟩ => ⟨he, 0, hw ▸ rfl⟩
  have HC := hid hc
  clear hc
  generalize cmpI (h x) (h y) = r at HC ⊢
  go_enter Tryd.func55, Tryd.ntmps55
  go_wp2
  go_quiet ((go_at_call 56; refine Calls.quiet_of (HC.out _)))
  go_wp2
  go_ret
  exact ⟨rfl, _, rfl⟩
end Go.Proofs.YtahbfifnpceoeaaDoor
