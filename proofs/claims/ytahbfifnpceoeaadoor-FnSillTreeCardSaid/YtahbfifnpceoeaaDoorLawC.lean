/- What water's laws hold while they run; and the small functions of the laws. -/
import Derived.Test.YtahbfifnpceoeaaDoorCardK
import Derived.Test.YtahbfifnpceoeaaDoorDrC5
namespace Go.Proofs.YtahbfifnpceoeaaDoor
open Go.RowKit

/-- The drawn cave in the law's box X, the laid table, and all that was. -/
structure LwC (w : World) (X : Nat) (F G S : Option Addr) (D : CaveD) (c d e : Nat) (wx : World) : Prop where
  box : Blk wx X 26 #[.slice F D.n c, .slice G D.q d, .slice S D.m e]
  cave : CaveAt wx F G S D
  tab : Pow10 wx
  bel : Below w.heap.size w wx
section
variable {w wx w' : World} {X : Nat} {F G S : Option Addr} {D : CaveD} {c d e : Nat}
theorem LwC.then_ (H : LwC w X F G S D c d e wx) (hb : Below wx.heap.size wx w') : LwC w X F G S D c d e w' := ⟨H.box.below hb, H.cave.below hb, H.tab.below hb, Below.then_ H.bel hb⟩
theorem LwC.start {w1 : World} (ht : Pow10 w) (hd : DrOk w w1 F G S D e) (he : wx = w1.alloc (.cells #[.slice F D.n c, .slice G D.q d, .slice S D.m e] 26)) : LwC w w1.heap.size F G S D c d e wx := by
  subst he
  exact ⟨Blk.new _ _ _, hd.at_.alloc _, (ht.below hd.bel).below (below_alloc1 _ _), Below.then_ hd.bel (below_alloc1 _ _)⟩
end

theorem sameInts_any (A B : Option Addr) (n c m d : Nat) (x y : Nat → Int) (w : World) (hx : Ints w A n x) (hy : Ints w B m y) (hn : n ≤ 1048576) :
    Calls Tryd.prog 16 #[.slice A n c, .slice B m d] w (RetB (n = m ∧ ∀ j, j < n → x j = y j) w) := by
  by_cases hnm : n = m
  · subst hnm
    refine RetB.iff (p := ∀ j, j < n → x j = y j) ?_ (by simp)
    go_enter Tryd.func16, Tryd.ntmps16
    go_wp2
    go_loopw [5] (fun i wr => ∃ k : Nat, k ≤ n ∧ i = .int .i64 k ∧ (∀ j, j < k → x j = y j) ∧ ∃ q, wr = w.drewN q) (fun i _ => n - (intOf i).toNat)
    case atStart => exact ⟨0, by omega, rfl, fun j hj => absurd hj (by omega), 0, rfl⟩
    case round =>
      obtain ⟨k, hk, rfl, hall, q, rfl⟩ := hrel
      have HA := hid hall
      clear hall
      by_cases hlt : k < n
      · obtain ⟨b, o, rfl, hc⟩ := hx (by omega)
        obtain ⟨b', o', rfl, hc'⟩ := hy (by omega)
        have c1 := hc k hlt
        have c2 := hc' k hlt
        have hltz : (k : Int) < (n : Int) := by omega
        clear hc hc' hx hy
        by_cases he : x k = y k
        · have he' : (x k == y k) = true := by simp [he]
          have he2 : (x k != y k) = false := by simp [he]
          have HE := hid he
          clear he
          go_wp2
          go_quiet (fail)
          go_wp2
          go_roundw
          case rel => exact ⟨k + 1, by omega, by go_num, fun j hj => by
            by_cases e : j = k
            · subst e; exact HE.out
            · exact HA.out j (by omega), _, rfl⟩
          case measure => simp [intOf]; omega
        · have he2 : (x k != y k) = true := by simp [he]
          go_wp2
          go_quiet (fail)
          go_wp2
          go_ret
          exact .mk_f (fun h => he (h k hlt)) (below_drewN (below_drewN (Below.refl _ _) _) _) rfl
      · have : k = n := by omega
        subst this
        go_wp2
        go_ret
        exact .mk_t HA.out (below_drewN (Below.refl _ _) _) rfl
  · have hne : ((n : Int) != (m : Int)) = true := int_bne hnm
    go_enter Tryd.func16, Tryd.ntmps16
    go_wp2
    go_ret
    exact .mk_f (fun h => hnm h.1) (Below.refl _ _) rfl
theorem sameInts_yes (A B : Option Addr) (n c d : Nat) (x : Nat → Int) (w : World) (hx : Ints w A n x) (hy : Ints w B n x) (hn : n ≤ 1048576) :
    Calls Tryd.prog 16 #[.slice A n c, .slice B n d] w (RetV (.bool true) w) := RetB.yes (sameInts_any A B n c n d x x w hx hy hn) ⟨rfl, fun _ _ => rfl⟩
def HasI (n : Nat) (x : Nat → Int) (v : Int) : Prop := ∃ j, j < n ∧ x j = v
theorem hasInt_any (A : Option Addr) (n c : Nat) (x : Nat → Int) (v : Int) (w : World) (hx : Ints w A n x) (hn : n ≤ 1048576) :
    Calls Tryd.prog 41 #[.slice A n c, .int .i64 v] w (RetBS (HasI n x v) w) := by
  go_enter Tryd.func41, Tryd.ntmps41
  go_wp2
  go_loop [5] (fun i => ∃ k : Nat, k ≤ n ∧ i = .int .i64 k ∧ ∀ j, j < k → x j ≠ v) (fun i => n - (intOf i).toNat)
  case atStart => exact ⟨0, by omega, rfl, fun j hj => absurd hj (by omega)⟩
  case round =>
    obtain ⟨k, hk, rfl, hall⟩ := hrel
    have HA := hid hall
    clear hall
    by_cases hlt : k < n
    · obtain ⟨b, o, rfl, hc⟩ := hx (by omega)
      have c1 := hc k hlt
      have hltz : (k : Int) < (n : Int) := by omega
      clear hc hx
      by_cases he : x k = v
      · have t : (x k == v) = true := by simp [he]
        have HE := hid he
        clear he
        go_wp2
        go_ret
        exact .mk_t ⟨k, hlt, HE.out⟩ rfl
      · have t : (x k == v) = false := by simp [he]
        have HE := hid he
        clear he
        go_wp2
        go_round
        case rel => exact ⟨k + 1, by omega, by go_num, fun j hj => by
          by_cases e : j = k
          · subst e; exact HE.out
          · exact HA.out j (by omega)⟩
        case measure => simp [intOf]; omega
    · go_wp2
      go_ret
      exact .mk_f (fun ⟨j, hj, e⟩ => HA.out j (by omega) e) rfl
theorem ascend_yes (A : Option Addr) (n c : Nat) (x : Nat → Int) (w : World) (hx : Ints w A n x) (hn : n ≤ 1048576) (hs : ∀ j, j + 1 < n → x j < x (j + 1)) :
    Calls Tryd.prog 21 #[.slice A n c] w (RetV (.bool true) w) := by
  have HS := hid hs
  clear hs
  go_enter Tryd.func21, Tryd.ntmps21
  go_wp2
  go_loopw [3] (fun i wr => ∃ k : Nat, 1 ≤ k ∧ i = .int .i64 k ∧ ∃ q, wr = w.drewN q) (fun i _ => n + 1 - (intOf i).toNat)
  case atStart => exact ⟨1, by omega, rfl, 0, rfl⟩
  case round =>
    obtain ⟨k, hk, rfl, q, rfl⟩ := hrel
    by_cases hlt : k < n
    · obtain ⟨b, o, rfl, hc⟩ := hx (by omega)
      obtain ⟨i, rfl⟩ : ∃ i, k = i + 1 := ⟨k - 1, by omega⟩
      have ei : ((i + 1 : Nat) : Int) - 1 = (i : Int) := by omega
      have c1 := hc i (by omega)
      have c2 := hc (i + 1) hlt
      have h1 := HS.out i hlt
      have h2 : decide (x (i + 1) ≤ x i) = false := decide_eq_false (by omega)
      have hltz : ((i + 1 : Nat) : Int) < (n : Int) := by omega
      have hiz : (i : Int) < (n : Int) := by omega
      clear hc hx
      go_wp2
      go_quiet (fail)
      go_wp2
      go_roundw
      case rel => exact ⟨i + 1 + 1, by omega, by go_num, _, rfl⟩
      case measure => simp [intOf]; omega
    · go_wp2
      go_ret
      exact ⟨rfl, below_drewN (Below.refl _ _) _⟩
end Go.Proofs.YtahbfifnpceoeaaDoor
