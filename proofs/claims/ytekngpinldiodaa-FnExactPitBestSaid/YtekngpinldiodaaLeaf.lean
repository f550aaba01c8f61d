/- The small functions: each computes what its text says, for all arguments; lists are at most 2^20 long. -/
import Derived.Test.YtekngpinldiodaaMem
namespace Go.Proofs.Ytekngpinldiodaa
open Go.RowKit

theorem l1In_y (n a b : Int) (w : World) (h1 : a ≤ n) (h2 : n ≤ b) : Calls Try.prog 48 #[.int .i64 n, .int .i64 a, .int .i64 b] w (RetS (.bool true) w) := by
  go_enter Try.func48, Try.ntmps48
  go_wp2
  go_ret
  exact ⟨rfl, rfl⟩
theorem l1In_n (n a b : Int) (w : World) (h : ¬ (a ≤ n ∧ n ≤ b)) : Calls Try.prog 48 #[.int .i64 n, .int .i64 a, .int .i64 b] w (RetS (.bool false) w) := by
  by_cases h1 : a ≤ n
  · have h2 : ¬ n ≤ b := fun h2 => h ⟨h1, h2⟩
    clear h
    go_enter Try.func48, Try.ntmps48
    go_wp2
    go_ret
    exact ⟨rfl, rfl⟩
  · clear h
    go_enter Try.func48, Try.ntmps48
    go_wp2
    go_ret
    exact ⟨rfl, rfl⟩

theorem isWithin_y (n a : Int) (w : World) (h0 : 0 ≤ a) (h9 : a ≤ 1000) (h1 : -a ≤ n) (h2 : n ≤ a) : Calls Try.prog 50 #[.int .i64 n, .int .i64 a] w (RetS (.bool true) w) := by
  go_enter Try.func50, Try.ntmps50
  go_wp2
  go_ret
  exact ⟨rfl, rfl⟩
theorem isWithin_n (n a : Int) (w : World) (h0 : 0 ≤ a) (h9 : a ≤ 1000) (h : ¬ (-a ≤ n ∧ n ≤ a)) : Calls Try.prog 50 #[.int .i64 n, .int .i64 a] w (RetS (.bool false) w) := by
  by_cases h1 : -a ≤ n
  · have h2 : ¬ n ≤ a := fun h2 => h ⟨h1, h2⟩
    clear h
    go_enter Try.func50, Try.ntmps50
    go_wp2
    go_ret
    exact ⟨rfl, rfl⟩
  · clear h
    go_enter Try.func50, Try.ntmps50
    go_wp2
    go_ret
    exact ⟨rfl, rfl⟩

theorem isIndex_y (n a : Int) (w : World) (h1 : 0 ≤ n) (h2 : n < a) : Calls Try.prog 63 #[.int .i64 n, .int .i64 a] w (RetS (.bool true) w) := by
  go_enter Try.func63, Try.ntmps63
  go_wp2
  go_ret
  exact ⟨rfl, rfl⟩
theorem isIndex_n (n a : Int) (w : World) (h : ¬ (0 ≤ n ∧ n < a)) : Calls Try.prog 63 #[.int .i64 n, .int .i64 a] w (RetS (.bool false) w) := by
  by_cases h1 : 0 ≤ n
  · have h2 : ¬ n < a := fun h2 => h ⟨h1, h2⟩
    clear h
    go_enter Try.func63, Try.ntmps63
    go_wp2
    go_ret
    exact ⟨rfl, rfl⟩
  · clear h
    go_enter Try.func63, Try.ntmps63
    go_wp2
    go_ret
    exact ⟨rfl, rfl⟩

/-- All are indices: the Bool tells it; the world is as it was. -/
theorem areIndices_any (A : Option Addr) (n c : Nat) (x : Nat → Int) (a : Int) (w : World) (hx : Ints w A n x) (hn : n ≤ 1048576) :
    Calls Try.prog 51 #[.slice A n c, .int .i64 a] w (RetBS (∀ j, j < n → 0 ≤ x j ∧ x j < a) w) := by
  go_enter Try.func51, Try.ntmps51
  go_wp2
  go_loop [9] (fun i => ∃ k : Nat, k ≤ n ∧ i = .int .i64 k ∧ ∀ j, j < k → 0 ≤ x j ∧ x j < a) (fun i => n - (intOf i).toNat)
  case atStart => exact ⟨0, by omega, rfl, fun j hj => absurd hj (by omega)⟩
  case round =>
    obtain ⟨k, hk, rfl, hall⟩ := hrel
    have HA := hid hall
    clear hall
    by_cases hlt : k < n
    · obtain ⟨b, o, rfl, hc⟩ := hx (by omega)
      have c1 := hc k hlt
      have hltz : (k : Int) < (n : Int) := by omega
      clear hc hx
      by_cases he : 0 ≤ x k ∧ x k < a
      · obtain ⟨he1, he2⟩ := he
        go_wp2_with (go_at_call 63; refine (isIndex_y _ _ _ he1 he2).mono ?_; rintro e w' ⟨rfl, rfl⟩)
        go_round
        case rel => exact ⟨k + 1, by omega, by go_num, fun j hj => by
            by_cases e : j = k
            · subst e; exact ⟨he1, he2⟩
            · exact HA.out j (by omega)⟩
        case measure => simp [intOf]; omega
      · have HE := hid he
        clear he
        go_wp2_with (go_at_call 63; refine (isIndex_n _ _ _ HE.out).mono ?_; rintro e w' ⟨rfl, rfl⟩)
        go_ret
        exact .mk_f (fun h => HE.out (h k hlt)) rfl
    · have : k = n := by omega
      subst this
      go_wp2
      go_ret
      exact .mk_t HA.out rfl

def SzRet (n : Nat) (l : Int) (w : World) (e : Ending) (w' : World) : Prop := ∃ r : Int, e = .returned (.int .i64 r) ∧ (r = -1 ∨ (0 ≤ r ∧ r ≤ l ∧ (n : Int) ≤ 1048576 ∧ r = l - n)) ∧ w = w'
/-- What is left of a room of numbers behind a list: -1 where it is too long. -/
theorem szIntS_any (A : Option Addr) (n c : Nat) (l : Int) (w : World) (hl : l ≤ 1048576) (h0 : 0 ≤ l) (hn : n ≤ 9223372036854775807) :
    Calls Try.prog 61 #[.slice A n c, .int .i64 l] w (SzRet n l w) := by
  by_cases h : l - (n : Int) < 0
  · go_enter Try.func61, Try.ntmps61
    go_wp2
    go_ret
    exact ⟨-1, rfl, .inl rfl, rfl⟩
  · go_enter Try.func61, Try.ntmps61
    go_wp2
    go_ret
    exact ⟨l - n, rfl, .inr ⟨by omega, by omega, by omega, rfl⟩, rfl⟩

/-- A copy: a new block, and nothing else. -/
theorem toIntS_any (A : Option Addr) (n c : Nat) (x : Nat → Int) (w : World) (h : Ints w A n x) (hn : n ≤ 1048576) :
    Calls Try.prog 62 #[.slice A n c] w fun e w' => e = .returned (.slice (some ⟨w.heap.size, 0, none⟩) n n) ∧ w'.rowIs w.heap.size 3 n (fun j => .int .i64 (x j)) ∧ Below w.heap.size w w' := by
  have hmk := run_make_row' (P := Try.prog) 33 3 (.int .i64 0) 8 Try.underlying33 info3 rfl .i64 .i64 n (by omega) (by omega)
  go_enter Try.func62, Try.ntmps62
  go_wp2
  clear hmk
  go_loopw [4] (fun i wr => ∃ k : Nat, k ≤ n ∧ i = .int .i64 k ∧ wr.rowIs w.heap.size 3 n (fun j => if j < k then .int .i64 (x j) else .int .i64 0) ∧ Below w.heap.size w wr) (fun i _ => n - (intOf i).toNat)
  case atStart => exact ⟨0, by omega, rfl, (World.rowIs_made w _ n 3).congr (fun j _ => by simp), (Below.refl _ _).alloc (Nat.le_refl _) _⟩
  case round =>
    obtain ⟨k, hk, rfl, hrow, hbel⟩ := hrel
    by_cases hlt : k < n
    · obtain ⟨b, o, rfl, hc⟩ := h (by omega)
      have c1 := cell_below hbel (hc k hlt)
      have c2 := hrow.cell hlt
      have c3 := hrow.frozen k
      have hltz : (k : Int) < (n : Int) := by omega
      clear hc h
      simp only [Nat.lt_irrefl, if_false] at c2
      go_wp2
      go_roundw
      case rel => exact ⟨k + 1, by omega, by go_num, (hrow.set k _).congr (fun j hj => by
        by_cases e : j = k
        · subst e; simp
        · rw [if_neg e]
          by_cases e2 : j < k
          · rw [if_pos e2, if_pos (by omega)]
          · rw [if_neg e2, if_neg (by omega)]), hbel.setCell (Nat.le_refl _) _⟩
      case measure => simp [intOf]; omega
    · have : k = n := by omega
      subst this
      go_wp2
      go_ret
      exact ⟨rfl, hrow.congr (fun j hj => by rw [if_pos hj]), hbel⟩

theorem eqIntS_any (A B : Option Addr) (n c m d : Nat) (x y : Nat → Int) (w : World) (hx : Ints w A n x) (hy : Ints w B m y) (hn : n ≤ 1048576) :
    Calls Try.prog 35 #[.slice A n c, .slice B m d] w (RetB (n = m ∧ ∀ j, j < n → x j = y j) w) := by
  by_cases hnm : n = m
  · subst hnm
    refine RetB.iff (p := ∀ j, j < n → x j = y j) ?_ (by simp)
    go_enter Try.func35, Try.ntmps35
    go_wp2
    go_loopw [5] (fun i wr => ∃ k : Nat, k ≤ n ∧ i = .int .i64 k ∧ (∀ j, j < k → x j = y j) ∧ ∃ q, wr = w.drewN q) (fun i _ => n - (intOf i).toNat)
    case atStart => exact ⟨0, by omega, rfl, fun j hj => absurd hj (by omega), 0, rfl⟩
    case round =>
      obtain ⟨k, hk, rfl, hall, q, rfl⟩ := hrel
      have HA := hid hall
      clear hall
      by_cases hlt : k < n
      · obtain ⟨b, o, rfl, hc⟩ := hx (by omega)
        obtain ⟨b', o', rfl, hc'⟩ := hy (by omega)
        have c1 := hc k hlt
        have c2 := hc' k hlt
        have hltz : (k : Int) < (n : Int) := by omega
        clear hc hc' hx hy
        by_cases he : x k = y k
        · have he' : (x k == y k) = true := by simp [he]
          have he2 : (x k != y k) = false := by simp [he]
          have HE := hid he
          clear he
          go_wp2
          go_quiet (fail)
          go_wp2
          go_roundw
          case rel => exact ⟨k + 1, by omega, by go_num, fun j hj => by
            by_cases e : j = k
            · subst e; exact HE.out
            · exact HA.out j (by omega), _, rfl⟩
          case measure => simp [intOf]; omega
        · have he2 : (x k != y k) = true := by simp [he]
          go_wp2
          go_quiet (fail)
          go_wp2
          go_ret
          exact .mk_f (fun h => he (h k hlt)) (below_drewN (below_drewN (Below.refl _ _) _) _) rfl
      · have : k = n := by omega
        subst this
        go_wp2
        go_ret
        exact .mk_t HA.out (below_drewN (Below.refl _ _) _) rfl
  · have hne : ((n : Int) != (m : Int)) = true := int_bne hnm
    go_enter Try.func35, Try.ntmps35
    go_wp2
    go_ret
    exact .mk_f (fun h => hnm h.1) (Below.refl _ _) rfl
end Go.Proofs.Ytekngpinldiodaa
