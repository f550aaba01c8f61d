/- Reaching points over what is free, by breadth, in plain words. No program in sight. -/
import Derived.Test.YtekngpinldiodaaBestP
namespace Go.Proofs.Ytekngpinldiodaa
open Go.RowKit

/-- How many of the first k are not reached. -/
def unr (cf : Nat → Int) : Nat → Nat
  | 0 => 0
  | k + 1 => unr cf k + if cf k < 0 then 1 else 0
theorem unr_ge (cf : Nat → Int) (c : Nat) (z : Int) : ∀ k, k ≤ c → unr (fun v => if v = c then z else cf v) k = unr cf k
  | 0, _ => rfl
  | k + 1, h => by
    simp only [unr, unr_ge cf c z k (by omega), if_neg (show k ≠ c by omega)]
theorem unr_set {cf : Nat → Int} {c : Nat} {z : Int} (hc : cf c < 0) (hz : 0 ≤ z) : ∀ k, c < k → unr (fun v => if v = c then z else cf v) k + 1 = unr cf k
  | 0, h => absurd h (by omega)
  | k + 1, h => by
    by_cases e : k = c
    · subst e
      have := unr_ge cf k z k (Nat.le_refl _)
      simp only [unr, this, if_true]
      rw [if_neg (show ¬ z < 0 by omega), if_pos hc]
    · have := unr_set hc hz k (by omega)
      simp only [unr, if_neg e]
      omega
theorem unr_le (cf : Nat → Int) : ∀ k, unr cf k ≤ k
  | 0 => Nat.le_refl _
  | k + 1 => by
    have := unr_le cf k
    unfold unr
    split <;> omega

/-- Points reached so far, those that wait, and point c whose steps to points below i are done. -/
structure BR (N s : Nat) (T : Nat → Nat → Int) (cf : Nat → Int) (q : List Int) (rk : Nat → Nat) (c i : Nat) : Prop where
  lo : ∀ v, -1 ≤ cf v ∧ cf v < N
  src : cf s = s
  up : ∀ v, v < N → 0 ≤ cf v → v ≠ s → (cf v).toNat < N ∧ 0 ≤ cf (cf v).toNat ∧ rk (cf v).toNat < rk v ∧ 0 < T (cf v).toNat v
  que : ∀ z, z ∈ q → ∃ v : Nat, z = v ∧ v < N ∧ 0 ≤ cf v
  clo : ∀ v, v < N → 0 ≤ cf v → (v : Int) ∉ q → ∀ y, y < N → (v = c → y < i) → 0 < T v y → 0 ≤ cf y
def BRo (N s : Nat) (T : Nat → Nat → Int) (cf : Nat → Int) (q : List Int) (l : Nat) : Prop := unr cf N + q.length = l ∧ ∃ rk, ∀ c, BR N s T cf q rk c N
def BRi (N s : Nat) (T : Nat → Nat → Int) (cf : Nat → Int) (q : List Int) (l c i : Nat) : Prop := unr cf N + q.length + 1 = l ∧ c < N ∧ 0 ≤ cf c ∧ ∃ rk, BR N s T cf q rk c i
section
variable {N s : Nat} {T : Nat → Nat → Int} {cf : Nat → Int} {q : List Int} {l c i : Nat}
theorem BRo.start (hs : s < N) : ∃ l, l ≤ N + 1 ∧ BRo N s T (fun v => if v = s then (s : Int) else -1) [(s : Int)] l := by
  refine ⟨_, ?_, rfl, fun _ => 0, fun c => ⟨fun v => ?_, if_pos rfl, fun v _ h0 hne => ?_, fun z hz => ?_, fun v _ h0 hq => ?_⟩⟩
  · have := unr_le (fun v => if v = s then (s : Int) else -1) N
    simp; omega
  · split <;> omega
  · rw [if_neg hne] at h0; omega
  · exact ⟨s, List.mem_singleton.1 hz, hs, by rw [if_pos rfl]; omega⟩
  · by_cases e : v = s
    · subst e; exact absurd (List.mem_singleton.2 rfl) hq
    · rw [if_neg e] at h0; omega
theorem BRo.pop {z : Int} (H : BRo N s T cf (z :: q) l) : ∃ c : Nat, z = c ∧ BRi N s T cf q l c 0 := by
  obtain ⟨h1, rk, h2⟩ := H
  obtain ⟨c, rfl, hc, h0⟩ := (h2 0).que z (by simp)
  have H1 := h2 c
  refine ⟨c, rfl, by simpa [Nat.add_assoc] using h1, hc, h0, rk, H1.lo, H1.src, H1.up, fun z hz => H1.que z (by simp [hz]), fun v hv hv0 hq y hy hci hp => ?_⟩
  by_cases e : v = c
  · have := hci e; omega
  · exact H1.clo v hv hv0 (by simp [hq]; omega) y hy (fun e2 => absurd e2 e) hp
theorem BRi.skip (H : BRi N s T cf q l c i) (hno : 0 < T c i → 0 ≤ cf i) : BRi N s T cf q l c (i + 1) := by
  obtain ⟨h1, h2, h3, rk, H1⟩ := H
  refine ⟨h1, h2, h3, rk, H1.lo, H1.src, H1.up, H1.que, fun v hv hv0 hq y hy hci hp => ?_⟩
  by_cases e : v = c ∧ y = i
  · obtain ⟨rfl, rfl⟩ := e; exact hno hp
  · exact H1.clo v hv hv0 hq y hy (fun e2 => by have := hci e2; omega) hp
theorem BRi.set (H : BRi N s T cf q l c i) (hi : i < N) (hp : 0 < T c i) (hneg : cf i < 0) : BRi N s T (fun v => if v = i then (c : Int) else cf v) (q ++ [(i : Int)]) l c (i + 1) := by
  obtain ⟨h1, h2, h3, rk, H1⟩ := H
  have hu := unr_set (z := (c : Int)) hneg (by omega) N hi
  have hci : c ≠ i := fun e => by subst e; omega
  have hup : ∀ v, 0 ≤ cf v → 0 ≤ (if v = i then (c : Int) else cf v) := fun v hv => by split <;> omega
  refine ⟨by simp; omega, h2, hup c h3, fun v => if v = i then rk c + 1 else rk v, fun v => ?_, ?_, fun v hv h0 hne => ?_, fun z hz => ?_, fun v hv h0 hq y hy hcy hpp => ?_⟩
  · have := H1.lo v
    split <;> omega
  · rw [if_neg (fun e => by have := H1.src; rw [e] at this; omega)]; exact H1.src
  · by_cases e : v = i
    · subst e
      simp only [if_true, Int.toNat_natCast, if_neg hci]
      exact ⟨h2, h3, by omega, hp⟩
    · simp only [if_neg e] at h0 ⊢
      obtain ⟨q1, q2, q3, q4⟩ := H1.up v hv h0 hne
      have hvi : (cf v).toNat ≠ i := fun e2 => by rw [e2] at q2; omega
      rw [if_neg hvi, if_neg hvi]
      exact ⟨q1, q2, q3, q4⟩
  · rcases List.mem_append.1 hz with hz | hz
    · obtain ⟨v, rfl, a1, a2⟩ := H1.que z hz
      exact ⟨v, rfl, a1, hup v a2⟩
    · exact ⟨i, List.mem_singleton.1 hz, hi, by rw [if_pos rfl]; omega⟩
  · have hvi : v ≠ i := fun e => hq (by rw [e]; simp)
    rw [if_neg hvi] at h0
    by_cases e : v = c ∧ y = i
    · rw [if_pos e.2]; omega
    · exact hup y (H1.clo v hv h0 (fun hm => hq (by simp [hm])) y hy (fun e2 => by have := hcy e2; omega) hpp)
theorem BRi.done (H : BRi N s T cf q l c N) : BRo N s T cf q (l - 1) ∧ 0 < l := by
  obtain ⟨h1, h2, h3, rk, H1⟩ := H
  exact ⟨⟨by omega, rk, fun c' => ⟨H1.lo, H1.src, H1.up, H1.que, fun v hv hv0 hq y hy _ hp => H1.clo v hv hv0 hq y hy (fun _ => hy) hp⟩⟩, by omega⟩
/-- What is told at the end: whence each point was reached. -/
def Reached (N s : Nat) (T : Nat → Nat → Int) (cf : Nat → Int) : Prop := (∀ v, -1 ≤ cf v ∧ cf v < N) ∧ (∃ rk, Tree N s T cf rk) ∧ ∀ x y, x < N → y < N → 0 ≤ cf x → cf y < 0 → T x y ≤ 0
theorem BRo.reached (H : BRo N s T cf [] l) : Reached N s T cf := by
  obtain ⟨h1, rk, h2⟩ := H
  have H1 := h2 0
  refine ⟨H1.lo, ⟨rk, H1.src, H1.up⟩, fun x y hx hy h0 hn => ?_⟩
  by_cases e : 0 < T x y
  · have := (h2 0).clo x hx h0 (by simp) y hy (fun _ => hy) e
    omega
  · omega
end
end Go.Proofs.Ytekngpinldiodaa
