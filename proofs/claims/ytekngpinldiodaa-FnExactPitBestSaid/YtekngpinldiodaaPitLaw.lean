/- A pit that came in, read as data. No condition. -/
import Derived.Test.YtekngpinldiodaaOpen
import Derived.Test.YtekngpinldiodaaPit2
namespace Go.Proofs.Ytekngpinldiodaa
open Go.ChangeShapes Go.WideShapes Go.ChangeAt Go.RowKit Go.Deep

theorem open_Pit {H : Type} {enc : TypeId × Value → H} {w : World} {base : Nat} {spare : Nat → Bool} {held : Bool} {fuel : Nat} {v : Value} {x : DataW H × List MemPlace}
    (h : DataW.trod enc Try.prog w base spare held fuel 22 [v] = some x) :
    ∃ A D c, v = .slice A (PitD.n D) c ∧ PitAt w A D ∧ D.n ≤ 9223372036854775807 ∧ ∀ j, j < D.n → D.l j ≤ 9223372036854775807 := by
  obtain ⟨A, n, c, hv, hn, hb⟩ := open_any (s := 2) Try.underlying22 (by kernel_rfl) (by omega) h
  by_cases h0 : 0 < n
  · obtain ⟨b, o, hA, hel⟩ := hb h0
    have hex : ∀ j, ∃ q : Int × Option Addr × Nat × Nat × (Nat → Int), j < n → w.cell? ⟨b, o + j * 2, none⟩ = some (.int .i64 q.1) ∧ w.cell? ⟨b, o + j * 2 + 1, none⟩ = some (.slice q.2.1 q.2.2.1 q.2.2.2.1) ∧ Ints w q.2.1 q.2.2.1 q.2.2.2.2 ∧ q.2.2.1 ≤ 9223372036854775807 := fun j => by
      by_cases hj : j < n
      · obtain ⟨cs, m, y, hl, hcell, htr⟩ := hel j hj
        obtain ⟨u0, u1, rfl⟩ := list2 hl
        obtain ⟨y0, y1, m', _, _, t0, t1⟩ := trod_struct2 Try.underlying47 htr
        have t0' : DataW.trod enc Try.prog w base spare held m' 3 [u0] = some y0 := by simpa [cells3] using t0
        have t1' : DataW.trod enc Try.prog w base spare held m' 33 [u1] = some y1 := by simpa [cells33] using t1
        obtain ⟨p, hp, _, _⟩ := DataW.trod_int Try.underlying3 t0'
        obtain ⟨C, k, d, z, rfl, hz, hk, _⟩ := open_Ints Try.underlying33 Try.underlying3 (by kernel_rfl) t1'
        simp at hp
        subst hp
        exact ⟨(p, C, k, d, z), fun _ => ⟨by simpa using hcell 0 (by omega), by simpa [Nat.add_assoc] using hcell 1 (by omega), hz, hk⟩⟩
      · exact ⟨(0, none, 0, 0, fun _ => 0), fun h => absurd h hj⟩
    obtain ⟨f, hf⟩ := Classical.axiomOfChoice hex
    refine ⟨A, ⟨n, fun j => (f j).1, fun j => (f j).2.2.1, fun j => (f j).2.2.2.2⟩, c, hv, fun _ => ⟨b, o, hA, fun j hj => ?_⟩, hn, fun j hj => (hf j hj).2.2.2⟩
    exact ⟨(hf j hj).1, (f j).2.1, (f j).2.2.2.1, (hf j hj).2.1, (hf j hj).2.2.1⟩
  · obtain rfl : n = 0 := by omega
    exact ⟨A, ⟨0, fun _ => 0, fun _ => 0, fun _ _ => 0⟩, c, hv, fun h => absurd h (by simp), by show 0 ≤ _; omega, fun j hj => absurd hj (by simp)⟩
end Go.Proofs.Ytekngpinldiodaa
