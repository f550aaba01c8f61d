/- A search that came in, read as data. No condition. -/
import Derived.Test.YtlhcjbgcgbeocaaOpen
import Derived.Test.YtlhcjbgcgbeocaaSrch1
import Derived.Deep.Strs
import Derived.Deep.Grids
namespace Go.Proofs.Ytlhcjbgcgbeocaa
open Go.ChangeShapes Go.WideShapes Go.ChangeAt Go.RowKit Go.Deep

theorem cells22 : Try.prog.cellsOf 22 = 1 := by kernel_rfl
theorem cells23 : Try.prog.cellsOf 23 = 1 := by kernel_rfl

section
variable {H : Type} {enc : TypeId × Value → H} {w : World} {base : Nat} {held : Bool}

theorem open_Pas {fuel : Nat} {v : Value} {x : DataW H × List MemPlace}
    (h : DataW.trod enc Try.prog w base (fun _ => true) held fuel 22 [v] = some x) :
    ∃ A n c y z t, v = .slice A n c ∧ Triples w A n y z t ∧ n ≤ 9223372036854775807 := by
  obtain ⟨A, n, c, hv, hn, hb⟩ := open_any (s := 3) Try.underlying22 (by kernel_rfl) (by omega) h
  by_cases h0 : 0 < n
  · obtain ⟨b, o, hA, hel⟩ := hb h0
    have hex : ∀ j, ∃ q : Int × Int × Int, j < n → w.cell? ⟨b, o + j * 3, none⟩ = some (.int .i64 q.1) ∧ w.cell? ⟨b, o + j * 3 + 1, none⟩ = some (.int .i64 q.2.1) ∧ w.cell? ⟨b, o + j * 3 + 2, none⟩ = some (.int .i64 q.2.2) := fun j => by
      by_cases hj : j < n
      · obtain ⟨cs, m, y, hl, hcell, htr⟩ := hel j hj
        obtain ⟨u0, u1, u2, rfl⟩ := list3 hl
        obtain ⟨y0, y1, y2, m', _, _, t0, t1, t2⟩ := trod_struct3 Try.underlying69 htr
        have t0' : DataW.trod enc Try.prog w base (fun _ => true) held m' 3 [u0] = some y0 := by simpa [cells3] using t0
        have t1' : DataW.trod enc Try.prog w base (fun _ => true) held m' 3 [u1] = some y1 := by simpa [cells3] using t1
        have t2' : DataW.trod enc Try.prog w base (fun _ => true) held m' 3 [u2] = some y2 := by simpa [cells3] using t2
        obtain ⟨p, hp, _, _⟩ := DataW.trod_int Try.underlying3 t0'
        obtain ⟨q, hq, _, _⟩ := DataW.trod_int Try.underlying3 t1'
        obtain ⟨r, hr, _, _⟩ := DataW.trod_int Try.underlying3 t2'
        simp at hp hq hr
        subst hp hq hr
        exact ⟨(p, q, r), fun _ => ⟨by simpa using hcell 0 (by omega), by simpa [Nat.add_assoc] using hcell 1 (by omega), by simpa [Nat.add_assoc] using hcell 2 (by omega)⟩⟩
      · exact ⟨(0, 0, 0), fun h => absurd h hj⟩
    obtain ⟨f, hf⟩ := Classical.axiomOfChoice hex
    exact ⟨A, n, c, fun j => (f j).1, fun j => (f j).2.1, fun j => (f j).2.2, hv, fun _ => ⟨b, o, hA, fun j hj => hf j hj⟩, hn⟩
  · exact ⟨A, n, c, fun _ => 0, fun _ => 0, fun _ => 0, hv, fun h => absurd h h0, hn⟩

theorem open_Bools {fuel : Nat} {v : Value} {x : DataW H × List MemPlace}
    (h : DataW.trod enc Try.prog w base (fun _ => true) held fuel 23 [v] = some x) :
    ∃ A n c y, v = .slice A n c ∧ Bools w A n y ∧ n ≤ 9223372036854775807 := by
  rcases open_bools Try.underlying23 Try.underlying4 (by kernel_rfl) h with ⟨hcs, _⟩ | ⟨a, len, cap, B, hcs, _, hl, hm, _, hcell⟩
  · simp at hcs
    exact ⟨none, 0, 0, fun _ => false, hcs, fun h => absurd h (by omega), by omega⟩
  · simp at hcs
    unfold maxLen at hm
    refine ⟨some a, len, cap, B, hcs, fun h0 => ?_, by omega⟩
    have hsp : a.spot = none := by have := World.cell?_spot (hcell 0 (by omega)); simpa [Addr.add] using this
    obtain ⟨b, o, sp⟩ := a
    simp at hsp
    subst hsp
    exact ⟨b, o, rfl, fun j hj => by have := hcell j (by omega); rwa [Addr.add_lit] at this⟩

theorem open_Search {fuel : Nat} {c0 c1 c2 : Value} {x : DataW H × List MemPlace}
    (h : DataW.trod enc Try.prog w base (fun _ => true) held fuel 25 [c0, c1, c2] = some x) :
    ∃ P Q D c d, c0 = .int .i64 (SrchD.s D) ∧ c1 = .slice P D.m c ∧ c2 = .slice Q D.k d ∧ SrchAt w P Q D ∧ D.m ≤ 9223372036854775807 ∧ D.k ≤ 9223372036854775807 := by
  obtain ⟨y0, y1, y2, m', _, _, t0, t1, t2⟩ := trod_struct3 Try.underlying25 h
  have t0' : DataW.trod enc Try.prog w base (fun _ => true) held m' 3 [c0] = some y0 := by simpa [cells3] using t0
  have t1' : DataW.trod enc Try.prog w base (fun _ => true) held m' 22 [c1] = some y1 := by simpa [cells22] using t1
  have t2' : DataW.trod enc Try.prog w base (fun _ => true) held m' 23 [c2] = some y2 := by simpa [cells23] using t2
  obtain ⟨p, hp, _, _⟩ := DataW.trod_int Try.underlying3 t0'
  obtain ⟨A, n, c, y, z, t, hA, hT, hn⟩ := open_Pas t1'
  obtain ⟨B, k, d, u, hB, hU, hk⟩ := open_Bools t2'
  simp at hp
  exact ⟨A, B, ⟨p, n, y, z, t, k, u⟩, c, d, hp, hA, hB, ⟨hT, hU⟩, hn, hk⟩

theorem agg3 {cs : Array Value} (h : cs.size = 3) : ∃ a b c, cs = #[a, b, c] := by
  obtain ⟨l⟩ := cs
  obtain ⟨a, b, c, rfl⟩ := list3 (show l.length = 3 from h)
  exact ⟨a, b, c, rfl⟩
theorem cells25 : Try.prog.cellsOf 25 = 3 := by kernel_rfl
end
end Go.Proofs.Ytlhcjbgcgbeocaa
