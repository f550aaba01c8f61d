/- The small lists that water's draws make: pumps, some sills. Lists are short. -/
import Derived.Test.YtahbfifnpceoeaaDoorDrCave
namespace Go.Proofs.YtahbfifnpceoeaaDoor
open Go.RowKit

/-- These numbers lie from block lo on. -/
def IntsHeld (lo : Nat) (w : World) (A : Option Addr) (n : Nat) (x : Nat → Int) : Prop := ∀ w' : World, (∀ k, lo ≤ k → k < w.heap.size → w'.heap[k]? = w.heap[k]?) → Ints w' A n x
theorem IntsHeld.lower {lo lo' : Nat} {w : World} {A : Option Addr} {n : Nat} {x : Nat → Int} (h : IntsHeld lo w A n x) (hl : lo' ≤ lo) : IntsHeld lo' w A n x := fun w' hk => h w' (fun k h1 h2 => hk k (by omega) h2)
theorem IntsHeld.at_ {lo : Nat} {w : World} {A : Option Addr} {n : Nat} {x : Nat → Int} (h : IntsHeld lo w A n x) : Ints w A n x := h w (fun _ _ _ => rfl)
theorem IntsHeld.step {lo : Nat} {w w' : World} {A : Option Addr} {n : Nat} {x : Nat → Int} (h : IntsHeld lo w A n x) (hs : w.heap.size ≤ w'.heap.size) (hk : ∀ k, lo ≤ k → k < w.heap.size → w'.heap[k]? = w.heap[k]?) : IntsHeld lo w' A n x :=
  fun w'' hk' => h w'' (fun k h1 h2 => (hk' k h1 (by omega)).trans (hk k h1 h2))
theorem IntsHeld.kept {lo g hi : Nat} {w w' : World} {A : Option Addr} {n : Nat} {x : Nat → Int} (h : IntsHeld lo w A n x) (hk : Kept g hi w w') (hg : hi ≤ lo) : IntsHeld lo w' A n x :=
  h.step hk.size (fun k h1 h2 => hk.block k h2 (.inr (by omega)))
theorem OwnL.held {w : World} {B : Nat} {v : Value} {l : List Int} (h : OwnL w B v l) : ∃ A c, v = .slice A l.length c ∧ l.length ≤ c ∧ IntsHeld B w A l.length (fun j => l.getD j 0) := by
  obtain ⟨A, c, rfl, _⟩ := h.ints
  refine ⟨A, c, rfl, own_cap (e := 3) (size := 1) h, fun w' hk => ?_⟩
  have h' : OwnL w' B (.slice A l.length c) l := Own.high (e := 3) (size := 1) h hk
  obtain ⟨A', c', e, hi⟩ := h'.ints
  simp only [Value.slice.injEq, true_and] at e
  obtain ⟨rfl, rfl⟩ := e
  exact hi
/-- It returned at most nm numbers between these, and picked at most m times. -/
def RetIs (nm : Nat) (lo hi : Int) (g p m : Nat) (w : World) (e : Ending) (w' : World) : Prop :=
  ∃ (A : Option Addr) (n c : Nat) (x : Nat → Int) (p' : Nat), e = .returned (.slice A n c) ∧ (n ≤ nm ∧ n ≤ c) ∧ (∀ j, j < n → lo ≤ x j ∧ x j ≤ hi) ∧ IntsHeld w.heap.size w' A n x ∧ Rdr w' g p' ∧ p' ≤ p + m ∧ Kept g (g + 1) w w'

theorem keptB_then {lo hi B : Nat} {a b c : World} (h : Kept lo hi a b) (hb : Below B b c) (hB : a.heap.size ≤ B) : Kept lo hi a c :=
  ⟨hb.os.trans h.os, hb.tape.trans h.tape, hb.output.trans h.output, Nat.le_trans h.size hb.size, fun k hk hh => (hb.block k (by omega)).trans (h.block k hk hh)⟩
theorem ownL_kept {w w' : World} {B lo hi : Nat} {v : Value} {l : List Int} (h : OwnL w B v l) (hk : Kept lo hi w w') (hhi : hi ≤ B) : OwnL w' B v l := Own.kept (e := 3) (size := 1) h hk hhi

/-- The reader, the cave's box and the list that grows. -/
structure ExI (lo hi : Int) (w : World) (B g : Nat) (cs : Array Value) (p : Nat) (v : Value) (l : List Int) (wr : World) : Prop where
  rdr : Rdr wr g p
  box : Blk wr w.heap.size 26 cs
  own : OwnL wr B v l
  kept : Kept g (g + 1) w wr
  bd : ∀ x, x ∈ l → lo ≤ x ∧ x ≤ hi
  ord : g < w.heap.size ∧ B = w.heap.size + 1 ∧ B ≤ wr.heap.size
section
variable {lo hi : Int} {w wr w' : World} {B g p p' : Nat} {cs : Array Value} {v v' : Value} {l : List Int}
theorem ExI.pick (H : ExI lo hi w B g cs p v l wr) (hr : Rdr w' g p') (hk : Kept g (g + 1) wr w') : ExI lo hi w B g cs p' v l w' :=
  ⟨hr, blk_kept H.box hk (.inr (by have := H.ord; omega)), ownL_kept H.own hk (by have := H.ord; omega), H.kept.trans hk, H.bd, H.ord.1, H.ord.2.1, by have := H.ord; have := hk.size; omega⟩
theorem ExI.app {x : Int} (H : ExI lo hi w B g cs p v l wr) (ho : OwnL w' B v' (l ++ [x])) (hb : Below B wr w') (hx : lo ≤ x ∧ x ≤ hi) : ExI lo hi w B g cs p v' (l ++ [x]) w' :=
  ⟨H.rdr.low (fun j hj => hb.block j (by have := H.ord; omega)), (hb.block _ (by have := H.ord; omega)).trans H.box, ho, keptB_then H.kept hb (by have := H.ord; omega),
    fun y hy => by rcases List.mem_append.1 hy with h | h
                   · exact H.bd y h
                   · simp at h; subst h; exact hx, H.ord.1, H.ord.2.1, by have := H.ord; have := hb.size; omega⟩
theorem ExI.ret {p0 m nm : Nat} (H : ExI lo hi w B g cs p v l wr) (hl : l.length ≤ nm) (hp : p ≤ p0 + m) : RetIs nm lo hi g p0 m w (.returned v) wr := by
  obtain ⟨A, c, rfl, hc, hi⟩ := H.own.held
  exact ⟨A, l.length, c, _, p, rfl, ⟨hl, hc⟩, fun j hj => H.bd _ (by simp [List.getD, hj]), hi.lower (by have := H.ord; omega), H.rdr, hp, H.kept⟩
theorem ExI.start (hr : Rdr w g p) (hgl : g < w.heap.size) : ExI lo hi w (w.heap.size + 1) g cs p (.slice (some ⟨w.heap.size + 1, 0, none⟩) 0 0) [] ((w.alloc (.cells cs 26)).alloc (.cells #[] 3)) := by
  refine ⟨hr.below (Below.alloc (Below.alloc (Below.refl _ _) (Nat.le_refl _) _) (by simp) _), (Blk.new w _ _).alloc _, ?_, ((Kept.refl _ _ _).alloc _).alloc _, fun x hx => absurd hx (by simp), hgl, rfl, by simp⟩
  have := OwnL.lit0 (w.alloc (.cells cs 26)) (B := w.heap.size + 1) (by simp) #[] rfl
  simpa using this
end

set_option maxRecDepth 20000 in
theorem l20Pumps_any (g p : Nat) (F G S : Option Addr) (D : CaveD) (c d e : Nat) (w : World) (hr : Rdr w g p) (hp : p ≤ 90000) (hn20 : D.n ≤ 20) :
    Calls Tryd.prog 70 #[.pointer (some ⟨g, 0, none⟩), .agg #[.slice F D.n c, .slice G D.q d, .slice S D.m e]] w (RetIs 4 (-8) 27 g p 20 w) := by
  have hgl := hr.lt
  have H0 : Hid (ExI (-8) 27 w (w.heap.size + 1) g #[.slice F D.n c, .slice G D.q d, .slice S D.m e] p (.slice (some ⟨w.heap.size + 1, 0, none⟩) 0 0) [] ((w.alloc (.cells #[.slice F D.n c, .slice G D.q d, .slice S D.m e] 26)).alloc (.cells #[] 3))) := ExI.start hr hgl
  go_enter Tryd.func70, Tryd.ntmps70
  go_wp2_with fail
  refine (pick_any g p 4 _ H0.out.rdr (by omega) (by omega)).mono ?_
  rintro ex w1 ⟨q1, rfl, hq0, hq1, hr1, hk1⟩
  have H1 := hid (H0.out.pick hr1 hk1)
  obtain ⟨qn, rfl⟩ := Int.eq_ofNat_of_zero_le hq0
  have hq4 : qn ≤ 4 := by omega
  clear hr hr1 hk1 H0 hq0 hq1
  go_wp2
  go_loopw [5, 6] (fun v i wr => ∃ (kk : Nat) (l : List Int) (p' : Nat), kk ≤ 4 ∧ i = .int .i64 kk ∧ l.length + kk ≤ 4 ∧ p' + 3 * kk ≤ p + 13 ∧ Hid (ExI (-8) 27 w (w.heap.size + 1) g #[.slice F D.n c, .slice G D.q d, .slice S D.m e] p' v l wr)) (fun _ i _ => (intOf i).toNat)
  case atStart => exact ⟨qn, [], p + 1, hq4, rfl, by simpa using hq4, by omega, H1⟩
  case round =>
    clear H1
    obtain ⟨kk, l, p', hkk, rfl, hl, hp', HX⟩ := hrel
    by_cases hk0 : kk = 0
    · have hk0z : decide (0 < kk) = false := decide_eq_false (by omega)
      go_wp2
      go_ret
      exact HX.out.ret (by omega) (by omega)
    · have hk0z : decide (0 < kk) = true := decide_eq_true (by omega)
      have y0 := HX.out.box.cell (i := 0) rfl
      have y1 := HX.out.box.cell (i := 1) rfl
      have y2 := HX.out.box.cell (i := 2) rfl
      obtain ⟨A1, c1, rfl, _⟩ := HX.out.own.ints
      go_wp2_with (first
          | (go_at_call 71; (with_reducible refine (l20Chamber_any g p' F G S D c d e _ HX.out.rdr (by omega) hn20).mono ?_); rintro e w2 ⟨q2, rfl, hq2, hr2, hk2⟩; have H2 := hid (HX.out.pick hr2 hk2); have hsz := H2.out.ord.2.2; clear hr2 hk2 y0 y1 y2)
          | (at_builtin; refine app_int rfl _ _ rfl (w.heap.size + 1) _ _ rfl (H2.out.own.alloc _) w2.heap.size q2 rfl (by simp) (by omega) (by simp; omega) ?_))
      intro v' w3 hown' hbel'
      have H3 := hid (H2.out.app hown' (hbel' w2 ((Below.refl _ _).alloc hsz _)) hq2)
      have hkz : (kk : Int) - 1 = ((kk - 1 : Nat) : Int) := by omega
      clear hown' hbel' H2 HX
      go_wp2
      go_roundw
      case rel => exact ⟨kk - 1, l ++ [q2], p' + 3, by omega, by first | rfl | exact congrArg (Value.int .i64) hkz, by simp; omega, by omega, H3⟩
      case measure => simp [intOf] <;> omega

set_option maxRecDepth 20000 in
theorem l20Some_any (g p : Nat) (F G S : Option Addr) (D : CaveD) (c d e : Nat) (w : World) (hr : Rdr w g p) (hp : p ≤ 90000) (hm20 : D.m ≤ 20) :
    Calls Tryd.prog 65 #[.pointer (some ⟨g, 0, none⟩), .agg #[.slice F D.n c, .slice G D.q d, .slice S D.m e]] w (RetIs 21 0 20 g p 30 w) := by
  have hgl := hr.lt
  have H0 : Hid (ExI 0 20 w (w.heap.size + 1) g #[.slice F D.n c, .slice G D.q d, .slice S D.m e] p (.slice (some ⟨w.heap.size + 1, 0, none⟩) 0 0) [] ((w.alloc (.cells #[.slice F D.n c, .slice G D.q d, .slice S D.m e] 26)).alloc (.cells #[] 3))) := ExI.start hr hgl
  go_enter Tryd.func65, Tryd.ntmps65
  go_wp2
  go_loopw [5, 6] (fun v i wr => ∃ (kk : Nat) (l : List Int), kk ≤ D.m ∧ i = .int .i64 kk ∧ l.length ≤ kk ∧ Hid (ExI 0 20 w (w.heap.size + 1) g #[.slice F D.n c, .slice G D.q d, .slice S D.m e] (p + kk) v l wr)) (fun _ i _ => D.m - (intOf i).toNat)
  case atStart => exact ⟨0, [], by omega, rfl, by simp, H0⟩
  case round =>
    clear H0 hr
    obtain ⟨kk, l, hkk, rfl, hl, HX⟩ := hrel
    have y2 := HX.out.box.cell (i := 2) rfl
    obtain ⟨A1, c1, rfl, _⟩ := HX.out.own.ints
    by_cases hlt : kk < D.m
    · have hltz : (kk : Int) < (D.m : Int) := by omega
      go_wp2_with fail
      refine (pick_any g (p + kk) 5 _ HX.out.rdr (by omega) (by omega)).mono ?_
      rintro ex w2 ⟨q2, rfl, hq20, hq2, hr2, hk2⟩
      have H2 := hid (HX.out.pick hr2 hk2)
      have hsz := H2.out.ord.2.2
      clear hr2 hk2 y2 HX
      by_cases hq : 0 < q2
      · go_wp2_with (at_builtin; refine app_int rfl _ _ rfl (w.heap.size + 1) _ _ rfl (H2.out.own.alloc _) w2.heap.size (kk : Int) rfl (by simp) (by omega) (by simp; omega) ?_)
        intro v' w3 hown' hbel'
        have H3 := hid (H2.out.app hown' (hbel' w2 ((Below.refl _ _).alloc hsz _)) (by omega))
        clear hown' hbel' H2
        go_wp2
        go_roundw
        case rel => exact ⟨kk + 1, l ++ [(kk : Int)], by omega, by go_num, by simp; omega, H3⟩
        case measure => simp [intOf] <;> omega
      · go_wp2
        go_roundw
        case rel => exact ⟨kk + 1, l, by omega, by go_num, by omega, H2⟩
        case measure => simp [intOf] <;> omega
    · have : kk = D.m := by omega
      subst this
      go_wp2_with fail
      refine (odd_any g (p + D.m) 12 _ HX.out.rdr (by omega) (by omega) (by omega)).mono ?_
      rintro ex w2 ⟨bo, rfl, hr2, hk2⟩
      have H2 := hid (HX.out.pick hr2 hk2)
      have hsz := H2.out.ord.2.2
      clear hr2 hk2 y2 HX
      cases bo with
      | false =>
        go_wp2
        go_ret
        exact H2.out.ret (by omega) (by omega)
      | true =>
        have y2 := H2.out.box.cell (i := 2) rfl
        go_wp2_with (at_builtin; refine app_int rfl _ _ rfl (w.heap.size + 1) _ _ rfl (H2.out.own.alloc _) w2.heap.size (D.m : Int) rfl (by simp) (by omega) (by simp; omega) ?_)
        intro v' w3 hown' hbel'
        have H3 := hid (H2.out.app hown' (hbel' w2 ((Below.refl _ _).alloc hsz _)) (by omega))
        clear hown' hbel' H2
        go_wp2
        go_ret
        exact H3.out.ret (by simp; omega) (by omega)
end Go.Proofs.YtahbfifnpceoeaaDoor
