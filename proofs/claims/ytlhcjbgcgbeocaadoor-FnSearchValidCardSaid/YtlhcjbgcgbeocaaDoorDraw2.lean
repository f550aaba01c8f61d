/- The small draws: a place, a breath, a few places; and the laws' data whole. -/
import Derived.Test.YtlhcjbgcgbeocaaDoorDrSrch
import Derived.Lib.SmallJoins
namespace Go.Proofs.YtlhcjbgcgbeocaaDoor
open Go.RowKit

/-- It returned a number between these, and picked so often. -/
def RetN (lo hi : Int) (g p : Nat) (w : World) (e : Ending) (w' : World) : Prop := ∃ q : Int, e = .returned (.int .i64 q) ∧ (lo ≤ q ∧ q ≤ hi) ∧ Rdr w' g p ∧ Kept g (g + 1) w w'

theorem l20Breath_any (g p : Nat) (w : World) (hr : Rdr w g p) (hp : p ≤ 100000) :
    Calls Tryd.prog 61 #[.pointer (some ⟨g, 0, none⟩)] w (RetN (-39) 70 g (p + 3) w) := by
  go_enter Tryd.func61, Tryd.ntmps61
  go_wp2_with fail
  refine (pick_any g p 30 _ hr (by omega) (by omega)).mono ?_
  rintro e w1 ⟨q1, rfl, h0, h1, hr1, hk1⟩
  go_wp2_with fail
  refine (pick_any g (p + 1) 30 _ hr1 (by omega) (by omega)).mono ?_
  rintro e w2 ⟨q2, rfl, h2, h3, hr2, hk2⟩
  go_wp2_with fail
  refine (pick_any g (p + 2) 30 _ hr2 (by omega) (by omega)).mono ?_
  rintro e w3 ⟨q3, rfl, h4, h5, hr3, hk3⟩
  go_wp2
  go_ret
  exact ⟨_, rfl, by omega, hr3, (hk1.trans hk2).trans hk3⟩

/-- It returned a number between these, and picked so often. -/
theorem l20Spot_any (g p : Nat) (P Q : Option Addr) (D : SrchD) (c d : Nat) (w : World) (hr : Rdr w g p) (hp : p ≤ 100000) (h0 : -10 ≤ D.s) (h9 : D.s ≤ 10) :
    Calls Tryd.prog 51 #[.pointer (some ⟨g, 0, none⟩), .agg #[.int .i64 D.s, .slice P D.m c, .slice Q D.k d]] w (RetN (-9) 17 g (p + 3) w) := by
  have hB := Blk.new w 26 #[.int .i64 D.s, .slice P D.m c, .slice Q D.k d]
  have y0 := hB.cell (i := 0) rfl
  have hk0 : Kept g (g + 1) w (w.alloc (.cells #[.int .i64 D.s, .slice P D.m c, .slice Q D.k d] 26)) := (Kept.refl _ _ _).alloc _
  have hr0 := hr.below (Joins.below_alloc1 w (.cells #[.int .i64 D.s, .slice P D.m c, .slice Q D.k d] 26))
  go_enter Tryd.func51, Tryd.ntmps51
  go_wp2_with fail
  all_goals
    refine (pick_any g p _ _ hr0 (by omega) (by omega)).mono ?_
    rintro e w1 ⟨q1, rfl, h0, h1, hr1, hk1⟩
    go_wp2_with fail
    refine (pick_any g (p + 1) 40 _ hr1 (by omega) (by omega)).mono ?_
    rintro e w2 ⟨q2, rfl, h2, h3, hr2, hk2⟩
    go_wp2_with fail
    refine (pick_any g (p + 2) 40 _ hr2 (by omega) (by omega)).mono ?_
    rintro e w3 ⟨q3, rfl, h4, h5, hr3, hk3⟩
    go_wp2
    go_ret
    exact ⟨_, rfl, by omega, hr3, ((hk0.trans hk1).trans hk2).trans hk3⟩

/-- These numbers lie from block lo on. -/
def IntsHeld (lo : Nat) (w : World) (A : Option Addr) (n : Nat) (x : Nat → Int) : Prop := ∀ w' : World, (∀ k, lo ≤ k → k < w.heap.size → w'.heap[k]? = w.heap[k]?) → Ints w' A n x
theorem OwnL.held {w : World} {B : Nat} {v : Value} {l : List Int} (h : OwnL w B v l) : ∃ A c, v = .slice A l.length c ∧ IntsHeld B w A l.length (fun j => l.getD j 0) := by
  obtain ⟨A, c, rfl, _⟩ := h.ints
  refine ⟨A, c, rfl, fun w' hk => ?_⟩
  have h' : OwnL w' B (.slice A l.length c) l := Own.high (e := 3) (size := 1) h hk
  obtain ⟨A', c', e, hi⟩ := h'.ints
  simp only [Value.slice.injEq, true_and] at e
  obtain ⟨rfl, rfl⟩ := e
  exact hi
theorem IntsHeld.lower {lo lo' : Nat} {w : World} {A : Option Addr} {n : Nat} {x : Nat → Int} (h : IntsHeld lo w A n x) (hl : lo' ≤ lo) : IntsHeld lo' w A n x := fun w' hk => h w' (fun k h1 h2 => hk k (by omega) h2)
/-- It returned a few numbers between these, and picked at most so often. -/
def RetExits (g p m : Nat) (w : World) (e : Ending) (w' : World) : Prop :=
  ∃ (A : Option Addr) (n c : Nat) (x : Nat → Int) (p' : Nat), e = .returned (.slice A n c) ∧ n ≤ 4 ∧ (∀ j, j < n → -9 ≤ x j ∧ x j ≤ 17) ∧ IntsHeld w.heap.size w' A n x ∧ Rdr w' g p' ∧ p' ≤ p + m ∧ Kept g (g + 1) w w'

theorem kept_then {lo hi B : Nat} {a b c : World} (h : Kept lo hi a b) (hb : Below B b c) (hB : a.heap.size ≤ B) : Kept lo hi a c :=
  ⟨hb.os.trans h.os, hb.tape.trans h.tape, hb.output.trans h.output, Nat.le_trans h.size hb.size, fun k hk hh => (hb.block k (by omega)).trans (h.block k hk hh)⟩

/-- The reader, the search's box and the list that grows. -/
structure ExI (w : World) (B g : Nat) (cs : Array Value) (p : Nat) (v : Value) (l : List Int) (wr : World) : Prop where
  rdr : Rdr wr g p
  box : Blk wr w.heap.size 26 cs
  own : OwnL wr B v l
  kept : Kept g (g + 1) w wr
  bd : ∀ x, x ∈ l → -9 ≤ x ∧ x ≤ 17
  ord : g < w.heap.size ∧ B = w.heap.size + 1 ∧ B ≤ wr.heap.size
theorem ownL_kept {w w' : World} {B lo hi : Nat} {v : Value} {l : List Int} (h : OwnL w B v l) (hk : Kept lo hi w w') (hhi : hi ≤ B) : OwnL w' B v l := Own.kept (e := 3) (size := 1) h hk hhi
theorem ExI.pick {w wr w' : World} {B g p p' : Nat} {cs : Array Value} {v : Value} {l : List Int} (H : ExI w B g cs p v l wr) (hr : Rdr w' g p') (hk : Kept g (g + 1) wr w') : ExI w B g cs p' v l w' :=
  ⟨hr, blk_kept H.box hk (.inr (by have := H.ord; omega)), ownL_kept H.own hk (by have := H.ord; omega), H.kept.trans hk, H.bd, H.ord.1, H.ord.2.1, by have := H.ord; have := hk.size; omega⟩
theorem ExI.app {w wr w' : World} {B g p : Nat} {cs : Array Value} {v v' : Value} {l : List Int} {x : Int} (H : ExI w B g cs p v l wr) (ho : OwnL w' B v' (l ++ [x])) (hb : Below B wr w') (hx : -9 ≤ x ∧ x ≤ 17) : ExI w B g cs p v' (l ++ [x]) w' :=
  ⟨H.rdr.low (fun j hj => hb.block j (by have := H.ord; omega)), (hb.block _ (by have := H.ord; omega)).trans H.box, ho, kept_then H.kept hb (by have := H.ord; omega),
    fun y hy => by rcases List.mem_append.1 hy with h | h
                   · exact H.bd y h
                   · simp at h; subst h; exact hx, H.ord.1, H.ord.2.1, by have := H.ord; have := hb.size; omega⟩
theorem ExI.ret {w wr : World} {B g p p0 m : Nat} {cs : Array Value} {v : Value} {l : List Int} (H : ExI w B g cs p v l wr) (hl : l.length ≤ 4) (hp : p ≤ p0 + m) : RetExits g p0 m w (.returned v) wr := by
  obtain ⟨A, c, rfl, hi⟩ := H.own.held
  exact ⟨A, l.length, c, _, p, rfl, hl, fun j hj => H.bd _ (by simp [List.getD, hj]), hi.lower (by have := H.ord; omega), H.rdr, hp, H.kept⟩

set_option maxRecDepth 20000 in
theorem l20Exits_any (g p : Nat) (P Q : Option Addr) (D : SrchD) (c d : Nat) (w : World) (hr : Rdr w g p) (hp : p ≤ 90000) (h0 : -10 ≤ D.s) (h9 : D.s ≤ 10) :
    Calls Tryd.prog 54 #[.pointer (some ⟨g, 0, none⟩), .agg #[.int .i64 D.s, .slice P D.m c, .slice Q D.k d]] w (RetExits g p 20 w) := by
  have hgl := hr.lt
  have H0 : Hid (ExI w (w.heap.size + 1) g #[.int .i64 D.s, .slice P D.m c, .slice Q D.k d] p (.slice (some ⟨w.heap.size + 1, 0, none⟩) 0 0) [] ((w.alloc (.cells #[.int .i64 D.s, .slice P D.m c, .slice Q D.k d] 26)).alloc (.cells #[] 3))) := by
    refine ⟨hr.below (Below.alloc (Below.alloc (Below.refl _ _) (Nat.le_refl _) _) (by simp) _), (Blk.new w _ _).alloc _, ?_, ((Kept.refl _ _ _).alloc _).alloc _, fun x hx => absurd hx (by simp), hgl, rfl, by simp⟩
    have := OwnL.lit0 (w.alloc (.cells #[.int .i64 D.s, .slice P D.m c, .slice Q D.k d] 26)) (B := w.heap.size + 1) (by simp) #[] rfl
    simpa using this
  go_enter Tryd.func54, Tryd.ntmps54
  go_wp2_with fail
  refine (pick_any g p 4 _ H0.out.rdr (by omega) (by omega)).mono ?_
  rintro e w1 ⟨q1, rfl, hq0, hq1, hr1, hk1⟩
  have H1 := hid (H0.out.pick hr1 hk1)
  obtain ⟨qn, rfl⟩ := Int.eq_ofNat_of_zero_le hq0
  have hq4 : qn ≤ 4 := by omega
  clear hr hr1 hk1 H0 hq0 hq1
  go_wp2
  go_loopw [5, 6] (fun v i wr => ∃ (kk : Nat) (l : List Int) (p' : Nat), kk ≤ 4 ∧ i = .int .i64 kk ∧ l.length + kk ≤ 4 ∧ p' + 3 * kk ≤ p + 13 ∧ Hid (ExI w (w.heap.size + 1) g #[.int .i64 D.s, .slice P D.m c, .slice Q D.k d] p' v l wr)) (fun _ i _ => (intOf i).toNat)
  case atStart => exact ⟨qn, [], p + 1, hq4, rfl, by simpa using hq4, by omega, H1⟩
  case round =>
    clear H1
    obtain ⟨kk, l, p', hkk, rfl, hl, hp', HX⟩ := hrel
    by_cases hk0 : kk = 0
    · have hk0z : decide (0 < kk) = false := decide_eq_false (by omega)
      go_wp2
      go_ret
      exact HX.out.ret (by omega) (by omega)
    · have hk0z : decide (0 < kk) = true := decide_eq_true (by omega)
      have y0 := HX.out.box.cell (i := 0) rfl
      have y1 := HX.out.box.cell (i := 1) rfl
      have y2 := HX.out.box.cell (i := 2) rfl
      obtain ⟨A1, c1, rfl, _⟩ := HX.out.own.ints
      go_wp2_with (first
          | (go_at_call 51; (with_reducible refine (l20Spot_any g p' P Q D c d _ HX.out.rdr (by omega) h0 h9).mono ?_); rintro e w2 ⟨q2, rfl, hq2, hr2, hk2⟩; have H2 := hid (HX.out.pick hr2 hk2); have hsz := H2.out.ord.2.2; clear hr2 hk2 y0 y1 y2)
          | (at_builtin; refine app_int rfl _ _ rfl (w.heap.size + 1) _ _ rfl (H2.out.own.alloc _) w2.heap.size q2 rfl (by simp) (by omega) (by simp; omega) ?_))
      intro v' w3 hown' hbel'
      have H3 := hid (H2.out.app hown' (hbel' w2 ((Below.refl _ _).alloc hsz _)) hq2)
      have hkz : (kk : Int) - 1 = ((kk - 1 : Nat) : Int) := by omega
      clear hown' hbel' H2 HX
      go_wp2
      go_roundw
      case rel => exact ⟨kk - 1, l ++ [q2], p' + 3, by omega, by first | rfl | exact vint hkz, by simp; omega, by omega, H3⟩
      case measure => simp [intOf] <;> omega
end Go.Proofs.YtlhcjbgcgbeocaaDoor
