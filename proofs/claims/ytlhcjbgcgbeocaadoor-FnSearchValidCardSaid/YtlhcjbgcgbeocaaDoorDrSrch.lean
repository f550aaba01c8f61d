/- A drawn search: it reads as some search, with small lists; the reader has moved on. No condition but few picks. -/
import Derived.Test.YtlhcjbgcgbeocaaDoorDrS
import Derived.Deep.RegionLaw
import Derived.Deep.DeepCutAuto
namespace Go.Proofs.YtlhcjbgcgbeocaaDoor
open Go.RowKit

/-- It lies from block lo on: it reads so in every world that is as this one from there on. -/
def SrchHeld (lo : Nat) (w : World) (P Q : Option Addr) (D : SrchD) : Prop := ∀ w' : World, (∀ k, lo ≤ k → k < w.heap.size → w'.heap[k]? = w.heap[k]?) → SrchAt w' P Q D
theorem SrchHeld.at_ {lo : Nat} {w : World} {P Q : Option Addr} {D : SrchD} (h : SrchHeld lo w P Q D) : SrchAt w P Q D := h w (fun _ _ _ => rfl)
theorem SrchHeld.step {lo : Nat} {w w' : World} {P Q : Option Addr} {D : SrchD} (h : SrchHeld lo w P Q D) (hs : w.heap.size ≤ w'.heap.size) (hk : ∀ k, lo ≤ k → k < w.heap.size → w'.heap[k]? = w.heap[k]?) : SrchHeld lo w' P Q D :=
  fun w'' hk' => h w'' (fun k h1 h2 => (hk' k h1 (by omega)).trans (hk k h1 h2))
theorem SrchHeld.kept {lo g hi : Nat} {w w' : World} {P Q : Option Addr} {D : SrchD} (h : SrchHeld lo w P Q D) (hk : Kept g hi w w') (hg : hi ≤ lo) : SrchHeld lo w' P Q D :=
  h.step hk.size (fun k h1 h2 => hk.block k h2 (.inr (by omega)))
theorem SrchHeld.alloc {lo : Nat} {w : World} {P Q : Option Addr} {D : SrchD} (h : SrchHeld lo w P Q D) (o : Obj) : SrchHeld lo (w.alloc o) P Q D := h.step (by simp) (fun k _ h2 => Below.heap_alloc _ _ _ h2)
theorem SrchHeld.set {lo : Nat} {w : World} {P Q : Option Addr} {D : SrchD} (h : SrchHeld lo w P Q D) {q : Addr} (hq : q.block < lo) (u : Value) : SrchHeld lo (w.setCell q u) P Q D := h.step (by simp [World.setCell]) (fun k h1 _ => Below.heap_setCell _ _ _ _ (by omega))
theorem SrchHeld.drew {lo : Nat} {w : World} {P Q : Option Addr} {D : SrchD} (h : SrchHeld lo w P Q D) : SrchHeld lo w.drew P Q D := h
theorem Own.high {w w' : World} {B : Nat} {e : TypeId} {size : Nat} {v : Value} {n : Nat} {xs : List Value} (h : Own w B e size v n xs) (hk : ∀ k, B ≤ k → k < w.heap.size → w'.heap[k]? = w.heap[k]?) : Own w' B e size v n xs := by
  refine ⟨h.1, ?_⟩
  rcases h.2 with hn | ⟨g, cap, cur, rfl, hb, hgg, rest⟩
  · exact .inl hn
  · exact .inr ⟨g, cap, cur, rfl, hb, (hk g hb (Array.getElem?_eq_some_iff.1 hgg).1).trans hgg, rest⟩
theorem own_cap {w : World} {B : Nat} {e : TypeId} {size n n' c : Nat} {A : Option Addr} {xs : List Value} (h : Own w B e size (.slice A n' c) n xs) : n ≤ c := by
  rcases h.2 with ⟨h1, h2⟩ | ⟨g, cap, cur, h1, _, _, h2, _⟩
  · omega
  · simp only [Value.slice.injEq] at h1
    omega
theorem own_triples' {B : Nat} {w : World} {A : Option Addr} {c : Nat} {l : List (Int × Int × Int)} (H : Own w B 31 3 (.slice A l.length c) l.length (triL l)) : Triples w A l.length (fun j => (l.getD j (0, 0, 0)).1) (fun j => (l.getD j (0, 0, 0)).2.1) (fun j => (l.getD j (0, 0, 0)).2.2) := by
  obtain ⟨A3, c3, e3, HT⟩ := own_triples H
  simp only [Value.slice.injEq, true_and] at e3
  obtain ⟨rfl, rfl⟩ := e3
  exact HT
theorem own_bools' {B : Nat} {w : World} {A : Option Addr} {c : Nat} {k : List Bool} (H : Own w B 4 1 (.slice A k.length c) k.length (booL k)) : Bools w A k.length (fun j => k.getD j false) := by
  obtain ⟨A3, c3, e3, HT⟩ := own_bools H
  simp only [Value.slice.injEq, true_and] at e3
  obtain ⟨rfl, rfl⟩ := e3
  exact HT

/-- It returned a search, and picked at most m times. -/
def RetSr (g p m : Nat) (w : World) (e : Ending) (w' : World) : Prop :=
  ∃ P Q D c d p', e = .returned (.agg #[.int .i64 (SrchD.s D), .slice P D.m c, .slice Q D.k d]) ∧ SrchHeld w.heap.size w' P Q D ∧ (D.m ≤ 20 ∧ D.k ≤ 20 ∧ D.m ≤ c) ∧ (-10 ≤ D.s ∧ D.s ≤ 10) ∧ Rdr w' g p' ∧ p' ≤ p + m ∧ Kept g (g + 1) w w'

set_option maxRecDepth 20000 in
set_option maxHeartbeats 8000000 in
theorem l20Search_any (g p : Nat) (n : Int) (w : World) (hr : Rdr w g p) (hp : p ≤ 100000) (hn0 : 0 < n) (hn : n ≤ 1000) :
    Calls Tryd.prog 46 #[.pointer (some ⟨g, 0, none⟩), .int .i64 n] w (RetSr g p 200 w) := by
  have hgl := hr.lt
  obtain ⟨i0, hi, hz0, hz1, hz2⟩ := info_parts info4
  obtain ⟨j0, hj, hy0, hy1, hy2⟩ := info_parts info31
  go_enter Tryd.func46, Tryd.ntmps46
  go_wp2_with fail
  refine (pick_any g p 7 _ (hr.below ((Below.refl _ _).alloc (Nat.le_refl _) (.cells #[.int .i64 0, .slice none 0 0, .slice none 0 0] 26))) (by omega) (by omega)).mono ?_
  rintro e w1 ⟨q, rfl, hq0, hq, hr1, hk1⟩
  have hsz : w.heap.size < w1.heap.size := by have := hk1.size; simp at this; omega
  have HX : Hid (DrX w (w1.heap.size + 1) g w1.heap.size w.heap.size (1 + q) (p + 1) 0 0 (w1.alloc (.cells #[.int .i64 (1 + q), .slice none 0 0, .slice none 0 0] 26))) :=
    ⟨p + 1, .slice none 0 0, .slice none 0 0, [], [], by omega, by simp, by simp,
      ⟨hr1.below ((Below.refl _ _).alloc (Nat.le_refl _) _), Blk.new _ _ _, World.ownsRow_nil _ _ _ _, World.ownsRow_nil _ _ _ _, Apart.nil _, by omega, by omega, by simp⟩,
      ((Kept.refl g (g + 1) w).alloc (.cells #[.int .i64 0, .slice none 0 0, .slice none 0 0] 26)).trans hk1 |>.alloc _,
      Blk.alloc (show Blk w1 w.heap.size 26 #[.int .i64 0, .slice none 0 0, .slice none 0 0] from (hk1.block w.heap.size (by simp) (.inr (by omega))).trans (Blk.new w 26 #[.int .i64 0, .slice none 0 0, .slice none 0 0])) _, by omega, by omega, by omega⟩
  have hq2 : q < 7 := by omega
  clear hr hr1 hk1 hq
  go_wp2
  generalize w1.alloc (.cells #[.int .i64 (1 + q), .slice none 0 0, .slice none 0 0] 26) = w2 at HX ⊢
  generalize w1.heap.size = h at HX hsz ⊢
  generalize hB : h + 1 = B at HX
  generalize hsp : 1 + q = sp at HX ⊢
  have hs1 : 1 ≤ sp := by omega
  have hs7 : sp ≤ 7 := by omega
  clear hq0 hq2 hsp
  go_loopw [6] (fun i wr => ∃ kk : Nat, kk ≤ 7 ∧ i = .int .i64 kk ∧ Hid (DrX w B g h w.heap.size sp (p + 1 + 4 * kk) (kk - 1) kk wr)) (fun i _ => 20 - (intOf i).toNat)
  case atStart => exact ⟨0, by omega, rfl, HX.out.mono (by omega) (by omega) (by omega)⟩
  case round =>
    clear HX
    obtain ⟨kk, hkk, rfl, HX⟩ := hrel
    have HX0 := HX
    obtain ⟨p1, u, v, l, k, hp1, hl, hk, HD, HK, HB0, ho⟩ := HX.out
    have HD := hid HD
    have HK := hid HK
    have HB0 := hid HB0
    have y0 := HD.out.blk.cell (i := 0) rfl
    have y2 := HD.out.blk.cell (i := 2) rfl
    have HRD := hid HD.out.drew.rdr
    by_cases hlt : (kk : Int) < sp
    · skip
      go_wp2
      go_cut [] (fun wx => DrX w B g h w.heap.size sp (p + 1 + 4 * kk + 1) (kk - 1) (kk + 1) wx)
      case first =>
        go_region_law (first
            | (go_simp; go_at_call 62; refine (pick_any g p1 4 _ HRD.out (by omega) (by omega)).mono ?_; rintro e w5 ⟨q5, rfl, hq0, hq, hr5, hk5⟩; have HD5 := hid (HD.out.drew.pick hr5 hk5); have HK5 := hid (HK.out.drew.trans hk5); have c2 := HD5.out.blk.cell (i := 2) rfl; have d2 : ∀ o, (w5.alloc o).cell? ⟨h, 2, none⟩ = some v := (fun o => (HD5.out.blk.alloc o).cell (i := 2) rfl); have HB5 := hid (show Blk w5 w.heap.size 26 #[.int .i64 0, .slice none 0 0, .slice none 0 0] from (hk5.block w.heap.size HB0.out.lt (.inr (by omega))).trans HB0.out); clear hr5 hk5)
            | (refine step_append_own rfl (.tmp 20) (.tmp 24) 24 rfl B 4 i0 (.bool false) 1 1 Tryd.underlying24 hi hz0 hz1 hz2 rfl (by decide) v k.length (booL k) rfl (World.ownsRow.alloc HD5.out.dep _) ⟨w5.heap.size, 0, none⟩ 1 1 [_] rfl rfl (cell_one_new _ _ _) (fun u hu => by simp at hu; subst hu; rfl) (by unfold maxLen; omega) (by omega) (by have := HD5.out.ord; simp; omega) ?_; intro v' w6 hown' hg' hat'; have HM := DrS.mid (HD5.out.alloc _) hg' (fun a ha => (World.ownsRow.lt HD5.out.dep a ha).1); have n2 := HM.2.1.cell (i := 2) rfl; have z2 := HM.2.1.frozen 2; have HF := hid (DrX.setB HD5.out HK5.out HB5.out ho hown' hg' hat'); obtain ⟨A', c', rfl⟩ := own_form hown'; clear hown' hg' hat' HM))
        all_goals (try go_wp2_with fail)
        all_goals go_meet
        all_goals exact HF.out.mono (by omega) (by omega) (by omega)
      case rest =>
        clear HX0 HX HD HK HB0 y0 y2 HRD hp1 hl hk ho
        have HX := hid hcut
        clear hcut
        by_cases hk0 : kk = 0
        · have hk0z : decide (0 < kk) = false := decide_eq_false (by omega)
          subst hk0
          go_wp2
          go_roundw
          case rel => exact ⟨1, by omega, by go_num, HX.out.mono (by omega) (by omega) (by omega)⟩
          case measure => simp [intOf] <;> omega
        · have hk0z : decide (0 < kk) = true := decide_eq_true (by omega)
          obtain ⟨p1, u, v, l, k, hp1, hl, hk, HD, HK, HB0, ho⟩ := HX.out
          have HD := hid HD
          have HK := hid HK
          have HB0 := hid HB0
          go_wp2_with fail
          refine (pick_any g p1 9 _ HD.out.rdr (by omega) (by omega)).mono ?_
          rintro e w3 ⟨q3, rfl, hq30, hq3, hr3, hk3⟩
          have H3 := hid (DrX.pick' HD.out HK.out HB0.out ho hr3 hk3)
          clear HX HD HK HB0 hr3 hk3
          by_cases hq3z : 0 < q3
          · go_wp2
            have y1 := H3.out.1.blk.cell (i := 1) rfl
            have HRD := hid H3.out.1.drew.rdr
            go_region_law (first
                | (go_simp; go_at_call 62; (with_reducible refine (pick_any g (p1 + 1) (kk : Int) _ HRD.out (by omega) (by omega)).mono ?_); rintro e w5 ⟨q5, rfl, hq0, hq, hr5, hk5⟩; have H5 := hid (DrX.pick' H3.out.1.drew H3.out.2.1.drew H3.out.2.2.drew ho hr5 hk5); have c1 := H5.out.1.blk.cell (i := 1) rfl; have HR5 := hid H5.out.1.rdr; clear hr5 hk5)
                | (go_simp; go_at_call 62; (with_reducible refine (pick_any g (p1 + 1 + 1) 12 _ HR5.out (by omega) (by omega)).mono ?_); rintro e w7 ⟨q7, rfl, hq70, hq7, hr7, hk7⟩; have H7 := hid (DrX.pick' H5.out.1 H5.out.2.1 H5.out.2.2 ho hr7 hk7); have e1 := H7.out.1.blk.cell (i := 1) rfl; have e2 : ∀ o, (w7.alloc o).cell? ⟨h, 1, none⟩ = some u := (fun o => (H7.out.1.blk.alloc o).cell (i := 1) rfl); clear hr7 hk7)
                | (refine step_append_own rfl (.tmp 35) (.tmp 44) 23 rfl B 31 j0 (.agg #[.int .i64 0, .int .i64 0, .int .i64 0]) 3 24 Tryd.underlying23 hj hy0 hy1 hy2 rfl (by decide) u l.length (triL l) rfl (World.ownsRow.alloc H7.out.1.pas _) ⟨w7.heap.size, 0, none⟩ 1 1 [_, _, _] rfl rfl (cells3_new _ _ _ _ _) (fun u hu => by simp at hu; rcases hu with rfl | rfl | rfl <;> rfl) (by unfold maxLen; omega) (by omega) (by have := H7.out.1.ord; simp; omega) ?_; intro v' w6 hown' hg' hat'; have HM := DrS.mid (H7.out.1.alloc _) hg' (fun a ha => (World.ownsRow.lt H7.out.1.pas a ha).1); have n2 := HM.2.1.cell (i := 1) rfl; have z2 := HM.2.1.frozen 1; have HF := hid (DrX.setP (t := (_, _, _)) H7.out.1 H7.out.2.1 H7.out.2.2 ho hown' hg' hat'); obtain ⟨A', c', rfl⟩ := own_form hown'; clear hown' hg' hat' HM))
            all_goals
              go_wp2
              go_roundw
              case rel => exact ⟨kk + 1, by omega, by go_num, HF.out.mono (by omega) (by omega) (by omega)⟩
              case measure => simp [intOf] <;> omega
          · have HX := hid (DrX.mk' H3.out.1 H3.out.2.1 H3.out.2.2 ho)
            go_wp2
            go_roundw
            case rel => exact ⟨kk + 1, by omega, by go_num, HX.out.mono (by omega) (by omega) (by omega)⟩
            case measure => simp [intOf] <;> omega
    · have HX1 := HX0
      clear HX HX0 HD HK HB0 y0 y2 HRD hp1 hl hk ho
      obtain ⟨p1, u, v, l, k, hp1, hl, hk, HD, HK, HB0, ho⟩ := HX1.out
      have hRD := HD.rdr
      have y0 := HD.blk.cell (i := 0) rfl
      go_wp2_with fail
      refine (pick_any g p1 5 _ hRD (by omega) (by omega)).mono ?_
      rintro e w3 ⟨q3, rfl, hq30, hq3, hr3, hk3⟩
      have H3 := hid (DrX.pick' HD HK HB0 ho hr3 hk3)
      have HX := hid ((DrX.mk' H3.out.1 H3.out.2.1 H3.out.2.2 ho).mono (pm' := p + 60) (lm' := 6) (km' := 7) (by omega) (by omega) (by omega))
      obtain ⟨j3, rfl⟩ := Int.eq_ofNat_of_zero_le hq30
      have hj3 : j3 ≤ 4 := by omega
      clear HX1 HD HK HB0 hr3 hk3 H3 hRD y0 hp1 hl hk hq30 hq3
      go_wp2
      go_loopw [7] (fun i wr => ∃ jj : Nat, jj ≤ 4 ∧ i = .int .i64 jj ∧ Hid (DrX w B g h w.heap.size sp (p + 60 + 4 * (4 - jj)) (6 + (4 - jj)) 7 wr)) (fun i _ => (intOf i).toNat)
      case atStart => exact ⟨j3, hj3, rfl, HX.out.mono (by omega) (by omega) (by omega)⟩
      case round =>
        clear HX
        obtain ⟨jj, hjj, rfl, HX⟩ := hrel
        by_cases hj0 : jj = 0
        · have hj0z : decide (0 < jj) = false := decide_eq_false (by omega)
          clear hj0
          obtain ⟨p1, u, v, l, k, hp1, hl, hk, HD, HK, HB0, ho⟩ := HX.out
          have hRD := HD.rdr
          go_wp2_with fail
          refine (odd_any g p1 n _ hRD (by omega) (by omega) (by omega)).mono ?_
          rintro e w4 ⟨bo, rfl, hr4, hk4⟩
          have H4 := hid (DrX.pick' HD HK HB0 ho hr4 hk4)
          clear HX HD HK HB0 hr4 hk4 hRD
          go_upto_if 84 with fail
          go_cut [] (fun wx => ∃ sp', (-10 ≤ sp' ∧ sp' ≤ 10) ∧ DrX w B g h w.heap.size sp' (p + 100) 15 10 wx)
          case first =>
            cases bo with
            | false =>
              go_wp2
              go_meet
              exact ⟨sp, by omega, (DrX.mk' H4.out.1 H4.out.2.1 H4.out.2.2 ho).mono (by omega) (by omega) (by omega)⟩
            | true =>
              have hRD := hid H4.out.1.rdr
              go_wp2_with fail
              refine (pick_any g (p1 + 1) 4 _ hRD.out (by omega) (by omega)).mono ?_
              rintro e w5 ⟨qs, rfl, hqs0, hqs, hr5, hk5⟩
              have H5 := hid (DrX.pick' H4.out.1 H4.out.2.1 H4.out.2.2 ho hr5 hk5)
              clear H4 hr5 hk5 hRD
              obtain ⟨A1, c1, rfl⟩ := own_form H5.out.1.pas
              obtain ⟨A2, c2, rfl⟩ := own_form H5.out.1.dep
              have n0 := H5.out.1.blk.cell (i := 0) rfl
              have n1 := H5.out.1.blk.cell (i := 1) rfl
              have n2 := H5.out.1.blk.cell (i := 2) rfl
              have z0 := H5.out.1.blk.frozen 0
              have z1 := H5.out.1.blk.frozen 1
              have z2 := H5.out.1.blk.frozen 2
              by_cases hq0 : qs = 0
              · subst hq0
                go_wp2_with fail
                refine (pick_any g (p1 + 1 + 1) 2 _ ((H5.out.1.alloc _).rdr) (by omega) (by omega)).mono ?_
                rintro e w6 ⟨qt, rfl, hqt0, hqt, hr6, hk6⟩
                have H6 := hid (DrX.pick' (H5.out.1.alloc _) (H5.out.2.1.alloc _) (H5.out.2.2.alloc _) ho hr6 hk6)
                have NB := hid (blk_kept (Blk.new w5 3 #[.int .i64 0, .int .i64 8]) hk6 (by have := H5.out.1.ord; omega))
                have m0 := H6.out.1.blk.cell (i := 0) rfl
                have mz0 := H6.out.1.blk.frozen 0
                have c0 := NB.out.cell (i := 0) rfl
                have c1 := NB.out.cell (i := 1) rfl
                clear hr6 hk6 n0 n1 n2 z0 z1 z2
                by_cases hqt1 : qt = 0
                · subst hqt1
                  go_wp2
                  go_meet
                  exact ⟨0, by omega, (DrX.setS H6.out.1 H6.out.2.1 H6.out.2.2 ho 0).mono (by omega) (by omega) (by omega)⟩
                · obtain rfl : qt = 1 := by omega
                  go_wp2
                  go_meet
                  exact ⟨8, by omega, (DrX.setS H6.out.1 H6.out.2.1 H6.out.2.2 ho 8).mono (by omega) (by omega) (by omega)⟩
              · have hq0z : (qs == 0) = false := by simp [hq0]
                by_cases hq1 : qs = 1
                · subst hq1
                  go_wp2_with (at_builtin; refine wpList_append_own_at _ rfl _ _ 24 rfl B 4 i0 (.bool false) 1 1 Tryd.underlying24 hi hz0 hz1 hz2 rfl (by decide) _ k.length (booL k) rfl (World.ownsRow.alloc H5.out.1.dep _) ⟨w5.heap.size, 0, none⟩ 1 1 [_] rfl rfl (cell_one_new _ _ _) (fun u hu => by simp at hu; subst hu; rfl) (by unfold maxLen; omega) (by omega) (by have := H5.out.1.ord; simp; omega) ?_)
                  intro v' w6 hown' hg' _ hat'
                  have HM := DrS.mid (H5.out.1.alloc _) hg' (fun a ha => (World.ownsRow.lt H5.out.1.dep a ha).1)
                  have m2 := HM.2.1.cell (i := 2) rfl
                  have mz2 := HM.2.1.frozen 2
                  have HF := hid (DrX.setB H5.out.1 H5.out.2.1 H5.out.2.2 ho hown' hg' (by simpa using hat'))
                  obtain ⟨A', c', rfl⟩ := own_form hown'
                  clear hown' hg' hat' HM n0 n1 n2 z0 z1 z2
                  go_wp2
                  go_meet
                  exact ⟨sp, by omega, HF.out.mono (by omega) (by omega) (by omega)⟩
                · have hq1z : (qs == 1) = false := by simp [hq1]
                  by_cases hq2 : qs = 2
                  · subst hq2
                    go_wp2_with (at_builtin; refine wpList_append_own_at _ rfl _ _ 23 rfl B 31 j0 (.agg #[.int .i64 0, .int .i64 0, .int .i64 0]) 3 24 Tryd.underlying23 hj hy0 hy1 hy2 rfl (by decide) _ l.length (triL l) rfl (World.ownsRow.alloc H5.out.1.pas _) ⟨w5.heap.size, 0, none⟩ 1 1 [_, _, _] rfl rfl (cells3_new _ _ _ _ _) (fun u hu => by simp at hu; rcases hu with rfl | rfl | rfl <;> rfl) (by unfold maxLen; omega) (by omega) (by have := H5.out.1.ord; simp; omega) ?_)
                    intro v' w6 hown' hg' _ hat'
                    have HM := DrS.mid (H5.out.1.alloc _) hg' (fun a ha => (World.ownsRow.lt H5.out.1.pas a ha).1)
                    have m2 := HM.2.1.cell (i := 1) rfl
                    have mz2 := HM.2.1.frozen 1
                    have HF := hid (DrX.setP (t := (0, 0, 1)) H5.out.1 H5.out.2.1 H5.out.2.2 ho hown' hg' (by simpa using hat'))
                    obtain ⟨A', c', rfl⟩ := own_form hown'
                    clear hown' hg' hat' HM n0 n1 n2 z0 z1 z2
                    go_wp2
                    go_meet
                    exact ⟨sp, by omega, HF.out.mono (by omega) (by omega) (by omega)⟩
                  · have hq2z : (qs == 2) = false := by simp [hq2]
                    have hmk : ∀ W : World, (Instr.makeSlice 23 (.int .i64 11) (.int .i64 11)).run Tryd.prog W = .ok (.slice (some ⟨W.heap.size, 0, none⟩) 11 11) (W.alloc (.cells zerosP 31)) := fun W => run_make_wide (P := Tryd.prog) 23 31 _ 3 24 Tryd.underlying23 info31 .i64 .i64 11 (by omega) (by omega) W
                    have HF := hid (DrX.made H5.out.1 H5.out.2.1 H5.out.2.2 ho)
                    have m1 := (H5.out.1.blk.alloc (.cells zerosP 31)).cell (i := 1) rfl
                    have mz1 := (H5.out.1.blk.alloc (.cells zerosP 31)).frozen 1
                    go_wp2
                    go_meet
                    exact ⟨sp, by omega, HF.out.mono (by omega) (by omega) (by omega)⟩
          case rest =>
            clear H4 hp1 hl hk ho
            obtain ⟨sp', hsp', p2, u2, v2, l2, k2, hp2, hl2, hk2, HD, HK, HB0, ho⟩ := hcut
            obtain ⟨A1, c1, rfl⟩ := own_form HD.pas
            obtain ⟨A2, c2, rfl⟩ := own_form HD.dep
            have HD := hid HD
            have HK := hid HK
            have HB0 := hid HB0
            have y0 := HD.out.blk.cell (i := 0) rfl
            have y1 := HD.out.blk.cell (i := 1) rfl
            have y2 := HD.out.blk.cell (i := 2) rfl
            have n0 := HB0.out.cell (i := 0) rfl
            have n1 := HB0.out.cell (i := 1) rfl
            have n2 := HB0.out.cell (i := 2) rfl
            have z0 := HB0.out.frozen 0
            have z1 := HB0.out.frozen 1
            have z2 := HB0.out.frozen 2
            have HR := hid (((HB0.out.set_ 0 (.int .i64 sp')).set_ 1 (.slice A1 l2.length c1)).set_ 2 (.slice A2 k2.length c2))
            have r0 := HR.out.cell (i := 0) rfl
            have r1 := HR.out.cell (i := 1) rfl
            have r2 := HR.out.cell (i := 2) rfl
            have hb0 : w.heap.size < B := by have := HD.out.ord; omega
            have HP := hid (Own.set (Own.set (Own.set HD.out.pas (p := ⟨w.heap.size, 0, none⟩) hb0 (.int .i64 sp')) (p := ⟨w.heap.size, 1, none⟩) hb0 (.slice A1 l2.length c1)) (p := ⟨w.heap.size, 2, none⟩) hb0 (.slice A2 k2.length c2))
            have HQ := hid (Own.set (Own.set (Own.set HD.out.dep (p := ⟨w.heap.size, 0, none⟩) hb0 (.int .i64 sp')) (p := ⟨w.heap.size, 1, none⟩) hb0 (.slice A1 l2.length c1)) (p := ⟨w.heap.size, 2, none⟩) hb0 (.slice A2 k2.length c2))
            have HRD := hid (HD.out.rdr.low (w' := ((wc.setCell ⟨w.heap.size, 0, none⟩ (.int .i64 sp')).setCell ⟨w.heap.size, 1, none⟩ (.slice A1 l2.length c1)).setCell ⟨w.heap.size, 2, none⟩ (.slice A2 k2.length c2)) (fun j hj => ((Below.heap_setCell _ ⟨w.heap.size, 2, none⟩ _ _ (by show j ≠ w.heap.size; omega)).trans (Below.heap_setCell _ ⟨w.heap.size, 1, none⟩ _ _ (by show j ≠ w.heap.size; omega))).trans (Below.heap_setCell _ ⟨w.heap.size, 0, none⟩ _ _ (by show j ≠ w.heap.size; omega))))
            have HKK := hid (((HK.out.new (p := ⟨w.heap.size, 0, none⟩) (Nat.le_refl _) (.int .i64 sp')).new (p := ⟨w.heap.size, 1, none⟩) (Nat.le_refl _) (.slice A1 l2.length c1)).new (p := ⟨w.heap.size, 2, none⟩) (Nat.le_refl _) (.slice A2 k2.length c2))
            go_wp2
            have hgB : g + 1 ≤ B := by have := HD.out.ord; omega
            refine bodyPost_ret (v := .agg #[.int .i64 sp', .slice A1 l2.length c1, .slice A2 k2.length c2]) (by simp [results, Tryd.results46, go_sem, r0, r1, r2]) rfl ⟨A1, A2, ⟨sp', l2.length, (fun j => (l2.getD j (0, 0, 0)).1), (fun j => (l2.getD j (0, 0, 0)).2.1), (fun j => (l2.getD j (0, 0, 0)).2.2), k2.length, (fun j => k2.getD j false)⟩, c1, c2, p2, rfl, (fun w'' hk => ⟨own_triples' (Own.high HP.out (fun k h1 h2 => hk k (by omega) h2)), own_bools' (Own.high HQ.out (fun k h1 h2 => hk k (by omega) h2))⟩), ⟨by show l2.length ≤ 20; omega, by show k2.length ≤ 20; omega, own_cap HP.out⟩, hsp', HRD.out, by omega, HKK.out⟩
        · have hj0z : decide (0 < jj) = true := decide_eq_true (by omega)
          obtain ⟨p1, u, v, l, k, hp1, hl, hk, HD, HK, HB0, ho⟩ := HX.out
          obtain ⟨A, c, rfl⟩ := own_form HD.pas
          have HD := hid HD
          have HK := hid HK
          have HB0 := hid HB0
          have y0 := HD.out.blk.cell (i := 0) rfl
          have y1 := HD.out.blk.cell (i := 1) rfl
          have hl10 : (l.length : Int) < 10 := by omega
          have HRa := hid HD.out.drew.rdr
          have HRb : Hid (∀ o, Rdr (wr.alloc o).drew g p1) := fun o => (HD.out.alloc o).drew.rdr
          have yb0 : ∀ o, (wr.alloc o).cell? ⟨h, 0, none⟩ = some (.int .i64 sp) := fun o => (HD.out.blk.alloc o).cell (i := 0) rfl
          have hneR : h ≠ wr.heap.size := by have := HD.out.ord; omega
          have hneR' := hneR.symm
          go_wp2
          go_cut [8] (fun t8 wx => ∃ (b8 : Nat) (a b t : Int), t8 = .pointer (some ⟨b8, 0, none⟩) ∧ Blk wx b8 31 #[.int .i64 a, .int .i64 b, .int .i64 t] ∧ DrX w B g h w.heap.size sp (p + 60 + 4 * (4 - jj) + 3) (6 + (4 - jj)) 7 wx)
          case first =>
            go_region_held3 (fun W => W.cell? ⟨h, 0, none⟩ = some (.int .i64 sp)) (go_keep) (first
                | (go_at_call 62; (with_reducible refine (pick_any g (p1) sp _ (HRa.out) (by omega) (by omega)).mono ?_); rintro e w5 ⟨q5, rfl, _, _, hr5, hk5⟩; have H5 := hid (DrX.pick' HD.out.drew HK.out.drew HB0.out.drew ho hr5 hk5); have c0 := H5.out.1.blk.cell (i := 0) rfl; have HRw5 := hid H5.out.1.rdr; have HRw5o : Hid (∀ o, Rdr (w5.alloc o) g (p1 + 1)) := (fun o => (H5.out.1.alloc o).rdr); have hnew5 : h ≠ w5.heap.size := (by have := H5.out.1.ord; omega); have hnew5' : w5.heap.size ≠ h := hnew5.symm; skip; clear hr5 hk5)
                | (go_at_call 62; (with_reducible refine (pick_any g (p1) sp _ (HRb.out _) (by omega) (by omega)).mono ?_); rintro e w5 ⟨q5, rfl, _, _, hr5, hk5⟩; have H5 := hid (DrX.pick' (HD.out.alloc _).drew (HK.out.alloc _).drew (HB0.out.alloc _).drew ho hr5 hk5); have c0 := H5.out.1.blk.cell (i := 0) rfl; have HRw5 := hid H5.out.1.rdr; have HRw5o : Hid (∀ o, Rdr (w5.alloc o) g (p1 + 1)) := (fun o => (H5.out.1.alloc o).rdr); have hnew5 : h ≠ w5.heap.size := (by have := H5.out.1.ord; omega); have hnew5' : w5.heap.size ≠ h := hnew5.symm; have NB5 := hid (blk_kept (Blk.new wr 31 #[.int .i64 0, .int .i64 0, .int .i64 0]).drew hk5 (by have := HD.out.ord; omega)); clear hr5 hk5)
                | (go_at_call 62; (with_reducible refine (pick_any g (p1 + 1) sp _ (HRw5.out) (by omega) (by omega)).mono ?_); rintro e w7 ⟨q7, rfl, _, _, hr5, hk5⟩; have H7 := hid (DrX.pick' H5.out.1 H5.out.2.1 H5.out.2.2 ho hr5 hk5); have c0 := H7.out.1.blk.cell (i := 0) rfl; have HRw7 := hid H7.out.1.rdr; have HRw7o : Hid (∀ o, Rdr (w7.alloc o) g (p1 + 1 + 1)) := (fun o => (H7.out.1.alloc o).rdr); have hnew7 : h ≠ w7.heap.size := (by have := H7.out.1.ord; omega); have hnew7' : w7.heap.size ≠ h := hnew7.symm; try (have NB7 := hid (blk_kept NB5.out hk5 (by have := HD.out.ord; omega))); clear hr5 hk5)
                | (go_at_call 62; (with_reducible refine (pick_any g (p1 + 1) sp _ (HRw5o.out _) (by omega) (by omega)).mono ?_); rintro e w7 ⟨q7, rfl, _, _, hr5, hk5⟩; have H7 := hid (DrX.pick' (H5.out.1.alloc _) (H5.out.2.1.alloc _) (H5.out.2.2.alloc _) ho hr5 hk5); have c0 := H7.out.1.blk.cell (i := 0) rfl; have HRw7 := hid H7.out.1.rdr; have HRw7o : Hid (∀ o, Rdr (w7.alloc o) g (p1 + 1 + 1)) := (fun o => (H7.out.1.alloc o).rdr); have hnew7 : h ≠ w7.heap.size := (by have := H7.out.1.ord; omega); have hnew7' : w7.heap.size ≠ h := hnew7.symm; have NB7 := hid (blk_kept (Blk.new w5 31 #[.int .i64 0, .int .i64 0, .int .i64 0]) hk5 (by have := H5.out.1.ord; omega)); clear hr5 hk5)
                | (go_at_call 62; (with_reducible refine (pick_any g (p1 + 1 + 1) 12 _ (HRw7.out) (by omega) (by omega)).mono ?_); rintro e w9 ⟨q9, rfl, _, _, hr5, hk5⟩; have H9 := hid (DrX.pick' H7.out.1 H7.out.2.1 H7.out.2.2 ho hr5 hk5); have c0 := H9.out.1.blk.cell (i := 0) rfl; have HRw9 := hid H9.out.1.rdr; have HRw9o : Hid (∀ o, Rdr (w9.alloc o) g (p1 + 1 + 1 + 1)) := (fun o => (H9.out.1.alloc o).rdr); have hnew9 : h ≠ w9.heap.size := (by have := H9.out.1.ord; omega); have hnew9' : w9.heap.size ≠ h := hnew9.symm; try (have NB9 := hid (blk_kept NB7.out hk5 (by have := HD.out.ord; have := H5.out.1.ord; omega)); have n0 := NB9.out.cell (i := 0) rfl; have n1 := NB9.out.cell (i := 1) rfl; have n2 := NB9.out.cell (i := 2) rfl; have z0 := NB9.out.frozen 0; have z1 := NB9.out.frozen 1; have z2 := NB9.out.frozen 2); clear hr5 hk5)
                | (go_at_call 62; (with_reducible refine (pick_any g (p1 + 1 + 1) 12 _ (HRw7o.out _) (by omega) (by omega)).mono ?_); rintro e w9 ⟨q9, rfl, _, _, hr5, hk5⟩; have H9 := hid (DrX.pick' (H7.out.1.alloc _) (H7.out.2.1.alloc _) (H7.out.2.2.alloc _) ho hr5 hk5); have c0 := H9.out.1.blk.cell (i := 0) rfl; have HRw9 := hid H9.out.1.rdr; have HRw9o : Hid (∀ o, Rdr (w9.alloc o) g (p1 + 1 + 1 + 1)) := (fun o => (H9.out.1.alloc o).rdr); have hnew9 : h ≠ w9.heap.size := (by have := H9.out.1.ord; omega); have hnew9' : w9.heap.size ≠ h := hnew9.symm; have NB9 := hid (blk_kept (Blk.new w7 31 #[.int .i64 0, .int .i64 0, .int .i64 0]) hk5 (by have := H7.out.1.ord; omega)); have n0 := NB9.out.cell (i := 0) rfl; have n1 := NB9.out.cell (i := 1) rfl; have n2 := NB9.out.cell (i := 2) rfl; have z0 := NB9.out.frozen 0; have z1 := NB9.out.frozen 1; have z2 := NB9.out.frozen 2; clear hr5 hk5))
            all_goals (try go_wp2_with fail)
            all_goals go_meet
            · exact ⟨_, q5, q7, _, rfl, Blk.new _ _ _, (DrX.mk' (H9.out.1.alloc _) (H9.out.2.1.alloc _) (H9.out.2.2.alloc _) ho).mono (by omega) (by omega) (by omega)⟩
            · exact ⟨_, q5, q7, _, rfl, ((NB9.out.set_ 0 _).set_ 1 _).set_ 2 _, (DrX.far3 H9.out.1 H9.out.2.1 H9.out.2.2 ho (b := w7.heap.size) (by have := H7.out.1.ord; omega) (fun a ha => by have := (World.ownsRow.lt H7.out.1.pas a ha).2; omega) (fun a ha => by have := (World.ownsRow.lt H7.out.1.dep a ha).2; omega) _ _ _).mono (by omega) (by omega) (by omega)⟩
            · exact ⟨_, q5, q7, _, rfl, ((NB9.out.set_ 0 _).set_ 1 _).set_ 2 _, (DrX.far3 H9.out.1 H9.out.2.1 H9.out.2.2 ho (b := w5.heap.size) (by have := H5.out.1.ord; omega) (fun a ha => by have := (World.ownsRow.lt H5.out.1.pas a ha).2; omega) (fun a ha => by have := (World.ownsRow.lt H5.out.1.dep a ha).2; omega) _ _ _).mono (by omega) (by omega) (by omega)⟩
            · exact ⟨_, q5, q7, _, rfl, ((NB9.out.set_ 0 _).set_ 1 _).set_ 2 _, (DrX.far3 H9.out.1 H9.out.2.1 H9.out.2.2 ho (b := wr.heap.size) (by have := HD.out.ord; omega) (fun a ha => by have := (World.ownsRow.lt HD.out.pas a ha).2; omega) (fun a ha => by have := (World.ownsRow.lt HD.out.dep a ha).2; omega) _ _ _).mono (by omega) (by omega) (by omega)⟩
          case rest =>
            clear HD HK HB0 HRa HRb yb0 y0 y1 hp1 hl hk ho hl10 HX
            obtain ⟨b8, ta, tb, tt, rfl, HB8, HX⟩ := hcut
            have HX := hid HX
            have x0 := HB8.cell (i := 0) rfl
            have x1 := HB8.cell (i := 1) rfl
            have x2 := HB8.cell (i := 2) rfl
            clear HB8
            have hjz : (jj : Int) - 1 = ((jj - 1 : Nat) : Int) := by omega
            by_cases hab : ta = tb
            · have habz : (ta != tb) = false := by simp [hab]
              clear hab
              go_wp2
              go_roundw
              case rel => exact ⟨jj - 1, by omega, by first | rfl | exact vint hjz, HX.out.mono (by omega) (by omega) (by omega)⟩
              case measure => simp [intOf] <;> omega
            · have habz : (ta != tb) = true := by simp [hab]
              clear hab
              obtain ⟨p1, u, v, l, k, hp1, hl, hk, HD, HK, HB0, ho⟩ := HX.out
              obtain ⟨A2, c2, rfl⟩ := own_form HD.pas
              have HD := hid HD
              have HK := hid HK
              have HB0 := hid HB0
              have y1 := HD.out.blk.cell (i := 1) rfl
              go_wp2_with (at_builtin; refine wpList_append_own_at _ rfl _ _ 23 rfl B 31 j0 (.agg #[.int .i64 0, .int .i64 0, .int .i64 0]) 3 24 Tryd.underlying23 hj hy0 hy1 hy2 rfl (by decide) _ l.length (triL l) rfl (World.ownsRow.alloc HD.out.pas _) ⟨wc.heap.size, 0, none⟩ 1 1 [_, _, _] rfl rfl (cells3_new _ _ _ _ _) (fun u hu => by simp at hu; rcases hu with rfl | rfl | rfl <;> rfl) (by unfold maxLen; omega) (by omega) (by have := HD.out.ord; simp; omega) ?_)
              intro v' w6 hown' hg' _ hat'
              have HM := DrS.mid (HD.out.alloc _) hg' (fun a ha => (World.ownsRow.lt HD.out.pas a ha).1)
              have n2 := HM.2.1.cell (i := 1) rfl
              have z2 := HM.2.1.frozen 1
              have HF := hid (DrX.setP (t := (ta, tb, tt)) HD.out HK.out HB0.out ho hown' hg' (by simpa using hat'))
              obtain ⟨A', c', rfl⟩ := own_form hown'
              clear hown' hg' hat' HM HD HK HB0 HX y1
              go_wp2
              go_roundw
              case rel => exact ⟨jj - 1, by omega, by first | rfl | exact vint hjz, HF.out.mono (by omega) (by omega) (by omega)⟩
              case measure => simp [intOf] <;> omega
end Go.Proofs.YtlhcjbgcgbeocaaDoor
