/- The reference's RescueStates: the walk. Lists are at most 2^20 long. -/
import Derived.Test.YtlhcjbgcgbeocaaDoorState3
import Derived.Test.YtlhcjbgcgbeocaaDoorGrid
import Derived.Test.YtlhcjbgcgbeocaaDoorFnR
import Derived.Test.YtlhcjbgcgbeocaaDoorResc6
import Derived.Test.YtlhcjbgcgbeocaaDoorAir
import Derived.Deep.LoopGhost
import Derived.BigRegion
import Derived.Deep.DeepCutAuto
namespace Go.Proofs.YtlhcjbgcgbeocaaDoor
open Go.RowKit

/-- The least air so far. -/
theorem LeastA.start (best : Nat → Nat → Int) (v : Nat) : LeastA best v 0 (-1) := .inl ⟨rfl, fun a h => absurd h (by omega)⟩
theorem LeastA.keep {best : Nat → Nat → Int} {v n : Nat} {r : Int} (h : LeastA best v n r) (hno : best v n < 0 ∨ (0 ≤ r ∧ r ≤ best v n)) : LeastA best v (n + 1) r := by
  rcases h with ⟨h1, h2⟩ | ⟨h1, ⟨a, ha, e⟩, h3⟩
  · exact .inl ⟨h1, fun a ha => by
      by_cases e : a = n
      · subst e; omega
      · exact h2 a (by omega)⟩
  · exact .inr ⟨h1, ⟨a, by omega, e⟩, fun a' ha' h0 => by
      by_cases e : a' = n
      · subst e; omega
      · exact h3 a' (by omega) h0⟩
theorem LeastA.take {best : Nat → Nat → Int} {v n : Nat} {r : Int} (h : LeastA best v n r) (h0 : 0 ≤ best v n) (hy : r < 0 ∨ best v n < r) : LeastA best v (n + 1) (best v n) := by
  refine .inr ⟨h0, ⟨n, by omega, rfl⟩, fun a ha h1 => ?_⟩
  by_cases e : a = n
  · subst e; omega
  · rcases h with ⟨h2, h3⟩ | ⟨h2, _, h3⟩
    · have := h3 a (by omega); omega
    · have := h3 a (by omega) h1; omega
theorem LeastA.lo {best : Nat → Nat → Int} {v n : Nat} {r : Int} (h : LeastA best v n r) : -1 ≤ r := by
  rcases h with ⟨h1, _⟩ | ⟨h1, _⟩ <;> omega
theorem RowsA.congr {w : World} {B k m : Nat} {v : Value} {r c : Nat → Nat} {T U : Nat → Nat → Int} (h : RowsA w B v k m r c T) (e : ∀ j i, j < k → T j i = U j i) : RowsA w B v k m r c U :=
  ⟨h.own, fun j hj => (h.inner j hj).congr fun i _ => e j i hj, h.far, h.cap, h.inj⟩

/-- What is kept while the rounds go on; cb: something has changed in this round. -/
structure RdI (w1 : World) (D : SrchD) (b f gk : Nat) (g m : Nat) (r c : Nat → Nat) (best : Nat → Nat → Int) (cb : Bool) (wr : World) : Prop where
  tab : TabA wr w1.heap.size g D.k m r c best
  sb : SB D b f best
  po1 : po D b best + 1 ≤ gk
  po2 : cb = true → po D b best + 2 ≤ gk
  bel : Below w1.heap.size w1 wr
theorem RdI.below {w1 wr w' : World} {D : SrchD} {b f gk g m : Nat} {r c : Nat → Nat} {best : Nat → Nat → Int} {cb : Bool} (h : RdI w1 D b f gk g m r c best cb wr) (hb : Below wr.heap.size wr w') : RdI w1 D b f gk g m r c best cb w' :=
  ⟨h.tab.below hb, h.sb, h.po1, h.po2, h.bel.trans (hb.mono h.bel.size)⟩
theorem RdI.set {w1 wr : World} {D : SrchD} {b f gk g m : Nat} {r c : Nat → Nat} {best : Nat → Nat → Int} {cb : Bool} (hok : SrchOk D) (h : RdI w1 D b f gk g m r c best cb wr) {x y a t l : Nat} (he : Edge D x y t) (ht : t ≤ a) (ha : a ≤ b) (hy : y < D.k) (h0 : 0 ≤ best x a) (hl : leftA D b y a t = l)
    (hk : best y l < 0 ∨ best x a + t < best y l) : RdI w1 D b f gk g m r c (upd best y l (best x a + t)) true (wr.setCell ⟨r y, l, none⟩ (.int .i64 (best x a + t))) := by
  subst hl
  obtain ⟨s1, s2⟩ := h.sb.set hok he ht ha h0 hk
  exact ⟨h.tab.set hy _ _, s1, by have := h.po1; omega, fun _ => by have := h.po1; omega, h.bel.setCell (h.tab.far y hy).1 _⟩

set_option maxRecDepth 20000 in
set_option maxHeartbeats 8000000 in
theorem States_specM (P Q : Option Addr) (D : SrchD) (c0 d0 b f t : Nat) (w : World) (hx : SrchAt w P Q D) (hs : SrchSmall D) (hok : SrchOk D) (h1 : 1 ≤ b) (h60 : b ≤ 60) (hf : f < D.k) (ht : t < D.k) :
    Calls Tryd.prog 45 #[.agg #[.int .i64 D.s, .slice P D.m c0, .slice Q D.k d0], .int .i64 b, .int .i64 f, .int .i64 t] w (RetI (fun r => SDist (Edge D) D.dep b f t r) w) := by
  have hsk := hok.2.2.1
  have hk7 : D.k ≤ 7 := by have := hok.1.2; omega
  have hm10 := hok.2.1
  have hrt : rtF D b f f = 0 := rtF_same ⟨hok, ⟨by omega, by omega⟩, ⟨by omega, by omega⟩, by omega, by omega⟩
  have HRT : Hid (∀ w', SrchAt w' P Q D → Calls Tryd.prog 29 #[.agg #[.int .i64 D.k, .slice P D.m c0, .slice Q D.k d0], .int .i64 b, .int .i64 f, .int .i64 f] w' (RetV (.int .i64 0) w')) := hid (fun w' hx' => by
    have := RescueTime_specV P Q D c0 d0 b f f w' hx' hs
    rw [hrt, ← hsk] at this
    exact this)
  have HSK := hid hsk
  rw [← hsk]
  have HOK := hid hok
  have HX := hid hx
  have hB := hid (Blk.new w 26 #[.int .i64 D.k, .slice P D.m c0, .slice Q D.k d0])
  have hw1 := hid (below_alloc1 w (.cells #[.int .i64 D.k, .slice P D.m c0, .slice Q D.k d0] 26))
  have htz : (t : Int) ≤ (D.k : Int) - 1 := by omega
  obtain ⟨m, hm⟩ : ∃ m, m = b + 1 := ⟨_, rfl⟩
  have HM := hid hm
  have hbm : b < m := by omega
  have hbmz : (b : Int) < (m : Int) := by omega
  have hm61 : m ≤ 61 := by omega
  obtain ⟨j0, hj, hy0, hy1, hy2⟩ := info_parts info36
  clear hsk hok hx hrt hm
  go_enter Tryd.func45, Tryd.ntmps45
  go_wp2_with fail
  refine (HRT.out _ (HX.out.below hw1.out)).mono ?_
  rintro e w1 ⟨rfl, hb1⟩
  have hB1 := hid (hB.out.below hb1)
  have y0 := hB1.out.cell (i := 0) rfl
  have hw2 := hid (Below.then_ hw1.out hb1)
  have hlt1 := hB1.out.lt
  clear hB hw1 hb1
  go_wp2_with (go_at_call 49; (with_reducible refine (l1In_y (t : Int) _ _ _ (by omega) htz).mono ?_); rintro e w' ⟨rfl, rfl⟩)
  have HR0 := hid (RowsA.lit0 (B := w1.heap.size) w1 (Nat.le_refl _) m (fun _ => 0) (fun _ => 0) (fun _ _ => -1))
  have HB0 := hid (below_alloc1 w1 (.cells #[] 36))
  go_loopw [9, 10] (fun v i wr => ∃ (k : Nat) (r c : Nat → Nat), k ≤ D.k ∧ i = .int .i64 k ∧ Hid (RowsA wr w1.heap.size v k m r c (fun _ _ => -1)) ∧ Hid (Below w1.heap.size w1 wr)) (fun _ i _ => D.k - (intOf i).toNat)
  case atStart => exact ⟨0, _, _, by omega, rfl, HR0, HB0⟩
  case round =>
    clear HR0 HB0 y0
    obtain ⟨k, r, c, hk, rfl, HR, HB⟩ := hrel
    obtain ⟨A9, c9, hv9⟩ := HR.out.form
    subst hv9
    have hbs := hid (hB1.out.below HB.out)
    have y0 := hbs.out.cell (i := 0) rfl
    by_cases hlt : k < D.k
    · have hltz : (k : Int) < (D.k : Int) := by omega
      have hszo := HB.out.size
      generalize wr = wo at *
      have HO0 : Hid (OwnL (wo.alloc (.cells #[] 3)) wo.heap.size (.slice (some ⟨wo.heap.size, 0, none⟩) 0 0) (List.replicate 0 (-1))) := OwnL.lit0 wo (Nat.le_refl _) #[] rfl
      have HBo := hid (below_alloc1 wo (.cells #[] 3))
      go_wp2
      go_loopw [11, 12] (fun v i wr => ∃ a : Nat, a ≤ m ∧ i = .int .i64 a ∧ Hid (OwnL wr wo.heap.size v (List.replicate a (-1))) ∧ Hid (Below wo.heap.size wo wr)) (fun _ i _ => m - (intOf i).toNat)
      case atStart => exact ⟨0, by omega, rfl, HO0, HBo⟩
      case round =>
        clear HO0 HBo y0
        obtain ⟨a, ha, rfl, HO, HBi⟩ := hrel
        by_cases hla : a < m
        · have hlaz : (a : Int) ≤ (b : Int) := by have := HM.out; omega
          have hsz := HBi.out.size
          go_wp2_with (at_builtin; refine app_int rfl _ _ rfl wo.heap.size _ _ rfl (HO.out.alloc _) wr.heap.size (-1) rfl (by simp) (by simp; omega) (by simp; omega) ?_)
          intro v' w' hown' hb'
          have HB2 := hid (hb' _ (HBi.out.alloc hsz _))
          clear hb'
          have HO2 : Hid (OwnL w' wo.heap.size v' (List.replicate (a + 1) (-1))) := by rw [List.replicate_succ']; exact hown'
          clear hown' HO HBi
          go_wp2
          go_roundw
          case rel => exact ⟨a + 1, by omega, by go_num, HO2, HB2⟩
          case measure => simp [intOf] <;> omega
        · have hame : a = m := by omega
          have hnle : ¬ (a : Int) ≤ (b : Int) := by omega
          subst hame
          obtain ⟨q, cq, hv, hrow, hcq, hBq⟩ := HO.out.row (by simp; omega)
          subst hv
          rw [List.length_replicate] at hrow hcq ⊢
          have HRQ := hid (hrow.congr (y := fun _ => -1) (fun j hj => by simp [List.getD, hj]))
          have HRw := hid (HR.out.below HBi.out)
          have hszr := HBi.out.size
          have HBw := hid (HB.out.trans (HBi.out.mono hszo))
          have HVQ : Hid (∀ a, (Value.slice A9 k c9).ownBlock = some a → a < wo.heap.size) := hid (fun a ha => (World.ownsRow.lt HR.out.own a ha).2)
          have HRQ2 : Hid (∀ j, j < k → r j < wo.heap.size) := hid (fun j hj => HR.out.lt hj)
          clear hrow HR HB HO HBi
          go_wp2_with (at_builtin; refine wpList_append_own_at _ rfl _ _ 63 rfl w1.heap.size 36 j0 (.slice none 0 0) 1 24 Tryd.underlying63 hj hy0 hy1 hy2 rfl (by decide) _ k _ rfl (World.ownsRow.alloc HRw.out.own _) ⟨wr.heap.size, 0, none⟩ 1 1 [_] rfl rfl (cell_one_new _ _ _) (fun u hu => by simp at hu; subst hu; rfl) (by unfold maxLen; omega) (by omega) (by simp; omega) ?_)
          intro v' w' hown' hg' _ hat'
          have HR2 := hid ((HRw.out.push (y := fun _ => -1) HRQ.out (by omega) hcq (fun e => by have := HVQ.out _ e; omega) (fun j hj e => by have := HRQ2.out j hj; omega) hown' hg' (by simpa using hat')).congr (U := fun _ _ => -1) (fun j i _ => by split <;> rfl))
          have HB2 := hid ((HBw.out.alloc HBw.out.size _).grown hg' (by simp; omega) (fun a ha => (World.ownsRow.lt HRw.out.own a ha).1))
          clear hown' hg' hat' HRw HBw HRQ HVQ HRQ2
          go_wp2
          go_roundw
          case rel => exact ⟨k + 1, _, _, by omega, by go_num, HR2, HB2⟩
          case measure => simp [intOf] <;> omega
    · have : k = D.k := by omega
      subst this
      obtain ⟨g, cap, hv, hgB, hT⟩ := HR.out.tab (by omega)
      simp only [Value.slice.injEq, true_and] at hv
      obtain ⟨rfl, rfl⟩ := hv
      have t1 := hT.row hf
      have t2 := hT.cell hf hbm
      have t3 := hT.froz hf b
      have hfz : (f : Int) < (D.k : Int) := by omega
      have HS0 := hid (SB.start (D := D) (b := b) hf)
      have HT0 : Hid (TabA (wr.setCell ⟨r f, b, none⟩ (.int .i64 0)) w1.heap.size g D.k m r c (upd (fun _ _ => -1) f b 0)) := hid (hT.set hf b 0)
      have HB2 := hid (HB.out.setCell (p := ⟨r f, b, none⟩) (hT.far f hf).1 (.int .i64 0))
      clear hT HR HB
      go_wp2
      clear t1 t2 t3 y0
      go_loopg [13] (po D b (upd (fun _ _ => -1) f b 0) + 1) (fun l ch wr => ∃ (cb : Bool) (best : Nat → Nat → Int), ch = .bool cb ∧ Hid (TabA wr w1.heap.size g D.k m r c best) ∧ Hid (SB D b f best) ∧ Hid (cb = true → po D b best + 1 ≤ l) ∧ Hid (cb = false → ∀ j, j < D.m → NoHelpP D b best j) ∧ Hid (Below w1.heap.size w1 wr))
      case atStart => exact ⟨true, _, rfl, HT0, HS0, hid (fun _ => Nat.le_refl _), hid (fun e => by cases e), HB2⟩
      case round =>
        clear HT0 HS0 HB2
        obtain ⟨cb, best, rfl, HT, HS, HP, HN, HB⟩ := hrel
        cases cb with
        | false =>
          have HN2 := hid (HN.out rfl)
          clear HN HP
          have ttz : (t : Int) < (D.k : Int) := by omega
          go_wp2
          go_loop [21, 22] (fun tv i => ∃ (a : Nat) (rr : Int), a ≤ m ∧ i = .int .i64 a ∧ tv = .int .i64 rr ∧ Hid (LeastA best t a rr)) (fun _ i => m - (intOf i).toNat)
          case atStart => exact ⟨0, -1, by omega, rfl, rfl, LeastA.start best t⟩
          case round =>
            obtain ⟨a, rr, ha, rfl, rfl, HL⟩ := hrel
            by_cases hla : a < m
            · have hlaz : (a : Int) ≤ (b : Int) := by have := HM.out; omega
              have hlmz : (a : Int) < (m : Int) := by omega
              have t1 := HT.out.row ht
              have t2 := HT.out.cell ht hla
              by_cases h0 : 0 ≤ best t a
              · have e0 : decide (0 ≤ best t a) = true := decide_eq_true h0
                by_cases h1 : rr < 0
                · have e1 : decide (rr < 0) = true := decide_eq_true h1
                  have HL2 := hid (HL.out.take h0 (.inl h1))
                  go_wp2
                  go_round
                  case rel => exact ⟨a + 1, _, by omega, by go_num, rfl, HL2⟩
                  case measure => simp [intOf] <;> omega
                · have e1 : decide (rr < 0) = false := decide_eq_false h1
                  by_cases h2 : best t a < rr
                  · have e2 : decide (best t a < rr) = true := decide_eq_true h2
                    have HL2 := hid (HL.out.take h0 (.inr h2))
                    go_wp2
                    go_round
                    case rel => exact ⟨a + 1, _, by omega, by go_num, rfl, HL2⟩
                    case measure => simp [intOf] <;> omega
                  · have e2 : decide (best t a < rr) = false := decide_eq_false h2
                    have HL2 := hid (HL.out.keep (.inr ⟨by omega, by omega⟩))
                    go_wp2
                    go_round
                    case rel => exact ⟨a + 1, _, by omega, by go_num, rfl, HL2⟩
                    case measure => simp [intOf] <;> omega
              · have e0 : decide (0 ≤ best t a) = false := decide_eq_false h0
                have HL2 := hid (HL.out.keep (.inl (by omega)))
                go_wp2
                go_round
                case rel => exact ⟨a + 1, _, by omega, by go_num, rfl, HL2⟩
                case measure => simp [intOf] <;> omega
            · have hame : a = m := by omega
              have hnle : ¬ (a : Int) ≤ (b : Int) := by omega
              have HL2 : Hid (LeastA best t (b + 1) rr) := by have h := HL.out; rw [hame, HM.out] at h; exact h
              clear hame
              go_wp2
              go_ret
              exact ⟨_, rfl, HL2.out.dist HOK.out HS.out HN2.out ht, Below.then_ hw2.out HB.out⟩
        | true =>
          have HI0 : Hid (RdI w1 D b f gk g m r c best false wr) := hid ⟨HT.out, HS.out, HP.out rfl, fun e => (by cases e), HB.out⟩
          clear HT HS HP HN HB
          go_wp2
          go_loopw [13, 14] (fun ch i wr => ∃ (k : Nat) (cb : Bool) (best : Nat → Nat → Int), k ≤ D.m ∧ i = .int .i64 k ∧ ch = .bool cb ∧ Hid (RdI w1 D b f gk g m r c best cb wr) ∧ Hid (cb = false → ∀ j, j < k → NoHelpP D b best j)) (fun _ i _ => D.m - (intOf i).toNat)
          case atStart => exact ⟨0, false, best, by omega, rfl, rfl, HI0, hid (fun _ j h => absurd h (by omega))⟩
          case round =>
            clear HI0
            obtain ⟨k, cb, best, hk, rfl, rfl, HI, HN⟩ := hrel
            have hbs := hid (hB1.out.below HI.out.bel)
            have y1 := hbs.out.cell (i := 1) rfl
            by_cases hlt : k < D.m
            · have hltz : (k : Int) < (D.m : Int) := by omega
              obtain ⟨bp, op, hP, hpc⟩ := (HX.out.below (Below.then_ hw2.out HI.out.bel)).pas (by omega)
              obtain ⟨p1, p2, p3⟩ := hpc k hlt
              rw [hP] at y1
              obtain ⟨⟨a1, a2⟩, ⟨b1, b2⟩, _, u1, u2⟩ := HOK.out.2.2.2 k hlt
              obtain ⟨X, hXx⟩ := Int.eq_ofNat_of_zero_le a1
              obtain ⟨Y, hYy⟩ := Int.eq_ofNat_of_zero_le b1
              obtain ⟨T, hTt⟩ := Int.eq_ofNat_of_zero_le (show 0 ≤ D.t k by omega)
              have hXk : X < D.k := by have := HSK.out; omega
              have hYk : Y < D.k := by have := HSK.out; omega
              have hXkz : (X : Int) < (D.k : Int) := by omega
              have hYkz : (Y : Int) < (D.k : Int) := by omega
              have hT20 : T ≤ 20 := by omega
              have HEX : Hid (Edge D X Y (T : Int)) := hid ⟨k, hlt, hTt, .inl ⟨hXx, hYy⟩⟩
              have HEY : Hid (Edge D Y X (T : Int)) := hid ⟨k, hlt, hTt, .inr ⟨hXx, hYy⟩⟩
              have HXN : Hid ((D.a k).toNat = X ∧ (D.b k).toNat = Y ∧ (D.t k).toNat = T) := hid ⟨by omega, by omega, by omega⟩
              rw [hXx] at p1
              rw [hYy] at p2
              rw [hTt] at p3
              have HFP : Hid (∀ v, v < D.k → r v < wr.heap.size) := hid (fun v hv => (HI.out.tab.inner v hv).lt)
              have HPB := hid (Blk.new wr 31 #[.int .i64 X, .int .i64 Y, .int .i64 T])
              have HI1 := hid (HI.out.below (below_alloc1 wr (.cells #[.int .i64 X, .int .i64 Y, .int .i64 T] 31)))
              clear hP hpc a1 a2 b1 b2 u1 u2 hXx hYy hTt HI hbs
              go_wp2
              clear y1 p1 p2 p3
              obtain ⟨pb, hpb⟩ : ∃ pb, pb = wr.heap.size := ⟨_, rfl⟩
              rw [← hpb] at HFP HPB ⊢
              clear hpb
              go_loopw [13, 16] (fun ch i wr => ∃ (wy : Nat) (cb : Bool) (best : Nat → Nat → Int), wy ≤ 2 ∧ i = .int .i64 wy ∧ ch = .bool cb ∧ Hid (RdI w1 D b f gk g m r c best cb wr) ∧ Hid (cb = false → (∀ j, j < k → NoHelpP D b best j) ∧ (1 ≤ wy → ∀ a, T ≤ a → a ≤ b → NoHelp D b best X Y T a) ∧ (2 ≤ wy → ∀ a, T ≤ a → a ≤ b → NoHelp D b best Y X T a)) ∧ Hid (Blk wr pb 31 #[.int .i64 X, .int .i64 Y, .int .i64 T])) (fun _ i _ => 2 - (intOf i).toNat)
              case atStart => exact ⟨0, cb, best, by omega, rfl, rfl, HI1, hid (fun e => ⟨HN.out e, fun h => absurd h (by omega), fun h => absurd h (by omega)⟩), HPB⟩
              case round =>
                clear HI1 HN HPB
                obtain ⟨wy, cb, best, hwy, rfl, rfl, HI, HN, HPB⟩ := hrel
                have q0 := HPB.out.cell (i := 0) rfl
                have q1 := HPB.out.cell (i := 1) rfl
                by_cases hw2' : wy < 2
                · have hw2z : (wy : Int) < 2 := by omega
                  have hUV : ∃ U V : Nat, ((wy = 0 ∧ U = X ∧ V = Y) ∨ (wy = 1 ∧ U = Y ∧ V = X)) := by
                    by_cases h : wy = 0
                    · exact ⟨X, Y, .inl ⟨h, rfl, rfl⟩⟩
                    · exact ⟨Y, X, .inr ⟨by omega, rfl, rfl⟩⟩
                  obtain ⟨U, V, huv⟩ := hUV
                  have HUV := hid huv
                  have hUk : U < D.k := by omega
                  have hVk : V < D.k := by omega
                  have hUkz : (U : Int) < (D.k : Int) := by omega
                  have hVkz : (V : Int) < (D.k : Int) := by omega
                  have HE : Hid (Edge D U V (T : Int)) := hid (by
                    rcases HUV.out with ⟨_, rfl, rfl⟩ | ⟨_, rfl, rfl⟩
                    · exact HEX.out
                    · exact HEY.out)
                  clear huv
                  go_upto_if 85 with fail
                  go_cut [17, 18] (fun t17 t18 wx => t17 = .int .i64 U ∧ t18 = .int .i64 V ∧ RdI w1 D b f gk g m r c best cb wx ∧ Blk wx pb 31 #[.int .i64 X, .int .i64 Y, .int .i64 T])
                  case first =>
                    rcases HUV.out with ⟨hw0, hU, hV⟩ | ⟨hw1', hU, hV⟩
                    · have e0 : ((wy : Int) == 1) = false := by simp; omega
                      clear hw0
                      go_wp2
                      go_meet
                      exact ⟨by rw [hU], by rw [hV], HI.out, HPB.out⟩
                    · have e0 : ((wy : Int) == 1) = true := by simp; omega
                      clear hw1'
                      go_wp2
                      go_meet
                      exact ⟨by rw [hU], by rw [hV], HI.out, HPB.out⟩
                  case rest =>
                    obtain ⟨rfl, rfl, HI', HPB'⟩ := hcut
                    replace HI := hid HI'
                    replace HPB := hid HPB'
                    clear HI' HPB' q0 q1
                    have q2 := HPB.out.cell (i := 2) rfl
                    go_wp2
                    generalize wr = wo at *
                    go_loopw [13, 19] (fun ch i wr => ∃ (a : Nat) (cb : Bool) (best : Nat → Nat → Int), T ≤ a ∧ (a ≤ b + 1 ∨ a = T) ∧ i = .int .i64 a ∧ ch = .bool cb ∧ Hid (RdI w1 D b f gk g m r c best cb wr) ∧ Hid (cb = false → ((∀ j, j < k → NoHelpP D b best j) ∧ (1 ≤ wy → ∀ a, T ≤ a → a ≤ b → NoHelp D b best X Y T a)) ∧ ∀ a', T ≤ a' → a' < a → NoHelp D b best U V T a') ∧ Hid (Blk wr pb 31 #[.int .i64 X, .int .i64 Y, .int .i64 T])) (fun _ i _ => b + 1 - (intOf i).toNat)
                    case atStart => exact ⟨T, cb, best, by omega, by omega, rfl, rfl, HI, hid (fun e => ⟨⟨(HN.out e).1, (HN.out e).2.1⟩, fun a' h1 h2 => absurd h1 (by omega)⟩), HPB⟩
                    case round =>
                      clear HI HN HPB q2
                      obtain ⟨a, cb, best, hTa, hab1, rfl, rfl, HI, HN, HPB⟩ := hrel
                      have hbs := hid (hB1.out.below (HI.out.bel.mono (by omega)))
                      by_cases hab : a ≤ b
                      · have habz : (a : Int) ≤ (b : Int) := by omega
                        have ham : a < m := by have := HM.out; omega
                        have hamz : (a : Int) < (m : Int) := by omega
                        have t1 := HI.out.tab.row hUk
                        have t2 := HI.out.tab.cell hUk ham
                        have hlo := HI.out.sb.lo U a
                        have htop := HI.out.sb.top2 hk7 h60 hUk hab
                        by_cases h0a : best U a < 0
                        · have HNH : Hid (NoHelp D b best U V T a) := fun h => absurd h (by omega)
                          go_wp2
                          go_roundw
                          case rel => exact ⟨a + 1, cb, best, by omega, by omega, by go_num, rfl, HI, hid (fun e => ⟨(HN.out e).1, fun a' h1 h2 => by
                            by_cases e2 : a' = a
                            · subst e2; exact HNH.out
                            · exact (HN.out e).2 a' h1 (by omega)⟩), HPB⟩
                          case measure => simp [intOf] <;> omega
                        · replace h0a : 0 ≤ best U a := by omega
                          have hnz : ¬ best U a < 0 := by omega
                          have q2 := HPB.out.cell (i := 2) rfl
                          have y2 := hbs.out.cell (i := 2) rfl
                          obtain ⟨bq, oq, hQ, hdq⟩ := (HX.out.below (Below.then_ hw2.out HI.out.bel)).dep (by omega)
                          have q3 : wr.cell? ⟨bq, oq + V, none⟩ = some (.bool (D.dep V)) := hdq V hVk
                          rw [hQ] at y2
                          have hsum : wrap64 (best U a + (T : Int)) = best U a + (T : Int) := by unfold wrap64; omega
                          clear hdq hQ
                          have htT : ∃ l, leftA D b V a T = l := ⟨_, rfl⟩
                          obtain ⟨l, hl⟩ := htT
                          have HL := hid hl
                          clear hl
                          go_upto_if 113 with fail
                          go_cut [20] (fun t20 wx => t20 = .int .i64 l ∧ RdI w1 D b f gk g m r c best cb wx ∧ Blk wx pb 31 #[.int .i64 X, .int .i64 Y, .int .i64 T])
                          case first =>
                            have HLt : Hid (D.dep V = true → (b : Int) = (l : Int)) := hid (fun h => by have := HL.out; unfold leftA at this; rw [if_pos h] at this; omega)
                            have HLf : Hid (D.dep V = false → (a : Int) - (T : Int) = (l : Int)) := hid (fun h => by have := HL.out; unfold leftA at this; rw [if_neg (by rw [h]; simp)] at this; omega)
                            go_wp2
                            · go_meet
                              rename_i hd
                              exact ⟨congrArg (Value.int .i64) (HLt.out hd), HI.out, HPB.out⟩
                            · go_meet
                              rename_i hd
                              exact ⟨congrArg (Value.int .i64) (HLf.out hd), HI.out, HPB.out⟩
                          case rest =>
                            obtain ⟨rfl, HI', HPB'⟩ := hcut
                            replace HI := hid HI'
                            replace HPB := hid HPB'
                            clear HI' HPB' q2 q3 y2 t1 t2
                            have hlm : l < m := by have := HM.out; have := leftA_le (D := D) (y := V) (t := T) hab; have := HL.out; omega
                            have hlmz : (l : Int) < (m : Int) := by omega
                            have s1 := sub_cell (HI.out.tab.row hUk)
                            have s2 := sub_cell (HI.out.tab.row hVk)
                            have s3 := sub_cell (HI.out.tab.cell hUk ham)
                            have s4 := sub_cell (HI.out.tab.cell hVk hlm)
                            have s5 := sub_cell (HPB.out.cell (i := 2) rfl)
                            by_cases h4 : best V l < 0
                            · have e4 : decide (best V l < 0) = true := decide_eq_true h4
                              have HY : Hid (best V l < 0 ∨ best U a + (T : Int) < best V l) := .inl h4
                              go_wp2
                              refine wp_region_sub (by kernel_rfl) (by kernel_rfl) ?_
                              repeat (go_big_quiet_step ((fail)))
                              refine wpQuiet_nil ?_
                              intro _ hw'
                              obtain ⟨s, hw''⟩ := hw'
                              subst hw''
                              have hsv := s.h
                              generalize s.val = v at hsv ⊢
                              clear s1 s2 s3 s4 s5
                              have HIv := hid (HI.out.below hsv)
                              have HPv := hid (HPB.out.below hsv)
                              have s1 := HIv.out.tab.row hUk
                              have s2 := HIv.out.tab.row hVk
                              have s3 := HIv.out.tab.cell hUk ham
                              have s4 := HIv.out.tab.cell hVk hlm
                              have s6 := HIv.out.tab.froz hVk l
                              have s5 := HPv.out.cell (i := 2) rfl
                              have HI2 := hid (HIv.out.set HOK.out HE.out hTa hab hVk h0a HL.out HY.out)
                              have hneP : pb ≠ r V := fun e => by have h1 := (HIv.out.tab.inner V hVk); have := HFP.out V hVk; omega
                              have HP2 := hid (HPv.out.far (p := ⟨r V, l, none⟩) hneP (.int .i64 (best U a + (T : Int))))
                              clear HIv HPv hsv
                              go_wp2
                              go_region
                              go_wp2
                              go_roundw
                              case rel => exact ⟨a + 1, true, _, by omega, by omega, by go_num, rfl, hid (HI2.out.below (Below.refl _ _).drew), hid (fun e => by cases e), hid (HP2.out.below (Below.refl _ _).drew)⟩
                              case measure => simp [intOf] <;> omega
                            · have e4 : decide (best V l < 0) = false := decide_eq_false h4
                              by_cases h5 : best U a + (T : Int) < best V l
                              · have e5 : decide (best U a + (T : Int) < best V l) = true := decide_eq_true h5
                                have HY : Hid (best V l < 0 ∨ best U a + (T : Int) < best V l) := .inr h5
                                go_wp2
                                refine wp_region_sub (by kernel_rfl) (by kernel_rfl) ?_
                                repeat (go_big_quiet_step ((fail)))
                                refine wpQuiet_nil ?_
                                intro _ hw'
                                obtain ⟨s, hw''⟩ := hw'
                                subst hw''
                                have hsv := s.h
                                generalize s.val = v at hsv ⊢
                                clear s1 s2 s3 s4 s5
                                have HIv := hid (HI.out.below hsv)
                                have HPv := hid (HPB.out.below hsv)
                                have s1 := HIv.out.tab.row hUk
                                have s2 := HIv.out.tab.row hVk
                                have s3 := HIv.out.tab.cell hUk ham
                                have s4 := HIv.out.tab.cell hVk hlm
                                have s6 := HIv.out.tab.froz hVk l
                                have s5 := HPv.out.cell (i := 2) rfl
                                have HI2 := hid (HIv.out.set HOK.out HE.out hTa hab hVk h0a HL.out HY.out)
                                have hneP : pb ≠ r V := fun e => by have h1 := (HIv.out.tab.inner V hVk); have := HFP.out V hVk; omega
                                have HP2 := hid (HPv.out.far (p := ⟨r V, l, none⟩) hneP (.int .i64 (best U a + (T : Int))))
                                clear HIv HPv hsv
                                go_wp2
                                go_region
                                go_wp2
                                go_roundw
                                case rel => exact ⟨a + 1, true, _, by omega, by omega, by go_num, rfl, hid (HI2.out.below (Below.refl _ _).drew), hid (fun e => by cases e), hid (HP2.out.below (Below.refl _ _).drew)⟩
                                case measure => simp [intOf] <;> omega
                              · have e5 : decide (best U a + (T : Int) < best V l) = false := decide_eq_false h5
                                have HNH : Hid (NoHelp D b best U V T a) := fun _ => by rw [HL.out]; omega
                                go_wp2
                                refine wp_region_sub (by kernel_rfl) (by kernel_rfl) ?_
                                repeat (go_big_quiet_step ((fail)))
                                refine wpQuiet_nil ?_
                                intro _ hw'
                                obtain ⟨s, hw''⟩ := hw'
                                subst hw''
                                have hsv := s.h
                                generalize s.val = v at hsv ⊢
                                clear s1 s2 s3 s4 s5
                                replace HI := hid (HI.out.below hsv)
                                replace HPB := hid (HPB.out.below hsv)
                                clear hsv
                                go_wp2
                                go_roundw
                                case rel => exact ⟨a + 1, cb, best, by omega, by omega, by go_num, rfl, HI, hid (fun e => ⟨(HN.out e).1, fun a' h1 h2 => by
                                  by_cases e2 : a' = a
                                  · subst e2; exact HNH.out
                                  · exact (HN.out e).2 a' h1 (by omega)⟩), HPB⟩
                                case measure => simp [intOf] <;> omega
                      · go_wp2
                        go_roundw
                        case rel => exact ⟨wy + 1, cb, best, by omega, by go_num, rfl, HI, hid (fun e => by
                          obtain ⟨⟨n1, n2⟩, n3⟩ := HN.out e
                          rcases HUV.out with ⟨h0, hU, hV⟩ | ⟨h0, hU, hV⟩
                          · refine ⟨n1, fun _ a' h1 h2 => ?_, fun h => absurd h (by omega)⟩
                            rw [← hU, ← hV]; exact n3 a' h1 (by omega)
                          · refine ⟨n1, fun _ => n2 (by omega), fun _ a' h1 h2 => ?_⟩
                            rw [← hU, ← hV]; exact n3 a' h1 (by omega)), HPB⟩
                        case measure => simp [intOf] <;> omega
                · have hw2z : ¬ (wy : Int) < 2 := by omega
                  have HN2 : Hid (cb = false → ∀ j, j < k + 1 → NoHelpP D b best j) := hid (fun e j hj => by
                    obtain ⟨n1, n2, n3⟩ := HN.out e
                    by_cases ej : j = k
                    · subst ej
                      obtain ⟨e1, e2, e3⟩ := HXN.out
                      refine ⟨?_, ?_⟩
                      · rw [e1, e2, e3]; exact n2 (by omega)
                      · rw [e1, e2, e3]; exact n3 (by omega)
                    · exact n1 j (by omega))
                  clear HN
                  go_wp2
                  go_roundw
                  case rel => exact ⟨k + 1, cb, best, by omega, by go_num, rfl, HI, HN2⟩
                  case measure => simp [intOf] <;> omega
            · have : k = D.m := by omega
              subst this
              go_wp2
              go_roundg (gk - 1)
              case measure => have := HI.out.po1; omega
              case rel => exact ⟨cb, best, rfl, hid HI.out.tab, hid HI.out.sb, hid (fun e => by have := HI.out.po2 e; omega), HN, hid HI.out.bel⟩
end Go.Proofs.YtlhcjbgcgbeocaaDoor
