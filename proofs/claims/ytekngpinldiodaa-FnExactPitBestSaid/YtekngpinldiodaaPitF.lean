/- pitFlow of the program: what the greatest flow through the network of a pit leaves free. Lists are at most 2^20 long. -/
import Derived.Test.YtekngpinldiodaaPitBS
import Derived.Test.YtekngpinldiodaaReach
import Derived.Test.YtekngpinldiodaaPitNew
namespace Go.Proofs.Ytekngpinldiodaa
open Go.RowKit

/-- It returns a new table: what the greatest flow leaves free; the sink is not reached. -/
def RetF (D : PitD) (w : World) (e : Ending) (w' : World) : Prop :=
  ∃ g r T fl cf, e = .returned (.tuple #[.slice (some ⟨g, 0, none⟩) (D.n + 2) (D.n + 2), .int .i64 fl]) ∧ Tab w' g (D.n + 2) (D.n + 2) r T (D.n + 2) ∧ FL (D.n + 2) D.n (D.n + 1) (capO D D.n) T fl ∧ Reached (D.n + 2) D.n T cf ∧ cf (D.n + 1) < 0 ∧ Below w.heap.size w w'

set_option maxRecDepth 20000 in
set_option maxHeartbeats 1600000 in
theorem pitFlow_any (A : Option Addr) (D : PitD) (c : Nat) (w : World) (hx : PitAt w A D) (hs : PitSmall D) (hok : PitOk D) :
    Calls Try.prog 59 #[.slice A D.n c] w (RetF D w) := by
  have hn := hs.1
  have h8 := hok.1
  obtain ⟨N, hN⟩ : ∃ N, N = D.n + 2 := ⟨_, rfl⟩
  obtain ⟨t, ht⟩ : ∃ t, t = D.n + 1 := ⟨_, rfl⟩
  have e1 : (D.n : Int) + 1 = (t : Int) := by omega
  have e2 : (D.n : Int) + 2 = (N : Int) := by omega
  have HN := hid hN
  have HT := hid ht
  have HO := hid hok
  have HX := hid hx
  have HL := hid hs.2
  have hN8 : N ≤ 10 := by omega
  clear hok hx hs hN ht
  go_enter Try.func59, Try.ntmps59
  go_wp2_with fail
  refine (squareOf_any N w (by omega)).mono ?_
  rintro e w1 ⟨g, r, T0, rfl, hT, hT0, hg, hb1⟩
  have hsN : D.n < N := by have := HN.out; omega
  have htN : t < N := by have := HN.out; have := HT.out; omega
  have hsNz : (D.n : Int) < (N : Int) := by omega
  have htNz : (t : Int) < (N : Int) := by omega
  have HTB : Hid (Tab w1 g N N r (capO D 0) N) := hid (hT.congr fun x y _ _ => by rw [hT0, capO_zero])
  have HB := hid hb1
  clear e1 e2 hT hT0 hb1
  go_wp2
  go_loopw [27] (fun i wr => ∃ k : Nat, k ≤ D.n ∧ i = .int .i64 k ∧ Hid (Tab wr g N N r (capO D k) N) ∧ Hid (Below w.heap.size w wr)) (fun i _ => D.n - (intOf i).toNat)
  case atStart => exact ⟨0, by omega, rfl, HTB, HB⟩
  case round =>
    clear HTB HB
    obtain ⟨k, hk, rfl, HTB, HB⟩ := hrel
    by_cases hlt : k < D.n
    · obtain ⟨b, o, C, cc, rfl, a10, a20, a30⟩ := HX.out.at_ hlt
      have a1 := cell_below HB.out a10
      have a2 := cell_below HB.out a20
      have HI0 := hid a30
      clear a10 a20 a30
      have hltz : (k : Int) < (D.n : Int) := by omega
      have hkN : k < N := by omega
      have hkNz : (k : Int) < (N : Int) := by omega
      have HBX := hid (Blk.new wr 48 #[.int .i64 (D.p k), .slice C (D.l k) cc])
      have HT1 := hid (HTB.out.alloc (.cells #[.int .i64 (D.p k), .slice C (D.l k) cc] 48))
      have t1 := HT1.out.row hsN hsN
      have t2 := HT1.out.froz hsN k
      have t3 := HT1.out.cell hsN hkN
      have t4 := HBX.out.cell (i := 0) rfl
      go_wp2
      have hpk := (HO.out.2 k hlt).1
      have HT2 := hid (HT1.out.set hsN k (if D.p k < 0 then 0 else D.p k)).drew
      have hne : wr.heap.size ≠ r D.n := by have := (HTB.out.inner D.n hsN).lt; omega
      have HB2 := hid (HBX.out.far (p := ⟨r D.n, k, none⟩) hne (.int .i64 (if D.p k < 0 then 0 else D.p k))).drew
      have hga : w.heap.size ≤ r D.n := by have := HTB.out.above D.n hsN; omega
      have HW2 := hid ((below_alloc HB.out (.cells #[.int .i64 (D.p k), .slice C (D.l k) cc] 48)).setCell (p := ⟨r D.n, k, none⟩) hga (.int .i64 (if D.p k < 0 then 0 else D.p k))).drew
      have hga2 : w.heap.size ≤ r k := by have := HTB.out.above k hkN; omega
      have hne2 : wr.heap.size ≠ r k := by have := (HTB.out.inner k hkN).lt; omega
      have HNE2 := hid hne2
      have hlk := HL.out k hlt
      clear HB HTB HBX HT1 hne hne2
      go_region
      clear t1 t2 t3 t4 a1 a2
      generalize ((wr.alloc (.cells #[.int .i64 (D.p k), .slice C (D.l k) cc] 48)).setCell ⟨r D.n, k, none⟩ (.int .i64 (if D.p k < 0 then 0 else D.p k))).drew = v at HT2 HB2 HW2 ⊢
      generalize wr.heap.size = bb at *
      have HM1 : Hid ((if D.p k < 0 then (0 : Int) else D.p k) = max (D.p k) 0) := hid (by split <;> omega)
      generalize (if D.p k < 0 then (0 : Int) else D.p k) = M1 at *
      have t1 := HT2.out.row hkN hkN
      have t2 := HT2.out.froz hkN t
      have t3 := HT2.out.cell hkN htN
      have t4 := HB2.out.cell (i := 0) rfl
      have HT3 := hid (HT2.out.set hkN t (if 0 < D.p k then 0 else -D.p k)).drew
      have HB3 := hid (HB2.out.far (p := ⟨r k, t, none⟩) HNE2.out (.int .i64 (if 0 < D.p k then 0 else -D.p k))).drew
      have HW3 := hid (HW2.out.setCell (p := ⟨r k, t, none⟩) hga2 (.int .i64 (if 0 < D.p k then 0 else -D.p k))).drew
      clear HT2 HB2 HW2 HNE2
      go_wp2
      go_region
      clear t1 t2 t3 t4
      generalize (v.setCell ⟨r k, t, none⟩ (.int .i64 (if 0 < D.p k then 0 else -D.p k))).drew = u at HT3 HB3 HW3 ⊢
      have HM2 : Hid ((if 0 < D.p k then (0 : Int) else -D.p k) = max (-D.p k) 0) := hid (by split <;> omega)
      generalize (if 0 < D.p k then (0 : Int) else -D.p k) = M2 at *
      have HTI := hid (HT3.out.congr (U := capI D k 0) (fun x y _ _ => by
        rw [HM1.out, HM2.out, HT.out]; exact capI_start hlt x y))
      have t5 := HB3.out.cell (i := 1) rfl
      clear HT3 HM1 HM2
      go_wp2
      clear t5
      go_loopw [54] (fun i wr => ∃ q : Nat, q ≤ D.l k ∧ i = .int .i64 q ∧ Hid (Tab wr g N N r (capI D k q) N) ∧ Hid (Below w.heap.size w wr)) (fun i _ => D.l k - (intOf i).toNat)
      case atStart => exact ⟨0, by omega, rfl, HTI, HW3⟩
      case round =>
        clear HTI HB3 HW3
        obtain ⟨q, hq, rfl, HTI, HW3⟩ := hrel
        by_cases hql : q < D.l k
        · have hqlz : (q : Int) < (D.l k : Int) := by omega
          have x1 := ((HO.out.2 k hlt).2.1 q hql).1
          have x2 := ((HO.out.2 k hlt).2.1 q hql).2
          obtain ⟨m, hm⟩ : ∃ m : Nat, D.x k q = (m : Int) := ⟨(D.x k q).toNat, by omega⟩
          have hmk : m < k := by omega
          have hmN : m < N := by omega
          have hmNz : (m : Int) < (N : Int) := by omega
          obtain ⟨b2, o2, rfl, hc⟩ := HI0.out.below HW3.out (by omega)
          have c1 : wr.cell? ⟨b2, o2 + q, none⟩ = some (.int .i64 (D.x k q)) := hc q hql
          rw [hm] at c1
          have HM := hid hm
          clear hc hm x1 x2
          have t1 := HTI.out.row hkN hkN
          have t2 := HTI.out.froz hkN m
          have t3 := HTI.out.cell hkN hmN
          have HT4 := hid ((HTI.out.set hkN m 161).congr (U := capI D k (q + 1)) (fun x y _ _ => capI_set hlt hmk HM.out x y))
          have HW4 := hid (HW3.out.setCell (p := ⟨r k, m, none⟩) hga2 (.int .i64 161))
          go_wp2
          go_roundw
          case rel => exact ⟨q + 1, by omega, by go_num, HT4, HW4⟩
          case measure => simp [intOf] <;> omega
        · have : q = D.l k := by omega
          subst this
          have HT4 := hid (HTI.out.congr (U := capO D (k + 1)) (fun x y _ _ => capI_done x y))
          go_wp2
          go_roundw
          case rel => exact ⟨k + 1, by omega, by go_num, HT4, HW3⟩
          case measure => simp [intOf] <;> omega
    · have : k = D.n := by omega
      subst this
      go_wp2
      obtain ⟨Cf, hCf⟩ : ∃ Cf, Cf = capO D D.n := ⟨_, rfl⟩
      have HCap : Hid (Cap D Cf) := hid (by rw [hCf]; exact capO_cap HO.out)
      rw [← hCf] at HTB
      have HC := hid hCf
      clear hCf
      have HFL : Hid (FL N D.n t Cf Cf 0) := hid (FL.start (by rw [HN.out]; exact HCap.out.pos))
      go_loopw [11] (fun f wr => ∃ (T : Nat → Nat → Int) (fl : Int), f = .int .i64 fl ∧ Hid (Tab wr g N N r T N) ∧ Hid (FL N D.n t Cf T fl) ∧ Hid (0 ≤ fl) ∧ Hid (Below w.heap.size w wr)) (fun f _ => (161 - intOf f).toNat)
      case atStart => exact ⟨Cf, 0, rfl, HTB, HFL, hid (Int.le_refl 0), HB⟩
      case round =>
        clear HTB HFL HB
        obtain ⟨T, fl, rfl, HTB, HFL, HF0, HB⟩ := hrel
        have hfl0 := HF0.out
        have hfl : fl ≤ 160 := by
          have h := HFL.out
          rw [HN.out, HT.out] at h
          exact flow_le HO.out HCap.out h
        go_wp2_with fail
        refine (reachedFrom_any g N N D.n r T wr HTB.out (by omega) hsN).mono ?_
        rintro e w2 ⟨cf, rfl, hcf, hR, hb2⟩
        have HT2 := hid (HTB.out.below hb2)
        have HB2 := hid (Below.then_ HB.out hb2)
        have HR := hid hR
        have hcl := hcf.lt
        have hcg : w.heap.size ≤ wr.heap.size := HB.out.size
        have HCF := hid hcf
        have HCN : Hid (∀ j, j < N → wr.heap.size ≠ r j) := hid (fun j hj => by have := (HTB.out.inner j hj).lt; omega)
        have c1 := hcf.cell htN
        clear HTB HB hb2 hR hcf
        generalize wr.heap.size = cb at *
        by_cases hneg : cf t < 0
        · have hsnk := hid hneg
          go_wp2
          go_ret2
          have hT' := HT2.out
          have hF' := HFL.out
          have hR' := HR.out
          have hS' := hsnk.out
          rw [HN.out] at hT' hF' hR'
          rw [HT.out] at hF' hS'
          rw [HC.out] at hF'
          exact ⟨g, r, T, fl, cf, by rw [HN.out]; rfl, hT', hF', hR', hS', HB2.out⟩
        · have h0t := hid (show 0 ≤ cf t by omega)
          obtain ⟨rk, htr⟩ := HR.out.2.1
          have HTR := hid htr
          clear htr
          go_wp2
          clear c1 hneg
          go_loop [13, 14] (fun f at_ => ∃ (F : Int) (a : Nat), f = .int .i64 F ∧ at_ = .int .i64 a ∧ Hid (FrP N D.n T cf t a F)) (fun _ at_ => rk (intOf at_).toNat)
          case atStart => exact ⟨160, t, rfl, rfl, hid (FrP.start htN h0t.out)⟩
          case round =>
            obtain ⟨F, a, rfl, rfl, HFR⟩ := hrel
            have haN := HFR.out.2.2.1
            have ha0 := HFR.out.2.2.2.1
            have haNz : (a : Int) < (N : Int) := by omega
            by_cases hne : a = D.n
            · subst hne
              have hF1 := HFR.out.1
              have hF2 := HFR.out.2.1
              have HFA := hid (FL.begin HFL.out HFR.out.done)
              clear HFR haN ha0 haNz
              go_wp2
              go_loopw [15] (fun at_ wr => ∃ (a : Nat) (U : Nat → Nat → Int), at_ = .int .i64 a ∧ Hid (a < N ∧ 0 ≤ cf a) ∧ Hid (Tab wr g N N r U N) ∧ Hid (FA N D.n t Cf cf F U fl a) ∧ Hid (wr.rowIs cb 3 N (fun j => .int .i64 (cf j))) ∧ Hid (Below w.heap.size w wr)) (fun at_ _ => rk (intOf at_).toNat)
              case atStart => exact ⟨t, T, rfl, hid ⟨htN, h0t.out⟩, HT2, HFA, HCF, HB2⟩
              case round =>
                clear HT2 HFA HCF HB2 hcl
                obtain ⟨a, U, rfl, HA, HTU, HFA, HCF, HB⟩ := hrel
                have haN := HA.out.1
                have haNz : (a : Int) < (N : Int) := by omega
                by_cases hne : a = D.n
                · subst hne
                  have HF9 := hid HFA.out.end_
                  have hsum : fl + F ≤ 160 := by
                    have h := HF9.out
                    rw [HN.out, HT.out] at h
                    exact flow_le HO.out HCap.out h
                  go_wp2
                  go_roundw
                  case rel => exact ⟨U, fl + F, by go_num, HTU, HF9, hid (by omega), HB⟩
                  case measure => simp [intOf] <;> omega
                · have hnz : ((a : Int) != (D.n : Int)) = true := int_bne hne
                  obtain ⟨q1, q2, q3, q4⟩ := HTR.out.up a haN HA.out.2 hne
                  have HST := hid (fun p hp => HFA.out.step (p := p) HTR.out (by omega) haN HA.out.2 hne hp)
                  obtain ⟨p, hp⟩ : ∃ p : Nat, cf a = (p : Int) := ⟨(cf a).toNat, by have := HA.out.2; omega⟩
                  have hp2 : (cf a).toNat = p := by omega
                  have HS2 := hid (HST.out p hp2)
                  have c1 := HCF.out.cell haN
                  simp only [hp, Int.toNat_natCast] at c1 q1 q2 q3
                  have hpz : (p : Int) < (N : Int) := by omega
                  have hpa : p ≠ a := fun e => by rw [e] at q3; omega
                  have hb1 := fl_hi HO.out HCap.out (by have h := HFA.out.pos; rw [HN.out] at h; exact h) (by have h := HFA.out.par; rw [HN.out] at h; exact h) p a (by have := HN.out; omega) (by have := HN.out; omega)
                  have hb2 := fl_hi HO.out HCap.out (by have h := HFA.out.pos; rw [HN.out] at h; exact h) (by have h := HFA.out.par; rw [HN.out] at h; exact h) a p (by have := HN.out; omega) (by have := HN.out; omega)
                  obtain ⟨b1, b2⟩ := hb1
                  obtain ⟨b3, b4⟩ := hb2
                  have t1 := HTU.out.row q1 q1
                  have t2 := HTU.out.cell q1 haN
                  have t3 := HTU.out.froz q1 a
                  have HTV := hid (HTU.out.set q1 a (U p a - F))
                  have HCV := hid (HCF.out.setOther (a := ⟨r p, a, none⟩) (HCN.out p q1) (.int .i64 (U p a - F)))
                  have hgp : w.heap.size ≤ r p := by have := HTU.out.above p q1; omega
                  have HBV := hid (HB.out.setCell (p := ⟨r p, a, none⟩) hgp (.int .i64 (U p a - F)))
                  have hgq : w.heap.size ≤ r a := by have := HTU.out.above a haN; omega
                  have HPC := hid hp
                  have HQ3 := hid q3
                  have HPA := hid hpa
                  have HQ2 := hid q2
                  clear hp hp2 q2 q3 q4 hne HST HTU HCF HB hpa
                  go_wp2
                  clear t1 t2 t3 c1
                  generalize wr.setCell ⟨r p, a, none⟩ (.int .i64 (U p a - F)) = v at HTV HCV HBV ⊢
                  have c1 := HCV.out.cell haN
                  simp only [HPC.out] at c1
                  have t1 := HTV.out.row haN haN
                  have t2 := HTV.out.cell haN q1
                  rw [if_neg (fun e => HPA.out e.1.symm)] at t2
                  have t3 := HTV.out.froz haN p
                  have HTW := hid (HTV.out.set haN p (U a p + F)).drew
                  have HCW := hid (row_below (Below.refl _ _).drew (HCV.out.setOther (a := ⟨r a, p, none⟩) (HCN.out a haN) (.int .i64 (U a p + F))))
                  have HBW := hid (HBV.out.setCell (p := ⟨r a, p, none⟩) hgq (.int .i64 (U a p + F))).drew
                  clear HTV HCV HBV
                  go_region
                  clear t1 t2 t3 c1
                  generalize (v.setCell ⟨r a, p, none⟩ (.int .i64 (U a p + F))).drew = u at HTW HCW HBW ⊢
                  have c1 := HCW.out.cell haN
                  simp only [HPC.out] at c1
                  go_wp2
                  go_roundw
                  case rel => exact ⟨p, _, rfl, hid ⟨q1, HQ2.out⟩, HTW, HS2, HCW, HBW⟩
                  case measure => simpa [intOf] using HQ3.out
            · have hnz : ((a : Int) != (D.n : Int)) = true := int_bne hne
              obtain ⟨q1, q2, q3, q4⟩ := HTR.out.up a haN ha0 hne
              have HF2 := hid (HFR.out.step HTR.out hne)
              obtain ⟨p, hp⟩ : ∃ p : Nat, cf a = (p : Int) := ⟨(cf a).toNat, by omega⟩
              have c1 := HCF.out.cell haN
              simp only [hp, Int.toNat_natCast] at c1 q1 q2 q3 q4 HF2
              have hpz : (p : Int) < (N : Int) := by omega
              have t1 := HT2.out.row q1 q1
              have t2 := HT2.out.cell q1 haN
              have HM := hid q3
              have HP := hid hp
              clear hne q2 q3 q4 hp ha0
              go_wp2
              go_round
              case rel => exact ⟨_, p, rfl, rfl, by
                have h := HF2.out
                rw [show min F (T p a) = if T p a < F then T p a else F from by split <;> omega] at h
                exact h⟩
              case measure => simpa [intOf] using HM.out
end Go.Proofs.Ytekngpinldiodaa
