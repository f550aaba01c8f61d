/- Water's functions by value, whatever the arguments: the program's and the reference's return the same. Lists are at most 2^20 long. -/
import Derived.Test.YtahbfifnpceoeaaDoorLawC
import Derived.Test.YtahbfifnpceoeaaDoorCave11
import Derived.Test.YtahbfifnpceoeaaDoorCave13
import Derived.Test.YtahbfifnpceoeaaDoorCave20
import Derived.Test.YtahbfifnpceoeaaDoorCave21
namespace Go.Proofs.YtahbfifnpceoeaaDoor
open Go.RowKit

section
open Classical
noncomputable def jlV (D : CaveD) (a b : Int) : Int := if JlOk D a b then jlF D a.toNat b.toNat else -1
noncomputable def waV (D : CaveD) (L : Int) : Int := if WaOk D L then waF D L D.n else -1
noncomputable def pbV (D : CaveD) (L : Int) : Int := if WaOk D L then pbF D L D.n else -1
noncomputable def llV (D : CaveD) (L : Int) (n : Nat) (y : Nat → Int) (ch : Int) : Int := if LlOk D L n y ch then llF D L y n ch.toNat else -1
noncomputable def wlV (D : CaveD) (L : Int) (n : Nat) (y : Nat → Int) : Int := if WlOk D L n y then wlF D L y n D.n else -1
theorem jlV_yes {D : CaveD} {a b : Int} (h : JlOk D a b) : jlV D a b = jlF D a.toNat b.toNat := if_pos h
theorem jlV_no {D : CaveD} {a b : Int} (h : ¬ JlOk D a b) : jlV D a b = -1 := if_neg h
theorem waV_yes {D : CaveD} {L : Int} (h : WaOk D L) : waV D L = waF D L D.n := if_pos h
theorem waV_no {D : CaveD} {L : Int} (h : ¬ WaOk D L) : waV D L = -1 := if_neg h
theorem pbV_yes {D : CaveD} {L : Int} (h : WaOk D L) : pbV D L = pbF D L D.n := if_pos h
theorem pbV_no {D : CaveD} {L : Int} (h : ¬ WaOk D L) : pbV D L = -1 := if_neg h
theorem llV_yes {D : CaveD} {L : Int} {n : Nat} {y : Nat → Int} {ch : Int} (h : LlOk D L n y ch) : llV D L n y ch = llF D L y n ch.toNat := if_pos h
theorem llV_no {D : CaveD} {L : Int} {n : Nat} {y : Nat → Int} {ch : Int} (h : ¬ LlOk D L n y ch) : llV D L n y ch = -1 := if_neg h
theorem wlV_yes {D : CaveD} {L : Int} {n : Nat} {y : Nat → Int} (h : WlOk D L n y) : wlV D L n y = wlF D L y n D.n := if_pos h
theorem wlV_no {D : CaveD} {L : Int} {n : Nat} {y : Nat → Int} (h : ¬ WlOk D L n y) : wlV D L n y = -1 := if_neg h
end
section
variable (F G S : Option Addr) (D : CaveD) (c d e : Nat)
theorem JoinLevel_implV (a b : Int) (w : World) (hx : CaveAt w F G S D) (hs : CaveSmall D) : Calls Tryd.prog 49 #[.agg #[.slice F D.n c, .slice G D.q d, .slice S D.m e], .int .i64 a, .int .i64 b] w (RetV (.int .i64 (jlV D a b)) w) := by
  by_cases h : JlOk D a b
  · have h' := h
    obtain ⟨hok, ⟨a0, a1⟩, b0, b1⟩ := h'
    rw [jlV_yes h]
    obtain ⟨x, rfl⟩ := Int.eq_ofNat_of_zero_le a0
    obtain ⟨y, rfl⟩ := Int.eq_ofNat_of_zero_le b0
    exact JoinLevel_impl F G S D c d e x y w hx hs hok (by omega) (by omega)
  · rw [jlV_no h]
    exact JoinLevel_impl0 F G S D c d e a b w hx hs h
theorem JoinLevel_specV (a b : Int) (w : World) (hx : CaveAt w F G S D) (hs : CaveSmall D) : Calls Tryd.prog 50 #[.agg #[.slice F D.n c, .slice G D.q d, .slice S D.m e], .int .i64 a, .int .i64 b] w (RetV (.int .i64 (jlV D a b)) w) := by
  by_cases h : JlOk D a b
  · have h' := h
    obtain ⟨hok, ⟨a0, a1⟩, b0, b1⟩ := h'
    rw [jlV_yes h]
    obtain ⟨x, rfl⟩ := Int.eq_ofNat_of_zero_le a0
    obtain ⟨y, rfl⟩ := Int.eq_ofNat_of_zero_le b0
    exact JoinLevel_spec F G S D c d e x y w hx hs hok (by omega) (by omega)
  · rw [jlV_no h]
    exact JoinLevel_spec0 F G S D c d e a b w hx hs h
theorem TreeLevel_implV (a b : Int) (w : World) (hx : CaveAt w F G S D) (hs : CaveSmall D) : Calls Tryd.prog 26 #[.agg #[.slice F D.n c, .slice G D.q d, .slice S D.m e], .int .i64 a, .int .i64 b] w (RetV (.int .i64 (jlV D a b)) w) := by
  by_cases h : JlOk D a b
  · have h' := h
    obtain ⟨hok, ⟨a0, a1⟩, b0, b1⟩ := h'
    rw [jlV_yes h]
    obtain ⟨x, rfl⟩ := Int.eq_ofNat_of_zero_le a0
    obtain ⟨y, rfl⟩ := Int.eq_ofNat_of_zero_le b0
    exact TreeLevel_impl F G S D c d e x y w hx hs hok (by omega) (by omega)
  · rw [jlV_no h]
    exact TreeLevel_impl0 F G S D c d e a b w hx hs h
theorem TreeLevel_specV (a b : Int) (w : World) (hx : CaveAt w F G S D) (hs : CaveSmall D) : Calls Tryd.prog 27 #[.agg #[.slice F D.n c, .slice G D.q d, .slice S D.m e], .int .i64 a, .int .i64 b] w (RetV (.int .i64 (jlV D a b)) w) := by
  by_cases h : JlOk D a b
  · have h' := h
    obtain ⟨hok, ⟨a0, a1⟩, b0, b1⟩ := h'
    rw [jlV_yes h]
    obtain ⟨x, rfl⟩ := Int.eq_ofNat_of_zero_le a0
    obtain ⟨y, rfl⟩ := Int.eq_ofNat_of_zero_le b0
    exact TreeLevel_spec F G S D c d e x y w hx hs hok (by omega) (by omega)
  · rw [jlV_no h]
    exact TreeLevel_spec0 F G S D c d e a b w hx hs h
theorem WaterAt_implV (L : Int) (w : World) (hx : CaveAt w F G S D) (hs : CaveSmall D) : Calls Tryd.prog 32 #[.agg #[.slice F D.n c, .slice G D.q d, .slice S D.m e], .int .i64 L] w (RetV (.int .i64 (waV D L)) w) := by
  by_cases h : WaOk D L
  · rw [waV_yes h]
    exact WaterAt_impl F G S D c d e L w hx hs h.1 h.2.1 h.2.2
  · rw [waV_no h]
    exact WaterAt_impl0 F G S D c d e L w hx hs h
theorem WaterAt_specV (L : Int) (w : World) (hx : CaveAt w F G S D) (hs : CaveSmall D) : Calls Tryd.prog 33 #[.agg #[.slice F D.n c, .slice G D.q d, .slice S D.m e], .int .i64 L] w (RetV (.int .i64 (waV D L)) w) := by
  by_cases h : WaOk D L
  · rw [waV_yes h]
    exact WaterAt_spec F G S D c d e L w hx hs h.1 h.2.1 h.2.2
  · rw [waV_no h]
    exact WaterAt_spec0 F G S D c d e L w hx hs h
theorem PumpBest_implV (L : Int) (w : World) (hx : CaveAt w F G S D) (hs : CaveSmall D) : Calls Tryd.prog 45 #[.agg #[.slice F D.n c, .slice G D.q d, .slice S D.m e], .int .i64 L] w (RetV (.int .i64 (pbV D L)) w) := by
  by_cases h : WaOk D L
  · rw [pbV_yes h]
    exact PumpBest_impl F G S D c d e L w hx hs h.1 h.2.1 h.2.2
  · rw [pbV_no h]
    exact PumpBest_impl0 F G S D c d e L w hx hs h
theorem PumpBest_specV (L : Int) (w : World) (hx : CaveAt w F G S D) (hs : CaveSmall D) : Calls Tryd.prog 47 #[.agg #[.slice F D.n c, .slice G D.q d, .slice S D.m e], .int .i64 L] w (RetV (.int .i64 (pbV D L)) w) := by
  by_cases h : WaOk D L
  · rw [pbV_yes h]
    exact PumpBest_spec F G S D c d e L w hx hs h.1 h.2.1 h.2.2
  · rw [pbV_no h]
    exact PumpBest_spec0 F G S D c d e L w hx hs h
theorem LevelLeft_implV (L : Int) (A : Option Addr) (n cu : Nat) (y : Nat → Int) (ch : Int) (w : World) (hx : CaveAt w F G S D) (hs : CaveSmall D) (hi : Ints w A n y) (hn : n ≤ 1048576) :
    Calls Tryd.prog 39 #[.agg #[.slice F D.n c, .slice G D.q d, .slice S D.m e], .int .i64 L, .slice A n cu, .int .i64 ch] w (RetV (.int .i64 (llV D L n y ch)) w) := by
  by_cases h : LlOk D L n y ch
  · have h' := h
    obtain ⟨hok, ⟨l0, l1⟩, hp, c0, c1⟩ := h'
    rw [llV_yes h]
    obtain ⟨x, rfl⟩ := Int.eq_ofNat_of_zero_le c0
    exact LevelLeft_impl F G S D c d e L A n cu y x w hx hs hok l0 l1 hi hn hp (by omega)
  · rw [llV_no h]
    exact LevelLeft_impl0 F G S D c d e L A n cu y ch w hx hs hi hn h
theorem WaterLeft_implV (L : Int) (A : Option Addr) (n cu : Nat) (y : Nat → Int) (w : World) (hx : CaveAt w F G S D) (hs : CaveSmall D) (hi : Ints w A n y) (hn : n ≤ 1048576) :
    Calls Tryd.prog 43 #[.agg #[.slice F D.n c, .slice G D.q d, .slice S D.m e], .int .i64 L, .slice A n cu] w (RetV (.int .i64 (wlV D L n y)) w) := by
  by_cases h : WlOk D L n y
  · rw [wlV_yes h]
    exact WaterLeft_impl F G S D c d e L A n cu y w hx hs h.1 h.2.1.1 h.2.1.2 hi hn h.2.2
  · rw [wlV_no h]
    exact WaterLeft_impl0 F G S D c d e L A n cu y w hx hs hi hn h
theorem LevelLeft_specV (L : Int) (A : Option Addr) (n cu : Nat) (y : Nat → Int) (ch : Int) (w : World) (hx : CaveAt w F G S D) (hs : CaveSmall D) (hi : Ints w A n y) (hn : n ≤ 1048576) :
    Calls Tryd.prog 40 #[.agg #[.slice F D.n c, .slice G D.q d, .slice S D.m e], .int .i64 L, .slice A n cu, .int .i64 ch] w (RetV (.int .i64 (llV D L n y ch)) w) := by
  by_cases h : LlOk D L n y ch
  · have h' := h
    obtain ⟨hok, ⟨l0, l1⟩, hp, c0, c1⟩ := h'
    rw [llV_yes h]
    obtain ⟨x, rfl⟩ := Int.eq_ofNat_of_zero_le c0
    exact LevelLeft_spec F G S D c d e L A n cu y x w hx hs hok l0 l1 hi hn hp (by omega)
  · rw [llV_no h]
    exact LevelLeft_spec0 F G S D c d e L A n cu y ch w hx hs hi hn h
theorem WaterLeft_specV (L : Int) (A : Option Addr) (n cu : Nat) (y : Nat → Int) (w : World) (hx : CaveAt w F G S D) (hs : CaveSmall D) (hi : Ints w A n y) (hn : n ≤ 1048576) :
    Calls Tryd.prog 44 #[.agg #[.slice F D.n c, .slice G D.q d, .slice S D.m e], .int .i64 L, .slice A n cu] w (RetV (.int .i64 (wlV D L n y)) w) := by
  by_cases h : WlOk D L n y
  · rw [wlV_yes h]
    exact WaterLeft_spec F G S D c d e L A n cu y w hx hs h.1 h.2.1.1 h.2.1.2 hi hn h.2.2
  · rw [wlV_no h]
    exact WaterLeft_spec0 F G S D c d e L A n cu y w hx hs hi hn h
end
end Go.Proofs.YtahbfifnpceoeaaDoor
