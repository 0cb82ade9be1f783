/- The walks of the laws, printed by exact.py. -/
import Derived.Test.YtcgbogofmdjddaaDoorZ17
namespace Go.Proofs.YtcgbogofmdjddaaDoor
open Go.RowKit

set_option maxHeartbeats 4000000 in
theorem law_FnExactShortRow (xs0 : List Int) (A0 : Option Addr) (c0 : Nat) (w : World) (h0 : Ints w A0 xs0) (l0 : xs0.length ≤ 9223372036854775807) : Calls Tryd.prog 5 #[.slice A0 xs0.length c0] w fun e w' => e = .returned (.bool true) ∧ Below w.heap.size w w' := by
  by_cases hle0 : xs0.length ≤ 1048576
  · have hd0 : decide ((1048576 : Int) < (xs0.length : Nat)) = false := decide_eq_false (by omega)
    go_enter Tryd.func5, Tryd.ntmps5
    go_wp2_with (fail)
    refine (laws_toInt64S _ _ _ _ h0 (by omega)).mono ?_
    rintro e w1 ⟨A0_1, c0_1, rfl, o0_1, b1⟩
    have z1 := b1.size
    have B1 : Below w.heap.size w w1 := Below.trans (Below.refl _ _) (b1.mono (by omega))
    go_wp2_with (fail)
    refine (spec_ShortRow _ _ _ _ o0_1.ints (by omega) o0_1.cap o0_1.capmax).mono ?_
    rintro e w2 ⟨rfl, b2⟩
    have z2 := b2.size
    have B2 : Below w.heap.size w w2 := Below.trans (B1) (b2.mono (by omega))
    replace o0_1 := o0_1.below b2 (by omega)
    go_wp2_with (fail)
    refine (laws_toInt64S _ _ _ _ (h0.below B2) (by omega)).mono ?_
    rintro e w3 ⟨A0_3, c0_3, rfl, o0_3, b3⟩
    have z3 := b3.size
    have B3 : Below w.heap.size w w3 := Below.trans (B2) (b3.mono (by omega))
    go_wp2_with (fail)
    refine (impl_ShortRow _ _ _ _ o0_3.ints (by omega) o0_3.cap o0_3.capmax).mono ?_
    rintro e w4 ⟨rfl, b4⟩
    have z4 := b4.size
    have B4 : Below w.heap.size w w4 := Below.trans (B3) (b4.mono (by omega))
    replace o0_3 := o0_3.below b4 (by omega)
    go_wp2_with (fail)
    refine (laws_toInt64S _ _ _ _ (h0.below B4) (by omega)).mono ?_
    rintro e w5 ⟨A0_5, c0_5, rfl, o0_5, b5⟩
    have z5 := b5.size
    have B5 : Below w.heap.size w w5 := Below.trans (B4) (b5.mono (by omega))
    replace o0_3 := o0_3.below b5 (by omega)
    go_wp2_with (fail)
    refine (laws_eqInt64S' _ _ _ _ _ _ _ o0_3.ints o0_5.ints (by omega) (by omega)).mono ?_
    rintro e w6 ⟨rfl, b6⟩
    have z6 := b6.size
    have B6 : Below w.heap.size w w6 := Below.trans (B5) (b6.mono (by omega))
    replace o0_3 := o0_3.below b6 (by omega)
    replace o0_5 := o0_5.below b6 (by omega)
    go_wp2_with (fail)
    go_ret
    exact ⟨rfl, B6⟩
  · have hd0 : decide ((1048576 : Int) < (xs0.length : Nat)) = true := decide_eq_true (by omega)
    go_enter Tryd.func5, Tryd.ntmps5
    go_wp2_with (fail)
    go_ret
    exact ⟨rfl, Below.refl _ _⟩


end Go.Proofs.YtcgbogofmdjddaaDoor
