/- The walks of the laws, printed by exact.py. -/
import Derived.Test.YtifjdiiafofnpaaDoorZ15
namespace Go.Proofs.YtifjdiiafofnpaaDoor
open Go.RowKit

set_option maxHeartbeats 4000000 in
theorem law_FnExactPiecesText (xs0 : List PieceD) (A0 : Option Addr) (c0 : Nat) (w : World) (h0 : Pieces w A0 xs0) (l0 : xs0.length ≤ 9223372036854775807) : Calls Tryd.prog 4 #[.slice A0 xs0.length c0] w fun e w' => e = .returned (.bool true) ∧ Below w.heap.size w w' := by
  by_cases hle0 : ((xs0.length : Nat) : Int) ≤ 1048576
  · have hz0 : szLeft (1048576) ((xs0.length : Nat) : Int) = 1048576 - ((xs0.length : Nat) : Int) := by rw [szLeft, if_neg (by omega)]
    have hd0 : decide (1048576 - ((xs0.length : Nat) : Int) < 0) = false := decide_eq_false (by omega)
    go_enter Tryd.func4, Tryd.ntmps4
    go_wp2_with (fail)
    refine (belowOf (laws_szPieceS _ _ _ _ _ l0 (by omega) (by omega))).mono ?_
    rintro e w1 ⟨rfl, b1⟩
    have z1 := b1.size
    have B1 : Below w.heap.size w w1 := Below.trans (Below.refl _ _) (b1.mono (by omega))
    go_wp2_with (fail)
    refine (laws_toPieceS _ _ _ _ (h0.below B1) (by omega)).mono ?_
    rintro e w2 ⟨A0_2, c0_2, rfl, o0_2, b2⟩
    have z2 := b2.size
    have B2 : Below w.heap.size w w2 := Below.trans (B1) (b2.mono (by omega))
    go_wp2_with (fail)
    refine (spec_PiecesText _ _ _ _ o0_2.pieces (by omega) o0_2.cap o0_2.capmax).mono ?_
    rintro e w3 ⟨rfl, b3⟩
    have z3 := b3.size
    have B3 : Below w.heap.size w w3 := Below.trans (B2) (b3.mono (by omega))
    replace o0_2 := o0_2.below b3 (by omega)
    go_wp2_with (fail)
    refine (laws_toPieceS _ _ _ _ (h0.below B3) (by omega)).mono ?_
    rintro e w4 ⟨A0_4, c0_4, rfl, o0_4, b4⟩
    have z4 := b4.size
    have B4 : Below w.heap.size w w4 := Below.trans (B3) (b4.mono (by omega))
    go_wp2_with (fail)
    refine (impl_PiecesText _ _ _ _ o0_4.pieces (by omega) o0_4.cap o0_4.capmax).mono ?_
    rintro e w5 ⟨rfl, b5⟩
    have z5 := b5.size
    have B5 : Below w.heap.size w w5 := Below.trans (B4) (b5.mono (by omega))
    replace o0_4 := o0_4.below b5 (by omega)
    go_wp2_with (fail)
    refine (laws_toPieceS _ _ _ _ (h0.below B5) (by omega)).mono ?_
    rintro e w6 ⟨A0_6, c0_6, rfl, o0_6, b6⟩
    have z6 := b6.size
    have B6 : Below w.heap.size w w6 := Below.trans (B5) (b6.mono (by omega))
    replace o0_4 := o0_4.below b6 (by omega)
    go_wp2_with (fail)
    refine (laws_eqPieceS _ _ _ _ _ _ _ o0_4.pieces o0_6.pieces (by omega) (by omega)).mono ?_
    rintro e w7 ⟨rfl, b7⟩
    have z7 := b7.size
    have B7 : Below w.heap.size w w7 := Below.trans (B6) (b7.mono (by omega))
    replace o0_4 := o0_4.below b7 (by omega)
    replace o0_6 := o0_6.below b7 (by omega)
    go_wp2_with (fail)
    go_ret
    exact ⟨rfl, B7⟩
  · have hz0 : szLeft (1048576) ((xs0.length : Nat) : Int) = -1 := by rw [szLeft, if_pos (by omega)]
    go_enter Tryd.func4, Tryd.ntmps4
    go_wp2_with (fail)
    refine (belowOf (laws_szPieceS _ _ _ _ _ l0 (by omega) (by omega))).mono ?_
    rintro e w1 ⟨rfl, b1⟩
    have z1 := b1.size
    have B1 : Below w.heap.size w w1 := Below.trans (Below.refl _ _) (b1.mono (by omega))
    go_wp2_with (fail)
    go_ret
    exact ⟨rfl, B1⟩


end Go.Proofs.YtifjdiiafofnpaaDoor
