/- The walks of the laws, printed by exact.py. -/
import Derived.Test.YtcgbogofmdjddaaDoorZ15
namespace Go.Proofs.YtcgbogofmdjddaaDoor
open Go.RowKit

set_option maxHeartbeats 4000000 in
theorem law_FnExactReadPieces (s0 : ByteArray) (w : World) (l0 : s0.size ≤ 9223372036854775807) : Calls Tryd.prog 4 #[.string s0] w fun e w' => e = .returned (.bool true) ∧ Below w.heap.size w w' := by
  by_cases hle0 : s0.size ≤ 1048576
  · have hd0 : decide ((1048576 : Int) < (s0.size : Int)) = false := decide_eq_false (by omega)
    go_enter Tryd.func4, Tryd.ntmps4
    go_wp2_with (fail)
    refine (spec_ReadPiecesX _ _ (by omega)).mono ?_
    rintro e w1 ⟨A_w0, c_w0, rfl, o_w0, b1⟩
    have z1 := b1.size
    have B1 : Below w.heap.size w w1 := Below.trans (Below.refl _ _) (b1.mono (by omega))
    go_wp2_with (fail)
    refine (impl_ReadPiecesX _ _ (by omega)).mono ?_
    rintro e w2 ⟨A_g0, c_g0, rfl, o_g0, b2⟩
    have z2 := b2.size
    have B2 : Below w.heap.size w w2 := Below.trans (B1) (b2.mono (by omega))
    replace o_w0 := o_w0.below b2 (by omega)
    go_wp2_with (fail)
    refine (laws_eqPieceS _ _ _ _ _ _ _ o_g0.pieces o_w0.pieces (by have := rpP_length s0; omega) (by have := rpP_length s0; omega)).mono ?_
    rintro e w3 ⟨rfl, b3⟩
    have z3 := b3.size
    have B3 : Below w.heap.size w w3 := Below.trans (B2) (b3.mono (by omega))
    replace o_w0 := o_w0.below b3 (by omega)
    replace o_g0 := o_g0.below b3 (by omega)
    go_wp2_with (fail)
    refine (laws_markPieceS _ _ _ _ _ _ _ o_g0 (by omega) (by have := rpP_length s0; omega)).mono ?_
    rintro e w4 ⟨rfl, o_g0, b4⟩
    have z4 := b4.size
    have B4 : Below w.heap.size w w4 := Below.trans (B3) ((b4.below (by omega)).mono (by omega))
    replace o_w0 := o_w0.upd b4 (by omega)
    go_wp2_with (fail)
    refine (belowOf (laws_heldPieceS _ _ _ _ _ o_g0.pieces (by omega) (by have := rpP_length s0; omega))).mono ?_
    rintro e w5 ⟨rfl, b5⟩
    have z5 := b5.size
    have B5 : Below w.heap.size w w5 := Below.trans (B4) (b5.mono (by omega))
    replace o_w0 := o_w0.below b5 (by omega)
    replace o_g0 := o_g0.below b5 (by omega)
    go_wp2_with (fail)
    refine (impl_ReadPiecesX _ _ (by omega)).mono ?_
    rintro e w6 ⟨A_h0, c_h0, rfl, o_h0, b6⟩
    have z6 := b6.size
    have B6 : Below w.heap.size w w6 := Below.trans (B5) (b6.mono (by omega))
    replace o_w0 := o_w0.below b6 (by omega)
    replace o_g0 := o_g0.below b6 (by omega)
    go_wp2_with (fail)
    refine (laws_eqPieceS _ _ _ _ _ _ _ o_h0.pieces o_w0.pieces (by have := rpP_length s0; omega) (by have := rpP_length s0; omega)).mono ?_
    rintro e w7 ⟨rfl, b7⟩
    have z7 := b7.size
    have B7 : Below w.heap.size w w7 := Below.trans (B6) (b7.mono (by omega))
    replace o_w0 := o_w0.below b7 (by omega)
    replace o_g0 := o_g0.below b7 (by omega)
    replace o_h0 := o_h0.below b7 (by omega)
    go_wp2_with (fail)
    refine (belowOf (laws_heldPieceS _ _ _ _ _ o_g0.pieces (by omega) (by have := rpP_length s0; omega))).mono ?_
    rintro e w8 ⟨rfl, b8⟩
    have z8 := b8.size
    have B8 : Below w.heap.size w w8 := Below.trans (B7) (b8.mono (by omega))
    replace o_w0 := o_w0.below b8 (by omega)
    replace o_g0 := o_g0.below b8 (by omega)
    replace o_h0 := o_h0.below b8 (by omega)
    go_wp2_with (fail)
    go_ret
    exact ⟨rfl, B8⟩
  · have hd0 : decide ((1048576 : Int) < (s0.size : Int)) = true := decide_eq_true (by omega)
    go_enter Tryd.func4, Tryd.ntmps4
    go_wp2_with (fail)
    go_ret
    exact ⟨rfl, Below.refl _ _⟩


end Go.Proofs.YtcgbogofmdjddaaDoor
