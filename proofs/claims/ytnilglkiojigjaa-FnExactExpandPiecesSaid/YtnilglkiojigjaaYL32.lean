/- The walks of the laws, printed by exact.py. -/
import Derived.Test.YtnilglkiojigjaaZ25
namespace Go.Proofs.Ytnilglkiojigjaa
open Go.RowKit

set_option maxHeartbeats 4000000 in
theorem law_FnExactExpandPieces (xs0 : List PieceD) (A0 : Option Addr) (c0 : Nat) (x1 : Int) (w : World) (h0 : Pieces w A0 xs0) (l0 : xs0.length ≤ 9223372036854775807) (_wf1 : (Lit.int .i64 x1).wf = true) : Calls Try.prog 5 #[.slice A0 xs0.length c0, .int .i64 x1] w fun e w' => e = .returned (.bool true) ∧ Below w.heap.size w w' := by
  by_cases hle0 : ((xs0.length : Nat) : Int) ≤ 1048576
  · have hz0 : szLeft (1048576) ((xs0.length : Nat) : Int) = 1048576 - ((xs0.length : Nat) : Int) := by rw [szLeft, if_neg (by omega)]
    have hd0 : decide (1048576 - ((xs0.length : Nat) : Int) < 0) = false := decide_eq_false (by omega)
    go_enter Try.func5, Try.ntmps5
    go_wp2_with (fail)
    refine (belowOf (laws_szPieceS _ _ _ _ _ l0 (by omega) (by omega))).mono ?_
    rintro e w1 ⟨rfl, b1⟩
    have z1 := b1.size
    have B1 : Below w.heap.size w w1 := Below.trans (Below.refl _ _) (b1.mono (by omega))
    go_wp2_with (fail)
    refine (laws_toPieceS _ _ _ _ (h0.below B1) (by omega)).mono ?_
    rintro e w2 ⟨A0_2, c0_2, rfl, o0_2, b2⟩
    have z2 := b2.size
    have B2 : Below w.heap.size w w2 := Below.trans (B1) (b2.mono (by omega))
    go_wp2_with (fail)
    refine (spec_ExpandPieces _ _ _ _ _ o0_2.pieces (by omega) o0_2.cap o0_2.capmax).mono ?_
    rintro e w3 ⟨A_w0, c_w0, rfl, o_w0, b3⟩
    have z3 := b3.size
    have B3 : Below w.heap.size w w3 := Below.trans (B2) (b3.mono (by omega))
    replace o0_2 := o0_2.below b3 (by omega)
    go_wp2_with (fail)
    refine (laws_toPieceS _ _ _ _ (h0.below B3) (by omega)).mono ?_
    rintro e w4 ⟨A0_4, c0_4, rfl, o0_4, b4⟩
    have z4 := b4.size
    have B4 : Below w.heap.size w w4 := Below.trans (B3) (b4.mono (by omega))
    replace o_w0 := o_w0.below b4 (by omega)
    go_wp2_with (fail)
    refine (impl_ExpandPieces _ _ _ _ _ o0_4.pieces (by omega) o0_4.cap o0_4.capmax).mono ?_
    rintro e w5 ⟨A_g0, c_g0, rfl, o_g0, b5⟩
    have z5 := b5.size
    have B5 : Below w.heap.size w w5 := Below.trans (B4) (b5.mono (by omega))
    replace o_w0 := o_w0.below b5 (by omega)
    replace o0_4 := o0_4.below b5 (by omega)
    go_wp2_with (fail)
    refine (laws_eqInt64S' _ _ _ _ _ _ _ o_g0.ints o_w0.ints (by have := exRes_length xs0 x1; omega) (by have := exRes_length xs0 x1; omega)).mono ?_
    rintro e w6 ⟨rfl, b6⟩
    have z6 := b6.size
    have B6 : Below w.heap.size w w6 := Below.trans (B5) (b6.mono (by omega))
    replace o_w0 := o_w0.below b6 (by omega)
    replace o0_4 := o0_4.below b6 (by omega)
    replace o_g0 := o_g0.below b6 (by omega)
    go_wp2_with (fail)
    refine (laws_toPieceS _ _ _ _ (h0.below B6) (by omega)).mono ?_
    rintro e w7 ⟨A0_7, c0_7, rfl, o0_7, b7⟩
    have z7 := b7.size
    have B7 : Below w.heap.size w w7 := Below.trans (B6) (b7.mono (by omega))
    replace o_w0 := o_w0.below b7 (by omega)
    replace o0_4 := o0_4.below b7 (by omega)
    replace o_g0 := o_g0.below b7 (by omega)
    go_wp2_with (fail)
    refine (laws_eqPieceS _ _ _ _ _ _ _ o0_4.pieces o0_7.pieces (by omega) (by omega)).mono ?_
    rintro e w8 ⟨rfl, b8⟩
    have z8 := b8.size
    have B8 : Below w.heap.size w w8 := Below.trans (B7) (b8.mono (by omega))
    replace o_w0 := o_w0.below b8 (by omega)
    replace o0_4 := o0_4.below b8 (by omega)
    replace o_g0 := o_g0.below b8 (by omega)
    replace o0_7 := o0_7.below b8 (by omega)
    go_wp2_with (fail)
    refine (laws_markPieceS _ _ _ _ _ _ _ o0_4 (by omega) (by omega)).mono ?_
    rintro e w9 ⟨rfl, o0_4, b9⟩
    have z9 := b9.size
    have B9 : Below w.heap.size w w9 := Below.trans (B8) ((b9.below (by omega)).mono (by omega))
    replace o_w0 := o_w0.upd b9 (by omega)
    replace o_g0 := o_g0.upd b9 (by omega)
    go_wp2_with (fail)
    refine (laws_eqInt64S' _ _ _ _ _ _ _ o_g0.ints o_w0.ints (by have := exRes_length xs0 x1; omega) (by have := exRes_length xs0 x1; omega)).mono ?_
    rintro e w10 ⟨rfl, b10⟩
    have z10 := b10.size
    have B10 : Below w.heap.size w w10 := Below.trans (B9) (b10.mono (by omega))
    replace o_w0 := o_w0.below b10 (by omega)
    replace o0_4 := o0_4.below b10 (by omega)
    replace o_g0 := o_g0.below b10 (by omega)
    go_wp2_with (fail)
    refine (laws_markInt64S _ _ _ _ _ _ _ o_g0 (by omega) (by have := exRes_length xs0 x1; omega)).mono ?_
    rintro e w11 ⟨rfl, o_g0, b11⟩
    have z11 := b11.size
    have B11 : Below w.heap.size w w11 := Below.trans (B10) ((b11.below (by omega)).mono (by omega))
    replace o_w0 := o_w0.upd b11 (by omega)
    replace o0_4 := o0_4.upd b11 (by omega)
    go_wp2_with (fail)
    refine (belowOf (laws_heldInt64S _ _ _ _ _ o_g0.ints (by omega) (by have := exRes_length xs0 x1; omega))).mono ?_
    rintro e w12 ⟨rfl, b12⟩
    have z12 := b12.size
    have B12 : Below w.heap.size w w12 := Below.trans (B11) (b12.mono (by omega))
    replace o_w0 := o_w0.below b12 (by omega)
    replace o0_4 := o0_4.below b12 (by omega)
    replace o_g0 := o_g0.below b12 (by omega)
    go_wp2_with (fail)
    refine (laws_toPieceS _ _ _ _ (h0.below B12) (by omega)).mono ?_
    rintro e w13 ⟨A0_13, c0_13, rfl, o0_13, b13⟩
    have z13 := b13.size
    have B13 : Below w.heap.size w w13 := Below.trans (B12) (b13.mono (by omega))
    replace o_w0 := o_w0.below b13 (by omega)
    replace o0_4 := o0_4.below b13 (by omega)
    replace o_g0 := o_g0.below b13 (by omega)
    go_wp2_with (fail)
    refine (impl_ExpandPieces _ _ _ _ _ o0_13.pieces (by omega) o0_13.cap o0_13.capmax).mono ?_
    rintro e w14 ⟨A_h0, c_h0, rfl, o_h0, b14⟩
    have z14 := b14.size
    have B14 : Below w.heap.size w w14 := Below.trans (B13) (b14.mono (by omega))
    replace o_w0 := o_w0.below b14 (by omega)
    replace o0_4 := o0_4.below b14 (by omega)
    replace o_g0 := o_g0.below b14 (by omega)
    replace o0_13 := o0_13.below b14 (by omega)
    go_wp2_with (fail)
    refine (laws_eqInt64S' _ _ _ _ _ _ _ o_h0.ints o_w0.ints (by have := exRes_length xs0 x1; omega) (by have := exRes_length xs0 x1; omega)).mono ?_
    rintro e w15 ⟨rfl, b15⟩
    have z15 := b15.size
    have B15 : Below w.heap.size w w15 := Below.trans (B14) (b15.mono (by omega))
    replace o_w0 := o_w0.below b15 (by omega)
    replace o0_4 := o0_4.below b15 (by omega)
    replace o_g0 := o_g0.below b15 (by omega)
    replace o_h0 := o_h0.below b15 (by omega)
    go_wp2_with (fail)
    refine (belowOf (laws_heldInt64S _ _ _ _ _ o_g0.ints (by omega) (by have := exRes_length xs0 x1; omega))).mono ?_
    rintro e w16 ⟨rfl, b16⟩
    have z16 := b16.size
    have B16 : Below w.heap.size w w16 := Below.trans (B15) (b16.mono (by omega))
    replace o_w0 := o_w0.below b16 (by omega)
    replace o0_4 := o0_4.below b16 (by omega)
    replace o_g0 := o_g0.below b16 (by omega)
    replace o_h0 := o_h0.below b16 (by omega)
    go_wp2_with (fail)
    go_ret
    exact ⟨rfl, B16⟩
  · have hz0 : szLeft (1048576) ((xs0.length : Nat) : Int) = -1 := by rw [szLeft, if_pos (by omega)]
    go_enter Try.func5, Try.ntmps5
    go_wp2_with (fail)
    refine (belowOf (laws_szPieceS _ _ _ _ _ l0 (by omega) (by omega))).mono ?_
    rintro e w1 ⟨rfl, b1⟩
    have z1 := b1.size
    have B1 : Below w.heap.size w w1 := Below.trans (Below.refl _ _) (b1.mono (by omega))
    go_wp2_with (fail)
    go_ret
    exact ⟨rfl, B1⟩


end Go.Proofs.Ytnilglkiojigjaa
