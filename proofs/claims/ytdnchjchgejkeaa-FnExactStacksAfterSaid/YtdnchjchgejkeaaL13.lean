/- The walks of the laws, printed by exact.py. -/
import Derived.Test.YtdnchjchgejkeaaSB
namespace Go.Proofs.Ytdnchjchgejkeaa
open Go.RowKit

set_option maxHeartbeats 4000000 in
theorem law_FnExactStacksAfter (xs0 : List Int) (A0 : Option Addr) (c0 : Nat) (xs1 : List Int) (A1 : Option Addr) (c1 : Nat) (w : World) (h0 : Ints w A0 xs0) (l0 : xs0.length ≤ 9223372036854775807) (h1 : Ints w A1 xs1) (l1 : xs1.length ≤ 9223372036854775807) : Calls Try.prog 11 #[.slice A0 xs0.length c0, .slice A1 xs1.length c1] w fun e w' => e = .returned (.bool true) ∧ Below w.heap.size w w' := by
  by_cases hle0 : xs0.length ≤ 1048576
  · have hd0 : decide ((1048576 : Int) < (xs0.length : Nat)) = false := decide_eq_false (by omega)
    by_cases hle1 : xs1.length ≤ 1048576
    · have hd1 : decide ((1048576 : Int) < (xs1.length : Nat)) = false := decide_eq_false (by omega)
      go_enter Try.func11, Try.ntmps11
      go_wp2_with (fail)
      refine (laws_toInt64S _ _ _ _ h0 (by omega)).mono ?_
      rintro e w1 ⟨A0_1, c0_1, rfl, o0_1, b1⟩
      have z1 := b1.size
      have B1 : Below w.heap.size w w1 := Below.trans (Below.refl _ _) (b1.mono (by omega))
      go_wp2_with (fail)
      refine (laws_toInt64S _ _ _ _ (h1.below B1) (by omega)).mono ?_
      rintro e w2 ⟨A1_2, c1_2, rfl, o1_2, b2⟩
      have z2 := b2.size
      have B2 : Below w.heap.size w w2 := Below.trans (B1) (b2.mono (by omega))
      replace o0_1 := o0_1.below b2 (by omega)
      go_wp2_with (fail)
      refine (spec_StacksAfter _ _ _ _ _ _ _ o0_1.ints (by omega) o1_2.ints (by omega)).mono ?_
      rintro e w3 ⟨A_w0, c_w0, rfl, o_w0, b3⟩
      have z3 := b3.size
      have B3 : Below w.heap.size w w3 := Below.trans (B2) (b3.mono (by omega))
      replace o0_1 := o0_1.below b3 (by omega)
      replace o1_2 := o1_2.below b3 (by omega)
      go_wp2_with (fail)
      refine (laws_toInt64S _ _ _ _ (h0.below B3) (by omega)).mono ?_
      rintro e w4 ⟨A0_4, c0_4, rfl, o0_4, b4⟩
      have z4 := b4.size
      have B4 : Below w.heap.size w w4 := Below.trans (B3) (b4.mono (by omega))
      replace o_w0 := o_w0.below b4 (by omega)
      go_wp2_with (fail)
      refine (laws_toInt64S _ _ _ _ (h1.below B4) (by omega)).mono ?_
      rintro e w5 ⟨A1_5, c1_5, rfl, o1_5, b5⟩
      have z5 := b5.size
      have B5 : Below w.heap.size w w5 := Below.trans (B4) (b5.mono (by omega))
      replace o_w0 := o_w0.below b5 (by omega)
      replace o0_4 := o0_4.below b5 (by omega)
      go_wp2_with (fail)
      refine (impl_StacksAfter _ _ _ _ _ _ _ o0_4.ints (by omega) o0_4.cap o0_4.capmax o0_4.nilc o1_5.ints (by omega)).mono ?_
      rintro e w6 ⟨A_g0, c_g0, rfl, o_g0, b6⟩
      have z6 := b6.size
      have B6 : Below w.heap.size w w6 := Below.trans (B5) (b6.mono (by omega))
      replace o_w0 := o_w0.below b6 (by omega)
      replace o0_4 := o0_4.below b6 (by omega)
      replace o1_5 := o1_5.below b6 (by omega)
      go_wp2_with (fail)
      refine (laws_eqInt64S' _ _ _ _ _ _ _ o_g0.ints o_w0.ints (by have := stacksAfterP_length xs0 xs1; omega) (by have := stacksAfterP_length xs0 xs1; omega)).mono ?_
      rintro e w7 ⟨rfl, b7⟩
      have z7 := b7.size
      have B7 : Below w.heap.size w w7 := Below.trans (B6) (b7.mono (by omega))
      replace o_w0 := o_w0.below b7 (by omega)
      replace o0_4 := o0_4.below b7 (by omega)
      replace o1_5 := o1_5.below b7 (by omega)
      replace o_g0 := o_g0.below b7 (by omega)
      go_wp2_with (fail)
      refine (laws_toInt64S _ _ _ _ (h0.below B7) (by omega)).mono ?_
      rintro e w8 ⟨A0_8, c0_8, rfl, o0_8, b8⟩
      have z8 := b8.size
      have B8 : Below w.heap.size w w8 := Below.trans (B7) (b8.mono (by omega))
      replace o_w0 := o_w0.below b8 (by omega)
      replace o0_4 := o0_4.below b8 (by omega)
      replace o1_5 := o1_5.below b8 (by omega)
      replace o_g0 := o_g0.below b8 (by omega)
      go_wp2_with (fail)
      refine (laws_eqInt64S' _ _ _ _ _ _ _ o0_4.ints o0_8.ints (by omega) (by omega)).mono ?_
      rintro e w9 ⟨rfl, b9⟩
      have z9 := b9.size
      have B9 : Below w.heap.size w w9 := Below.trans (B8) (b9.mono (by omega))
      replace o_w0 := o_w0.below b9 (by omega)
      replace o0_4 := o0_4.below b9 (by omega)
      replace o1_5 := o1_5.below b9 (by omega)
      replace o_g0 := o_g0.below b9 (by omega)
      replace o0_8 := o0_8.below b9 (by omega)
      go_wp2_with (fail)
      refine (laws_toInt64S _ _ _ _ (h1.below B9) (by omega)).mono ?_
      rintro e w10 ⟨A1_10, c1_10, rfl, o1_10, b10⟩
      have z10 := b10.size
      have B10 : Below w.heap.size w w10 := Below.trans (B9) (b10.mono (by omega))
      replace o_w0 := o_w0.below b10 (by omega)
      replace o0_4 := o0_4.below b10 (by omega)
      replace o1_5 := o1_5.below b10 (by omega)
      replace o_g0 := o_g0.below b10 (by omega)
      go_wp2_with (fail)
      refine (laws_eqInt64S' _ _ _ _ _ _ _ o1_5.ints o1_10.ints (by omega) (by omega)).mono ?_
      rintro e w11 ⟨rfl, b11⟩
      have z11 := b11.size
      have B11 : Below w.heap.size w w11 := Below.trans (B10) (b11.mono (by omega))
      replace o_w0 := o_w0.below b11 (by omega)
      replace o0_4 := o0_4.below b11 (by omega)
      replace o1_5 := o1_5.below b11 (by omega)
      replace o_g0 := o_g0.below b11 (by omega)
      replace o1_10 := o1_10.below b11 (by omega)
      go_wp2_with (fail)
      refine (laws_markInt64S _ _ _ _ _ _ _ o0_4 (by omega) (by omega)).mono ?_
      rintro e w12 ⟨rfl, o0_4, b12⟩
      have z12 := b12.size
      have B12 : Below w.heap.size w w12 := Below.trans (B11) ((b12.below (by omega)).mono (by omega))
      replace o_w0 := o_w0.upd b12 (by omega)
      replace o1_5 := o1_5.upd b12 (by omega)
      replace o_g0 := o_g0.upd b12 (by omega)
      go_wp2_with (fail)
      refine (laws_markInt64S _ _ _ _ _ _ _ o1_5 (by omega) (by omega)).mono ?_
      rintro e w13 ⟨rfl, o1_5, b13⟩
      have z13 := b13.size
      have B13 : Below w.heap.size w w13 := Below.trans (B12) ((b13.below (by omega)).mono (by omega))
      replace o_w0 := o_w0.upd b13 (by omega)
      replace o0_4 := o0_4.upd b13 (by omega)
      replace o_g0 := o_g0.upd b13 (by omega)
      go_wp2_with (fail)
      refine (laws_eqInt64S' _ _ _ _ _ _ _ o_g0.ints o_w0.ints (by have := stacksAfterP_length xs0 xs1; omega) (by have := stacksAfterP_length xs0 xs1; omega)).mono ?_
      rintro e w14 ⟨rfl, b14⟩
      have z14 := b14.size
      have B14 : Below w.heap.size w w14 := Below.trans (B13) (b14.mono (by omega))
      replace o_w0 := o_w0.below b14 (by omega)
      replace o0_4 := o0_4.below b14 (by omega)
      replace o1_5 := o1_5.below b14 (by omega)
      replace o_g0 := o_g0.below b14 (by omega)
      go_wp2_with (fail)
      refine (laws_markInt64S _ _ _ _ _ _ _ o_g0 (by omega) (by have := stacksAfterP_length xs0 xs1; omega)).mono ?_
      rintro e w15 ⟨rfl, o_g0, b15⟩
      have z15 := b15.size
      have B15 : Below w.heap.size w w15 := Below.trans (B14) ((b15.below (by omega)).mono (by omega))
      replace o_w0 := o_w0.upd b15 (by omega)
      replace o0_4 := o0_4.upd b15 (by omega)
      replace o1_5 := o1_5.upd b15 (by omega)
      go_wp2_with (fail)
      refine (belowOf (laws_heldInt64S _ _ _ _ _ o_g0.ints (by omega) (by have := stacksAfterP_length xs0 xs1; omega))).mono ?_
      rintro e w16 ⟨rfl, b16⟩
      have z16 := b16.size
      have B16 : Below w.heap.size w w16 := Below.trans (B15) (b16.mono (by omega))
      replace o_w0 := o_w0.below b16 (by omega)
      replace o0_4 := o0_4.below b16 (by omega)
      replace o1_5 := o1_5.below b16 (by omega)
      replace o_g0 := o_g0.below b16 (by omega)
      go_wp2_with (fail)
      refine (laws_toInt64S _ _ _ _ (h0.below B16) (by omega)).mono ?_
      rintro e w17 ⟨A0_17, c0_17, rfl, o0_17, b17⟩
      have z17 := b17.size
      have B17 : Below w.heap.size w w17 := Below.trans (B16) (b17.mono (by omega))
      replace o_w0 := o_w0.below b17 (by omega)
      replace o0_4 := o0_4.below b17 (by omega)
      replace o1_5 := o1_5.below b17 (by omega)
      replace o_g0 := o_g0.below b17 (by omega)
      go_wp2_with (fail)
      refine (laws_toInt64S _ _ _ _ (h1.below B17) (by omega)).mono ?_
      rintro e w18 ⟨A1_18, c1_18, rfl, o1_18, b18⟩
      have z18 := b18.size
      have B18 : Below w.heap.size w w18 := Below.trans (B17) (b18.mono (by omega))
      replace o_w0 := o_w0.below b18 (by omega)
      replace o0_4 := o0_4.below b18 (by omega)
      replace o1_5 := o1_5.below b18 (by omega)
      replace o_g0 := o_g0.below b18 (by omega)
      replace o0_17 := o0_17.below b18 (by omega)
      go_wp2_with (fail)
      refine (impl_StacksAfter _ _ _ _ _ _ _ o0_17.ints (by omega) o0_17.cap o0_17.capmax o0_17.nilc o1_18.ints (by omega)).mono ?_
      rintro e w19 ⟨A_h0, c_h0, rfl, o_h0, b19⟩
      have z19 := b19.size
      have B19 : Below w.heap.size w w19 := Below.trans (B18) (b19.mono (by omega))
      replace o_w0 := o_w0.below b19 (by omega)
      replace o0_4 := o0_4.below b19 (by omega)
      replace o1_5 := o1_5.below b19 (by omega)
      replace o_g0 := o_g0.below b19 (by omega)
      replace o0_17 := o0_17.below b19 (by omega)
      replace o1_18 := o1_18.below b19 (by omega)
      go_wp2_with (fail)
      refine (laws_eqInt64S' _ _ _ _ _ _ _ o_h0.ints o_w0.ints (by have := stacksAfterP_length xs0 xs1; omega) (by have := stacksAfterP_length xs0 xs1; omega)).mono ?_
      rintro e w20 ⟨rfl, b20⟩
      have z20 := b20.size
      have B20 : Below w.heap.size w w20 := Below.trans (B19) (b20.mono (by omega))
      replace o_w0 := o_w0.below b20 (by omega)
      replace o0_4 := o0_4.below b20 (by omega)
      replace o1_5 := o1_5.below b20 (by omega)
      replace o_g0 := o_g0.below b20 (by omega)
      replace o_h0 := o_h0.below b20 (by omega)
      go_wp2_with (fail)
      refine (belowOf (laws_heldInt64S _ _ _ _ _ o_g0.ints (by omega) (by have := stacksAfterP_length xs0 xs1; omega))).mono ?_
      rintro e w21 ⟨rfl, b21⟩
      have z21 := b21.size
      have B21 : Below w.heap.size w w21 := Below.trans (B20) (b21.mono (by omega))
      replace o_w0 := o_w0.below b21 (by omega)
      replace o0_4 := o0_4.below b21 (by omega)
      replace o1_5 := o1_5.below b21 (by omega)
      replace o_g0 := o_g0.below b21 (by omega)
      replace o_h0 := o_h0.below b21 (by omega)
      go_wp2_with (fail)
      go_ret
      exact ⟨rfl, B21⟩
    · have hd1 : decide ((1048576 : Int) < (xs1.length : Nat)) = true := decide_eq_true (by omega)
      go_enter Try.func11, Try.ntmps11
      go_wp2_with (fail)
      go_ret
      exact ⟨rfl, Below.refl _ _⟩
  · have hd0 : decide ((1048576 : Int) < (xs0.length : Nat)) = true := decide_eq_true (by omega)
    go_enter Try.func11, Try.ntmps11
    go_wp2_with (fail)
    go_ret
    exact ⟨rfl, Below.refl _ _⟩


end Go.Proofs.Ytdnchjchgejkeaa
