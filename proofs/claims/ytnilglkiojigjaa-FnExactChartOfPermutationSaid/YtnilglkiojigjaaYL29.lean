/- The walks of the laws, printed by exact.py. -/
import Derived.Test.YtnilglkiojigjaaZ17
namespace Go.Proofs.Ytnilglkiojigjaa
open Go.RowKit

set_option maxHeartbeats 4000000 in
theorem law_FnExactChartOfPermutation (xs0 : List Int) (A0 : Option Addr) (c0 : Nat) (x1 : Int) (w : World) (h0 : Ints w A0 xs0) (l0 : xs0.length ≤ 9223372036854775807) (_wf1 : (Lit.int .i64 x1).wf = true) : Calls Try.prog 3 #[.slice A0 xs0.length c0, .int .i64 x1] w fun e w' => e = .returned (.bool true) ∧ Below w.heap.size w w' := by
  by_cases hle0 : xs0.length ≤ 1048576
  · have hd0 : decide ((1048576 : Int) < (xs0.length : Nat)) = false := decide_eq_false (by omega)
    go_enter Try.func3, Try.ntmps3
    go_wp2_with (fail)
    refine (laws_toInt64S _ _ _ _ h0 (by omega)).mono ?_
    rintro e w1 ⟨A0_1, c0_1, rfl, o0_1, b1⟩
    have z1 := b1.size
    have B1 : Below w.heap.size w w1 := Below.trans (Below.refl _ _) (b1.mono (by omega))
    go_wp2_with (fail)
    refine (spec_ChartOfPermutation _ _ _ _ _ o0_1.ints (by omega)).mono ?_
    rintro e w2 ⟨A_w0, c_w0, rfl, o_w0, b2⟩
    have z2 := b2.size
    have B2 : Below w.heap.size w w2 := Below.trans (B1) (b2.mono (by omega))
    replace o0_1 := o0_1.below b2 (by omega)
    go_wp2_with (fail)
    refine (laws_toInt64S _ _ _ _ ((h0.below B2).below ?hb0) (by omega)).mono ?_
    case hb0 => (repeat (first | exact Below.refl _ _ | assumption | apply Below.drew | apply below_drewN | (refine Below.alloc ?_ (by first | omega | (simp; done) | (simp; omega)) _) | (refine Below.setCell ?_ (by first | omega | (simp; done) | (simp; omega)) _)))
    rintro e w3 ⟨A0_3, c0_3, rfl, o0_3, b3⟩
    simp only [World.size_alloc] at o0_3 b3
    have b3' : Below w2.heap.size w2 w3 := Below.trans (by (repeat (first | exact Below.refl _ _ | assumption | apply Below.drew | apply below_drewN | (refine Below.alloc ?_ (by first | omega | (simp; done) | (simp; omega)) _) | (refine Below.setCell ?_ (by first | omega | (simp; done) | (simp; omega)) _)))) (b3.mono (by first | omega | (simp; done) | (simp; omega)))
    have z3 : w2.heap.size + 1 ≤ w3.heap.size := by have := b3.size; simpa using this
    have B3 : Below w.heap.size w w3 := Below.trans (B2) (b3'.mono (by omega))
    have k0 : Blk w3 (w2.heap.size) 25 #[.int .i64 ((copX xs0 x1)).n, .slice A_w0 ((copX xs0 x1)).xs.length c_w0] := Blk.below (Blk.new w2 25 #[.int .i64 ((copX xs0 x1)).n, .slice A_w0 ((copX xs0 x1)).xs.length c_w0]) b3 (by first | omega | (simp; done) | (simp; omega))
    obtain ⟨pk0_0, pk0_1⟩ := k0.c2
    replace o_w0 := o_w0.below b3' (by omega)
    go_wp2_with (fail)
    refine (impl_ChartOfPermutation _ _ _ _ _ o0_3.ints (by omega)).mono ?_
    rintro e w4 ⟨A_g0, c_g0, rfl, o_g0, b4⟩
    have z4 := b4.size
    have B4 : Below w.heap.size w w4 := Below.trans (B3) (b4.mono (by omega))
    replace k0 : Blk w4 (w2.heap.size) 25 #[.int .i64 ((copX xs0 x1)).n, .slice A_w0 ((copX xs0 x1)).xs.length c_w0] := k0.below b4 (by omega)
    obtain ⟨pk0_0, pk0_1⟩ := k0.c2
    replace o_w0 := o_w0.below b4 (by omega)
    replace o0_3 := o0_3.below b4 (by omega)
    obtain ⟨qk0_0, qk0_1⟩ := (Blk.alloc k0 (.cells #[.int .i64 ((copX xs0 x1)).n, .slice A_g0 ((copX xs0 x1)).xs.length c_g0] 25)).c2
    go_wp2_with (fail)
    refine (laws_eqChart _ _ _ _ _ _ _ _ _ (o_g0.rowsR.below ?hb0) (o_w0.rowsR.below ?hb1) (by have := copX_size xs0 x1; omega) (by have := copX_size xs0 x1; omega)).mono ?_
    case hb0 => (repeat (first | exact Below.refl _ _ | assumption | apply Below.drew | apply below_drewN | (refine Below.alloc ?_ (by first | omega | (simp; done) | (simp; omega)) _) | (refine Below.setCell ?_ (by first | omega | (simp; done) | (simp; omega)) _)))
    case hb1 => (repeat (first | exact Below.refl _ _ | assumption | apply Below.drew | apply below_drewN | (refine Below.alloc ?_ (by first | omega | (simp; done) | (simp; omega)) _) | (refine Below.setCell ?_ (by first | omega | (simp; done) | (simp; omega)) _)))
    rintro e w5 ⟨rfl, b5⟩
    simp only [World.size_alloc] at b5
    have b5' : Below w4.heap.size w4 w5 := Below.trans (by (repeat (first | exact Below.refl _ _ | assumption | apply Below.drew | apply below_drewN | (refine Below.alloc ?_ (by first | omega | (simp; done) | (simp; omega)) _) | (refine Below.setCell ?_ (by first | omega | (simp; done) | (simp; omega)) _)))) (b5.mono (by first | omega | (simp; done) | (simp; omega)))
    have z5 : w4.heap.size + 1 ≤ w5.heap.size := by have := b5.size; simpa using this
    have B5 : Below w.heap.size w w5 := Below.trans (B4) (b5'.mono (by omega))
    replace k0 : Blk w5 (w2.heap.size) 25 #[.int .i64 ((copX xs0 x1)).n, .slice A_w0 ((copX xs0 x1)).xs.length c_w0] := k0.below b5' (by omega)
    obtain ⟨pk0_0, pk0_1⟩ := k0.c2
    have k1 : Blk w5 (w4.heap.size) 25 #[.int .i64 ((copX xs0 x1)).n, .slice A_g0 ((copX xs0 x1)).xs.length c_g0] := Blk.below (Blk.new w4 25 #[.int .i64 ((copX xs0 x1)).n, .slice A_g0 ((copX xs0 x1)).xs.length c_g0]) b5 (by first | omega | (simp; done) | (simp; omega))
    obtain ⟨pk1_0, pk1_1⟩ := k1.c2
    replace o_w0 := o_w0.below b5' (by omega)
    replace o0_3 := o0_3.below b5' (by omega)
    replace o_g0 := o_g0.below b5' (by omega)
    go_wp2_with (fail)
    refine (laws_toInt64S _ _ _ _ (h0.below B5) (by omega)).mono ?_
    rintro e w6 ⟨A0_6, c0_6, rfl, o0_6, b6⟩
    have z6 := b6.size
    have B6 : Below w.heap.size w w6 := Below.trans (B5) (b6.mono (by omega))
    replace k0 : Blk w6 (w2.heap.size) 25 #[.int .i64 ((copX xs0 x1)).n, .slice A_w0 ((copX xs0 x1)).xs.length c_w0] := k0.below b6 (by omega)
    obtain ⟨pk0_0, pk0_1⟩ := k0.c2
    replace k1 : Blk w6 (w4.heap.size) 25 #[.int .i64 ((copX xs0 x1)).n, .slice A_g0 ((copX xs0 x1)).xs.length c_g0] := k1.below b6 (by omega)
    obtain ⟨pk1_0, pk1_1⟩ := k1.c2
    replace o_w0 := o_w0.below b6 (by omega)
    replace o0_3 := o0_3.below b6 (by omega)
    replace o_g0 := o_g0.below b6 (by omega)
    go_wp2_with (fail)
    refine (laws_eqInt64S' _ _ _ _ _ _ _ o0_3.ints o0_6.ints (by omega) (by omega)).mono ?_
    rintro e w7 ⟨rfl, b7⟩
    have z7 := b7.size
    have B7 : Below w.heap.size w w7 := Below.trans (B6) (b7.mono (by omega))
    replace k0 : Blk w7 (w2.heap.size) 25 #[.int .i64 ((copX xs0 x1)).n, .slice A_w0 ((copX xs0 x1)).xs.length c_w0] := k0.below b7 (by omega)
    obtain ⟨pk0_0, pk0_1⟩ := k0.c2
    replace k1 : Blk w7 (w4.heap.size) 25 #[.int .i64 ((copX xs0 x1)).n, .slice A_g0 ((copX xs0 x1)).xs.length c_g0] := k1.below b7 (by omega)
    obtain ⟨pk1_0, pk1_1⟩ := k1.c2
    replace o_w0 := o_w0.below b7 (by omega)
    replace o0_3 := o0_3.below b7 (by omega)
    replace o_g0 := o_g0.below b7 (by omega)
    replace o0_6 := o0_6.below b7 (by omega)
    go_wp2_with (fail)
    refine (laws_markInt64S _ _ _ _ _ _ _ o0_3 (by omega) (by omega)).mono ?_
    rintro e w8 ⟨rfl, o0_3, b8⟩
    have z8 := b8.size
    have B8 : Below w.heap.size w w8 := Below.trans (B7) ((b8.below (by omega)).mono (by omega))
    replace k0 : Blk w8 (w2.heap.size) 25 #[.int .i64 ((copX xs0 x1)).n, .slice A_w0 ((copX xs0 x1)).xs.length c_w0] := k0.upd b8 (by omega)
    obtain ⟨pk0_0, pk0_1⟩ := k0.c2
    replace k1 : Blk w8 (w4.heap.size) 25 #[.int .i64 ((copX xs0 x1)).n, .slice A_g0 ((copX xs0 x1)).xs.length c_g0] := k1.upd b8 (by omega)
    obtain ⟨pk1_0, pk1_1⟩ := k1.c2
    replace o_w0 := o_w0.upd b8 (by omega)
    replace o_g0 := o_g0.upd b8 (by omega)
    go_wp2_with (fail)
    refine (laws_eqChart _ _ _ _ _ _ _ _ _ o_g0.rowsR o_w0.rowsR (by have := copX_size xs0 x1; omega) (by have := copX_size xs0 x1; omega)).mono ?_
    rintro e w9 ⟨rfl, b9⟩
    have z9 := b9.size
    have B9 : Below w.heap.size w w9 := Below.trans (B8) (b9.mono (by omega))
    replace k0 : Blk w9 (w2.heap.size) 25 #[.int .i64 ((copX xs0 x1)).n, .slice A_w0 ((copX xs0 x1)).xs.length c_w0] := k0.below b9 (by omega)
    obtain ⟨pk0_0, pk0_1⟩ := k0.c2
    replace k1 : Blk w9 (w4.heap.size) 25 #[.int .i64 ((copX xs0 x1)).n, .slice A_g0 ((copX xs0 x1)).xs.length c_g0] := k1.below b9 (by omega)
    obtain ⟨pk1_0, pk1_1⟩ := k1.c2
    replace o_w0 := o_w0.below b9 (by omega)
    replace o0_3 := o0_3.below b9 (by omega)
    replace o_g0 := o_g0.below b9 (by omega)
    go_wp2_with (fail)
    refine (laws_markChart _ _ _ _ _ _ _ _ o_g0 (by omega) (by have := copX_size xs0 x1; omega)).mono ?_
    rintro e w10 ⟨rfl, o_g0, b10⟩
    have z10 := b10.size
    have B10 : Below w.heap.size w w10 := Below.trans (B9) ((b10.below (by omega)).mono (by omega))
    replace k0 : Blk w10 (w2.heap.size) 25 #[.int .i64 ((copX xs0 x1)).n, .slice A_w0 ((copX xs0 x1)).xs.length c_w0] := k0.upd b10 (by omega)
    obtain ⟨pk0_0, pk0_1⟩ := k0.c2
    replace k1 : Blk w10 (w4.heap.size) 25 #[.int .i64 ((copX xs0 x1)).n, .slice A_g0 ((copX xs0 x1)).xs.length c_g0] := k1.upd b10 (by omega)
    obtain ⟨pk1_0, pk1_1⟩ := k1.c2
    replace o_w0 := o_w0.upd b10 (by omega)
    replace o0_3 := o0_3.upd b10 (by omega)
    go_wp2_with (fail)
    refine (laws_heldChart _ _ _ _ _ _ o_g0.rowsR (by omega) (by have := copX_size xs0 x1; omega) (by have := copX_size xs0 x1; omega)).mono ?_
    rintro e w11 ⟨rfl, b11⟩
    have z11 := b11.size
    have B11 : Below w.heap.size w w11 := Below.trans (B10) (b11.mono (by omega))
    replace k0 : Blk w11 (w2.heap.size) 25 #[.int .i64 ((copX xs0 x1)).n, .slice A_w0 ((copX xs0 x1)).xs.length c_w0] := k0.below b11 (by omega)
    obtain ⟨pk0_0, pk0_1⟩ := k0.c2
    replace k1 : Blk w11 (w4.heap.size) 25 #[.int .i64 ((copX xs0 x1)).n, .slice A_g0 ((copX xs0 x1)).xs.length c_g0] := k1.below b11 (by omega)
    obtain ⟨pk1_0, pk1_1⟩ := k1.c2
    replace o_w0 := o_w0.below b11 (by omega)
    replace o0_3 := o0_3.below b11 (by omega)
    replace o_g0 := o_g0.below b11 (by omega)
    go_wp2_with (fail)
    refine (laws_toInt64S _ _ _ _ (h0.below B11) (by omega)).mono ?_
    rintro e w12 ⟨A0_12, c0_12, rfl, o0_12, b12⟩
    have z12 := b12.size
    have B12 : Below w.heap.size w w12 := Below.trans (B11) (b12.mono (by omega))
    replace k0 : Blk w12 (w2.heap.size) 25 #[.int .i64 ((copX xs0 x1)).n, .slice A_w0 ((copX xs0 x1)).xs.length c_w0] := k0.below b12 (by omega)
    obtain ⟨pk0_0, pk0_1⟩ := k0.c2
    replace k1 : Blk w12 (w4.heap.size) 25 #[.int .i64 ((copX xs0 x1)).n, .slice A_g0 ((copX xs0 x1)).xs.length c_g0] := k1.below b12 (by omega)
    obtain ⟨pk1_0, pk1_1⟩ := k1.c2
    replace o_w0 := o_w0.below b12 (by omega)
    replace o0_3 := o0_3.below b12 (by omega)
    replace o_g0 := o_g0.below b12 (by omega)
    go_wp2_with (fail)
    refine (impl_ChartOfPermutation _ _ _ _ _ o0_12.ints (by omega)).mono ?_
    rintro e w13 ⟨A_h0, c_h0, rfl, o_h0, b13⟩
    have z13 := b13.size
    have B13 : Below w.heap.size w w13 := Below.trans (B12) (b13.mono (by omega))
    replace k0 : Blk w13 (w2.heap.size) 25 #[.int .i64 ((copX xs0 x1)).n, .slice A_w0 ((copX xs0 x1)).xs.length c_w0] := k0.below b13 (by omega)
    obtain ⟨pk0_0, pk0_1⟩ := k0.c2
    replace k1 : Blk w13 (w4.heap.size) 25 #[.int .i64 ((copX xs0 x1)).n, .slice A_g0 ((copX xs0 x1)).xs.length c_g0] := k1.below b13 (by omega)
    obtain ⟨pk1_0, pk1_1⟩ := k1.c2
    replace o_w0 := o_w0.below b13 (by omega)
    replace o0_3 := o0_3.below b13 (by omega)
    replace o_g0 := o_g0.below b13 (by omega)
    replace o0_12 := o0_12.below b13 (by omega)
    obtain ⟨qk0_0, qk0_1⟩ := (Blk.alloc k0 (.cells #[.int .i64 ((copX xs0 x1)).n, .slice A_h0 ((copX xs0 x1)).xs.length c_h0] 25)).c2
    obtain ⟨qk1_0, qk1_1⟩ := (Blk.alloc k1 (.cells #[.int .i64 ((copX xs0 x1)).n, .slice A_h0 ((copX xs0 x1)).xs.length c_h0] 25)).c2
    go_wp2_with (fail)
    refine (laws_eqChart _ _ _ _ _ _ _ _ _ (o_h0.rowsR.below ?hb0) (o_w0.rowsR.below ?hb1) (by have := copX_size xs0 x1; omega) (by have := copX_size xs0 x1; omega)).mono ?_
    case hb0 => (repeat (first | exact Below.refl _ _ | assumption | apply Below.drew | apply below_drewN | (refine Below.alloc ?_ (by first | omega | (simp; done) | (simp; omega)) _) | (refine Below.setCell ?_ (by first | omega | (simp; done) | (simp; omega)) _)))
    case hb1 => (repeat (first | exact Below.refl _ _ | assumption | apply Below.drew | apply below_drewN | (refine Below.alloc ?_ (by first | omega | (simp; done) | (simp; omega)) _) | (refine Below.setCell ?_ (by first | omega | (simp; done) | (simp; omega)) _)))
    rintro e w14 ⟨rfl, b14⟩
    simp only [World.size_alloc] at b14
    have b14' : Below w13.heap.size w13 w14 := Below.trans (by (repeat (first | exact Below.refl _ _ | assumption | apply Below.drew | apply below_drewN | (refine Below.alloc ?_ (by first | omega | (simp; done) | (simp; omega)) _) | (refine Below.setCell ?_ (by first | omega | (simp; done) | (simp; omega)) _)))) (b14.mono (by first | omega | (simp; done) | (simp; omega)))
    have z14 : w13.heap.size + 1 ≤ w14.heap.size := by have := b14.size; simpa using this
    have B14 : Below w.heap.size w w14 := Below.trans (B13) (b14'.mono (by omega))
    replace k0 : Blk w14 (w2.heap.size) 25 #[.int .i64 ((copX xs0 x1)).n, .slice A_w0 ((copX xs0 x1)).xs.length c_w0] := k0.below b14' (by omega)
    obtain ⟨pk0_0, pk0_1⟩ := k0.c2
    replace k1 : Blk w14 (w4.heap.size) 25 #[.int .i64 ((copX xs0 x1)).n, .slice A_g0 ((copX xs0 x1)).xs.length c_g0] := k1.below b14' (by omega)
    obtain ⟨pk1_0, pk1_1⟩ := k1.c2
    have k2 : Blk w14 (w13.heap.size) 25 #[.int .i64 ((copX xs0 x1)).n, .slice A_h0 ((copX xs0 x1)).xs.length c_h0] := Blk.below (Blk.new w13 25 #[.int .i64 ((copX xs0 x1)).n, .slice A_h0 ((copX xs0 x1)).xs.length c_h0]) b14 (by first | omega | (simp; done) | (simp; omega))
    obtain ⟨pk2_0, pk2_1⟩ := k2.c2
    replace o_w0 := o_w0.below b14' (by omega)
    replace o0_3 := o0_3.below b14' (by omega)
    replace o_g0 := o_g0.below b14' (by omega)
    replace o_h0 := o_h0.below b14' (by omega)
    go_wp2_with (fail)
    refine (laws_heldChart _ _ _ _ _ _ o_g0.rowsR (by omega) (by have := copX_size xs0 x1; omega) (by have := copX_size xs0 x1; omega)).mono ?_
    rintro e w15 ⟨rfl, b15⟩
    have z15 := b15.size
    have B15 : Below w.heap.size w w15 := Below.trans (B14) (b15.mono (by omega))
    replace k0 : Blk w15 (w2.heap.size) 25 #[.int .i64 ((copX xs0 x1)).n, .slice A_w0 ((copX xs0 x1)).xs.length c_w0] := k0.below b15 (by omega)
    obtain ⟨pk0_0, pk0_1⟩ := k0.c2
    replace k1 : Blk w15 (w4.heap.size) 25 #[.int .i64 ((copX xs0 x1)).n, .slice A_g0 ((copX xs0 x1)).xs.length c_g0] := k1.below b15 (by omega)
    obtain ⟨pk1_0, pk1_1⟩ := k1.c2
    replace k2 : Blk w15 (w13.heap.size) 25 #[.int .i64 ((copX xs0 x1)).n, .slice A_h0 ((copX xs0 x1)).xs.length c_h0] := k2.below b15 (by omega)
    obtain ⟨pk2_0, pk2_1⟩ := k2.c2
    replace o_w0 := o_w0.below b15 (by omega)
    replace o0_3 := o0_3.below b15 (by omega)
    replace o_g0 := o_g0.below b15 (by omega)
    replace o_h0 := o_h0.below b15 (by omega)
    go_wp2_with (fail)
    go_ret
    exact ⟨rfl, B15⟩
  · have hd0 : decide ((1048576 : Int) < (xs0.length : Nat)) = true := decide_eq_true (by omega)
    go_enter Try.func3, Try.ntmps3
    go_wp2_with (fail)
    go_ret
    exact ⟨rfl, Below.refl _ _⟩


end Go.Proofs.Ytnilglkiojigjaa
