/- The walks of the laws, printed by exact.py. -/
import Derived.Test.YtfgbhhkmdeljoaaZ20
namespace Go.Proofs.Ytfgbhhkmdeljoaa
open Go.RowKit

set_option maxHeartbeats 4000000 in
theorem law_FnExactRowBraid (d0 : Int) (r0 : Int) (xs0 : List Int) (A0 : Option Addr) (c0 : Nat) (xs1 : List Int) (A1 : Option Addr) (c1 : Nat) (w : World) (h0 : Ints w A0 xs0) (l0 : xs0.length ≤ 9223372036854775807) (h1 : Ints w A1 xs1) (l1 : xs1.length ≤ 9223372036854775807) : Calls Try.prog 12 #[.agg #[.int .i64 d0, .int .i64 r0, .slice A0 xs0.length c0], .slice A1 xs1.length c1] w fun e w' => e = .returned (.bool true) ∧ Below w.heap.size w w' := by
  by_cases hle0 : xs1.length ≤ 1048576
  · have hd0 : decide ((1048576 : Int) < (xs1.length : Nat)) = false := decide_eq_false (by omega)
    by_cases hle1 : ((xs0.length : Nat) : Int) ≤ 1048576
    · have hz1 : szLeft (1048576) ((xs0.length : Nat) : Int) = 1048576 - ((xs0.length : Nat) : Int) := by rw [szLeft, if_neg (by omega)]
      have hd1 : decide (1048576 - ((xs0.length : Nat) : Int) < 0) = false := decide_eq_false (by omega)
      go_enter Try.func12, Try.ntmps12
      go_wp2_with (fail)
      refine (laws_szRow _ _ _ _ _ _ _ l0 (by omega) (by omega)).mono ?_
      rintro e w1 ⟨rfl, b1⟩
      simp only [World.size_alloc] at b1
      have b1' : Below w.heap.size w w1 := Below.trans (by (repeat (first | exact Below.refl _ _ | assumption | apply Below.drew | apply below_drewN | (refine Below.alloc ?_ (by first | omega | (simp; done) | (simp; omega)) _) | (refine Below.setCell ?_ (by first | omega | (simp; done) | (simp; omega)) _)))) (b1.mono (by first | omega | (simp; done) | (simp; omega)))
      have z1 : w.heap.size + 1 ≤ w1.heap.size := by have := b1.size; simpa using this
      have B1 : Below w.heap.size w w1 := Below.trans (Below.refl _ _) (b1'.mono (by omega))
      have k0 : Blk w1 (w.heap.size) 57 #[.int .i64 d0, .int .i64 r0, .slice A0 xs0.length c0] := Blk.below (Blk.new w 57 #[.int .i64 d0, .int .i64 r0, .slice A0 xs0.length c0]) b1 (by first | omega | (simp; done) | (simp; omega))
      obtain ⟨pk0_0, pk0_1, pk0_2⟩ := k0.c3
      go_wp2_with (fail)
      refine (laws_toRow _ _ _ _ _ _ (h0.below B1) (by omega)).mono ?_
      rintro e w2 ⟨A0_2, c0_2, rfl, o0_2, b2⟩
      have z2 := b2.size
      have B2 : Below w.heap.size w w2 := Below.trans (B1) (b2.mono (by omega))
      replace k0 : Blk w2 (w.heap.size) 57 #[.int .i64 d0, .int .i64 r0, .slice A0 xs0.length c0] := k0.below b2 (by omega)
      obtain ⟨pk0_0, pk0_1, pk0_2⟩ := k0.c3
      go_wp2_with (fail)
      refine (laws_toInt64S _ _ _ _ (h1.below B2) (by omega)).mono ?_
      rintro e w3 ⟨A1_3, c1_3, rfl, o1_3, b3⟩
      have z3 := b3.size
      have B3 : Below w.heap.size w w3 := Below.trans (B2) (b3.mono (by omega))
      replace k0 : Blk w3 (w.heap.size) 57 #[.int .i64 d0, .int .i64 r0, .slice A0 xs0.length c0] := k0.below b3 (by omega)
      obtain ⟨pk0_0, pk0_1, pk0_2⟩ := k0.c3
      replace o0_2 := o0_2.below b3 (by omega)
      go_wp2_with (fail)
      refine (spec_RowBraid _ _ _ _ _ _ _ _ _ o0_2.ints (by omega) o1_3.ints (by omega)).mono ?_
      rintro e w4 ⟨A_w0, c_w0, rfl, o_w0, b4⟩
      have z4 := b4.size
      have B4 : Below w.heap.size w w4 := Below.trans (B3) (b4.mono (by omega))
      replace k0 : Blk w4 (w.heap.size) 57 #[.int .i64 d0, .int .i64 r0, .slice A0 xs0.length c0] := k0.below b4 (by omega)
      obtain ⟨pk0_0, pk0_1, pk0_2⟩ := k0.c3
      replace o0_2 := o0_2.below b4 (by omega)
      replace o1_3 := o1_3.below b4 (by omega)
      obtain ⟨qk0_0, qk0_1, qk0_2⟩ := (Blk.alloc k0 (.cells #[.int .i64 ((rbX d0 r0 xs0 xs1)).n, .slice A_w0 ((rbX d0 r0 xs0 xs1)).xs.length c_w0] 51)).c3
      go_wp2_with (fail)
      refine (laws_toRow _ _ _ _ _ _ ((h0.below B4).below ?hb0) (by omega)).mono ?_
      case hb0 => (repeat (first | exact Below.refl _ _ | assumption | apply Below.drew | apply below_drewN | (refine Below.alloc ?_ (by first | omega | (simp; done) | (simp; omega)) _) | (refine Below.setCell ?_ (by first | omega | (simp; done) | (simp; omega)) _)))
      rintro e w5 ⟨A0_5, c0_5, rfl, o0_5, b5⟩
      simp only [World.size_alloc] at o0_5 b5
      have b5' : Below w4.heap.size w4 w5 := Below.trans (by (repeat (first | exact Below.refl _ _ | assumption | apply Below.drew | apply below_drewN | (refine Below.alloc ?_ (by first | omega | (simp; done) | (simp; omega)) _) | (refine Below.setCell ?_ (by first | omega | (simp; done) | (simp; omega)) _)))) (b5.mono (by first | omega | (simp; done) | (simp; omega)))
      have z5 : w4.heap.size + 1 ≤ w5.heap.size := by have := b5.size; simpa using this
      have B5 : Below w.heap.size w w5 := Below.trans (B4) (b5'.mono (by omega))
      replace k0 : Blk w5 (w.heap.size) 57 #[.int .i64 d0, .int .i64 r0, .slice A0 xs0.length c0] := k0.below b5' (by omega)
      obtain ⟨pk0_0, pk0_1, pk0_2⟩ := k0.c3
      have k1 : Blk w5 (w4.heap.size) 51 #[.int .i64 ((rbX d0 r0 xs0 xs1)).n, .slice A_w0 ((rbX d0 r0 xs0 xs1)).xs.length c_w0] := Blk.below (Blk.new w4 51 #[.int .i64 ((rbX d0 r0 xs0 xs1)).n, .slice A_w0 ((rbX d0 r0 xs0 xs1)).xs.length c_w0]) b5 (by first | omega | (simp; done) | (simp; omega))
      obtain ⟨pk1_0, pk1_1⟩ := k1.c2
      replace o_w0 := o_w0.below b5' (by omega)
      obtain ⟨qk0_0, qk0_1, qk0_2⟩ := (Blk.alloc k0 (.cells #[.int .i64 d0, .int .i64 r0, .slice A0_5 xs0.length c0_5] 60)).c3
      obtain ⟨qk1_0, qk1_1⟩ := (Blk.alloc k1 (.cells #[.int .i64 d0, .int .i64 r0, .slice A0_5 xs0.length c0_5] 60)).c2
      go_wp2_with (fail)
      refine (laws_toInt64S _ _ _ _ ((h1.below B5).below ?hb0) (by omega)).mono ?_
      case hb0 => (repeat (first | exact Below.refl _ _ | assumption | apply Below.drew | apply below_drewN | (refine Below.alloc ?_ (by first | omega | (simp; done) | (simp; omega)) _) | (refine Below.setCell ?_ (by first | omega | (simp; done) | (simp; omega)) _)))
      rintro e w6 ⟨A1_6, c1_6, rfl, o1_6, b6⟩
      simp only [World.size_alloc] at o1_6 b6
      have b6' : Below w5.heap.size w5 w6 := Below.trans (by (repeat (first | exact Below.refl _ _ | assumption | apply Below.drew | apply below_drewN | (refine Below.alloc ?_ (by first | omega | (simp; done) | (simp; omega)) _) | (refine Below.setCell ?_ (by first | omega | (simp; done) | (simp; omega)) _)))) (b6.mono (by first | omega | (simp; done) | (simp; omega)))
      have z6 : w5.heap.size + 1 ≤ w6.heap.size := by have := b6.size; simpa using this
      have B6 : Below w.heap.size w w6 := Below.trans (B5) (b6'.mono (by omega))
      replace k0 : Blk w6 (w.heap.size) 57 #[.int .i64 d0, .int .i64 r0, .slice A0 xs0.length c0] := k0.below b6' (by omega)
      obtain ⟨pk0_0, pk0_1, pk0_2⟩ := k0.c3
      replace k1 : Blk w6 (w4.heap.size) 51 #[.int .i64 ((rbX d0 r0 xs0 xs1)).n, .slice A_w0 ((rbX d0 r0 xs0 xs1)).xs.length c_w0] := k1.below b6' (by omega)
      obtain ⟨pk1_0, pk1_1⟩ := k1.c2
      have k2 : Blk w6 (w5.heap.size) 60 #[.int .i64 d0, .int .i64 r0, .slice A0_5 xs0.length c0_5] := Blk.below (Blk.new w5 60 #[.int .i64 d0, .int .i64 r0, .slice A0_5 xs0.length c0_5]) b6 (by first | omega | (simp; done) | (simp; omega))
      obtain ⟨pk2_0, pk2_1, pk2_2⟩ := k2.c3
      replace o_w0 := o_w0.below b6' (by omega)
      replace o0_5 := o0_5.below b6' (by omega)
      go_wp2_with (fail)
      refine (impl_RowBraid _ _ _ _ _ _ _ _ _ o0_5.ints (by omega) o1_6.ints (by omega)).mono ?_
      rintro e w7 ⟨A_g0, c_g0, rfl, o_g0, b7⟩
      have z7 := b7.size
      have B7 : Below w.heap.size w w7 := Below.trans (B6) (b7.mono (by omega))
      replace k0 : Blk w7 (w.heap.size) 57 #[.int .i64 d0, .int .i64 r0, .slice A0 xs0.length c0] := k0.below b7 (by omega)
      obtain ⟨pk0_0, pk0_1, pk0_2⟩ := k0.c3
      replace k1 : Blk w7 (w4.heap.size) 51 #[.int .i64 ((rbX d0 r0 xs0 xs1)).n, .slice A_w0 ((rbX d0 r0 xs0 xs1)).xs.length c_w0] := k1.below b7 (by omega)
      obtain ⟨pk1_0, pk1_1⟩ := k1.c2
      replace k2 : Blk w7 (w5.heap.size) 60 #[.int .i64 d0, .int .i64 r0, .slice A0_5 xs0.length c0_5] := k2.below b7 (by omega)
      obtain ⟨pk2_0, pk2_1, pk2_2⟩ := k2.c3
      replace o_w0 := o_w0.below b7 (by omega)
      replace o0_5 := o0_5.below b7 (by omega)
      replace o1_6 := o1_6.below b7 (by omega)
      obtain ⟨qk0_0, qk0_1, qk0_2⟩ := (Blk.alloc k0 (.cells #[.int .i64 ((rbX d0 r0 xs0 xs1)).n, .slice A_g0 ((rbX d0 r0 xs0 xs1)).xs.length c_g0] 51)).c3
      obtain ⟨qk1_0, qk1_1⟩ := (Blk.alloc k1 (.cells #[.int .i64 ((rbX d0 r0 xs0 xs1)).n, .slice A_g0 ((rbX d0 r0 xs0 xs1)).xs.length c_g0] 51)).c2
      obtain ⟨qk2_0, qk2_1, qk2_2⟩ := (Blk.alloc k2 (.cells #[.int .i64 ((rbX d0 r0 xs0 xs1)).n, .slice A_g0 ((rbX d0 r0 xs0 xs1)).xs.length c_g0] 51)).c3
      go_wp2_with (fail)
      refine (laws_eqBraid _ _ _ _ _ _ _ _ _ (o_g0.ints.below ?hb0) (o_w0.ints.below ?hb1) (by have := rbX_size d0 r0 xs0 xs1; omega) (by have := rbX_size d0 r0 xs0 xs1; omega)).mono ?_
      case hb0 => (repeat (first | exact Below.refl _ _ | assumption | apply Below.drew | apply below_drewN | (refine Below.alloc ?_ (by first | omega | (simp; done) | (simp; omega)) _) | (refine Below.setCell ?_ (by first | omega | (simp; done) | (simp; omega)) _)))
      case hb1 => (repeat (first | exact Below.refl _ _ | assumption | apply Below.drew | apply below_drewN | (refine Below.alloc ?_ (by first | omega | (simp; done) | (simp; omega)) _) | (refine Below.setCell ?_ (by first | omega | (simp; done) | (simp; omega)) _)))
      rintro e w8 ⟨rfl, b8⟩
      simp only [World.size_alloc] at b8
      have b8' : Below w7.heap.size w7 w8 := Below.trans (by (repeat (first | exact Below.refl _ _ | assumption | apply Below.drew | apply below_drewN | (refine Below.alloc ?_ (by first | omega | (simp; done) | (simp; omega)) _) | (refine Below.setCell ?_ (by first | omega | (simp; done) | (simp; omega)) _)))) (b8.mono (by first | omega | (simp; done) | (simp; omega)))
      have z8 : w7.heap.size + 1 ≤ w8.heap.size := by have := b8.size; simpa using this
      have B8 : Below w.heap.size w w8 := Below.trans (B7) (b8'.mono (by omega))
      replace k0 : Blk w8 (w.heap.size) 57 #[.int .i64 d0, .int .i64 r0, .slice A0 xs0.length c0] := k0.below b8' (by omega)
      obtain ⟨pk0_0, pk0_1, pk0_2⟩ := k0.c3
      replace k1 : Blk w8 (w4.heap.size) 51 #[.int .i64 ((rbX d0 r0 xs0 xs1)).n, .slice A_w0 ((rbX d0 r0 xs0 xs1)).xs.length c_w0] := k1.below b8' (by omega)
      obtain ⟨pk1_0, pk1_1⟩ := k1.c2
      replace k2 : Blk w8 (w5.heap.size) 60 #[.int .i64 d0, .int .i64 r0, .slice A0_5 xs0.length c0_5] := k2.below b8' (by omega)
      obtain ⟨pk2_0, pk2_1, pk2_2⟩ := k2.c3
      have k3 : Blk w8 (w7.heap.size) 51 #[.int .i64 ((rbX d0 r0 xs0 xs1)).n, .slice A_g0 ((rbX d0 r0 xs0 xs1)).xs.length c_g0] := Blk.below (Blk.new w7 51 #[.int .i64 ((rbX d0 r0 xs0 xs1)).n, .slice A_g0 ((rbX d0 r0 xs0 xs1)).xs.length c_g0]) b8 (by first | omega | (simp; done) | (simp; omega))
      obtain ⟨pk3_0, pk3_1⟩ := k3.c2
      replace o_w0 := o_w0.below b8' (by omega)
      replace o0_5 := o0_5.below b8' (by omega)
      replace o1_6 := o1_6.below b8' (by omega)
      replace o_g0 := o_g0.below b8' (by omega)
      go_wp2_with (fail)
      go_region_held3 (fun W' => (W'.cell? ⟨w.heap.size, 0, none⟩ = some (.int .i64 d0) ∧ W'.cell? ⟨w.heap.size, 1, none⟩ = some (.int .i64 r0) ∧ W'.cell? ⟨w.heap.size, 2, none⟩ = some (.slice A0 xs0.length c0)) ∧ (W'.cell? ⟨w5.heap.size, 0, none⟩ = some (.int .i64 d0) ∧ W'.cell? ⟨w5.heap.size, 1, none⟩ = some (.int .i64 r0) ∧ W'.cell? ⟨w5.heap.size, 2, none⟩ = some (.slice A0_5 xs0.length c0_5))) (first | exact ⟨k0.c3, k2.c3⟩ | exact ⟨(k0.below b9 (by first | omega | (simp; done) | (simp; omega))).c3, (k2.below b9 (by first | omega | (simp; done) | (simp; omega))).c3⟩ | exact ⟨(k0.below (b9.trans (b10.mono b9.size)) (by first | omega | (simp; done) | (simp; omega))).c3, (k2.below (b9.trans (b10.mono b9.size)) (by first | omega | (simp; done) | (simp; omega))).c3⟩)
        (first | (go_at_call 48; refine (laws_toRow _ _ _ _ _ _ (h0.below (B8).drew) (by omega)).mono ?_; rintro e w9 ⟨A0_9, c0_9, rfl, o0_9, b9⟩; replace b9 := undrew b9) | (go_at_call 51; refine (laws_eqRow _ _ _ _ _ _ _ _ _ _ _ ((o0_5.ints).below b9) o0_9.ints (by omega) (by omega)).mono ?_; rintro e w10 ⟨rfl, b10⟩))
      have z9 := b9.size
      have B9 : Below w.heap.size w w9 := Below.trans (B8) (b9.mono (by omega))
      replace k0 : Blk w9 (w.heap.size) 57 #[.int .i64 d0, .int .i64 r0, .slice A0 xs0.length c0] := k0.below b9 (by omega)
      obtain ⟨pk0_0, pk0_1, pk0_2⟩ := k0.c3
      replace k1 : Blk w9 (w4.heap.size) 51 #[.int .i64 ((rbX d0 r0 xs0 xs1)).n, .slice A_w0 ((rbX d0 r0 xs0 xs1)).xs.length c_w0] := k1.below b9 (by omega)
      obtain ⟨pk1_0, pk1_1⟩ := k1.c2
      replace k2 : Blk w9 (w5.heap.size) 60 #[.int .i64 d0, .int .i64 r0, .slice A0_5 xs0.length c0_5] := k2.below b9 (by omega)
      obtain ⟨pk2_0, pk2_1, pk2_2⟩ := k2.c3
      replace k3 : Blk w9 (w7.heap.size) 51 #[.int .i64 ((rbX d0 r0 xs0 xs1)).n, .slice A_g0 ((rbX d0 r0 xs0 xs1)).xs.length c_g0] := k3.below b9 (by omega)
      obtain ⟨pk3_0, pk3_1⟩ := k3.c2
      replace o_w0 := o_w0.below b9 (by omega)
      replace o0_5 := o0_5.below b9 (by omega)
      replace o1_6 := o1_6.below b9 (by omega)
      replace o_g0 := o_g0.below b9 (by omega)
      have z10 := b10.size
      have B10 : Below w.heap.size w w10 := Below.trans (B9) (b10.mono (by omega))
      replace k0 : Blk w10 (w.heap.size) 57 #[.int .i64 d0, .int .i64 r0, .slice A0 xs0.length c0] := k0.below b10 (by omega)
      obtain ⟨pk0_0, pk0_1, pk0_2⟩ := k0.c3
      replace k1 : Blk w10 (w4.heap.size) 51 #[.int .i64 ((rbX d0 r0 xs0 xs1)).n, .slice A_w0 ((rbX d0 r0 xs0 xs1)).xs.length c_w0] := k1.below b10 (by omega)
      obtain ⟨pk1_0, pk1_1⟩ := k1.c2
      replace k2 : Blk w10 (w5.heap.size) 60 #[.int .i64 d0, .int .i64 r0, .slice A0_5 xs0.length c0_5] := k2.below b10 (by omega)
      obtain ⟨pk2_0, pk2_1, pk2_2⟩ := k2.c3
      replace k3 : Blk w10 (w7.heap.size) 51 #[.int .i64 ((rbX d0 r0 xs0 xs1)).n, .slice A_g0 ((rbX d0 r0 xs0 xs1)).xs.length c_g0] := k3.below b10 (by omega)
      obtain ⟨pk3_0, pk3_1⟩ := k3.c2
      replace o_w0 := o_w0.below b10 (by omega)
      replace o0_5 := o0_5.below b10 (by omega)
      replace o1_6 := o1_6.below b10 (by omega)
      replace o_g0 := o_g0.below b10 (by omega)
      go_wp2_with (fail)
      refine (laws_toInt64S _ _ _ _ (h1.below B10) (by omega)).mono ?_
      rintro e w11 ⟨A1_11, c1_11, rfl, o1_11, b11⟩
      have z11 := b11.size
      have B11 : Below w.heap.size w w11 := Below.trans (B10) (b11.mono (by omega))
      replace k0 : Blk w11 (w.heap.size) 57 #[.int .i64 d0, .int .i64 r0, .slice A0 xs0.length c0] := k0.below b11 (by omega)
      obtain ⟨pk0_0, pk0_1, pk0_2⟩ := k0.c3
      replace k1 : Blk w11 (w4.heap.size) 51 #[.int .i64 ((rbX d0 r0 xs0 xs1)).n, .slice A_w0 ((rbX d0 r0 xs0 xs1)).xs.length c_w0] := k1.below b11 (by omega)
      obtain ⟨pk1_0, pk1_1⟩ := k1.c2
      replace k2 : Blk w11 (w5.heap.size) 60 #[.int .i64 d0, .int .i64 r0, .slice A0_5 xs0.length c0_5] := k2.below b11 (by omega)
      obtain ⟨pk2_0, pk2_1, pk2_2⟩ := k2.c3
      replace k3 : Blk w11 (w7.heap.size) 51 #[.int .i64 ((rbX d0 r0 xs0 xs1)).n, .slice A_g0 ((rbX d0 r0 xs0 xs1)).xs.length c_g0] := k3.below b11 (by omega)
      obtain ⟨pk3_0, pk3_1⟩ := k3.c2
      replace o_w0 := o_w0.below b11 (by omega)
      replace o0_5 := o0_5.below b11 (by omega)
      replace o1_6 := o1_6.below b11 (by omega)
      replace o_g0 := o_g0.below b11 (by omega)
      go_wp2_with (fail)
      refine (laws_eqInt64S' _ _ _ _ _ _ _ o1_6.ints o1_11.ints (by omega) (by omega)).mono ?_
      rintro e w12 ⟨rfl, b12⟩
      have z12 := b12.size
      have B12 : Below w.heap.size w w12 := Below.trans (B11) (b12.mono (by omega))
      replace k0 : Blk w12 (w.heap.size) 57 #[.int .i64 d0, .int .i64 r0, .slice A0 xs0.length c0] := k0.below b12 (by omega)
      obtain ⟨pk0_0, pk0_1, pk0_2⟩ := k0.c3
      replace k1 : Blk w12 (w4.heap.size) 51 #[.int .i64 ((rbX d0 r0 xs0 xs1)).n, .slice A_w0 ((rbX d0 r0 xs0 xs1)).xs.length c_w0] := k1.below b12 (by omega)
      obtain ⟨pk1_0, pk1_1⟩ := k1.c2
      replace k2 : Blk w12 (w5.heap.size) 60 #[.int .i64 d0, .int .i64 r0, .slice A0_5 xs0.length c0_5] := k2.below b12 (by omega)
      obtain ⟨pk2_0, pk2_1, pk2_2⟩ := k2.c3
      replace k3 : Blk w12 (w7.heap.size) 51 #[.int .i64 ((rbX d0 r0 xs0 xs1)).n, .slice A_g0 ((rbX d0 r0 xs0 xs1)).xs.length c_g0] := k3.below b12 (by omega)
      obtain ⟨pk3_0, pk3_1⟩ := k3.c2
      replace o_w0 := o_w0.below b12 (by omega)
      replace o0_5 := o0_5.below b12 (by omega)
      replace o1_6 := o1_6.below b12 (by omega)
      replace o_g0 := o_g0.below b12 (by omega)
      replace o1_11 := o1_11.below b12 (by omega)
      go_wp2_with (fail)
      refine (laws_markRow _ _ _ _ _ _ _ _ _ o0_5 (by omega) (by omega)).mono ?_
      rintro e w13 ⟨rfl, o0_5, b13⟩
      have z13 := b13.size
      have B13 : Below w.heap.size w w13 := Below.trans (B12) ((b13.below (by omega)).mono (by omega))
      replace k0 : Blk w13 (w.heap.size) 57 #[.int .i64 d0, .int .i64 r0, .slice A0 xs0.length c0] := k0.upd b13 (by omega)
      obtain ⟨pk0_0, pk0_1, pk0_2⟩ := k0.c3
      replace k1 : Blk w13 (w4.heap.size) 51 #[.int .i64 ((rbX d0 r0 xs0 xs1)).n, .slice A_w0 ((rbX d0 r0 xs0 xs1)).xs.length c_w0] := k1.upd b13 (by omega)
      obtain ⟨pk1_0, pk1_1⟩ := k1.c2
      replace k2 : Blk w13 (w5.heap.size) 60 #[.int .i64 d0, .int .i64 r0, .slice A0_5 xs0.length c0_5] := k2.upd b13 (by omega)
      obtain ⟨pk2_0, pk2_1, pk2_2⟩ := k2.c3
      replace k3 : Blk w13 (w7.heap.size) 51 #[.int .i64 ((rbX d0 r0 xs0 xs1)).n, .slice A_g0 ((rbX d0 r0 xs0 xs1)).xs.length c_g0] := k3.upd b13 (by omega)
      obtain ⟨pk3_0, pk3_1⟩ := k3.c2
      replace o_w0 := o_w0.upd b13 (by omega)
      replace o1_6 := o1_6.upd b13 (by omega)
      replace o_g0 := o_g0.upd b13 (by omega)
      go_wp2_with (fail)
      refine (laws_markInt64S _ _ _ _ _ _ _ o1_6 (by omega) (by omega)).mono ?_
      rintro e w14 ⟨rfl, o1_6, b14⟩
      have z14 := b14.size
      have B14 : Below w.heap.size w w14 := Below.trans (B13) ((b14.below (by omega)).mono (by omega))
      replace k0 : Blk w14 (w.heap.size) 57 #[.int .i64 d0, .int .i64 r0, .slice A0 xs0.length c0] := k0.upd b14 (by omega)
      obtain ⟨pk0_0, pk0_1, pk0_2⟩ := k0.c3
      replace k1 : Blk w14 (w4.heap.size) 51 #[.int .i64 ((rbX d0 r0 xs0 xs1)).n, .slice A_w0 ((rbX d0 r0 xs0 xs1)).xs.length c_w0] := k1.upd b14 (by omega)
      obtain ⟨pk1_0, pk1_1⟩ := k1.c2
      replace k2 : Blk w14 (w5.heap.size) 60 #[.int .i64 d0, .int .i64 r0, .slice A0_5 xs0.length c0_5] := k2.upd b14 (by omega)
      obtain ⟨pk2_0, pk2_1, pk2_2⟩ := k2.c3
      replace k3 : Blk w14 (w7.heap.size) 51 #[.int .i64 ((rbX d0 r0 xs0 xs1)).n, .slice A_g0 ((rbX d0 r0 xs0 xs1)).xs.length c_g0] := k3.upd b14 (by omega)
      obtain ⟨pk3_0, pk3_1⟩ := k3.c2
      replace o_w0 := o_w0.upd b14 (by omega)
      replace o0_5 := o0_5.upd b14 (by omega)
      replace o_g0 := o_g0.upd b14 (by omega)
      go_wp2_with (fail)
      refine (laws_eqBraid _ _ _ _ _ _ _ _ _ o_g0.ints o_w0.ints (by have := rbX_size d0 r0 xs0 xs1; omega) (by have := rbX_size d0 r0 xs0 xs1; omega)).mono ?_
      rintro e w15 ⟨rfl, b15⟩
      have z15 := b15.size
      have B15 : Below w.heap.size w w15 := Below.trans (B14) (b15.mono (by omega))
      replace k0 : Blk w15 (w.heap.size) 57 #[.int .i64 d0, .int .i64 r0, .slice A0 xs0.length c0] := k0.below b15 (by omega)
      obtain ⟨pk0_0, pk0_1, pk0_2⟩ := k0.c3
      replace k1 : Blk w15 (w4.heap.size) 51 #[.int .i64 ((rbX d0 r0 xs0 xs1)).n, .slice A_w0 ((rbX d0 r0 xs0 xs1)).xs.length c_w0] := k1.below b15 (by omega)
      obtain ⟨pk1_0, pk1_1⟩ := k1.c2
      replace k2 : Blk w15 (w5.heap.size) 60 #[.int .i64 d0, .int .i64 r0, .slice A0_5 xs0.length c0_5] := k2.below b15 (by omega)
      obtain ⟨pk2_0, pk2_1, pk2_2⟩ := k2.c3
      replace k3 : Blk w15 (w7.heap.size) 51 #[.int .i64 ((rbX d0 r0 xs0 xs1)).n, .slice A_g0 ((rbX d0 r0 xs0 xs1)).xs.length c_g0] := k3.below b15 (by omega)
      obtain ⟨pk3_0, pk3_1⟩ := k3.c2
      replace o_w0 := o_w0.below b15 (by omega)
      replace o0_5 := o0_5.below b15 (by omega)
      replace o1_6 := o1_6.below b15 (by omega)
      replace o_g0 := o_g0.below b15 (by omega)
      go_wp2_with (fail)
      refine (laws_markBraid _ _ _ _ _ _ _ _ o_g0 (by omega) (by have := rbX_size d0 r0 xs0 xs1; omega)).mono ?_
      rintro e w16 ⟨rfl, o_g0, b16⟩
      have z16 := b16.size
      have B16 : Below w.heap.size w w16 := Below.trans (B15) ((b16.below (by omega)).mono (by omega))
      replace k0 : Blk w16 (w.heap.size) 57 #[.int .i64 d0, .int .i64 r0, .slice A0 xs0.length c0] := k0.upd b16 (by omega)
      obtain ⟨pk0_0, pk0_1, pk0_2⟩ := k0.c3
      replace k1 : Blk w16 (w4.heap.size) 51 #[.int .i64 ((rbX d0 r0 xs0 xs1)).n, .slice A_w0 ((rbX d0 r0 xs0 xs1)).xs.length c_w0] := k1.upd b16 (by omega)
      obtain ⟨pk1_0, pk1_1⟩ := k1.c2
      replace k2 : Blk w16 (w5.heap.size) 60 #[.int .i64 d0, .int .i64 r0, .slice A0_5 xs0.length c0_5] := k2.upd b16 (by omega)
      obtain ⟨pk2_0, pk2_1, pk2_2⟩ := k2.c3
      replace k3 : Blk w16 (w7.heap.size) 51 #[.int .i64 ((rbX d0 r0 xs0 xs1)).n, .slice A_g0 ((rbX d0 r0 xs0 xs1)).xs.length c_g0] := k3.upd b16 (by omega)
      obtain ⟨pk3_0, pk3_1⟩ := k3.c2
      replace o_w0 := o_w0.upd b16 (by omega)
      replace o0_5 := o0_5.upd b16 (by omega)
      replace o1_6 := o1_6.upd b16 (by omega)
      go_wp2_with (fail)
      refine (laws_heldBraid _ _ _ _ _ _ o_g0.ints (by omega) (by have := rbX_size d0 r0 xs0 xs1; omega) (by have := rbX_size d0 r0 xs0 xs1; omega)).mono ?_
      rintro e w17 ⟨rfl, b17⟩
      have z17 := b17.size
      have B17 : Below w.heap.size w w17 := Below.trans (B16) (b17.mono (by omega))
      replace k0 : Blk w17 (w.heap.size) 57 #[.int .i64 d0, .int .i64 r0, .slice A0 xs0.length c0] := k0.below b17 (by omega)
      obtain ⟨pk0_0, pk0_1, pk0_2⟩ := k0.c3
      replace k1 : Blk w17 (w4.heap.size) 51 #[.int .i64 ((rbX d0 r0 xs0 xs1)).n, .slice A_w0 ((rbX d0 r0 xs0 xs1)).xs.length c_w0] := k1.below b17 (by omega)
      obtain ⟨pk1_0, pk1_1⟩ := k1.c2
      replace k2 : Blk w17 (w5.heap.size) 60 #[.int .i64 d0, .int .i64 r0, .slice A0_5 xs0.length c0_5] := k2.below b17 (by omega)
      obtain ⟨pk2_0, pk2_1, pk2_2⟩ := k2.c3
      replace k3 : Blk w17 (w7.heap.size) 51 #[.int .i64 ((rbX d0 r0 xs0 xs1)).n, .slice A_g0 ((rbX d0 r0 xs0 xs1)).xs.length c_g0] := k3.below b17 (by omega)
      obtain ⟨pk3_0, pk3_1⟩ := k3.c2
      replace o_w0 := o_w0.below b17 (by omega)
      replace o0_5 := o0_5.below b17 (by omega)
      replace o1_6 := o1_6.below b17 (by omega)
      replace o_g0 := o_g0.below b17 (by omega)
      go_wp2_with (fail)
      refine (laws_toRow _ _ _ _ _ _ (h0.below B17) (by omega)).mono ?_
      rintro e w18 ⟨A0_18, c0_18, rfl, o0_18, b18⟩
      have z18 := b18.size
      have B18 : Below w.heap.size w w18 := Below.trans (B17) (b18.mono (by omega))
      replace k0 : Blk w18 (w.heap.size) 57 #[.int .i64 d0, .int .i64 r0, .slice A0 xs0.length c0] := k0.below b18 (by omega)
      obtain ⟨pk0_0, pk0_1, pk0_2⟩ := k0.c3
      replace k1 : Blk w18 (w4.heap.size) 51 #[.int .i64 ((rbX d0 r0 xs0 xs1)).n, .slice A_w0 ((rbX d0 r0 xs0 xs1)).xs.length c_w0] := k1.below b18 (by omega)
      obtain ⟨pk1_0, pk1_1⟩ := k1.c2
      replace k2 : Blk w18 (w5.heap.size) 60 #[.int .i64 d0, .int .i64 r0, .slice A0_5 xs0.length c0_5] := k2.below b18 (by omega)
      obtain ⟨pk2_0, pk2_1, pk2_2⟩ := k2.c3
      replace k3 : Blk w18 (w7.heap.size) 51 #[.int .i64 ((rbX d0 r0 xs0 xs1)).n, .slice A_g0 ((rbX d0 r0 xs0 xs1)).xs.length c_g0] := k3.below b18 (by omega)
      obtain ⟨pk3_0, pk3_1⟩ := k3.c2
      replace o_w0 := o_w0.below b18 (by omega)
      replace o0_5 := o0_5.below b18 (by omega)
      replace o1_6 := o1_6.below b18 (by omega)
      replace o_g0 := o_g0.below b18 (by omega)
      go_wp2_with (fail)
      refine (laws_toInt64S _ _ _ _ (h1.below B18) (by omega)).mono ?_
      rintro e w19 ⟨A1_19, c1_19, rfl, o1_19, b19⟩
      have z19 := b19.size
      have B19 : Below w.heap.size w w19 := Below.trans (B18) (b19.mono (by omega))
      replace k0 : Blk w19 (w.heap.size) 57 #[.int .i64 d0, .int .i64 r0, .slice A0 xs0.length c0] := k0.below b19 (by omega)
      obtain ⟨pk0_0, pk0_1, pk0_2⟩ := k0.c3
      replace k1 : Blk w19 (w4.heap.size) 51 #[.int .i64 ((rbX d0 r0 xs0 xs1)).n, .slice A_w0 ((rbX d0 r0 xs0 xs1)).xs.length c_w0] := k1.below b19 (by omega)
      obtain ⟨pk1_0, pk1_1⟩ := k1.c2
      replace k2 : Blk w19 (w5.heap.size) 60 #[.int .i64 d0, .int .i64 r0, .slice A0_5 xs0.length c0_5] := k2.below b19 (by omega)
      obtain ⟨pk2_0, pk2_1, pk2_2⟩ := k2.c3
      replace k3 : Blk w19 (w7.heap.size) 51 #[.int .i64 ((rbX d0 r0 xs0 xs1)).n, .slice A_g0 ((rbX d0 r0 xs0 xs1)).xs.length c_g0] := k3.below b19 (by omega)
      obtain ⟨pk3_0, pk3_1⟩ := k3.c2
      replace o_w0 := o_w0.below b19 (by omega)
      replace o0_5 := o0_5.below b19 (by omega)
      replace o1_6 := o1_6.below b19 (by omega)
      replace o_g0 := o_g0.below b19 (by omega)
      replace o0_18 := o0_18.below b19 (by omega)
      go_wp2_with (fail)
      refine (impl_RowBraid _ _ _ _ _ _ _ _ _ o0_18.ints (by omega) o1_19.ints (by omega)).mono ?_
      rintro e w20 ⟨A_h0, c_h0, rfl, o_h0, b20⟩
      have z20 := b20.size
      have B20 : Below w.heap.size w w20 := Below.trans (B19) (b20.mono (by omega))
      replace k0 : Blk w20 (w.heap.size) 57 #[.int .i64 d0, .int .i64 r0, .slice A0 xs0.length c0] := k0.below b20 (by omega)
      obtain ⟨pk0_0, pk0_1, pk0_2⟩ := k0.c3
      replace k1 : Blk w20 (w4.heap.size) 51 #[.int .i64 ((rbX d0 r0 xs0 xs1)).n, .slice A_w0 ((rbX d0 r0 xs0 xs1)).xs.length c_w0] := k1.below b20 (by omega)
      obtain ⟨pk1_0, pk1_1⟩ := k1.c2
      replace k2 : Blk w20 (w5.heap.size) 60 #[.int .i64 d0, .int .i64 r0, .slice A0_5 xs0.length c0_5] := k2.below b20 (by omega)
      obtain ⟨pk2_0, pk2_1, pk2_2⟩ := k2.c3
      replace k3 : Blk w20 (w7.heap.size) 51 #[.int .i64 ((rbX d0 r0 xs0 xs1)).n, .slice A_g0 ((rbX d0 r0 xs0 xs1)).xs.length c_g0] := k3.below b20 (by omega)
      obtain ⟨pk3_0, pk3_1⟩ := k3.c2
      replace o_w0 := o_w0.below b20 (by omega)
      replace o0_5 := o0_5.below b20 (by omega)
      replace o1_6 := o1_6.below b20 (by omega)
      replace o_g0 := o_g0.below b20 (by omega)
      replace o0_18 := o0_18.below b20 (by omega)
      replace o1_19 := o1_19.below b20 (by omega)
      obtain ⟨qk0_0, qk0_1, qk0_2⟩ := (Blk.alloc k0 (.cells #[.int .i64 ((rbX d0 r0 xs0 xs1)).n, .slice A_h0 ((rbX d0 r0 xs0 xs1)).xs.length c_h0] 51)).c3
      obtain ⟨qk1_0, qk1_1⟩ := (Blk.alloc k1 (.cells #[.int .i64 ((rbX d0 r0 xs0 xs1)).n, .slice A_h0 ((rbX d0 r0 xs0 xs1)).xs.length c_h0] 51)).c2
      obtain ⟨qk2_0, qk2_1, qk2_2⟩ := (Blk.alloc k2 (.cells #[.int .i64 ((rbX d0 r0 xs0 xs1)).n, .slice A_h0 ((rbX d0 r0 xs0 xs1)).xs.length c_h0] 51)).c3
      obtain ⟨qk3_0, qk3_1⟩ := (Blk.alloc k3 (.cells #[.int .i64 ((rbX d0 r0 xs0 xs1)).n, .slice A_h0 ((rbX d0 r0 xs0 xs1)).xs.length c_h0] 51)).c2
      go_wp2_with (fail)
      refine (laws_eqBraid _ _ _ _ _ _ _ _ _ (o_h0.ints.below ?hb0) (o_w0.ints.below ?hb1) (by have := rbX_size d0 r0 xs0 xs1; omega) (by have := rbX_size d0 r0 xs0 xs1; omega)).mono ?_
      case hb0 => (repeat (first | exact Below.refl _ _ | assumption | apply Below.drew | apply below_drewN | (refine Below.alloc ?_ (by first | omega | (simp; done) | (simp; omega)) _) | (refine Below.setCell ?_ (by first | omega | (simp; done) | (simp; omega)) _)))
      case hb1 => (repeat (first | exact Below.refl _ _ | assumption | apply Below.drew | apply below_drewN | (refine Below.alloc ?_ (by first | omega | (simp; done) | (simp; omega)) _) | (refine Below.setCell ?_ (by first | omega | (simp; done) | (simp; omega)) _)))
      rintro e w21 ⟨rfl, b21⟩
      simp only [World.size_alloc] at b21
      have b21' : Below w20.heap.size w20 w21 := Below.trans (by (repeat (first | exact Below.refl _ _ | assumption | apply Below.drew | apply below_drewN | (refine Below.alloc ?_ (by first | omega | (simp; done) | (simp; omega)) _) | (refine Below.setCell ?_ (by first | omega | (simp; done) | (simp; omega)) _)))) (b21.mono (by first | omega | (simp; done) | (simp; omega)))
      have z21 : w20.heap.size + 1 ≤ w21.heap.size := by have := b21.size; simpa using this
      have B21 : Below w.heap.size w w21 := Below.trans (B20) (b21'.mono (by omega))
      replace k0 : Blk w21 (w.heap.size) 57 #[.int .i64 d0, .int .i64 r0, .slice A0 xs0.length c0] := k0.below b21' (by omega)
      obtain ⟨pk0_0, pk0_1, pk0_2⟩ := k0.c3
      replace k1 : Blk w21 (w4.heap.size) 51 #[.int .i64 ((rbX d0 r0 xs0 xs1)).n, .slice A_w0 ((rbX d0 r0 xs0 xs1)).xs.length c_w0] := k1.below b21' (by omega)
      obtain ⟨pk1_0, pk1_1⟩ := k1.c2
      replace k2 : Blk w21 (w5.heap.size) 60 #[.int .i64 d0, .int .i64 r0, .slice A0_5 xs0.length c0_5] := k2.below b21' (by omega)
      obtain ⟨pk2_0, pk2_1, pk2_2⟩ := k2.c3
      replace k3 : Blk w21 (w7.heap.size) 51 #[.int .i64 ((rbX d0 r0 xs0 xs1)).n, .slice A_g0 ((rbX d0 r0 xs0 xs1)).xs.length c_g0] := k3.below b21' (by omega)
      obtain ⟨pk3_0, pk3_1⟩ := k3.c2
      have k4 : Blk w21 (w20.heap.size) 51 #[.int .i64 ((rbX d0 r0 xs0 xs1)).n, .slice A_h0 ((rbX d0 r0 xs0 xs1)).xs.length c_h0] := Blk.below (Blk.new w20 51 #[.int .i64 ((rbX d0 r0 xs0 xs1)).n, .slice A_h0 ((rbX d0 r0 xs0 xs1)).xs.length c_h0]) b21 (by first | omega | (simp; done) | (simp; omega))
      obtain ⟨pk4_0, pk4_1⟩ := k4.c2
      replace o_w0 := o_w0.below b21' (by omega)
      replace o0_5 := o0_5.below b21' (by omega)
      replace o1_6 := o1_6.below b21' (by omega)
      replace o_g0 := o_g0.below b21' (by omega)
      replace o_h0 := o_h0.below b21' (by omega)
      go_wp2_with (fail)
      refine (laws_heldBraid _ _ _ _ _ _ o_g0.ints (by omega) (by have := rbX_size d0 r0 xs0 xs1; omega) (by have := rbX_size d0 r0 xs0 xs1; omega)).mono ?_
      rintro e w22 ⟨rfl, b22⟩
      have z22 := b22.size
      have B22 : Below w.heap.size w w22 := Below.trans (B21) (b22.mono (by omega))
      replace k0 : Blk w22 (w.heap.size) 57 #[.int .i64 d0, .int .i64 r0, .slice A0 xs0.length c0] := k0.below b22 (by omega)
      obtain ⟨pk0_0, pk0_1, pk0_2⟩ := k0.c3
      replace k1 : Blk w22 (w4.heap.size) 51 #[.int .i64 ((rbX d0 r0 xs0 xs1)).n, .slice A_w0 ((rbX d0 r0 xs0 xs1)).xs.length c_w0] := k1.below b22 (by omega)
      obtain ⟨pk1_0, pk1_1⟩ := k1.c2
      replace k2 : Blk w22 (w5.heap.size) 60 #[.int .i64 d0, .int .i64 r0, .slice A0_5 xs0.length c0_5] := k2.below b22 (by omega)
      obtain ⟨pk2_0, pk2_1, pk2_2⟩ := k2.c3
      replace k3 : Blk w22 (w7.heap.size) 51 #[.int .i64 ((rbX d0 r0 xs0 xs1)).n, .slice A_g0 ((rbX d0 r0 xs0 xs1)).xs.length c_g0] := k3.below b22 (by omega)
      obtain ⟨pk3_0, pk3_1⟩ := k3.c2
      replace k4 : Blk w22 (w20.heap.size) 51 #[.int .i64 ((rbX d0 r0 xs0 xs1)).n, .slice A_h0 ((rbX d0 r0 xs0 xs1)).xs.length c_h0] := k4.below b22 (by omega)
      obtain ⟨pk4_0, pk4_1⟩ := k4.c2
      replace o_w0 := o_w0.below b22 (by omega)
      replace o0_5 := o0_5.below b22 (by omega)
      replace o1_6 := o1_6.below b22 (by omega)
      replace o_g0 := o_g0.below b22 (by omega)
      replace o_h0 := o_h0.below b22 (by omega)
      go_wp2_with (fail)
      go_ret
      exact ⟨rfl, B22⟩
    · have hz1 : szLeft (1048576) ((xs0.length : Nat) : Int) = -1 := by rw [szLeft, if_pos (by omega)]
      go_enter Try.func12, Try.ntmps12
      go_wp2_with (fail)
      refine (laws_szRow _ _ _ _ _ _ _ l0 (by omega) (by omega)).mono ?_
      rintro e w1 ⟨rfl, b1⟩
      simp only [World.size_alloc] at b1
      have b1' : Below w.heap.size w w1 := Below.trans (by (repeat (first | exact Below.refl _ _ | assumption | apply Below.drew | apply below_drewN | (refine Below.alloc ?_ (by first | omega | (simp; done) | (simp; omega)) _) | (refine Below.setCell ?_ (by first | omega | (simp; done) | (simp; omega)) _)))) (b1.mono (by first | omega | (simp; done) | (simp; omega)))
      have z1 : w.heap.size + 1 ≤ w1.heap.size := by have := b1.size; simpa using this
      have B1 : Below w.heap.size w w1 := Below.trans (Below.refl _ _) (b1'.mono (by omega))
      have k0 : Blk w1 (w.heap.size) 57 #[.int .i64 d0, .int .i64 r0, .slice A0 xs0.length c0] := Blk.below (Blk.new w 57 #[.int .i64 d0, .int .i64 r0, .slice A0 xs0.length c0]) b1 (by first | omega | (simp; done) | (simp; omega))
      obtain ⟨pk0_0, pk0_1, pk0_2⟩ := k0.c3
      go_wp2_with (fail)
      go_ret
      exact ⟨rfl, B1⟩
  · have hd0 : decide ((1048576 : Int) < (xs1.length : Nat)) = true := decide_eq_true (by omega)
    go_enter Try.func12, Try.ntmps12
    go_wp2_with (fail)
    go_ret
    exact ⟨rfl, by (repeat (first | exact Below.refl _ _ | assumption | apply Below.drew | apply below_drewN | (refine Below.alloc ?_ (by first | omega | (simp; done) | (simp; omega)) _) | (refine Below.setCell ?_ (by first | omega | (simp; done) | (simp; omega)) _)))⟩


end Go.Proofs.Ytfgbhhkmdeljoaa
