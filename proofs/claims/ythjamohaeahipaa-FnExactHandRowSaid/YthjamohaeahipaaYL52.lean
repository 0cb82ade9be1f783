/- The walks of the laws, printed by exact.py. -/
import Derived.Test.YthjamohaeahipaaZ19
namespace Go.Proofs.Ythjamohaeahipaa
open Go.RowKit

set_option maxHeartbeats 4000000 in
set_option maxRecDepth 10000 in
theorem law_FnExactHandRow (d0 : Int) (r0 : Int) (xs0 : List Int) (A0 : Option Addr) (c0 : Nat) (xs1 : List Int) (A1 : Option Addr) (c1 : Nat) (w : World) (h0 : Ints w A0 xs0) (l0 : xs0.length ≤ 9223372036854775807) (h1 : Ints w A1 xs1) (l1 : xs1.length ≤ 9223372036854775807) : Calls Try.prog 3 #[.agg #[.int .i64 d0, .int .i64 r0, .slice A0 xs0.length c0], .slice A1 xs1.length c1] w fun e w' => e = .returned (.bool true) ∧ Below w.heap.size w w' := by
  by_cases hle0 : xs1.length ≤ 1048576
  · have hd0 : decide ((1048576 : Int) < (xs1.length : Nat)) = false := decide_eq_false (by omega)
    by_cases hle1 : ((xs0.length : Nat) : Int) ≤ 1048576
    · have hz1 : szLeft (1048576) ((xs0.length : Nat) : Int) = 1048576 - ((xs0.length : Nat) : Int) := by rw [szLeft, if_neg (by omega)]
      have hd1 : decide (1048576 - ((xs0.length : Nat) : Int) < 0) = false := decide_eq_false (by omega)
      go_enter Try.func3, Try.ntmps3
      go_wp2_with (fail)
      refine (laws_szRow _ _ _ _ _ _ _ l0 (by omega) (by omega)).mono ?_
      rintro e w1 ⟨rfl, b1⟩
      simp only [World.size_alloc] at b1
      have b1' : Below w.heap.size w w1 := Below.trans (by (repeat (first | exact Below.refl _ _ | assumption | apply Below.drew | apply below_drewN | (refine Below.alloc ?_ (by first | omega | (simp; done) | (simp; omega)) _) | (refine Below.setCell ?_ (by first | omega | (simp; done) | (simp; omega)) _)))) (b1.mono (by first | omega | (simp; done) | (simp; omega)))
      have z1 : w.heap.size + 1 ≤ w1.heap.size := by have := b1.size; simpa using this
      have B1 : Below w.heap.size w w1 := Below.trans (Below.refl _ _) (b1'.mono (by omega))
      have k0 : Blk w1 (w.heap.size) 24 #[.int .i64 d0, .int .i64 r0, .slice A0 xs0.length c0] := Blk.below (Blk.new w 24 #[.int .i64 d0, .int .i64 r0, .slice A0 xs0.length c0]) b1 (by first | omega | (simp; done) | (simp; omega))
      obtain ⟨pk0_0, pk0_1, pk0_2⟩ := k0.c3
      go_wp2_with (fail)
      refine (laws_toRow _ _ _ _ _ _ (h0.below B1) (by omega)).mono ?_
      rintro e w2 ⟨A0_2, c0_2, rfl, o0_2, b2⟩
      have z2 := b2.size
      have B2 : Below w.heap.size w w2 := Below.trans (B1) (b2.mono (by omega))
      replace k0 : Blk w2 (w.heap.size) 24 #[.int .i64 d0, .int .i64 r0, .slice A0 xs0.length c0] := k0.below b2 (by omega)
      obtain ⟨pk0_0, pk0_1, pk0_2⟩ := k0.c3
      go_wp2_with (fail)
      refine (laws_toInt64S _ _ _ _ (h1.below B2) (by omega)).mono ?_
      rintro e w3 ⟨A1_3, c1_3, rfl, o1_3, b3⟩
      have z3 := b3.size
      have B3 : Below w.heap.size w w3 := Below.trans (B2) (b3.mono (by omega))
      replace k0 : Blk w3 (w.heap.size) 24 #[.int .i64 d0, .int .i64 r0, .slice A0 xs0.length c0] := k0.below b3 (by omega)
      obtain ⟨pk0_0, pk0_1, pk0_2⟩ := k0.c3
      replace o0_2 := o0_2.below b3 (by omega)
      go_wp2_with (fail)
      refine (spec_HandRow _ _ _ _ _ _ _ _ _ o0_2.ints (by omega) o1_3.ints (by omega)).mono ?_
      rintro e w4 ⟨A_w0, c_w0, A_w1, c_w1, rfl, o_w0, o_w1, b4⟩
      have z4 := b4.size
      have B4 : Below w.heap.size w w4 := Below.trans (B3) (b4.mono (by omega))
      replace k0 : Blk w4 (w.heap.size) 24 #[.int .i64 d0, .int .i64 r0, .slice A0 xs0.length c0] := k0.below b4 (by omega)
      obtain ⟨pk0_0, pk0_1, pk0_2⟩ := k0.c3
      replace o0_2 := o0_2.below b4 (by omega)
      replace o1_3 := o1_3.below b4 (by omega)
      go_wp2_with (fail)
      refine (laws_toRow _ _ _ _ _ _ (h0.below B4) (by omega)).mono ?_
      rintro e w5 ⟨A0_5, c0_5, rfl, o0_5, b5⟩
      have z5 := b5.size
      have B5 : Below w.heap.size w w5 := Below.trans (B4) (b5.mono (by omega))
      replace k0 : Blk w5 (w.heap.size) 24 #[.int .i64 d0, .int .i64 r0, .slice A0 xs0.length c0] := k0.below b5 (by omega)
      obtain ⟨pk0_0, pk0_1, pk0_2⟩ := k0.c3
      replace o_w0 := o_w0.below b5 (by omega)
      replace o_w1 := o_w1.below b5 (by omega)
      obtain ⟨qk0_0, qk0_1, qk0_2⟩ := (Blk.alloc k0 (.cells #[.int .i64 d0, .int .i64 r0, .slice A0_5 xs0.length c0_5] 29)).c3
      go_wp2_with (fail)
      refine (laws_toInt64S _ _ _ _ ((h1.below B5).below ?hb0) (by omega)).mono ?_
      case hb0 => (repeat (first | exact Below.refl _ _ | assumption | apply Below.drew | apply below_drewN | (refine Below.alloc ?_ (by first | omega | (simp; done) | (simp; omega)) _) | (refine Below.setCell ?_ (by first | omega | (simp; done) | (simp; omega)) _)))
      rintro e w6 ⟨A1_6, c1_6, rfl, o1_6, b6⟩
      simp only [World.size_alloc] at o1_6 b6
      have b6' : Below w5.heap.size w5 w6 := Below.trans (by (repeat (first | exact Below.refl _ _ | assumption | apply Below.drew | apply below_drewN | (refine Below.alloc ?_ (by first | omega | (simp; done) | (simp; omega)) _) | (refine Below.setCell ?_ (by first | omega | (simp; done) | (simp; omega)) _)))) (b6.mono (by first | omega | (simp; done) | (simp; omega)))
      have z6 : w5.heap.size + 1 ≤ w6.heap.size := by have := b6.size; simpa using this
      have B6 : Below w.heap.size w w6 := Below.trans (B5) (b6'.mono (by omega))
      replace k0 : Blk w6 (w.heap.size) 24 #[.int .i64 d0, .int .i64 r0, .slice A0 xs0.length c0] := k0.below b6' (by omega)
      obtain ⟨pk0_0, pk0_1, pk0_2⟩ := k0.c3
      have k1 : Blk w6 (w5.heap.size) 29 #[.int .i64 d0, .int .i64 r0, .slice A0_5 xs0.length c0_5] := Blk.below (Blk.new w5 29 #[.int .i64 d0, .int .i64 r0, .slice A0_5 xs0.length c0_5]) b6 (by first | omega | (simp; done) | (simp; omega))
      obtain ⟨pk1_0, pk1_1, pk1_2⟩ := k1.c3
      replace o_w0 := o_w0.below b6' (by omega)
      replace o_w1 := o_w1.below b6' (by omega)
      replace o0_5 := o0_5.below b6' (by omega)
      go_wp2_with (fail)
      refine (impl_HandRow _ _ _ _ _ _ _ _ _ o0_5.ints (by omega) o1_6.ints (by omega) o1_6.cap o1_6.capmax o1_6.nilc).mono ?_
      rintro e w7 ⟨A_g0, c_g0, A_g1, c_g1, rfl, o_g0, o_g1, b7⟩
      have z7 := b7.size
      have B7 : Below w.heap.size w w7 := Below.trans (B6) (b7.mono (by omega))
      replace k0 : Blk w7 (w.heap.size) 24 #[.int .i64 d0, .int .i64 r0, .slice A0 xs0.length c0] := k0.below b7 (by omega)
      obtain ⟨pk0_0, pk0_1, pk0_2⟩ := k0.c3
      replace k1 : Blk w7 (w5.heap.size) 29 #[.int .i64 d0, .int .i64 r0, .slice A0_5 xs0.length c0_5] := k1.below b7 (by omega)
      obtain ⟨pk1_0, pk1_1, pk1_2⟩ := k1.c3
      replace o_w0 := o_w0.below b7 (by omega)
      replace o_w1 := o_w1.below b7 (by omega)
      replace o0_5 := o0_5.below b7 (by omega)
      replace o1_6 := o1_6.below b7 (by omega)
      go_wp2_with (fail)
      refine (laws_eqEventS _ _ _ _ _ _ _ o_g0.events o_w0.events (by have := hr_size d0 r0 xs0 xs1; omega) (by have := hr_size d0 r0 xs0 xs1; omega)).mono ?_
      rintro e w8 ⟨rfl, b8⟩
      have z8 := b8.size
      have B8 : Below w.heap.size w w8 := Below.trans (B7) (b8.mono (by omega))
      replace k0 : Blk w8 (w.heap.size) 24 #[.int .i64 d0, .int .i64 r0, .slice A0 xs0.length c0] := k0.below b8 (by omega)
      obtain ⟨pk0_0, pk0_1, pk0_2⟩ := k0.c3
      replace k1 : Blk w8 (w5.heap.size) 29 #[.int .i64 d0, .int .i64 r0, .slice A0_5 xs0.length c0_5] := k1.below b8 (by omega)
      obtain ⟨pk1_0, pk1_1, pk1_2⟩ := k1.c3
      replace o_w0 := o_w0.below b8 (by omega)
      replace o_w1 := o_w1.below b8 (by omega)
      replace o0_5 := o0_5.below b8 (by omega)
      replace o1_6 := o1_6.below b8 (by omega)
      replace o_g0 := o_g0.below b8 (by omega)
      replace o_g1 := o_g1.below b8 (by omega)
      go_wp2_with (fail)
      refine (laws_eqInt64S' _ _ _ _ _ _ _ o_g1.ints o_w1.ints (by have := hr_size d0 r0 xs0 xs1; omega) (by have := hr_size d0 r0 xs0 xs1; omega)).mono ?_
      rintro e w9 ⟨rfl, b9⟩
      have z9 := b9.size
      have B9 : Below w.heap.size w w9 := Below.trans (B8) (b9.mono (by omega))
      replace k0 : Blk w9 (w.heap.size) 24 #[.int .i64 d0, .int .i64 r0, .slice A0 xs0.length c0] := k0.below b9 (by omega)
      obtain ⟨pk0_0, pk0_1, pk0_2⟩ := k0.c3
      replace k1 : Blk w9 (w5.heap.size) 29 #[.int .i64 d0, .int .i64 r0, .slice A0_5 xs0.length c0_5] := k1.below b9 (by omega)
      obtain ⟨pk1_0, pk1_1, pk1_2⟩ := k1.c3
      replace o_w0 := o_w0.below b9 (by omega)
      replace o_w1 := o_w1.below b9 (by omega)
      replace o0_5 := o0_5.below b9 (by omega)
      replace o1_6 := o1_6.below b9 (by omega)
      replace o_g0 := o_g0.below b9 (by omega)
      replace o_g1 := o_g1.below b9 (by omega)
      go_wp2_with (fail)
      go_region_held3 (fun W' => (W'.cell? ⟨w.heap.size, 0, none⟩ = some (.int .i64 d0) ∧ W'.cell? ⟨w.heap.size, 1, none⟩ = some (.int .i64 r0) ∧ W'.cell? ⟨w.heap.size, 2, none⟩ = some (.slice A0 xs0.length c0)) ∧ (W'.cell? ⟨w5.heap.size, 0, none⟩ = some (.int .i64 d0) ∧ W'.cell? ⟨w5.heap.size, 1, none⟩ = some (.int .i64 r0) ∧ W'.cell? ⟨w5.heap.size, 2, none⟩ = some (.slice A0_5 xs0.length c0_5))) (first | exact ⟨k0.c3, k1.c3⟩ | exact ⟨(k0.below b10 (by first | omega | (simp; done) | (simp; omega))).c3, (k1.below b10 (by first | omega | (simp; done) | (simp; omega))).c3⟩ | exact ⟨(k0.below (b10.trans (b11.mono b10.size)) (by first | omega | (simp; done) | (simp; omega))).c3, (k1.below (b10.trans (b11.mono b10.size)) (by first | omega | (simp; done) | (simp; omega))).c3⟩)
        (first | (go_at_call 6; refine (laws_toRow _ _ _ _ _ _ (h0.below (B9).drew) (by omega)).mono ?_; rintro e w10 ⟨A0_10, c0_10, rfl, o0_10, b10⟩; replace b10 := undrew b10) | (go_at_call 11; refine (laws_eqRow _ _ _ _ _ _ _ _ _ _ _ ((o0_5.ints).below b10) o0_10.ints (by omega) (by omega)).mono ?_; rintro e w11 ⟨rfl, b11⟩))
      have z10 := b10.size
      have B10 : Below w.heap.size w w10 := Below.trans (B9) (b10.mono (by omega))
      replace k0 : Blk w10 (w.heap.size) 24 #[.int .i64 d0, .int .i64 r0, .slice A0 xs0.length c0] := k0.below b10 (by omega)
      obtain ⟨pk0_0, pk0_1, pk0_2⟩ := k0.c3
      replace k1 : Blk w10 (w5.heap.size) 29 #[.int .i64 d0, .int .i64 r0, .slice A0_5 xs0.length c0_5] := k1.below b10 (by omega)
      obtain ⟨pk1_0, pk1_1, pk1_2⟩ := k1.c3
      replace o_w0 := o_w0.below b10 (by omega)
      replace o_w1 := o_w1.below b10 (by omega)
      replace o0_5 := o0_5.below b10 (by omega)
      replace o1_6 := o1_6.below b10 (by omega)
      replace o_g0 := o_g0.below b10 (by omega)
      replace o_g1 := o_g1.below b10 (by omega)
      have z11 := b11.size
      have B11 : Below w.heap.size w w11 := Below.trans (B10) (b11.mono (by omega))
      replace k0 : Blk w11 (w.heap.size) 24 #[.int .i64 d0, .int .i64 r0, .slice A0 xs0.length c0] := k0.below b11 (by omega)
      obtain ⟨pk0_0, pk0_1, pk0_2⟩ := k0.c3
      replace k1 : Blk w11 (w5.heap.size) 29 #[.int .i64 d0, .int .i64 r0, .slice A0_5 xs0.length c0_5] := k1.below b11 (by omega)
      obtain ⟨pk1_0, pk1_1, pk1_2⟩ := k1.c3
      replace o_w0 := o_w0.below b11 (by omega)
      replace o_w1 := o_w1.below b11 (by omega)
      replace o0_5 := o0_5.below b11 (by omega)
      replace o1_6 := o1_6.below b11 (by omega)
      replace o_g0 := o_g0.below b11 (by omega)
      replace o_g1 := o_g1.below b11 (by omega)
      go_wp2_with (fail)
      refine (laws_toInt64S _ _ _ _ (h1.below B11) (by omega)).mono ?_
      rintro e w12 ⟨A1_12, c1_12, rfl, o1_12, b12⟩
      have z12 := b12.size
      have B12 : Below w.heap.size w w12 := Below.trans (B11) (b12.mono (by omega))
      replace k0 : Blk w12 (w.heap.size) 24 #[.int .i64 d0, .int .i64 r0, .slice A0 xs0.length c0] := k0.below b12 (by omega)
      obtain ⟨pk0_0, pk0_1, pk0_2⟩ := k0.c3
      replace k1 : Blk w12 (w5.heap.size) 29 #[.int .i64 d0, .int .i64 r0, .slice A0_5 xs0.length c0_5] := k1.below b12 (by omega)
      obtain ⟨pk1_0, pk1_1, pk1_2⟩ := k1.c3
      replace o_w0 := o_w0.below b12 (by omega)
      replace o_w1 := o_w1.below b12 (by omega)
      replace o0_5 := o0_5.below b12 (by omega)
      replace o1_6 := o1_6.below b12 (by omega)
      replace o_g0 := o_g0.below b12 (by omega)
      replace o_g1 := o_g1.below b12 (by omega)
      go_wp2_with (fail)
      refine (laws_eqInt64S' _ _ _ _ _ _ _ o1_6.ints o1_12.ints (by omega) (by omega)).mono ?_
      rintro e w13 ⟨rfl, b13⟩
      have z13 := b13.size
      have B13 : Below w.heap.size w w13 := Below.trans (B12) (b13.mono (by omega))
      replace k0 : Blk w13 (w.heap.size) 24 #[.int .i64 d0, .int .i64 r0, .slice A0 xs0.length c0] := k0.below b13 (by omega)
      obtain ⟨pk0_0, pk0_1, pk0_2⟩ := k0.c3
      replace k1 : Blk w13 (w5.heap.size) 29 #[.int .i64 d0, .int .i64 r0, .slice A0_5 xs0.length c0_5] := k1.below b13 (by omega)
      obtain ⟨pk1_0, pk1_1, pk1_2⟩ := k1.c3
      replace o_w0 := o_w0.below b13 (by omega)
      replace o_w1 := o_w1.below b13 (by omega)
      replace o0_5 := o0_5.below b13 (by omega)
      replace o1_6 := o1_6.below b13 (by omega)
      replace o_g0 := o_g0.below b13 (by omega)
      replace o_g1 := o_g1.below b13 (by omega)
      replace o1_12 := o1_12.below b13 (by omega)
      go_wp2_with (fail)
      refine (laws_markRow _ _ _ _ _ _ _ _ _ o0_5 (by omega) (by omega)).mono ?_
      rintro e w14 ⟨rfl, o0_5, b14⟩
      have z14 := b14.size
      have B14 : Below w.heap.size w w14 := Below.trans (B13) ((b14.below (by omega)).mono (by omega))
      replace k0 : Blk w14 (w.heap.size) 24 #[.int .i64 d0, .int .i64 r0, .slice A0 xs0.length c0] := k0.upd b14 (by omega)
      obtain ⟨pk0_0, pk0_1, pk0_2⟩ := k0.c3
      replace k1 : Blk w14 (w5.heap.size) 29 #[.int .i64 d0, .int .i64 r0, .slice A0_5 xs0.length c0_5] := k1.upd b14 (by omega)
      obtain ⟨pk1_0, pk1_1, pk1_2⟩ := k1.c3
      replace o_w0 := o_w0.upd b14 (by omega)
      replace o_w1 := o_w1.upd b14 (by omega)
      replace o1_6 := o1_6.upd b14 (by omega)
      replace o_g0 := o_g0.upd b14 (by omega)
      replace o_g1 := o_g1.upd b14 (by omega)
      go_wp2_with (fail)
      refine (laws_markInt64S _ _ _ _ _ _ _ o1_6 (by omega) (by omega)).mono ?_
      rintro e w15 ⟨rfl, o1_6, b15⟩
      have z15 := b15.size
      have B15 : Below w.heap.size w w15 := Below.trans (B14) ((b15.below (by omega)).mono (by omega))
      replace k0 : Blk w15 (w.heap.size) 24 #[.int .i64 d0, .int .i64 r0, .slice A0 xs0.length c0] := k0.upd b15 (by omega)
      obtain ⟨pk0_0, pk0_1, pk0_2⟩ := k0.c3
      replace k1 : Blk w15 (w5.heap.size) 29 #[.int .i64 d0, .int .i64 r0, .slice A0_5 xs0.length c0_5] := k1.upd b15 (by omega)
      obtain ⟨pk1_0, pk1_1, pk1_2⟩ := k1.c3
      replace o_w0 := o_w0.upd b15 (by omega)
      replace o_w1 := o_w1.upd b15 (by omega)
      replace o0_5 := o0_5.upd b15 (by omega)
      replace o_g0 := o_g0.upd b15 (by omega)
      replace o_g1 := o_g1.upd b15 (by omega)
      go_wp2_with (fail)
      refine (laws_eqEventS _ _ _ _ _ _ _ o_g0.events o_w0.events (by have := hr_size d0 r0 xs0 xs1; omega) (by have := hr_size d0 r0 xs0 xs1; omega)).mono ?_
      rintro e w16 ⟨rfl, b16⟩
      have z16 := b16.size
      have B16 : Below w.heap.size w w16 := Below.trans (B15) (b16.mono (by omega))
      replace k0 : Blk w16 (w.heap.size) 24 #[.int .i64 d0, .int .i64 r0, .slice A0 xs0.length c0] := k0.below b16 (by omega)
      obtain ⟨pk0_0, pk0_1, pk0_2⟩ := k0.c3
      replace k1 : Blk w16 (w5.heap.size) 29 #[.int .i64 d0, .int .i64 r0, .slice A0_5 xs0.length c0_5] := k1.below b16 (by omega)
      obtain ⟨pk1_0, pk1_1, pk1_2⟩ := k1.c3
      replace o_w0 := o_w0.below b16 (by omega)
      replace o_w1 := o_w1.below b16 (by omega)
      replace o0_5 := o0_5.below b16 (by omega)
      replace o1_6 := o1_6.below b16 (by omega)
      replace o_g0 := o_g0.below b16 (by omega)
      replace o_g1 := o_g1.below b16 (by omega)
      go_wp2_with (fail)
      refine (laws_eqInt64S' _ _ _ _ _ _ _ o_g1.ints o_w1.ints (by have := hr_size d0 r0 xs0 xs1; omega) (by have := hr_size d0 r0 xs0 xs1; omega)).mono ?_
      rintro e w17 ⟨rfl, b17⟩
      have z17 := b17.size
      have B17 : Below w.heap.size w w17 := Below.trans (B16) (b17.mono (by omega))
      replace k0 : Blk w17 (w.heap.size) 24 #[.int .i64 d0, .int .i64 r0, .slice A0 xs0.length c0] := k0.below b17 (by omega)
      obtain ⟨pk0_0, pk0_1, pk0_2⟩ := k0.c3
      replace k1 : Blk w17 (w5.heap.size) 29 #[.int .i64 d0, .int .i64 r0, .slice A0_5 xs0.length c0_5] := k1.below b17 (by omega)
      obtain ⟨pk1_0, pk1_1, pk1_2⟩ := k1.c3
      replace o_w0 := o_w0.below b17 (by omega)
      replace o_w1 := o_w1.below b17 (by omega)
      replace o0_5 := o0_5.below b17 (by omega)
      replace o1_6 := o1_6.below b17 (by omega)
      replace o_g0 := o_g0.below b17 (by omega)
      replace o_g1 := o_g1.below b17 (by omega)
      go_wp2_with (fail)
      obtain ⟨lg, rg, lg', rg', ag1, ag2, ag3, ag4, ag5, ag6, ag7, o_g0', o_g1'⟩ := ownT_apart o_g0 o_g1 (by decide) (by omega)
      have o_g0 : OwnEvent _ lg rg _ _ _ := o_g0'
      have o_g1 : OwnI _ lg' rg' _ _ _ := o_g1'
      clear o_g0' o_g1'
      refine (laws_markEventS _ _ _ _ _ _ _ o_g0 (by omega) (by have := hr_size d0 r0 xs0 xs1; omega)).mono ?_
      rintro e w18 ⟨rfl, o_g0, b18⟩
      have z18 := b18.size
      have B18 : Below w.heap.size w w18 := Below.trans (B17) ((b18.below (by omega)).mono (by omega))
      replace k0 : Blk w18 (w.heap.size) 24 #[.int .i64 d0, .int .i64 r0, .slice A0 xs0.length c0] := k0.upd b18 (by omega)
      obtain ⟨pk0_0, pk0_1, pk0_2⟩ := k0.c3
      replace k1 : Blk w18 (w5.heap.size) 29 #[.int .i64 d0, .int .i64 r0, .slice A0_5 xs0.length c0_5] := k1.upd b18 (by omega)
      obtain ⟨pk1_0, pk1_1, pk1_2⟩ := k1.c3
      replace o_w0 := o_w0.upd b18 (by omega)
      replace o_w1 := o_w1.upd b18 (by omega)
      replace o0_5 := o0_5.upd b18 (by omega)
      replace o1_6 := o1_6.upd b18 (by omega)
      replace o_g1 := o_g1.upd b18 (by omega)
      go_wp2_with (fail)
      refine (laws_markInt64S _ _ _ _ _ _ _ o_g1 (by omega) (by have := hr_size d0 r0 xs0 xs1; omega)).mono ?_
      rintro e w19 ⟨rfl, o_g1, b19⟩
      have z19 := b19.size
      have B19 : Below w.heap.size w w19 := Below.trans (B18) ((b19.below (by omega)).mono (by omega))
      replace k0 : Blk w19 (w.heap.size) 24 #[.int .i64 d0, .int .i64 r0, .slice A0 xs0.length c0] := k0.upd b19 (by omega)
      obtain ⟨pk0_0, pk0_1, pk0_2⟩ := k0.c3
      replace k1 : Blk w19 (w5.heap.size) 29 #[.int .i64 d0, .int .i64 r0, .slice A0_5 xs0.length c0_5] := k1.upd b19 (by omega)
      obtain ⟨pk1_0, pk1_1, pk1_2⟩ := k1.c3
      replace o_w0 := o_w0.upd b19 (by omega)
      replace o_w1 := o_w1.upd b19 (by omega)
      replace o0_5 := o0_5.upd b19 (by omega)
      replace o1_6 := o1_6.upd b19 (by omega)
      replace o_g0 := o_g0.upd b19 (by omega)
      go_wp2_with (fail)
      refine (belowOf (laws_heldEventS _ _ _ _ _ o_g0.events (by omega) (by have := hr_size d0 r0 xs0 xs1; omega))).mono ?_
      rintro e w20 ⟨rfl, b20⟩
      have z20 := b20.size
      have B20 : Below w.heap.size w w20 := Below.trans (B19) (b20.mono (by omega))
      replace k0 : Blk w20 (w.heap.size) 24 #[.int .i64 d0, .int .i64 r0, .slice A0 xs0.length c0] := k0.below b20 (by omega)
      obtain ⟨pk0_0, pk0_1, pk0_2⟩ := k0.c3
      replace k1 : Blk w20 (w5.heap.size) 29 #[.int .i64 d0, .int .i64 r0, .slice A0_5 xs0.length c0_5] := k1.below b20 (by omega)
      obtain ⟨pk1_0, pk1_1, pk1_2⟩ := k1.c3
      replace o_w0 := o_w0.below b20 (by omega)
      replace o_w1 := o_w1.below b20 (by omega)
      replace o0_5 := o0_5.below b20 (by omega)
      replace o1_6 := o1_6.below b20 (by omega)
      replace o_g0 := o_g0.below b20 (by omega)
      replace o_g1 := o_g1.below b20 (by omega)
      go_wp2_with (fail)
      refine (belowOf (laws_heldInt64S _ _ _ _ _ o_g1.ints (by omega) (by have := hr_size d0 r0 xs0 xs1; omega))).mono ?_
      rintro e w21 ⟨rfl, b21⟩
      have z21 := b21.size
      have B21 : Below w.heap.size w w21 := Below.trans (B20) (b21.mono (by omega))
      replace k0 : Blk w21 (w.heap.size) 24 #[.int .i64 d0, .int .i64 r0, .slice A0 xs0.length c0] := k0.below b21 (by omega)
      obtain ⟨pk0_0, pk0_1, pk0_2⟩ := k0.c3
      replace k1 : Blk w21 (w5.heap.size) 29 #[.int .i64 d0, .int .i64 r0, .slice A0_5 xs0.length c0_5] := k1.below b21 (by omega)
      obtain ⟨pk1_0, pk1_1, pk1_2⟩ := k1.c3
      replace o_w0 := o_w0.below b21 (by omega)
      replace o_w1 := o_w1.below b21 (by omega)
      replace o0_5 := o0_5.below b21 (by omega)
      replace o1_6 := o1_6.below b21 (by omega)
      replace o_g0 := o_g0.below b21 (by omega)
      replace o_g1 := o_g1.below b21 (by omega)
      go_wp2_with (fail)
      refine (laws_toRow _ _ _ _ _ _ (h0.below B21) (by omega)).mono ?_
      rintro e w22 ⟨A0_22, c0_22, rfl, o0_22, b22⟩
      have z22 := b22.size
      have B22 : Below w.heap.size w w22 := Below.trans (B21) (b22.mono (by omega))
      replace k0 : Blk w22 (w.heap.size) 24 #[.int .i64 d0, .int .i64 r0, .slice A0 xs0.length c0] := k0.below b22 (by omega)
      obtain ⟨pk0_0, pk0_1, pk0_2⟩ := k0.c3
      replace k1 : Blk w22 (w5.heap.size) 29 #[.int .i64 d0, .int .i64 r0, .slice A0_5 xs0.length c0_5] := k1.below b22 (by omega)
      obtain ⟨pk1_0, pk1_1, pk1_2⟩ := k1.c3
      replace o_w0 := o_w0.below b22 (by omega)
      replace o_w1 := o_w1.below b22 (by omega)
      replace o0_5 := o0_5.below b22 (by omega)
      replace o1_6 := o1_6.below b22 (by omega)
      replace o_g0 := o_g0.below b22 (by omega)
      replace o_g1 := o_g1.below b22 (by omega)
      go_wp2_with (fail)
      refine (laws_toInt64S _ _ _ _ (h1.below B22) (by omega)).mono ?_
      rintro e w23 ⟨A1_23, c1_23, rfl, o1_23, b23⟩
      have z23 := b23.size
      have B23 : Below w.heap.size w w23 := Below.trans (B22) (b23.mono (by omega))
      replace k0 : Blk w23 (w.heap.size) 24 #[.int .i64 d0, .int .i64 r0, .slice A0 xs0.length c0] := k0.below b23 (by omega)
      obtain ⟨pk0_0, pk0_1, pk0_2⟩ := k0.c3
      replace k1 : Blk w23 (w5.heap.size) 29 #[.int .i64 d0, .int .i64 r0, .slice A0_5 xs0.length c0_5] := k1.below b23 (by omega)
      obtain ⟨pk1_0, pk1_1, pk1_2⟩ := k1.c3
      replace o_w0 := o_w0.below b23 (by omega)
      replace o_w1 := o_w1.below b23 (by omega)
      replace o0_5 := o0_5.below b23 (by omega)
      replace o1_6 := o1_6.below b23 (by omega)
      replace o_g0 := o_g0.below b23 (by omega)
      replace o_g1 := o_g1.below b23 (by omega)
      replace o0_22 := o0_22.below b23 (by omega)
      go_wp2_with (fail)
      refine (impl_HandRow _ _ _ _ _ _ _ _ _ o0_22.ints (by omega) o1_23.ints (by omega) o1_23.cap o1_23.capmax o1_23.nilc).mono ?_
      rintro e w24 ⟨A_h0, c_h0, A_h1, c_h1, rfl, o_h0, o_h1, b24⟩
      have z24 := b24.size
      have B24 : Below w.heap.size w w24 := Below.trans (B23) (b24.mono (by omega))
      replace k0 : Blk w24 (w.heap.size) 24 #[.int .i64 d0, .int .i64 r0, .slice A0 xs0.length c0] := k0.below b24 (by omega)
      obtain ⟨pk0_0, pk0_1, pk0_2⟩ := k0.c3
      replace k1 : Blk w24 (w5.heap.size) 29 #[.int .i64 d0, .int .i64 r0, .slice A0_5 xs0.length c0_5] := k1.below b24 (by omega)
      obtain ⟨pk1_0, pk1_1, pk1_2⟩ := k1.c3
      replace o_w0 := o_w0.below b24 (by omega)
      replace o_w1 := o_w1.below b24 (by omega)
      replace o0_5 := o0_5.below b24 (by omega)
      replace o1_6 := o1_6.below b24 (by omega)
      replace o_g0 := o_g0.below b24 (by omega)
      replace o_g1 := o_g1.below b24 (by omega)
      replace o0_22 := o0_22.below b24 (by omega)
      replace o1_23 := o1_23.below b24 (by omega)
      go_wp2_with (fail)
      refine (laws_eqEventS _ _ _ _ _ _ _ o_h0.events o_w0.events (by have := hr_size d0 r0 xs0 xs1; omega) (by have := hr_size d0 r0 xs0 xs1; omega)).mono ?_
      rintro e w25 ⟨rfl, b25⟩
      have z25 := b25.size
      have B25 : Below w.heap.size w w25 := Below.trans (B24) (b25.mono (by omega))
      replace k0 : Blk w25 (w.heap.size) 24 #[.int .i64 d0, .int .i64 r0, .slice A0 xs0.length c0] := k0.below b25 (by omega)
      obtain ⟨pk0_0, pk0_1, pk0_2⟩ := k0.c3
      replace k1 : Blk w25 (w5.heap.size) 29 #[.int .i64 d0, .int .i64 r0, .slice A0_5 xs0.length c0_5] := k1.below b25 (by omega)
      obtain ⟨pk1_0, pk1_1, pk1_2⟩ := k1.c3
      replace o_w0 := o_w0.below b25 (by omega)
      replace o_w1 := o_w1.below b25 (by omega)
      replace o0_5 := o0_5.below b25 (by omega)
      replace o1_6 := o1_6.below b25 (by omega)
      replace o_g0 := o_g0.below b25 (by omega)
      replace o_g1 := o_g1.below b25 (by omega)
      replace o_h0 := o_h0.below b25 (by omega)
      replace o_h1 := o_h1.below b25 (by omega)
      go_wp2_with (fail)
      refine (laws_eqInt64S' _ _ _ _ _ _ _ o_h1.ints o_w1.ints (by have := hr_size d0 r0 xs0 xs1; omega) (by have := hr_size d0 r0 xs0 xs1; omega)).mono ?_
      rintro e w26 ⟨rfl, b26⟩
      have z26 := b26.size
      have B26 : Below w.heap.size w w26 := Below.trans (B25) (b26.mono (by omega))
      replace k0 : Blk w26 (w.heap.size) 24 #[.int .i64 d0, .int .i64 r0, .slice A0 xs0.length c0] := k0.below b26 (by omega)
      obtain ⟨pk0_0, pk0_1, pk0_2⟩ := k0.c3
      replace k1 : Blk w26 (w5.heap.size) 29 #[.int .i64 d0, .int .i64 r0, .slice A0_5 xs0.length c0_5] := k1.below b26 (by omega)
      obtain ⟨pk1_0, pk1_1, pk1_2⟩ := k1.c3
      replace o_w0 := o_w0.below b26 (by omega)
      replace o_w1 := o_w1.below b26 (by omega)
      replace o0_5 := o0_5.below b26 (by omega)
      replace o1_6 := o1_6.below b26 (by omega)
      replace o_g0 := o_g0.below b26 (by omega)
      replace o_g1 := o_g1.below b26 (by omega)
      replace o_h0 := o_h0.below b26 (by omega)
      replace o_h1 := o_h1.below b26 (by omega)
      go_wp2_with (fail)
      refine (belowOf (laws_heldEventS _ _ _ _ _ o_g0.events (by omega) (by have := hr_size d0 r0 xs0 xs1; omega))).mono ?_
      rintro e w27 ⟨rfl, b27⟩
      have z27 := b27.size
      have B27 : Below w.heap.size w w27 := Below.trans (B26) (b27.mono (by omega))
      replace k0 : Blk w27 (w.heap.size) 24 #[.int .i64 d0, .int .i64 r0, .slice A0 xs0.length c0] := k0.below b27 (by omega)
      obtain ⟨pk0_0, pk0_1, pk0_2⟩ := k0.c3
      replace k1 : Blk w27 (w5.heap.size) 29 #[.int .i64 d0, .int .i64 r0, .slice A0_5 xs0.length c0_5] := k1.below b27 (by omega)
      obtain ⟨pk1_0, pk1_1, pk1_2⟩ := k1.c3
      replace o_w0 := o_w0.below b27 (by omega)
      replace o_w1 := o_w1.below b27 (by omega)
      replace o0_5 := o0_5.below b27 (by omega)
      replace o1_6 := o1_6.below b27 (by omega)
      replace o_g0 := o_g0.below b27 (by omega)
      replace o_g1 := o_g1.below b27 (by omega)
      replace o_h0 := o_h0.below b27 (by omega)
      replace o_h1 := o_h1.below b27 (by omega)
      go_wp2_with (fail)
      refine (belowOf (laws_heldInt64S _ _ _ _ _ o_g1.ints (by omega) (by have := hr_size d0 r0 xs0 xs1; omega))).mono ?_
      rintro e w28 ⟨rfl, b28⟩
      have z28 := b28.size
      have B28 : Below w.heap.size w w28 := Below.trans (B27) (b28.mono (by omega))
      replace k0 : Blk w28 (w.heap.size) 24 #[.int .i64 d0, .int .i64 r0, .slice A0 xs0.length c0] := k0.below b28 (by omega)
      obtain ⟨pk0_0, pk0_1, pk0_2⟩ := k0.c3
      replace k1 : Blk w28 (w5.heap.size) 29 #[.int .i64 d0, .int .i64 r0, .slice A0_5 xs0.length c0_5] := k1.below b28 (by omega)
      obtain ⟨pk1_0, pk1_1, pk1_2⟩ := k1.c3
      replace o_w0 := o_w0.below b28 (by omega)
      replace o_w1 := o_w1.below b28 (by omega)
      replace o0_5 := o0_5.below b28 (by omega)
      replace o1_6 := o1_6.below b28 (by omega)
      replace o_g0 := o_g0.below b28 (by omega)
      replace o_g1 := o_g1.below b28 (by omega)
      replace o_h0 := o_h0.below b28 (by omega)
      replace o_h1 := o_h1.below b28 (by omega)
      go_wp2_with (fail)
      go_ret
      exact ⟨rfl, B28⟩
    · have hz1 : szLeft (1048576) ((xs0.length : Nat) : Int) = -1 := by rw [szLeft, if_pos (by omega)]
      go_enter Try.func3, Try.ntmps3
      go_wp2_with (fail)
      refine (laws_szRow _ _ _ _ _ _ _ l0 (by omega) (by omega)).mono ?_
      rintro e w1 ⟨rfl, b1⟩
      simp only [World.size_alloc] at b1
      have b1' : Below w.heap.size w w1 := Below.trans (by (repeat (first | exact Below.refl _ _ | assumption | apply Below.drew | apply below_drewN | (refine Below.alloc ?_ (by first | omega | (simp; done) | (simp; omega)) _) | (refine Below.setCell ?_ (by first | omega | (simp; done) | (simp; omega)) _)))) (b1.mono (by first | omega | (simp; done) | (simp; omega)))
      have z1 : w.heap.size + 1 ≤ w1.heap.size := by have := b1.size; simpa using this
      have B1 : Below w.heap.size w w1 := Below.trans (Below.refl _ _) (b1'.mono (by omega))
      have k0 : Blk w1 (w.heap.size) 24 #[.int .i64 d0, .int .i64 r0, .slice A0 xs0.length c0] := Blk.below (Blk.new w 24 #[.int .i64 d0, .int .i64 r0, .slice A0 xs0.length c0]) b1 (by first | omega | (simp; done) | (simp; omega))
      obtain ⟨pk0_0, pk0_1, pk0_2⟩ := k0.c3
      go_wp2_with (fail)
      go_ret
      exact ⟨rfl, B1⟩
  · have hd0 : decide ((1048576 : Int) < (xs1.length : Nat)) = true := decide_eq_true (by omega)
    go_enter Try.func3, Try.ntmps3
    go_wp2_with (fail)
    go_ret
    exact ⟨rfl, by (repeat (first | exact Below.refl _ _ | assumption | apply Below.drew | apply below_drewN | (refine Below.alloc ?_ (by first | omega | (simp; done) | (simp; omega)) _) | (refine Below.setCell ?_ (by first | omega | (simp; done) | (simp; omega)) _)))⟩


end Go.Proofs.Ythjamohaeahipaa
