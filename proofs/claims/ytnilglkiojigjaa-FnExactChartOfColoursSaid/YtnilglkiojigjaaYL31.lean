/- The walks of the laws, printed by exact.py. -/
import Derived.Test.YtnilglkiojigjaaZ22
import Derived.Test.YtnilglkiojigjaaZ21
namespace Go.Proofs.Ytnilglkiojigjaa
open Go.RowKit

set_option maxHeartbeats 4000000 in
theorem law_FnExactChartOfColours (n0 : Int) (xs0 : List (List Int)) (A0 : Option Addr) (c0 : Nat) (w : World) (h0 : Ints2 w A0 xs0) (l0 : xs0.length ≤ 9223372036854775807) : Calls Try.prog 6 #[.agg #[.int .i64 n0, .slice A0 xs0.length c0]] w fun e w' => e = .returned (.bool true) ∧ Below w.heap.size w w' := by
  by_cases hle0 : ((sizeII xs0 : Nat) : Int) ≤ 1048576
  · have hz0 : szLeft (1048576) ((sizeII xs0 : Nat) : Int) = 1048576 - ((sizeII xs0 : Nat) : Int) := by rw [szLeft, if_neg (by omega)]
    have hd0 : decide (1048576 - ((sizeII xs0 : Nat) : Int) < 0) = false := decide_eq_false (by omega)
    have hsz0 : xs0.length ≤ sizeII xs0 := by unfold sizeII; omega
    have hcn0 : cntII xs0 ≤ sizeII xs0 := by unfold sizeII; omega
    go_enter Try.func6, Try.ntmps6
    go_wp2_with (fail)
    refine (laws_szColourChart _ _ _ _ _ _ (h0.below ?hb0) l0 (by omega) (by omega)).mono ?_
    case hb0 => (repeat (first | exact Below.refl _ _ | assumption | apply Below.drew | apply below_drewN | (refine Below.alloc ?_ (by first | omega | (simp; done) | (simp; omega)) _) | (refine Below.setCell ?_ (by first | omega | (simp; done) | (simp; omega)) _)))
    rintro e w1 ⟨rfl, b1⟩
    simp only [World.size_alloc] at b1
    have b1' : Below w.heap.size w w1 := Below.trans (by (repeat (first | exact Below.refl _ _ | assumption | apply Below.drew | apply below_drewN | (refine Below.alloc ?_ (by first | omega | (simp; done) | (simp; omega)) _) | (refine Below.setCell ?_ (by first | omega | (simp; done) | (simp; omega)) _)))) (b1.mono (by first | omega | (simp; done) | (simp; omega)))
    have z1 : w.heap.size + 1 ≤ w1.heap.size := by have := b1.size; simpa using this
    have B1 : Below w.heap.size w w1 := Below.trans (Below.refl _ _) (b1'.mono (by omega))
    have k0 : Blk w1 (w.heap.size) 53 #[.int .i64 n0, .slice A0 xs0.length c0] := Blk.below (Blk.new w 53 #[.int .i64 n0, .slice A0 xs0.length c0]) b1 (by first | omega | (simp; done) | (simp; omega))
    obtain ⟨pk0_0, pk0_1⟩ := k0.c2
    go_wp2_with (fail)
    refine (laws_toColourChart _ _ _ _ _ (h0.below B1) (by omega)).mono ?_
    rintro e w2 ⟨A0_2, c0_2, rfl, o0_2, b2⟩
    have z2 := b2.size
    have B2 : Below w.heap.size w w2 := Below.trans (B1) (b2.mono (by omega))
    replace k0 : Blk w2 (w.heap.size) 53 #[.int .i64 n0, .slice A0 xs0.length c0] := k0.below b2 (by omega)
    obtain ⟨pk0_0, pk0_1⟩ := k0.c2
    go_wp2_with (fail)
    refine (spec_ChartOfColours _ _ _ _ _ o0_2.ints2 (by omega)).mono ?_
    rintro e w3 ⟨A_w0, c_w0, rfl, o_w0, b3⟩
    have z3 := b3.size
    have B3 : Below w.heap.size w w3 := Below.trans (B2) (b3.mono (by omega))
    replace k0 : Blk w3 (w.heap.size) 53 #[.int .i64 n0, .slice A0 xs0.length c0] := k0.below b3 (by omega)
    obtain ⟨pk0_0, pk0_1⟩ := k0.c2
    replace o0_2 := o0_2.below b3 (by omega)
    obtain ⟨qk0_0, qk0_1⟩ := (Blk.alloc k0 (.cells #[.int .i64 ((cofX n0 xs0)).n, .slice A_w0 ((cofX n0 xs0)).xs.length c_w0] 25)).c2
    go_wp2_with (fail)
    refine (laws_toColourChart _ _ _ _ _ ((h0.below B3).below ?hb0) (by omega)).mono ?_
    case hb0 => (repeat (first | exact Below.refl _ _ | assumption | apply Below.drew | apply below_drewN | (refine Below.alloc ?_ (by first | omega | (simp; done) | (simp; omega)) _) | (refine Below.setCell ?_ (by first | omega | (simp; done) | (simp; omega)) _)))
    rintro e w4 ⟨A0_4, c0_4, rfl, o0_4, b4⟩
    simp only [World.size_alloc] at o0_4 b4
    have b4' : Below w3.heap.size w3 w4 := Below.trans (by (repeat (first | exact Below.refl _ _ | assumption | apply Below.drew | apply below_drewN | (refine Below.alloc ?_ (by first | omega | (simp; done) | (simp; omega)) _) | (refine Below.setCell ?_ (by first | omega | (simp; done) | (simp; omega)) _)))) (b4.mono (by first | omega | (simp; done) | (simp; omega)))
    have z4 : w3.heap.size + 1 ≤ w4.heap.size := by have := b4.size; simpa using this
    have B4 : Below w.heap.size w w4 := Below.trans (B3) (b4'.mono (by omega))
    replace k0 : Blk w4 (w.heap.size) 53 #[.int .i64 n0, .slice A0 xs0.length c0] := k0.below b4' (by omega)
    obtain ⟨pk0_0, pk0_1⟩ := k0.c2
    have k1 : Blk w4 (w3.heap.size) 25 #[.int .i64 ((cofX n0 xs0)).n, .slice A_w0 ((cofX n0 xs0)).xs.length c_w0] := Blk.below (Blk.new w3 25 #[.int .i64 ((cofX n0 xs0)).n, .slice A_w0 ((cofX n0 xs0)).xs.length c_w0]) b4 (by first | omega | (simp; done) | (simp; omega))
    obtain ⟨pk1_0, pk1_1⟩ := k1.c2
    replace o_w0 := o_w0.below b4' (by omega)
    obtain ⟨qk0_0, qk0_1⟩ := (Blk.alloc k0 (.cells #[.int .i64 n0, .slice A0_4 xs0.length c0_4] 56)).c2
    obtain ⟨qk1_0, qk1_1⟩ := (Blk.alloc k1 (.cells #[.int .i64 n0, .slice A0_4 xs0.length c0_4] 56)).c2
    go_wp2_with (fail)
    refine (impl_ChartOfColours _ _ _ _ _ (o0_4.ints2.below ?hb0) (by omega)).mono ?_
    case hb0 => (repeat (first | exact Below.refl _ _ | assumption | apply Below.drew | apply below_drewN | (refine Below.alloc ?_ (by first | omega | (simp; done) | (simp; omega)) _) | (refine Below.setCell ?_ (by first | omega | (simp; done) | (simp; omega)) _)))
    rintro e w5 ⟨A_g0, c_g0, rfl, o_g0, b5⟩
    simp only [World.size_alloc] at o_g0 b5
    have b5' : Below w4.heap.size w4 w5 := Below.trans (by (repeat (first | exact Below.refl _ _ | assumption | apply Below.drew | apply below_drewN | (refine Below.alloc ?_ (by first | omega | (simp; done) | (simp; omega)) _) | (refine Below.setCell ?_ (by first | omega | (simp; done) | (simp; omega)) _)))) (b5.mono (by first | omega | (simp; done) | (simp; omega)))
    have z5 : w4.heap.size + 1 ≤ w5.heap.size := by have := b5.size; simpa using this
    have B5 : Below w.heap.size w w5 := Below.trans (B4) (b5'.mono (by omega))
    replace k0 : Blk w5 (w.heap.size) 53 #[.int .i64 n0, .slice A0 xs0.length c0] := k0.below b5' (by omega)
    obtain ⟨pk0_0, pk0_1⟩ := k0.c2
    replace k1 : Blk w5 (w3.heap.size) 25 #[.int .i64 ((cofX n0 xs0)).n, .slice A_w0 ((cofX n0 xs0)).xs.length c_w0] := k1.below b5' (by omega)
    obtain ⟨pk1_0, pk1_1⟩ := k1.c2
    have k2 : Blk w5 (w4.heap.size) 56 #[.int .i64 n0, .slice A0_4 xs0.length c0_4] := Blk.below (Blk.new w4 56 #[.int .i64 n0, .slice A0_4 xs0.length c0_4]) b5 (by first | omega | (simp; done) | (simp; omega))
    obtain ⟨pk2_0, pk2_1⟩ := k2.c2
    replace o_w0 := o_w0.below b5' (by omega)
    replace o0_4 := o0_4.below b5' (by omega)
    obtain ⟨qk0_0, qk0_1⟩ := (Blk.alloc k0 (.cells #[.int .i64 ((cofX n0 xs0)).n, .slice A_g0 ((cofX n0 xs0)).xs.length c_g0] 25)).c2
    obtain ⟨qk1_0, qk1_1⟩ := (Blk.alloc k1 (.cells #[.int .i64 ((cofX n0 xs0)).n, .slice A_g0 ((cofX n0 xs0)).xs.length c_g0] 25)).c2
    obtain ⟨qk2_0, qk2_1⟩ := (Blk.alloc k2 (.cells #[.int .i64 ((cofX n0 xs0)).n, .slice A_g0 ((cofX n0 xs0)).xs.length c_g0] 25)).c2
    go_wp2_with (fail)
    refine (laws_eqChart _ _ _ _ _ _ _ _ _ (o_g0.rowsR.below ?hb0) (o_w0.rowsR.below ?hb1) (by have := cofX_size n0 xs0; omega) (by have := cofX_size n0 xs0; omega)).mono ?_
    case hb0 => (repeat (first | exact Below.refl _ _ | assumption | apply Below.drew | apply below_drewN | (refine Below.alloc ?_ (by first | omega | (simp; done) | (simp; omega)) _) | (refine Below.setCell ?_ (by first | omega | (simp; done) | (simp; omega)) _)))
    case hb1 => (repeat (first | exact Below.refl _ _ | assumption | apply Below.drew | apply below_drewN | (refine Below.alloc ?_ (by first | omega | (simp; done) | (simp; omega)) _) | (refine Below.setCell ?_ (by first | omega | (simp; done) | (simp; omega)) _)))
    rintro e w6 ⟨rfl, b6⟩
    simp only [World.size_alloc] at b6
    have b6' : Below w5.heap.size w5 w6 := Below.trans (by (repeat (first | exact Below.refl _ _ | assumption | apply Below.drew | apply below_drewN | (refine Below.alloc ?_ (by first | omega | (simp; done) | (simp; omega)) _) | (refine Below.setCell ?_ (by first | omega | (simp; done) | (simp; omega)) _)))) (b6.mono (by first | omega | (simp; done) | (simp; omega)))
    have z6 : w5.heap.size + 1 ≤ w6.heap.size := by have := b6.size; simpa using this
    have B6 : Below w.heap.size w w6 := Below.trans (B5) (b6'.mono (by omega))
    replace k0 : Blk w6 (w.heap.size) 53 #[.int .i64 n0, .slice A0 xs0.length c0] := k0.below b6' (by omega)
    obtain ⟨pk0_0, pk0_1⟩ := k0.c2
    replace k1 : Blk w6 (w3.heap.size) 25 #[.int .i64 ((cofX n0 xs0)).n, .slice A_w0 ((cofX n0 xs0)).xs.length c_w0] := k1.below b6' (by omega)
    obtain ⟨pk1_0, pk1_1⟩ := k1.c2
    replace k2 : Blk w6 (w4.heap.size) 56 #[.int .i64 n0, .slice A0_4 xs0.length c0_4] := k2.below b6' (by omega)
    obtain ⟨pk2_0, pk2_1⟩ := k2.c2
    have k3 : Blk w6 (w5.heap.size) 25 #[.int .i64 ((cofX n0 xs0)).n, .slice A_g0 ((cofX n0 xs0)).xs.length c_g0] := Blk.below (Blk.new w5 25 #[.int .i64 ((cofX n0 xs0)).n, .slice A_g0 ((cofX n0 xs0)).xs.length c_g0]) b6 (by first | omega | (simp; done) | (simp; omega))
    obtain ⟨pk3_0, pk3_1⟩ := k3.c2
    replace o_w0 := o_w0.below b6' (by omega)
    replace o0_4 := o0_4.below b6' (by omega)
    replace o_g0 := o_g0.below b6' (by omega)
    go_wp2_with (fail)
    go_region_held3 (fun W' => (W'.cell? ⟨w.heap.size, 0, none⟩ = some (.int .i64 n0) ∧ W'.cell? ⟨w.heap.size, 1, none⟩ = some (.slice A0 xs0.length c0)) ∧ (W'.cell? ⟨w4.heap.size, 0, none⟩ = some (.int .i64 n0) ∧ W'.cell? ⟨w4.heap.size, 1, none⟩ = some (.slice A0_4 xs0.length c0_4))) (first | exact ⟨k0.c2, k2.c2⟩ | exact ⟨(k0.below b7 (by first | omega | (simp; done) | (simp; omega))).c2, (k2.below b7 (by first | omega | (simp; done) | (simp; omega))).c2⟩ | exact ⟨(k0.below (b7.trans (b8.mono b7.size)) (by first | omega | (simp; done) | (simp; omega))).c2, (k2.below (b7.trans (b8.mono b7.size)) (by first | omega | (simp; done) | (simp; omega))).c2⟩)
      (first | (go_at_call 34; refine (laws_toColourChart _ _ _ _ _ (h0.below (B6).drew) (by omega)).mono ?_; rintro e w7 ⟨A0_7, c0_7, rfl, o0_7, b7⟩; replace b7 := undrew b7) | (go_at_call 36; refine (laws_eqColourChart _ _ _ _ _ _ _ _ _ ((o0_4.ints2).below b7) o0_7.ints2 (by omega) (by omega)).mono ?_; rintro e w8 ⟨rfl, b8⟩))
    have z7 := b7.size
    have B7 : Below w.heap.size w w7 := Below.trans (B6) (b7.mono (by omega))
    replace k0 : Blk w7 (w.heap.size) 53 #[.int .i64 n0, .slice A0 xs0.length c0] := k0.below b7 (by omega)
    obtain ⟨pk0_0, pk0_1⟩ := k0.c2
    replace k1 : Blk w7 (w3.heap.size) 25 #[.int .i64 ((cofX n0 xs0)).n, .slice A_w0 ((cofX n0 xs0)).xs.length c_w0] := k1.below b7 (by omega)
    obtain ⟨pk1_0, pk1_1⟩ := k1.c2
    replace k2 : Blk w7 (w4.heap.size) 56 #[.int .i64 n0, .slice A0_4 xs0.length c0_4] := k2.below b7 (by omega)
    obtain ⟨pk2_0, pk2_1⟩ := k2.c2
    replace k3 : Blk w7 (w5.heap.size) 25 #[.int .i64 ((cofX n0 xs0)).n, .slice A_g0 ((cofX n0 xs0)).xs.length c_g0] := k3.below b7 (by omega)
    obtain ⟨pk3_0, pk3_1⟩ := k3.c2
    replace o_w0 := o_w0.below b7 (by omega)
    replace o0_4 := o0_4.below b7 (by omega)
    replace o_g0 := o_g0.below b7 (by omega)
    have z8 := b8.size
    have B8 : Below w.heap.size w w8 := Below.trans (B7) (b8.mono (by omega))
    replace k0 : Blk w8 (w.heap.size) 53 #[.int .i64 n0, .slice A0 xs0.length c0] := k0.below b8 (by omega)
    obtain ⟨pk0_0, pk0_1⟩ := k0.c2
    replace k1 : Blk w8 (w3.heap.size) 25 #[.int .i64 ((cofX n0 xs0)).n, .slice A_w0 ((cofX n0 xs0)).xs.length c_w0] := k1.below b8 (by omega)
    obtain ⟨pk1_0, pk1_1⟩ := k1.c2
    replace k2 : Blk w8 (w4.heap.size) 56 #[.int .i64 n0, .slice A0_4 xs0.length c0_4] := k2.below b8 (by omega)
    obtain ⟨pk2_0, pk2_1⟩ := k2.c2
    replace k3 : Blk w8 (w5.heap.size) 25 #[.int .i64 ((cofX n0 xs0)).n, .slice A_g0 ((cofX n0 xs0)).xs.length c_g0] := k3.below b8 (by omega)
    obtain ⟨pk3_0, pk3_1⟩ := k3.c2
    replace o_w0 := o_w0.below b8 (by omega)
    replace o0_4 := o0_4.below b8 (by omega)
    replace o_g0 := o_g0.below b8 (by omega)
    go_wp2_with (fail)
    refine (laws_markColourChart _ _ _ _ _ _ _ _ o0_4 (by omega) (by omega)).mono ?_
    rintro e w9 ⟨rfl, o0_4, b9⟩
    have z9 := b9.size
    have B9 : Below w.heap.size w w9 := Below.trans (B8) ((b9.below (by omega)).mono (by omega))
    replace k0 : Blk w9 (w.heap.size) 53 #[.int .i64 n0, .slice A0 xs0.length c0] := k0.upd b9 (by omega)
    obtain ⟨pk0_0, pk0_1⟩ := k0.c2
    replace k1 : Blk w9 (w3.heap.size) 25 #[.int .i64 ((cofX n0 xs0)).n, .slice A_w0 ((cofX n0 xs0)).xs.length c_w0] := k1.upd b9 (by omega)
    obtain ⟨pk1_0, pk1_1⟩ := k1.c2
    replace k2 : Blk w9 (w4.heap.size) 56 #[.int .i64 n0, .slice A0_4 xs0.length c0_4] := k2.upd b9 (by omega)
    obtain ⟨pk2_0, pk2_1⟩ := k2.c2
    replace k3 : Blk w9 (w5.heap.size) 25 #[.int .i64 ((cofX n0 xs0)).n, .slice A_g0 ((cofX n0 xs0)).xs.length c_g0] := k3.upd b9 (by omega)
    obtain ⟨pk3_0, pk3_1⟩ := k3.c2
    replace o_w0 := o_w0.upd b9 (by omega)
    replace o_g0 := o_g0.upd b9 (by omega)
    go_wp2_with (fail)
    refine (laws_eqChart _ _ _ _ _ _ _ _ _ o_g0.rowsR o_w0.rowsR (by have := cofX_size n0 xs0; omega) (by have := cofX_size n0 xs0; omega)).mono ?_
    rintro e w10 ⟨rfl, b10⟩
    have z10 := b10.size
    have B10 : Below w.heap.size w w10 := Below.trans (B9) (b10.mono (by omega))
    replace k0 : Blk w10 (w.heap.size) 53 #[.int .i64 n0, .slice A0 xs0.length c0] := k0.below b10 (by omega)
    obtain ⟨pk0_0, pk0_1⟩ := k0.c2
    replace k1 : Blk w10 (w3.heap.size) 25 #[.int .i64 ((cofX n0 xs0)).n, .slice A_w0 ((cofX n0 xs0)).xs.length c_w0] := k1.below b10 (by omega)
    obtain ⟨pk1_0, pk1_1⟩ := k1.c2
    replace k2 : Blk w10 (w4.heap.size) 56 #[.int .i64 n0, .slice A0_4 xs0.length c0_4] := k2.below b10 (by omega)
    obtain ⟨pk2_0, pk2_1⟩ := k2.c2
    replace k3 : Blk w10 (w5.heap.size) 25 #[.int .i64 ((cofX n0 xs0)).n, .slice A_g0 ((cofX n0 xs0)).xs.length c_g0] := k3.below b10 (by omega)
    obtain ⟨pk3_0, pk3_1⟩ := k3.c2
    replace o_w0 := o_w0.below b10 (by omega)
    replace o0_4 := o0_4.below b10 (by omega)
    replace o_g0 := o_g0.below b10 (by omega)
    go_wp2_with (fail)
    refine (laws_markChart _ _ _ _ _ _ _ _ o_g0 (by omega) (by have := cofX_size n0 xs0; omega)).mono ?_
    rintro e w11 ⟨rfl, o_g0, b11⟩
    have z11 := b11.size
    have B11 : Below w.heap.size w w11 := Below.trans (B10) ((b11.below (by omega)).mono (by omega))
    replace k0 : Blk w11 (w.heap.size) 53 #[.int .i64 n0, .slice A0 xs0.length c0] := k0.upd b11 (by omega)
    obtain ⟨pk0_0, pk0_1⟩ := k0.c2
    replace k1 : Blk w11 (w3.heap.size) 25 #[.int .i64 ((cofX n0 xs0)).n, .slice A_w0 ((cofX n0 xs0)).xs.length c_w0] := k1.upd b11 (by omega)
    obtain ⟨pk1_0, pk1_1⟩ := k1.c2
    replace k2 : Blk w11 (w4.heap.size) 56 #[.int .i64 n0, .slice A0_4 xs0.length c0_4] := k2.upd b11 (by omega)
    obtain ⟨pk2_0, pk2_1⟩ := k2.c2
    replace k3 : Blk w11 (w5.heap.size) 25 #[.int .i64 ((cofX n0 xs0)).n, .slice A_g0 ((cofX n0 xs0)).xs.length c_g0] := k3.upd b11 (by omega)
    obtain ⟨pk3_0, pk3_1⟩ := k3.c2
    replace o_w0 := o_w0.upd b11 (by omega)
    replace o0_4 := o0_4.upd b11 (by omega)
    go_wp2_with (fail)
    refine (laws_heldChart _ _ _ _ _ _ o_g0.rowsR (by omega) (by have := cofX_size n0 xs0; omega) (by have := cofX_size n0 xs0; omega)).mono ?_
    rintro e w12 ⟨rfl, b12⟩
    have z12 := b12.size
    have B12 : Below w.heap.size w w12 := Below.trans (B11) (b12.mono (by omega))
    replace k0 : Blk w12 (w.heap.size) 53 #[.int .i64 n0, .slice A0 xs0.length c0] := k0.below b12 (by omega)
    obtain ⟨pk0_0, pk0_1⟩ := k0.c2
    replace k1 : Blk w12 (w3.heap.size) 25 #[.int .i64 ((cofX n0 xs0)).n, .slice A_w0 ((cofX n0 xs0)).xs.length c_w0] := k1.below b12 (by omega)
    obtain ⟨pk1_0, pk1_1⟩ := k1.c2
    replace k2 : Blk w12 (w4.heap.size) 56 #[.int .i64 n0, .slice A0_4 xs0.length c0_4] := k2.below b12 (by omega)
    obtain ⟨pk2_0, pk2_1⟩ := k2.c2
    replace k3 : Blk w12 (w5.heap.size) 25 #[.int .i64 ((cofX n0 xs0)).n, .slice A_g0 ((cofX n0 xs0)).xs.length c_g0] := k3.below b12 (by omega)
    obtain ⟨pk3_0, pk3_1⟩ := k3.c2
    replace o_w0 := o_w0.below b12 (by omega)
    replace o0_4 := o0_4.below b12 (by omega)
    replace o_g0 := o_g0.below b12 (by omega)
    go_wp2_with (fail)
    refine (laws_toColourChart _ _ _ _ _ (h0.below B12) (by omega)).mono ?_
    rintro e w13 ⟨A0_13, c0_13, rfl, o0_13, b13⟩
    have z13 := b13.size
    have B13 : Below w.heap.size w w13 := Below.trans (B12) (b13.mono (by omega))
    replace k0 : Blk w13 (w.heap.size) 53 #[.int .i64 n0, .slice A0 xs0.length c0] := k0.below b13 (by omega)
    obtain ⟨pk0_0, pk0_1⟩ := k0.c2
    replace k1 : Blk w13 (w3.heap.size) 25 #[.int .i64 ((cofX n0 xs0)).n, .slice A_w0 ((cofX n0 xs0)).xs.length c_w0] := k1.below b13 (by omega)
    obtain ⟨pk1_0, pk1_1⟩ := k1.c2
    replace k2 : Blk w13 (w4.heap.size) 56 #[.int .i64 n0, .slice A0_4 xs0.length c0_4] := k2.below b13 (by omega)
    obtain ⟨pk2_0, pk2_1⟩ := k2.c2
    replace k3 : Blk w13 (w5.heap.size) 25 #[.int .i64 ((cofX n0 xs0)).n, .slice A_g0 ((cofX n0 xs0)).xs.length c_g0] := k3.below b13 (by omega)
    obtain ⟨pk3_0, pk3_1⟩ := k3.c2
    replace o_w0 := o_w0.below b13 (by omega)
    replace o0_4 := o0_4.below b13 (by omega)
    replace o_g0 := o_g0.below b13 (by omega)
    go_wp2_with (fail)
    refine (impl_ChartOfColours _ _ _ _ _ o0_13.ints2 (by omega)).mono ?_
    rintro e w14 ⟨A_h0, c_h0, rfl, o_h0, b14⟩
    have z14 := b14.size
    have B14 : Below w.heap.size w w14 := Below.trans (B13) (b14.mono (by omega))
    replace k0 : Blk w14 (w.heap.size) 53 #[.int .i64 n0, .slice A0 xs0.length c0] := k0.below b14 (by omega)
    obtain ⟨pk0_0, pk0_1⟩ := k0.c2
    replace k1 : Blk w14 (w3.heap.size) 25 #[.int .i64 ((cofX n0 xs0)).n, .slice A_w0 ((cofX n0 xs0)).xs.length c_w0] := k1.below b14 (by omega)
    obtain ⟨pk1_0, pk1_1⟩ := k1.c2
    replace k2 : Blk w14 (w4.heap.size) 56 #[.int .i64 n0, .slice A0_4 xs0.length c0_4] := k2.below b14 (by omega)
    obtain ⟨pk2_0, pk2_1⟩ := k2.c2
    replace k3 : Blk w14 (w5.heap.size) 25 #[.int .i64 ((cofX n0 xs0)).n, .slice A_g0 ((cofX n0 xs0)).xs.length c_g0] := k3.below b14 (by omega)
    obtain ⟨pk3_0, pk3_1⟩ := k3.c2
    replace o_w0 := o_w0.below b14 (by omega)
    replace o0_4 := o0_4.below b14 (by omega)
    replace o_g0 := o_g0.below b14 (by omega)
    replace o0_13 := o0_13.below b14 (by omega)
    obtain ⟨qk0_0, qk0_1⟩ := (Blk.alloc k0 (.cells #[.int .i64 ((cofX n0 xs0)).n, .slice A_h0 ((cofX n0 xs0)).xs.length c_h0] 25)).c2
    obtain ⟨qk1_0, qk1_1⟩ := (Blk.alloc k1 (.cells #[.int .i64 ((cofX n0 xs0)).n, .slice A_h0 ((cofX n0 xs0)).xs.length c_h0] 25)).c2
    obtain ⟨qk2_0, qk2_1⟩ := (Blk.alloc k2 (.cells #[.int .i64 ((cofX n0 xs0)).n, .slice A_h0 ((cofX n0 xs0)).xs.length c_h0] 25)).c2
    obtain ⟨qk3_0, qk3_1⟩ := (Blk.alloc k3 (.cells #[.int .i64 ((cofX n0 xs0)).n, .slice A_h0 ((cofX n0 xs0)).xs.length c_h0] 25)).c2
    go_wp2_with (fail)
    refine (laws_eqChart _ _ _ _ _ _ _ _ _ (o_h0.rowsR.below ?hb0) (o_w0.rowsR.below ?hb1) (by have := cofX_size n0 xs0; omega) (by have := cofX_size n0 xs0; omega)).mono ?_
    case hb0 => (repeat (first | exact Below.refl _ _ | assumption | apply Below.drew | apply below_drewN | (refine Below.alloc ?_ (by first | omega | (simp; done) | (simp; omega)) _) | (refine Below.setCell ?_ (by first | omega | (simp; done) | (simp; omega)) _)))
    case hb1 => (repeat (first | exact Below.refl _ _ | assumption | apply Below.drew | apply below_drewN | (refine Below.alloc ?_ (by first | omega | (simp; done) | (simp; omega)) _) | (refine Below.setCell ?_ (by first | omega | (simp; done) | (simp; omega)) _)))
    rintro e w15 ⟨rfl, b15⟩
    simp only [World.size_alloc] at b15
    have b15' : Below w14.heap.size w14 w15 := Below.trans (by (repeat (first | exact Below.refl _ _ | assumption | apply Below.drew | apply below_drewN | (refine Below.alloc ?_ (by first | omega | (simp; done) | (simp; omega)) _) | (refine Below.setCell ?_ (by first | omega | (simp; done) | (simp; omega)) _)))) (b15.mono (by first | omega | (simp; done) | (simp; omega)))
    have z15 : w14.heap.size + 1 ≤ w15.heap.size := by have := b15.size; simpa using this
    have B15 : Below w.heap.size w w15 := Below.trans (B14) (b15'.mono (by omega))
    replace k0 : Blk w15 (w.heap.size) 53 #[.int .i64 n0, .slice A0 xs0.length c0] := k0.below b15' (by omega)
    obtain ⟨pk0_0, pk0_1⟩ := k0.c2
    replace k1 : Blk w15 (w3.heap.size) 25 #[.int .i64 ((cofX n0 xs0)).n, .slice A_w0 ((cofX n0 xs0)).xs.length c_w0] := k1.below b15' (by omega)
    obtain ⟨pk1_0, pk1_1⟩ := k1.c2
    replace k2 : Blk w15 (w4.heap.size) 56 #[.int .i64 n0, .slice A0_4 xs0.length c0_4] := k2.below b15' (by omega)
    obtain ⟨pk2_0, pk2_1⟩ := k2.c2
    replace k3 : Blk w15 (w5.heap.size) 25 #[.int .i64 ((cofX n0 xs0)).n, .slice A_g0 ((cofX n0 xs0)).xs.length c_g0] := k3.below b15' (by omega)
    obtain ⟨pk3_0, pk3_1⟩ := k3.c2
    have k4 : Blk w15 (w14.heap.size) 25 #[.int .i64 ((cofX n0 xs0)).n, .slice A_h0 ((cofX n0 xs0)).xs.length c_h0] := Blk.below (Blk.new w14 25 #[.int .i64 ((cofX n0 xs0)).n, .slice A_h0 ((cofX n0 xs0)).xs.length c_h0]) b15 (by first | omega | (simp; done) | (simp; omega))
    obtain ⟨pk4_0, pk4_1⟩ := k4.c2
    replace o_w0 := o_w0.below b15' (by omega)
    replace o0_4 := o0_4.below b15' (by omega)
    replace o_g0 := o_g0.below b15' (by omega)
    replace o_h0 := o_h0.below b15' (by omega)
    go_wp2_with (fail)
    refine (laws_heldChart _ _ _ _ _ _ o_g0.rowsR (by omega) (by have := cofX_size n0 xs0; omega) (by have := cofX_size n0 xs0; omega)).mono ?_
    rintro e w16 ⟨rfl, b16⟩
    have z16 := b16.size
    have B16 : Below w.heap.size w w16 := Below.trans (B15) (b16.mono (by omega))
    replace k0 : Blk w16 (w.heap.size) 53 #[.int .i64 n0, .slice A0 xs0.length c0] := k0.below b16 (by omega)
    obtain ⟨pk0_0, pk0_1⟩ := k0.c2
    replace k1 : Blk w16 (w3.heap.size) 25 #[.int .i64 ((cofX n0 xs0)).n, .slice A_w0 ((cofX n0 xs0)).xs.length c_w0] := k1.below b16 (by omega)
    obtain ⟨pk1_0, pk1_1⟩ := k1.c2
    replace k2 : Blk w16 (w4.heap.size) 56 #[.int .i64 n0, .slice A0_4 xs0.length c0_4] := k2.below b16 (by omega)
    obtain ⟨pk2_0, pk2_1⟩ := k2.c2
    replace k3 : Blk w16 (w5.heap.size) 25 #[.int .i64 ((cofX n0 xs0)).n, .slice A_g0 ((cofX n0 xs0)).xs.length c_g0] := k3.below b16 (by omega)
    obtain ⟨pk3_0, pk3_1⟩ := k3.c2
    replace k4 : Blk w16 (w14.heap.size) 25 #[.int .i64 ((cofX n0 xs0)).n, .slice A_h0 ((cofX n0 xs0)).xs.length c_h0] := k4.below b16 (by omega)
    obtain ⟨pk4_0, pk4_1⟩ := k4.c2
    replace o_w0 := o_w0.below b16 (by omega)
    replace o0_4 := o0_4.below b16 (by omega)
    replace o_g0 := o_g0.below b16 (by omega)
    replace o_h0 := o_h0.below b16 (by omega)
    go_wp2_with (fail)
    go_ret
    exact ⟨rfl, B16⟩
  · have hz0 : szLeft (1048576) ((sizeII xs0 : Nat) : Int) = -1 := by rw [szLeft, if_pos (by omega)]
    have hsz0 : xs0.length ≤ sizeII xs0 := by unfold sizeII; omega
    have hcn0 : cntII xs0 ≤ sizeII xs0 := by unfold sizeII; omega
    go_enter Try.func6, Try.ntmps6
    go_wp2_with (fail)
    refine (laws_szColourChart _ _ _ _ _ _ (h0.below ?hb0) l0 (by omega) (by omega)).mono ?_
    case hb0 => (repeat (first | exact Below.refl _ _ | assumption | apply Below.drew | apply below_drewN | (refine Below.alloc ?_ (by first | omega | (simp; done) | (simp; omega)) _) | (refine Below.setCell ?_ (by first | omega | (simp; done) | (simp; omega)) _)))
    rintro e w1 ⟨rfl, b1⟩
    simp only [World.size_alloc] at b1
    have b1' : Below w.heap.size w w1 := Below.trans (by (repeat (first | exact Below.refl _ _ | assumption | apply Below.drew | apply below_drewN | (refine Below.alloc ?_ (by first | omega | (simp; done) | (simp; omega)) _) | (refine Below.setCell ?_ (by first | omega | (simp; done) | (simp; omega)) _)))) (b1.mono (by first | omega | (simp; done) | (simp; omega)))
    have z1 : w.heap.size + 1 ≤ w1.heap.size := by have := b1.size; simpa using this
    have B1 : Below w.heap.size w w1 := Below.trans (Below.refl _ _) (b1'.mono (by omega))
    have k0 : Blk w1 (w.heap.size) 53 #[.int .i64 n0, .slice A0 xs0.length c0] := Blk.below (Blk.new w 53 #[.int .i64 n0, .slice A0 xs0.length c0]) b1 (by first | omega | (simp; done) | (simp; omega))
    obtain ⟨pk0_0, pk0_1⟩ := k0.c2
    go_wp2_with (fail)
    go_ret
    exact ⟨rfl, B1⟩


end Go.Proofs.Ytnilglkiojigjaa
