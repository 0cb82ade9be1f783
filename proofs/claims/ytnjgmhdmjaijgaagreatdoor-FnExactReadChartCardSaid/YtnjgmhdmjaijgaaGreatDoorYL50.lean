/- The walks of the laws, printed by exact.py. -/
import Derived.Test.YtnjgmhdmjaijgaaGreatDoorZ14
import Derived.Test.YtnjgmhdmjaijgaaGreatDoorZ1
import Derived.Test.YtnjgmhdmjaijgaaGreatDoorZ3
import Derived.Test.YtnjgmhdmjaijgaaGreatDoorZ2
namespace Go.Proofs.YtnjgmhdmjaijgaaGreatDoor
open Go.RowKit

set_option maxHeartbeats 4000000 in
theorem law_FnExactReadChart (s0 : ByteArray) (mm : Int) (w : World) (l0 : s0.size ≤ 9223372036854775807) (hm : CellAt w mm) : Calls Tryz.prog 3 #[.string s0] w fun e w' => e = .returned (.bool true) ∧ Below w.heap.size w w' := by
  by_cases hle0 : s0.size ≤ 1048576
  · have hd0 : decide ((1048576 : Int) < (s0.size : Int)) = false := decide_eq_false (by omega)
    go_enter Tryz.func3, Tryz.ntmps3
    go_wp2_with (fail)
    refine (spec_ReadChartX _ _ (by omega)).mono ?_
    rintro e w1 ⟨A_w0, c_w0, rfl, o_w0, b1⟩
    have z1 := b1.size
    have B1 : Below w.heap.size w w1 := Below.trans (Below.refl _ _) (b1.mono (by omega))
    go_wp2_with (fail)
    refine (impl_ReadChartX _ _ _ (by omega) ((hm.below (B1)).below ?hb0)).mono ?_
    case hb0 => (repeat (first | exact Below.refl _ _ | assumption | apply Below.drew | apply below_drewN | (refine Below.alloc ?_ (by first | omega | (simp; done) | (simp; omega)) _) | (refine Below.setCell ?_ (by first | omega | (simp; done) | (simp; omega)) _)))
    rintro e w2 ⟨A_g0, c_g0, rfl, o_g0, b2⟩
    simp only [World.size_alloc] at o_g0 b2
    have b2' : Below w1.heap.size w1 w2 := Below.trans (by (repeat (first | exact Below.refl _ _ | assumption | apply Below.drew | apply below_drewN | (refine Below.alloc ?_ (by first | omega | (simp; done) | (simp; omega)) _) | (refine Below.setCell ?_ (by first | omega | (simp; done) | (simp; omega)) _)))) (b2.mono (by first | omega | (simp; done) | (simp; omega)))
    have z2 : w1.heap.size + 1 ≤ w2.heap.size := by have := b2.size; simpa using this
    have B2 : Below w.heap.size w w2 := Below.trans (B1) (b2'.mono (by omega))
    have k0 : Blk w2 (w1.heap.size) 24 #[.int .i64 ((rdX s0)).n, .slice A_w0 ((rdX s0)).xs.length c_w0] := Blk.below (Blk.new w1 24 #[.int .i64 ((rdX s0)).n, .slice A_w0 ((rdX s0)).xs.length c_w0]) b2 (by first | omega | (simp; done) | (simp; omega))
    obtain ⟨pk0_0, pk0_1⟩ := k0.c2
    replace o_w0 := o_w0.below b2' (by omega)
    obtain ⟨qk0_0, qk0_1⟩ := (Blk.alloc k0 (.cells #[.int .i64 ((rdX s0)).n, .slice A_g0 ((rdX s0)).xs.length c_g0] 24)).c2
    go_wp2_with (fail)
    refine (laws_eqChart _ _ _ _ _ _ _ _ _ (o_g0.rowsR.below ?hb0) (o_w0.rowsR.below ?hb1) (by have := rdX_size s0; omega) (by have := rdX_size s0; omega)).mono ?_
    case hb0 => (repeat (first | exact Below.refl _ _ | assumption | apply Below.drew | apply below_drewN | (refine Below.alloc ?_ (by first | omega | (simp; done) | (simp; omega)) _) | (refine Below.setCell ?_ (by first | omega | (simp; done) | (simp; omega)) _)))
    case hb1 => (repeat (first | exact Below.refl _ _ | assumption | apply Below.drew | apply below_drewN | (refine Below.alloc ?_ (by first | omega | (simp; done) | (simp; omega)) _) | (refine Below.setCell ?_ (by first | omega | (simp; done) | (simp; omega)) _)))
    rintro e w3 ⟨rfl, b3⟩
    simp only [World.size_alloc] at b3
    have b3' : Below w2.heap.size w2 w3 := Below.trans (by (repeat (first | exact Below.refl _ _ | assumption | apply Below.drew | apply below_drewN | (refine Below.alloc ?_ (by first | omega | (simp; done) | (simp; omega)) _) | (refine Below.setCell ?_ (by first | omega | (simp; done) | (simp; omega)) _)))) (b3.mono (by first | omega | (simp; done) | (simp; omega)))
    have z3 : w2.heap.size + 1 ≤ w3.heap.size := by have := b3.size; simpa using this
    have B3 : Below w.heap.size w w3 := Below.trans (B2) (b3'.mono (by omega))
    replace k0 : Blk w3 (w1.heap.size) 24 #[.int .i64 ((rdX s0)).n, .slice A_w0 ((rdX s0)).xs.length c_w0] := k0.below b3' (by omega)
    obtain ⟨pk0_0, pk0_1⟩ := k0.c2
    have k1 : Blk w3 (w2.heap.size) 24 #[.int .i64 ((rdX s0)).n, .slice A_g0 ((rdX s0)).xs.length c_g0] := Blk.below (Blk.new w2 24 #[.int .i64 ((rdX s0)).n, .slice A_g0 ((rdX s0)).xs.length c_g0]) b3 (by first | omega | (simp; done) | (simp; omega))
    obtain ⟨pk1_0, pk1_1⟩ := k1.c2
    replace o_w0 := o_w0.below b3' (by omega)
    replace o_g0 := o_g0.below b3' (by omega)
    go_wp2_with (fail)
    refine (laws_markChart _ _ _ _ _ _ _ _ o_g0 (by omega) (by have := rdX_size s0; omega)).mono ?_
    rintro e w4 ⟨rfl, o_g0, b4⟩
    have z4 := b4.size
    have B4 : Below w.heap.size w w4 := Below.trans (B3) ((b4.below (by omega)).mono (by omega))
    replace k0 : Blk w4 (w1.heap.size) 24 #[.int .i64 ((rdX s0)).n, .slice A_w0 ((rdX s0)).xs.length c_w0] := k0.upd b4 (by omega)
    obtain ⟨pk0_0, pk0_1⟩ := k0.c2
    replace k1 : Blk w4 (w2.heap.size) 24 #[.int .i64 ((rdX s0)).n, .slice A_g0 ((rdX s0)).xs.length c_g0] := k1.upd b4 (by omega)
    obtain ⟨pk1_0, pk1_1⟩ := k1.c2
    replace o_w0 := o_w0.upd b4 (by omega)
    go_wp2_with (fail)
    refine (laws_heldChart _ _ _ _ _ _ o_g0.rowsR (by omega) (by have := rdX_size s0; omega) (by have := rdX_size s0; omega)).mono ?_
    rintro e w5 ⟨rfl, b5⟩
    have z5 := b5.size
    have B5 : Below w.heap.size w w5 := Below.trans (B4) (b5.mono (by omega))
    replace k0 : Blk w5 (w1.heap.size) 24 #[.int .i64 ((rdX s0)).n, .slice A_w0 ((rdX s0)).xs.length c_w0] := k0.below b5 (by omega)
    obtain ⟨pk0_0, pk0_1⟩ := k0.c2
    replace k1 : Blk w5 (w2.heap.size) 24 #[.int .i64 ((rdX s0)).n, .slice A_g0 ((rdX s0)).xs.length c_g0] := k1.below b5 (by omega)
    obtain ⟨pk1_0, pk1_1⟩ := k1.c2
    replace o_w0 := o_w0.below b5 (by omega)
    replace o_g0 := o_g0.below b5 (by omega)
    go_wp2_with (fail)
    refine (impl_ReadChartX _ _ _ (by omega) (hm.below (B5))).mono ?_
    rintro e w6 ⟨A_h0, c_h0, rfl, o_h0, b6⟩
    have z6 := b6.size
    have B6 : Below w.heap.size w w6 := Below.trans (B5) (b6.mono (by omega))
    replace k0 : Blk w6 (w1.heap.size) 24 #[.int .i64 ((rdX s0)).n, .slice A_w0 ((rdX s0)).xs.length c_w0] := k0.below b6 (by omega)
    obtain ⟨pk0_0, pk0_1⟩ := k0.c2
    replace k1 : Blk w6 (w2.heap.size) 24 #[.int .i64 ((rdX s0)).n, .slice A_g0 ((rdX s0)).xs.length c_g0] := k1.below b6 (by omega)
    obtain ⟨pk1_0, pk1_1⟩ := k1.c2
    replace o_w0 := o_w0.below b6 (by omega)
    replace o_g0 := o_g0.below b6 (by omega)
    obtain ⟨qk0_0, qk0_1⟩ := (Blk.alloc k0 (.cells #[.int .i64 ((rdX s0)).n, .slice A_h0 ((rdX s0)).xs.length c_h0] 24)).c2
    obtain ⟨qk1_0, qk1_1⟩ := (Blk.alloc k1 (.cells #[.int .i64 ((rdX s0)).n, .slice A_h0 ((rdX s0)).xs.length c_h0] 24)).c2
    go_wp2_with (fail)
    refine (laws_eqChart _ _ _ _ _ _ _ _ _ (o_h0.rowsR.below ?hb0) (o_w0.rowsR.below ?hb1) (by have := rdX_size s0; omega) (by have := rdX_size s0; omega)).mono ?_
    case hb0 => (repeat (first | exact Below.refl _ _ | assumption | apply Below.drew | apply below_drewN | (refine Below.alloc ?_ (by first | omega | (simp; done) | (simp; omega)) _) | (refine Below.setCell ?_ (by first | omega | (simp; done) | (simp; omega)) _)))
    case hb1 => (repeat (first | exact Below.refl _ _ | assumption | apply Below.drew | apply below_drewN | (refine Below.alloc ?_ (by first | omega | (simp; done) | (simp; omega)) _) | (refine Below.setCell ?_ (by first | omega | (simp; done) | (simp; omega)) _)))
    rintro e w7 ⟨rfl, b7⟩
    simp only [World.size_alloc] at b7
    have b7' : Below w6.heap.size w6 w7 := Below.trans (by (repeat (first | exact Below.refl _ _ | assumption | apply Below.drew | apply below_drewN | (refine Below.alloc ?_ (by first | omega | (simp; done) | (simp; omega)) _) | (refine Below.setCell ?_ (by first | omega | (simp; done) | (simp; omega)) _)))) (b7.mono (by first | omega | (simp; done) | (simp; omega)))
    have z7 : w6.heap.size + 1 ≤ w7.heap.size := by have := b7.size; simpa using this
    have B7 : Below w.heap.size w w7 := Below.trans (B6) (b7'.mono (by omega))
    replace k0 : Blk w7 (w1.heap.size) 24 #[.int .i64 ((rdX s0)).n, .slice A_w0 ((rdX s0)).xs.length c_w0] := k0.below b7' (by omega)
    obtain ⟨pk0_0, pk0_1⟩ := k0.c2
    replace k1 : Blk w7 (w2.heap.size) 24 #[.int .i64 ((rdX s0)).n, .slice A_g0 ((rdX s0)).xs.length c_g0] := k1.below b7' (by omega)
    obtain ⟨pk1_0, pk1_1⟩ := k1.c2
    have k2 : Blk w7 (w6.heap.size) 24 #[.int .i64 ((rdX s0)).n, .slice A_h0 ((rdX s0)).xs.length c_h0] := Blk.below (Blk.new w6 24 #[.int .i64 ((rdX s0)).n, .slice A_h0 ((rdX s0)).xs.length c_h0]) b7 (by first | omega | (simp; done) | (simp; omega))
    obtain ⟨pk2_0, pk2_1⟩ := k2.c2
    replace o_w0 := o_w0.below b7' (by omega)
    replace o_g0 := o_g0.below b7' (by omega)
    replace o_h0 := o_h0.below b7' (by omega)
    go_wp2_with (fail)
    refine (laws_heldChart _ _ _ _ _ _ o_g0.rowsR (by omega) (by have := rdX_size s0; omega) (by have := rdX_size s0; omega)).mono ?_
    rintro e w8 ⟨rfl, b8⟩
    have z8 := b8.size
    have B8 : Below w.heap.size w w8 := Below.trans (B7) (b8.mono (by omega))
    replace k0 : Blk w8 (w1.heap.size) 24 #[.int .i64 ((rdX s0)).n, .slice A_w0 ((rdX s0)).xs.length c_w0] := k0.below b8 (by omega)
    obtain ⟨pk0_0, pk0_1⟩ := k0.c2
    replace k1 : Blk w8 (w2.heap.size) 24 #[.int .i64 ((rdX s0)).n, .slice A_g0 ((rdX s0)).xs.length c_g0] := k1.below b8 (by omega)
    obtain ⟨pk1_0, pk1_1⟩ := k1.c2
    replace k2 : Blk w8 (w6.heap.size) 24 #[.int .i64 ((rdX s0)).n, .slice A_h0 ((rdX s0)).xs.length c_h0] := k2.below b8 (by omega)
    obtain ⟨pk2_0, pk2_1⟩ := k2.c2
    replace o_w0 := o_w0.below b8 (by omega)
    replace o_g0 := o_g0.below b8 (by omega)
    replace o_h0 := o_h0.below b8 (by omega)
    go_wp2_with (fail)
    go_ret
    exact ⟨rfl, B8⟩
  · have hd0 : decide ((1048576 : Int) < (s0.size : Int)) = true := decide_eq_true (by omega)
    go_enter Tryz.func3, Tryz.ntmps3
    go_wp2_with (fail)
    go_ret
    exact ⟨rfl, Below.refl _ _⟩


end Go.Proofs.YtnjgmhdmjaijgaaGreatDoor
