/- The walks of the laws, printed by exact.py. -/
import Derived.Test.YtifjdiiafofnpaaDoorZ13
import Derived.Test.YtifjdiiafofnpaaDoorZ1
import Derived.Test.YtifjdiiafofnpaaDoorZ3
namespace Go.Proofs.YtifjdiiafofnpaaDoor
open Go.RowKit

set_option maxHeartbeats 4000000 in
theorem law_FnExactChartText (n0 : Int) (xs0 : List RowD) (A0 : Option Addr) (c0 : Nat) (w : World) (h0 : RowsR w A0 xs0) (l0 : xs0.length ≤ 9223372036854775807) : Calls Tryd.prog 5 #[.agg #[.int .i64 n0, .slice A0 xs0.length c0]] w fun e w' => e = .returned (.bool true) ∧ Below w.heap.size w w' := by
  by_cases hle0 : ((sizeRows xs0 : Nat) : Int) ≤ 1048576
  · have hz0 : szLeft (1048576) ((sizeRows xs0 : Nat) : Int) = 1048576 - ((sizeRows xs0 : Nat) : Int) := by rw [szLeft, if_neg (by omega)]
    have hd0 : decide (1048576 - ((sizeRows xs0 : Nat) : Int) < 0) = false := decide_eq_false (by omega)
    have hsz0 : xs0.length ≤ sizeRows xs0 := by unfold sizeRows; omega
    have hcn0 : cntRows xs0 ≤ 2 * sizeRows xs0 := by unfold sizeRows cntRows; omega
    go_enter Tryd.func5, Tryd.ntmps5
    go_wp2_with (fail)
    refine (laws_szChart _ _ _ _ _ _ (h0.below ?hb0) l0 (by omega) (by omega)).mono ?_
    case hb0 => (repeat (first | exact Below.refl _ _ | assumption | apply Below.drew | apply below_drewN | (refine Below.alloc ?_ (by first | omega | (simp; done) | (simp; omega)) _) | (refine Below.setCell ?_ (by first | omega | (simp; done) | (simp; omega)) _)))
    rintro e w1 ⟨rfl, b1⟩
    simp only [World.size_alloc] at b1
    have b1' : Below w.heap.size w w1 := Below.trans (by (repeat (first | exact Below.refl _ _ | assumption | apply Below.drew | apply below_drewN | (refine Below.alloc ?_ (by first | omega | (simp; done) | (simp; omega)) _) | (refine Below.setCell ?_ (by first | omega | (simp; done) | (simp; omega)) _)))) (b1.mono (by first | omega | (simp; done) | (simp; omega)))
    have z1 : w.heap.size + 1 ≤ w1.heap.size := by have := b1.size; simpa using this
    have B1 : Below w.heap.size w w1 := Below.trans (Below.refl _ _) (b1'.mono (by omega))
    have k0 : Blk w1 (w.heap.size) 36 #[.int .i64 n0, .slice A0 xs0.length c0] := Blk.below (Blk.new w 36 #[.int .i64 n0, .slice A0 xs0.length c0]) b1 (by first | omega | (simp; done) | (simp; omega))
    obtain ⟨pk0_0, pk0_1⟩ := k0.c2
    go_wp2_with (fail)
    refine (laws_toChart _ _ _ _ _ (h0.below B1) (by omega)).mono ?_
    rintro e w2 ⟨A0_2, c0_2, rfl, o0_2, b2⟩
    have z2 := b2.size
    have B2 : Below w.heap.size w w2 := Below.trans (B1) (b2.mono (by omega))
    replace k0 : Blk w2 (w.heap.size) 36 #[.int .i64 n0, .slice A0 xs0.length c0] := k0.below b2 (by omega)
    obtain ⟨pk0_0, pk0_1⟩ := k0.c2
    go_wp2_with (fail)
    refine (spec_ChartText _ _ _ _ _ o0_2.rowsR (by omega)).mono ?_
    rintro e w3 ⟨rfl, b3⟩
    have z3 := b3.size
    have B3 : Below w.heap.size w w3 := Below.trans (B2) (b3.mono (by omega))
    replace k0 : Blk w3 (w.heap.size) 36 #[.int .i64 n0, .slice A0 xs0.length c0] := k0.below b3 (by omega)
    obtain ⟨pk0_0, pk0_1⟩ := k0.c2
    replace o0_2 := o0_2.below b3 (by omega)
    go_wp2_with (fail)
    refine (laws_toChart _ _ _ _ _ (h0.below B3) (by omega)).mono ?_
    rintro e w4 ⟨A0_4, c0_4, rfl, o0_4, b4⟩
    have z4 := b4.size
    have B4 : Below w.heap.size w w4 := Below.trans (B3) (b4.mono (by omega))
    replace k0 : Blk w4 (w.heap.size) 36 #[.int .i64 n0, .slice A0 xs0.length c0] := k0.below b4 (by omega)
    obtain ⟨pk0_0, pk0_1⟩ := k0.c2
    obtain ⟨qk0_0, qk0_1⟩ := (Blk.alloc k0 (.cells #[.int .i64 n0, .slice A0_4 xs0.length c0_4] 41)).c2
    go_wp2_with (fail)
    refine (impl_ChartText _ _ _ _ _ (o0_4.rowsR.below ?hb0) (by omega)).mono ?_
    case hb0 => (repeat (first | exact Below.refl _ _ | assumption | apply Below.drew | apply below_drewN | (refine Below.alloc ?_ (by first | omega | (simp; done) | (simp; omega)) _) | (refine Below.setCell ?_ (by first | omega | (simp; done) | (simp; omega)) _)))
    rintro e w5 ⟨rfl, b5⟩
    simp only [World.size_alloc] at b5
    have b5' : Below w4.heap.size w4 w5 := Below.trans (by (repeat (first | exact Below.refl _ _ | assumption | apply Below.drew | apply below_drewN | (refine Below.alloc ?_ (by first | omega | (simp; done) | (simp; omega)) _) | (refine Below.setCell ?_ (by first | omega | (simp; done) | (simp; omega)) _)))) (b5.mono (by first | omega | (simp; done) | (simp; omega)))
    have z5 : w4.heap.size + 1 ≤ w5.heap.size := by have := b5.size; simpa using this
    have B5 : Below w.heap.size w w5 := Below.trans (B4) (b5'.mono (by omega))
    replace k0 : Blk w5 (w.heap.size) 36 #[.int .i64 n0, .slice A0 xs0.length c0] := k0.below b5' (by omega)
    obtain ⟨pk0_0, pk0_1⟩ := k0.c2
    have k1 : Blk w5 (w4.heap.size) 41 #[.int .i64 n0, .slice A0_4 xs0.length c0_4] := Blk.below (Blk.new w4 41 #[.int .i64 n0, .slice A0_4 xs0.length c0_4]) b5 (by first | omega | (simp; done) | (simp; omega))
    obtain ⟨pk1_0, pk1_1⟩ := k1.c2
    replace o0_4 := o0_4.below b5' (by omega)
    go_wp2_with (fail)
    go_region_held3 (fun W' => (W'.cell? ⟨w.heap.size, 0, none⟩ = some (.int .i64 n0) ∧ W'.cell? ⟨w.heap.size, 1, none⟩ = some (.slice A0 xs0.length c0)) ∧ (W'.cell? ⟨w4.heap.size, 0, none⟩ = some (.int .i64 n0) ∧ W'.cell? ⟨w4.heap.size, 1, none⟩ = some (.slice A0_4 xs0.length c0_4))) (first | exact ⟨k0.c2, k1.c2⟩ | exact ⟨(k0.below b6 (by first | omega | (simp; done) | (simp; omega))).c2, (k1.below b6 (by first | omega | (simp; done) | (simp; omega))).c2⟩ | exact ⟨(k0.below (b6.trans (b7.mono b6.size)) (by first | omega | (simp; done) | (simp; omega))).c2, (k1.below (b6.trans (b7.mono b6.size)) (by first | omega | (simp; done) | (simp; omega))).c2⟩)
      (first | (go_at_call 19; refine (laws_toChart _ _ _ _ _ (h0.below (B5).drew) (by omega)).mono ?_; rintro e w6 ⟨A0_6, c0_6, rfl, o0_6, b6⟩; replace b6 := undrew b6) | (go_at_call 21; refine (laws_eqChart _ _ _ _ _ _ _ _ _ ((o0_4.rowsR).below b6) o0_6.rowsR (by omega) (by omega)).mono ?_; rintro e w7 ⟨rfl, b7⟩))
    have z6 := b6.size
    have B6 : Below w.heap.size w w6 := Below.trans (B5) (b6.mono (by omega))
    replace k0 : Blk w6 (w.heap.size) 36 #[.int .i64 n0, .slice A0 xs0.length c0] := k0.below b6 (by omega)
    obtain ⟨pk0_0, pk0_1⟩ := k0.c2
    replace k1 : Blk w6 (w4.heap.size) 41 #[.int .i64 n0, .slice A0_4 xs0.length c0_4] := k1.below b6 (by omega)
    obtain ⟨pk1_0, pk1_1⟩ := k1.c2
    replace o0_4 := o0_4.below b6 (by omega)
    have z7 := b7.size
    have B7 : Below w.heap.size w w7 := Below.trans (B6) (b7.mono (by omega))
    replace k0 : Blk w7 (w.heap.size) 36 #[.int .i64 n0, .slice A0 xs0.length c0] := k0.below b7 (by omega)
    obtain ⟨pk0_0, pk0_1⟩ := k0.c2
    replace k1 : Blk w7 (w4.heap.size) 41 #[.int .i64 n0, .slice A0_4 xs0.length c0_4] := k1.below b7 (by omega)
    obtain ⟨pk1_0, pk1_1⟩ := k1.c2
    replace o0_4 := o0_4.below b7 (by omega)
    go_wp2_with (fail)
    go_ret
    exact ⟨rfl, B7⟩
  · have hz0 : szLeft (1048576) ((sizeRows xs0 : Nat) : Int) = -1 := by rw [szLeft, if_pos (by omega)]
    have hsz0 : xs0.length ≤ sizeRows xs0 := by unfold sizeRows; omega
    have hcn0 : cntRows xs0 ≤ 2 * sizeRows xs0 := by unfold sizeRows cntRows; omega
    go_enter Tryd.func5, Tryd.ntmps5
    go_wp2_with (fail)
    refine (laws_szChart _ _ _ _ _ _ (h0.below ?hb0) l0 (by omega) (by omega)).mono ?_
    case hb0 => (repeat (first | exact Below.refl _ _ | assumption | apply Below.drew | apply below_drewN | (refine Below.alloc ?_ (by first | omega | (simp; done) | (simp; omega)) _) | (refine Below.setCell ?_ (by first | omega | (simp; done) | (simp; omega)) _)))
    rintro e w1 ⟨rfl, b1⟩
    simp only [World.size_alloc] at b1
    have b1' : Below w.heap.size w w1 := Below.trans (by (repeat (first | exact Below.refl _ _ | assumption | apply Below.drew | apply below_drewN | (refine Below.alloc ?_ (by first | omega | (simp; done) | (simp; omega)) _) | (refine Below.setCell ?_ (by first | omega | (simp; done) | (simp; omega)) _)))) (b1.mono (by first | omega | (simp; done) | (simp; omega)))
    have z1 : w.heap.size + 1 ≤ w1.heap.size := by have := b1.size; simpa using this
    have B1 : Below w.heap.size w w1 := Below.trans (Below.refl _ _) (b1'.mono (by omega))
    have k0 : Blk w1 (w.heap.size) 36 #[.int .i64 n0, .slice A0 xs0.length c0] := Blk.below (Blk.new w 36 #[.int .i64 n0, .slice A0 xs0.length c0]) b1 (by first | omega | (simp; done) | (simp; omega))
    obtain ⟨pk0_0, pk0_1⟩ := k0.c2
    go_wp2_with (fail)
    go_ret
    exact ⟨rfl, B1⟩


end Go.Proofs.YtifjdiiafofnpaaDoor
