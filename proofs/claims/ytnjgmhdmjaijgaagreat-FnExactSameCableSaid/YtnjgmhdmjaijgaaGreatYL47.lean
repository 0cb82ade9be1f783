/- The walks of the laws, printed by exact.py. -/
import Derived.Test.YtnjgmhdmjaijgaaGreatZ25
import Derived.Test.YtnjgmhdmjaijgaaGreatZ1
import Derived.Test.YtnjgmhdmjaijgaaGreatZ3
namespace Go.Proofs.YtnjgmhdmjaijgaaGreat
open Go.RowKit

set_option maxHeartbeats 4000000 in
theorem law_FnExactSameCable (n0 : Int) (xs0 : List RowD) (A0 : Option Addr) (c0 : Nat) (n1 : Int) (xs1 : List RowD) (A1 : Option Addr) (c1 : Nat) (w : World) (h0 : RowsR w A0 xs0) (l0 : xs0.length ≤ 9223372036854775807) (h1 : RowsR w A1 xs1) (l1 : xs1.length ≤ 9223372036854775807) : Calls Tryz.prog 3 #[.agg #[.int .i64 n0, .slice A0 xs0.length c0], .agg #[.int .i64 n1, .slice A1 xs1.length c1]] w fun e w' => e = .returned (.bool true) ∧ Below w.heap.size w w' := by
  by_cases hle0 : ((sizeRows xs0 : Nat) : Int) ≤ 1048576
  · have hz0 : szLeft (1048576) ((sizeRows xs0 : Nat) : Int) = 1048576 - ((sizeRows xs0 : Nat) : Int) := by rw [szLeft, if_neg (by omega)]
    have hd0 : decide (1048576 - ((sizeRows xs0 : Nat) : Int) < 0) = false := decide_eq_false (by omega)
    by_cases hle1 : ((sizeRows xs1 : Nat) : Int) ≤ 1048576 - ((sizeRows xs0 : Nat) : Int)
    · have hz1 : szLeft (1048576 - ((sizeRows xs0 : Nat) : Int)) ((sizeRows xs1 : Nat) : Int) = 1048576 - ((sizeRows xs0 : Nat) : Int) - ((sizeRows xs1 : Nat) : Int) := by rw [szLeft, if_neg (by omega)]
      have hd1 : decide (1048576 - ((sizeRows xs0 : Nat) : Int) - ((sizeRows xs1 : Nat) : Int) < 0) = false := decide_eq_false (by omega)
      have hsz0 : xs0.length ≤ sizeRows xs0 := by unfold sizeRows; omega
      have hcn0 : cntRows xs0 ≤ 2 * sizeRows xs0 := by unfold sizeRows cntRows; omega
      have hsz1 : xs1.length ≤ sizeRows xs1 := by unfold sizeRows; omega
      have hcn1 : cntRows xs1 ≤ 2 * sizeRows xs1 := by unfold sizeRows cntRows; omega
      go_enter Tryz.func3, Tryz.ntmps3
      go_wp2_with (fail)
      refine (laws_szChart _ _ _ _ _ _ (h0.below ?hb0) l0 (by omega) (by omega)).mono ?_
      case hb0 => (repeat (first | exact Below.refl _ _ | assumption | apply Below.drew | apply below_drewN | (refine Below.alloc ?_ (by first | omega | (simp; done) | (simp; omega)) _) | (refine Below.setCell ?_ (by first | omega | (simp; done) | (simp; omega)) _)))
      rintro e w1 ⟨rfl, b1⟩
      simp only [World.size_alloc] at b1
      have b1' : Below w.heap.size w w1 := Below.trans (by (repeat (first | exact Below.refl _ _ | assumption | apply Below.drew | apply below_drewN | (refine Below.alloc ?_ (by first | omega | (simp; done) | (simp; omega)) _) | (refine Below.setCell ?_ (by first | omega | (simp; done) | (simp; omega)) _)))) (b1.mono (by first | omega | (simp; done) | (simp; omega)))
      have z1 : w.heap.size + 2 ≤ w1.heap.size := by have := b1.size; simpa using this
      have B1 : Below w.heap.size w w1 := Below.trans (Below.refl _ _) (b1'.mono (by omega))
      have k0 : Blk w1 (w.heap.size) 24 #[.int .i64 n0, .slice A0 xs0.length c0] := Blk.below (by simpa using (Blk.alloc (Blk.new w 24 #[.int .i64 n0, .slice A0 xs0.length c0]) (.cells #[.int .i64 n1, .slice A1 xs1.length c1] 24))) b1 (by first | omega | (simp; done) | (simp; omega))
      obtain ⟨pk0_0, pk0_1⟩ := k0.c2
      have k1 : Blk w1 (w.heap.size + 1) 24 #[.int .i64 n1, .slice A1 xs1.length c1] := Blk.below (by simpa using (Blk.new (World.alloc w (.cells #[.int .i64 n0, .slice A0 xs0.length c0] 24)) 24 #[.int .i64 n1, .slice A1 xs1.length c1])) b1 (by first | omega | (simp; done) | (simp; omega))
      obtain ⟨pk1_0, pk1_1⟩ := k1.c2
      go_wp2_with (fail)
      refine (laws_szChart _ _ _ _ _ _ (h1.below B1) l1 (by omega) (by omega)).mono ?_
      rintro e w2 ⟨rfl, b2⟩
      have z2 := b2.size
      have B2 : Below w.heap.size w w2 := Below.trans (B1) (b2.mono (by omega))
      replace k0 : Blk w2 (w.heap.size) 24 #[.int .i64 n0, .slice A0 xs0.length c0] := k0.below b2 (by omega)
      obtain ⟨pk0_0, pk0_1⟩ := k0.c2
      replace k1 : Blk w2 (w.heap.size + 1) 24 #[.int .i64 n1, .slice A1 xs1.length c1] := k1.below b2 (by omega)
      obtain ⟨pk1_0, pk1_1⟩ := k1.c2
      go_wp2_with (fail)
      go_region_held3 (fun W' => (W'.cell? ⟨w.heap.size, 0, none⟩ = some (.int .i64 n0) ∧ W'.cell? ⟨w.heap.size, 1, none⟩ = some (.slice A0 xs0.length c0)) ∧ (W'.cell? ⟨w.heap.size + 1, 0, none⟩ = some (.int .i64 n1) ∧ W'.cell? ⟨w.heap.size + 1, 1, none⟩ = some (.slice A1 xs1.length c1))) (first | exact ⟨k0.c2, k1.c2⟩ | exact ⟨(k0.below b3 (by first | omega | (simp; done) | (simp; omega))).c2, (k1.below b3 (by first | omega | (simp; done) | (simp; omega))).c2⟩ | exact ⟨(k0.below (b3.trans (b4.mono (Below.size b3))) (by first | omega | (simp; done) | (simp; omega))).c2, (k1.below (b3.trans (b4.mono (Below.size b3))) (by first | omega | (simp; done) | (simp; omega))).c2⟩ | exact ⟨(k0.below ((b3.trans (b4.mono (Below.size b3))).trans (b5.mono (Below.size (b3.trans (b4.mono (Below.size b3)))))) (by first | omega | (simp; done) | (simp; omega))).c2, (k1.below ((b3.trans (b4.mono (Below.size b3))).trans (b5.mono (Below.size (b3.trans (b4.mono (Below.size b3)))))) (by first | omega | (simp; done) | (simp; omega))).c2⟩)
        (first | (go_at_call 8; (with_reducible refine (laws_toChart _ _ _ _ _ (h0.below (B2).drew) (by omega)).mono ?_); rintro e w3 ⟨A0_3, c0_3, rfl, o0_3, b3⟩; replace b3 := undrew b3) | (go_at_call 8; (with_reducible refine (laws_toChart _ _ _ _ _ (h1.below ((B2).trans (Below.mono b3 (by omega)))) (by omega)).mono ?_); rintro e w4 ⟨A1_4, c1_4, rfl, o1_4, b4⟩) | (go_at_call 7; refine (spec_SameCable _ _ _ _ _ _ _ _ _ ((o0_3.rowsR).below b4) (by omega) (o1_4.rowsR) (by omega)).mono ?_; rintro e w5 ⟨rfl, b5⟩))
      have z3 := b3.size
      have B3 : Below w.heap.size w w3 := Below.trans (B2) (b3.mono (by omega))
      replace k0 : Blk w3 (w.heap.size) 24 #[.int .i64 n0, .slice A0 xs0.length c0] := k0.below b3 (by omega)
      obtain ⟨pk0_0, pk0_1⟩ := k0.c2
      replace k1 : Blk w3 (w.heap.size + 1) 24 #[.int .i64 n1, .slice A1 xs1.length c1] := k1.below b3 (by omega)
      obtain ⟨pk1_0, pk1_1⟩ := k1.c2
      have z4 := b4.size
      have B4 : Below w.heap.size w w4 := Below.trans (B3) (b4.mono (by omega))
      replace k0 : Blk w4 (w.heap.size) 24 #[.int .i64 n0, .slice A0 xs0.length c0] := k0.below b4 (by omega)
      obtain ⟨pk0_0, pk0_1⟩ := k0.c2
      replace k1 : Blk w4 (w.heap.size + 1) 24 #[.int .i64 n1, .slice A1 xs1.length c1] := k1.below b4 (by omega)
      obtain ⟨pk1_0, pk1_1⟩ := k1.c2
      replace o0_3 := o0_3.below b4 (by omega)
      have z5 := b5.size
      have B5 : Below w.heap.size w w5 := Below.trans (B4) (b5.mono (by omega))
      replace k0 : Blk w5 (w.heap.size) 24 #[.int .i64 n0, .slice A0 xs0.length c0] := k0.below b5 (by omega)
      obtain ⟨pk0_0, pk0_1⟩ := k0.c2
      replace k1 : Blk w5 (w.heap.size + 1) 24 #[.int .i64 n1, .slice A1 xs1.length c1] := k1.below b5 (by omega)
      obtain ⟨pk1_0, pk1_1⟩ := k1.c2
      replace o0_3 := o0_3.below b5 (by omega)
      replace o1_4 := o1_4.below b5 (by omega)
      go_wp2_with (fail)
      refine (laws_toChart _ _ _ _ _ (h0.below B5) (by omega)).mono ?_
      rintro e w6 ⟨A0_6, c0_6, rfl, o0_6, b6⟩
      have z6 := b6.size
      have B6 : Below w.heap.size w w6 := Below.trans (B5) (b6.mono (by omega))
      replace k0 : Blk w6 (w.heap.size) 24 #[.int .i64 n0, .slice A0 xs0.length c0] := k0.below b6 (by omega)
      obtain ⟨pk0_0, pk0_1⟩ := k0.c2
      replace k1 : Blk w6 (w.heap.size + 1) 24 #[.int .i64 n1, .slice A1 xs1.length c1] := k1.below b6 (by omega)
      obtain ⟨pk1_0, pk1_1⟩ := k1.c2
      obtain ⟨qk0_0, qk0_1⟩ := (Blk.alloc k0 (.cells #[.int .i64 n0, .slice A0_6 xs0.length c0_6] 30)).c2
      obtain ⟨qk1_0, qk1_1⟩ := (Blk.alloc k1 (.cells #[.int .i64 n0, .slice A0_6 xs0.length c0_6] 30)).c2
      go_wp2_with (fail)
      refine (laws_toChart _ _ _ _ _ ((h1.below B6).below ?hb0) (by omega)).mono ?_
      case hb0 => (repeat (first | exact Below.refl _ _ | assumption | apply Below.drew | apply below_drewN | (refine Below.alloc ?_ (by first | omega | (simp; done) | (simp; omega)) _) | (refine Below.setCell ?_ (by first | omega | (simp; done) | (simp; omega)) _)))
      rintro e w7 ⟨A1_7, c1_7, rfl, o1_7, b7⟩
      simp only [World.size_alloc] at o1_7 b7
      have b7' : Below w6.heap.size w6 w7 := Below.trans (by (repeat (first | exact Below.refl _ _ | assumption | apply Below.drew | apply below_drewN | (refine Below.alloc ?_ (by first | omega | (simp; done) | (simp; omega)) _) | (refine Below.setCell ?_ (by first | omega | (simp; done) | (simp; omega)) _)))) (b7.mono (by first | omega | (simp; done) | (simp; omega)))
      have z7 : w6.heap.size + 1 ≤ w7.heap.size := by have := b7.size; simpa using this
      have B7 : Below w.heap.size w w7 := Below.trans (B6) (b7'.mono (by omega))
      replace k0 : Blk w7 (w.heap.size) 24 #[.int .i64 n0, .slice A0 xs0.length c0] := k0.below b7' (by omega)
      obtain ⟨pk0_0, pk0_1⟩ := k0.c2
      replace k1 : Blk w7 (w.heap.size + 1) 24 #[.int .i64 n1, .slice A1 xs1.length c1] := k1.below b7' (by omega)
      obtain ⟨pk1_0, pk1_1⟩ := k1.c2
      have k2 : Blk w7 (w6.heap.size) 30 #[.int .i64 n0, .slice A0_6 xs0.length c0_6] := Blk.below (Blk.new w6 30 #[.int .i64 n0, .slice A0_6 xs0.length c0_6]) b7 (by first | omega | (simp; done) | (simp; omega))
      obtain ⟨pk2_0, pk2_1⟩ := k2.c2
      replace o0_6 := o0_6.below b7' (by omega)
      obtain ⟨qk0_0, qk0_1⟩ := (Blk.alloc k0 (.cells #[.int .i64 n1, .slice A1_7 xs1.length c1_7] 30)).c2
      obtain ⟨qk1_0, qk1_1⟩ := (Blk.alloc k1 (.cells #[.int .i64 n1, .slice A1_7 xs1.length c1_7] 30)).c2
      obtain ⟨qk2_0, qk2_1⟩ := (Blk.alloc k2 (.cells #[.int .i64 n1, .slice A1_7 xs1.length c1_7] 30)).c2
      go_wp2_with (fail)
      refine (impl_SameCable _ _ _ _ _ _ _ _ _ (o0_6.rowsR.below ?hb0) (by omega) (o1_7.rowsR.below ?hb1) (by omega)).mono ?_
      case hb0 => (repeat (first | exact Below.refl _ _ | assumption | apply Below.drew | apply below_drewN | (refine Below.alloc ?_ (by first | omega | (simp; done) | (simp; omega)) _) | (refine Below.setCell ?_ (by first | omega | (simp; done) | (simp; omega)) _)))
      case hb1 => (repeat (first | exact Below.refl _ _ | assumption | apply Below.drew | apply below_drewN | (refine Below.alloc ?_ (by first | omega | (simp; done) | (simp; omega)) _) | (refine Below.setCell ?_ (by first | omega | (simp; done) | (simp; omega)) _)))
      rintro e w8 ⟨rfl, b8⟩
      simp only [World.size_alloc] at b8
      have b8' : Below w7.heap.size w7 w8 := Below.trans (by (repeat (first | exact Below.refl _ _ | assumption | apply Below.drew | apply below_drewN | (refine Below.alloc ?_ (by first | omega | (simp; done) | (simp; omega)) _) | (refine Below.setCell ?_ (by first | omega | (simp; done) | (simp; omega)) _)))) (b8.mono (by first | omega | (simp; done) | (simp; omega)))
      have z8 : w7.heap.size + 1 ≤ w8.heap.size := by have := b8.size; simpa using this
      have B8 : Below w.heap.size w w8 := Below.trans (B7) (b8'.mono (by omega))
      replace k0 : Blk w8 (w.heap.size) 24 #[.int .i64 n0, .slice A0 xs0.length c0] := k0.below b8' (by omega)
      obtain ⟨pk0_0, pk0_1⟩ := k0.c2
      replace k1 : Blk w8 (w.heap.size + 1) 24 #[.int .i64 n1, .slice A1 xs1.length c1] := k1.below b8' (by omega)
      obtain ⟨pk1_0, pk1_1⟩ := k1.c2
      replace k2 : Blk w8 (w6.heap.size) 30 #[.int .i64 n0, .slice A0_6 xs0.length c0_6] := k2.below b8' (by omega)
      obtain ⟨pk2_0, pk2_1⟩ := k2.c2
      have k3 : Blk w8 (w7.heap.size) 30 #[.int .i64 n1, .slice A1_7 xs1.length c1_7] := Blk.below (Blk.new w7 30 #[.int .i64 n1, .slice A1_7 xs1.length c1_7]) b8 (by first | omega | (simp; done) | (simp; omega))
      obtain ⟨pk3_0, pk3_1⟩ := k3.c2
      replace o0_6 := o0_6.below b8' (by omega)
      replace o1_7 := o1_7.below b8' (by omega)
      go_wp2_with (fail)
      go_region_held3 (fun W' => (W'.cell? ⟨w.heap.size, 0, none⟩ = some (.int .i64 n0) ∧ W'.cell? ⟨w.heap.size, 1, none⟩ = some (.slice A0 xs0.length c0)) ∧ (W'.cell? ⟨w6.heap.size, 0, none⟩ = some (.int .i64 n0) ∧ W'.cell? ⟨w6.heap.size, 1, none⟩ = some (.slice A0_6 xs0.length c0_6))) (first | exact ⟨k0.c2, k2.c2⟩ | exact ⟨(k0.below b9 (by first | omega | (simp; done) | (simp; omega))).c2, (k2.below b9 (by first | omega | (simp; done) | (simp; omega))).c2⟩ | exact ⟨(k0.below (b9.trans (b10.mono b9.size)) (by first | omega | (simp; done) | (simp; omega))).c2, (k2.below (b9.trans (b10.mono b9.size)) (by first | omega | (simp; done) | (simp; omega))).c2⟩)
        (first | (go_at_call 8; refine (laws_toChart _ _ _ _ _ (h0.below (B8).drew) (by omega)).mono ?_; rintro e w9 ⟨A0_9, c0_9, rfl, o0_9, b9⟩; replace b9 := undrew b9) | (go_at_call 10; refine (laws_eqChart _ _ _ _ _ _ _ _ _ ((o0_6.rowsR).below b9) o0_9.rowsR (by omega) (by omega)).mono ?_; rintro e w10 ⟨rfl, b10⟩))
      have z9 := b9.size
      have B9 : Below w.heap.size w w9 := Below.trans (B8) (b9.mono (by omega))
      replace k0 : Blk w9 (w.heap.size) 24 #[.int .i64 n0, .slice A0 xs0.length c0] := k0.below b9 (by omega)
      obtain ⟨pk0_0, pk0_1⟩ := k0.c2
      replace k1 : Blk w9 (w.heap.size + 1) 24 #[.int .i64 n1, .slice A1 xs1.length c1] := k1.below b9 (by omega)
      obtain ⟨pk1_0, pk1_1⟩ := k1.c2
      replace k2 : Blk w9 (w6.heap.size) 30 #[.int .i64 n0, .slice A0_6 xs0.length c0_6] := k2.below b9 (by omega)
      obtain ⟨pk2_0, pk2_1⟩ := k2.c2
      replace k3 : Blk w9 (w7.heap.size) 30 #[.int .i64 n1, .slice A1_7 xs1.length c1_7] := k3.below b9 (by omega)
      obtain ⟨pk3_0, pk3_1⟩ := k3.c2
      replace o0_6 := o0_6.below b9 (by omega)
      replace o1_7 := o1_7.below b9 (by omega)
      have z10 := b10.size
      have B10 : Below w.heap.size w w10 := Below.trans (B9) (b10.mono (by omega))
      replace k0 : Blk w10 (w.heap.size) 24 #[.int .i64 n0, .slice A0 xs0.length c0] := k0.below b10 (by omega)
      obtain ⟨pk0_0, pk0_1⟩ := k0.c2
      replace k1 : Blk w10 (w.heap.size + 1) 24 #[.int .i64 n1, .slice A1 xs1.length c1] := k1.below b10 (by omega)
      obtain ⟨pk1_0, pk1_1⟩ := k1.c2
      replace k2 : Blk w10 (w6.heap.size) 30 #[.int .i64 n0, .slice A0_6 xs0.length c0_6] := k2.below b10 (by omega)
      obtain ⟨pk2_0, pk2_1⟩ := k2.c2
      replace k3 : Blk w10 (w7.heap.size) 30 #[.int .i64 n1, .slice A1_7 xs1.length c1_7] := k3.below b10 (by omega)
      obtain ⟨pk3_0, pk3_1⟩ := k3.c2
      replace o0_6 := o0_6.below b10 (by omega)
      replace o1_7 := o1_7.below b10 (by omega)
      go_wp2_with (fail)
      go_region_held3 (fun W' => (W'.cell? ⟨w.heap.size + 1, 0, none⟩ = some (.int .i64 n1) ∧ W'.cell? ⟨w.heap.size + 1, 1, none⟩ = some (.slice A1 xs1.length c1)) ∧ (W'.cell? ⟨w7.heap.size, 0, none⟩ = some (.int .i64 n1) ∧ W'.cell? ⟨w7.heap.size, 1, none⟩ = some (.slice A1_7 xs1.length c1_7))) (first | exact ⟨k1.c2, k3.c2⟩ | exact ⟨(k1.below b11 (by first | omega | (simp; done) | (simp; omega))).c2, (k3.below b11 (by first | omega | (simp; done) | (simp; omega))).c2⟩ | exact ⟨(k1.below (b11.trans (b12.mono b11.size)) (by first | omega | (simp; done) | (simp; omega))).c2, (k3.below (b11.trans (b12.mono b11.size)) (by first | omega | (simp; done) | (simp; omega))).c2⟩)
        (first | (go_at_call 8; refine (laws_toChart _ _ _ _ _ (h1.below (B10).drew) (by omega)).mono ?_; rintro e w11 ⟨A1_11, c1_11, rfl, o1_11, b11⟩; replace b11 := undrew b11) | (go_at_call 10; refine (laws_eqChart _ _ _ _ _ _ _ _ _ ((o1_7.rowsR).below b11) o1_11.rowsR (by omega) (by omega)).mono ?_; rintro e w12 ⟨rfl, b12⟩))
      have z11 := b11.size
      have B11 : Below w.heap.size w w11 := Below.trans (B10) (b11.mono (by omega))
      replace k0 : Blk w11 (w.heap.size) 24 #[.int .i64 n0, .slice A0 xs0.length c0] := k0.below b11 (by omega)
      obtain ⟨pk0_0, pk0_1⟩ := k0.c2
      replace k1 : Blk w11 (w.heap.size + 1) 24 #[.int .i64 n1, .slice A1 xs1.length c1] := k1.below b11 (by omega)
      obtain ⟨pk1_0, pk1_1⟩ := k1.c2
      replace k2 : Blk w11 (w6.heap.size) 30 #[.int .i64 n0, .slice A0_6 xs0.length c0_6] := k2.below b11 (by omega)
      obtain ⟨pk2_0, pk2_1⟩ := k2.c2
      replace k3 : Blk w11 (w7.heap.size) 30 #[.int .i64 n1, .slice A1_7 xs1.length c1_7] := k3.below b11 (by omega)
      obtain ⟨pk3_0, pk3_1⟩ := k3.c2
      replace o0_6 := o0_6.below b11 (by omega)
      replace o1_7 := o1_7.below b11 (by omega)
      have z12 := b12.size
      have B12 : Below w.heap.size w w12 := Below.trans (B11) (b12.mono (by omega))
      replace k0 : Blk w12 (w.heap.size) 24 #[.int .i64 n0, .slice A0 xs0.length c0] := k0.below b12 (by omega)
      obtain ⟨pk0_0, pk0_1⟩ := k0.c2
      replace k1 : Blk w12 (w.heap.size + 1) 24 #[.int .i64 n1, .slice A1 xs1.length c1] := k1.below b12 (by omega)
      obtain ⟨pk1_0, pk1_1⟩ := k1.c2
      replace k2 : Blk w12 (w6.heap.size) 30 #[.int .i64 n0, .slice A0_6 xs0.length c0_6] := k2.below b12 (by omega)
      obtain ⟨pk2_0, pk2_1⟩ := k2.c2
      replace k3 : Blk w12 (w7.heap.size) 30 #[.int .i64 n1, .slice A1_7 xs1.length c1_7] := k3.below b12 (by omega)
      obtain ⟨pk3_0, pk3_1⟩ := k3.c2
      replace o0_6 := o0_6.below b12 (by omega)
      replace o1_7 := o1_7.below b12 (by omega)
      go_wp2_with (fail)
      go_ret
      exact ⟨rfl, B12⟩
    · have hz1 : szLeft (1048576 - ((sizeRows xs0 : Nat) : Int)) ((sizeRows xs1 : Nat) : Int) = -1 := by rw [szLeft, if_pos (by omega)]
      have hsz0 : xs0.length ≤ sizeRows xs0 := by unfold sizeRows; omega
      have hcn0 : cntRows xs0 ≤ 2 * sizeRows xs0 := by unfold sizeRows cntRows; omega
      have hsz1 : xs1.length ≤ sizeRows xs1 := by unfold sizeRows; omega
      have hcn1 : cntRows xs1 ≤ 2 * sizeRows xs1 := by unfold sizeRows cntRows; omega
      go_enter Tryz.func3, Tryz.ntmps3
      go_wp2_with (fail)
      refine (laws_szChart _ _ _ _ _ _ (h0.below ?hb0) l0 (by omega) (by omega)).mono ?_
      case hb0 => (repeat (first | exact Below.refl _ _ | assumption | apply Below.drew | apply below_drewN | (refine Below.alloc ?_ (by first | omega | (simp; done) | (simp; omega)) _) | (refine Below.setCell ?_ (by first | omega | (simp; done) | (simp; omega)) _)))
      rintro e w1 ⟨rfl, b1⟩
      simp only [World.size_alloc] at b1
      have b1' : Below w.heap.size w w1 := Below.trans (by (repeat (first | exact Below.refl _ _ | assumption | apply Below.drew | apply below_drewN | (refine Below.alloc ?_ (by first | omega | (simp; done) | (simp; omega)) _) | (refine Below.setCell ?_ (by first | omega | (simp; done) | (simp; omega)) _)))) (b1.mono (by first | omega | (simp; done) | (simp; omega)))
      have z1 : w.heap.size + 2 ≤ w1.heap.size := by have := b1.size; simpa using this
      have B1 : Below w.heap.size w w1 := Below.trans (Below.refl _ _) (b1'.mono (by omega))
      have k0 : Blk w1 (w.heap.size) 24 #[.int .i64 n0, .slice A0 xs0.length c0] := Blk.below (by simpa using (Blk.alloc (Blk.new w 24 #[.int .i64 n0, .slice A0 xs0.length c0]) (.cells #[.int .i64 n1, .slice A1 xs1.length c1] 24))) b1 (by first | omega | (simp; done) | (simp; omega))
      obtain ⟨pk0_0, pk0_1⟩ := k0.c2
      have k1 : Blk w1 (w.heap.size + 1) 24 #[.int .i64 n1, .slice A1 xs1.length c1] := Blk.below (by simpa using (Blk.new (World.alloc w (.cells #[.int .i64 n0, .slice A0 xs0.length c0] 24)) 24 #[.int .i64 n1, .slice A1 xs1.length c1])) b1 (by first | omega | (simp; done) | (simp; omega))
      obtain ⟨pk1_0, pk1_1⟩ := k1.c2
      go_wp2_with (fail)
      refine (laws_szChart _ _ _ _ _ _ (h1.below B1) l1 (by omega) (by omega)).mono ?_
      rintro e w2 ⟨rfl, b2⟩
      have z2 := b2.size
      have B2 : Below w.heap.size w w2 := Below.trans (B1) (b2.mono (by omega))
      replace k0 : Blk w2 (w.heap.size) 24 #[.int .i64 n0, .slice A0 xs0.length c0] := k0.below b2 (by omega)
      obtain ⟨pk0_0, pk0_1⟩ := k0.c2
      replace k1 : Blk w2 (w.heap.size + 1) 24 #[.int .i64 n1, .slice A1 xs1.length c1] := k1.below b2 (by omega)
      obtain ⟨pk1_0, pk1_1⟩ := k1.c2
      go_wp2_with (fail)
      go_ret
      exact ⟨rfl, B2⟩
  · have hz0 : szLeft (1048576) ((sizeRows xs0 : Nat) : Int) = -1 := by rw [szLeft, if_pos (by omega)]
    have hsz0 : xs0.length ≤ sizeRows xs0 := by unfold sizeRows; omega
    have hcn0 : cntRows xs0 ≤ 2 * sizeRows xs0 := by unfold sizeRows cntRows; omega
    have hsz1 : xs1.length ≤ sizeRows xs1 := by unfold sizeRows; omega
    have hcn1 : cntRows xs1 ≤ 2 * sizeRows xs1 := by unfold sizeRows cntRows; omega
    go_enter Tryz.func3, Tryz.ntmps3
    go_wp2_with (fail)
    refine (laws_szChart _ _ _ _ _ _ (h0.below ?hb0) l0 (by omega) (by omega)).mono ?_
    case hb0 => (repeat (first | exact Below.refl _ _ | assumption | apply Below.drew | apply below_drewN | (refine Below.alloc ?_ (by first | omega | (simp; done) | (simp; omega)) _) | (refine Below.setCell ?_ (by first | omega | (simp; done) | (simp; omega)) _)))
    rintro e w1 ⟨rfl, b1⟩
    simp only [World.size_alloc] at b1
    have b1' : Below w.heap.size w w1 := Below.trans (by (repeat (first | exact Below.refl _ _ | assumption | apply Below.drew | apply below_drewN | (refine Below.alloc ?_ (by first | omega | (simp; done) | (simp; omega)) _) | (refine Below.setCell ?_ (by first | omega | (simp; done) | (simp; omega)) _)))) (b1.mono (by first | omega | (simp; done) | (simp; omega)))
    have z1 : w.heap.size + 2 ≤ w1.heap.size := by have := b1.size; simpa using this
    have B1 : Below w.heap.size w w1 := Below.trans (Below.refl _ _) (b1'.mono (by omega))
    have k0 : Blk w1 (w.heap.size) 24 #[.int .i64 n0, .slice A0 xs0.length c0] := Blk.below (by simpa using (Blk.alloc (Blk.new w 24 #[.int .i64 n0, .slice A0 xs0.length c0]) (.cells #[.int .i64 n1, .slice A1 xs1.length c1] 24))) b1 (by first | omega | (simp; done) | (simp; omega))
    obtain ⟨pk0_0, pk0_1⟩ := k0.c2
    have k1 : Blk w1 (w.heap.size + 1) 24 #[.int .i64 n1, .slice A1 xs1.length c1] := Blk.below (by simpa using (Blk.new (World.alloc w (.cells #[.int .i64 n0, .slice A0 xs0.length c0] 24)) 24 #[.int .i64 n1, .slice A1 xs1.length c1])) b1 (by first | omega | (simp; done) | (simp; omega))
    obtain ⟨pk1_0, pk1_1⟩ := k1.c2
    go_wp2_with (fail)
    go_ret
    exact ⟨rfl, B1⟩


end Go.Proofs.YtnjgmhdmjaijgaaGreat
