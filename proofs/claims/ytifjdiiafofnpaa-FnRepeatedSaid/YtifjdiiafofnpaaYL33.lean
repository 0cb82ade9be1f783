/- The law FnRepeated walked. -/
import Derived.Test.YtifjdiiafofnpaaZ15
import Derived.Test.YtifjdiiafofnpaaZ16
import Derived.Test.YtifjdiiafofnpaaZ17
import Derived.Test.YtifjdiiafofnpaaZ10
import Derived.Test.YtifjdiiafofnpaaZ3
namespace Go.Proofs.Ytifjdiiafofnpaa
open Go Go.RowKit

set_option maxHeartbeats 8000000 in
set_option maxRecDepth 10000 in
theorem law_FnRepeated (bs : List Int) (A : Option Addr) (c : Nat) (w : World) (h : Bytes w A bs) (_l : bs.length ≤ 9223372036854775807) :
    Calls Try.prog 4 #[.slice A bs.length c] w fun e w' => e = .returned (.bool true) ∧ Below w.heap.size w w' := by
  by_cases hlong : 3000 < bs.length
  · go_enter Try.func4, Try.ntmps4
    go_wp2_with (fail)
    refine (laws_a2Long A none bs.length c 0 0 w).mono ?_; rintro e _ ⟨rfl, rfl⟩
    rw [decide_eq_true hlong]
    go_wp2_with (fail)
    go_ret
    exact ⟨rfl, Below.refl _ _⟩
  · go_enter Try.func4, Try.ntmps4
    go_wp2_with (fail)
    refine (laws_a2Long A none bs.length c 0 0 w).mono ?_; rintro e _ ⟨rfl, rfl⟩
    rw [decide_eq_false hlong]
    go_wp2_with (fail)
    refine (spec_A2Chart A c bs w h (by omega)).mono ?_
    rintro e w1 ⟨n, rs, A1, c1, rfl, hch, hl4, o1, b1⟩
    have hz1 := b1.size
    have hn : 1 ≤ n ∧ n ≤ 8 := (chartB_of hch).1
    have hsz := chart_size hch
    have hrep := rep_self hch
    have HREP := Lib.hid hrep; clear hrep
    have hbes := bes_self hch
    have HBES := Lib.hid hbes; clear hbes
    have HCH := Lib.hid hch; clear hch
    have rs1 : RowsR w1 A1 rs := o1.rowsR
    clear o1
    have k1 : Blk (w1.alloc (.cells #[.int .i64 n, .slice A1 rs.length c1] 43)) w1.heap.size 43 #[.int .i64 n, .slice A1 rs.length c1] := Blk.new _ _ _
    obtain ⟨w2, hw2⟩ : ∃ w2, w2 = w1.alloc (.cells #[.int .i64 n, .slice A1 rs.length c1] 43) := ⟨_, rfl⟩
    have b2 : Below w1.heap.size w1 w2 := by rw [hw2]; (repeat (first | exact Below.refl _ _ | assumption | apply Below.drew | apply below_drewN | (refine Below.alloc ?_ (by first | omega | (simp; done) | (simp; omega)) _) | (refine Below.setCell ?_ (by first | omega | (simp; done) | (simp; omega)) _)))
    have B2 : Below w.heap.size w w2 := b1.trans (b2.mono hz1)
    have hz2 : w1.heap.size < w2.heap.size := by rw [hw2]; simp
    obtain ⟨g3, hg3⟩ : ∃ g3, g3 = w1.heap.size := ⟨_, rfl⟩
    go_upto_region 4 with fail
    rw [← hw2, ← hg3]
    rw [← hw2, ← hg3] at k1
    have rs2 : RowsR w2 A1 rs := rs1.below b2
    rw [← hg3] at hz2
    clear hw2 b2 rs1 b1 hz1 hg3
    have q2 := k1.c2
    go_wp2_with (fail)
    refine (impl_RepeatChart n rs 2 A1 c1 w2 rs2 (by omega)).mono ?_
    rintro e w3 ⟨A3, c3, rfl, o3, b3⟩
    rw [HREP.out.1, HREP.out.2] at *
    have HX := Lib.hid (stackX_size n rs n rs).1
    have hz3 := b3.size
    have rx3 : RowsR w3 A3 (stackX n rs n rs).xs := o3.rowsR
    clear o3
    have rs3 := rs2.below b3
    have k13 := k1.below b3 hz2
    have B3 := B2.trans (b3.mono (B2.size))
    obtain ⟨w4, hw4⟩ : ∃ w4, w4 = w3.alloc (.cells #[.int .i64 (stackX n rs n rs).n, .slice A3 (stackX n rs n rs).xs.length c3] 43) := ⟨_, rfl⟩
    have b4 : Below w3.heap.size w3 w4 := by rw [hw4]; (repeat (first | exact Below.refl _ _ | assumption | apply Below.drew | apply below_drewN | (refine Below.alloc ?_ (by first | omega | (simp; done) | (simp; omega)) _) | (refine Below.setCell ?_ (by first | omega | (simp; done) | (simp; omega)) _)))
    have B4 : Below w.heap.size w w4 := B3.trans (b4.mono B3.size)
    have k24 : Blk w4 w3.heap.size 43 #[.int .i64 (stackX n rs n rs).n, .slice A3 (stackX n rs n rs).xs.length c3] := by rw [hw4]; exact Blk.new _ _ _
    have k14 := k13.below b4 (by omega)
    have rs4 := rs3.below b4
    have rx4 := rx3.below b4
    have hz4 : w3.heap.size < w4.heap.size := by rw [hw4]; simp
    obtain ⟨g4, hg4⟩ : ∃ g4, g4 = w3.heap.size := ⟨_, rfl⟩
    go_upto_region 5 with fail
    rw [← hw4, ← hg4]
    rw [← hg4] at k24 hz4
    clear hw4 b4 k13 k1 q2 rs3 rs2 rx3 B3 B2 b3 hz3 hg4 hz2
    have q2 := k14.c2
    go_wp2_with (fail)
    refine (impl_StackCharts n n rs rs A1 A1 c1 c1 w4 rs4 (by omega) rs4 (by omega)).mono ?_
    rintro e w5 ⟨A5, c5, rfl, o5, b5⟩
    have hz5 := b5.size
    have ry5 : RowsR w5 A5 (stackX n rs n rs).xs := o5.rowsR
    clear o5
    have rs5 := rs4.below b5
    have rx5 := rx4.below b5
    have k15 := k14.below b5 k14.lt
    have k25 := k24.below b5 k24.lt
    have B5 := B4.trans (b5.mono (B4.size))
    clear HREP q2 rs4 rx4 k14 k24 B4 b5 hz4
    generalize stackX n rs n rs = X at *
    generalize stackCode n rs n rs = cd at *
    obtain ⟨w6, hw6⟩ : ∃ w6, w6 = w5.alloc (.cells #[.int .i64 X.n, .slice A5 X.xs.length c5] 43) := ⟨_, rfl⟩
    have b6 : Below w5.heap.size w5 w6 := by rw [hw6]; (repeat (first | exact Below.refl _ _ | assumption | apply Below.drew | apply below_drewN | (refine Below.alloc ?_ (by first | omega | (simp; done) | (simp; omega)) _) | (refine Below.setCell ?_ (by first | omega | (simp; done) | (simp; omega)) _)))
    have B6 : Below w.heap.size w w6 := B5.trans (b6.mono B5.size)
    have k36 : Blk w6 w5.heap.size 43 #[.int .i64 X.n, .slice A5 X.xs.length c5] := by rw [hw6]; exact Blk.new _ _ _
    have k16 := k15.below b6 k15.lt
    have k26 := k25.below b6 k25.lt
    have rs6 := rs5.below b6
    have rx6 := rx5.below b6
    have ry6 := ry5.below b6
    obtain ⟨g5, hg5⟩ : ∃ g5, g5 = w5.heap.size := ⟨_, rfl⟩
    go_upto_region 6 with fail
    rw [← hw6, ← hg5]
    rw [← hg5] at k36
    clear hw6 b6 k15 k25 rs5 rx5 ry5 B5 hz5 hg5
    have q2 := k26.c2
    have q3 := k36.c2
    have hcc : (cd != cd) = false := by simp
    have hss : sameChartB X.n X.n X.xs X.xs = true := by simp [sameChartB]
    have HSS := Lib.hid hss; clear hss
    go_wp2_with (fail)
    refine (impl_SameChart X.n X.n X.xs X.xs A3 A5 c3 c5 w6 rx6 (by have := HX.out; omega) ry6 (by have := HX.out; omega)).mono ?_
    rintro e w7 ⟨rfl, b7⟩
    rw [HSS.out]
    have rs7 := rs6.below b7
    have k17 := k16.below b7 k16.lt
    have B7 := B6.trans (b7.mono B6.size)
    clear q2 q3 hcc rs6 rx6 ry6 k16 k26 k36 B6 b7
    have q1 := k17.c2
    go_wp2_with (fail)
    refine (impl_BesideCharts n n rs rs A1 A1 c1 c1 w7 rs7 (by omega) rs7 (by omega)).mono ?_
    rintro e w8 ⟨A8, c8, rfl, o8, b8⟩
    have rz8 : RowsR w8 A8 (besX n rs n rs).xs := o8.rowsR
    clear o8
    have rs8 := rs7.below b8
    have k18 := k17.below b8 k17.lt
    have B8 := B7.trans (b8.mono B7.size)
    clear q1 rs7 k17 B7 b8
    rcases HBES.out with ⟨hc0, hch2, hbx⟩ | hc5
    · rw [hc0, hbx]
      rw [hbx] at rz8
      have HCD := Lib.hid (cols_double HCH.out hch2)
      have HCC := Lib.hid hch2
      clear hc0 hch2 hbx
      have hjl : (joinRows rs rs).length ≤ 8 := (chart_size HCC.out).1
      generalize joinRows rs rs = rz at *
      obtain ⟨w9, hw9⟩ : ∃ w9, w9 = w8.alloc (.cells #[.int .i64 (n + n), .slice A8 rz.length c8] 43) := ⟨_, rfl⟩
      have b9 : Below w8.heap.size w8 w9 := by rw [hw9]; (repeat (first | exact Below.refl _ _ | assumption | apply Below.drew | apply below_drewN | (refine Below.alloc ?_ (by first | omega | (simp; done) | (simp; omega)) _) | (refine Below.setCell ?_ (by first | omega | (simp; done) | (simp; omega)) _)))
      have B9 : Below w.heap.size w w9 := B8.trans (b9.mono B8.size)
      have k49 : Blk w9 w8.heap.size 43 #[.int .i64 (n + n), .slice A8 rz.length c8] := by rw [hw9]; exact Blk.new _ _ _
      have k19 := k18.below b9 k18.lt
      have rs9 := rs8.below b9
      have rz9 := rz8.below b9
      obtain ⟨g8, hg8⟩ : ∃ g8, g8 = w8.heap.size := ⟨_, rfl⟩
      go_upto_region 9 with fail
      rw [← hw9, ← hg8]
      rw [← hg8] at k49
      clear hw9 b9 k18 rs8 rz8 B8 hg8
      have q1 := k19.c2
      go_wp2_with (fail)
      refine (impl_ColumnsAfter n rs A1 c1 w9 rs9 (by omega)).mono ?_
      rintro e w10 ⟨Aa, ca, rfl, oa, ba⟩
      rw [(colsP_good HCH.out).2]
      have ia : Ints w10 Aa (colsP n rs) := oa.ints
      clear oa
      have rz10 := rz9.below ba
      have k110 := k19.below ba k19.lt
      have k410 := k49.below ba k49.lt
      have B10 := B9.trans (ba.mono B9.size)
      clear q1 rs9 rz9 k19 k49 B9 ba
      have q1 := k410.c2
      go_wp2_with (fail)
      refine (impl_ColumnsAfter (n + n) rz A8 c8 w10 rz10 (by omega)).mono ?_
      rintro e w11 ⟨Ab, cb, rfl, ob, bb⟩
      rw [(colsP_good HCC.out).2, HCD.out]
      rw [HCD.out] at ob
      have ib : Ints w11 Ab ((colsP n rs).map fun x => 2 * x) := ob.ints
      clear ob
      have ia1 := ia.below bb
      have k111 := k110.below bb k110.lt
      have k411 := k410.below bb k410.lt
      have B11 := B10.trans (bb.mono B10.size)
      clear q1 rz10 k110 k410 B10 bb ia
      have hcl := colsP_length n rs
      have hcb : ∀ x ∈ colsP n rs, 0 ≤ x ∧ x ≤ 64 := by
        intro x hx
        rw [cols_made HCH.out, List.mem_map] at hx
        obtain ⟨r, hr, rfl⟩ := hx
        have h1 := (rowB_of ((chartB_of HCH.out).2.2 r hr)).2.2.1
        have h2 := stitchesB_of h1
        have h3 := (sums_le h2.2).2
        omega
      have HCB := Lib.hid hcb; clear hcb
      generalize colsP n rs = xs at *
      have hml : (xs.map fun x => 2 * x).length = xs.length := by simp
      have q1 := k111.c2
      have q4 := k411.c2
      have hw2n : IntKind.i64.wrap (2 * n) = n + n := by rw [show 2 * n = n + n by omega]; exact IntWalk.i64_in _ ⟨by omega, by omega⟩
      rw [hml]
      have HML := Lib.hid hml; clear hml
      have hne : ((n + n) != (n + n)) = false := by simp
      go_wp2_with (fail)
      go_loopw [12] (fun iv wr => ∃ i : Nat, i ≤ xs.length ∧ iv = .int .i64 i ∧ ∃ k, wr = w11.drewN k) (fun iv _ => xs.length - (intOf iv).toNat)
      case atStart => exact ⟨0, Nat.zero_le _, rfl, 0, rfl⟩
      case round =>
        obtain ⟨i, hi, rfl, k, rfl⟩ := hrel
        by_cases hil : i < xs.length
        · obtain ⟨b, off, x, rfl, hc, hx⟩ := ia1 i hil
          obtain ⟨b', off', y, rfl, hc', hy⟩ := ib i (by rw [HML.out]; exact hil)
          rw [List.getElem?_map, hx] at hy
          injection hy with hy
          subst hy
          have hxb := HCB.out x (List.mem_of_getElem? hx)
          have hw2x : IntKind.i64.wrap (2 * x) = 2 * x := IntWalk.i64_in _ ⟨by omega, by omega⟩
          have hnx : (2 * x != 2 * x) = false := by simp
          clear hx
          go_wp2
          go_quiet (fail)
          go_wp2
          go_roundw
          case rel => exact ⟨i + 1, by omega, by go_num, (by first | exact drew2 _ _ _ | exact ⟨_, rfl⟩)⟩
          case measure => simp [intOf]; omega
        · go_wp2
          go_ret
          exact ⟨rfl, below_drewN B11 _⟩
    · rw [hc5]
      generalize besX n rs n rs = Z at *
      go_wp2_with (fail)
      go_ret
      exact ⟨rfl, Below.alloc B8 B8.size _⟩

end Go.Proofs.Ytifjdiiafofnpaa
