/- The law FnMirrored walked. -/
import Derived.Test.YtifjdiiafofnpaaZ15
import Derived.Test.YtifjdiiafofnpaaZ16
import Derived.Test.YtifjdiiafofnpaaZ18
import Derived.Test.YtifjdiiafofnpaaZ10
import Derived.Test.YtifjdiiafofnpaaZ3
namespace Go.Proofs.Ytifjdiiafofnpaa
open Go Go.RowKit

set_option maxHeartbeats 1000000 in
set_option maxRecDepth 10000 in
theorem law_FnMirrored (bs : List Int) (A : Option Addr) (c : Nat) (w : World) (h : Bytes w A bs) (_l : bs.length ≤ 9223372036854775807) :
    Calls Try.prog 5 #[.slice A bs.length c] w fun e w' => e = .returned (.bool true) ∧ Below w.heap.size w w' := by
  by_cases hlong : 3000 < bs.length
  · go_enter Try.func5, Try.ntmps5
    go_wp2_with (fail)
    refine (laws_a2Long A none bs.length c 0 0 w).mono ?_; rintro e _ ⟨rfl, rfl⟩
    rw [decide_eq_true hlong]
    go_wp2_with (fail)
    go_ret
    exact ⟨rfl, Below.refl _ _⟩
  · go_enter Try.func5, Try.ntmps5
    go_wp2_with (fail)
    refine (laws_a2Long A none bs.length c 0 0 w).mono ?_; rintro e _ ⟨rfl, rfl⟩
    rw [decide_eq_false hlong]
    go_wp2_with (fail)
    refine (spec_A2Chart A c bs w h (by omega)).mono ?_
    rintro e w1 ⟨n, rs, A1, c1, rfl, hch, hl4, o1, b1⟩
    have hz1 := b1.size
    have hsz := chart_size hch
    obtain ⟨m1, m2, m3⟩ := chart_mir hch
    have HM1 := Lib.hid m1; clear m1
    have HM2 := Lib.hid m2; clear m2
    have HM3 := Lib.hid m3; clear m3
    have HV1 := Lib.hid (colsP_good hch).2
    have HV2 := Lib.hid (colsP_good HM1.out).2
    have HX1 : Hid (mirX n rs = ⟨n, rs.map mirRow⟩) := Lib.hid (by rw [mirX, if_pos hch])
    have HX2 : Hid (mirX n (rs.map mirRow) = ⟨n, rs⟩) := Lib.hid (by rw [mirX, if_pos HM1.out, HM3.out])
    have HCS := Lib.hid (chartStacks_size n rs)
    clear hch HM3
    have rs1 : RowsR w1 A1 rs := o1.rowsR
    clear o1
    obtain ⟨w2, hw2⟩ : ∃ w2, w2 = w1.alloc (.cells #[.int .i64 n, .slice A1 rs.length c1] 43) := ⟨_, rfl⟩
    have b2 : Below w1.heap.size w1 w2 := by rw [hw2]; (repeat (first | exact Below.refl _ _ | assumption | apply Below.drew | apply below_drewN | (refine Below.alloc ?_ (by first | omega | (simp; done) | (simp; omega)) _) | (refine Below.setCell ?_ (by first | omega | (simp; done) | (simp; omega)) _)))
    have B2 : Below w.heap.size w w2 := b1.trans (b2.mono hz1)
    obtain ⟨g3, hg3⟩ : ∃ g3, g3 = w1.heap.size := ⟨_, rfl⟩
    have k1 : Blk w2 g3 43 #[.int .i64 n, .slice A1 rs.length c1] := by rw [hw2, hg3]; exact Blk.new _ _ _
    go_upto_region 4 with fail
    rw [← hw2, ← hg3]
    have rs2 : RowsR w2 A1 rs := rs1.below b2
    clear hw2 b2 rs1 b1 hz1 hg3
    have q2 := k1.c2
    go_wp2_with (fail)
    refine (impl_MirrorChart n rs A1 c1 w2 rs2 (by omega)).mono ?_
    rintro e w3 ⟨A3, c3, rfl, o3, b3⟩
    rw [HX1.out, HV1.out]
    rw [HX1.out] at o3
    have rx3 : RowsR w3 A3 (rs.map mirRow) := o3.rowsR
    clear o3
    have hml : (rs.map mirRow).length = rs.length := by simp
    have HMS0 := Lib.hid hml; clear hml
    generalize rs.map mirRow = ms at *
    have hms8 : ms.length ≤ 8 := by rw [HMS0.out]; omega
    have rs3 := rs2.below b3
    have k13 := k1.below b3 k1.lt
    have B3 := B2.trans (b3.mono (B2.size))
    obtain ⟨w4, hw4⟩ : ∃ w4, w4 = w3.alloc (.cells #[.int .i64 n, .slice A3 ms.length c3] 43) := ⟨_, rfl⟩
    have b4 : Below w3.heap.size w3 w4 := by rw [hw4]; (repeat (first | exact Below.refl _ _ | assumption | apply Below.drew | apply below_drewN | (refine Below.alloc ?_ (by first | omega | (simp; done) | (simp; omega)) _) | (refine Below.setCell ?_ (by first | omega | (simp; done) | (simp; omega)) _)))
    have B4 : Below w.heap.size w w4 := B3.trans (b4.mono B3.size)
    obtain ⟨g4, hg4⟩ : ∃ g4, g4 = w3.heap.size := ⟨_, rfl⟩
    have k24 : Blk w4 g4 43 #[.int .i64 n, .slice A3 ms.length c3] := by rw [hw4, hg4]; exact Blk.new _ _ _
    have k14 := k13.below b4 k13.lt
    have rs4 := rs3.below b4
    have rx4 := rx3.below b4
    go_upto_region 5 with fail
    rw [← hw4, ← hg4]
    clear hw4 b4 k13 k1 q2 rs3 rs2 rx3 B3 B2 b3 hg4
    have q2 := k24.c2
    go_wp2_with (fail)
    refine (impl_MirrorChart n ms A3 c3 w4 rx4 (by omega)).mono ?_
    rintro e w5 ⟨A5, c5, rfl, o5, b5⟩
    rw [HX2.out, HV2.out]
    rw [HX2.out] at o5
    have ry5 : RowsR w5 A5 rs := o5.rowsR
    clear o5
    have rs5 := rs4.below b5
    have rx5 := rx4.below b5
    have k15 := k14.below b5 k14.lt
    have k25 := k24.below b5 k24.lt
    have B5 := B4.trans (b5.mono (B4.size))
    clear q2 rs4 rx4 k14 k24 B4 b5
    obtain ⟨w6, hw6⟩ : ∃ w6, w6 = w5.alloc (.cells #[.int .i64 n, .slice A5 rs.length c5] 43) := ⟨_, rfl⟩
    have b6 : Below w5.heap.size w5 w6 := by rw [hw6]; (repeat (first | exact Below.refl _ _ | assumption | apply Below.drew | apply below_drewN | (refine Below.alloc ?_ (by first | omega | (simp; done) | (simp; omega)) _) | (refine Below.setCell ?_ (by first | omega | (simp; done) | (simp; omega)) _)))
    have B6 : Below w.heap.size w w6 := B5.trans (b6.mono B5.size)
    obtain ⟨g5, hg5⟩ : ∃ g5, g5 = w5.heap.size := ⟨_, rfl⟩
    have k36 : Blk w6 g5 43 #[.int .i64 n, .slice A5 rs.length c5] := by rw [hw6, hg5]; exact Blk.new _ _ _
    have k16 := k15.below b6 k15.lt
    have k26 := k25.below b6 k25.lt
    have rs6 := rs5.below b6
    have rx6 := rx5.below b6
    have ry6 := ry5.below b6
    go_upto_region 6 with fail
    rw [← hw6, ← hg5]
    clear hw6 b6 k15 k25 rs5 rx5 ry5 B5 hg5
    have q2 := k16.c2
    have q3 := k36.c2
    have hss : sameChartB n n rs rs = true := by simp [sameChartB]
    have HSS := Lib.hid hss; clear hss
    go_wp2_with (fail)
    refine (impl_SameChart n n rs rs A5 A1 c5 c1 w6 ry6 (by omega) rs6 (by omega)).mono ?_
    rintro e w7 ⟨rfl, b7⟩
    rw [HSS.out]
    have rs7 := rs6.below b7
    have rx7 := rx6.below b7
    have k17 := k16.below b7 k16.lt
    have k27 := k26.below b7 k26.lt
    have B7 := B6.trans (b7.mono B6.size)
    clear q2 q3 rs6 rx6 ry6 k16 k26 k36 B6 b7
    have q1 := k17.c2
    go_wp2_with (fail)
    refine (impl_StacksOf n rs A1 c1 w7 rs7 (by omega)).mono ?_
    rintro e w8 ⟨A8, c8, rfl, o8, b8⟩
    rw [HV1.out]
    have i8 := o8.ints2
    clear o8
    have rx8 := rx7.below b8
    have k28 := k27.below b8 k27.lt
    have B8 := B7.trans (b8.mono B7.size)
    clear q1 rs7 rx7 k17 k27 B7 b8
    have q1 := k28.c2
    go_wp2_with (fail)
    refine (impl_StacksOf n ms A3 c3 w8 rx8 (by omega)).mono ?_
    rintro e w9 ⟨A9, c9, rfl, o9, b9⟩
    rw [HV2.out, HM2.out]
    rw [HM2.out] at o9
    have i9 := o9.ints2
    clear o9
    have i89 := i8.below b9
    have B9 := B8.trans (b9.mono B8.size)
    clear q1 rx8 k28 i8 B8 b9
    have hml2 : ((chartStacks n rs).map List.reverse).length = (chartStacks n rs).length := by simp
    rw [hml2]
    have HML := Lib.hid hml2; clear hml2
    have h8 := HCS.out.1
    have hle : ∀ xs ∈ chartStacks n rs, xs.length ≤ 64 := by
      intro xs hxs
      obtain ⟨i, hi⟩ := List.getElem?_of_mem hxs
      have := cntII_at hi
      have := HCS.out.2
      omega
    have HLE := Lib.hid hle; clear hle HCS
    generalize chartStacks n rs = xss at *
    go_wp2_with (fail)
    go_loopw [10] (fun iv wr => ∃ i : Nat, i ≤ xss.length ∧ iv = .int .i64 i ∧ Below w9.heap.size w9 wr) (fun iv _ => xss.length - (intOf iv).toNat)
    case atStart => exact ⟨0, Nat.zero_le _, rfl, Below.refl _ _⟩
    case round =>
      obtain ⟨i, hi, rfl, hb⟩ := hrel
      by_cases hil : i < xss.length
      · obtain ⟨b, off, A4, c4, xs, rfl, hx, hc, hix, hxl⟩ := (i89.below hb) i hil
        obtain ⟨b', off', A6, c6, ys, rfl, hy, hc', hiy, hyl⟩ := (i9.below hb) i (by rw [HML.out]; exact hil)
        rw [List.getElem?_map, hx] at hy
        injection hy with hy
        subst hy
        have hxl64 := HLE.out xs (List.mem_of_getElem? hx)
        clear hx
        have hrl : xs.reverse.length ≤ 64 := by rw [List.length_reverse]; omega
        have HYS : Hid (xs.reverse.reverse = xs) := Lib.hid (List.reverse_reverse xs)
        generalize xs.reverse = ys at *
        have j1 : (0 : Int) ≤ (i : Int) := by omega
        have j2 : (i : Int) < (xss.length : Int) := by omega
        go_upto_region 15 with fail
        (refine wp_region_pops 2 (S := (fun W' => W'.cell? ⟨b, off + i, none⟩ = some (.slice A4 xs.length c4) ∧ W'.cell? ⟨b', off' + i, none⟩ = some (.slice A6 ys.length c6))) (pre := ?_) (T := ?_) (n := ?_) (by kernel_rfl) (by kernel_rfl) ?_ ?_ ?_ ?_ (fun hHeld => ?_); rotate_left 3; (focus (simp only [pops, List.pop_toArray, List.dropLast_cons_cons, List.dropLast_singleton]; rfl)); (focus (simp only [tailOf, List.pop_toArray, List.dropLast_cons_cons, List.dropLast_singleton, List.back?_toArray, List.getLast?_cons_cons, List.getLast?_singleton, Option.toList_some, List.nil_append, List.cons_append]; rfl)); (focus rfl); (focus (exact ⟨hc, hc'⟩)))
        ((refine wpAnyH_take (i := 0) (v := ?_) rfl (by kernel_rfl) (by kernel_rfl) (by kernel_rfl) (fun _ _ _ h => h) (Or.inl ⟨by rfl, ?_⟩) (by assumption) ?_; rotate_left; (focus (intro W hSw; (try dsimp only at hSw); go_simp; try (with_reducible rfl)))); (try simp only [List.getElem_toArray, List.getElem_cons_zero, Act.put, List.setIfInBounds_toArray, List.set_cons_zero, List.set_cons_succ]); (refine wpAnyH_take (i := 1) (v := ?_) rfl (by kernel_rfl) (by kernel_rfl) (by kernel_rfl) (fun _ _ _ h => h) (Or.inl ⟨by rfl, ?_⟩) (by assumption) ?_; rotate_left; (focus (intro W hSw; (try dsimp only at hSw); go_simp; try (with_reducible rfl)))); (try simp only [List.getElem_toArray, List.getElem_cons_zero, List.getElem_cons_succ, Act.put, List.setIfInBounds_toArray, List.set_cons_zero, List.set_cons_succ]); (refine wpAnyH_take (i := 2) (v := ?_) rfl (by kernel_rfl) (by kernel_rfl) (by kernel_rfl) (fun _ _ _ h => h) (Or.inl ⟨by rfl, ?_⟩) (by assumption) ?_; rotate_left; (focus (intro W hSw; (try dsimp only at hSw); go_simp; try (with_reducible rfl)))); (try simp only [List.getElem_toArray, List.getElem_cons_zero, List.getElem_cons_succ, Act.put, List.setIfInBounds_toArray, List.set_cons_zero, List.set_cons_succ]); (refine wpAnyH_take (i := 3) (v := ?_) rfl (by kernel_rfl) (by kernel_rfl) (by kernel_rfl) (fun _ _ _ h => h) (Or.inl ⟨by rfl, ?_⟩) (by assumption) ?_; rotate_left; (focus (intro W hSw; (try dsimp only at hSw); go_simp; try (with_reducible rfl)))); (try simp only [List.getElem_toArray, List.getElem_cons_zero, List.getElem_cons_succ, Act.put, List.setIfInBounds_toArray, List.set_cons_zero, List.set_cons_succ]); (refine wpAnyH_take (i := 4) (v := ?_) rfl (by kernel_rfl) (by kernel_rfl) (by kernel_rfl) (fun _ _ _ h => h) (Or.inl ⟨by rfl, ?_⟩) (by assumption) ?_; rotate_left; (focus (intro W hSw; (try dsimp only at hSw); go_simp; try (with_reducible rfl)))); (try simp only [List.getElem_toArray, List.getElem_cons_zero, List.getElem_cons_succ, Act.put, List.setIfInBounds_toArray, List.set_cons_zero, List.set_cons_succ]); (refine wpAnyH_take (i := 5) (v := ?_) rfl (by kernel_rfl) (by kernel_rfl) (by kernel_rfl) (fun _ _ _ h => h) (Or.inl ⟨by rfl, ?_⟩) (by assumption) ?_; rotate_left; (focus (intro W hSw; (try dsimp only at hSw); go_simp; try (with_reducible rfl)))); (try simp only [List.getElem_toArray, List.getElem_cons_zero, List.getElem_cons_succ, Act.put, List.setIfInBounds_toArray, List.set_cons_zero, List.set_cons_succ]); (refine wpAnyH_take (i := 6) (v := ?_) rfl (by kernel_rfl) (by kernel_rfl) (by kernel_rfl) (fun _ _ _ h => h) (Or.inl ⟨by rfl, ?_⟩) (by assumption) ?_; rotate_left; (focus (intro W hSw; (try dsimp only at hSw); go_simp; try (with_reducible rfl)))); (try simp only [List.getElem_toArray, List.getElem_cons_zero, List.getElem_cons_succ, Act.put, List.setIfInBounds_toArray, List.set_cons_zero, List.set_cons_succ]); (refine wpAnyH_take (i := 7) (v := ?_) rfl (by kernel_rfl) (by kernel_rfl) (by kernel_rfl) (fun _ _ _ h => h) (Or.inl ⟨by rfl, ?_⟩) (by assumption) ?_; rotate_left; (focus (intro W hSw; (try dsimp only at hSw); go_simp; try (with_reducible rfl)))); (try simp only [List.getElem_toArray, List.getElem_cons_zero, List.getElem_cons_succ, Act.put, List.setIfInBounds_toArray, List.set_cons_zero, List.set_cons_succ]))
        (refine wpAnyH_ready (rs := [8]) (by kernel_rfl) (by simp) ?_; refine AllReadyH.cons rfl (fun K hK => ?_) AllReadyH.nil)
        go_simp
        refine (laws_a2Back A6 c6 ys _ (Ints.drew1 hiy) (by omega)).mono ?_; rintro e w7 ⟨A7, c7, rfl, o7', b7'⟩
        have b7 : Below wr.heap.size wr w7 := undrew b7'
        have o7 : OwnI w7 wr.heap.size w7.heap.size A7 c7 ys.reverse := o7'
        refine hK.out _ _ ⟨cells_below b7 _ _ hc, cells_below b7 _ _ hc'⟩ (fun hHeld => ?_)
        clear hK K b7' o7'
        (try simp only [List.getElem_toArray, List.getElem_cons_zero, List.getElem_cons_succ, Act.put, List.setIfInBounds_toArray, List.set_cons_zero, List.set_cons_succ])
        (refine wpAnyH_done (by kernel_rfl) ?_ _; change wpList _ _ _ _ _ _)
        clear hHeld
        have hb7 : Below w9.heap.size w9 w7 := Below.trans hb (b7.mono hb.size)
        have hix7 : Ints w7 A4 xs := hix.below b7
        rw [HYS.out] at o7 ⊢
        go_wp2_with (fail)
        refine (laws_a2Same A4 A7 c4 c7 xs xs w7 hix7 o7.ints (by omega) (by omega)).mono ?_
        rintro e w10 ⟨rfl, k, rfl⟩
        rw [decide_eq_true rfl]
        go_wp2_with (fail)
        exact ⟨⟨i + 1, by omega, by go_num, below_drewN hb7 _⟩, by simp [intOf]; omega⟩
      · go_wp2_with (fail)
        go_ret
        exact ⟨rfl, B9.trans (hb.mono B9.size)⟩

end Go.Proofs.Ytifjdiiafofnpaa
