/- The law FnCablePermutations walked. -/
import Derived.Test.YtifjdiiafofnpaaZ21
import Derived.Test.YtifjdiiafofnpaaZ16
namespace Go.Proofs.Ytifjdiiafofnpaa
open Go Go.RowKit

theorem cb_pos {n : Int} {rs : List RowD} (h : cbCode n rs = 0) : 1 ≤ n ∧ rs.length ≤ 8 := by
  cases hc : chartB n rs
  · rw [cbCode, if_neg (by rw [hc]; decide)] at h
    simp at h
  · exact ⟨(chartB_of hc).1.1, (chartB_of hc).2.1.2⟩

set_option maxHeartbeats 4000000 in
set_option maxRecDepth 10000 in
theorem law_FnCablePermutations (bs : List Int) (A : Option Addr) (c : Nat) (w : World) (h : Bytes w A bs) (_l : bs.length ≤ 9223372036854775807) :
    Calls Try.prog 6 #[.slice A bs.length c] w fun e w' => e = .returned (.bool true) ∧ Below w.heap.size w w' := by
  by_cases hlong : 1048576 < bs.length
  · go_enter Try.func6, Try.ntmps6
    go_wp2_with (fail)
    refine (laws_b10Long A bs.length c w).mono ?_; rintro e _ ⟨rfl, rfl⟩
    rw [decide_eq_true hlong]
    go_wp2_with (fail)
    go_ret
    exact ⟨rfl, Below.refl _ _⟩
  · go_enter Try.func6, Try.ntmps6
    go_wp2_with (fail)
    refine (laws_b10Long A bs.length c w).mono ?_; rintro e _ ⟨rfl, rfl⟩
    rw [decide_eq_false hlong]
    go_wp2_with (fail)
    refine (spec_DrawChartOfPermutation A c bs w h (by omega)).mono ?_
    rintro e w1 ⟨A1, c1, p, car, rfl, o1, hp8, b1⟩
    have i1 := OwnC.ints o1
    clear o1
    go_wp2_with (fail)
    refine (impl_ChartOfPermutation p car A1 c1 w1 i1 (by omega)).mono ?_
    rintro e w2 ⟨A2, c2, rfl, o2, b2⟩
    have B2 := b1.trans (b2.mono b1.size)
    by_cases hk : copCode p car = 0
    · obtain ⟨W, hX, hc0, hcx, hperm, hpw, hneg, hlen, hbr⟩ := cable_perm hk
      rw [hk]
      have i12 := i1.below b2
      have hl9 := (cb_pos hc0).2
      have HX : Hid ((copX p car).n = p.length) := Lib.hid (by rw [hX])
      have r2 : RowsR w2 A2 (copX p car).xs := o2.rowsR
      clear hX o2 b2 i1 b1
      have hn1 : 1 ≤ p.length := by
        rcases Nat.eq_zero_or_pos p.length with e | e
        · exfalso
          have h9 := (cb_pos hc0).1
          omega
        · exact e
      rw [HX.out]
      generalize (copX p car).xs = rs at *
      obtain ⟨w3, hw3⟩ : ∃ w3, w3 = w2.alloc (.cells #[.int .i64 (p.length : Int), .slice A2 rs.length c2] 43) := ⟨_, rfl⟩
      have b3 : Below w2.heap.size w2 w3 := by rw [hw3]; (repeat (first | exact Below.refl _ _ | assumption | apply Below.drew | apply below_drewN | (refine Below.alloc ?_ (by first | omega | (simp; done) | (simp; omega)) _) | (refine Below.setCell ?_ (by first | omega | (simp; done) | (simp; omega)) _)))
      have B3 : Below w.heap.size w w3 := B2.trans (b3.mono B2.size)
      obtain ⟨g3, hg3⟩ : ∃ g3, g3 = w2.heap.size := ⟨_, rfl⟩
      have k3 : Blk w3 g3 43 #[.int .i64 (p.length : Int), .slice A2 rs.length c2] := by rw [hw3, hg3]; exact Blk.new _ _ _
      have r3 := r2.below b3
      have i13 := i12.below b3
      go_upto_region 7 with fail
      rw [← hw3, ← hg3]
      clear hw3 hg3 r2 i12 b3 B2
      have q3 := k3.c2
      go_wp2_with (fail)
      refine (impl_CableBraid (p.length : Int) rs A2 c2 w3 r3 (by omega)).mono ?_
      rintro e w4 ⟨A4, c4, rfl, o4, b4⟩
      rw [hc0, hcx]
      rw [hcx] at o4
      have i4 : Ints w4 A4 W := OwnC.ints o4
      have i14 := i13.below b4
      have B4 : Below w.heap.size w w4 := B3.trans (b4.mono B3.size)
      have hW40 : W.length ≤ 40 := (braidB_of hbr).2.2.1
      clear o4 b4 k3 q3 r3 i13 B3 hc0 hcx
      have HNEG := Lib.hid hneg; clear hneg
      have HLEN := Lib.hid hlen; clear hlen
      have HBR := Lib.hid hbr; clear hbr
      have HPW := Lib.hid hpw; clear hpw
      have HPM := Lib.hid hperm; clear hperm
      obtain ⟨w5, hw5⟩ : ∃ w5, w5 = w4.alloc (.cells #[.int .i64 (p.length : Int), .slice A4 W.length c4] 59) := ⟨_, rfl⟩
      have b5 : Below w4.heap.size w4 w5 := by rw [hw5]; (repeat (first | exact Below.refl _ _ | assumption | apply Below.drew | apply below_drewN | (refine Below.alloc ?_ (by first | omega | (simp; done) | (simp; omega)) _) | (refine Below.setCell ?_ (by first | omega | (simp; done) | (simp; omega)) _)))
      have B5 : Below w.heap.size w w5 := B4.trans (b5.mono B4.size)
      obtain ⟨g5, hg5⟩ : ∃ g5, g5 = w4.heap.size := ⟨_, rfl⟩
      have k5 : Blk w5 g5 59 #[.int .i64 (p.length : Int), .slice A4 W.length c4] := by rw [hw5, hg5]; exact Blk.new _ _ _
      have i45 := i4.below b5
      have i15 := i14.below b5
      go_upto_region 8 with fail
      rw [← hw5, ← hg5]
      clear hw5 hg5 i4 i14 b5 B4
      have q5 := k5.c2
      go_wp2_with (fail)
      refine (spec_BraidPermutation p.length W A4 c4 w5 i45 hn1 HBR.out).mono ?_
      rintro e w6 ⟨A6, c6, rfl, o6, b6⟩
      rw [HPW.out] at o6 ⊢
      have i6 : Ints w6 A6 p := OwnC.ints o6
      have i46 := i45.below b6
      have i16 := i15.below b6
      have k6 := k5.below b6 k5.lt
      have B6 : Below w.heap.size w w6 := B5.trans (b6.mono B5.size)
      clear o6 b6 i45 i15 k5 q5 B5
      go_wp2_with (fail)
      refine (laws_b10Nums A6 A1 c6 c1 p p w6 i6 i16 (by omega) (by omega)).mono ?_; rintro e w7 ⟨rfl, q, rfl⟩
      rw [decide_eq_true rfl]
      have i47 := i46.drewN q
      have i17 := i16.drewN q
      have k7 := k6.drewN q
      have B7 := below_drewN B6 q
      generalize w6.drewN q = w7 at *
      clear i46 i16 k6 B6 i6
      have q7 := k7.c2
      go_wp2_with (fail)
      go_loop [9] (fun iv => ∃ i : Nat, i ≤ W.length ∧ iv = .int .i64 i) (fun iv => W.length - (intOf iv).toNat)
      case atStart => exact ⟨0, Nat.zero_le _, rfl⟩
      case round =>
        obtain ⟨i, hi, rfl⟩ := hrel
        by_cases hil : i < W.length
        · obtain ⟨b, off, x, hA4, hc, hx⟩ := i47 i hil
          have hxn : decide (x < 0) = false := decide_eq_false (by have := HNEG.out x (List.mem_of_getElem? hx); omega)
          clear hx
          subst hA4
          have q7' := q7
          have j1 : (0 : Int) ≤ (i : Int) := by omega
          have j2 : (i : Int) < (W.length : Int) := by omega
          go_wp2_with (fail)
          exact ⟨⟨i + 1, by omega, by go_num⟩, by simp [intOf]; omega⟩
        · go_upto_region 15 with fail
          (refine wp_region_pops 2 (S := (fun W' => W'.cell? ⟨g5, 1, none⟩ = some (.slice A4 W.length c4))) (pre := ?_) (T := ?_) (n := ?_) (by kernel_rfl) (by kernel_rfl) ?_ ?_ ?_ ?_ (fun hHeld => ?_); rotate_left 3; (focus (simp only [pops, List.pop_toArray, List.dropLast_cons_cons, List.dropLast_singleton]; rfl)); (focus (simp only [tailOf, List.pop_toArray, List.dropLast_cons_cons, List.dropLast_singleton, List.back?_toArray, List.getLast?_cons_cons, List.getLast?_singleton, Option.toList_some, List.nil_append, List.cons_append]; rfl)); (focus rfl); (focus (exact q7.2)))
          ((refine wpAnyH_take (i := 0) (v := ?_) rfl (by kernel_rfl) (by kernel_rfl) (by kernel_rfl) (fun _ _ _ h => h) (Or.inl ⟨by rfl, ?_⟩) (by assumption) ?_; rotate_left; (focus (intro W hSw; (try dsimp only at hSw); go_simp; try (with_reducible rfl)))); (try simp only [List.getElem_toArray, List.getElem_cons_zero, Act.put, List.setIfInBounds_toArray, List.set_cons_zero, List.set_cons_succ]); (refine wpAnyH_take (i := 1) (v := ?_) rfl (by kernel_rfl) (by kernel_rfl) (by kernel_rfl) (fun _ _ _ h => h) (Or.inl ⟨by rfl, ?_⟩) (by assumption) ?_; rotate_left; (focus (intro W hSw; (try dsimp only at hSw); go_simp; try (with_reducible rfl)))); (try simp only [List.getElem_toArray, List.getElem_cons_zero, List.getElem_cons_succ, Act.put, List.setIfInBounds_toArray, List.set_cons_zero, List.set_cons_succ]); (refine wpAnyH_take (i := 2) (v := ?_) rfl (by kernel_rfl) (by kernel_rfl) (by kernel_rfl) (fun _ _ _ h => h) (Or.inl ⟨by rfl, ?_⟩) (by assumption) ?_; rotate_left; (focus (intro W hSw; (try dsimp only at hSw); go_simp; try (with_reducible rfl)))); (try simp only [List.getElem_toArray, List.getElem_cons_zero, List.getElem_cons_succ, Act.put, List.setIfInBounds_toArray, List.set_cons_zero, List.set_cons_succ]); (refine wpAnyH_take (i := 3) (v := ?_) rfl (by kernel_rfl) (by kernel_rfl) (by kernel_rfl) (fun _ _ _ h => h) (Or.inl ⟨by rfl, ?_⟩) (by assumption) ?_; rotate_left; (focus (intro W hSw; (try dsimp only at hSw); go_simp; try (with_reducible rfl)))); (try simp only [List.getElem_toArray, List.getElem_cons_zero, List.getElem_cons_succ, Act.put, List.setIfInBounds_toArray, List.set_cons_zero, List.set_cons_succ]))
          (refine wpAnyH_ready (rs := [4]) (by kernel_rfl) (by simp) ?_; refine AllReadyH.cons rfl (fun K hK => ?_) AllReadyH.nil)
          go_simp
          refine (spec_InversionsOf p A1 c1 _ (Ints.drew1 i17) HPM.out).mono ?_; rintro e w8 ⟨rfl, b8'⟩
          have b8 : Below w7.heap.size w7 w8 := undrew b8'
          refine hK.out _ _ (cells_below b8 _ _ q7.2) (fun hHeld => ?_)
          clear hK K b8'
          (try simp only [List.getElem_toArray, List.getElem_cons_zero, List.getElem_cons_succ, Act.put, List.setIfInBounds_toArray, List.set_cons_zero, List.set_cons_succ])
          (refine wpAnyH_done (by kernel_rfl) ?_ _; change wpList _ _ _ _ _ _)
          clear hHeld
          rw [← HLEN.out]
          have hee : ((W.length : Int) == (W.length : Int)) = true := by simp
          go_wp2_with (fail)
          go_ret
          exact ⟨rfl, B7.trans (b8.mono B7.size)⟩
    · have hkb : (copCode p car != 0) = true := by simpa using hk
      generalize copCode p car = k at *
      generalize copX p car = X at *
      clear hk
      go_wp2_with (fail)
      go_ret
      exact ⟨rfl, Below.alloc B2 B2.size _⟩

end Go.Proofs.Ytifjdiiafofnpaa
