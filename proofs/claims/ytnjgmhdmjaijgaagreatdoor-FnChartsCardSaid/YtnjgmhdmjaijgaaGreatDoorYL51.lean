/- The law FnCharts walked. -/
import Derived.Test.YtnjgmhdmjaijgaaGreatDoorZ17
import Derived.Test.YtnjgmhdmjaijgaaGreatDoorZ18
import Derived.Test.YtnjgmhdmjaijgaaGreatDoorZ9
import Derived.Test.YtnjgmhdmjaijgaaGreatDoorZ3
import Derived.Test.YtnjgmhdmjaijgaaGreatDoorZ4
import Derived.Test.YtnjgmhdmjaijgaaGreatDoorZ14
namespace Go.Proofs.YtnjgmhdmjaijgaaGreatDoor
open Go Go.RowKit

set_option maxHeartbeats 8000000 in
set_option maxRecDepth 10000 in
theorem law_FnCharts (bs : List Int) (A : Option Addr) (c : Nat) (ds : List Int) (B : Option Addr) (d : Nat) (mm : Int) (w : World) (h : Bytes w A bs) (_l : bs.length ≤ 9223372036854775807) (hm : Bytes w B ds) (_lm : ds.length ≤ 9223372036854775807) (hLw : CellAt w mm) :
    Calls Tryz.prog 4 #[.slice A bs.length c, .slice B ds.length d] w fun e w' => e = .returned (.bool true) ∧ Below w.heap.size w w' := by
  cases hlong : (decide (3000 < bs.length) || decide (3000 < ds.length))
  · rw [Bool.or_eq_false_iff] at hlong
    have hl1 := of_decide_eq_false hlong.1
    have hl2 := of_decide_eq_false hlong.2
    go_enter Tryz.func4, Tryz.ntmps4
    go_wp2_with (fail)
    refine (laws_a2Long A B bs.length c ds.length d w).mono ?_; rintro e _ ⟨rfl, rfl⟩
    rw [hlong.1, hlong.2]
    clear hlong
    go_wp2_with (fail)
    refine (spec_A2Chart A c bs w h (by omega)).mono ?_
    rintro e w1 ⟨n, rs, A1, c1, rfl, hch, hl4, o1, b1⟩
    have HCH := Lib.hid hch
    have hrl1 : 1 ≤ rs.length := (chartB_of hch).2.1.1
    have HT := Lib.hid (rd_chText hch)
    have HTS := Lib.hid (chText_size hch)
    have HV := Lib.hid (colsP_good hch).2
    have HLC := Lib.hid (cols_len hch)
    have HAT := Lib.hid (fun (i : Nat) (x : Int) (xs : List Int) (r : RowD) => @cols_at n rs hch i x xs r)
    have HSK := Lib.hid (fun (m : Int) (ss : List RowD) (h2 : chartB m ss = true) => stack_cases hch h2)
    have hss : sameChartB n n rs rs = true := by simp [sameChartB]
    have HSS := Lib.hid hss; clear hss
    clear hch
    have rs1 : RowsR w1 A1 rs := o1.rowsR
    clear o1
    obtain ⟨w2, hw2⟩ : ∃ w2, w2 = w1.alloc (.cells #[.int .i64 n, .slice A1 rs.length c1] 24) := ⟨_, rfl⟩
    obtain ⟨ga, hga⟩ : ∃ ga, ga = w1.heap.size := ⟨_, rfl⟩
    have ka : Blk w2 ga 24 #[.int .i64 n, .slice A1 rs.length c1] := by rw [hw2, hga]; exact Blk.new w1 _ _
    have b12 : Below w1.heap.size w1 w2 := by rw [hw2]; (repeat (first | exact Below.refl _ _ | assumption | apply Below.drew | apply below_drewN | (refine Below.alloc ?_ (by first | omega | (simp; done) | (simp; omega)) _) | (refine Below.setCell ?_ (by first | omega | (simp; done) | (simp; omega)) _)))
    have r2 := rs1.below b12
    have B2 : Below w.heap.size w w2 := b1.trans (b12.mono b1.size)
    go_upto_region 4 with fail
    rw [← hw2, ← hga]
    clear hw2 hga rs1 b12 b1
    obtain ⟨p0, p1⟩ := ka.c2
    go_wp2_with (fail)
    refine (impl_ChartText n rs A1 c1 w2 r2 (by omega)).mono ?_; rintro e w3 ⟨rfl, b3⟩
    have ka3 := ka.below b3 ka.lt
    have r3 := r2.below b3
    have B3 : Below w.heap.size w w3 := B2.trans (b3.mono B2.size)
    clear ka r2 b3 B2 p0 p1
    go_wp2_with (fail)
    refine (impl_ReadChart (chText n rs) w3 (by have := HTS.out; omega) (CellAt.below hLw B3)).mono ?_
    rintro e w4 ⟨A4, c4, rfl, o4, b4⟩
    rw [HT.out.1, HT.out.2.1, HT.out.2.2]
    rw [HT.out.2.1] at o4
    have rb4 : RowsR w4 A4 rs := o4.rowsR
    have ka4 := ka3.below b4 ka3.lt
    have r4 := r3.below b4
    have B4 : Below w.heap.size w w4 := B3.trans (b4.mono B3.size)
    clear ka3 r3 b4 B3 o4 HT HTS
    obtain ⟨w5, hw5⟩ : ∃ w5, w5 = w4.alloc (.cells #[.int .i64 n, .slice A4 rs.length c4] 24) := ⟨_, rfl⟩
    obtain ⟨gk, hgk⟩ : ∃ gk, gk = w4.heap.size := ⟨_, rfl⟩
    have kk : Blk w5 gk 24 #[.int .i64 n, .slice A4 rs.length c4] := by rw [hw5, hgk]; exact Blk.new w4 _ _
    have b45 : Below w4.heap.size w4 w5 := by rw [hw5]; (repeat (first | exact Below.refl _ _ | assumption | apply Below.drew | apply below_drewN | (refine Below.alloc ?_ (by first | omega | (simp; done) | (simp; omega)) _) | (refine Below.setCell ?_ (by first | omega | (simp; done) | (simp; omega)) _)))
    have ka5 := ka4.below b45 ka4.lt
    have r5 := r4.below b45
    have rb5 := rb4.below b45
    have B5 : Below w.heap.size w w5 := B4.trans (b45.mono B4.size)
    go_upto_region 5 with fail
    rw [← hw5, ← hgk]
    clear hw5 hgk ka4 r4 rb4 b45 B4
    obtain ⟨p0, p1⟩ := ka5.c2
    obtain ⟨q0, q1⟩ := kk.c2
    go_wp2_with (fail)
    refine (impl_SameChart n n rs rs A4 A1 c4 c1 w5 rb5 (by omega) r5 (by omega)).mono ?_
    rintro e w6 ⟨rfl, b6⟩
    rw [HSS.out]
    have ka6 := ka5.below b6 ka5.lt
    have r6 := r5.below b6
    have B6 : Below w.heap.size w w6 := B5.trans (b6.mono B5.size)
    clear ka5 kk r5 rb5 b6 B5 p0 p1 q0 q1
    obtain ⟨p0, p1⟩ := ka6.c2
    go_wp2_with (fail)
    refine (impl_ColumnsAfter n rs A1 c1 w6 r6 (by omega)).mono ?_
    rintro e w7 ⟨A7, c7, rfl, o7, b7⟩
    rw [HV.out, HLC.out.1]
    have i7 : Ints w7 A7 (colsP n rs) := o7.ints
    have ka7 := ka6.below b7 ka6.lt
    have r7 := r6.below b7
    have B7 : Below w.heap.size w w7 := B6.trans (b7.mono B6.size)
    clear ka6 r6 b7 B6 p0 p1 o7
    obtain ⟨p0, p1⟩ := ka7.c2
    go_wp2_with (fail)
    refine (impl_StacksOf n rs A1 c1 w7 r7 (by omega)).mono ?_
    rintro e w8 ⟨A8, c8, rfl, o8, b8⟩
    rw [HV.out, HLC.out.2]
    have i8 : Ints2 w8 A8 (chartStacks n rs) := o8.ints2
    have i78 := i7.below b8
    have ka8 := ka7.below b8 ka7.lt
    have r8 := r7.below b8
    have B8 : Below w.heap.size w w8 := B7.trans (b8.mono B7.size)
    clear ka7 r7 b8 B7 p0 p1 o8 i7
    generalize colsP n rs = cols at *
    generalize chartStacks n rs = stk at *
    obtain ⟨p0, p1⟩ := ka8.c2
    have hne : ((rs.length : Int) != (rs.length : Int)) = false := by simp
    go_wp2_with (fail)
    clear hne
    go_loopw [12] (fun iv wr => ∃ i : Nat, i ≤ rs.length ∧ iv = .int .i64 i ∧ ∃ k, wr = w8.drewN k) (fun iv _ => rs.length - (intOf iv).toNat)
    case atStart => exact ⟨0, Nat.zero_le _, rfl, 0, rfl⟩
    case round =>
      obtain ⟨i, hi, rfl, k, rfl⟩ := hrel
      by_cases hil : i < rs.length
      · obtain ⟨b, off, x, rfl, hc, hx⟩ := i78 i (by rw [HLC.out.1]; exact hil)
        obtain ⟨b', off', A9, c9, xs, rfl, hx', hc', hix, hxl⟩ := i8 i (by rw [HLC.out.2]; exact hil)
        obtain ⟨b2, off2, A10, c10, r, rfl, hr, h0, h1, h2, hri, hrl⟩ := r8 i hil
        obtain ⟨e1, e2, e3⟩ := HAT.out i x xs r hx hx' hr
        subst e1
        have HE := Lib.hid e2; clear e2
        clear hx hx' hr h0 h1
        have hnx : ((xs.length : Int) != (xs.length : Int)) = false := by simp
        have j1 : (0 : Int) ≤ (i : Int) := by omega
        have j2 : (i : Int) < (rs.length : Int) := by omega
        go_upto_region 14 with fail
        (refine wp_region_pops 0 (S := (fun W' => W'.cell? ⟨b, off + i, none⟩ = some (.int .i64 (xs.length : Int)) ∧ W'.cell? ⟨b', off' + i, none⟩ = some (.slice A9 xs.length c9) ∧ W'.cell? ⟨ga, 1, none⟩ = some (.slice (some ⟨b2, off2, none⟩) rs.length c1) ∧ W'.cell? ⟨b2, off2 + i * 3 + 2, none⟩ = some (.slice A10 r.s.length c10))) (pre := ?_) (T := ?_) (n := ?_) (by kernel_rfl) (by kernel_rfl) ?_ ?_ ?_ ?_ (fun hHeld => ?_); rotate_left 3; (focus (simp only [pops]; rfl)); (focus (simp only [tailOf]; rfl)); (focus rfl); (focus (exact ⟨hc, hc', p1, h2⟩)))
        ((refine wpAnyH_take (i := 0) (v := ?_) rfl (by kernel_rfl) (by kernel_rfl) (by kernel_rfl) (fun _ _ _ h => h) (Or.inl ⟨by rfl, ?_⟩) (by assumption) ?_; rotate_left; (focus (intro W hSw; (try dsimp only at hSw); go_simp; try (with_reducible rfl)))); (try simp only [List.getElem_toArray, List.getElem_cons_zero, Act.put, List.setIfInBounds_toArray, List.set_cons_zero, List.set_cons_succ]); (refine wpAnyH_take (i := 1) (v := ?_) rfl (by kernel_rfl) (by kernel_rfl) (by kernel_rfl) (fun _ _ _ h => h) (Or.inl ⟨by rfl, ?_⟩) (by assumption) ?_; rotate_left; (focus (intro W hSw; (try dsimp only at hSw); go_simp; try (with_reducible rfl)))); (try simp only [List.getElem_toArray, List.getElem_cons_zero, List.getElem_cons_succ, Act.put, List.setIfInBounds_toArray, List.set_cons_zero, List.set_cons_succ]); (refine wpAnyH_take (i := 2) (v := ?_) rfl (by kernel_rfl) (by kernel_rfl) (by kernel_rfl) (fun _ _ _ h => h) (Or.inl ⟨by rfl, ?_⟩) (by assumption) ?_; rotate_left; (focus (intro W hSw; (try dsimp only at hSw); go_simp; try (with_reducible rfl)))); (try simp only [List.getElem_toArray, List.getElem_cons_zero, List.getElem_cons_succ, Act.put, List.setIfInBounds_toArray, List.set_cons_zero, List.set_cons_succ]); (refine wpAnyH_take (i := 3) (v := ?_) rfl (by kernel_rfl) (by kernel_rfl) (by kernel_rfl) (fun _ _ _ h => h) (Or.inl ⟨by rfl, ?_⟩) (by assumption) ?_; rotate_left; (focus (intro W hSw; (try dsimp only at hSw); go_simp; try (with_reducible rfl)))); (try simp only [List.getElem_toArray, List.getElem_cons_zero, List.getElem_cons_succ, Act.put, List.setIfInBounds_toArray, List.set_cons_zero, List.set_cons_succ]); (refine wpAnyH_take (i := 4) (v := ?_) rfl (by kernel_rfl) (by kernel_rfl) (by kernel_rfl) (fun _ _ _ h => h) (Or.inl ⟨by rfl, ?_⟩) (by assumption) ?_; rotate_left; (focus (intro W hSw; (try dsimp only at hSw); go_simp; try (with_reducible rfl)))); (try simp only [List.getElem_toArray, List.getElem_cons_zero, List.getElem_cons_succ, Act.put, List.setIfInBounds_toArray, List.set_cons_zero, List.set_cons_succ]); (refine wpAnyH_take (i := 5) (v := ?_) rfl (by kernel_rfl) (by kernel_rfl) (by kernel_rfl) (fun _ _ _ h => h) (Or.inl ⟨by rfl, ?_⟩) (by assumption) ?_; rotate_left; (focus (intro W hSw; (try dsimp only at hSw); go_simp; try (with_reducible rfl)))); (try simp only [List.getElem_toArray, List.getElem_cons_zero, List.getElem_cons_succ, Act.put, List.setIfInBounds_toArray, List.set_cons_zero, List.set_cons_succ]); (refine wpAnyH_take (i := 6) (v := ?_) rfl (by kernel_rfl) (by kernel_rfl) (by kernel_rfl) (fun _ _ _ h => h) (Or.inl ⟨by rfl, ?_⟩) (by assumption) ?_; rotate_left; (focus (intro W hSw; (try dsimp only at hSw); go_simp; try (with_reducible rfl)))); (try simp only [List.getElem_toArray, List.getElem_cons_zero, List.getElem_cons_succ, Act.put, List.setIfInBounds_toArray, List.set_cons_zero, List.set_cons_succ]); (refine wpAnyH_take (i := 7) (v := ?_) rfl (by kernel_rfl) (by kernel_rfl) (by kernel_rfl) (fun _ _ _ h => h) (Or.inl ⟨by rfl, ?_⟩) (by assumption) ?_; rotate_left; (focus (intro W hSw; (try dsimp only at hSw); go_simp; try (with_reducible rfl)))); (try simp only [List.getElem_toArray, List.getElem_cons_zero, List.getElem_cons_succ, Act.put, List.setIfInBounds_toArray, List.set_cons_zero, List.set_cons_succ]); (refine wpAnyH_take (i := 8) (v := ?_) rfl (by kernel_rfl) (by kernel_rfl) (by kernel_rfl) (fun _ _ _ h => h) (Or.inl ⟨by rfl, ?_⟩) (by assumption) ?_; rotate_left; (focus (intro W hSw; (try dsimp only at hSw); go_simp; try (with_reducible rfl)))); (try simp only [List.getElem_toArray, List.getElem_cons_zero, List.getElem_cons_succ, Act.put, List.setIfInBounds_toArray, List.set_cons_zero, List.set_cons_succ]); (refine wpAnyH_take (i := 9) (v := ?_) rfl (by kernel_rfl) (by kernel_rfl) (by kernel_rfl) (fun _ _ _ h => h) (Or.inl ⟨by rfl, ?_⟩) (by assumption) ?_; rotate_left; (focus (intro W hSw; (try dsimp only at hSw); go_simp; try (with_reducible rfl)))); (try simp only [List.getElem_toArray, List.getElem_cons_zero, List.getElem_cons_succ, Act.put, List.setIfInBounds_toArray, List.set_cons_zero, List.set_cons_succ]); (refine wpAnyH_take (i := 10) (v := ?_) rfl (by kernel_rfl) (by kernel_rfl) (by kernel_rfl) (fun _ _ _ h => h) (Or.inl ⟨by rfl, ?_⟩) (by assumption) ?_; rotate_left; (focus (intro W hSw; (try dsimp only at hSw); go_simp; try (with_reducible rfl)))); (try simp only [List.getElem_toArray, List.getElem_cons_zero, List.getElem_cons_succ, Act.put, List.setIfInBounds_toArray, List.set_cons_zero, List.set_cons_succ]); (refine wpAnyH_take (i := 11) (v := ?_) rfl (by kernel_rfl) (by kernel_rfl) (by kernel_rfl) (fun _ _ _ h => h) (Or.inl ⟨by rfl, ?_⟩) (by assumption) ?_; rotate_left; (focus (intro W hSw; (try dsimp only at hSw); go_simp; try (with_reducible rfl)))); (try simp only [List.getElem_toArray, List.getElem_cons_zero, List.getElem_cons_succ, Act.put, List.setIfInBounds_toArray, List.set_cons_zero, List.set_cons_succ]); (refine wpAnyH_take (i := 12) (v := ?_) rfl (by kernel_rfl) (by kernel_rfl) (by kernel_rfl) (fun _ _ _ h => h) (Or.inl ⟨by rfl, ?_⟩) (by assumption) ?_; rotate_left; (focus (intro W hSw; (try dsimp only at hSw); go_simp; try (with_reducible rfl)))); (try simp only [List.getElem_toArray, List.getElem_cons_zero, List.getElem_cons_succ, Act.put, List.setIfInBounds_toArray, List.set_cons_zero, List.set_cons_succ]); (refine wpAnyH_take (i := 13) (v := ?_) rfl (by kernel_rfl) (by kernel_rfl) (by kernel_rfl) (fun _ _ _ h => h) (Or.inl ⟨by rfl, ?_⟩) (by assumption) ?_; rotate_left; (focus (intro W hSw; (try dsimp only at hSw); go_simp; try (with_reducible rfl)))); (try simp only [List.getElem_toArray, List.getElem_cons_zero, List.getElem_cons_succ, Act.put, List.setIfInBounds_toArray, List.set_cons_zero, List.set_cons_succ]); (refine wpAnyH_take (i := 14) (v := ?_) rfl (by kernel_rfl) (by kernel_rfl) (by kernel_rfl) (fun _ _ _ h => h) (Or.inl ⟨by rfl, ?_⟩) (by assumption) ?_; rotate_left; (focus (intro W hSw; (try dsimp only at hSw); go_simp; try (with_reducible rfl)))); (try simp only [List.getElem_toArray, List.getElem_cons_zero, List.getElem_cons_succ, Act.put, List.setIfInBounds_toArray, List.set_cons_zero, List.set_cons_succ]); (refine wpAnyH_take (i := 15) (v := ?_) rfl (by kernel_rfl) (by kernel_rfl) (by kernel_rfl) (fun _ _ _ h => h) (Or.inl ⟨by rfl, ?_⟩) (by assumption) ?_; rotate_left; (focus (intro W hSw; (try dsimp only at hSw); go_simp; try (with_reducible rfl)))); (try simp only [List.getElem_toArray, List.getElem_cons_zero, List.getElem_cons_succ, Act.put, List.setIfInBounds_toArray, List.set_cons_zero, List.set_cons_succ]); (refine wpAnyH_take (i := 16) (v := ?_) rfl (by kernel_rfl) (by kernel_rfl) (by kernel_rfl) (fun _ _ _ h => h) (Or.inl ⟨by rfl, ?_⟩) (by assumption) ?_; rotate_left; (focus (intro W hSw; (try dsimp only at hSw); go_simp; try (with_reducible rfl)))); (try simp only [List.getElem_toArray, List.getElem_cons_zero, List.getElem_cons_succ, Act.put, List.setIfInBounds_toArray, List.set_cons_zero, List.set_cons_succ]); (refine wpAnyH_take (i := 17) (v := ?_) rfl (by kernel_rfl) (by kernel_rfl) (by kernel_rfl) (fun _ _ _ h => h) (Or.inl ⟨by rfl, ?_⟩) (by assumption) ?_; rotate_left; (focus (intro W hSw; (try dsimp only at hSw); go_simp; try (with_reducible rfl)))); (try simp only [List.getElem_toArray, List.getElem_cons_zero, List.getElem_cons_succ, Act.put, List.setIfInBounds_toArray, List.set_cons_zero, List.set_cons_succ]); (refine wpAnyH_take (i := 18) (v := ?_) rfl (by kernel_rfl) (by kernel_rfl) (by kernel_rfl) (fun _ _ _ h => h) (Or.inl ⟨by rfl, ?_⟩) (by assumption) ?_; rotate_left; (focus (intro W hSw; (try dsimp only at hSw); go_simp; try (with_reducible rfl)))); (try simp only [List.getElem_toArray, List.getElem_cons_zero, List.getElem_cons_succ, Act.put, List.setIfInBounds_toArray, List.set_cons_zero, List.set_cons_succ]); (refine wpAnyH_take (i := 19) (v := ?_) rfl (by kernel_rfl) (by kernel_rfl) (by kernel_rfl) (fun _ _ _ h => h) (Or.inl ⟨by rfl, ?_⟩) (by assumption) ?_; rotate_left; (focus (intro W hSw; (try dsimp only at hSw); go_simp; try (with_reducible rfl)))); (try simp only [List.getElem_toArray, List.getElem_cons_zero, List.getElem_cons_succ, Act.put, List.setIfInBounds_toArray, List.set_cons_zero, List.set_cons_succ]); (refine wpAnyH_take (i := 20) (v := ?_) rfl (by kernel_rfl) (by kernel_rfl) (by kernel_rfl) (fun _ _ _ h => h) (Or.inl ⟨by rfl, ?_⟩) (by assumption) ?_; rotate_left; (focus (intro W hSw; (try dsimp only at hSw); go_simp; try (with_reducible rfl)))); (try simp only [List.getElem_toArray, List.getElem_cons_zero, List.getElem_cons_succ, Act.put, List.setIfInBounds_toArray, List.set_cons_zero, List.set_cons_succ]))
        (refine wpAnyH_ready (rs := [21]) (by kernel_rfl) (by simp) ?_; refine AllReadyH.cons rfl (fun K hK => ?_) AllReadyH.nil)
        go_simp
        refine (impl_MadeBy A10 c10 r.s (w8.drewN (k + 1)) hri (by omega)).mono ?_; rintro e _ ⟨rfl, rfl⟩
        rw [HE.out]
        refine hK.out _ _ ⟨hc, hc', p1, h2⟩ (fun hHeld => ?_)
        clear hK K
        (try simp only [List.getElem_toArray, List.getElem_cons_zero, List.getElem_cons_succ, Act.put, List.setIfInBounds_toArray, List.set_cons_zero, List.set_cons_succ])
        ((refine wpAnyH_take (i := 22) (v := ?_) rfl (by kernel_rfl) (by kernel_rfl) (by kernel_rfl) (fun _ _ _ h => h) (Or.inl ⟨by rfl, ?_⟩) (by assumption) ?_; rotate_left; (focus (intro W hSw; (try dsimp only at hSw); go_simp; try (with_reducible rfl)))); (try simp only [List.getElem_toArray, List.getElem_cons_zero, List.getElem_cons_succ, Act.put, List.setIfInBounds_toArray, List.set_cons_zero, List.set_cons_succ]); (refine wpAnyH_take (i := 23) (v := ?_) rfl (by kernel_rfl) (by kernel_rfl) (by kernel_rfl) (fun _ _ _ h => h) (Or.inl ⟨by rfl, ?_⟩) (by assumption) ?_; rotate_left; (focus (intro W hSw; (try dsimp only at hSw); go_simp; try (with_reducible rfl)))); (try simp only [List.getElem_toArray, List.getElem_cons_zero, List.getElem_cons_succ, Act.put, List.setIfInBounds_toArray, List.set_cons_zero, List.set_cons_succ]))
        (refine wpAnyH_done (by kernel_rfl) ?_ _; change wpList _ _ _ _ _ _)
        clear hHeld
        go_wp2_with (fail)
        go_roundw
        case rel => exact ⟨i + 1, by omega, by go_num, (by first | exact drew2 _ _ _ | exact ⟨_, rfl⟩)⟩
        case measure => simp [intOf]; omega
      · go_wp2_with (fail)
        have B9 : Below w.heap.size w (w8.drewN k) := below_drewN B8 _
        have bd : Below w8.heap.size w8 (w8.drewN k) := below_drewN (Below.refl _ _) _
        refine (spec_A2Chart B d ds (w8.drewN k) (hm.of_cells (cells_below B9)) (by omega)).mono ?_
        rintro e w10 ⟨n2, ss, A11, c11, rfl, hch2, hl42, o11, b10⟩
        have b810 : Below w8.heap.size w8 w10 := bd.trans b10
        have ka10 := ka8.below b810 ka8.lt
        have r10 := r8.below b810
        have i10 := i78.below b810
        have rs10 : RowsR w10 A11 ss := o11.rowsR
        have B10 : Below w.heap.size w w10 := B8.trans (b810.mono B8.size)
        have HSC := Lib.hid (HSK.out n2 ss hch2)
        have hs1 : 1 ≤ ss.length := (chartB_of hch2).2.1.1
        have hss2 : sameChartB n2 n2 ss ss = true := by simp [sameChartB]
        have HSS2 := Lib.hid hss2; clear hss2
        clear hch2 o11 b810 bd b10 B9 i8 p0 p1 ka8 r8 i78 B8 HSK HAT hil hi
        obtain ⟨w11, hw11⟩ : ∃ w11, w11 = w10.alloc (.cells #[.int .i64 n2, .slice A11 ss.length c11] 24) := ⟨_, rfl⟩
        obtain ⟨gb, hgb⟩ : ∃ gb, gb = w10.heap.size := ⟨_, rfl⟩
        have kb11 : Blk w11 gb 24 #[.int .i64 n2, .slice A11 ss.length c11] := by rw [hw11, hgb]; exact Blk.new w10 _ _
        have b1011 : Below w10.heap.size w10 w11 := by rw [hw11]; (repeat (first | exact Below.refl _ _ | assumption | apply Below.drew | apply below_drewN | (refine Below.alloc ?_ (by first | omega | (simp; done) | (simp; omega)) _) | (refine Below.setCell ?_ (by first | omega | (simp; done) | (simp; omega)) _)))
        have ka11 := ka10.below b1011 ka10.lt
        have r11 := r10.below b1011
        have i11 := i10.below b1011
        have rs11 := rs10.below b1011
        have B11 : Below w.heap.size w w11 := B10.trans (b1011.mono B10.size)
        go_upto_region 17 with fail
        rw [← hw11, ← hgb]
        clear hw11 hgb ka10 r10 i10 rs10 B10 b1011
        obtain ⟨p0, p1⟩ := ka11.c2
        obtain ⟨q0, q1⟩ := kb11.c2
        go_wp2_with (fail)
        refine (impl_StackCharts n n2 rs ss A1 A11 c1 c11 w11 r11 (by omega) rs11 (by omega)).mono ?_
        rintro e w12 ⟨A12, c12, rfl, o12, b12⟩
        have ka12 := ka11.below b12 ka11.lt
        have kb12 := kb11.below b12 kb11.lt
        have r12 := r11.below b12
        have i12 := i11.below b12
        have rs12 := rs11.below b12
        have B12 : Below w.heap.size w w12 := B11.trans (b12.mono B11.size)
        clear ka11 kb11 r11 i11 rs11 B11 b12 p0 p1 q0 q1
        rcases HSC.out with ⟨e0, eX, hcx⟩ | e5 | ⟨e10, k1, x1, hk1, hx1, hxn⟩
        · rw [e0, eX]
          rw [eX] at o12
          have o13 : OwnRows w12 w11.heap.size w12.heap.size A12 (rs ++ ss).length c12 (rs ++ ss) := o12
          obtain ⟨g, rfl, hcap, hmax⟩ := o13.form (by rw [List.length_append]; omega)
          have rx12 : RowsR w12 (some ⟨g, 0, none⟩) (rs ++ ss) := o13.rowsR
          have rh12 := rx12.head
          have rt12 := rx12.tail
          have HXL : Hid ((rs ++ ss).length = rs.length + ss.length) := Lib.hid (by simp)
          have HVX := Lib.hid hcx
          clear o12 o13 e0 eX HSC hcx hmax
          generalize rs ++ ss = X at *
          obtain ⟨w13, hw13⟩ : ∃ w13, w13 = w12.alloc (.cells #[.int .i64 n, .slice (some ⟨g, 0, none⟩) X.length c12] 24) := ⟨_, rfl⟩
          obtain ⟨gx, hgx⟩ : ∃ gx, gx = w12.heap.size := ⟨_, rfl⟩
          have kx13 : Blk w13 gx 24 #[.int .i64 n, .slice (some ⟨g, 0, none⟩) X.length c12] := by rw [hw13, hgx]; exact Blk.new w12 _ _
          have b1213 : Below w12.heap.size w12 w13 := by rw [hw13]; (repeat (first | exact Below.refl _ _ | assumption | apply Below.drew | apply below_drewN | (refine Below.alloc ?_ (by first | omega | (simp; done) | (simp; omega)) _) | (refine Below.setCell ?_ (by first | omega | (simp; done) | (simp; omega)) _)))
          have ka13 := ka12.below b1213 ka12.lt
          have kb13 := kb12.below b1213 kb12.lt
          have r13 := r12.below b1213
          have rs13 := rs12.below b1213
          have rx13 := rx12.below b1213
          have rh13 := rh12.below b1213
          have rt13 := rt12.below b1213
          have B13 : Below w.heap.size w w13 := B12.trans (b1213.mono B12.size)
          go_upto_region 18 with fail
          rw [← hw13, ← hgx]
          clear hw13 hgx b1213 ka12 kb12 r12 rs12 rx12 rh12 rt12 B12 i12
          obtain ⟨p0, p1⟩ := ka13.c2
          obtain ⟨q0, q1⟩ := kb13.c2
          obtain ⟨s0, s1⟩ := kx13.c2
          have hne : ((X.length : Int) != (rs.length : Int) + (ss.length : Int)) = false := by rw [HXL.out]; simp
          have hws : IntKind.i64.wrap ((rs.length : Int) + (ss.length : Int)) = (rs.length : Int) + (ss.length : Int) := IntWalk.i64_in _ ⟨by omega, by omega⟩
          go_upto_region 22 with fail
          clear hne hws
          have u1 : (rs.length : Int) ≤ (c12 : Int) := by have := HXL.out; omega
          have u2 : (0 : Int) ≤ (rs.length : Int) := by omega
          obtain ⟨pa0, pa1⟩ := (Blk.alloc ka13 (.cells #[.int .i64 0, .slice none 0 0] 24)).c2
          obtain ⟨sa0, sa1⟩ := (Blk.alloc kx13 (.cells #[.int .i64 0, .slice none 0 0] 24)).c2
          go_region
          obtain ⟨w14, hw14⟩ : ∃ w14, w14 = (w13.alloc (.cells #[.int .i64 n, .slice (some ⟨g, 0, none⟩) rs.length c12] 24)).drew := ⟨_, rfl⟩
          obtain ⟨gh, hgh⟩ : ∃ gh, gh = w13.heap.size := ⟨_, rfl⟩
          have kh14 : Blk w14 gh 24 #[.int .i64 n, .slice (some ⟨g, 0, none⟩) rs.length c12] := by rw [hw14, hgh]; exact Blk.new w13 _ _
          have b1314 : Below w13.heap.size w13 w14 := by rw [hw14]; (repeat (first | exact Below.refl _ _ | assumption | apply Below.drew | apply below_drewN | (refine Below.alloc ?_ (by first | omega | (simp; done) | (simp; omega)) _) | (refine Below.setCell ?_ (by first | omega | (simp; done) | (simp; omega)) _)))
          rw [← hw14, ← hgh]
          have ka14 := ka13.below b1314 ka13.lt
          have kb14 := kb13.below b1314 kb13.lt
          have kx14 := kx13.below b1314 kx13.lt
          have r14 := r13.below b1314
          have rs14 := rs13.below b1314
          have rx14 := rx13.below b1314
          have rh14 := rh13.below b1314
          have rt14 := rt13.below b1314
          have B14 : Below w.heap.size w w14 := B13.trans (b1314.mono B13.size)
          clear hw14 hgh b1314 ka13 kb13 kx13 r13 rs13 rx13 rh13 rt13 B13 p0 p1 q0 q1 s0 s1 pa0 pa1 sa0 sa1 u1
          go_upto_region 23 with fail
          obtain ⟨p0, p1⟩ := ka14.c2
          obtain ⟨q0, q1⟩ := kb14.c2
          obtain ⟨s0, s1⟩ := kx14.c2
          obtain ⟨pa0, pa1⟩ := (Blk.alloc ka14 (.cells #[.int .i64 0, .slice none 0 0] 24)).c2
          obtain ⟨qa0, qa1⟩ := (Blk.alloc kb14 (.cells #[.int .i64 0, .slice none 0 0] 24)).c2
          obtain ⟨sa0, sa1⟩ := (Blk.alloc kx14 (.cells #[.int .i64 0, .slice none 0 0] 24)).c2
          have u3 : (rs.length : Int) ≤ (X.length : Int) := by have := HXL.out; omega
          have u4 : (X.length : Int) ≤ (c12 : Int) := by omega
          have u5 : ((X.length : Int) - (rs.length : Int)).toNat = ss.length := by have := HXL.out; omega
          have u6 : X.length - rs.length = ss.length := by have := HXL.out; omega
          have u7 : ¬ c12 - rs.length = 0 := by have := HXL.out; omega
          go_region
          obtain ⟨w15, hw15⟩ : ∃ w15, w15 = (w14.alloc (.cells #[.int .i64 n2, .slice (some ⟨g, rs.length * 3, none⟩) ss.length (c12 - rs.length)] 24)).drew := ⟨_, rfl⟩
          obtain ⟨gt, hgt⟩ : ∃ gt, gt = w14.heap.size := ⟨_, rfl⟩
          have kt15 : Blk w15 gt 24 #[.int .i64 n2, .slice (some ⟨g, rs.length * 3, none⟩) ss.length (c12 - rs.length)] := by rw [hw15, hgt]; exact Blk.new w14 _ _
          have b1415 : Below w14.heap.size w14 w15 := by rw [hw15]; (repeat (first | exact Below.refl _ _ | assumption | apply Below.drew | apply below_drewN | (refine Below.alloc ?_ (by first | omega | (simp; done) | (simp; omega)) _) | (refine Below.setCell ?_ (by first | omega | (simp; done) | (simp; omega)) _)))
          rw [← hw15, ← hgt]
          have ka15 := ka14.below b1415 ka14.lt
          have kb15 := kb14.below b1415 kb14.lt
          have kx15 := kx14.below b1415 kx14.lt
          have kh15 := kh14.below b1415 kh14.lt
          have r15 := r14.below b1415
          have rs15 := rs14.below b1415
          have rx15 := rx14.below b1415
          have rh15 := rh14.below b1415
          have rt15 := rt14.below b1415
          have B15 : Below w.heap.size w w15 := B14.trans (b1415.mono B14.size)
          clear hw15 hgt b1415 ka14 kb14 kx14 kh14 r14 rs14 rx14 rh14 rt14 B14 p0 p1 q0 q1 s0 s1 pa0 pa1 qa0 qa1 sa0 sa1 u2 u3 u4 u5 u6 u7
          obtain ⟨p0, p1⟩ := ka15.c2
          obtain ⟨s0, s1⟩ := kh15.c2
          go_wp2_with (fail)
          refine (impl_SameChart n n rs rs (some ⟨g, 0, none⟩) A1 c12 c1 w15 rh15 (by omega) r15 (by omega)).mono ?_
          rintro e w16 ⟨rfl, b16⟩
          rw [HSS.out]
          have kb16 := kb15.below b16 kb15.lt
          have kx16 := kx15.below b16 kx15.lt
          have kt16 := kt15.below b16 kt15.lt
          have rs16 := rs15.below b16
          have rx16 := rx15.below b16
          have rt16 := rt15.below b16
          have B16 : Below w.heap.size w w16 := B15.trans (b16.mono B15.size)
          clear b16 ka15 kb15 kx15 kh15 kt15 r15 rs15 rx15 rh15 rt15 B15 p0 p1 s0 s1
          obtain ⟨q0, q1⟩ := kb16.c2
          obtain ⟨s0, s1⟩ := kt16.c2
          go_wp2_with (fail)
          refine (impl_SameChart n2 n2 ss ss (some ⟨g, rs.length * 3, none⟩) A11 (c12 - rs.length) c11 w16 rt16 (by omega) rs16 (by omega)).mono ?_
          rintro e w17 ⟨rfl, b17⟩
          rw [HSS2.out]
          have kx17 := kx16.below b17 kx16.lt
          have rx17 := rx16.below b17
          have B17 : Below w.heap.size w w17 := B16.trans (b17.mono B16.size)
          clear b17 kb16 kx16 kt16 rs16 rx16 rt16 B16 q0 q1 s0 s1
          obtain ⟨s0, s1⟩ := kx17.c2
          go_wp2_with (fail)
          refine (impl_ValidChart n X (some ⟨g, 0, none⟩) c12 w17 rx17 (by have := HXL.out; omega)).mono ?_
          rintro e w18 ⟨rfl, b18⟩
          rw [HVX.out]
          have B18 : Below w.heap.size w w18 := B17.trans (b18.mono B17.size)
          clear b18 kx17 rx17 B17 s0 s1
          go_wp2_with (fail)
          go_ret
          exact ⟨rfl, B18⟩
        · rw [e5]
          clear e5 HSC o12
          generalize stackX n rs n2 ss = X at *
          go_wp2_with (fail)
          go_quiet (fail)
          go_wp2_with (fail)
          go_ret
          exact ⟨rfl, below_drewN (Below.alloc B12 B12.size _) _⟩
        · rw [e10]
          clear e10 HSC o12
          generalize stackX n rs n2 ss = X at *
          obtain ⟨b, off, x, rfl, hc, hx⟩ := i12 k1 (by rw [HLC.out.1, hk1]; omega)
          have hxx : x = x1 := by rw [hx1] at hx; injection hx with hx; exact hx.symm
          subst hxx
          clear hx hx1
          have hnx : (x != n2) = true := by simpa using hxn
          have HK := Lib.hid hk1; clear hk1
          have j0 : (rs.length : Int) - 1 = (k1 : Int) := by have := HK.out; omega
          have jw : IntKind.i64.wrap ((rs.length : Int) - 1) = (k1 : Int) := by rw [j0]; exact IntWalk.i64_in _ ⟨by omega, by have := HK.out; omega⟩
          have j1 : (0 : Int) ≤ (k1 : Int) := by omega
          have j2 : (k1 : Int) < (rs.length : Int) := by have := HK.out; omega
          clear hxn
          obtain ⟨w13, hw13⟩ : ∃ w13, w13 = w12.alloc (.cells #[.int .i64 X.n, .slice A12 X.xs.length c12] 24) := ⟨_, rfl⟩
          have b1213 : Below w12.heap.size w12 w13 := by rw [hw13]; (repeat (first | exact Below.refl _ _ | assumption | apply Below.drew | apply below_drewN | (refine Below.alloc ?_ (by first | omega | (simp; done) | (simp; omega)) _) | (refine Below.setCell ?_ (by first | omega | (simp; done) | (simp; omega)) _)))
          have hc13 := cells_below b1213 _ _ hc
          have kb13 := kb12.below b1213 kb12.lt
          have B13 : Below w.heap.size w w13 := B12.trans (b1213.mono B12.size)
          go_upto_region 18 with fail
          rw [← hw13]
          clear hw13 b1213 hc kb12 ka12 B12
          obtain ⟨q0, q1⟩ := kb13.c2
          go_wp2_with (fail)
          go_quiet (fail)
          go_wp2_with (fail)
          go_ret
          exact ⟨rfl, below_drewN B13 _⟩
  · go_enter Tryz.func4, Tryz.ntmps4
    go_wp2_with (fail)
    refine (laws_a2Long A B bs.length c ds.length d w).mono ?_; rintro e _ ⟨rfl, rfl⟩
    rw [hlong]
    go_wp2_with (fail)
    go_ret
    exact ⟨rfl, Below.refl _ _⟩

end Go.Proofs.YtnjgmhdmjaijgaaGreatDoor
