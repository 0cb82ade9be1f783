/- The law FnRowText walked. -/
import Derived.Test.YtcgbogofmdjddaaDoorZ21
import Derived.Test.YtcgbogofmdjddaaDoorZ15
import Derived.Test.YtcgbogofmdjddaaDoorZ20
import Derived.Test.YtcgbogofmdjddaaDoorZ8
namespace Go.Proofs.YtcgbogofmdjddaaDoor
open Go Go.RowKit

set_option maxHeartbeats 4000000 in
set_option maxRecDepth 10000 in
theorem law_FnRowText (bs : List Int) (A : Option Addr) (c : Nat) (ms : List Int) (B : Option Addr) (d : Nat) (w : World) (h : Bytes w A bs) (_l : bs.length ≤ 9223372036854775807) (hm : Bytes w B ms) (_lm : ms.length ≤ 9223372036854775807) :
    Calls Tryd.prog 6 #[.slice A bs.length c, .slice B ms.length d] w fun e w' => e = .returned (.bool true) ∧ Below w.heap.size w w' := by
  cases hlong : (decide (3000 < bs.length) || decide (3000 < ms.length))
  · rw [Bool.or_eq_false_iff] at hlong
    have hl1 := of_decide_eq_false hlong.1
    have hl2 := of_decide_eq_false hlong.2
    go_enter Tryd.func6, Tryd.ntmps6
    go_wp2_with (fail)
    refine (laws_a2Long A B bs.length c ms.length d w).mono ?_; rintro e _ ⟨rfl, rfl⟩
    rw [hlong.1, hlong.2]
    clear hlong
    go_wp2_with (fail)
    refine (spec_A2Pieces A c bs w h (by omega)).mono ?_
    rintro e w1 ⟨A1, c1, ps, rfl, o1, hps, b1⟩
    obtain ⟨h24, _, hg⟩ := piecesB_good hps
    have hpt : piecesT ps = txtP ps := by rw [piecesT, if_pos hps]
    obtain ⟨r1, r2⟩ := read_txt hps
    have hts : (txtP ps).size ≤ 1000000000 := by have := (txt_small hg).1; omega
    have hps1 : ps.length ≤ 9223372036854775807 := by omega
    have HERC : Hid (∀ cols, erRes (txtP ps) cols = exRes ps cols ∧ erCode (txtP ps) cols = exCode ps cols) := Lib.hid (fun cols => by
      rw [erRes, erCode, r2, if_pos rfl, if_pos rfl, r1]
      exact ⟨rfl, rfl⟩)
    have HNEED : Hid (needP ps = (sumP false ps 0, sumP false (openPart ps) 0, true)) := Lib.hid (by rw [needP, if_pos hps])
    have HRT := Lib.hid (rt_codes hps)
    have HSS := Lib.hid (sums_small hps false)
    have HR1 := Lib.hid r1; clear r1
    have HR2 := Lib.hid r2; clear r2
    have HPT := Lib.hid hpt; clear hpt
    have HTS := Lib.hid hts; clear hts
    clear hg hps
    generalize txtP ps = T at *
    go_wp2_with (fail)
    refine (impl_PiecesText ps A1 c1 w1 o1.pieces hps1 o1.cap o1.capmax).mono ?_; rintro e w2 ⟨rfl, b2⟩
    rw [HPT.out]
    have o2 := OwnC.below o1 b2 (Nat.le_refl _)
    have B2 : Below w.heap.size w w2 := Below.trans b1 (b2.mono b1.size)
    have HZ2 := Lib.hid b2.size
    clear b1 b2 o1
    go_wp2_with (fail)
    refine (impl_ReadPiecesX T w2 HTS.out).mono ?_; rintro e w3 ⟨A3, c3, rfl, o3, b3⟩
    rw [HR2.out]
    rw [HR1.out] at o3 ⊢
    have o23 := OwnC.below o2 b3 HZ2.out
    have B3 : Below w.heap.size w w3 := B2.trans (b3.mono B2.size)
    have HZ3 := Lib.hid (Nat.le_trans HZ2.out b3.size)
    have e0 : ((ps.length : Int) == (ps.length : Int)) = true := by simp
    clear b3 B2 o2 HR1 HR2 HPT HZ2
    have p3 : Pieces w3 A3 ps := o3.pieces
    have p23 : Pieces w3 A1 ps := o23.pieces
    go_upto_region 8 with fail
    go_wp2_with (fail)
    go_loopw [9] (fun iv wr => ∃ (i : Nat), i ≤ ps.length ∧ iv = .int .i64 (i : Int) ∧ Drawn w3 wr) (fun iv _ => ps.length - (intOf iv).toNat)
    case atStart => exact ⟨0, Nat.zero_le _, rfl, Drawn.refl _⟩
    case round =>
      obtain ⟨i, hi, rfl, n0, rfl⟩ := hrel
      by_cases hil : i < ps.length
      · have di : decide ((i : Int) < (ps.length : Int)) = true := decide_eq_true (by omega)
        obtain ⟨b, off, p, rfl, hx, q0, q1, q2⟩ := p3.drewN n0 i hil
        obtain ⟨b', off', p', rfl, hx', q0', q1', q2'⟩ := p23.drewN n0 i hil
        rw [hx] at hx'
        injection hx' with hx'
        subst hx'
        have HX := Lib.hid hx; clear hx
        have k1 : (0 : Int) ≤ (i : Int) := by omega
        have k2 : (i : Int) < (ps.length : Int) := by omega
        go_wp2_with (fail)
        (refine wp_region_pops 0 (S := (fun W' => (W'.cell? ⟨b, off + i * 3, none⟩ = some (.int .i64 p.kind) ∧ W'.cell? ⟨b, off + i * 3 + 1, none⟩ = some (.int .i64 p.times) ∧ W'.cell? ⟨b, off + i * 3 + 2, none⟩ = some (.int .i64 p.len)) ∧ (W'.cell? ⟨b', off' + i * 3, none⟩ = some (.int .i64 p.kind) ∧ W'.cell? ⟨b', off' + i * 3 + 1, none⟩ = some (.int .i64 p.times) ∧ W'.cell? ⟨b', off' + i * 3 + 2, none⟩ = some (.int .i64 p.len)))) (pre := ?_) (T := ?_) (n := ?_) (by kernel_rfl) (by kernel_rfl) ?_ ?_ ?_ ?_ (fun hHeld => ?_); rotate_left 3; (focus (simp only [pops]; rfl)); (focus (simp only [tailOf]; rfl)); (focus rfl); (focus (exact ⟨⟨q0, q1, q2⟩, q0', q1', q2'⟩)))
        ((refine wpAnyH_take (i := 0) (v := ?_) rfl (by kernel_rfl) (by kernel_rfl) (by kernel_rfl) (fun _ _ _ h => h) (Or.inl ⟨by rfl, ?_⟩) (by assumption) ?_; rotate_left; (focus (intro W hSw; (try dsimp only at hSw); go_simp; try (with_reducible rfl)))); (try simp only [List.getElem_toArray, List.getElem_cons_zero, Act.put, List.setIfInBounds_toArray, List.set_cons_zero, List.set_cons_succ]); (refine wpAnyH_take (i := 1) (v := ?_) rfl (by kernel_rfl) (by kernel_rfl) (by kernel_rfl) (fun _ _ _ h => h) (Or.inl ⟨by rfl, ?_⟩) (by assumption) ?_; rotate_left; (focus (intro W hSw; (try dsimp only at hSw); go_simp; try (with_reducible rfl)))); (try simp only [List.getElem_toArray, List.getElem_cons_zero, List.getElem_cons_succ, Act.put, List.setIfInBounds_toArray, List.set_cons_zero, List.set_cons_succ]); (refine wpAnyH_take (i := 2) (v := ?_) rfl (by kernel_rfl) (by kernel_rfl) (by kernel_rfl) (fun _ _ _ h => h) (Or.inl ⟨by rfl, ?_⟩) (by assumption) ?_; rotate_left; (focus (intro W hSw; (try dsimp only at hSw); go_simp; try (with_reducible rfl)))); (try simp only [List.getElem_toArray, List.getElem_cons_zero, List.getElem_cons_succ, Act.put, List.setIfInBounds_toArray, List.set_cons_zero, List.set_cons_succ]); (refine wpAnyH_take (i := 3) (v := ?_) rfl (by kernel_rfl) (by kernel_rfl) (by kernel_rfl) (fun _ _ _ h => h) (Or.inl ⟨by rfl, ?_⟩) (by assumption) ?_; rotate_left; (focus (intro W hSw; (try dsimp only at hSw); go_simp; try (with_reducible rfl)))); (try simp only [List.getElem_toArray, List.getElem_cons_zero, List.getElem_cons_succ, Act.put, List.setIfInBounds_toArray, List.set_cons_zero, List.set_cons_succ]); (refine wpAnyH_take (i := 4) (v := ?_) rfl (by kernel_rfl) (by kernel_rfl) (by kernel_rfl) (fun _ _ _ h => h) (Or.inl ⟨by rfl, ?_⟩) (by assumption) ?_; rotate_left; (focus (intro W hSw; (try dsimp only at hSw); go_simp; try (with_reducible rfl)))); (try simp only [List.getElem_toArray, List.getElem_cons_zero, List.getElem_cons_succ, Act.put, List.setIfInBounds_toArray, List.set_cons_zero, List.set_cons_succ]); (refine wpAnyH_take (i := 5) (v := ?_) rfl (by kernel_rfl) (by kernel_rfl) (by kernel_rfl) (fun _ _ _ h => h) (Or.inl ⟨by rfl, ?_⟩) (by assumption) ?_; rotate_left; (focus (intro W hSw; (try dsimp only at hSw); go_simp; try (with_reducible rfl)))); (try simp only [List.getElem_toArray, List.getElem_cons_zero, List.getElem_cons_succ, Act.put, List.setIfInBounds_toArray, List.set_cons_zero, List.set_cons_succ]); (refine wpAnyH_take (i := 6) (v := ?_) rfl (by kernel_rfl) (by kernel_rfl) (by kernel_rfl) (fun _ _ _ h => h) (Or.inl ⟨by rfl, ?_⟩) (by assumption) ?_; rotate_left; (focus (intro W hSw; (try dsimp only at hSw); go_simp; try (with_reducible rfl)))); (try simp only [List.getElem_toArray, List.getElem_cons_zero, List.getElem_cons_succ, Act.put, List.setIfInBounds_toArray, List.set_cons_zero, List.set_cons_succ]); (refine wpAnyH_take (i := 7) (v := ?_) rfl (by kernel_rfl) (by kernel_rfl) (by kernel_rfl) (fun _ _ _ h => h) (Or.inl ⟨by rfl, ?_⟩) (by assumption) ?_; rotate_left; (focus (intro W hSw; (try dsimp only at hSw); go_simp; try (with_reducible rfl)))); (try simp only [List.getElem_toArray, List.getElem_cons_zero, List.getElem_cons_succ, Act.put, List.setIfInBounds_toArray, List.set_cons_zero, List.set_cons_succ]); (refine wpAnyH_take (i := 8) (v := ?_) rfl (by kernel_rfl) (by kernel_rfl) (by kernel_rfl) (fun _ _ _ h => h) (Or.inl ⟨by rfl, ?_⟩) (by assumption) ?_; rotate_left; (focus (intro W hSw; (try dsimp only at hSw); go_simp; try (with_reducible rfl)))); (try simp only [List.getElem_toArray, List.getElem_cons_zero, List.getElem_cons_succ, Act.put, List.setIfInBounds_toArray, List.set_cons_zero, List.set_cons_succ]))
        (refine wpAnyH_done (by kernel_rfl) ?_ _; change wpList _ _ _ _ _ _)
        clear hHeld
        go_wp2_with (fail)
        go_roundw
        case rel => exact ⟨i + 1, by omega, by go_num, ⟨n0 + 1, by simp [World.drewN]⟩⟩
        case measure => simp [intOf]; omega
      · have di : decide ((i : Int) < (ps.length : Int)) = false := decide_eq_false (by omega)
        have oW := OwnC.drewN o23 n0
        have BW : Below w.heap.size w (w3.drewN n0) := below_drewN B3 n0
        have zW : w1.heap.size ≤ (w3.drewN n0).heap.size := HZ3.out
        have HCAP := Lib.hid oW.cap
        have HCAPM := Lib.hid oW.capmax
        generalize w3.drewN n0 = W at oW BW zW ⊢
        clear o3 o23 p3 p23 B3 HZ3 e0
        obtain ⟨⟨s0, s1⟩, s2, s3⟩ := HSS.out
        go_wp2_with (fail)
        refine (impl_NeedOf ps A1 c1 W oW.pieces hps1 HCAP.out HCAPM.out).mono ?_; rintro e w4 ⟨rfl, b4⟩
        rw [HNEED.out]
        have p4 : Pieces w4 A1 ps := oW.pieces.below b4
        have B4 : Below w.heap.size w w4 := BW.trans (b4.mono BW.size)
        have hm4 : Bytes w4 B ms := hm.of_cells (cells_below B4)
        clear oW BW b4 zW
        go_wp2_with (fail)
        refine (laws_a2At ms B d 0 8 w4 hm4 (by omega) (by omega)).mono ?_; rintro e _ ⟨x0, rfl, x1, x2, rfl⟩
        have wx : IntKind.i64.wrap (1 + x0) = 1 + x0 := IntWalk.i64_in _ ⟨by omega, by omega⟩
        go_wp2_with (fail)
        refine (laws_a2At ms B d 1 3 w4 hm4 (by omega) (by omega)).mono ?_; rintro e _ ⟨y0, rfl, y1, y2, rfl⟩
        clear hm4
        cases hy : (y0 == 0)
        · obtain ⟨cols, hcols⟩ : ∃ cols, cols = 1 + x0 := ⟨_, rfl⟩
          have hcb : 0 ≤ cols ∧ cols ≤ 60000008 := by omega
          go_upto_region 17 with fail
          rw [← hcols]
          clear hcols wx hy y1 y2 x1 x2
          have KB1 : cols ≤ 60000008 := hcb.2
          have KB0 : 0 ≤ cols := hcb.1
          rcases (show (exCode ps cols = 0 ∧ _) ∨ (exCode ps cols = 10 ∧ _) ∨ (exCode ps cols = 2 ∧ _) ∨ (exCode ps cols = 5 ∧ True) from (HRT.out cols).imp id (Or.imp id (Or.imp id fun h => ⟨h, trivial⟩))) with ⟨k0, k⟩ | ⟨k0, k⟩ | ⟨k0, k⟩ | ⟨k0, k⟩
          all_goals
            have K0 := Lib.hid k0; have KK := Lib.hid k; clear k0 k
            go_wp2_with (fail)
            refine (impl_ExpandPieces ps cols A1 c1 w4 p4 hps1 HCAP.out HCAPM.out).mono ?_; rintro e w5 ⟨A5, c5, rfl, o5, b5⟩
            rw [K0.out]
            have B5 : Below w.heap.size w w5 := B4.trans (b5.mono B4.size)
            clear B4 b5 p4
            go_wp2_with (fail)
            refine (impl_ExpandRow T cols w5 HTS.out).mono ?_; rintro e w6 ⟨A6, c6, rfl, o6, b6⟩
            rw [(HERC.out cols).2, K0.out]
            rw [(HERC.out cols).1] at o6 ⊢
            have o56 := OwnC.below o5 b6 (Nat.le_refl _)
            have B6 : Below w.heap.size w w6 := B5.trans (b6.mono B5.size)
            have hxl : (exRes ps cols).length ≤ 9223372036854775807 := OwnC.maxc o6
            have i5 := OwnC.ints o56
            have i6 := OwnC.ints o6
            clear o5 o6 o56 B5 b6
            generalize hxs : exRes ps cols = xs at *
            clear hxs
            go_wp2_with (fail)
            refine (laws_a2Same A5 A6 c5 c6 xs xs w6 i5 i6 hxl hxl).mono ?_; rintro e w7 ⟨rfl, q, rfl⟩
            rw [decide_eq_true rfl]
          · obtain ⟨k1, k2⟩ := KK.out
            have e9 : (cols == cols) = true := by simp
            have K2 := Lib.hid k2; clear k2
            go_wp2_with (fail)
            refine (impl_TakenBy xs A5 c5 _ (i5.drewN q) k1).mono ?_; rintro e _ ⟨rfl, rfl⟩
            rw [K2.out]
            go_wp2_with (fail)
            go_ret
            exact ⟨rfl, below_drewN B6 q⟩
          · obtain ⟨k1, k2⟩ := KK.out
            generalize sumP false ps 0 = a at *
            generalize sumP false (openPart ps) 0 = b at *
            have e1 : (a != cols) = true := by simpa using k1
            have ws : IntKind.i64.wrap (cols - a) = cols - a := IntWalk.i64_in _ ⟨by omega, by omega⟩
            rcases k2 with k2 | k2 | ⟨k2, k3, k4⟩
            · have e2 : (b == 0) = true := by rw [k2]; rfl
              go_wp2_with (fail)
              go_ret
              exact ⟨rfl, below_drewN B6 q⟩
            · have e3 : decide (cols < a) = true := decide_eq_true k2
              cases e2 : (b == 0)
              · go_wp2_with (fail)
                go_ret
                exact ⟨rfl, below_drewN B6 q⟩
              · go_wp2_with (fail)
                go_ret
                exact ⟨rfl, below_drewN B6 q⟩
            · have e2 : (b == 0) = false := by rw [beq_eq_false_iff_ne]; exact k2
              have e3 : decide (cols < a) = false := decide_eq_false (by omega)
              have e4 : ((cols - a).tmod b != 0) = true := by simpa using k4
              have e5 : ((cols - a) % b != 0) = true := by rw [← Int.tmod_eq_emod_of_nonneg (show 0 ≤ cols - a by omega)]; exact e4
              go_wp2_with (fail)
              go_ret
              exact ⟨rfl, below_drewN B6 q⟩
          · have k1 := KK.out
            by_cases h1 : cols < 1
            · have e1 : decide (cols < 1) = true := decide_eq_true h1
              go_wp2_with (fail)
              go_ret
              exact ⟨rfl, below_drewN B6 q⟩
            · have e1 : decide (cols < 1) = false := decide_eq_false h1
              have e2 : decide (cols > 8) = true := decide_eq_true (by omega)
              go_wp2_with (fail)
              go_ret
              exact ⟨rfl, below_drewN B6 q⟩
          · go_wp2_with (fail)
            go_ret
            exact ⟨rfl, below_drewN B6 q⟩
        · have wab : IntKind.i64.wrap (sumP false ps 0 + sumP false (openPart ps) 0) = sumP false ps 0 + sumP false (openPart ps) 0 := IntWalk.i64_in _ ⟨by omega, by omega⟩
          obtain ⟨cols, hcols⟩ : ∃ cols, cols = sumP false ps 0 + sumP false (openPart ps) 0 := ⟨_, rfl⟩
          have hcb : 0 ≤ cols ∧ cols ≤ 60000008 := by omega
          replace wab : IntKind.i64.wrap (sumP false ps 0 + sumP false (openPart ps) 0) = cols := by rw [hcols]; exact wab
          clear hcols
          go_upto_region 17 with fail
          clear wab wx hy y1 y2 x1 x2
          have KB1 : cols ≤ 60000008 := hcb.2
          have KB0 : 0 ≤ cols := hcb.1
          rcases (show (exCode ps cols = 0 ∧ _) ∨ (exCode ps cols = 10 ∧ _) ∨ (exCode ps cols = 2 ∧ _) ∨ (exCode ps cols = 5 ∧ True) from (HRT.out cols).imp id (Or.imp id (Or.imp id fun h => ⟨h, trivial⟩))) with ⟨k0, k⟩ | ⟨k0, k⟩ | ⟨k0, k⟩ | ⟨k0, k⟩
          all_goals
            have K0 := Lib.hid k0; have KK := Lib.hid k; clear k0 k
            go_wp2_with (fail)
            refine (impl_ExpandPieces ps cols A1 c1 w4 p4 hps1 HCAP.out HCAPM.out).mono ?_; rintro e w5 ⟨A5, c5, rfl, o5, b5⟩
            rw [K0.out]
            have B5 : Below w.heap.size w w5 := B4.trans (b5.mono B4.size)
            clear B4 b5 p4
            go_wp2_with (fail)
            refine (impl_ExpandRow T cols w5 HTS.out).mono ?_; rintro e w6 ⟨A6, c6, rfl, o6, b6⟩
            rw [(HERC.out cols).2, K0.out]
            rw [(HERC.out cols).1] at o6 ⊢
            have o56 := OwnC.below o5 b6 (Nat.le_refl _)
            have B6 : Below w.heap.size w w6 := B5.trans (b6.mono B5.size)
            have hxl : (exRes ps cols).length ≤ 9223372036854775807 := OwnC.maxc o6
            have i5 := OwnC.ints o56
            have i6 := OwnC.ints o6
            clear o5 o6 o56 B5 b6
            generalize hxs : exRes ps cols = xs at *
            clear hxs
            go_wp2_with (fail)
            refine (laws_a2Same A5 A6 c5 c6 xs xs w6 i5 i6 hxl hxl).mono ?_; rintro e w7 ⟨rfl, q, rfl⟩
            rw [decide_eq_true rfl]
          · obtain ⟨k1, k2⟩ := KK.out
            have e9 : (cols == cols) = true := by simp
            have K2 := Lib.hid k2; clear k2
            go_wp2_with (fail)
            refine (impl_TakenBy xs A5 c5 _ (i5.drewN q) k1).mono ?_; rintro e _ ⟨rfl, rfl⟩
            rw [K2.out]
            go_wp2_with (fail)
            go_ret
            exact ⟨rfl, below_drewN B6 q⟩
          · obtain ⟨k1, k2⟩ := KK.out
            generalize sumP false ps 0 = a at *
            generalize sumP false (openPart ps) 0 = b at *
            have e1 : (a != cols) = true := by simpa using k1
            have ws : IntKind.i64.wrap (cols - a) = cols - a := IntWalk.i64_in _ ⟨by omega, by omega⟩
            rcases k2 with k2 | k2 | ⟨k2, k3, k4⟩
            · have e2 : (b == 0) = true := by rw [k2]; rfl
              go_wp2_with (fail)
              go_ret
              exact ⟨rfl, below_drewN B6 q⟩
            · have e3 : decide (cols < a) = true := decide_eq_true k2
              cases e2 : (b == 0)
              · go_wp2_with (fail)
                go_ret
                exact ⟨rfl, below_drewN B6 q⟩
              · go_wp2_with (fail)
                go_ret
                exact ⟨rfl, below_drewN B6 q⟩
            · have e2 : (b == 0) = false := by rw [beq_eq_false_iff_ne]; exact k2
              have e3 : decide (cols < a) = false := decide_eq_false (by omega)
              have e4 : ((cols - a).tmod b != 0) = true := by simpa using k4
              have e5 : ((cols - a) % b != 0) = true := by rw [← Int.tmod_eq_emod_of_nonneg (show 0 ≤ cols - a by omega)]; exact e4
              go_wp2_with (fail)
              go_ret
              exact ⟨rfl, below_drewN B6 q⟩
          · have k1 := KK.out
            by_cases h1 : cols < 1
            · have e1 : decide (cols < 1) = true := decide_eq_true h1
              go_wp2_with (fail)
              go_ret
              exact ⟨rfl, below_drewN B6 q⟩
            · have e1 : decide (cols < 1) = false := decide_eq_false h1
              have e2 : decide (cols > 8) = true := decide_eq_true (by omega)
              go_wp2_with (fail)
              go_ret
              exact ⟨rfl, below_drewN B6 q⟩
          · go_wp2_with (fail)
            go_ret
            exact ⟨rfl, below_drewN B6 q⟩
  · go_enter Tryd.func6, Tryd.ntmps6
    go_wp2_with (fail)
    refine (laws_a2Long A B bs.length c ms.length d w).mono ?_; rintro e _ ⟨rfl, rfl⟩
    rw [hlong]
    go_wp2_with (fail)
    go_ret
    exact ⟨rfl, Below.refl _ _⟩

end Go.Proofs.YtcgbogofmdjddaaDoor
