/- Steps of the proof, joined from several texts: ZL. -/
import Derived.Test.YtnilglkiojigjaaZ16
import Derived.Test.YtnilglkiojigjaaZ14

/- Permutations: ChartOfPermutation, the given side. -/
namespace Go.Proofs.Ytnilglkiojigjaa
open Go Go.RowKit

theorem copX_size (p : List Int) (car : Int) : (copX p car).xs.length ≤ 9 ∧ cntRows (copX p car).xs ≤ 1000 := by
  cases hv : permB p
  · rw [(cop_bad hv).1]; simp [cntRows, lenRows]
  · cases hn : inR p.length 1 8
    · rw [(cop_range (car := car) hv (by rw [hn]; rfl)).1]; simp [cntRows, lenRows]
    · rw [(cop_rest (car := car) hv hn).1]; exact cobX_size _ _ _

set_option maxHeartbeats 4000000 in
set_option maxRecDepth 10000 in
theorem spec_ChartOfPermutation (p : List Int) (car : Int) (A : Option Addr) (c : Nat) (w : World) (h : Ints w A p) (hl : p.length ≤ 9223372036854775807) :
    Calls Try.prog 11 #[.slice A p.length c, .int .i64 car] w fun e w' => ∃ A' c', e = .returned (.tuple #[.agg #[.int .i64 (copX p car).n, .slice A' (copX p car).xs.length c'], .int .i64 (copCode p car)]) ∧ OwnRows w' w.heap.size w'.heap.size A' (copX p car).xs.length c' (copX p car).xs ∧ Below w.heap.size w w' := by
  have t1 : (25 : TypeId) ≠ 2 := by decide
  have t2 : (25 : TypeId) ≠ 66 := by decide
  have t3 : (83 : TypeId) ≠ 2 := by decide
  obtain ⟨i0, hi0, hu0, hu1, hu2⟩ := info_parts info_int64
  have hb1 : Below w.heap.size w (w.alloc (.cells #[.int .i64 0, .slice none 0 0] 25)) := by (repeat (first | exact Below.refl _ _ | assumption | apply Below.drew | apply below_drewN | (refine Below.alloc ?_ (by first | omega | (simp; done) | (simp; omega)) _) | (refine Below.setCell ?_ (by first | omega | (simp; done) | (simp; omega)) _)))
  have kz := Blk.new w 25 #[.int .i64 0, .slice none 0 0]
  cases hv : permB p
  · have HF := Lib.hid (cop_bad (car := car) hv)
    go_enter Try.func11, Try.ntmps11
    go_wp2_with (fail)
    refine (spec_ValidPermutation p A c _ (h.below hb1) hl).mono ?_; rintro e w2 ⟨rfl, b2⟩
    have hb2 : Below w.heap.size w w2 := hb1.trans (b2.mono (by simp))
    have kz2 := kz.below b2 (by simp)
    obtain ⟨r0, r1⟩ := kz2.c2
    have g0 := kz2.frozen 0
    have g1 := kz2.frozen 1
    rw [hv]
    go_wp2_with (fail)
    refine bodyPost_ret (v := .tuple #[.agg #[.int .i64 (copX p car).n, .slice none (copX p car).xs.length 0], .int .i64 (copCode p car)]) (by rw [HF.out.1, HF.out.2]; simp [results, Try.results11, go_sem, r0, r1]) rfl ⟨none, 0, rfl, ?_, ?_⟩
    · rw [HF.out.1]; exact OwnRows.nil _ _ _
    · (repeat (first | exact Below.refl _ _ | assumption | apply Below.drew | apply below_drewN | (refine Below.alloc ?_ (by first | omega | (simp; done) | (simp; omega)) _) | (refine Below.setCell ?_ (by first | omega | (simp; done) | (simp; omega)) _)))
  · have h12 := permB_len hv
    have HV := Lib.hid hv
    cases hn : inR p.length 1 8
    · have HF := Lib.hid (cop_range (car := car) hv (by rw [hn]; rfl))
      go_enter Try.func11, Try.ntmps11
      go_wp2_with (fail)
      refine (spec_ValidPermutation p A c _ (h.below hb1) hl).mono ?_; rintro e w2 ⟨rfl, b2⟩
      have hb2 : Below w.heap.size w w2 := hb1.trans (b2.mono (by simp))
      have kz2 := kz.below b2 (by simp)
      obtain ⟨r0, r1⟩ := kz2.c2
      have g0 := kz2.frozen 0
      have g1 := kz2.frozen 1
      rw [hv]
      clear hv b2
      go_wp2_with (first | (go_at_call 63; refine (spec_l00In _ _ _ _).mono ?_; rintro e _ ⟨rfl, rfl⟩) | (go_at_call 64; refine (spec_l07Yarn _ _).mono ?_; rintro e _ ⟨rfl, rfl⟩))
      refine bodyPost_ret (v := .tuple #[.agg #[.int .i64 (copX p car).n, .slice none (copX p car).xs.length 0], .int .i64 (copCode p car)]) (by rw [HF.out.1, HF.out.2]; simp [results, Try.results11, go_sem, r0, r1]) rfl ⟨none, 0, rfl, ?_, ?_⟩
      · rw [HF.out.1]; exact OwnRows.nil _ _ _
      · (repeat (first | exact Below.refl _ _ | assumption | apply Below.drew | apply below_drewN | (refine Below.alloc ?_ (by first | omega | (simp; done) | (simp; omega)) _) | (refine Below.setCell ?_ (by first | omega | (simp; done) | (simp; omega)) _)))
    · cases hc : carrierB car
      · have HF := Lib.hid (cop_range (car := car) hv (by rw [hn, hc]; rfl))
        go_enter Try.func11, Try.ntmps11
        go_wp2_with (fail)
        refine (spec_ValidPermutation p A c _ (h.below hb1) hl).mono ?_; rintro e w2 ⟨rfl, b2⟩
        have hb2 : Below w.heap.size w w2 := hb1.trans (b2.mono (by simp))
        have kz2 := kz.below b2 (by simp)
        obtain ⟨r0, r1⟩ := kz2.c2
        have g0 := kz2.frozen 0
        have g1 := kz2.frozen 1
        rw [hv]
        clear hv b2
        go_wp2_with (first | (go_at_call 63; refine (spec_l00In _ _ _ _).mono ?_; rintro e _ ⟨rfl, rfl⟩) | (go_at_call 64; refine (spec_l07Yarn _ _).mono ?_; rintro e _ ⟨rfl, rfl⟩))
        refine bodyPost_ret (v := .tuple #[.agg #[.int .i64 (copX p car).n, .slice none (copX p car).xs.length 0], .int .i64 (copCode p car)]) (by rw [HF.out.1, HF.out.2]; simp [results, Try.results11, go_sem, r0, r1]) rfl ⟨none, 0, rfl, ?_, ?_⟩
        · rw [HF.out.1]; exact OwnRows.nil _ _ _
        · (repeat (first | exact Below.refl _ _ | assumption | apply Below.drew | apply below_drewN | (refine Below.alloc ?_ (by first | omega | (simp; done) | (simp; omega)) _) | (refine Below.setCell ?_ (by first | omega | (simp; done) | (simp; omega)) _)))
      · have HF := Lib.hid (cop_rest (car := car) hv hn)
        have h8 := (inR_iff.1 hn).2
        obtain ⟨_, h28⟩ := perm_braid (p := p) (by omega)
        have HM := Lib.hid (permWord_mem p)
        rw [permLetters_length] at h28
        go_enter Try.func11, Try.ntmps11
        go_wp2_with (fail)
        refine (spec_ValidPermutation p A c _ (h.below hb1) hl).mono ?_; rintro e w2 ⟨rfl, b2⟩
        have hb2 : Below w.heap.size w w2 := hb1.trans (b2.mono (by simp))
        have kz2 := kz.below b2 (by simp)
        have hz2 : w.heap.size < w2.heap.size := kz2.lt
        rw [hv]
        clear hv b2
        go_wp2_with (first | (go_at_call 63; refine (spec_l00In _ _ _ _).mono ?_; rintro e _ ⟨rfl, rfl⟩) | (go_at_call 64; refine (spec_l07Yarn _ _).mono ?_; rintro e _ ⟨rfl, rfl⟩))
        clear hn hc
        obtain ⟨w3, hw3⟩ : ∃ w3, w3 = w2.alloc (.cells #[.int .i64 p.length, .slice none 0 0] 83) := ⟨_, rfl⟩
        have hb3 : Below w.heap.size w w3 := by rw [hw3]; exact hb2.alloc (by omega) _
        have kz3 : Blk w3 w.heap.size 25 #[.int .i64 0, .slice none 0 0] := by rw [hw3]; exact kz2.alloc _
        have kx3 : Blk w3 w2.heap.size 83 #[.int .i64 p.length, .slice none 0 0] := by rw [hw3]; exact Blk.new w2 _ _
        rw [← hw3]
        clear hw3
        have hz3 : w2.heap.size < w3.heap.size := kx3.lt
        refine (spec_ReducedWord p A c _ (h.below hb3) HV.out).mono ?_; rintro e w4 ⟨A4, c4, rfl, o4, b4⟩
        have hb4 : Below w.heap.size w w4 := hb3.trans (b4.mono (by omega))
        have kz4 := kz3.below b4 (by omega)
        have kx4 := kx3.below b4 (by omega)
        have hz4 := b4.size
        have hws := OwnC.ints o4
        have HP : Hid (permLetters p = (permWord p).map (· + 1)) := Lib.hid rfl
        generalize permWord p = ws at o4 HM h28 HP hws ⊢
        generalize hgB : w2.heap.size = gB at *
        clear hgB kz2 hb2 kz kz3 kx3 hb3 b4
        go_wp2_with (fail)
        go_loopw [8] (fun iv wr => ∃ (k : Nat) (A' : Option Addr) (c' : Nat), k ≤ ws.length ∧ iv = .int .i64 k ∧ Blk wr w.heap.size 25 #[.int .i64 0, .slice none 0 0] ∧ Blk wr gB 83 #[.int .i64 p.length, .slice A' k c'] ∧ OwnC wr w4.heap.size wr.heap.size 2 1 A' k c' (((ws.take k).map (· + 1)).map (Value.int .i64)) ∧ OwnI wr w3.heap.size w4.heap.size A4 c4 ws ∧ Below w.heap.size w wr ∧ w4.heap.size ≤ wr.heap.size) (fun iv _ => ws.length - (intOf iv).toNat)
        case atStart => exact ⟨0, none, 0, Nat.zero_le _, rfl, kz4, kx4, OwnC.nil _ _ _ _ _, o4, hb4, Nat.le_refl _⟩
        case round =>
          obtain ⟨k, A', c', hk, rfl, kzr, kxr, oor, ows, hbr, hzr⟩ := hrel
          have hxl := kxr.lt
          by_cases hkl : k < ws.length
          · obtain ⟨b, off, x, rfl, hc, hx⟩ := (OwnC.ints ows) k hkl
            have hm := HM.out x (List.mem_of_getElem? hx)
            have HX := Lib.hid (addOnes_snoc hx); clear hx
            have hx1 : -9223372036854775808 ≤ x + 1 ∧ x + 1 ≤ 9223372036854775807 := by omega
            obtain ⟨hx1, hx2⟩ := hx1
            have j1 : (0 : Int) ≤ (k : Int) := by omega
            have j2 : (k : Int) < (ws.length : Int) := by omega
            have u1 := kxr.c2.2
            go_wp2_with (fail)
            (refine wp_region_pops 3 (S := (fun W' => W'.cell? ⟨gB, 1, none⟩ = some (.slice A' k c') ∧ W'.cell? ⟨b, off + k, none⟩ = some (.int .i64 x))) (pre := ?_) (T := ?_) (n := ?_) (by kernel_rfl) (by kernel_rfl) ?_ ?_ ?_ ?_ (fun hHeld => ?_); rotate_left 3; (focus (simp only [pops, List.pop_toArray, List.dropLast_cons_cons, List.dropLast_singleton]; rfl)); (focus (simp only [tailOf, List.pop_toArray, List.dropLast_cons_cons, List.dropLast_singleton, List.back?_toArray, List.getLast?_cons_cons, List.getLast?_singleton, Option.toList_some, List.nil_append, List.cons_append]; rfl)); (focus rfl); (focus (exact ⟨u1, hc⟩)))
            ((refine wpAnyH_take (i := 0) (v := ?_) rfl (by kernel_rfl) (by kernel_rfl) (by kernel_rfl) (fun _ _ _ h => h) (Or.inl ⟨by rfl, ?_⟩) (by assumption) ?_; rotate_left; (focus (intro W hSw; (try dsimp only at hSw); go_simp; try (with_reducible rfl)))); (try simp only [List.getElem_toArray, List.getElem_cons_zero, Act.put, List.setIfInBounds_toArray, List.set_cons_zero, List.set_cons_succ]); (refine wpAnyH_take (i := 1) (v := ?_) rfl (by kernel_rfl) (by kernel_rfl) (by kernel_rfl) (fun _ _ _ h => h) (Or.inl ⟨by rfl, ?_⟩) (by assumption) ?_; rotate_left; (focus (intro W hSw; (try dsimp only at hSw); go_simp; try (with_reducible rfl)))); (try simp only [List.getElem_toArray, List.getElem_cons_zero, List.getElem_cons_succ, Act.put, List.setIfInBounds_toArray, List.set_cons_zero, List.set_cons_succ]); (refine wpAnyH_take (i := 2) (v := ?_) rfl (by kernel_rfl) (by kernel_rfl) (by kernel_rfl) (fun _ _ _ h => h) (Or.inl ⟨by rfl, ?_⟩) (by assumption) ?_; rotate_left; (focus (intro W hSw; (try dsimp only at hSw); go_simp; try (with_reducible rfl)))); (try simp only [List.getElem_toArray, List.getElem_cons_zero, List.getElem_cons_succ, Act.put, List.setIfInBounds_toArray, List.set_cons_zero, List.set_cons_succ]); (refine wpAnyH_take (i := 3) (v := ?_) rfl (by kernel_rfl) (by kernel_rfl) (by kernel_rfl) (fun _ _ _ h => h) (Or.inl ⟨by rfl, ?_⟩) (by assumption) ?_; rotate_left; (focus (intro W hSw; (try dsimp only at hSw); go_simp; try (with_reducible rfl)))); (try simp only [List.getElem_toArray, List.getElem_cons_zero, List.getElem_cons_succ, Act.put, List.setIfInBounds_toArray, List.set_cons_zero, List.set_cons_succ]); (refine wpAnyH_take (i := 4) (v := ?_) rfl (by kernel_rfl) (by kernel_rfl) (by kernel_rfl) (fun _ _ _ h => h) (Or.inl ⟨by rfl, ?_⟩) (by assumption) ?_; rotate_left; (focus (intro W hSw; (try dsimp only at hSw); go_simp; try (with_reducible rfl)))); (try simp only [List.getElem_toArray, List.getElem_cons_zero, List.getElem_cons_succ, Act.put, List.setIfInBounds_toArray, List.set_cons_zero, List.set_cons_succ]); (refine wpAnyH_take (i := 5) (v := ?_) rfl (by kernel_rfl) (by kernel_rfl) (by kernel_rfl) (fun _ _ _ h => h) (Or.inl ⟨by rfl, ?_⟩) (by assumption) ?_; rotate_left; (focus (intro W hSw; (try dsimp only at hSw); go_simp; try (with_reducible rfl)))); (try simp only [List.getElem_toArray, List.getElem_cons_zero, List.getElem_cons_succ, Act.put, List.setIfInBounds_toArray, List.set_cons_zero, List.set_cons_succ]); (refine wpAnyH_take (i := 6) (v := ?_) rfl (by kernel_rfl) (by kernel_rfl) (by kernel_rfl) (fun _ _ _ h => h) (Or.inl ⟨by rfl, ?_⟩) (by assumption) ?_; rotate_left; (focus (intro W hSw; (try dsimp only at hSw); go_simp; try (with_reducible rfl)))); (try simp only [List.getElem_toArray, List.getElem_cons_zero, List.getElem_cons_succ, Act.put, List.setIfInBounds_toArray, List.set_cons_zero, List.set_cons_succ]))
            (refine wpAnyH_ready (rs := [7]) (by kernel_rfl) (by simp) ?_; refine AllReadyH.cons rfl (fun K hK => ?_) AllReadyH.nil)
            go_simp
            refine hK.out _ _ ⟨cell_alloc u1 _, cell_alloc hc _⟩ (fun hHeld => ?_)
            clear hK K
            (try simp only [List.getElem_toArray, List.getElem_cons_zero, List.getElem_cons_succ, Act.put, List.setIfInBounds_toArray, List.set_cons_zero, List.set_cons_succ])
            (refine wpAnyH_done (by kernel_rfl) ?_ _; change wpList _ _ _ _ _ _)
            clear hHeld
            have hxw : IntKind.i64.wrap (x + 1) = x + 1 := IntWalk.i64_in _ ⟨hx1, hx2⟩
            rw [hxw]
            clear hxw
            obtain ⟨wd, hwd⟩ : ∃ wd, wd = World.drew wr := ⟨_, rfl⟩
            have kxd : Blk wd gB 83 #[.int .i64 p.length, .slice A' k c'] := by rw [hwd]; exact kxr.drewN 1
            have kzd : Blk wd w.heap.size 25 #[.int .i64 0, .slice none 0 0] := by rw [hwd]; exact kzr.drewN 1
            have ood : OwnC wd w4.heap.size wd.heap.size 2 1 A' k c' (((ws.take k).map (· + 1)).map (Value.int .i64)) := by rw [hwd]; exact oor.drewN 1
            have owd : OwnI wd w3.heap.size w4.heap.size (some ⟨b, off, none⟩) c4 ws := by rw [hwd]; exact OwnC.drewN ows 1
            have hbd : Below w.heap.size w wd := by rw [hwd]; exact below_drewN hbr 1
            have hzd : wr.heap.size = wd.heap.size := by rw [hwd]; rfl
            rw [show (wr.alloc (.cells #[.int .i64 (x + 1)] 2)).drew = wd.alloc (.cells #[.int .i64 (x + 1)] 2) by rw [hwd]; rfl]
            rw [hzd] at hzr hxl ⊢
            clear hwd hzd
            clear kxr kzr oor ows hbr u1 hc
            have HKX : Hid (∀ w5, (wd.alloc (.cells #[.int .i64 (x + 1)] 2)).grownBy w5 (Value.slice A' k c').ownBlock → Blk w5 gB 83 #[.int .i64 p.length, .slice A' k c']) := Lib.hid (fun w5 hg => (kxd.alloc (.cells #[.int .i64 (x + 1)] 2)).grownT (ood.alloc (.cells #[.int .i64 (x + 1)] 2)) t3 hg)
            go_wp2_with (at_builtin; refine wpList_append1 wd [.int .i64 (x + 1)] _ rfl (.tmp 35) (.tmp 41) _ rfl 2 i0 _ 1 8 Try.underlying22 hi0 hu0 hu1 hu2 rfl (by decide) rfl ood hzr 1 rfl rfl (by simp [Value.oneCell']) (by omega) (by decide) ?_; intro A5 c5 w5 ho5 hg5 hb5 hz5; have kx5 := HKX.out w5 hg5; obtain ⟨x0', x1'⟩ := kx5.c2; have x2' := kx5.frozen 1)
            have kx5 := HKX.out w5 hg5
            have kz5 := (kzd.alloc (.cells #[.int .i64 (x + 1)] 2)).grownT (ood.alloc (.cells #[.int .i64 (x + 1)] 2)) t1 hg5
            have ows5 := OwnC.below owd hb5 (Nat.le_refl _)
            have hb5' : Below w.heap.size w w5 := hbd.trans (hb5.mono (by omega))
            refine ⟨⟨k + 1, A5, c5, by omega, by go_num, kz5.far (by show w.heap.size ≠ gB; omega) _, kx5.set21 _, ?_, ows5.farT kx5 t3 1 _, by (repeat (first | exact Below.refl _ _ | assumption | apply Below.drew | apply below_drewN | (refine Below.alloc ?_ (by first | omega | (simp; done) | (simp; omega)) _) | (refine Below.setCell ?_ (by first | omega | (simp; done) | (simp; omega)) _))), ?_⟩, by first | (simp [intOf]; done) | (simp [intOf]; omega)⟩
            · rw [HX.out, List.map_append]
              exact (ho5.farT kx5 t3 1 _).mono (Nat.le_refl _) (by simp)
            · simp; omega
          · obtain rfl : k = ws.length := by omega
            rw [take_all (Nat.le_refl _), ← HP.out] at oor
            have HPL : Hid (ws.length = (permLetters p).length) := Lib.hid (by rw [HP.out, List.length_map])
            clear ows HM
            rw [HPL.out] at kxr oor h28
            generalize permLetters p = ls at kxr oor h28 HF HPL
            have d40 : decide ((40 : Int) < (ls.length : Int)) = false := decide_eq_false (by omega)
            have hil := OwnC.ints oor
            obtain ⟨x0, x1⟩ := kxr.c2
            obtain ⟨HF1, HF2⟩ := HF.out
            have HFA := Lib.hid HF1
            have HFB := Lib.hid HF2
            clear HF1 HF2 HF
            go_wp2_with (fail)
            refine (spec_ChartOfBraid p.length ls car A' c' _ hil (by omega)).mono ?_; rintro e w6 ⟨A6, c6, rfl, o6, b6⟩
            have hb6 : Below w.heap.size w w6 := hbr.trans (b6.mono (by omega))
            have kz6 := kzr.below b6 (by omega)
            obtain ⟨r0, r1⟩ := kz6.c2
            have g0 := kz6.frozen 0
            have g1 := kz6.frozen 1
            have hz6 := b6.size
            generalize cobX p.length ls car = X at o6 HFA ⊢
            generalize cobCode p.length ls car = Y at HFB ⊢
            go_wp2_with (fail)
            refine bodyPost_ret (v := .tuple #[.agg #[.int .i64 (copX p car).n, .slice A6 (copX p car).xs.length c6], .int .i64 (copCode p car)]) (by rw [HFA.out, HFB.out]; simp [results, Try.results11, go_sem, r0, r1]) rfl ⟨A6, c6, rfl, ?_, ?_⟩
            · rw [HFA.out]
              have k1 := kz6.set20 (.int .i64 X.n)
              exact ((o6.farT kz6 t1 t2 0 _).farT k1 t1 t2 1 _).mono (by omega) (by simp)
            · (repeat (first | exact Below.refl _ _ | assumption | apply Below.drew | apply below_drewN | (refine Below.alloc ?_ (by first | omega | (simp; done) | (simp; omega)) _) | (refine Below.setCell ?_ (by first | omega | (simp; done) | (simp; omega)) _)))

end Go.Proofs.Ytnilglkiojigjaa
