/- Steps of the proof, joined from several texts: XC XM. -/
import Derived.Test.YtifjdiiafofnpaaZ10

/- Charts: MirrorStitch, MirrorChart. -/
namespace Go.Proofs.Ytifjdiiafofnpaa
open Go.RowKit

theorem mirK_bad {k : Int} (h : isStitchB k = false) : mirK k = 0 := by
  have h1 : k ≠ 4 := by rintro rfl; exact absurd h (by decide)
  have h2 : k ≠ 5 := by rintro rfl; exact absurd h (by decide)
  have h3 : k ≠ 8 := by rintro rfl; exact absurd h (by decide)
  have h4 : k ≠ 9 := by rintro rfl; exact absurd h (by decide)
  have h5 : k ≠ 10 := by rintro rfl; exact absurd h (by decide)
  have h6 : k ≠ 11 := by rintro rfl; exact absurd h (by decide)
  rw [mirK, if_neg h1, if_neg h2, if_neg h3, if_neg h4, if_neg h5, if_neg h6, if_neg (by rw [h]; decide)]

set_option maxHeartbeats 4000000 in
theorem impl_MirrorStitch (k : Int) (w : World) : Calls Try.prog 44 #[.int .i64 k] w fun e w' => e = .returned (.int .i64 (mirK k)) ∧ w = w' := by
  by_cases hk : isStitchB k = true
  · rcases stitch_cases hk with rfl | rfl | rfl | rfl | rfl | rfl | rfl | rfl | rfl | rfl | rfl
    all_goals
      go_enter Try.func44, Try.ntmps44
      go_wp2_with (go_at_call 99; refine (impl_isStitch _ _).mono ?_; rintro e _ ⟨rfl, rfl⟩)
      go_ret
      exact ⟨rfl, rfl⟩
  · have hk' : isStitchB k = false := by simpa using hk
    have HF : Hid (mirK k = 0) := Lib.hid (mirK_bad hk')
    have h1 : (k == 4) = false := by rw [beq_eq_false_iff_ne]; rintro rfl; exact hk (by decide)
    have h2 : (k == 5) = false := by rw [beq_eq_false_iff_ne]; rintro rfl; exact hk (by decide)
    have h3 : (k == 8) = false := by rw [beq_eq_false_iff_ne]; rintro rfl; exact hk (by decide)
    have h4 : (k == 9) = false := by rw [beq_eq_false_iff_ne]; rintro rfl; exact hk (by decide)
    have h5 : (k == 10) = false := by rw [beq_eq_false_iff_ne]; rintro rfl; exact hk (by decide)
    have h6 : (k == 11) = false := by rw [beq_eq_false_iff_ne]; rintro rfl; exact hk (by decide)
    clear hk
    go_enter Try.func44, Try.ntmps44
    go_wp2_with (go_at_call 99; refine (impl_isStitch _ _).mono ?_; rintro e _ ⟨rfl, rfl⟩)
    go_ret
    exact ⟨ret_int HF.out.symm, rfl⟩

set_option maxHeartbeats 4000000 in
set_option maxRecDepth 10000 in
theorem impl_mirrored (d r : Int) (xs : List Int) (A : Option Addr) (c : Nat) (w : World) (h : Ints w A xs) (hl : xs.length ≤ 1000) (hd1 : -1 ≤ d) (hd2 : d ≤ 1) :
    Calls Try.prog 80 #[.agg #[.int .i64 d, .int .i64 r, .slice A xs.length c]] w fun e w' => ∃ A' c', e = .returned (.agg #[.int .i64 (-d), .int .i64 r, .slice A' (xs.reverse.map mirK).length c']) ∧ OwnI w' w.heap.size w'.heap.size A' c' (xs.reverse.map mirK) ∧ Below w.heap.size w w' := by
  obtain ⟨i0, hi0, hz0, hz1, hz2⟩ := info_parts info_int64
  have ht : (29 : TypeId) ≠ 2 := by decide
  go_enter Try.func80, Try.ntmps80
  go_wp2_with (fail)
  go_loopw [4] (fun iv wr => ∃ (j : Nat) (A' : Option Addr) (c' : Nat) (out : List Int), j ≤ xs.length ∧ iv = .int .i64 ((xs.length : Int) - 1 - j) ∧ Blk wr w.heap.size 29 #[.int .i64 d, .int .i64 r, .slice A xs.length c] ∧ Blk wr (w.heap.size + 1) 29 #[.int .i64 0, .int .i64 0, .slice none 0 0] ∧ Blk wr (w.heap.size + 2) 29 #[.int .i64 (-d), .int .i64 r, .slice A' out.length c'] ∧ OwnI wr w.heap.size wr.heap.size A' c' out ∧ Below w.heap.size w wr ∧ Hid (out = (xs.reverse.map mirK).take j) ∧ out.length ≤ j) (fun iv _ => (intOf iv + 1).toNat)
  case atStart =>
    have k1 : Blk ((w.alloc (.cells #[.int .i64 d, .int .i64 r, .slice A xs.length c] 29)).alloc (.cells #[.int .i64 0, .int .i64 0, .slice none 0 0] 29)) (w.heap.size + 1) 29 #[.int .i64 0, .int .i64 0, .slice none 0 0] := by simpa using Blk.new (w.alloc (.cells #[.int .i64 d, .int .i64 r, .slice A xs.length c] 29)) 29 #[.int .i64 0, .int .i64 0, .slice none 0 0]
    exact ⟨0, none, 0, [], by omega, by simp, ((Blk.new w _ _).alloc _).alloc _, k1.alloc _, by simpa using Blk.new ((w.alloc (.cells #[.int .i64 d, .int .i64 r, .slice A xs.length c] 29)).alloc (.cells #[.int .i64 0, .int .i64 0, .slice none 0 0] 29)) 29 #[.int .i64 (-d), .int .i64 r, .slice none 0 0], OwnC.nil _ _ _ _ _, by (repeat (first | exact Below.refl _ _ | assumption | apply Below.drew | apply below_drewN | (refine Below.alloc ?_ (by first | omega | (simp; done) | (simp; omega)) _) | (refine Below.setCell ?_ (by first | omega | (simp; done) | (simp; omega)) _))), Lib.hid rfl, by simp⟩
  case round =>
    obtain ⟨j, A', c', out, hj, rfl, ka, kz, ko, ho, hb, HO, hol⟩ := hrel
    have hzs := hb.size
    have hza := ka.lt
    have hzz := kz.lt
    have hzo := ko.lt
    by_cases hlt : j < xs.length
    · obtain ⟨m, hm⟩ : ∃ m, xs.length = m + 1 + j := ⟨xs.length - 1 - j, by omega⟩
      obtain ⟨b, off, x, rfl, hcx, hx⟩ := h m (by omega)
      replace hcx := cells_below hb _ _ hcx
      have HR : Hid ((xs.reverse.map mirK).take (j + 1) = (xs.reverse.map mirK).take j ++ [mirK x]) := Lib.hid (take_snoc (by rw [List.getElem?_map, List.getElem?_reverse hlt, show xs.length - 1 - j = m by omega, hx]; rfl))
      clear hx
      rw [show (xs.length : Int) - 1 - j = m by omega]
      have m1 : (0 : Int) ≤ (m : Int) := by omega
      have m2 : (m : Int) < (xs.length : Int) := by omega
      have HM := Lib.hid hm; clear hm
      obtain ⟨s0, s1, s2⟩ := ka.c3
      obtain ⟨q0, q1, q2⟩ := ko.c3
      have a2 := cell_alloc q2 (.cells #[.int .i64 (mirK x)] 2)
      have HMS : Hid (∀ W, Calls Try.prog 44 #[.int .i64 x] W fun e w' => e = .returned (.int .i64 (mirK x)) ∧ W = w') := Lib.hid (fun W => impl_MirrorStitch x W)
      generalize mirK x = y at HR a2 HMS
      go_wp2_with (fail)
      go_region_law (first | (go_simp; go_at_call 44; refine (HMS.out _).mono ?_; rintro e _ ⟨rfl, rfl⟩) | (refine step_append1d [.int .i64 y] _ rfl (.tmp 20) (.tmp 27) _ rfl 2 i0 _ 1 8 Try.underlying22 hi0 hz0 hz1 hz2 rfl (by decide) (by simp [Act.eval]) ho hzs 1 (by simp [Act.eval]) rfl (by simp [Value.oneCell']) (by omega) (by decide) ?_; intro A5 c5 w5 ho5 hg5 hb5 hz5; have kq : Blk (World.drew (wr.alloc (.cells #[.int .i64 y] 2))) (w.heap.size + 2) 29 #[.int .i64 (-d), .int .i64 r, .slice A' out.length c'] := ko.alloc _; have oq := OwnC.keep (w' := World.drew (wr.alloc (.cells #[.int .i64 y] 2))) (ho.alloc (.cells #[.int .i64 y] 2)) fun _ _ _ _ => rfl; have ko5 := kq.grownT oq ht hg5; obtain ⟨v0, v1, v2⟩ := ko5.c3; have v3 := ko5.frozen 2))
      all_goals go_wp2_with (fail)
      all_goals
        have kqa : Blk (World.drew (wr.alloc (.cells #[.int .i64 y] 2))) w.heap.size 29 #[.int .i64 d, .int .i64 r, .slice (some ⟨b, off, none⟩) xs.length c] := ka.alloc _
        have kqz : Blk (World.drew (wr.alloc (.cells #[.int .i64 y] 2))) (w.heap.size + 1) 29 #[.int .i64 0, .int .i64 0, .slice none 0 0] := kz.alloc _
        have ka5 := kqa.grownT oq ht hg5
        have kz5 := kqz.grownT oq ht hg5
        have hbb : Below w.heap.size w w5 := hb.trans hb5
        refine ⟨⟨j + 1, A5, c5, out ++ [y], by omega, int_eq (by have := HM.out; push_cast; omega), ka5.far (by show w.heap.size ≠ w.heap.size + 2; omega) _, kz5.far (by show w.heap.size + 1 ≠ w.heap.size + 2; omega) _, by simpa using ko5.set32 (.slice A5 (out.length + 1) c5), ?_, by (repeat (first | exact Below.refl _ _ | assumption | apply Below.drew | apply below_drewN | (refine Below.alloc ?_ (by first | omega | (simp; done) | (simp; omega)) _) | (refine Below.setCell ?_ (by first | omega | (simp; done) | (simp; omega)) _))), Lib.hid (by rw [HR.out, HO.out]), by simp; omega⟩, by first | (simp [intOf]; done) | (simp [intOf]; omega)⟩
        have o3 : OwnI w5 w.heap.size w5.heap.size A5 c5 (out ++ [y]) := by show OwnC _ _ _ _ _ _ _ _ _; rw [List.map_append, List.length_append]; exact ho5
        exact (o3.farT ko5 ht 2 _).mono (Nat.le_refl _) (by simp)
    · obtain rfl : j = xs.length := by omega
      have he := HO.out
      rw [take_all (by simp)] at he
      have HE := Lib.hid he; clear he
      rw [show (xs.length : Int) - 1 - xs.length = -1 by omega]
      obtain ⟨q0, q1, q2⟩ := ko.c3
      obtain ⟨r0, r1, r2⟩ := kz.c3
      have g0 := kz.frozen 0
      have g1 := kz.frozen 1
      have g2 := kz.frozen 2
      go_wp2_with (fail)
      refine bodyPost_ret (v := .agg #[.int .i64 (-d), .int .i64 r, .slice A' out.length c']) (by simp [results, Try.results80, go_sem, r0, r1, r2]) rfl ⟨A', c', by rw [HE.out], ?_, ?_⟩
      · rw [← HE.out]
        have o1 := ho.farT kz ht 0 (.int .i64 (-d))
        have k1 := kz.set30 (.int .i64 (-d))
        have o2 := o1.farT k1 ht 1 (.int .i64 r)
        have k2 := k1.set31 (.int .i64 r)
        exact (o2.farT k2 ht 2 _).mono (Nat.le_refl _) (by simp)
      · (repeat (first | exact Below.refl _ _ | assumption | apply Below.drew | apply below_drewN | (refine Below.alloc ?_ (by first | omega | (simp; done) | (simp; omega)) _) | (refine Below.setCell ?_ (by first | omega | (simp; done) | (simp; omega)) _)))

end Go.Proofs.Ytifjdiiafofnpaa

/- Charts: MirrorChart. -/
namespace Go.Proofs.Ytifjdiiafofnpaa
open Go.RowKit

theorem mirX_bad {n : Int} {rs : List RowD} (h : chartB n rs = false) : mirX n rs = ⟨0, []⟩ ∧ validCode n rs = 1 := ⟨by rw [mirX, if_neg (by rw [h]; decide)], by rw [validCode, if_neg (by rw [h]; decide)]⟩
theorem mirX_good {n : Int} {rs : List RowD} (h : chartB n rs = true) : mirX n rs = ⟨n, rs.map mirRow⟩ ∧ validCode n rs = 0 := ⟨by rw [mirX, if_pos h], by rw [validCode, if_pos h]⟩

set_option maxHeartbeats 4000000 in
set_option maxRecDepth 10000 in
theorem impl_MirrorChart (n : Int) (rs : List RowD) (A : Option Addr) (c : Nat) (w : World) (h : RowsR w A rs) (hl : rs.length ≤ 9223372036854775807) :
    Calls Try.prog 29 #[.agg #[.int .i64 n, .slice A rs.length c]] w fun e w' => ∃ A' c', e = .returned (.tuple #[.agg #[.int .i64 (mirX n rs).n, .slice A' (mirX n rs).xs.length c'], .int .i64 (validCode n rs)]) ∧ OwnRows w' w.heap.size w'.heap.size A' (mirX n rs).xs.length c' (mirX n rs).xs ∧ Below w.heap.size w w' := by
  have t1 : (43 : TypeId) ≠ 2 := by decide
  have t2 : (43 : TypeId) ≠ 29 := by decide
  have hb1 : Below w.heap.size w ((w.alloc (.cells #[.int .i64 n, .slice A rs.length c] 43)).alloc (.cells #[.int .i64 0, .slice none 0 0] 43)) := by (repeat (first | exact Below.refl _ _ | assumption | apply Below.drew | apply below_drewN | (refine Below.alloc ?_ (by first | omega | (simp; done) | (simp; omega)) _) | (refine Below.setCell ?_ (by first | omega | (simp; done) | (simp; omega)) _)))
  have ka := (Blk.new w 43 #[.int .i64 n, .slice A rs.length c]).alloc (.cells #[.int .i64 0, .slice none 0 0] 43)
  have kz : Blk ((w.alloc (.cells #[.int .i64 n, .slice A rs.length c] 43)).alloc (.cells #[.int .i64 0, .slice none 0 0] 43)) (w.heap.size + 1) 43 #[.int .i64 0, .slice none 0 0] := by simpa using Blk.new (w.alloc (.cells #[.int .i64 n, .slice A rs.length c] 43)) 43 #[.int .i64 0, .slice none 0 0]
  cases hv : chartB n rs
  · have HF := Lib.hid (mirX_bad hv)
    go_enter Try.func29, Try.ntmps29
    go_wp2_with (fail)
    refine (impl_ValidChart n rs A c _ (h.below hb1) hl).mono ?_; rintro e w2 ⟨rfl, b2⟩
    have hb2 : Below w.heap.size w w2 := hb1.trans (b2.mono (by simp only [World.size_alloc]; omega))
    have kz2 := kz.below b2 (by simp)
    obtain ⟨r0, r1⟩ := kz2.c2
    have g0 := kz2.frozen 0
    have g1 := kz2.frozen 1
    rw [hv]
    go_wp2_with (fail)
    refine bodyPost_ret (v := .tuple #[.agg #[.int .i64 (mirX n rs).n, .slice none (mirX n rs).xs.length 0], .int .i64 (validCode n rs)]) (by rw [HF.out.1, HF.out.2]; simp [results, Try.results29, go_sem, r0, r1]) rfl ⟨none, 0, rfl, ?_, ?_⟩
    · rw [HF.out.1]; exact OwnRows.nil _ _ _
    · (repeat (first | exact Below.refl _ _ | assumption | apply Below.drew | apply below_drewN | (refine Below.alloc ?_ (by first | omega | (simp; done) | (simp; omega)) _) | (refine Below.setCell ?_ (by first | omega | (simp; done) | (simp; omega)) _)))
  · have HF := Lib.hid (mirX_good hv)
    have h8 := (chart_size hv).1
    have HV := Lib.hid (chartB_of hv).2.2
    obtain ⟨i0, hi0, hy0, hy1, hy2⟩ := info_parts info_Row
    go_enter Try.func29, Try.ntmps29
    go_wp2_with (fail)
    refine (impl_ValidChart n rs A c _ (h.below hb1) hl).mono ?_; rintro e w2 ⟨rfl, b2⟩
    have hb2 : Below w.heap.size w w2 := hb1.trans (b2.mono (by simp only [World.size_alloc]; omega))
    have ka2 := ka.below b2 (by simp; omega)
    have kz2 := kz.below b2 (by simp)
    have HR := Lib.hid (h.below hb2)
    have z2 : w.heap.size + 1 < w2.heap.size := kz2.lt
    rw [hv]
    clear ka kz hb1 b2 hv
    obtain ⟨q0, q1⟩ := ka2.c2
    obtain ⟨q2, q3⟩ := (ka2.alloc (.cells #[.int .i64 n, .slice none 0 0] 43)).c2
    go_wp2_with (fail)
    go_loopw [17] (fun iv wr => ∃ k : Nat, k ≤ rs.length ∧ iv = .int .i64 k ∧ ChartInv n w2.heap.size w2 wr k ((rs.take k).map mirRow)) (fun iv _ => rs.length - (intOf iv).toNat)
    case atStart => exact ⟨0, Nat.zero_le _, rfl, ChartInv.start _ _⟩
    case round =>
      clear q0 q1 q2 q3
      obtain ⟨k, hk, rfl, hinv⟩ := hrel
      obtain ⟨hdl, hb, hlt, A', c', cs, kb, ho, hcr⟩ := hinv
      have kzr := kz2.below hb (by omega)
      obtain ⟨s0, s1⟩ := kb.c2
      by_cases hkl : k < rs.length
      · obtain ⟨b, off, A7, c7, q, rfl, hx, f0, f1, f2, hi, hil⟩ := (HR.out.below hb) k hkl
        obtain ⟨hqd, _, _, hq16⟩ := rowB_of (HV.out q (List.mem_of_getElem? hx))
        have hqd1 : -1 ≤ q.d ∧ q.d ≤ 1 := by omega
        obtain ⟨hqd1, hqd2⟩ := hqd1
        have HX : Hid ((rs.take (k + 1)).map mirRow = (rs.take k).map mirRow ++ [mirRow q]) := Lib.hid (by rw [take_snoc hx]; simp)
        clear hx hqd
        have j1 : (0 : Int) ≤ (k : Int) := by omega
        have j2 : (k : Int) < (rs.length : Int) := by omega
        have hbx : Below wr.heap.size wr (wr.alloc (.cells #[.int .i64 q.d, .int .i64 q.r, .slice A7 q.s.length c7] 29)) := by (repeat (first | exact Below.refl _ _ | assumption | apply Below.drew | apply below_drewN | (refine Below.alloc ?_ (by first | omega | (simp; done) | (simp; omega)) _) | (refine Below.setCell ?_ (by first | omega | (simp; done) | (simp; omega)) _)))
        have kr := Blk.new wr 29 #[.int .i64 q.d, .int .i64 q.r, .slice A7 q.s.length c7]
        obtain ⟨v0, v1, v2⟩ := kr.c3
        have s2 := cell_alloc s1 (.cells #[.int .i64 q.d, .int .i64 q.r, .slice A7 q.s.length c7] 29)
        have HM : Hid (∀ W, Ints W A7 q.s → Calls Try.prog 80 #[.agg #[.int .i64 q.d, .int .i64 q.r, .slice A7 q.s.length c7]] W fun e w' => ∃ A' c', e = .returned (.agg #[.int .i64 (mirRow q).d, .int .i64 (mirRow q).r, .slice A' (mirRow q).s.length c']) ∧ OwnI w' W.heap.size w'.heap.size A' c' (mirRow q).s ∧ Below W.heap.size W w') := Lib.hid (fun W hW => impl_mirrored q.d q.r q.s A7 c7 W hW (by omega) hqd1 hqd2)
        have HI := Lib.hid (Ints.drew1 (hi.below hbx))
        generalize mirRow q = y at HX HM
        go_wp2_with (fail)
        go_region_law (first | (go_simp; go_at_call 80; refine (HM.out _ HI.out).mono ?_; rintro e w4 ⟨A4, c4, rfl, o4', b4'⟩; have b4 : Below wr.heap.size wr w4 := hbx.trans ((undrew b4').mono (by simp)); have o4 : OwnI w4 wr.heap.size w4.heap.size A4 c4 y.s := o4'.mono (show wr.heap.size ≤ (wr.alloc _).heap.size by simp) (Nat.le_refl _); have u1 := (kb.below b4 hlt).c2.2; have u2 := cell_alloc u1 (.cells #[.int .i64 y.d, .int .i64 y.r, .slice A4 y.s.length c4] 29)) | (refine step_append1 [.int .i64 y.d, .int .i64 y.r, .slice A4 y.s.length c4] _ rfl (.tmp 22) (.tmp 25) _ rfl 29 i0 _ 3 40 Try.underlying41 hi0 hy0 hy1 hy2 rfl (by decide) (by simp [Act.eval]) (ho.below b4 (Nat.le_refl _)) (by have := b4.size; omega) 1 (by simp [Act.eval]) rfl (by simp [Value.oneCell']) (by omega) (by decide) ?_; intro A5 c5 w5 ho5 hg5 hb5 hz5; have kb5 := ((kb.below b4 hlt).alloc (.cells #[.int .i64 y.d, .int .i64 y.r, .slice A4 y.s.length c4] 29)).grownT ((ho.below b4 (Nat.le_refl _)).alloc (.cells #[.int .i64 y.d, .int .i64 y.r, .slice A4 y.s.length c4] 29)) t2 hg5; obtain ⟨v0, v1⟩ := kb5.c2; have v2 := kb5.frozen 1))
        all_goals go_wp2_with (fail)
        all_goals
          have hinv' := ChartInv.step y hdl hb hlt kb ho hcr b4 o4 ho5 hg5 hb5 hz5
          refine ⟨⟨k + 1, by omega, by go_num, by rw [HX.out]; exact hinv'⟩, by simp [intOf]; omega⟩
      · obtain rfl : k = rs.length := by omega
        rw [take_all (Nat.le_refl _)] at hcr hdl
        obtain ⟨A8, c8, kc, oo⟩ := ChartInv.rows ⟨hdl, hb, hlt, A', c', cs, kb, ho, hcr⟩
        obtain ⟨p0, p1⟩ := kc.c2
        obtain ⟨r0, r1⟩ := kzr.c2
        have g0 := kzr.frozen 0
        have g1 := kzr.frozen 1
        have hbw : Below w.heap.size w wr := hb2.trans (hb.mono (by omega))
        clear s0 s1
        go_wp2_with (fail)
        refine bodyPost_ret (v := .tuple #[.agg #[.int .i64 (mirX n rs).n, .slice A8 (mirX n rs).xs.length c8], .int .i64 (validCode n rs)]) (by rw [HF.out.1, HF.out.2]; simp [results, Try.results29, go_sem, r0, r1]) rfl ⟨A8, c8, rfl, ?_, ?_⟩
        · rw [HF.out.1]
          have k1 := kzr.set20 (.int .i64 n)
          show OwnRows _ _ _ _ (rs.map mirRow).length _ (rs.map mirRow)
          rw [hdl]
          exact ((oo.farT kzr t1 t2 0 _).farT k1 t1 t2 1 _).mono (by omega) (by simp)
        · (repeat (first | exact Below.refl _ _ | assumption | apply Below.drew | apply below_drewN | (refine Below.alloc ?_ (by first | omega | (simp; done) | (simp; omega)) _) | (refine Below.setCell ?_ (by first | omega | (simp; done) | (simp; omega)) _)))

end Go.Proofs.Ytifjdiiafofnpaa
