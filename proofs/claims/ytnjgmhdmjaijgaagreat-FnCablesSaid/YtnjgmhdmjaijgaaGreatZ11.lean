/- Steps of the proof, joined from several texts: TM XA XB XD XE XR. -/
import Derived.Test.YtnjgmhdmjaijgaaGreatZ9
import Derived.Test.YtnjgmhdmjaijgaaGreatZ10
import Derived.Test.YtnjgmhdmjaijgaaGreatZ8
import Derived.Lib.AppendZerosOnto
import Derived.Lib.AppendZeros

/- allStacks: the stacks of a chart, the program's side. -/
namespace Go.Proofs.YtnjgmhdmjaijgaaGreat
open Go.RowKit

theorem after_pos {ks st : List Int} (hs : ∀ k ∈ ks, isStitchB k = true) (h : takenS ks = st.length) (h1 : 1 ≤ st.length) : 1 ≤ (afterP ks st).length := by
  cases ks with
  | nil => simp [takenS] at h; omega
  | cons k ks =>
    have h2 := stepMade_madeN (hs k (by simp)) st
    have h3 := (takenN_le k (hs k (by simp))).2.2
    rw [afterP, List.length_append]
    omega
theorem OwnC.head {w : World} {lo hi : Nat} {e : TypeId} {sz : Nat} {A : Option Addr} {n c : Nat} {cs : List Value} (h : OwnC w lo hi e sz A n c cs) (hn : 1 ≤ n) : ∃ g, A = some ⟨g, 0, none⟩ := by
  rcases h.form with ⟨_, h1, _⟩ | ⟨g, _, h1, _⟩
  · omega
  · exact ⟨g, h1⟩

theorem chart_len {n : Int} {rs : List RowD} (h : inR (rs.length : Int) 1 8 = false) : chartB n rs = false := by
  unfold chartB
  rw [h, Bool.and_false, Bool.false_and]

set_option maxHeartbeats 4000000 in
set_option maxRecDepth 20000 in
theorem impl_allStacks (n : Int) (rs : List RowD) (A : Option Addr) (c : Nat) (w : World) (h : RowsR w A rs) (hl : rs.length ≤ 9223372036854775807) :
    Calls Tryz.prog 83 #[.agg #[.int .i64 n, .slice A rs.length c]] w fun e w' => ∃ A' c', e = .returned (.tuple #[.slice A' (chartStacks n rs).length c', .bool (chartB n rs)]) ∧ OwnII w' w.heap.size w'.heap.size A' (chartStacks n rs).length c' (chartStacks n rs) ∧ Below w.heap.size w w' := by
  have hnil : ∀ W, OwnII W w.heap.size W.heap.size none 0 0 [] := fun W => ⟨[], OwnC.nil _ _ _ _ _, ⟨rfl, fun k xs hx => by simp at hx, fun i j v v' g hi' => by simp at hi'⟩⟩
  have HNIL := Lib.hid hnil; clear hnil
  have hb1 : Below w.heap.size w (w.alloc (.cells #[.int .i64 n, .slice A rs.length c] 30)) := by (repeat (first | exact Below.refl _ _ | assumption | apply Below.drew | apply below_drewN | (refine Below.alloc ?_ (by first | omega | (simp; done) | (simp; omega)) _) | (refine Below.setCell ?_ (by first | omega | (simp; done) | (simp; omega)) _)))
  have kb := Blk.new w 30 #[.int .i64 n, .slice A rs.length c]
  cases hn : inR n 1 8
  · have HF : Hid (chartStacks n rs = [] ∧ chartB n rs = false) := Lib.hid (chart_bad (by simp [chartB, hn]))
    go_enter Tryz.func83, Tryz.ntmps83
    go_wp2_with (go_at_call 50; refine (impl_within _ _ _ _).mono ?_; rintro e _ ⟨rfl, rfl⟩)
    go_ret2
    rw [HF.out.1, HF.out.2]
    exact ⟨_, _, rfl, HNIL.out _, hb1⟩
  · by_cases hr1 : rs.length < 1
    · have hr1' : decide ((rs.length : Int) < 1) = true := decide_eq_true (by omega)
      have HF : Hid (chartStacks n rs = [] ∧ chartB n rs = false) := Lib.hid (chart_bad (chart_len (by unfold inR; simp; omega)))
      go_enter Tryz.func83, Tryz.ntmps83
      go_wp2_with (go_at_call 50; refine (impl_within _ _ _ _).mono ?_; rintro e _ ⟨rfl, rfl⟩)
      go_ret2
      rw [HF.out.1, HF.out.2]
      exact ⟨_, _, rfl, HNIL.out _, hb1⟩
    · have hr1' : decide ((rs.length : Int) < 1) = false := decide_eq_false (by omega)
      by_cases hr8 : 8 < rs.length
      · have hr8' : decide ((8 : Int) < (rs.length : Int)) = true := decide_eq_true (by omega)
        have HF : Hid (chartStacks n rs = [] ∧ chartB n rs = false) := Lib.hid (chart_bad (chart_len (by unfold inR; simp; omega)))
        go_enter Tryz.func83, Tryz.ntmps83
        go_wp2_with (go_at_call 50; refine (impl_within _ _ _ _).mono ?_; rintro e _ ⟨rfl, rfl⟩)
        go_ret2
        rw [HF.out.1, HF.out.2]
        exact ⟨_, _, rfl, HNIL.out _, hb1⟩
      · have hr8' : decide ((8 : Int) < (rs.length : Int)) = false := decide_eq_false (by omega)
        have hr : inR (rs.length : Int) 1 8 = true := inR_iff.2 (by omega)
        have hn18 := inR_iff.1 hn
        obtain ⟨m, rfl⟩ := Int.eq_ofNat_of_zero_le (show (0 : Int) ≤ n by omega)
        have HF : Hid (chartB m rs = rowsOkB (List.replicate m 1) rs) := Lib.hid (by unfold chartB; rw [hn, hr]; rfl)
        have HBAD : Hid (rowsOkB (List.replicate m 1) rs = false → chartStacks m rs = [] ∧ chartB m rs = false) := Lib.hid (fun h => chart_bad (by rw [HF.out, h]))
        have HGOOD : Hid (rowsOkB (List.replicate m 1) rs = true → chartStacks m rs = stacksFrom (List.replicate m 1) rs ∧ chartB m rs = true) := Lib.hid (fun h => ⟨by rw [chartStacks, if_pos (by rw [HF.out, h])]; rfl, by rw [HF.out, h]⟩)
        clear hr
        obtain ⟨i1, hi1, hy0, hy1, hy2⟩ := info_parts info_ints
        have hb2' : Below w.heap.size w ((w.alloc (.cells #[.int .i64 m, .slice A rs.length c] 30)).alloc (.cells #[.int .i64 1] 2)) := by (repeat (first | exact Below.refl _ _ | assumption | apply Below.drew | apply below_drewN | (refine Below.alloc ?_ (by first | omega | (simp; done) | (simp; omega)) _) | (refine Below.setCell ?_ (by first | omega | (simp; done) | (simp; omega)) _)))
        have hi1' : Ints ((w.alloc (.cells #[.int .i64 m, .slice A rs.length c] 30)).alloc (.cells #[.int .i64 1] 2)) (some ⟨w.heap.size + 1, 0, none⟩) [1] := by
          intro k hk
          obtain rfl : k = 0 := by simp at hk; omega
          have := (Blk.new (w.alloc (.cells #[.int .i64 m, .slice A rs.length c] 30)) 2 #[.int .i64 1]).c1
          exact ⟨w.heap.size + 1, 0, 1, rfl, by simp, rfl⟩
        have HI := Lib.hid hi1'; clear hi1'
        have kb1 := kb.alloc (.cells #[.int .i64 1] 2)
        obtain ⟨p0, p1⟩ := kb1.c2
        go_enter Tryz.func83, Tryz.ntmps83
        go_wp2_with (go_at_call 50; refine (impl_within _ _ _ _).mono ?_; rintro e _ ⟨rfl, rfl⟩)
        refine (slices_Repeat_n m (by omega) (by omega) _ _ _ HI.out).mono ?_; rintro e w2 ⟨A4, c4, rfl, o4, b4⟩
        have z4 := b4.size
        simp only [World.size_alloc] at z4
        have kb2 := kb1.below b4 (by simp; omega)
        have hbw2 : Below w.heap.size w w2 := hb2'.trans (b4.mono (by simp; omega))
        have ho' : OwnI w2 w.heap.size w2.heap.size A4 c4 (List.replicate m 1) := o4.mono (by simp; omega) (Nat.le_refl _)
        have hst0 : (List.replicate m (1 : Int)).length = m := by simp
        obtain ⟨st0, hst⟩ : ∃ s, s = List.replicate m (1 : Int) := ⟨_, rfl⟩
        rw [← hst] at ho' hst0 HF HBAD HGOOD ⊢
        clear hst p0 p1 kb1 o4 b4 hb2' HI
        subst hst0
        have kb3 := kb2.alloc (.cells #[] 36)
        obtain ⟨p0, p1⟩ := kb3.c2
        go_wp2_with (fail)
        go_loopw [4, 5, 34] (fun nv ov iv wr => ∃ (i : Nat) (st : List Int) (A4 : Option Addr) (c4 : Nat) (A5 : Option Addr) (c5 : Nat) (cs : List Value) (done : List (List Int)), i ≤ rs.length ∧ nv = .slice A4 st.length c4 ∧ ov = .slice A5 i c5 ∧ iv = .int .i64 i ∧ OwnI wr w.heap.size wr.heap.size A4 c4 st ∧ OwnC wr w.heap.size wr.heap.size 36 1 A5 i c5 cs ∧ CellsII wr w.heap.size wr.heap.size cs done ∧ Below w.heap.size w wr ∧ Hid (stacksFrom st0 rs = done ++ stacksFrom st (rs.drop i)) ∧ Hid (rowsOkB st0 rs = rowsOkB st (rs.drop i)) ∧ Hid (done.length = i) ∧ st.length ≤ 8 ∧ 1 ≤ st.length) (fun _ _ iv _ => rs.length - (intOf iv).toNat)
        case atStart =>
          refine ⟨0, st0, A4, c4, some ⟨w2.heap.size, 0, none⟩, 0, [], [], Nat.zero_le _, rfl, rfl, rfl, (ho'.alloc _).mono (Nat.le_refl _) (by simp), ?_, ⟨rfl, fun k xs hx => by simp at hx, fun i j v v' g hi' => by simp at hi'⟩, by (repeat (first | exact Below.refl _ _ | assumption | apply Below.drew | apply below_drewN | (refine Below.alloc ?_ (by first | omega | (simp; done) | (simp; omega)) _) | (refine Below.setCell ?_ (by first | omega | (simp; done) | (simp; omega)) _))), Lib.hid rfl, Lib.hid rfl, Lib.hid rfl, by omega, by omega⟩
          exact (OwnC.lit _ 1 #[] (Nat.le_refl _) (Nat.zero_le _) rfl).mono (by omega) (by simp)
        case round =>
          clear ho' p0 p1 kb2 kb3
          obtain ⟨i, st, A4, c4, A5, c5, cs, done, hi, rfl, rfl, rfl, ho4, ho5, hci, hbq, HS, HO, HD, hst8, hst1⟩ := hrel
          have hzq := hbq.size
          by_cases hlr : i < rs.length
          · obtain ⟨b, off, A7, c7, r, rfl, hrx, f0, f1, f2, hri, hrl⟩ := (h.below hbq) i hlr
            have HS2 : Hid (stacksFrom st0 rs = (done ++ [(stacksAfterP st r.s).1]) ++ stacksFrom (stacksAfterP st r.s).1 (rs.drop (i + 1))) := Lib.hid (by rw [HS.out, stacksFrom_drop hrx, List.append_assoc]; rfl)
            have HO2 : Hid (rowsOkB st0 rs = (rowOkB st r && rowsOkB (stacksAfterP st r.s).1 (rs.drop (i + 1)))) := Lib.hid (by rw [HO.out, rowsOkB_drop hrx])
            clear hrx HS HO
            have hnx8 := stacksAfterP_length st r.s
            have j1 : (0 : Int) ≤ (i : Int) := by omega
            have j2 : (i : Int) < (rs.length : Int) := by omega
            have hbA : Below wr.heap.size wr (wr.alloc (.cells #[.int .i64 r.d, .int .i64 r.r, .slice A7 r.s.length c7] 50)) := by (repeat (first | exact Below.refl _ _ | assumption | apply Below.drew | apply below_drewN | (refine Below.alloc ?_ (by first | omega | (simp; done) | (simp; omega)) _) | (refine Below.setCell ?_ (by first | omega | (simp; done) | (simp; omega)) _)))
            have hbB : Below w.heap.size w (wr.alloc (.cells #[.int .i64 r.d, .int .i64 r.r, .slice A7 r.s.length c7] 50)) := hbq.alloc hzq _
            have kr := Blk.new wr 50 #[.int .i64 r.d, .int .i64 r.r, .slice A7 r.s.length c7]
            obtain ⟨s0, s1, s2⟩ := kr.c3
            have HVR := Lib.hid (impl_ValidRow r.d r.r A7 c7 r.s (wr.alloc (.cells #[.int .i64 r.d, .int .i64 r.r, .slice A7 r.s.length c7] 50)) (hri.below hbA) hrl)
            cases hrow : rowB r.d r.r r.s
            · have HBB := HBAD.out (by rw [HO2.out, rowOkB, hrow]; rfl)
              have HBB' := Lib.hid HBB; clear HBB
              rw [hrow] at HVR
              go_wp2_with (go_at_call 66; refine HVR.out.mono ?_; rintro e w3 ⟨rfl, b3⟩)
              go_ret2
              rw [HBB'.out.1, HBB'.out.2]
              exact ⟨_, _, rfl, HNIL.out _, hbB.trans (b3.mono (by simp; omega))⟩
            · rw [hrow] at HVR
              have HI4 := Lib.hid ho4.ints
              have hcap := ho4.cap
              have hcapm := ho4.capmax
              obtain ⟨g4, rfl⟩ := OwnC.head ho4 hst1
              go_wp2_with (go_at_call 66; refine HVR.out.mono ?_; rintro e w3 ⟨rfl, b3⟩; obtain ⟨s0', s1', s2'⟩ := (kr.below b3 (by simp)).c3)
              have z3 := b3.size
              simp only [World.size_alloc] at z3 b3
              have kr3 := kr.below b3 (by omega)
              obtain ⟨s0', s1', s2'⟩ := kr3.c3
              have hb3 : Below wr.heap.size wr w3 := hbA.trans (b3.mono (by omega))
              refine (impl_StacksAfter st r.s (some ⟨g4, 0, none⟩) c4 A7 c7 _ (HI4.out.below hb3) (by omega) hcap hcapm (.inr ⟨_, _, rfl⟩) (hri.below hb3) hrl).mono ?_; rintro e w4 ⟨A3, c3, rfl, o3, b4⟩
              have z4 := b4.size
              have hb4 : Below wr.heap.size wr w4 := hb3.trans (b4.mono (by omega))
              have hbw4 : Below w.heap.size w w4 := hbq.trans (hb4.mono hzq)
              have kr4 := kr3.below b4 (by omega)
              clear s0 s1 s2 s0' s1' s2'
              obtain ⟨s0, s1, s2⟩ := kr4.c3
              cases hcd : stepCode st r.s
              · have hcd' : ((stacksAfterP st r.s).2 != 0) = true := by simpa [stepCode] using hcd
                have HBB := HBAD.out (by rw [HO2.out, rowOkB, hcd, Bool.and_false, Bool.false_and, Bool.false_and])
                have HBB' := Lib.hid HBB; clear HBB
                go_wp2_with (fail)
                go_ret2
                rw [HBB'.out.1, HBB'.out.2]
                exact ⟨_, _, rfl, HNIL.out _, hbw4⟩
              · have hcd' : ((stacksAfterP st r.s).2 != 0) = false := by simpa [stepCode] using hcd
                obtain ⟨q1, q2, q3, q4, q5⟩ := stepCode_of hcd
                have hnx1 : 1 ≤ (stacksAfterP st r.s).1.length := by rw [q4]; exact after_pos (stitchesB_of q2).2 q3 hst1
                have HTH := Lib.hid (impl_keepsLimit r.d r.r st r.s g4 0 c4 A7 c7 w4 (HI4.out.below hb4) hcap hcapm (hri.below hb4) q1 q2 q3)
                clear q1 q2 q3 q4 q5
                have ho5' := ho5.below hb4 (Nat.le_refl _)
                have hci' : CellsII w4 w.heap.size wr.heap.size cs done := hci.keep fun q _ h2 _ => hb4.block q h2
                have HR : Hid (rowOkB st r = keepB r.d st r.s) := Lib.hid (by rw [rowOkB, hrow, hcd]; simp)
                clear hcd hrow
                cases hkp : keepB r.d st r.s
                · have HBB := HBAD.out (by rw [HO2.out, HR.out, hkp]; rfl)
                  have HBB' := Lib.hid HBB; clear HBB
                  rw [hkp] at HTH
                  go_wp2_with (go_at_call 127; refine HTH.out.mono ?_; rintro e w5 ⟨rfl, b5⟩)
                  go_ret2
                  rw [HBB'.out.1, HBB'.out.2]
                  exact ⟨_, _, rfl, HNIL.out _, hbw4.trans (b5.mono (by omega))⟩
                · have HO3 : Hid (rowsOkB st0 rs = rowsOkB (stacksAfterP st r.s).1 (rs.drop (i + 1))) := Lib.hid (by rw [HO2.out, HR.out, hkp]; rfl)
                  rw [hkp] at HTH
                  clear HO2 HR hkp
                  generalize (stacksAfterP st r.s).1 = nx at o3 HTH HS2 HO3 hnx8 hnx1 ⊢
                  go_wp2_with (first | (go_at_call 127; refine HTH.out.mono ?_; rintro e w5 ⟨rfl, b5⟩; have z5 := b5.size; have oA := ho5'.below b5 (by omega)) | (at_builtin; refine wpList_append1 w5 [.slice A3 nx.length c3] _ rfl (.tmp 57) (.tmp 59) _ rfl 36 i1 _ 1 24 Tryz.underlying46 hi1 hy0 hy1 hy2 rfl (by decide) rfl oA (by omega) 1 rfl rfl (by simp [Value.oneCell']) (by omega) (by decide) ?_; intro A6 c6 w6 ho6 hg6 hb6 hz6))
                  have hb5 : Below w.heap.size w w5 := hbw4.trans (b5.mono (by omega))
                  have hci5 : CellsII w5 w.heap.size wr.heap.size cs done := hci'.keep fun q _ h2 _ => b5.block q (by omega)
                  obtain ⟨oN, hN⟩ := stacks_step oA hci5 ((o3.below b5 (Nat.le_refl _)).mono (by omega) z5) hzq (by omega) hg6 hz6
                  go_roundw
                  case rel => exact ⟨i + 1, nx, A3, c3, A6, c6, _, done ++ [nx], by omega, rfl, rfl, by go_num, oN, ho6, hN, hb5.trans hb6, HS2, HO3, Lib.hid (by rw [List.length_append, HD.out]; rfl), hnx8, hnx1⟩
                  case measure => simp [intOf]; omega
          · have h9 := HS.out
            have h8 := HO.out
            rw [drop_all (by omega), stacksFrom, List.append_nil] at h9
            rw [drop_all (by omega), rowsOkB] at h8
            have HG := Lib.hid (HGOOD.out h8)
            have H9 := Lib.hid h9; clear h9 h8
            obtain rfl : i = rs.length := by omega
            go_wp2_with (fail)
            go_ret2
            rw [HG.out.1, HG.out.2, H9.out, HD.out]
            exact ⟨_, _, rfl, ⟨cs, ho5, hci⟩, hbq⟩

theorem impl_ValidChart (n : Int) (rs : List RowD) (A : Option Addr) (c : Nat) (w : World) (h : RowsR w A rs) (hl : rs.length ≤ 9223372036854775807) :
    Calls Tryz.prog 42 #[.agg #[.int .i64 n, .slice A rs.length c]] w fun e w' => e = .returned (.bool (chartB n rs)) ∧ Below w.heap.size w w' := by
  have hb1 : Below w.heap.size w (w.alloc (.cells #[.int .i64 n, .slice A rs.length c] 30)) := by (repeat (first | exact Below.refl _ _ | assumption | apply Below.drew | apply below_drewN | (refine Below.alloc ?_ (by first | omega | (simp; done) | (simp; omega)) _) | (refine Below.setCell ?_ (by first | omega | (simp; done) | (simp; omega)) _)))
  have kb := Blk.new w 30 #[.int .i64 n, .slice A rs.length c]
  obtain ⟨p0, p1⟩ := kb.c2
  go_enter Tryz.func42, Tryz.ntmps42
  go_wp2_with (fail)
  refine (impl_allStacks n rs A c _ (h.below hb1) hl).mono ?_; rintro e w2 ⟨A', c', rfl, _, b2⟩
  go_wp2_with (fail)
  go_ret
  exact ⟨rfl, hb1.trans (b2.mono (by simp))⟩

end Go.Proofs.YtnjgmhdmjaijgaaGreat

/- Charts: the plain functions of what is made of valid charts. -/
namespace Go.Proofs.YtnjgmhdmjaijgaaGreat
open Go.RowKit

theorem rowB_of {d r : Int} {s : List Int} (h : rowB d r s = true) : (d = 1 ∨ d = -1) ∧ (1 ≤ r ∧ r ≤ 4) ∧ stitchesB s = true ∧ s.length ≤ 16 := by
  unfold rowB dirB carrierB at h
  simp only [Bool.and_eq_true, Bool.or_eq_true, beq_iff_eq] at h
  refine ⟨h.1.1, inR_iff.1 h.1.2, h.2, ?_⟩
  have h2 := h.2
  unfold stitchesB at h2
  simp only [Bool.and_eq_true, decide_eq_true_eq] at h2
  exact h2.2
theorem rowsOk_rows {st : List Int} {rs : List RowD} (h : rowsOkB st rs = true) : ∀ r ∈ rs, rowB r.d r.r r.s = true := by
  induction rs generalizing st with
  | nil => intro r hr; simp at hr
  | cons q rs ih =>
    simp only [rowsOkB, rowOkB, Bool.and_eq_true] at h
    intro r hr
    rcases List.mem_cons.1 hr with rfl | hr
    · exact h.1.1.1
    · exact ih h.2 r hr
theorem chartB_of {n : Int} {rs : List RowD} (h : chartB n rs = true) : (1 ≤ n ∧ n ≤ 8) ∧ (1 ≤ rs.length ∧ rs.length ≤ 8) ∧ ∀ r ∈ rs, rowB r.d r.r r.s = true := by
  unfold chartB at h
  simp only [Bool.and_eq_true] at h
  have h1 := inR_iff.1 h.1.1
  have h2 := inR_iff.1 h.1.2
  exact ⟨h1, by omega, rowsOk_rows h.2⟩
theorem lenRows_le {rs : List RowD} {m : Nat} (h : ∀ r ∈ rs, r.s.length ≤ m) : lenRows rs ≤ rs.length * m := by
  induction rs with
  | nil => simp [lenRows]
  | cons x r ih =>
    have h1 := h x (by simp)
    have h2 := ih fun y hy => h y (by simp [hy])
    simp only [lenRows, List.length_cons, Nat.succ_mul]
    omega
theorem chart_size {n : Int} {rs : List RowD} (h : chartB n rs = true) : rs.length ≤ 8 ∧ lenRows rs ≤ 128 := by
  obtain ⟨_, h2, h3⟩ := chartB_of h
  have h4 := lenRows_le fun r hr => (rowB_of (h3 r hr)).2.2.2
  have h5 := Nat.mul_le_mul_right 16 h2.2
  omega
theorem ch_size {X : ChX} (h : X = ⟨0, []⟩ ∨ chartB X.n X.xs = true) : X.xs.length ≤ 9 ∧ cntRows X.xs ≤ 1000 := by
  rcases h with rfl | h
  · simp [cntRows, lenRows]
  · have := chart_size h
    unfold cntRows
    omega

def validCode (n : Int) (rs : List RowD) : Int := if chartB n rs then 0 else 1
def colsP (n : Int) (rs : List RowD) : List Int := (chartStacks n rs).map fun s => (s.length : Int)
theorem colsP_length (n : Int) (rs : List RowD) : (colsP n rs).length ≤ 8 := by
  have := (chartStacks_size n rs).1
  unfold colsP
  rw [List.length_map]
  exact this
theorem colsP_bad {n : Int} {rs : List RowD} (h : chartB n rs = false) : chartStacks n rs = [] ∧ colsP n rs = [] ∧ validCode n rs = 1 := by
  have h1 : chartStacks n rs = [] := by rw [chartStacks, if_neg (by rw [h]; decide)]
  exact ⟨h1, by rw [colsP, h1]; rfl, by rw [validCode, if_neg (by rw [h]; decide)]⟩
theorem colsP_good {n : Int} {rs : List RowD} (h : chartB n rs = true) : colsP n rs = (chartStacks n rs).map (fun s => (s.length : Int)) ∧ validCode n rs = 0 :=
  ⟨rfl, by rw [validCode, if_pos h]⟩

/-- A mirror's view. -/
def mirK (k : Int) : Int := if k = 4 then 5 else if k = 5 then 4 else if k = 8 then 9 else if k = 9 then 8 else if k = 10 then 11 else if k = 11 then 10 else if isStitchB k then k else 0
def mirRow (r : RowD) : RowD := ⟨-r.d, r.r, r.s.reverse.map mirK⟩
def mirX (n : Int) (rs : List RowD) : ChX := if chartB n rs then ⟨n, rs.map mirRow⟩ else ⟨0, []⟩
theorem lenRows_mir (rs : List RowD) : lenRows (rs.map mirRow) = lenRows rs := by
  induction rs with
  | nil => rfl
  | cons x r ih => simp [lenRows, ih, mirRow]
theorem mirX_size (n : Int) (rs : List RowD) : (mirX n rs).xs.length ≤ 9 ∧ cntRows (mirX n rs).xs ≤ 1000 := by
  unfold mirX
  split
  · rename_i h
    have := chart_size h
    have h2 := lenRows_mir rs
    unfold cntRows
    simp only [List.length_map]
    omega
  · simp [cntRows, lenRows]

/-- The number of columns behind the last row of a valid chart. -/
def lastOf (n : Int) (rs : List RowD) : Int := ((chartStacks n rs).getLast?.getD []).length
def stackCode (n : Int) (rs : List RowD) (m : Int) (ss : List RowD) : Int := if chartB n rs && chartB m ss then (if lastOf n rs = m then (if chartB n (rs ++ ss) then 0 else 5) else 10) else 1
def stackX (n : Int) (rs : List RowD) (m : Int) (ss : List RowD) : ChX := if stackCode n rs m ss = 0 then ⟨n, rs ++ ss⟩ else ⟨0, []⟩
theorem stack_err {n : Int} {rs : List RowD} {m : Int} {ss : List RowD} {k : Int} (e : stackCode n rs m ss = k) (hk : k ≠ 0) : stackX n rs m ss = ⟨0, []⟩ ∧ stackCode n rs m ss = k := ⟨by rw [stackX, if_neg (by rw [e]; exact hk)], e⟩
theorem stackX_size (n : Int) (rs : List RowD) (m : Int) (ss : List RowD) : (stackX n rs m ss).xs.length ≤ 9 ∧ cntRows (stackX n rs m ss).xs ≤ 1000 := by
  refine ch_size ?_
  unfold stackX
  split
  · rename_i h
    refine .inr ?_
    unfold stackCode at h
    split at h
    · split at h
      · split at h
        · assumption
        · simp at h
      · simp at h
    · simp at h
  · exact .inl rfl
def repRows : Nat → List RowD → List RowD
  | 0, _ => []
  | k + 1, rs => repRows k rs ++ rs
theorem repRows_length (k : Nat) (rs : List RowD) : (repRows k rs).length = k * rs.length := by
  induction k with
  | zero => simp [repRows]
  | succ k ih => rw [repRows, List.length_append, ih, Nat.succ_mul]
def repCode (n : Int) (rs : List RowD) (t : Int) : Int := if chartB n rs then (if inR t 1 8 then (if decide (1 < t) && !decide (lastOf n rs = n) then 10 else if chartB n (repRows t.toNat rs) then 0 else 5) else 2) else 1
def repX (n : Int) (rs : List RowD) (t : Int) : ChX := if repCode n rs t = 0 then ⟨n, repRows t.toNat rs⟩ else ⟨0, []⟩
theorem rep_err {n : Int} {rs : List RowD} {t : Int} {k : Int} (e : repCode n rs t = k) (hk : k ≠ 0) : repX n rs t = ⟨0, []⟩ ∧ repCode n rs t = k := ⟨by rw [repX, if_neg (by rw [e]; exact hk)], e⟩
theorem repX_size (n : Int) (rs : List RowD) (t : Int) : (repX n rs t).xs.length ≤ 9 ∧ cntRows (repX n rs t).xs ≤ 1000 := by
  refine ch_size ?_
  unfold repX
  split
  · rename_i h
    refine .inr ?_
    unfold repCode at h
    split at h
    · split at h
      · split at h
        · simp at h
        · split at h
          · assumption
          · simp at h
      · simp at h
    · simp at h
  · exact .inl rfl
/-- Two charts side by side. -/
def joinRow (a b : RowD) : RowD := ⟨a.d, a.r, a.s ++ b.s⟩
def joinRows : List RowD → List RowD → List RowD
  | [], _ => []
  | _, [] => []
  | a :: rs, b :: ss => joinRow a b :: joinRows rs ss
def sameHead (a b : RowD) : Bool := decide (a.d = b.d) && decide (a.r = b.r)
def sameHeads : List RowD → List RowD → Bool
  | [], _ => true
  | _, [] => true
  | a :: rs, b :: ss => sameHead a b && sameHeads rs ss
theorem joinRows_length (rs ss : List RowD) (h : rs.length = ss.length) : (joinRows rs ss).length = rs.length := by
  induction rs generalizing ss with
  | nil => simp [joinRows]
  | cons a rs ih =>
    cases ss with
    | nil => simp at h
    | cons b bs => simp [joinRows, ih bs (by simpa using h)]
def besCode (n : Int) (rs : List RowD) (m : Int) (ss : List RowD) : Int := if chartB n rs && chartB m ss then (if rs.length = ss.length then (if sameHeads rs ss then (if chartB (n + m) (joinRows rs ss) then 0 else 5) else 6) else 6) else 1
def besX (n : Int) (rs : List RowD) (m : Int) (ss : List RowD) : ChX := if besCode n rs m ss = 0 then ⟨n + m, joinRows rs ss⟩ else ⟨0, []⟩
theorem bes_err {n : Int} {rs : List RowD} {m : Int} {ss : List RowD} {k : Int} (e : besCode n rs m ss = k) (hk : k ≠ 0) : besX n rs m ss = ⟨0, []⟩ ∧ besCode n rs m ss = k := ⟨by rw [besX, if_neg (by rw [e]; exact hk)], e⟩
theorem besX_size (n : Int) (rs : List RowD) (m : Int) (ss : List RowD) : (besX n rs m ss).xs.length ≤ 9 ∧ cntRows (besX n rs m ss).xs ≤ 1000 := by
  refine ch_size ?_
  unfold besX
  split
  · rename_i h
    refine .inr ?_
    unfold besCode at h
    split at h
    · split at h
      · split at h
        · split at h
          · assumption
          · simp at h
        · simp at h
      · simp at h
    · simp at h
  · exact .inl rfl
/-- Cables. -/
def plainRow (s : List Int) : Bool := s.all fun k => !inR k 3 7
def plainB (rs : List RowD) : Bool := rs.all fun r => plainRow r.s
def cableB (n : Int) (rs : List RowD) : Bool := chartB n rs && plainB rs
def rowsWord (rs : List RowD) : List Int := rs.flatMap fun r => lettersFrom r.s 0
structure BrX where
  n : Int
  xs : List Int
def cbCode (n : Int) (rs : List RowD) : Int := if chartB n rs then (if plainB rs then (if (rowsWord rs).length ≤ 40 then 0 else 5) else 6) else 1
def cbX (n : Int) (rs : List RowD) : BrX := if cbCode n rs = 0 then ⟨n, rowsWord rs⟩ else ⟨0, []⟩
theorem cb_err {n : Int} {rs : List RowD} {k : Int} (e : cbCode n rs = k) (hk : k ≠ 0) : cbX n rs = ⟨0, []⟩ ∧ cbCode n rs = k := ⟨by rw [cbX, if_neg (by rw [e]; exact hk)], e⟩
theorem cbX_size (n : Int) (rs : List RowD) : (cbX n rs).xs.length ≤ 40 := by
  unfold cbX
  split
  · rename_i h
    unfold cbCode at h
    split at h
    · split at h
      · split at h
        · assumption
        · simp at h
      · simp at h
    · simp at h
  · simp

end Go.Proofs.YtnjgmhdmjaijgaaGreat

/- Charts: ColumnsAfter, StacksOf. -/
namespace Go.Proofs.YtnjgmhdmjaijgaaGreat
open Go.RowKit

set_option maxRecDepth 10000 in
theorem spec_l00Own (A : Option Addr) (c : Nat) (xs : List Int) (w : World) (h : Ints w A xs) (hl : xs.length ≤ 1048576) :
    Calls Tryz.prog 89 #[.slice A xs.length c] w fun e w' => ∃ A' c', e = .returned (.slice A' xs.length c') ∧ OwnI w' w.heap.size w'.heap.size A' c' xs ∧ Below w.heap.size w w' := by
  obtain ⟨i0, hi0, hz0, hz1, hz2⟩ := info_parts info_int64
  have o1 := OwnC.lit (w := w) (lo := w.heap.size) (n := 0) 2 1 #[] (Nat.le_refl _) (Nat.zero_le _) rfl
  have hb1 : Below w.heap.size w (w.alloc (.cells #[] 2)) := by (repeat (first | exact Below.refl _ _ | assumption | apply Below.drew | apply below_drewN | (refine Below.alloc ?_ (by first | omega | (simp; done) | (simp; omega)) _) | (refine Below.setCell ?_ (by first | omega | (simp; done) | (simp; omega)) _)))
  have hn := (h.below hb1).news
  have O1 := Lib.hid o1; clear o1
  have HN := Lib.hid hn; clear hn
  go_enter Tryz.func89, Tryz.ntmps89
  go_wp2_with (at_builtin; refine wpList_appendC (w.alloc (.cells #[] 2)) rfl (.tmp 3) (.tmp 4) _ rfl 2 i0 _ 1 8 Tryz.underlying36 hi0 hz0 hz1 hz2 rfl (by decide) rfl O1.out (by simp) A xs.length c (xs.map (Value.int .i64)) rfl (by simp) HN.out (ints_one _) (by unfold maxLen; omega) (by omega) ?_; intro A5 c5 w5 ho5 hg5 hb5)
  go_ret
  refine ⟨A5, c5, by simp, ?_, hb1.trans hb5⟩
  simpa using ho5


end Go.Proofs.YtnjgmhdmjaijgaaGreat

/- Charts: slices.Grow, slices.Concat, copies of rows. -/
namespace Go.Proofs.YtnjgmhdmjaijgaaGreat
open Go.RowKit

/-- The cells at an address, wherever they lie. -/
def CellsAt (w : World) (A : Option Addr) (cs : List Value) : Prop := ∀ (j : Nat) (u : Value), cs[j]? = some u → ∃ b off, A = some ⟨b, off, none⟩ ∧ w.cell? ⟨b, off + j, none⟩ = some u
theorem CellsAt.of_cells {w w' : World} {A : Option Addr} {cs : List Value} (h : CellsAt w A cs) (hk : ∀ a v, w.cell? a = some v → w'.cell? a = some v) : CellsAt w' A cs :=
  fun j u hu => by obtain ⟨b, off, hA, hc⟩ := h j u hu; exact ⟨b, off, hA, hk _ _ hc⟩
theorem CellsAt.below {w w' : World} {A : Option Addr} {cs : List Value} (h : CellsAt w A cs) (hb : Below w.heap.size w w') : CellsAt w' A cs := h.of_cells (cells_below hb)
theorem OwnC.cellsAt {w : World} {lo hi : Nat} {e : TypeId} {sz : Nat} {A : Option Addr} {n c : Nat} {cs : List Value} (h : OwnC w lo hi e sz A n c cs) : CellsAt w A cs := by
  intro j u hu
  have hj := (List.getElem?_eq_some_iff.1 hu).1
  obtain ⟨g, hA, _, _, hc, _⟩ := h.cell hj
  refine ⟨g, 0, hA, ?_⟩
  rw [Nat.zero_add, hc, ← hu, List.getElem?_eq_getElem hj]
structure PartD where
  n : Nat
  cs : List Value
def partsN : List PartD → Nat
  | [] => 0
  | p :: r => p.n + partsN r
def partsC : List PartD → List Value
  | [] => []
  | p :: r => p.cs ++ partsC r
theorem partsN_append (a b : List PartD) : partsN (a ++ b) = partsN a + partsN b := by
  induction a with
  | nil => simp [partsN]
  | cons x r ih => simp [partsN, ih]; omega
theorem partsC_append (a b : List PartD) : partsC (a ++ b) = partsC a ++ partsC b := by
  induction a with
  | nil => simp [partsC]
  | cons x r ih => simp [partsC, ih]
theorem partsN_snoc {ps : List PartD} {k : Nat} {p : PartD} (h : ps[k]? = some p) : partsN (ps.take (k + 1)) = partsN (ps.take k) + p.n := by
  rw [take_snoc h, partsN_append]; simp [partsN]
theorem partsC_snoc {ps : List PartD} {k : Nat} {p : PartD} (h : ps[k]? = some p) : partsC (ps.take (k + 1)) = partsC (ps.take k) ++ p.cs := by
  rw [take_snoc h, partsC_append]; simp [partsC]
theorem partsN_take_le (ps : List PartD) (k : Nat) : partsN (ps.take k) ≤ partsN ps := by
  have := partsN_append (ps.take k) (ps.drop k)
  rw [List.take_append_drop] at this
  omega
theorem partsN_at {ps : List PartD} {k : Nat} {p : PartD} (h : ps[k]? = some p) : partsN (ps.take k) + p.n ≤ partsN ps := by
  rw [← partsN_snoc h]; exact partsN_take_le _ _
/-- A slice of slices, whose cells are known. -/
def SlicesAt (w : World) (A : Option Addr) (sz : Nat) (ps : List PartD) : Prop :=
  ∀ k, k < ps.length → ∃ b off A' c' p, A = some ⟨b, off, none⟩ ∧ ps[k]? = some p ∧ p.cs.length = p.n * sz ∧ (∀ u ∈ p.cs, u.oneCell' = true) ∧ w.cell? ⟨b, off + k, none⟩ = some (.slice A' p.n c') ∧ CellsAt w A' p.cs
theorem SlicesAt.of_cells {w w' : World} {A : Option Addr} {sz : Nat} {ps : List PartD} (h : SlicesAt w A sz ps) (hk : ∀ a v, w.cell? a = some v → w'.cell? a = some v) : SlicesAt w' A sz ps :=
  fun k hk' => by
    obtain ⟨b, off, A', c', p, hA, hx, hn, h1, hc, hi⟩ := h k hk'
    exact ⟨b, off, A', c', p, hA, hx, hn, h1, hk _ _ hc, hi.of_cells hk⟩
theorem SlicesAt.below {w w' : World} {A : Option Addr} {sz : Nat} {ps : List PartD} (h : SlicesAt w A sz ps) (hb : Below w.heap.size w w') : SlicesAt w' A sz ps := h.of_cells (cells_below hb)
def partOf (xs : List Int) : PartD := ⟨xs.length, xs.map (Value.int .i64)⟩
theorem partsN_of (xss : List (List Int)) : partsN (xss.map partOf) = cntII xss := by
  induction xss with
  | nil => rfl
  | cons x r ih => simp [partsN, cntII, partOf, ih]
theorem partsC_of (xss : List (List Int)) : partsC (xss.map partOf) = xss.flatten.map (Value.int .i64) := by
  induction xss with
  | nil => rfl
  | cons x r ih => simp [partsC, partOf, ih]
theorem length_flatten (xss : List (List Int)) : xss.flatten.length = cntII xss := by
  induction xss with
  | nil => rfl
  | cons x r ih => simp [cntII, ih]
theorem Ints2.slices {w : World} {A : Option Addr} {xss : List (List Int)} (h : Ints2 w A xss) : SlicesAt w A 1 (xss.map partOf) := by
  intro k hk
  obtain ⟨b, off, A', c', xs, hA, hx, hc, hi, _⟩ := h k (by simpa using hk)
  exact ⟨b, off, A', c', partOf xs, hA, by rw [List.getElem?_map, hx]; rfl, by simp [partOf], ints_one _, hc, hi.news⟩
theorem zeroCells_size (z : Array Value) (k : Nat) : (Builtin.zeroCells z k).size = k * z.size := by simp [Builtin.zeroCells]

set_option maxHeartbeats 2000000 in
set_option maxRecDepth 100000 in
theorem slices_Grow_int64_int64 (n : Nat) (w : World) (hn : n ≤ 1000000) :
    Calls Tryz.prog 147 #[.slice none 0 0, .int .i64 n] w fun e w' => ∃ A' c', e = .returned (.slice A' 0 c') ∧ OwnC w' w.heap.size w'.heap.size 2 1 A' 0 c' [] ∧ Below w.heap.size w w' := by
  obtain ⟨i0, hi0, hz0, hz1, hz2⟩ := info_parts info_int64
  by_cases h0 : n = 0
  · subst h0
    rw [show ((0 : Nat) : Int) = 0 from rfl]
    go_enter Tryz.func147, Tryz.ntmps147
    go_wp2_with (fail)
    go_ret
    exact ⟨none, 0, rfl, OwnC.nil _ _ _ _ _, Below.refl _ _⟩
  · have hpos : 0 < n := by omega
    have hold : (Builtin.firstCells i0.size 0 (.slice none 0 0)).run Tryz.prog w.drew = .ok ([] : List Value).toArray w.drew := run_firstCells_none w.drew i0.size 0 0 0
    have hrz : ∀ ty, (Builtin.append_ #[36, 3] ty #[.slice none 0 0, .int .i64 n]).run Tryz.prog w = .ok (.slice (some ⟨w.heap.size, 0, none⟩) (0 + n) (grownCap w (0 + n) 0 2)) (w.drew.alloc (.cells (([] : List Value).toArray ++ Builtin.zeroCells _ n ++ Builtin.zeroCells _ (grownCap w (0 + n) 0 2 - (0 + n))) 2)) := fun ty =>
      Lib.run_append_grow_zeros w 36 3 ty 2 i0 _ .i64 .i64 Tryz.underlying36 Tryz.underlying3 hi0 hz0 none 0 0 [] hold n hpos (by rw [hz1]; decide) (by omega) (by omega) (by rw [hz2]; omega) (growslice_fits (by omega) (by rw [hz2]; omega))
    have hGn : 0 + n ≤ grownCap w (0 + n) 0 2 := grownCap_ge w _ _ _
    have hGm : grownCap w (0 + n) 0 2 ≤ maxLen := grownCap_le_maxLen w (0 + n) 0 2 (by unfold maxLen; omega)
    simp only [Nat.zero_add] at hrz hGn hGm
    obtain ⟨G, hG⟩ : ∃ G, G = grownCap w n 0 2 := ⟨_, rfl⟩
    rw [← hG] at hrz hGn hGm
    have hG63 : G ≤ 9223372036854775807 := by unfold maxLen at hGm; omega
    clear hG hold
    have HRZ := Lib.hid hrz; clear hrz
    have HGM := Lib.hid hGm; clear hGm
    go_enter Tryz.func147, Tryz.ntmps147
    go_wp2_with (at_builtin; refine Lib.wpList_append_run _ rfl _ _ _ _ rfl _ _ rfl rfl _ _ (HRZ.out _) ?_)
    all_goals go_ret
    all_goals
      refine ⟨_, _, rfl, ⟨⟨rfl, .inr ⟨w.heap.size, G, _, rfl, Nat.le_refl _, heap_alloc_new w.drew _, Nat.zero_le _, HGM.out, ?_, by simp⟩⟩, fun a h => by injection h with h; subst h; simp⟩, ?_⟩
      · simp only [Array.size_append, zeroCells_size, List.size_toArray]
        rw [← Nat.add_mul, Nat.add_sub_cancel' hGn]
        rfl
      · exact ((Below.refl _ _).drew).alloc (Nat.le_refl _) _

set_option maxHeartbeats 2000000 in
set_option maxRecDepth 100000 in
theorem slices_Concat_int64_int64 (ps : List PartD) (A : Option Addr) (c : Nat) (w : World) (h : SlicesAt w A 1 ps) (hl : ps.length ≤ 1000000) (hn : partsN ps ≤ 1000000) :
    Calls Tryz.prog 109 #[.slice A ps.length c] w fun e w' => ∃ A' c', e = .returned (.slice A' (partsN ps) c') ∧ OwnC w' w.heap.size w'.heap.size 2 1 A' (partsN ps) c' (partsC ps) ∧ Below w.heap.size w w' := by
  obtain ⟨i0, hi0, hz0, hz1, hz2⟩ := info_parts info_int64
  go_enter Tryz.func109, Tryz.ntmps109
  go_wp2_with (fail)
  go_loop [3, 11] (fun s i => ∃ k : Nat, k ≤ ps.length ∧ i = .int .i64 k ∧ s = .int .i64 (partsN (ps.take k))) (fun _ i => ps.length - (intOf i).toNat)
  case atStart => exact ⟨0, Nat.zero_le _, rfl, rfl⟩
  case round =>
    obtain ⟨k, hk, rfl, rfl⟩ := hrel
    by_cases hlt : k < ps.length
    · obtain ⟨b, off, A', c', p, rfl, hx, hpn, _, hc, hi⟩ := h k hlt
      have hle := partsN_at hx
      have HS : Hid (partsN (ps.take (k + 1)) = partsN (ps.take k) + p.n) := Lib.hid (partsN_snoc hx)
      clear hx
      go_wp2_with (fail)
      go_round
      case rel => exact ⟨k + 1, by omega, by go_num, by rw [HS.out]; go_num⟩
      case measure => simp [intOf]; omega
    · obtain rfl : k = ps.length := by omega
      rw [take_all (Nat.le_refl _)]
      go_wp2_with (fail)
      refine (slices_Grow_int64_int64 (partsN ps) _ hn).mono ?_; rintro e w2 ⟨A2, c2, rfl, o2, b2⟩
      go_wp2_with (fail)
      go_loopw [6, 27] (fun ov iv wr => ∃ (k : Nat) (A3 : Option Addr) (c3 : Nat), k ≤ ps.length ∧ iv = .int .i64 k ∧ ov = .slice A3 (partsN (ps.take k)) c3 ∧ OwnC wr w.heap.size wr.heap.size 2 1 A3 (partsN (ps.take k)) c3 (partsC (ps.take k)) ∧ Below w.heap.size w wr) (fun _ iv _ => ps.length - (intOf iv).toNat)
      case atStart => exact ⟨0, A2, c2, Nat.zero_le _, rfl, rfl, o2, b2⟩
      case round =>
        obtain ⟨k, A3, c3, hk, rfl, rfl, ho, hb⟩ := hrel
        have hzs := hb.size
        by_cases hlt : k < ps.length
        · obtain ⟨b, off, A4, c4, p, rfl, hx, hpn, h1, hc, hi⟩ := (h.below hb) k hlt
          have hle := partsN_at hx
          have HN : Hid (partsN (ps.take (k + 1)) = partsN (ps.take k) + p.n) := Lib.hid (partsN_snoc hx)
          have HC : Hid (partsC (ps.take (k + 1)) = partsC (ps.take k) ++ p.cs) := Lib.hid (partsC_snoc hx)
          have HI := Lib.hid hi
          have H1 := Lib.hid h1
          have HP := Lib.hid hpn
          clear hx hi h1 hpn
          generalize partsN (ps.take k) = m at ho hle HN ⊢
          generalize partsC (ps.take k) = L at ho HC
          go_wp2_with (at_builtin; refine wpList_appendC wr rfl (.tmp 31) (.tmp 32) _ rfl 2 i0 _ 1 8 Tryz.underlying36 hi0 hz0 hz1 hz2 rfl (by decide) rfl ho hzs A4 p.n c4 p.cs rfl HP.out HI.out H1.out (by unfold maxLen; omega) (by omega) ?_; intro A5 c5 w5 ho5 hg5 hb5)
          go_roundw
          case rel => exact ⟨k + 1, A5, c5, by omega, by go_num, by rw [HN.out], by rw [HN.out, HC.out]; exact ho5, hb.trans hb5⟩
          case measure => simp [intOf]; omega
        · obtain rfl : k = ps.length := by omega
          rw [take_all (Nat.le_refl _)] at ho ⊢
          go_wp2_with (fail)
          go_ret
          exact ⟨A3, c3, rfl, ho, hb⟩

/-- The rows whose cells these are; their slices are read where they lie. -/
def SrcRows (w : World) (cs : List Value) (rs : List RowD) : Prop :=
  cs.length = rs.length * 3 ∧ (∀ u ∈ cs, u.oneCell' = true) ∧ ∀ (k : Nat) (r : RowD), rs[k]? = some r → ∃ A' c', cs[k * 3]? = some (.int .i64 r.d) ∧ cs[k * 3 + 1]? = some (.int .i64 r.r) ∧ cs[k * 3 + 2]? = some (.slice A' r.s.length c') ∧ Ints w A' r.s ∧ r.s.length ≤ 9223372036854775807
theorem RowsR.src {w : World} {A : Option Addr} {rs : List RowD} (h : RowsR w A rs) : ∃ cs, CellsAt w A cs ∧ SrcRows w cs rs := by
  cases rs with
  | nil => exact ⟨[], fun j u hu => by simp at hu, rfl, fun u hu => by simp at hu, fun k r hr => by simp at hr⟩
  | cons r0 rs =>
    obtain ⟨b, off, hA⟩ : ∃ b off, A = some ⟨b, off, none⟩ := by
      obtain ⟨b, off, _, _, _, hA, _⟩ := h 0 (by simp)
      exact ⟨b, off, hA⟩
    subst hA
    generalize hrs : r0 :: rs = qs at h
    clear hrs r0 rs
    have at3 : ∀ k (hk : k < qs.length), ∃ A' c', w.cell? ⟨b, off + k * 3, none⟩ = some (.int .i64 qs[k].d) ∧ w.cell? ⟨b, off + k * 3 + 1, none⟩ = some (.int .i64 qs[k].r) ∧ w.cell? ⟨b, off + k * 3 + 2, none⟩ = some (.slice A' qs[k].s.length c') ∧ Ints w A' qs[k].s ∧ qs[k].s.length ≤ 9223372036854775807 := by
      intro k hk
      obtain ⟨b', off', A', c', r, hA, hx, h0, h1, h2, hi, hl⟩ := h k hk
      injection hA with hA
      injection hA with hb ho
      subst hb ho
      rw [List.getElem?_eq_getElem hk] at hx
      injection hx with hx
      subst hx
      exact ⟨A', c', h0, h1, h2, hi, hl⟩
    have some_at : ∀ j, j < qs.length * 3 → ∃ v, w.cell? ⟨b, off + j, none⟩ = some v ∧ v.oneCell' = true := by
      intro j hj
      obtain ⟨A', c', h0, h1, h2, _⟩ := at3 (j / 3) (by omega)
      have e : j = j / 3 * 3 ∨ j = j / 3 * 3 + 1 ∨ j = j / 3 * 3 + 2 := by omega
      rcases e with e | e | e
      · exact ⟨_, by rw [e]; exact h0, rfl⟩
      · exact ⟨_, by rw [e]; exact h1, rfl⟩
      · exact ⟨_, by rw [e]; exact h2, rfl⟩
    have hat : ∀ j, j < qs.length * 3 → ((List.range (qs.length * 3)).map fun j => (w.cell? ⟨b, off + j, none⟩).getD (.int .i64 0))[j]? = w.cell? ⟨b, off + j, none⟩ := by
      intro j hj
      obtain ⟨v, hv, _⟩ := some_at j hj
      rw [List.getElem?_map, List.getElem?_range hj]
      simp [hv]
    refine ⟨(List.range (qs.length * 3)).map fun j => (w.cell? ⟨b, off + j, none⟩).getD (.int .i64 0), ?_, by simp, ?_, ?_⟩
    · intro j u hu
      have hj : j < qs.length * 3 := by simpa using (List.getElem?_eq_some_iff.1 hu).1
      exact ⟨b, off, rfl, by rw [← hat j hj]; exact hu⟩
    · intro u hu
      obtain ⟨j, hj⟩ := List.getElem?_of_mem hu
      have hjl : j < qs.length * 3 := by simpa using (List.getElem?_eq_some_iff.1 hj).1
      obtain ⟨v, hv, h1⟩ := some_at j hjl
      rw [hat j hjl, hv] at hj
      injection hj with hj
      subst hj
      exact h1
    · intro k r hr
      have hk : k < qs.length := (List.getElem?_eq_some_iff.1 hr).1
      obtain ⟨A', c', h0, h1, h2, h3, h4⟩ := at3 k hk
      rw [List.getElem?_eq_getElem hk] at hr
      injection hr with hr
      subst hr
      exact ⟨A', c', by rw [hat _ (by omega)]; exact h0, by rw [hat _ (by omega)]; exact h1, by rw [hat _ (by omega)]; exact h2, h3, h4⟩
theorem CellsRows.storeT {w : World} {lo hi : Nat} {cs : List Value} {rs : List RowD} {lo2 hi2 : Nat} {e2 : TypeId} {sz2 : Nat} {g n2 c2 : Nat} {cs2 : List Value}
    (h : CellsRows w lo hi cs rs) (h2 : OwnC w lo2 hi2 e2 sz2 (some ⟨g, 0, none⟩) n2 c2 cs2) (ht : (2 : TypeId) ≠ e2) (j : Nat) (u : Value) : CellsRows (w.setCell ⟨g, j, none⟩ u) lo hi cs rs :=
  h.keepT fun k cur _ _ hk => Below.heap_setCell w ⟨g, j, none⟩ u k (by
    rintro rfl
    rcases h2.form with ⟨hA, _⟩ | ⟨q, cur2, hA, _, _, hh, _⟩
    · cases hA
    · injection hA with hA
      injection hA with hA
      subst hA
      rw [hk] at hh
      injection hh with hh
      injection hh with _ hh
      exact ht hh)


end Go.Proofs.YtnjgmhdmjaijgaaGreat

/- Charts: ifChart, the last columns, own copies. -/
namespace Go.Proofs.YtnjgmhdmjaijgaaGreat
open Go.RowKit

theorem chartStacks_last {n : Int} {rs : List RowD} (h : chartB n rs = true) : ∃ m xs, (chartStacks n rs).length = m + 1 ∧ (chartStacks n rs)[m]? = some xs ∧ lastOf n rs = (xs.length : Int) := by
  have h1 := (chartB_of h).2.1.1
  have h2 : (chartStacks n rs).length = rs.length := by rw [chartStacks, if_pos h, stacksFrom_length]
  obtain ⟨m, hm⟩ : ∃ m, (chartStacks n rs).length = m + 1 := ⟨rs.length - 1, by omega⟩
  obtain ⟨xs, hx⟩ : ∃ xs, (chartStacks n rs)[m]? = some xs := ⟨_, List.getElem?_eq_getElem (by omega)⟩
  refine ⟨m, xs, hm, hx, ?_⟩
  unfold lastOf
  rw [List.getLast?_eq_getElem?, hm, Nat.add_sub_cancel, hx]
  rfl


end Go.Proofs.YtnjgmhdmjaijgaaGreat

/- Cables: IsCable. -/
namespace Go.Proofs.YtnjgmhdmjaijgaaGreat
open Go.RowKit

theorem kinds_plain {k : Int} (h : isStitchB k = true) : decide (k ∈ [1, 2, 8, 9, 10, 11]) = !inR k 3 7 := by
  rcases stitch_cases h with rfl | rfl | rfl | rfl | rfl | rfl | rfl | rfl | rfl | rfl | rfl <;> decide
theorem plainRow_any (s : List Int) : (!s.any (fun n => inR n 3 7)) = plainRow s := by
  rw [plainRow, List.all_eq_not_any_not]
  simp

theorem impl_isCable_1 (n : Int) (w : World) : Calls Tryz.prog 84 #[.int .i64 n] w fun e w' => e = .returned (.bool (inR n 3 7)) ∧ w = w' := by
  go_enter Tryz.func84, Tryz.ntmps84
  go_wp2_with (refine (impl_within _ _ _ _).mono ?_; rintro e w' ⟨rfl, rfl⟩)
  go_ret
  exact ⟨rfl, rfl⟩
theorem indexFunc_isCable_1 (A : Option Addr) (c : Nat) (xs : List Int) (w : World) (h : Ints w A xs) (hl : xs.length ≤ 9223372036854775807) : Calls Tryz.prog 93 #[.slice A xs.length c, .func (.func 84) #[] #[]] w fun e w' => AnyInt (fun k => decide (0 ≤ k) = xs.any (fun n => inR n 3 7) ∧ k ≤ 9223372036854775807) e ∧ w = w' := by
  go_enter Tryz.func93, Tryz.ntmps93
  go_wp2
  go_loop [8] (fun i => ∃ k : Nat, k ≤ xs.length ∧ i = .int .i64 k ∧ (xs.take k).any (fun n => inR n 3 7) = false) (fun i => xs.length - (intOf i).toNat)
  case atStart => exact ⟨0, Nat.zero_le _, rfl, rfl⟩
  case round =>
    obtain ⟨k, hk, rfl, ha⟩ := hrel
    have HA := Lib.hid ha; clear ha
    by_cases hlt : k < xs.length
    · obtain ⟨b, off, x, rfl, hc, hx⟩ := h k hlt
      have HX := Lib.hid hx; clear hx
      go_wp2_with (refine (impl_isCable_1 _ _).mono ?_; rintro e w' ⟨rfl, rfl⟩)
      · have hq : inR x 3 7 = true := by assumption
        go_ret
        refine ⟨⟨_, rfl, ?_, by omega⟩, rfl⟩
        rw [any_true_at HX.out hq]
        simp
      · have hq : inR x 3 7 = false := by assumption
        go_round
        case rel => exact ⟨k + 1, by omega, by go_num, by rw [take_snoc HX.out, List.any_append, HA.out]; simpa using hq⟩
        case measure => simp [intOf]; omega
    · go_wp2
      go_ret
      refine ⟨⟨_, rfl, ?_, by omega⟩, rfl⟩
      have := HA.out
      rw [take_all (by omega)] at this
      rw [this]
      rfl
theorem containsFunc_isCable_1 (A : Option Addr) (c : Nat) (xs : List Int) (w : World) (h : Ints w A xs) (hl : xs.length ≤ 9223372036854775807) : Calls Tryz.prog 54 #[.slice A xs.length c, .func (.func 84) #[] #[]] w fun e w' => e = .returned (.bool (!plainRow xs)) ∧ w = w' := by
  go_enter Tryz.func54, Tryz.ntmps54
  go_wp2_with (refine (indexFunc_isCable_1 _ _ _ _ h hl).mono ?_; rintro e w' ⟨⟨k, rfl, hk, hk'⟩, rfl⟩)
  go_ret
  exact ⟨ret_bool (by rw [← plainRow_any]; simp), rfl⟩

theorem impl_isCable (n : Int) (rs : List RowD) (A : Option Addr) (c : Nat) (w : World) (h : RowsR w A rs) (hl : rs.length ≤ 9223372036854775807) :
    Calls Tryz.prog 43 #[.agg #[.int .i64 n, .slice A rs.length c]] w fun e w' => e = .returned (.bool (plainB rs)) ∧ Below w.heap.size w w' := by
  go_enter Tryz.func43, Tryz.ntmps43
  go_wp2_with (fail)
  go_loopw [8] (fun iv wr => ∃ k : Nat, k ≤ rs.length ∧ iv = .int .i64 k ∧ Below w.heap.size w wr ∧ Hid (plainB (rs.take k) = true)) (fun iv _ => rs.length - (intOf iv).toNat)
  case atStart => exact ⟨0, Nat.zero_le _, rfl, by (repeat (first | exact Below.refl _ _ | assumption | apply Below.drew | apply below_drewN | (refine Below.alloc ?_ (by first | omega | (simp; done) | (simp; omega)) _) | (refine Below.setCell ?_ (by first | omega | (simp; done) | (simp; omega)) _))), Lib.hid rfl⟩
  case round =>
    obtain ⟨k, hk, rfl, hb, HA⟩ := hrel
    have hzs := hb.size
    by_cases hlt : k < rs.length
    · obtain ⟨b, off, A7, c7, q, rfl, hx, f0, f1, f2, hi, hil⟩ := (h.below hb) k hlt
      have HX := Lib.hid hx; clear hx
      have j1 : (0 : Int) ≤ (k : Int) := by omega
      have j2 : (k : Int) < (rs.length : Int) := by omega
      have b2 : Below wr.heap.size wr (wr.alloc (.cells #[.int .i64 q.d, .int .i64 q.r, .slice A7 q.s.length c7] 50)) := by (repeat (first | exact Below.refl _ _ | assumption | apply Below.drew | apply below_drewN | (refine Below.alloc ?_ (by first | omega | (simp; done) | (simp; omega)) _) | (refine Below.setCell ?_ (by first | omega | (simp; done) | (simp; omega)) _)))
      obtain ⟨r0, r1, r2⟩ := (Blk.new wr 50 #[.int .i64 q.d, .int .i64 q.r, .slice A7 q.s.length c7]).c3
      have hi2 := hi.below b2
      have hb2 : Below w.heap.size w (wr.alloc (.cells #[.int .i64 q.d, .int .i64 q.r, .slice A7 q.s.length c7] 50)) := hb.trans (b2.mono hzs)
      cases hp : plainRow q.s
      · have HF : Hid (plainB rs = false) := Lib.hid (by
          rw [plainB, ← Bool.not_eq_true, List.all_eq_true]
          intro hall
          have := hall q (List.mem_of_getElem? HX.out)
          rw [hp] at this; cases this)
        go_wp2_with (refine (containsFunc_isCable_1 _ _ _ _ hi2 hil).mono ?_; rintro e w' ⟨rfl, rfl⟩; rw [hp])
        go_ret
        exact ⟨ret_bool HF.out.symm, hb2⟩
      · have HP := Lib.hid hp
        go_wp2_with (refine (containsFunc_isCable_1 _ _ _ _ hi2 hil).mono ?_; rintro e w' ⟨rfl, rfl⟩; rw [hp])
        go_roundw
        case rel => exact ⟨k + 1, by omega, by go_num, hb2, Lib.hid (by rw [take_snoc HX.out, plainB, List.all_append, ← plainB, HA.out]; simp [HP.out])⟩
        case measure => simp [intOf]; omega
    · go_wp2_with (fail)
      go_ret
      have := HA.out
      rw [take_all (by omega)] at this
      exact ⟨ret_bool this.symm, hb⟩

set_option maxHeartbeats 2000000 in
theorem spec_l18Cable (g o : Nat) (_n : Int) (rs : List RowD) (A : Option Addr) (c : Nat) (w : World) (h : RowsR w A rs) (hl : rs.length ≤ 9223372036854775807) (hv : ∀ r ∈ rs, stitchesB r.s = true)
    (c1 : w.cell? ⟨g, o + 1, none⟩ = some (.slice A rs.length c)) :
    Calls Tryz.prog 76 #[.pointer (some ⟨g, o, none⟩)] w fun e w' => e = .returned (.bool (plainB rs)) ∧ Below w.heap.size w w' := by
  obtain ⟨w1, hw1⟩ : ∃ w1, w1 = w.alloc (.cells #[.int .i64 1, .int .i64 2, .int .i64 8, .int .i64 9, .int .i64 10, .int .i64 11] 2) := ⟨_, rfl⟩
  have hb : Below w.heap.size w w1 := by rw [hw1]; (repeat (first | exact Below.refl _ _ | assumption | apply Below.drew | apply below_drewN | (refine Below.alloc ?_ (by first | omega | (simp; done) | (simp; omega)) _) | (refine Below.setCell ?_ (by first | omega | (simp; done) | (simp; omega)) _)))
  have hk : Ints w1 (some ⟨w.heap.size, 0, none⟩) [1, 2, 8, 9, 10, 11] := by
    rw [hw1]
    have o := OwnC.lit (w := w) (lo := w.heap.size) (n := 6) 2 1 #[.int .i64 1, .int .i64 2, .int .i64 8, .int .i64 9, .int .i64 10, .int .i64 11] (Nat.le_refl _) (by decide) rfl
    exact OwnC.ints (xs := [1, 2, 8, 9, 10, 11]) o
  have HK := Lib.hid hk; clear hk
  have q1 := cells_below hb _ _ c1
  have HV := Lib.hid hv; clear hv
  have HR := Lib.hid (h.below hb)
  go_enter Tryz.func76, Tryz.ntmps76
  go_wp2_with (fail)
  rw [← hw1]
  clear hw1 c1
  go_loop [4] (fun iv => ∃ k : Nat, k ≤ rs.length ∧ iv = .int .i64 k ∧ Hid (plainB (rs.take k) = true)) (fun iv => rs.length - (intOf iv).toNat)
  case atStart => exact ⟨0, Nat.zero_le _, rfl, Lib.hid rfl⟩
  case round =>
    obtain ⟨k, hk, rfl, HA⟩ := hrel
    by_cases hlt : k < rs.length
    · obtain ⟨b, off, A7, c7, q, rfl, hx, f0, f1, f2, hi, hil⟩ := HR.out k hlt
      have HX := Lib.hid hx; clear hx
      have j1 : (0 : Int) ≤ (k : Int) := by omega
      have j2 : (k : Int) < (rs.length : Int) := by omega
      have HS := Lib.hid (stitchesB_of (HV.out q (List.mem_of_getElem? HX.out))).2
      go_wp2_with (fail)
      go_loop [5] (fun jv => ∃ j : Nat, j ≤ q.s.length ∧ jv = .int .i64 j ∧ Hid (plainRow (q.s.take j) = true)) (fun jv => q.s.length - (intOf jv).toNat)
      case atStart => exact ⟨0, Nat.zero_le _, rfl, Lib.hid rfl⟩
      case round =>
        obtain ⟨j, hj, rfl, HB⟩ := hrel
        by_cases hjl : j < q.s.length
        · obtain ⟨b', off', y, rfl, hc, hy⟩ := hi j hjl
          have HY := Lib.hid hy; clear hy
          have HE := Lib.hid (kinds_plain (HS.out y (List.mem_of_getElem? HY.out)))
          have j3 : (0 : Int) ≤ (j : Int) := by omega
          have j4 : (j : Int) < (q.s.length : Int) := by omega
          cases hp : inR y 3 7
          · have HP := Lib.hid hp
            go_wp2_with (go_at_call 119; refine (spec_l00Has _ _ [1, 2, 8, 9, 10, 11] y _ HK.out (by decide)).mono ?_; rintro e _ ⟨rfl, rfl⟩; rw [HE.out, hp])
            go_round
            case rel => exact ⟨j + 1, by omega, by go_num, Lib.hid (by rw [take_snoc HY.out, plainRow, List.all_append, ← plainRow, HB.out]; simp [HP.out])⟩
            case measure => simp [intOf]; omega
          · have HF : Hid (plainB rs = false) := Lib.hid (by
              rw [plainB, ← Bool.not_eq_true, List.all_eq_true]
              intro hall
              have h2 := hall q (List.mem_of_getElem? HX.out)
              rw [plainRow, List.all_eq_true] at h2
              have h3 := h2 y (List.mem_of_getElem? HY.out)
              rw [hp] at h3; cases h3)
            go_wp2_with (go_at_call 119; refine (spec_l00Has _ _ [1, 2, 8, 9, 10, 11] y _ HK.out (by decide)).mono ?_; rintro e _ ⟨rfl, rfl⟩; rw [HE.out, hp])
            go_ret
            exact ⟨ret_bool HF.out.symm, hb⟩
        · have HP : Hid (plainRow q.s = true) := Lib.hid (by have := HB.out; rwa [take_all (by omega)] at this)
          go_wp2_with (fail)
          go_round
          case rel => exact ⟨k + 1, by omega, by go_num, Lib.hid (by rw [take_snoc HX.out, plainB, List.all_append, ← plainB, HA.out]; simp [HP.out])⟩
          case measure => simp [intOf]; omega
    · go_wp2_with (fail)
      go_ret
      have := HA.out
      rw [take_all (by omega)] at this
      exact ⟨ret_bool this.symm, hb⟩

theorem impl_IsCable (n : Int) (rs : List RowD) (A : Option Addr) (c : Nat) (w : World) (h : RowsR w A rs) (hl : rs.length ≤ 9223372036854775807) :
    Calls Tryz.prog 16 #[.agg #[.int .i64 n, .slice A rs.length c]] w fun e w' => e = .returned (.bool (cableB n rs)) ∧ Below w.heap.size w w' := by
  have hb1 : Below w.heap.size w (w.alloc (.cells #[.int .i64 n, .slice A rs.length c] 30)) := by (repeat (first | exact Below.refl _ _ | assumption | apply Below.drew | apply below_drewN | (refine Below.alloc ?_ (by first | omega | (simp; done) | (simp; omega)) _) | (refine Below.setCell ?_ (by first | omega | (simp; done) | (simp; omega)) _)))
  have ka := Blk.new w 30 #[.int .i64 n, .slice A rs.length c]
  cases hv : chartB n rs
  · have HF : Hid (cableB n rs = false) := Lib.hid (by rw [cableB, hv]; rfl)
    go_enter Tryz.func16, Tryz.ntmps16
    go_wp2_with (fail)
    refine (impl_ValidChart n rs A c _ (h.below hb1) hl).mono ?_; rintro e w2 ⟨rfl, b2⟩
    have hb2 : Below w.heap.size w w2 := hb1.trans (b2.mono (by simp))
    rw [hv]
    go_wp2_with (fail)
    go_ret
    exact ⟨ret_bool HF.out.symm, hb2⟩
  · have HF : Hid (cableB n rs = plainB rs) := Lib.hid (by rw [cableB, hv]; rfl)
    go_enter Tryz.func16, Tryz.ntmps16
    go_wp2_with (fail)
    refine (impl_ValidChart n rs A c _ (h.below hb1) hl).mono ?_; rintro e w2 ⟨rfl, b2⟩
    have hb2 : Below w.heap.size w w2 := hb1.trans (b2.mono (by simp))
    have ka2 := ka.below b2 (by simp)
    obtain ⟨q0, q1⟩ := ka2.c2
    rw [hv]
    go_wp2_with (fail)
    refine (impl_isCable n rs A c _ (h.below hb2) hl).mono ?_; rintro e w3 ⟨rfl, b3⟩
    have hb3 : Below w.heap.size w w3 := hb2.trans (b3.mono hb2.size)
    go_wp2_with (fail)
    go_ret
    exact ⟨ret_bool HF.out.symm, hb3⟩

end Go.Proofs.YtnjgmhdmjaijgaaGreat
