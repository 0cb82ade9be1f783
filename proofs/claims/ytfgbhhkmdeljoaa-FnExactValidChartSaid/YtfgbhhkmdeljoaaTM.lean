/- allStacks: the stacks of a chart, the program's side. -/
import Derived.Test.YtfgbhhkmdeljoaaTL
import Derived.Test.YtfgbhhkmdeljoaaTK
import Derived.Test.YtfgbhhkmdeljoaaRV
namespace Go.Proofs.Ytfgbhhkmdeljoaa
open Go.RowKit

theorem after_pos {ks st : List Int} (hs : ∀ k ∈ ks, isStitchB k = true) (h : takenS ks = st.length) (h1 : 1 ≤ st.length) : 1 ≤ (afterP ks st).length := by
  cases ks with
  | nil => simp [takenS] at h; omega
  | cons k ks =>
    have h2 := stepMade_madeN (hs k (by simp)) st
    have h3 := (takenN_le k (hs k (by simp))).2.2
    rw [afterP, List.length_append]
    omega
theorem OwnC.head {w : World} {lo hi : Nat} {e : TypeId} {sz : Nat} {A : Option Addr} {n c : Nat} {cs : List Value} (h : OwnC w lo hi e sz A n c cs) (hn : 1 ≤ n) : ∃ g, A = some ⟨g, 0, none⟩ := by
  rcases h.form with ⟨_, h1, _⟩ | ⟨g, _, h1, _⟩
  · omega
  · exact ⟨g, h1⟩

theorem chart_len {n : Int} {rs : List RowD} (h : inR (rs.length : Int) 1 8 = false) : chartB n rs = false := by
  unfold chartB
  rw [h, Bool.and_false, Bool.false_and]

set_option maxHeartbeats 4000000 in
set_option maxRecDepth 20000 in
theorem impl_allStacks (n : Int) (rs : List RowD) (A : Option Addr) (c : Nat) (w : World) (h : RowsR w A rs) (hl : rs.length ≤ 9223372036854775807) :
    Calls Try.prog 58 #[.agg #[.int .i64 n, .slice A rs.length c]] w fun e w' => ∃ A' c', e = .returned (.tuple #[.slice A' (chartStacks n rs).length c', .bool (chartB n rs)]) ∧ OwnII w' w.heap.size w'.heap.size A' (chartStacks n rs).length c' (chartStacks n rs) ∧ Below w.heap.size w w' := by
  have hnil : ∀ W, OwnII W w.heap.size W.heap.size none 0 0 [] := fun W => ⟨[], OwnC.nil _ _ _ _ _, ⟨rfl, fun k xs hx => by simp at hx, fun i j v v' g hi' => by simp at hi'⟩⟩
  have HNIL := Lib.hid hnil; clear hnil
  have hb1 : Below w.heap.size w (w.alloc (.cells #[.int .i64 n, .slice A rs.length c] 29)) := by (repeat (first | exact Below.refl _ _ | assumption | apply Below.drew | apply below_drewN | (refine Below.alloc ?_ (by first | omega | (simp; done) | (simp; omega)) _) | (refine Below.setCell ?_ (by first | omega | (simp; done) | (simp; omega)) _)))
  have kb := Blk.new w 29 #[.int .i64 n, .slice A rs.length c]
  cases hn : inR n 1 8
  · have HF : Hid (chartStacks n rs = [] ∧ chartB n rs = false) := Lib.hid (chart_bad (by simp [chartB, hn]))
    go_enter Try.func58, Try.ntmps58
    go_wp2_with (go_at_call 69; refine (impl_within _ _ _ _).mono ?_; rintro e _ ⟨rfl, rfl⟩)
    go_ret2
    rw [HF.out.1, HF.out.2]
    exact ⟨_, _, rfl, HNIL.out _, hb1⟩
  · by_cases hr1 : rs.length < 1
    · have hr1' : decide ((rs.length : Int) < 1) = true := decide_eq_true (by omega)
      have HF : Hid (chartStacks n rs = [] ∧ chartB n rs = false) := Lib.hid (chart_bad (chart_len (by unfold inR; simp; omega)))
      go_enter Try.func58, Try.ntmps58
      go_wp2_with (go_at_call 69; refine (impl_within _ _ _ _).mono ?_; rintro e _ ⟨rfl, rfl⟩)
      go_ret2
      rw [HF.out.1, HF.out.2]
      exact ⟨_, _, rfl, HNIL.out _, hb1⟩
    · have hr1' : decide ((rs.length : Int) < 1) = false := decide_eq_false (by omega)
      by_cases hr8 : 8 < rs.length
      · have hr8' : decide ((8 : Int) < (rs.length : Int)) = true := decide_eq_true (by omega)
        have HF : Hid (chartStacks n rs = [] ∧ chartB n rs = false) := Lib.hid (chart_bad (chart_len (by unfold inR; simp; omega)))
        go_enter Try.func58, Try.ntmps58
        go_wp2_with (go_at_call 69; refine (impl_within _ _ _ _).mono ?_; rintro e _ ⟨rfl, rfl⟩)
        go_ret2
        rw [HF.out.1, HF.out.2]
        exact ⟨_, _, rfl, HNIL.out _, hb1⟩
      · have hr8' : decide ((8 : Int) < (rs.length : Int)) = false := decide_eq_false (by omega)
        have hr : inR (rs.length : Int) 1 8 = true := inR_iff.2 (by omega)
        have hn18 := inR_iff.1 hn
        obtain ⟨m, rfl⟩ := Int.eq_ofNat_of_zero_le (show (0 : Int) ≤ n by omega)
        have HF : Hid (chartB m rs = rowsOkB (List.replicate m 1) rs) := Lib.hid (by unfold chartB; rw [hn, hr]; rfl)
        have HBAD : Hid (rowsOkB (List.replicate m 1) rs = false → chartStacks m rs = [] ∧ chartB m rs = false) := Lib.hid (fun h => chart_bad (by rw [HF.out, h]))
        have HGOOD : Hid (rowsOkB (List.replicate m 1) rs = true → chartStacks m rs = stacksFrom (List.replicate m 1) rs ∧ chartB m rs = true) := Lib.hid (fun h => ⟨by rw [chartStacks, if_pos (by rw [HF.out, h])]; rfl, by rw [HF.out, h]⟩)
        clear hr
        obtain ⟨i1, hi1, hy0, hy1, hy2⟩ := info_parts info_ints
        have hb2' : Below w.heap.size w ((w.alloc (.cells #[.int .i64 m, .slice A rs.length c] 29)).alloc (.cells #[.int .i64 1] 2)) := by (repeat (first | exact Below.refl _ _ | assumption | apply Below.drew | apply below_drewN | (refine Below.alloc ?_ (by first | omega | (simp; done) | (simp; omega)) _) | (refine Below.setCell ?_ (by first | omega | (simp; done) | (simp; omega)) _)))
        have hi1' : Ints ((w.alloc (.cells #[.int .i64 m, .slice A rs.length c] 29)).alloc (.cells #[.int .i64 1] 2)) (some ⟨w.heap.size + 1, 0, none⟩) [1] := by
          intro k hk
          obtain rfl : k = 0 := by simp at hk; omega
          have := (Blk.new (w.alloc (.cells #[.int .i64 m, .slice A rs.length c] 29)) 2 #[.int .i64 1]).c1
          exact ⟨w.heap.size + 1, 0, 1, rfl, by simpa using this, rfl⟩
        have HI := Lib.hid hi1'; clear hi1'
        have kb1 := kb.alloc (.cells #[.int .i64 1] 2)
        obtain ⟨p0, p1⟩ := kb1.c2
        go_enter Try.func58, Try.ntmps58
        go_wp2_with (go_at_call 69; refine (impl_within _ _ _ _).mono ?_; rintro e _ ⟨rfl, rfl⟩)
        refine (slices_Repeat_n m (by omega) (by omega) _ _ _ HI.out).mono ?_; rintro e w2 ⟨A4, c4, rfl, o4, b4⟩
        have z4 := b4.size
        simp only [World.size_alloc] at z4
        have kb2 := kb1.below b4 (by simp; omega)
        have hbw2 : Below w.heap.size w w2 := hb2'.trans (b4.mono (by simp; omega))
        have ho' : OwnI w2 w.heap.size w2.heap.size A4 c4 (List.replicate m 1) := o4.mono (by simp; omega) (Nat.le_refl _)
        have hst0 : (List.replicate m (1 : Int)).length = m := by simp
        obtain ⟨st0, hst⟩ : ∃ s, s = List.replicate m (1 : Int) := ⟨_, rfl⟩
        rw [← hst] at ho' hst0 HF HBAD HGOOD ⊢
        clear hst p0 p1 kb1 o4 b4 hb2' HI
        subst hst0
        have kb3 := kb2.alloc (.cells #[] 33)
        obtain ⟨p0, p1⟩ := kb3.c2
        go_wp2_with (fail)
        go_loopw [4, 5, 34] (fun nv ov iv wr => ∃ (i : Nat) (st : List Int) (A4 : Option Addr) (c4 : Nat) (A5 : Option Addr) (c5 : Nat) (cs : List Value) (done : List (List Int)), i ≤ rs.length ∧ nv = .slice A4 st.length c4 ∧ ov = .slice A5 i c5 ∧ iv = .int .i64 i ∧ OwnI wr w.heap.size wr.heap.size A4 c4 st ∧ OwnC wr w.heap.size wr.heap.size 33 1 A5 i c5 cs ∧ CellsII wr w.heap.size wr.heap.size cs done ∧ Below w.heap.size w wr ∧ Hid (stacksFrom st0 rs = done ++ stacksFrom st (rs.drop i)) ∧ Hid (rowsOkB st0 rs = rowsOkB st (rs.drop i)) ∧ Hid (done.length = i) ∧ st.length ≤ 8 ∧ 1 ≤ st.length) (fun _ _ iv _ => rs.length - (intOf iv).toNat)
        case atStart =>
          refine ⟨0, st0, A4, c4, some ⟨w2.heap.size, 0, none⟩, 0, [], [], Nat.zero_le _, rfl, rfl, rfl, (ho'.alloc _).mono (Nat.le_refl _) (by simp), ?_, ⟨rfl, fun k xs hx => by simp at hx, fun i j v v' g hi' => by simp at hi'⟩, by (repeat (first | exact Below.refl _ _ | assumption | apply Below.drew | apply below_drewN | (refine Below.alloc ?_ (by first | omega | (simp; done) | (simp; omega)) _) | (refine Below.setCell ?_ (by first | omega | (simp; done) | (simp; omega)) _))), Lib.hid rfl, Lib.hid rfl, Lib.hid rfl, by omega, by omega⟩
          exact (OwnC.lit _ 1 #[] (Nat.le_refl _) (Nat.zero_le _) rfl).mono (by omega) (by simp)
        case round =>
          clear ho' p0 p1 kb2 kb3
          obtain ⟨i, st, A4, c4, A5, c5, cs, done, hi, rfl, rfl, rfl, ho4, ho5, hci, hbq, HS, HO, HD, hst8, hst1⟩ := hrel
          have hzq := hbq.size
          by_cases hlr : i < rs.length
          · obtain ⟨b, off, A7, c7, r, rfl, hrx, f0, f1, f2, hri, hrl⟩ := (h.below hbq) i hlr
            have HS2 : Hid (stacksFrom st0 rs = (done ++ [(stacksAfterP st r.s).1]) ++ stacksFrom (stacksAfterP st r.s).1 (rs.drop (i + 1))) := Lib.hid (by rw [HS.out, stacksFrom_drop hrx, List.append_assoc]; rfl)
            have HO2 : Hid (rowsOkB st0 rs = (rowOkB st r && rowsOkB (stacksAfterP st r.s).1 (rs.drop (i + 1)))) := Lib.hid (by rw [HO.out, rowsOkB_drop hrx])
            clear hrx HS HO
            have hnx8 := stacksAfterP_length st r.s
            have j1 : (0 : Int) ≤ (i : Int) := by omega
            have j2 : (i : Int) < (rs.length : Int) := by omega
            have hbA : Below wr.heap.size wr (wr.alloc (.cells #[.int .i64 r.d, .int .i64 r.r, .slice A7 r.s.length c7] 60)) := by (repeat (first | exact Below.refl _ _ | assumption | apply Below.drew | apply below_drewN | (refine Below.alloc ?_ (by first | omega | (simp; done) | (simp; omega)) _) | (refine Below.setCell ?_ (by first | omega | (simp; done) | (simp; omega)) _)))
            have hbB : Below w.heap.size w (wr.alloc (.cells #[.int .i64 r.d, .int .i64 r.r, .slice A7 r.s.length c7] 60)) := hbq.alloc hzq _
            have kr := Blk.new wr 60 #[.int .i64 r.d, .int .i64 r.r, .slice A7 r.s.length c7]
            obtain ⟨s0, s1, s2⟩ := kr.c3
            have HVR := Lib.hid (impl_ValidRow r.d r.r A7 c7 r.s (wr.alloc (.cells #[.int .i64 r.d, .int .i64 r.r, .slice A7 r.s.length c7] 60)) (hri.below hbA) hrl)
            cases hrow : rowB r.d r.r r.s
            · have HBB := HBAD.out (by rw [HO2.out, rowOkB, hrow]; rfl)
              have HBB' := Lib.hid HBB; clear HBB
              rw [hrow] at HVR
              go_wp2_with (go_at_call 85; refine HVR.out.mono ?_; rintro e w3 ⟨rfl, b3⟩)
              go_ret2
              rw [HBB'.out.1, HBB'.out.2]
              exact ⟨_, _, rfl, HNIL.out _, hbB.trans (b3.mono (by simp; omega))⟩
            · rw [hrow] at HVR
              have HI4 := Lib.hid ho4.ints
              have hcap := ho4.cap
              have hcapm := ho4.capmax
              obtain ⟨g4, rfl⟩ := OwnC.head ho4 hst1
              go_wp2_with (go_at_call 85; refine HVR.out.mono ?_; rintro e w3 ⟨rfl, b3⟩; obtain ⟨s0', s1', s2'⟩ := (kr.below b3 (by simp)).c3)
              have z3 := b3.size
              simp only [World.size_alloc] at z3 b3
              have kr3 := kr.below b3 (by omega)
              obtain ⟨s0', s1', s2'⟩ := kr3.c3
              have hb3 : Below wr.heap.size wr w3 := hbA.trans (b3.mono (by omega))
              refine (impl_StacksAfter st r.s (some ⟨g4, 0, none⟩) c4 A7 c7 _ (HI4.out.below hb3) (by omega) hcap hcapm (.inr ⟨_, _, rfl⟩) (hri.below hb3) hrl).mono ?_; rintro e w4 ⟨A3, c3, rfl, o3, b4⟩
              have z4 := b4.size
              have hb4 : Below wr.heap.size wr w4 := hb3.trans (b4.mono (by omega))
              have hbw4 : Below w.heap.size w w4 := hbq.trans (hb4.mono hzq)
              have kr4 := kr3.below b4 (by omega)
              clear s0 s1 s2 s0' s1' s2'
              obtain ⟨s0, s1, s2⟩ := kr4.c3
              cases hcd : stepCode st r.s
              · have hcd' : ((stacksAfterP st r.s).2 != 0) = true := by simpa [stepCode] using hcd
                have HBB := HBAD.out (by rw [HO2.out, rowOkB, hcd, Bool.and_false, Bool.false_and, Bool.false_and])
                have HBB' := Lib.hid HBB; clear HBB
                go_wp2_with (fail)
                go_ret2
                rw [HBB'.out.1, HBB'.out.2]
                exact ⟨_, _, rfl, HNIL.out _, hbw4⟩
              · have hcd' : ((stacksAfterP st r.s).2 != 0) = false := by simpa [stepCode] using hcd
                obtain ⟨q1, q2, q3, q4, q5⟩ := stepCode_of hcd
                have hnx1 : 1 ≤ (stacksAfterP st r.s).1.length := by rw [q4]; exact after_pos (stitchesB_of q2).2 q3 hst1
                have HTH := Lib.hid (impl_keepsLimit r.d r.r st r.s g4 0 c4 A7 c7 w4 (HI4.out.below hb4) hcap hcapm (hri.below hb4) q1 q2 q3)
                clear q1 q2 q3 q4 q5
                have ho5' := ho5.below hb4 (Nat.le_refl _)
                have hci' : CellsII w4 w.heap.size wr.heap.size cs done := hci.keep fun q _ h2 _ => hb4.block q h2
                have HR : Hid (rowOkB st r = keepB r.d st r.s) := Lib.hid (by rw [rowOkB, hrow, hcd]; simp)
                clear hcd hrow
                cases hkp : keepB r.d st r.s
                · have HBB := HBAD.out (by rw [HO2.out, HR.out, hkp]; rfl)
                  have HBB' := Lib.hid HBB; clear HBB
                  rw [hkp] at HTH
                  go_wp2_with (go_at_call 99; refine HTH.out.mono ?_; rintro e w5 ⟨rfl, b5⟩)
                  go_ret2
                  rw [HBB'.out.1, HBB'.out.2]
                  exact ⟨_, _, rfl, HNIL.out _, hbw4.trans (b5.mono (by omega))⟩
                · have HO3 : Hid (rowsOkB st0 rs = rowsOkB (stacksAfterP st r.s).1 (rs.drop (i + 1))) := Lib.hid (by rw [HO2.out, HR.out, hkp]; rfl)
                  rw [hkp] at HTH
                  clear HO2 HR hkp
                  generalize (stacksAfterP st r.s).1 = nx at o3 HTH HS2 HO3 hnx8 hnx1 ⊢
                  go_wp2_with (first | (go_at_call 99; refine HTH.out.mono ?_; rintro e w5 ⟨rfl, b5⟩; have z5 := b5.size; have oA := ho5'.below b5 (by omega)) | (at_builtin; refine wpList_append1 w5 [.slice A3 nx.length c3] _ rfl (.tmp 57) (.tmp 59) _ rfl 33 i1 _ 1 24 Try.underlying39 hi1 hy0 hy1 hy2 rfl (by decide) rfl oA (by omega) 1 rfl rfl (by simp [Value.oneCell']) (by omega) (by decide) ?_; intro A6 c6 w6 ho6 hg6 hb6 hz6))
                  have hb5 : Below w.heap.size w w5 := hbw4.trans (b5.mono (by omega))
                  have hci5 : CellsII w5 w.heap.size wr.heap.size cs done := hci'.keep fun q _ h2 _ => b5.block q (by omega)
                  obtain ⟨oN, hN⟩ := stacks_step oA hci5 ((o3.below b5 (Nat.le_refl _)).mono (by omega) z5) hzq (by omega) hg6 hz6
                  go_roundw
                  case rel => exact ⟨i + 1, nx, A3, c3, A6, c6, _, done ++ [nx], by omega, rfl, rfl, by go_num, oN, ho6, hN, hb5.trans hb6, HS2, HO3, Lib.hid (by rw [List.length_append, HD.out]; rfl), hnx8, hnx1⟩
                  case measure => simp [intOf]; omega
          · have h9 := HS.out
            have h8 := HO.out
            rw [drop_all (by omega), stacksFrom, List.append_nil] at h9
            rw [drop_all (by omega), rowsOkB] at h8
            have HG := Lib.hid (HGOOD.out h8)
            have H9 := Lib.hid h9; clear h9 h8
            obtain rfl : i = rs.length := by omega
            go_wp2_with (fail)
            go_ret2
            rw [HG.out.1, HG.out.2, H9.out, HD.out]
            exact ⟨_, _, rfl, ⟨cs, ho5, hci⟩, hbq⟩

theorem impl_ValidChart (n : Int) (rs : List RowD) (A : Option Addr) (c : Nat) (w : World) (h : RowsR w A rs) (hl : rs.length ≤ 9223372036854775807) :
    Calls Try.prog 17 #[.agg #[.int .i64 n, .slice A rs.length c]] w fun e w' => e = .returned (.bool (chartB n rs)) ∧ Below w.heap.size w w' := by
  have hb1 : Below w.heap.size w (w.alloc (.cells #[.int .i64 n, .slice A rs.length c] 29)) := by (repeat (first | exact Below.refl _ _ | assumption | apply Below.drew | apply below_drewN | (refine Below.alloc ?_ (by first | omega | (simp; done) | (simp; omega)) _) | (refine Below.setCell ?_ (by first | omega | (simp; done) | (simp; omega)) _)))
  have kb := Blk.new w 29 #[.int .i64 n, .slice A rs.length c]
  obtain ⟨p0, p1⟩ := kb.c2
  go_enter Try.func17, Try.ntmps17
  go_wp2_with (fail)
  refine (impl_allStacks n rs A c _ (h.below hb1) hl).mono ?_; rintro e w2 ⟨A', c', rfl, _, b2⟩
  go_wp2_with (fail)
  go_ret
  exact ⟨rfl, hb1.trans (b2.mono (by simp))⟩

end Go.Proofs.Ytfgbhhkmdeljoaa
