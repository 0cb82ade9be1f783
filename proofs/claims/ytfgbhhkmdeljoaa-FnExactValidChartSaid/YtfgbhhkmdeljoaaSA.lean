/- StacksAfter, the reference's side. -/
import Derived.Test.YtfgbhhkmdeljoaaRQ
namespace Go.Proofs.Ytfgbhhkmdeljoaa
open Go.RowKit

theorem st0_drop {st : List Int} {t : Nat} {x : Int} (h : st[t]? = some x) : st0 (st.drop t) = x := by
  unfold st0
  rw [List.getElem?_drop, Nat.add_zero, h]; rfl
theorem st1_drop {st : List Int} {t : Nat} {x : Int} (h : st[t + 1]? = some x) : st1 (st.drop t) = x := by
  unfold st1
  rw [List.getElem?_drop, h]; rfl
theorem afterP_drop {ks st : List Int} {i t : Nat} {k : Int} (h : ks[i]? = some k) : afterP (ks.drop i) (st.drop t) = stepMade k (st.drop t) ++ afterP (ks.drop (i + 1)) (st.drop (t + takenN k)) := by
  rw [drop_cons h, afterP, List.drop_drop]
theorem thickP_drop {ks st : List Int} {i t : Nat} {k : Int} (h : ks[i]? = some k) : thickP (ks.drop i) (st.drop t) = (stepThick k (st.drop t) || thickP (ks.drop (i + 1)) (st.drop (t + takenN k))) := by
  rw [drop_cons h, thickP, List.drop_drop]
theorem okAfter_drop {ks st : List Int} {i t : Nat} {k : Int} (h : ks[i]? = some k) : okAfter (ks.drop i) (st.drop t) = (stepOk k (st.drop t) && okAfter (ks.drop (i + 1)) (st.drop (t + takenN k))) := by
  rw [drop_cons h, okAfter, List.drop_drop]

set_option maxHeartbeats 4000000 in
set_option maxRecDepth 10000 in
theorem spec_l14After (A B : Option Addr) (c d : Nat) (st ks : List Int) (w : World) (h : Ints w A st) (h' : Ints w B ks) (hv : stacksB st = true) (hs : stitchesB ks = true) (heq : takenS ks = st.length) :
    Calls Try.prog 140 #[.slice A st.length c, .slice B ks.length d] w fun e w' => ∃ A' c', e = .returned (.slice A' (afterP ks st).length c') ∧ OwnI w' w.heap.size w'.heap.size A' c' (afterP ks st) ∧ Below w.heap.size w w' := by
  obtain ⟨i0, hi0, hz0, hz1, hz2⟩ := info_parts info_int64
  obtain ⟨hl, hst⟩ := stitchesB_of hs
  obtain ⟨hl8, hr⟩ := stacksB_of hv
  have HST := Lib.hid hst; clear hst
  have HR := Lib.hid hr; clear hr
  have HEQ := Lib.hid heq; clear heq
  go_enter Try.func140, Try.ntmps140
  go_wp2_with (fail)
  go_loopw [5, 6, 7] (fun ov tv iv wr => ∃ (i t : Nat) (A' : Option Addr) (c' : Nat) (out : List Int), i ≤ ks.length ∧ iv = .int .i64 i ∧ tv = .int .i64 t ∧ ov = .slice A' out.length c' ∧ OwnI wr w.heap.size wr.heap.size A' c' out ∧ Below w.heap.size w wr ∧ Hid (takenS (ks.take i) = t) ∧ Hid (afterP ks st = out ++ afterP (ks.drop i) (st.drop t)) ∧ out.length ≤ 4 * i) (fun _ _ iv _ => ks.length - (intOf iv).toNat)
  case atStart =>
    exact ⟨0, 0, some ⟨w.heap.size, 0, none⟩, 0, [], Nat.zero_le _, rfl, rfl, rfl, (OwnC.lit _ 1 #[] (Nat.le_refl _) (Nat.zero_le _) rfl).mono (Nat.le_refl _) (by simp), by (repeat (first | exact Below.refl _ _ | assumption | apply Below.drew | apply below_drewN | (refine Below.alloc ?_ (by first | omega | (simp; done) | (simp; omega)) _) | (refine Below.setCell ?_ (by first | omega | (simp; done) | (simp; omega)) _))), Lib.hid rfl, Lib.hid (by simp), by simp⟩
  case round =>
    obtain ⟨i, t, A', c', out, hi, rfl, rfl, rfl, ho, hb, HT, HA, hol⟩ := hrel
    have hzs := hb.size
    by_cases hlt : i < ks.length
    · obtain ⟨b, off, k, rfl, hc, hk⟩ := h' i hlt
      have hcw := Lib.hid hc
      replace hc := cells_below hb _ _ hc
      have hq := HST.out k (List.mem_of_getElem? hk)
      have htn := takenN_le k hq
      have hle : t + takenN k ≤ st.length := by have := takenS_at hk; rw [HT.out, HEQ.out] at this; exact this
      have HT2 : Hid (takenS (ks.take (i + 1)) = t + takenN k) := Lib.hid (by rw [takenS_snoc hk, HT.out])
      have HA2 : Hid (afterP ks st = (out ++ stepMade k (st.drop t)) ++ afterP (ks.drop (i + 1)) (st.drop (t + takenN k))) := Lib.hid (by rw [HA.out, afterP_drop hk, List.append_assoc])
      have HB : Hid (takenB k = takenN k) := Lib.hid (takenB_of hq)
      have HM : Hid (madeB k = madeN k) := Lib.hid (madeB_of hq)
      clear hk HT HA
      have j1 : (0 : Int) ≤ (i : Int) := by omega
      by_cases hk6 : k = 6
      · subst hk6
        have hlen : t < st.length := by have : takenN 6 = 1 := by decide
                                        omega
        obtain ⟨b1, off1, x, rfl, hcx, hx⟩ := h t hlen
        replace hcx := cells_below hb _ _ hcx
        have hxr := inR_iff.1 (HR.out x (List.mem_of_getElem? hx))
        have hsm : stepMade 6 (st.drop t) = [x + 1] := by
          unfold stepMade
          rw [if_pos rfl, st0_drop hx]
          have hw : wrap64 (x + 1) = x + 1 := IntWalk.wrap64_in _ ⟨by omega, by omega⟩
          rw [hw]
        rw [hsm] at HA2
        clear hx hsm
        go_wp2_with (at_builtin; refine wpList_append1 wr [.int .i64 (x + 1)] _ rfl (.tmp 34) (.tmp 40) _ rfl 2 i0 _ 1 8 Try.underlying33 hi0 hz0 hz1 hz2 rfl (by decide) rfl ho hzs 1 rfl rfl (by simp [Value.oneCell']) (by omega) (by decide) ?_; intro A2 c2 w2 ho2 hg2 hb2 hz2'; have hc2 := cells_below (hb.trans hb2) _ _ hcw.out)
        refine (spec_ColumnsTaken _ _).mono ?_; rintro e w9 ⟨rfl, b9⟩
        have o9 := ho2.below b9 (Nat.le_refl _)
        have hb9 : Below w.heap.size w w9 := (hb.trans hb2).trans (b9.mono (hb.trans hb2).size)
        have z9 := b9.size
        rw [HB.out]
        go_wp2_with (fail)
        refine ⟨⟨i + 1, t + takenN 6, A2, c2, (out ++ [x + 1]), by omega, by go_num, by push_cast; go_num, by simp, by show OwnC _ _ _ _ _ _ _ _ _; rw [List.map_append, List.length_append]; exact o9.mono (Nat.le_refl _) z9, hb9, HT2, HA2, by simp; omega⟩, by simp [intOf]; omega⟩
      · by_cases hk7 : k = 7
        · subst hk7
          have hlen : t < st.length := by have : takenN 7 = 1 := by decide
                                          omega
          obtain ⟨b1, off1, x, rfl, hcx, hx⟩ := h t hlen
          replace hcx := cells_below hb _ _ hcx
          have hsm : stepMade 7 (st.drop t) = [x] := by
            unfold stepMade
            rw [if_neg (by decide), if_pos rfl, st0_drop hx]
          rw [hsm] at HA2
          clear hx hsm
          go_wp2_with (at_builtin; refine wpList_append1 wr [.int .i64 x] _ rfl (.tmp 44) (.tmp 49) _ rfl 2 i0 _ 1 8 Try.underlying33 hi0 hz0 hz1 hz2 rfl (by decide) rfl ho hzs 1 rfl rfl (by simp [Value.oneCell']) (by omega) (by decide) ?_; intro A2 c2 w2 ho2 hg2 hb2 hz2'; have hc2 := cells_below (hb.trans hb2) _ _ hcw.out)
          refine (spec_ColumnsTaken _ _).mono ?_; rintro e w9 ⟨rfl, b9⟩
          have o9 := ho2.below b9 (Nat.le_refl _)
          have hb9 : Below w.heap.size w w9 := (hb.trans hb2).trans (b9.mono (hb.trans hb2).size)
          have z9 := b9.size
          rw [HB.out]
          go_wp2_with (fail)
          refine ⟨⟨i + 1, t + takenN 7, A2, c2, (out ++ [x]), by omega, by go_num, by push_cast; go_num, by simp, by show OwnC _ _ _ _ _ _ _ _ _; rw [List.map_append, List.length_append]; exact o9.mono (Nat.le_refl _) z9, hb9, HT2, HA2, by simp; omega⟩, by simp [intOf]; omega⟩
        · have hsm : stepMade k (st.drop t) = List.replicate (madeN k) 1 := by
            unfold stepMade
            rw [if_neg hk6, if_neg hk7]
          rw [hsm] at HA2
          clear hsm
          have hk6' : (k == 6) = false := by simpa using hk6
          have hk7' : (k == 7) = false := by simpa using hk7
          clear hk6 hk7
          go_wp2_with (fail)
          refine (spec_ColumnsMade _ _).mono ?_; rintro e w2 ⟨rfl, b2⟩
          have ho2 := ho.below b2 (Nat.le_refl _)
          have hb2 : Below w.heap.size w w2 := hb.trans (b2.mono hzs)
          have z2 := b2.size
          rw [HM.out]
          go_wp2_with (fail)
          go_loopw [5, 8] (fun ov mv ws => ∃ (j : Nat) (A' : Option Addr) (c' : Nat), j ≤ madeN k ∧ mv = .int .i64 ((madeN k : Int) - j) ∧ ov = .slice A' (out ++ List.replicate j 1).length c' ∧ OwnI ws w.heap.size ws.heap.size A' c' (out ++ List.replicate j 1) ∧ Below w.heap.size w ws) (fun _ mv _ => (intOf mv).toNat)
          case atStart => exact ⟨0, A', c', Nat.zero_le _, by simp, by simp, by simpa using ho2.mono (Nat.le_refl _) z2, hb2⟩
          case round =>
            clear ho ho2 hzs
            obtain ⟨j, A3, c3, hj, rfl, rfl, ho3, hb3⟩ := hrel
            have hzs3 := hb3.size
            have hlen : (out ++ List.replicate j (1 : Int)).length ≤ 100 := by simp; omega
            have hlen2 : (out ++ List.replicate j (1 : Int)).length = out.length + j := by simp
            have HL2 := Lib.hid hlen2; clear hlen2
            have HJ : Hid (out ++ List.replicate (j + 1) (1 : Int) = (out ++ List.replicate j 1) ++ [1]) := Lib.hid (by rw [List.replicate_succ', List.append_assoc])
            generalize hL : out ++ List.replicate j (1 : Int) = L at ho3 hlen HL2 HJ ⊢
            have HL := Lib.hid hL; clear hL
            by_cases hjl : j < madeN k
            · go_wp2_with (at_builtin; refine wpList_append1 wr [.int .i64 1] _ rfl (.tmp 29) (.tmp 30) _ rfl 2 i0 _ 1 8 Try.underlying33 hi0 hz0 hz1 hz2 rfl (by decide) rfl ho3 hzs3 1 rfl rfl (by simp [Value.oneCell']) (by omega) (by decide) ?_; intro A4 c4 w4 ho4 hg4 hb4 hz4)
              go_roundw
              case rel =>
                refine ⟨j + 1, A4, c4, by omega, by push_cast; go_num, by rw [HJ.out]; simp, ?_, hb3.trans hb4⟩
                rw [HJ.out]
                show OwnC _ _ _ _ _ _ _ _ _
                rw [List.map_append, List.length_append]
                exact ho4
              case measure => simp [intOf]; omega
            · have hj4 : j = madeN k := by omega
              subst hj4
              have hc3 := cells_below hb3 _ _ hcw.out
              go_wp2_with (fail)
              refine (spec_ColumnsTaken _ _).mono ?_; rintro e w9 ⟨rfl, b9⟩
              have o9 := ho3.below b9 (Nat.le_refl _)
              have hb9 : Below w.heap.size w w9 := hb3.trans (b9.mono hb3.size)
              have z9 := b9.size
              rw [HB.out]
              go_wp2_with (fail)
              refine ⟨⟨i + 1, t + takenN k, A3, c3, L, by omega, by go_num, by push_cast; go_num, rfl, o9.mono (Nat.le_refl _) z9, hb9, HT2, Lib.hid (by rw [HA2.out, HL.out]), by have := HL2.out; omega⟩, by simp [intOf]; omega⟩
    · go_wp2_with (fail)
      go_ret
      have he := HA.out
      rw [drop_all (by omega), afterP, List.append_nil] at he
      rw [he]
      exact ⟨_, _, rfl, ho, hb⟩

set_option maxHeartbeats 2000000 in
set_option maxRecDepth 10000 in
theorem spec_l14Thick (A B : Option Addr) (c d : Nat) (st ks : List Int) (w : World) (h : Ints w A st) (h' : Ints w B ks) (hv : stacksB st = true) (hs : stitchesB ks = true) (heq : takenS ks = st.length) :
    Calls Try.prog 141 #[.slice A st.length c, .slice B ks.length d] w fun e w' => e = .returned (.bool (thickP ks st)) ∧ Below w.heap.size w w' := by
  obtain ⟨hl, hst⟩ := stitchesB_of hs
  obtain ⟨hl8, hr⟩ := stacksB_of hv
  have HST := Lib.hid hst; clear hst
  have HR := Lib.hid hr; clear hr
  have HEQ := Lib.hid heq; clear heq
  go_enter Try.func141, Try.ntmps141
  go_wp2_with (fail)
  go_loopw [5, 6] (fun tv iv wr => ∃ (i t : Nat), i ≤ ks.length ∧ iv = .int .i64 i ∧ tv = .int .i64 t ∧ Below w.heap.size w wr ∧ Hid (takenS (ks.take i) = t) ∧ Hid (thickP ks st = thickP (ks.drop i) (st.drop t))) (fun _ iv _ => ks.length - (intOf iv).toNat)
  case atStart => exact ⟨0, 0, Nat.zero_le _, rfl, rfl, Below.refl _ _, Lib.hid rfl, Lib.hid (by simp)⟩
  case round =>
    obtain ⟨i, t, hi, rfl, rfl, hb, HT, HA⟩ := hrel
    have hzs := hb.size
    by_cases hlt : i < ks.length
    · obtain ⟨b, off, k, rfl, hc, hk⟩ := h' i hlt
      replace hc := cells_below hb _ _ hc
      have hq := HST.out k (List.mem_of_getElem? hk)
      have htn := takenN_le k hq
      have hle : t + takenN k ≤ st.length := by have := takenS_at hk; rw [HT.out, HEQ.out] at this; exact this
      have HT2 : Hid (takenS (ks.take (i + 1)) = t + takenN k) := Lib.hid (by rw [takenS_snoc hk, HT.out])
      have HA2 : Hid (thickP ks st = (stepThick k (st.drop t) || thickP (ks.drop (i + 1)) (st.drop (t + takenN k)))) := Lib.hid (by rw [HA.out, thickP_drop hk])
      have HB : Hid (takenB k = takenN k) := Lib.hid (takenB_of hq)
      clear hk HT HA
      have j1 : (0 : Int) ≤ (i : Int) := by omega
      have j2 : (i : Int) < (ks.length : Int) := by omega
      by_cases h45 : k = 4 ∨ k = 5
      · have ht2 : takenN k = 2 := by rcases h45 with rfl | rfl <;> rfl
        obtain ⟨b1, off1, x, hA1, hcx, hx⟩ := h t (by omega)
        obtain ⟨b2, off2, y, hA2, hcy, hy⟩ := h (t + 1) (by omega)
        subst hA1
        injection hA2 with hA2
        injection hA2 with hA2 hA3
        subst hA2 hA3
        replace hcx := cells_below hb _ _ hcx
        replace hcy := cells_below hb _ _ hcy
        have hxr := inR_iff.1 (HR.out x (List.mem_of_getElem? hx))
        have hyr := inR_iff.1 (HR.out y (List.mem_of_getElem? hy))
        have HS : Hid (stepThick k (st.drop t) = decide (4 < x + y)) := Lib.hid (by rw [stepThick, st0_drop hx, st1_drop hy, decide_eq_true h45, Bool.true_and])
        clear hx hy
        have j3 : (0 : Int) ≤ (t : Int) := by omega
        have j4 : (t : Int) < (st.length : Int) := by omega
        have j5 : (0 : Int) ≤ (t : Int) + 1 := by omega
        have j6 : (t : Int) + 1 < (st.length : Int) := by omega
        have j7 : ((t : Int) + 1).toNat = t + 1 := by omega
        have j8 : IntKind.i64.wrap ((t : Int) + 1) = (t : Int) + 1 := IntWalk.i64_in _ ⟨by omega, by omega⟩
        have hcy2 := hcy
        rw [← Nat.add_assoc] at hcy2
        rcases h45 with rfl | rfl
        · by_cases hxy : 4 < x + y
          · have hxy' : decide (4 < x + y) = true := decide_eq_true hxy
            go_wp2_with (fail)
            go_quiet (fail)
            go_wp2_with (fail)
            go_ret
            exact ⟨ret_bool (by rw [HA2.out, HS.out, decide_eq_true hxy]; rfl), below_drewN hb _⟩
          · have hxy' : decide (4 < x + y) = false := decide_eq_false hxy
            go_wp2_with (fail)
            go_quiet (fail)
            go_wp2_with (fail)
            refine (spec_ColumnsTaken _ _).mono ?_; rintro e w9 ⟨rfl, b9⟩
            have hb9 : Below w.heap.size w w9 := (below_drewN hb nq).trans (b9.mono hzs)
            rw [HB.out]
            go_wp2_with (fail)
            refine ⟨⟨i + 1, t + takenN _, by omega, by go_num, by push_cast; go_num, hb9, HT2, Lib.hid (by rw [HA2.out, HS.out, show decide (4 < x + y) = false from decide_eq_false (by omega), Bool.false_or])⟩, by simp [intOf]; omega⟩
        · have hd4 : ((5 : Int) == 4) = false := by decide
          by_cases hxy : 4 < x + y
          · have hxy' : decide (4 < x + y) = true := decide_eq_true hxy
            go_wp2_with (fail)
            go_quiet (fail)
            go_wp2_with (fail)
            go_ret
            exact ⟨ret_bool (by rw [HA2.out, HS.out, decide_eq_true hxy]; rfl), below_drewN hb _⟩
          · have hxy' : decide (4 < x + y) = false := decide_eq_false hxy
            go_wp2_with (fail)
            go_quiet (fail)
            go_wp2_with (fail)
            refine (spec_ColumnsTaken _ _).mono ?_; rintro e w9 ⟨rfl, b9⟩
            have hb9 : Below w.heap.size w w9 := (below_drewN hb nq).trans (b9.mono hzs)
            rw [HB.out]
            go_wp2_with (fail)
            refine ⟨⟨i + 1, t + takenN _, by omega, by go_num, by push_cast; go_num, hb9, HT2, Lib.hid (by rw [HA2.out, HS.out, show decide (4 < x + y) = false from decide_eq_false (by omega), Bool.false_or])⟩, by simp [intOf]; omega⟩
      · have hd4 : (k == 4) = false := by simpa using fun e => h45 (.inl e)
        have hd5 : (k == 5) = false := by simpa using fun e => h45 (.inr e)
        have HS : Hid (stepThick k (st.drop t) = false) := Lib.hid (by rw [stepThick, decide_eq_false h45, Bool.false_and])
        clear h45
        go_wp2_with (fail)
        go_quiet (fail)
        go_wp2_with (fail)
        refine (spec_ColumnsTaken _ _).mono ?_; rintro e w9 ⟨rfl, b9⟩
        have hb9 : Below w.heap.size w w9 := (below_drewN hb nq).trans (b9.mono hzs)
        rw [HB.out]
        go_wp2_with (fail)
        refine ⟨⟨i + 1, t + takenN k, by omega, by go_num, by push_cast; go_num, hb9, HT2, Lib.hid (by rw [HA2.out, HS.out, Bool.false_or])⟩, by simp [intOf]; omega⟩
    · go_wp2_with (fail)
      go_ret
      have he := HA.out
      rw [drop_all (by omega), thickP] at he
      exact ⟨ret_bool he.symm, hb⟩

end Go.Proofs.Ytfgbhhkmdeljoaa
