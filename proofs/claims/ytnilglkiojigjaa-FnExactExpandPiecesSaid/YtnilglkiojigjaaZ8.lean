/- Steps of the proof, joined from several texts: SB RT RU. -/
import Derived.Test.YtnilglkiojigjaaZ6
import Derived.Test.YtnilglkiojigjaaZ7

/- StacksAfter. -/
namespace Go.Proofs.Ytnilglkiojigjaa
open Go.RowKit

theorem ints_one (xs : List Int) : ∀ u ∈ xs.map (Value.int .i64), u.oneCell' = true := by
  intro u hu
  simp only [List.mem_map] at hu
  obtain ⟨x, _, rfl⟩ := hu
  rfl
theorem OwnC.nilc {w : World} {lo hi : Nat} {e : TypeId} {sz : Nat} {A : Option Addr} {n c : Nat} {cs : List Value} (h : OwnC w lo hi e sz A n c cs) : (A = none ∧ c = 0) ∨ ∃ b off, A = some ⟨b, off, none⟩ := by
  rcases h.form with ⟨h1, _, h2, _⟩ | ⟨g, _, h1, _⟩
  · exact .inl ⟨h1, h2⟩
  · exact .inr ⟨g, 0, h1⟩
theorem step_take {k : Int} (hk : isStitchB k = true) (st : List Int) : stepMade k (st.take (takenN k)) = stepMade k st ∧ stepOk k (st.take (takenN k)) = stepOk k st := by
  rcases stitch_cases hk with rfl | rfl | rfl | rfl | rfl | rfl | rfl | rfl | rfl | rfl | rfl
  all_goals (simp [stepMade, stepOk, takenN, st0, st1]; try (first | rfl | (apply Bool.eq_iff_iff.2; simp)))
theorem stepMade_length {k : Int} (hk : isStitchB k = true) (st : List Int) : (stepMade k st).length ≤ 4 := by
  have := takenN_le k hk
  unfold stepMade
  split
  · simp
  · split
    · simp
    · simp; omega
theorem Ints.drop {w : World} {b off : Nat} {xs : List Int} (h : Ints w (some ⟨b, off, none⟩) xs) (t : Nat) : Ints w (some ⟨b, off + t, none⟩) (xs.drop t) := by
  intro k hk
  rw [List.length_drop] at hk
  obtain ⟨b', off', x, hA, hc, hx⟩ := h (t + k) (by omega)
  injection hA with hA
  injection hA with h1 h2
  subst h1 h2
  exact ⟨b, off + t, x, rfl, by rw [Nat.add_assoc]; exact hc, by rw [List.getElem?_drop]; exact hx⟩

set_option maxHeartbeats 1000000 in
theorem spec_StacksAfter (st ks : List Int) (A : Option Addr) (c : Nat) (B : Option Addr) (d : Nat) (w : World) (h : Ints w A st) (hl : st.length ≤ 9223372036854775807) (h' : Ints w B ks) (hl' : ks.length ≤ 9223372036854775807) :
    Calls Try.prog 99 #[.slice A st.length c, .slice B ks.length d] w fun e w' => ∃ A' c', e = .returned (.tuple #[.slice A' (stacksAfterP st ks).1.length c', .int .i64 (stacksAfterP st ks).2]) ∧ OwnI w' w.heap.size w'.heap.size A' c' (stacksAfterP st ks).1 ∧ Below w.heap.size w w' := by
  by_cases h1 : stacksB st = true
  · by_cases h2 : stitchesB ks = true
    · have HP : Hid (takenP ks = takenS ks) := Lib.hid (by rw [takenP, if_pos h2])
      by_cases h3 : takenS ks = st.length
      · have HF := Lib.hid (stacksAfterP_spec h1 h2 h3)
        have H1 := Lib.hid h1
        have H2 := Lib.hid h2
        have H3 := Lib.hid h3
        have h3' : ((takenS ks : Int) != (st.length : Int)) = false := by simp [h3]
        have hal := afterP_length_le (stitchesB_of h2).2 st
        have hkl := (stitchesB_of h2).1
        clear h3
        go_enter Try.func99, Try.ntmps99
        go_wp2_with (fail)
        refine (spec_l14Stacks _ _ _ _ h hl).mono ?_; rintro e _ ⟨rfl, rfl⟩
        go_wp2_with (fail)
        refine (spec_l14Ok _ _ _ _ h' hl').mono ?_; rintro e _ ⟨rfl, rfl⟩
        go_wp2_with (fail)
        refine (spec_TakenBy _ _ _ _ h' hl').mono ?_; rintro e w2 ⟨rfl, b2⟩
        rw [HP.out]
        go_wp2_with (fail)
        refine (spec_l14After A B _ _ st ks _ (h.below b2) (h'.below b2) H1.out H2.out H3.out).mono ?_; rintro e w3 ⟨A3, c3, rfl, o3, b3⟩
        have hb3 : Below w.heap.size w w3 := b2.trans (b3.mono b2.size)
        have hz3 := b3.size
        go_wp2_with (fail)
        refine (spec_l14Stacks _ _ _ _ o3.ints (by omega)).mono ?_; rintro e _ ⟨rfl, rfl⟩
        cases ha : stacksB (afterP ks st)
        · go_wp2_with (fail)
          go_ret2
          rw [HF.out, ha]
          exact ⟨_, _, rfl, OwnC.nil _ _ _ _ _, hb3⟩
        · go_wp2_with (fail)
          refine (spec_l14Thick A B _ _ st ks _ (h.below hb3) (h'.below hb3) H1.out H2.out H3.out).mono ?_; rintro e w4 ⟨rfl, b4⟩
          have hb4 : Below w.heap.size w w4 := hb3.trans (b4.mono hb3.size)
          have o4 := o3.below b4 (Nat.le_refl _)
          have hz4 := b4.size
          have hz2 := b2.size
          cases hb : thickP ks st
          · go_wp2_with (fail)
            go_ret2
            rw [HF.out, ha, hb]
            exact ⟨_, _, rfl, o4.mono hz2 hz4, hb4⟩
          · go_wp2_with (fail)
            go_ret2
            rw [HF.out, ha, hb]
            exact ⟨_, _, rfl, OwnC.nil _ _ _ _ _, hb4⟩
      · have HF : Hid (stacksAfterP st ks = ([], 10)) := Lib.hid (by simp [stacksAfterP, h1, h2, h3])
        have h3' : ((takenS ks : Int) != (st.length : Int)) = true := by simp; omega
        clear h3
        go_enter Try.func99, Try.ntmps99
        go_wp2_with (fail)
        refine (spec_l14Stacks _ _ _ _ h hl).mono ?_; rintro e _ ⟨rfl, rfl⟩
        go_wp2_with (fail)
        refine (spec_l14Ok _ _ _ _ h' hl').mono ?_; rintro e _ ⟨rfl, rfl⟩
        go_wp2_with (fail)
        refine (spec_TakenBy _ _ _ _ h' hl').mono ?_; rintro e w2 ⟨rfl, b2⟩
        rw [HP.out]
        go_wp2_with (fail)
        go_ret2
        rw [HF.out]
        exact ⟨_, _, rfl, OwnC.nil _ _ _ _ _, b2⟩
    · have h2' : stitchesB ks = false := by simpa using h2
      have HF : Hid (stacksAfterP st ks = ([], 1)) := Lib.hid (by rw [stacksAfterP, h2', Bool.and_false]; rfl)
      clear h2
      go_enter Try.func99, Try.ntmps99
      go_wp2_with (fail)
      refine (spec_l14Stacks _ _ _ _ h hl).mono ?_; rintro e _ ⟨rfl, rfl⟩
      go_wp2_with (fail)
      refine (spec_l14Ok _ _ _ _ h' hl').mono ?_; rintro e _ ⟨rfl, rfl⟩
      go_wp2_with (fail)
      go_ret2
      rw [HF.out]
      exact ⟨_, _, rfl, OwnC.nil _ _ _ _ _, Below.refl _ _⟩
  · have h1' : stacksB st = false := by simpa using h1
    have HF : Hid (stacksAfterP st ks = ([], 1)) := Lib.hid (by rw [stacksAfterP, h1', Bool.false_and]; rfl)
    clear h1
    go_enter Try.func99, Try.ntmps99
    go_wp2_with (fail)
    refine (spec_l14Stacks _ _ _ _ h hl).mono ?_; rintro e _ ⟨rfl, rfl⟩
    go_wp2_with (fail)
    go_ret2
    rw [HF.out]
    exact ⟨_, _, rfl, OwnC.nil _ _ _ _ _, Below.refl _ _⟩

set_option maxHeartbeats 4000000 in
set_option maxRecDepth 10000 in
theorem impl_StacksAfter_some (st ks : List Int) (b0 off0 c : Nat) (B : Option Addr) (d : Nat) (w : World) (h : Ints w (some ⟨b0, off0, none⟩) st) (hc0 : st.length ≤ c) (hcm : c ≤ 9223372036854775807) (h' : Ints w B ks) (hl' : ks.length ≤ 9223372036854775807) (h1 : stacksB st = true) (h2 : stitchesB ks = true) (h3 : takenS ks = st.length) :
    Calls Try.prog 167 #[.slice (some ⟨b0, off0, none⟩) st.length c, .slice B ks.length d] w fun e w' => ∃ A' c', e = .returned (.tuple #[.slice A' (stacksAfterP st ks).1.length c', .int .i64 (stacksAfterP st ks).2]) ∧ OwnI w' w.heap.size w'.heap.size A' c' (stacksAfterP st ks).1 ∧ Below w.heap.size w w' := by
  obtain ⟨i0, hi0, hz0, hz1, hz2⟩ := info_parts info_int64
  have HF : Hid (stacksAfterP st ks = if okAfter ks st && decide ((afterP ks st).length ≤ 8) then (afterP ks st, 0) else ([], 5)) := Lib.hid (by rw [stacksAfterP, h1, h2]; simp [h3])
  obtain ⟨hl16, hst⟩ := stitchesB_of h2
  obtain ⟨hl8, hr⟩ := stacksB_of h1
  have HST := Lib.hid hst; clear hst
  have HR := Lib.hid hr; clear hr
  have HEQ := Lib.hid h3
  have h3' : ((takenS ks : Int) != (st.length : Int)) = false := by simp [h3]
  have H2 := Lib.hid h2
  clear h3
  go_enter Try.func167, Try.ntmps167
  go_wp2_with (fail)
  refine (impl_areStacks _ _ _ _ h (by omega)).mono ?_; rintro e _ ⟨rfl, rfl⟩
  go_wp2_with (fail)
  refine (impl_areStitches _ _ _ _ h' hl').mono ?_; rintro e _ ⟨rfl, rfl⟩
  go_wp2_with (fail)
  refine (impl_takenBy _ _ _ _ h' H2.out).mono ?_; rintro e _ ⟨rfl, rfl⟩
  go_wp2_with (fail)
  go_loopw [6, 7, 30] (fun ov rv iv wr => ∃ (i t o lr cr : Nat) (A' : Option Addr) (c' : Nat) (out : List Int), i ≤ ks.length ∧ iv = .int .i64 i ∧ rv = .slice (some ⟨b0, o, none⟩) lr cr ∧ st.length = t + lr ∧ c = t + cr ∧ (0 < lr → o = off0 + t) ∧ ov = .slice A' out.length c' ∧ OwnI wr w.heap.size wr.heap.size A' c' out ∧ Below w.heap.size w wr ∧ Hid (takenS (ks.take i) = t) ∧ Hid (afterP ks st = out ++ afterP (ks.drop i) (st.drop t)) ∧ Hid (okAfter ks st = okAfter (ks.drop i) (st.drop t)) ∧ out.length ≤ 4 * i) (fun _ _ iv _ => ks.length - (intOf iv).toNat)
  case atStart =>
    exact ⟨0, 0, off0, st.length, c, some ⟨w.heap.size, 0, none⟩, 0, [], Nat.zero_le _, rfl, rfl, by omega, by omega, fun _ => rfl, rfl, (OwnC.lit _ 1 #[] (Nat.le_refl _) (Nat.zero_le _) rfl).mono (Nat.le_refl _) (by simp), by (repeat (first | exact Below.refl _ _ | assumption | apply Below.drew | apply below_drewN | (refine Below.alloc ?_ (by first | omega | (simp; done) | (simp; omega)) _) | (refine Below.setCell ?_ (by first | omega | (simp; done) | (simp; omega)) _))), Lib.hid rfl, Lib.hid (by simp), Lib.hid (by simp), by simp⟩
  case round =>
    obtain ⟨i, t, o, lr, cr, A', c', out, hi, rfl, rfl, hlr, hcr, hor, rfl, ho, hb, HT, HA, HO, hol⟩ := hrel
    have hzs := hb.size
    by_cases hlt : i < ks.length
    · obtain ⟨b, off, k, rfl, hc, hk⟩ := h' i hlt
      replace hc := cells_below hb _ _ hc
      have hq := HST.out k (List.mem_of_getElem? hk)
      have hle : t + takenN k ≤ st.length := by have := takenS_at hk; rw [HT.out, HEQ.out] at this; exact this
      have HT2 : Hid (takenS (ks.take (i + 1)) = t + takenN k) := Lib.hid (by rw [takenS_snoc hk, HT.out])
      have HA2 : Hid (afterP ks st = (out ++ stepMade k (st.drop t)) ++ afterP (ks.drop (i + 1)) (st.drop (t + takenN k))) := Lib.hid (by rw [HA.out, afterP_drop hk, List.append_assoc])
      have HO2 : Hid (okAfter ks st = (stepOk k (st.drop t) && okAfter (ks.drop (i + 1)) (st.drop (t + takenN k)))) := Lib.hid (by rw [HO.out, okAfter_drop hk])
      have HB : Hid (takenB k = takenN k) := Lib.hid (takenB_of hq)
      have hml := stepMade_length hq (st.drop t)
      have hpart : Ints w (some ⟨b0, o, none⟩) ((st.drop t).take (takenN k)) := by
        by_cases h0 : 0 < lr
        · rw [hor h0]; exact Ints.take (h.drop t) _
        · have : (st.drop t).take (takenN k) = [] := by rw [drop_all (by omega)]; simp
          rw [this]; exact Ints.nil
      have hpl : ((st.drop t).take (takenN k)).length = takenN k := by rw [List.length_take, List.length_drop]; omega
      have hcon : ∀ W, Below w.heap.size w W → Calls Try.prog 205 #[.int .i64 k, .slice (some ⟨b0, o, none⟩) (takenN k) cr] W fun e w' => ∃ A' c', e = .returned (.tuple #[.slice A' (stepMade k (st.drop t)).length c', .bool (stepOk k (st.drop t))]) ∧ OwnI w' W.heap.size w'.heap.size A' c' (stepMade k (st.drop t)) ∧ Below W.heap.size W w' := fun W hW => by
        have := impl_madeStacks k (some ⟨b0, o, none⟩) ((st.drop t).take (takenN k)) cr W (hpart.below hW) hq hpl fun x hx => HR.out x (List.mem_of_mem_drop (List.mem_of_mem_take hx))
        rw [(step_take hq (st.drop t)).1, (step_take hq (st.drop t)).2, hpl] at this
        exact this
      have HC := Lib.hid hcon
      clear hk HT HA HO hcon hpart hpl
      have hn1 : takenN k ≤ lr := by omega
      have hn2 : takenN k ≤ cr := by omega
      have hn3 : lr ≤ cr := by omega
      have hn4 : cr ≤ 9223372036854775807 := by omega
      have HLR := Lib.hid hlr; clear hlr
      have HCR := Lib.hid hcr; clear hcr
      go_wp2_with (fail)
      refine (impl_ColumnsTaken _ _).mono ?_; rintro e _ ⟨rfl, rfl⟩
      rw [HB.out]
      go_wp2_with (fail)
      refine (HC.out _ hb).mono ?_; rintro e w2 ⟨A2, c2, rfl, o2, b2⟩
      have hb2 : Below w.heap.size w w2 := hb.trans (b2.mono hzs)
      have hz2' := b2.size
      have ho2 := ho.below b2 (Nat.le_refl _)
      cases hok : stepOk k (st.drop t)
      · go_wp2_with (fail)
        go_ret2
        rw [HF.out, HO2.out, hok]
        exact ⟨_, _, rfl, OwnC.nil _ _ _ _ _, hb2⟩
      · have HM : Hid (out ++ stepMade k (st.drop t) = out ++ stepMade k (st.drop t)) := Lib.hid rfl
        generalize stepMade k (st.drop t) = ms at o2 hml HA2 HM
        by_cases hcn : cr = takenN k
        · have hcn' : cr ≤ takenN k := by omega
          clear hcn
          go_wp2_with (at_builtin; refine wpList_appendC w2 rfl (.tmp 46) (.tmp 47) _ rfl 2 i0 _ 1 8 Try.underlying22 hi0 hz0 hz1 hz2 rfl (by decide) rfl ho2 (by omega) A2 ms.length c2 (ms.map (Value.int .i64)) rfl (by simp) o2.news (ints_one _) (by unfold maxLen; omega) (by omega) ?_; intro A5 c5 w5 ho5 hg5 hb5)
          go_roundw
          case rel => exact ⟨i + 1, t + takenN k, o, lr - takenN k, cr - takenN k, A5, c5, out ++ ms, by omega, by go_num, by first | rfl | (simp; done) | (simp; omega), by have := HLR.out; omega, by have := HCR.out; omega, fun h0 => by omega, by rw [List.length_append], by show OwnC _ _ _ _ _ _ _ _ _; rw [List.map_append, List.length_append]; exact ho5, hb2.trans hb5, HT2, HA2, Lib.hid (by rw [HO2.out, hok, Bool.true_and]), by simp; omega⟩
          case measure => simp [intOf]; omega
        · go_wp2_with (at_builtin; refine wpList_appendC w2 rfl (.tmp 46) (.tmp 47) _ rfl 2 i0 _ 1 8 Try.underlying22 hi0 hz0 hz1 hz2 rfl (by decide) rfl ho2 (by omega) A2 ms.length c2 (ms.map (Value.int .i64)) rfl (by simp) o2.news (ints_one _) (by unfold maxLen; omega) (by omega) ?_; intro A5 c5 w5 ho5 hg5 hb5)
          go_roundw
          case rel => exact ⟨i + 1, t + takenN k, o + takenN k, lr - takenN k, cr - takenN k, A5, c5, out ++ ms, by omega, by go_num, by first | rfl | (simp; done) | (simp; omega), by have := HLR.out; omega, by have := HCR.out; omega, fun h0 => by have := hor (by omega); omega, by rw [List.length_append], by show OwnC _ _ _ _ _ _ _ _ _; rw [List.map_append, List.length_append]; exact ho5, hb2.trans hb5, HT2, HA2, Lib.hid (by rw [HO2.out, hok, Bool.true_and]), by simp; omega⟩
          case measure => simp [intOf]; omega
    · have he := HA.out
      rw [drop_all (by omega), afterP, List.append_nil] at he
      have hok := HO.out
      rw [drop_all (by omega), okAfter] at hok
      by_cases h8 : out.length ≤ 8
      · go_wp2_with (fail)
        go_ret2
        rw [HF.out, hok, he, decide_eq_true h8]
        exact ⟨_, _, rfl, ho, hb⟩
      · go_wp2_with (fail)
        go_ret2
        rw [HF.out, hok, he, decide_eq_false h8]
        exact ⟨_, _, rfl, OwnC.nil _ _ _ _ _, hb⟩

set_option maxHeartbeats 2000000 in
set_option maxRecDepth 10000 in
theorem impl_StacksAfter_nil (ks : List Int) (B : Option Addr) (d : Nat) (w : World) (h' : Ints w B ks) (hl' : ks.length ≤ 9223372036854775807) (h2 : stitchesB ks = true) (h3 : takenS ks = 0) :
    Calls Try.prog 167 #[.slice none 0 0, .slice B ks.length d] w fun e w' => ∃ A' c', e = .returned (.tuple #[.slice A' (stacksAfterP [] ks).1.length c', .int .i64 (stacksAfterP [] ks).2]) ∧ OwnI w' w.heap.size w'.heap.size A' c' (stacksAfterP [] ks).1 ∧ Below w.heap.size w w' := by
  obtain ⟨i0, hi0, hz0, hz1, hz2⟩ := info_parts info_int64
  have h1 : stacksB [] = true := rfl
  have HF : Hid (stacksAfterP [] ks = if okAfter ks [] && decide ((afterP ks []).length ≤ 8) then (afterP ks [], 0) else ([], 5)) := Lib.hid (by simp [stacksAfterP, h1, h2, h3])
  obtain ⟨hl16, hst⟩ := stitchesB_of h2
  have HST := Lib.hid hst; clear hst
  have HEQ := Lib.hid h3
  have h3' : ((takenS ks : Int) != 0) = false := by simp [h3]
  have H2 := Lib.hid h2
  have h0 := impl_areStacks none 0 [] w Ints.nil (Nat.zero_le _)
  have H0 := Lib.hid h0; clear h0
  clear h3
  go_enter Try.func167, Try.ntmps167
  go_wp2_with (fail)
  refine H0.out.mono ?_; rintro e _ ⟨rfl, rfl⟩
  go_wp2_with (fail)
  refine (impl_areStitches _ _ _ _ h' hl').mono ?_; rintro e _ ⟨rfl, rfl⟩
  go_wp2_with (fail)
  refine (impl_takenBy _ _ _ _ h' H2.out).mono ?_; rintro e _ ⟨rfl, rfl⟩
  go_wp2_with (fail)
  go_loopw [6, 7, 30] (fun ov rv iv wr => ∃ (i : Nat) (A' : Option Addr) (c' : Nat) (out : List Int), i ≤ ks.length ∧ iv = .int .i64 i ∧ rv = .slice none 0 0 ∧ ov = .slice A' out.length c' ∧ OwnI wr w.heap.size wr.heap.size A' c' out ∧ Below w.heap.size w wr ∧ Hid (takenS (ks.take i) = 0) ∧ Hid (afterP ks [] = out ++ afterP (ks.drop i) []) ∧ Hid (okAfter ks [] = okAfter (ks.drop i) []) ∧ out.length ≤ 4 * i) (fun _ _ iv _ => ks.length - (intOf iv).toNat)
  case atStart =>
    exact ⟨0, some ⟨w.heap.size, 0, none⟩, 0, [], Nat.zero_le _, rfl, rfl, rfl, (OwnC.lit _ 1 #[] (Nat.le_refl _) (Nat.zero_le _) rfl).mono (Nat.le_refl _) (by simp), by (repeat (first | exact Below.refl _ _ | assumption | apply Below.drew | apply below_drewN | (refine Below.alloc ?_ (by first | omega | (simp; done) | (simp; omega)) _) | (refine Below.setCell ?_ (by first | omega | (simp; done) | (simp; omega)) _))), Lib.hid rfl, Lib.hid (by simp), Lib.hid (by simp), by simp⟩
  case round =>
    obtain ⟨i, A', c', out, hi, rfl, rfl, rfl, ho, hb, HT, HA, HO, hol⟩ := hrel
    have hzs := hb.size
    by_cases hlt : i < ks.length
    · obtain ⟨b, off, k, rfl, hc, hk⟩ := h' i hlt
      replace hc := cells_below hb _ _ hc
      have hq := HST.out k (List.mem_of_getElem? hk)
      have hle : takenN k = 0 := by have := takenS_at hk; rw [HT.out, HEQ.out] at this; omega
      have hk3 : k = 3 := by
        rcases stitch_cases hq with rfl | rfl | rfl | rfl | rfl | rfl | rfl | rfl | rfl | rfl | rfl <;> first | rfl | (exact absurd hle (by decide))
      subst hk3
      have HT2 : Hid (takenS (ks.take (i + 1)) = 0) := Lib.hid (by rw [takenS_snoc hk, HT.out]; rfl)
      have HA2 : Hid (afterP ks [] = (out ++ [1]) ++ afterP (ks.drop (i + 1)) []) := Lib.hid (by rw [HA.out, drop_cons hk, afterP, List.append_assoc]; rfl)
      have HO2 : Hid (okAfter ks [] = okAfter (ks.drop (i + 1)) []) := Lib.hid (by rw [HO.out, drop_cons hk, okAfter]; rfl)
      have HB : Hid (takenB 3 = 0) := Lib.hid rfl
      clear hk HT HA HO hle
      go_wp2_with (fail)
      refine (impl_ColumnsTaken _ _).mono ?_; rintro e _ ⟨rfl, rfl⟩
      rw [HB.out]
      go_wp2_with (fail)
      refine (madeStacks_3 _ _ _ _).mono ?_; rintro e w2 ⟨A2, c2, rfl, o2, b2⟩
      have hb2 : Below w.heap.size w w2 := hb.trans (b2.mono hzs)
      have hz2' := b2.size
      have ho2 := ho.below b2 (Nat.le_refl _)
      go_wp2_with (at_builtin; refine wpList_appendC w2 rfl (.tmp 46) (.tmp 47) _ rfl 2 i0 _ 1 8 Try.underlying22 hi0 hz0 hz1 hz2 rfl (by decide) rfl ho2 (by omega) A2 1 c2 (([1] : List Int).map (Value.int .i64)) rfl (by simp) o2.news (ints_one _) (by unfold maxLen; omega) (by omega) ?_; intro A5 c5 w5 ho5 hg5 hb5)
      go_roundw
      case rel => exact ⟨i + 1, A5, c5, out ++ [1], by omega, by go_num, by first | rfl | simp, by rw [List.length_append]; rfl, by show OwnC _ _ _ _ _ _ _ _ _; rw [List.map_append, List.length_append]; exact ho5, hb2.trans hb5, HT2, HA2, HO2, by simp; omega⟩
      case measure => simp [intOf]; omega
    · have he := HA.out
      rw [drop_all (by omega), afterP, List.append_nil] at he
      have hok := HO.out
      rw [drop_all (by omega), okAfter] at hok
      by_cases h8 : out.length ≤ 8
      · go_wp2_with (fail)
        go_ret2
        rw [HF.out, hok, he, decide_eq_true h8]
        exact ⟨_, _, rfl, ho, hb⟩
      · go_wp2_with (fail)
        go_ret2
        rw [HF.out, hok, he, decide_eq_false h8]
        exact ⟨_, _, rfl, OwnC.nil _ _ _ _ _, hb⟩

set_option maxHeartbeats 1000000 in
theorem impl_StacksAfter (st ks : List Int) (A : Option Addr) (c : Nat) (B : Option Addr) (d : Nat) (w : World) (h : Ints w A st) (hl : st.length ≤ 9223372036854775807) (hc0 : st.length ≤ c) (hcm : c ≤ 9223372036854775807) (hn : (A = none ∧ c = 0) ∨ ∃ b off, A = some ⟨b, off, none⟩) (h' : Ints w B ks) (hl' : ks.length ≤ 9223372036854775807) :
    Calls Try.prog 167 #[.slice A st.length c, .slice B ks.length d] w fun e w' => ∃ A' c', e = .returned (.tuple #[.slice A' (stacksAfterP st ks).1.length c', .int .i64 (stacksAfterP st ks).2]) ∧ OwnI w' w.heap.size w'.heap.size A' c' (stacksAfterP st ks).1 ∧ Below w.heap.size w w' := by
  by_cases h1 : stacksB st = true
  · by_cases h2 : stitchesB ks = true
    · by_cases h3 : takenS ks = st.length
      · rcases hn with ⟨rfl, rfl⟩ | ⟨b, off, rfl⟩
        · obtain rfl : st = [] := List.eq_nil_of_length_eq_zero (by omega)
          exact impl_StacksAfter_nil ks B d w h' hl' h2 h3
        · exact impl_StacksAfter_some st ks b off c B d w h hc0 hcm h' hl' h1 h2 h3
      · have HF : Hid (stacksAfterP st ks = ([], 10)) := Lib.hid (by simp [stacksAfterP, h1, h2, h3])
        have h3' : ((takenS ks : Int) != (st.length : Int)) = true := by simp; omega
        have H2 := Lib.hid h2
        clear h3
        go_enter Try.func167, Try.ntmps167
        go_wp2_with (fail)
        refine (impl_areStacks _ _ _ _ h hl).mono ?_; rintro e _ ⟨rfl, rfl⟩
        go_wp2_with (fail)
        refine (impl_areStitches _ _ _ _ h' hl').mono ?_; rintro e _ ⟨rfl, rfl⟩
        go_wp2_with (fail)
        refine (impl_takenBy _ _ _ _ h' H2.out).mono ?_; rintro e _ ⟨rfl, rfl⟩
        go_wp2_with (fail)
        go_ret2
        rw [HF.out]
        exact ⟨_, _, rfl, OwnC.nil _ _ _ _ _, Below.refl _ _⟩
    · have h2' : stitchesB ks = false := by simpa using h2
      have HF : Hid (stacksAfterP st ks = ([], 1)) := Lib.hid (by rw [stacksAfterP, h2', Bool.and_false]; rfl)
      clear h2
      go_enter Try.func167, Try.ntmps167
      go_wp2_with (fail)
      refine (impl_areStacks _ _ _ _ h hl).mono ?_; rintro e _ ⟨rfl, rfl⟩
      go_wp2_with (fail)
      refine (impl_areStitches _ _ _ _ h' hl').mono ?_; rintro e _ ⟨rfl, rfl⟩
      go_wp2_with (fail)
      go_ret2
      rw [HF.out]
      exact ⟨_, _, rfl, OwnC.nil _ _ _ _ _, Below.refl _ _⟩
  · have h1' : stacksB st = false := by simpa using h1
    have HF : Hid (stacksAfterP st ks = ([], 1)) := Lib.hid (by rw [stacksAfterP, h1', Bool.false_and]; rfl)
    clear h1
    go_enter Try.func167, Try.ntmps167
    go_wp2_with (fail)
    refine (impl_areStacks _ _ _ _ h hl).mono ?_; rintro e _ ⟨rfl, rfl⟩
    go_wp2_with (fail)
    go_ret2
    rw [HF.out]
    exact ⟨_, _, rfl, OwnC.nil _ _ _ _ _, Below.refl _ _⟩

end Go.Proofs.Ytnilglkiojigjaa

/- RowLetters. -/
namespace Go.Proofs.Ytnilglkiojigjaa
open Go.RowKit

theorem lettersFrom_drop {ks : List Int} {i : Nat} {k c : Int} (h : ks[i]? = some k) : lettersFrom (ks.drop i) c = stLetters k c ++ lettersFrom (ks.drop (i + 1)) (c + takenN k) := by rw [drop_cons h, lettersFrom]
theorem takenP_of {ks : List Int} (h : stitchesB ks = true) : takenP ks = takenS ks := by rw [takenP, if_pos h]
theorem row_stitches {d r : Int} {ks : List Int} (h : rowB d r ks = true) : stitchesB ks = true := by
  unfold rowB at h
  simp only [Bool.and_eq_true] at h
  exact h.2


end Go.Proofs.Ytnilglkiojigjaa

/- RowLetters, the program's side. -/
namespace Go.Proofs.Ytnilglkiojigjaa
open Go.RowKit

set_option maxHeartbeats 4000000 in
set_option maxRecDepth 10000 in
theorem impl_letters (d r : Int) (ks : List Int) (A : Option Addr) (c : Nat) (w : World) (h : Ints w A ks) (hs : stitchesB ks = true) :
    Calls Try.prog 121 #[.agg #[.int .i64 d, .int .i64 r, .slice A ks.length c]] w fun e w' => ∃ A' c', e = .returned (.slice A' (lettersFrom ks 0).length c') ∧ OwnI w' w.heap.size w'.heap.size A' c' (lettersFrom ks 0) ∧ Below w.heap.size w w' := by
  obtain ⟨i0, hi0, hz0, hz1, hz2⟩ := info_parts info_int64
  obtain ⟨hl, hst⟩ := stitchesB_of hs
  have hts := (sums_le hst).1
  have HST := Lib.hid hst; clear hst
  have o00 : OwnC ((w.alloc (.cells #[.int .i64 d, .int .i64 r, .slice A ks.length c] 66)).alloc (.cells #[] 2)) w.heap.size (w.heap.size + 2) 2 1 (some ⟨w.heap.size + 1, 0, none⟩) 0 0 [] := by
    have := OwnC.lit (w := w.alloc (.cells #[.int .i64 d, .int .i64 r, .slice A ks.length c] 66)) (lo := w.heap.size) (n := 0) 2 1 #[] (by simp) (Nat.zero_le _) rfl
    simpa using this
  have O00 := Lib.hid o00; clear o00
  go_enter Try.func121, Try.ntmps121
  go_wp2_with (fail)
  go_loopw [3, 4, 11] (fun ov tv iv wr => ∃ (i t : Nat) (A' : Option Addr) (c' : Nat) (out : List Int), i ≤ ks.length ∧ iv = .int .i64 i ∧ tv = .int .i64 t ∧ ov = .slice A' out.length c' ∧ OwnI wr w.heap.size wr.heap.size A' c' out ∧ Below w.heap.size w wr ∧ Hid (takenS (ks.take i) = t) ∧ Hid (lettersFrom ks 0 = out ++ lettersFrom (ks.drop i) t) ∧ out.length ≤ 4 * i) (fun _ _ iv _ => ks.length - (intOf iv).toNat)
  case atStart =>
    exact ⟨0, 0, some ⟨w.heap.size + 1, 0, none⟩, 0, [], Nat.zero_le _, rfl, rfl, rfl, O00.out.mono (Nat.le_refl _) (by simp), by (repeat (first | exact Below.refl _ _ | assumption | apply Below.drew | apply below_drewN | (refine Below.alloc ?_ (by first | omega | (simp; done) | (simp; omega)) _) | (refine Below.setCell ?_ (by first | omega | (simp; done) | (simp; omega)) _))), Lib.hid rfl, Lib.hid (by simp), by simp⟩
  case round =>
    clear O00
    obtain ⟨i, t, A', c', out, hi, rfl, rfl, rfl, ho, hb, HT, HA, hol⟩ := hrel
    have hzs := hb.size
    by_cases hlt : i < ks.length
    · obtain ⟨b, off, k, rfl, hc, hk⟩ := h i hlt
      replace hc := cells_below hb _ _ hc
      have hq := HST.out k (List.mem_of_getElem? hk)
      have hle : t + takenN k ≤ 64 := by have := takenS_at hk; rw [HT.out] at this; omega
      have HT2 : Hid (takenS (ks.take (i + 1)) = t + takenN k) := Lib.hid (by rw [takenS_snoc hk, HT.out])
      have HA2 : Hid (lettersFrom ks 0 = (out ++ stLetters k t) ++ lettersFrom (ks.drop (i + 1)) ((t + takenN k : Nat) : Int)) := Lib.hid (by rw [HA.out, lettersFrom_drop hk, List.append_assoc]; push_cast; rfl)
      have HB : Hid (takenB k = takenN k) := Lib.hid (takenB_of hq)
      clear hk HT HA
      rcases stitch_cases hq with rfl | rfl | rfl | rfl | rfl | rfl | rfl | rfl | rfl | rfl | rfl
      · go_wp2_with (fail)
        refine (impl_ColumnsTaken _ _).mono ?_; rintro e _ ⟨rfl, rfl⟩
        rw [HB.out]
        go_wp2_with (fail)
        refine ⟨⟨i + 1, t + takenN 1, A', c', out, by omega, by go_num, by push_cast; go_num, rfl, ho, hb, HT2, Lib.hid (by rw [HA2.out]; simp [stLetters]), by omega⟩, by simp [intOf]; omega⟩
      · go_wp2_with (fail)
        refine (impl_ColumnsTaken _ _).mono ?_; rintro e _ ⟨rfl, rfl⟩
        rw [HB.out]
        go_wp2_with (fail)
        refine ⟨⟨i + 1, t + takenN 2, A', c', out, by omega, by go_num, by push_cast; go_num, rfl, ho, hb, HT2, Lib.hid (by rw [HA2.out]; simp [stLetters]), by omega⟩, by simp [intOf]; omega⟩
      · go_wp2_with (fail)
        refine (impl_ColumnsTaken _ _).mono ?_; rintro e _ ⟨rfl, rfl⟩
        rw [HB.out]
        go_wp2_with (fail)
        refine ⟨⟨i + 1, t + takenN 3, A', c', out, by omega, by go_num, by push_cast; go_num, rfl, ho, hb, HT2, Lib.hid (by rw [HA2.out]; simp [stLetters]), by omega⟩, by simp [intOf]; omega⟩
      · go_wp2_with (fail)
        refine (impl_ColumnsTaken _ _).mono ?_; rintro e _ ⟨rfl, rfl⟩
        rw [HB.out]
        go_wp2_with (fail)
        refine ⟨⟨i + 1, t + takenN 4, A', c', out, by omega, by go_num, by push_cast; go_num, rfl, ho, hb, HT2, Lib.hid (by rw [HA2.out]; simp [stLetters]), by omega⟩, by simp [intOf]; omega⟩
      · have hle2 : t ≤ 64 := by omega
        have o2 := OwnC.lit (w := wr) (lo := wr.heap.size) (n := 1) 2 1 #[.int .i64 (-(t : Int) - 1)] (Nat.le_refl _) (by unfold maxLen; omega) rfl
        have O2 := Lib.hid o2; clear o2
        have ho2 := ho.alloc (.cells #[.int .i64 (-(t : Int) - 1)] 2)
        go_wp2_with (at_builtin; refine wpList_appendC (wr.alloc (.cells #[.int .i64 (-(t : Int) - 1)] 2)) rfl (.tmp 26) (.tmp 30) _ rfl 2 i0 _ 1 8 Try.underlying22 hi0 hz0 hz1 hz2 rfl (by decide) rfl ho2 (by simp; omega) (some ⟨wr.heap.size, 0, none⟩) 1 1 [.int .i64 (-(t : Int) - 1)] rfl rfl O2.out.news (by simp [Value.oneCell']) (by unfold maxLen; omega) (by omega) ?_; intro A5 c5 w5 ho5 hg5 hb5)
        have hb6 : Below w.heap.size w w5 := Below.trans (by (repeat (first | exact Below.refl _ _ | assumption | apply Below.drew | apply below_drewN | (refine Below.alloc ?_ (by first | omega | (simp; done) | (simp; omega)) _) | (refine Below.setCell ?_ (by first | omega | (simp; done) | (simp; omega)) _)))) hb5
        refine (impl_ColumnsTaken _ _).mono ?_; rintro e _ ⟨rfl, rfl⟩
        rw [HB.out]
        go_wp2_with (fail)
        refine ⟨⟨i + 1, t + takenN 5, A5, c5, out ++ [-(t : Int) - 1], by omega, by go_num, by push_cast; go_num, by simp, by show OwnC _ _ _ _ _ _ _ _ _; rw [List.map_append, List.length_append]; exact ho5, hb6, HT2, HA2, by simp; omega⟩, by simp [intOf]; omega⟩
      · go_wp2_with (fail)
        refine (impl_ColumnsTaken _ _).mono ?_; rintro e _ ⟨rfl, rfl⟩
        rw [HB.out]
        go_wp2_with (fail)
        refine ⟨⟨i + 1, t + takenN 6, A', c', out, by omega, by go_num, by push_cast; go_num, rfl, ho, hb, HT2, Lib.hid (by rw [HA2.out]; simp [stLetters]), by omega⟩, by simp [intOf]; omega⟩
      · go_wp2_with (fail)
        refine (impl_ColumnsTaken _ _).mono ?_; rintro e _ ⟨rfl, rfl⟩
        rw [HB.out]
        go_wp2_with (fail)
        refine ⟨⟨i + 1, t + takenN 7, A', c', out, by omega, by go_num, by push_cast; go_num, rfl, ho, hb, HT2, Lib.hid (by rw [HA2.out]; simp [stLetters]), by omega⟩, by simp [intOf]; omega⟩
      · have hle2 : t ≤ 64 := by omega
        have o2 := OwnC.lit (w := wr) (lo := wr.heap.size) (n := 1) 2 1 #[.int .i64 ((t : Int) + 1)] (Nat.le_refl _) (by unfold maxLen; omega) rfl
        have O2 := Lib.hid o2; clear o2
        have ho2 := ho.alloc (.cells #[.int .i64 ((t : Int) + 1)] 2)
        go_wp2_with (at_builtin; refine wpList_appendC (wr.alloc (.cells #[.int .i64 ((t : Int) + 1)] 2)) rfl (.tmp 18) (.tmp 21) _ rfl 2 i0 _ 1 8 Try.underlying22 hi0 hz0 hz1 hz2 rfl (by decide) rfl ho2 (by simp; omega) (some ⟨wr.heap.size, 0, none⟩) 1 1 [.int .i64 ((t : Int) + 1)] rfl rfl O2.out.news (by simp [Value.oneCell']) (by unfold maxLen; omega) (by omega) ?_; intro A5 c5 w5 ho5 hg5 hb5)
        have hb6 : Below w.heap.size w w5 := Below.trans (by (repeat (first | exact Below.refl _ _ | assumption | apply Below.drew | apply below_drewN | (refine Below.alloc ?_ (by first | omega | (simp; done) | (simp; omega)) _) | (refine Below.setCell ?_ (by first | omega | (simp; done) | (simp; omega)) _)))) hb5
        refine (impl_ColumnsTaken _ _).mono ?_; rintro e _ ⟨rfl, rfl⟩
        rw [HB.out]
        go_wp2_with (fail)
        refine ⟨⟨i + 1, t + takenN 8, A5, c5, out ++ [(t : Int) + 1], by omega, by go_num, by push_cast; go_num, by simp, by show OwnC _ _ _ _ _ _ _ _ _; rw [List.map_append, List.length_append]; exact ho5, hb6, HT2, HA2, by simp; omega⟩, by simp [intOf]; omega⟩
      · have hle2 : t ≤ 64 := by omega
        have o2 := OwnC.lit (w := wr) (lo := wr.heap.size) (n := 1) 2 1 #[.int .i64 (-(t : Int) - 1)] (Nat.le_refl _) (by unfold maxLen; omega) rfl
        have O2 := Lib.hid o2; clear o2
        have ho2 := ho.alloc (.cells #[.int .i64 (-(t : Int) - 1)] 2)
        go_wp2_with (at_builtin; refine wpList_appendC (wr.alloc (.cells #[.int .i64 (-(t : Int) - 1)] 2)) rfl (.tmp 26) (.tmp 30) _ rfl 2 i0 _ 1 8 Try.underlying22 hi0 hz0 hz1 hz2 rfl (by decide) rfl ho2 (by simp; omega) (some ⟨wr.heap.size, 0, none⟩) 1 1 [.int .i64 (-(t : Int) - 1)] rfl rfl O2.out.news (by simp [Value.oneCell']) (by unfold maxLen; omega) (by omega) ?_; intro A5 c5 w5 ho5 hg5 hb5)
        have hb6 : Below w.heap.size w w5 := Below.trans (by (repeat (first | exact Below.refl _ _ | assumption | apply Below.drew | apply below_drewN | (refine Below.alloc ?_ (by first | omega | (simp; done) | (simp; omega)) _) | (refine Below.setCell ?_ (by first | omega | (simp; done) | (simp; omega)) _)))) hb5
        refine (impl_ColumnsTaken _ _).mono ?_; rintro e _ ⟨rfl, rfl⟩
        rw [HB.out]
        go_wp2_with (fail)
        refine ⟨⟨i + 1, t + takenN 9, A5, c5, out ++ [-(t : Int) - 1], by omega, by go_num, by push_cast; go_num, by simp, by show OwnC _ _ _ _ _ _ _ _ _; rw [List.map_append, List.length_append]; exact ho5, hb6, HT2, HA2, by simp; omega⟩, by simp [intOf]; omega⟩
      · have hle2 : t ≤ 64 := by omega
        have o2 := OwnC.lit (w := wr) (lo := wr.heap.size) (n := 4) 2 1 #[.int .i64 ((t : Int) + 2), .int .i64 ((t : Int) + 1), .int .i64 ((t : Int) + 3), .int .i64 ((t : Int) + 2)] (Nat.le_refl _) (by unfold maxLen; omega) rfl
        have O2 := Lib.hid o2; clear o2
        have ho2 := ho.alloc (.cells #[.int .i64 ((t : Int) + 2), .int .i64 ((t : Int) + 1), .int .i64 ((t : Int) + 3), .int .i64 ((t : Int) + 2)] 2)
        go_wp2_with (at_builtin; refine wpList_appendC (wr.alloc (.cells #[.int .i64 ((t : Int) + 2), .int .i64 ((t : Int) + 1), .int .i64 ((t : Int) + 3), .int .i64 ((t : Int) + 2)] 2)) rfl (.tmp 34) (.tmp 43) _ rfl 2 i0 _ 1 8 Try.underlying22 hi0 hz0 hz1 hz2 rfl (by decide) rfl ho2 (by simp; omega) (some ⟨wr.heap.size, 0, none⟩) 4 4 [.int .i64 ((t : Int) + 2), .int .i64 ((t : Int) + 1), .int .i64 ((t : Int) + 3), .int .i64 ((t : Int) + 2)] rfl rfl O2.out.news (by simp [Value.oneCell']) (by unfold maxLen; omega) (by omega) ?_; intro A5 c5 w5 ho5 hg5 hb5)
        have hb6 : Below w.heap.size w w5 := Below.trans (by (repeat (first | exact Below.refl _ _ | assumption | apply Below.drew | apply below_drewN | (refine Below.alloc ?_ (by first | omega | (simp; done) | (simp; omega)) _) | (refine Below.setCell ?_ (by first | omega | (simp; done) | (simp; omega)) _)))) hb5
        refine (impl_ColumnsTaken _ _).mono ?_; rintro e _ ⟨rfl, rfl⟩
        rw [HB.out]
        go_wp2_with (fail)
        refine ⟨⟨i + 1, t + takenN 10, A5, c5, out ++ [(t : Int) + 2, (t : Int) + 1, (t : Int) + 3, (t : Int) + 2], by omega, by go_num, by push_cast; go_num, by simp, by show OwnC _ _ _ _ _ _ _ _ _; rw [List.map_append, List.length_append]; exact ho5, hb6, HT2, HA2, by simp; omega⟩, by simp [intOf]; omega⟩
      · have hle2 : t ≤ 64 := by omega
        have o2 := OwnC.lit (w := wr) (lo := wr.heap.size) (n := 4) 2 1 #[.int .i64 (-(t : Int) - 2), .int .i64 (-(t : Int) - 1), .int .i64 (-(t : Int) - 3), .int .i64 (-(t : Int) - 2)] (Nat.le_refl _) (by unfold maxLen; omega) rfl
        have O2 := Lib.hid o2; clear o2
        have ho2 := ho.alloc (.cells #[.int .i64 (-(t : Int) - 2), .int .i64 (-(t : Int) - 1), .int .i64 (-(t : Int) - 3), .int .i64 (-(t : Int) - 2)] 2)
        go_wp2_with (at_builtin; refine wpList_appendC (wr.alloc (.cells #[.int .i64 (-(t : Int) - 2), .int .i64 (-(t : Int) - 1), .int .i64 (-(t : Int) - 3), .int .i64 (-(t : Int) - 2)] 2)) rfl (.tmp 47) (.tmp 60) _ rfl 2 i0 _ 1 8 Try.underlying22 hi0 hz0 hz1 hz2 rfl (by decide) rfl ho2 (by simp; omega) (some ⟨wr.heap.size, 0, none⟩) 4 4 [.int .i64 (-(t : Int) - 2), .int .i64 (-(t : Int) - 1), .int .i64 (-(t : Int) - 3), .int .i64 (-(t : Int) - 2)] rfl rfl O2.out.news (by simp [Value.oneCell']) (by unfold maxLen; omega) (by omega) ?_; intro A5 c5 w5 ho5 hg5 hb5)
        have hb6 : Below w.heap.size w w5 := Below.trans (by (repeat (first | exact Below.refl _ _ | assumption | apply Below.drew | apply below_drewN | (refine Below.alloc ?_ (by first | omega | (simp; done) | (simp; omega)) _) | (refine Below.setCell ?_ (by first | omega | (simp; done) | (simp; omega)) _)))) hb5
        refine (impl_ColumnsTaken _ _).mono ?_; rintro e _ ⟨rfl, rfl⟩
        rw [HB.out]
        go_wp2_with (fail)
        refine ⟨⟨i + 1, t + takenN 11, A5, c5, out ++ [-(t : Int) - 2, -(t : Int) - 1, -(t : Int) - 3, -(t : Int) - 2], by omega, by go_num, by push_cast; go_num, by simp, by show OwnC _ _ _ _ _ _ _ _ _; rw [List.map_append, List.length_append]; exact ho5, hb6, HT2, HA2, by simp; omega⟩, by simp [intOf]; omega⟩
    · go_wp2_with (fail)
      go_ret
      have he := HA.out
      rw [drop_all (by omega), lettersFrom, List.append_nil] at he
      rw [he]
      exact ⟨_, _, rfl, ho, hb⟩


end Go.Proofs.Ytnilglkiojigjaa
