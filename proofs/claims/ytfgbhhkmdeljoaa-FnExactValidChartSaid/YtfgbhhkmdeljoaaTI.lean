/- l15Thin: the given side's limit on strands. -/
import Derived.Test.YtfgbhhkmdeljoaaTH
namespace Go.Proofs.Ytfgbhhkmdeljoaa
open Go.RowKit

theorem afterP_len {ks st : List Int} (hs : ∀ k ∈ ks, isStitchB k = true) : (afterP ks st).length = madeS ks := by
  induction ks generalizing st with
  | nil => rfl
  | cons q ks ih => rw [afterP, madeS, List.length_append, stepMade_madeN (hs q (by simp)), ih fun x hx => hs x (by simp [hx])]
theorem madeS_at {ks : List Int} {i : Nat} {k : Int} (h : ks[i]? = some k) : madeS (ks.take i) + madeN k ≤ madeS ks := by
  rw [← madeS_snoc h]
  have := madeS_append (ks.take (i + 1)) (ks.drop (i + 1))
  rw [List.take_append_drop] at this
  omega
theorem drop_getElem {xs : List Int} {f q : Nat} {x : Int} (h : xs[f + q]? = some x) : (xs.drop f)[q]? = some x := by rw [List.getElem?_drop]; exact h

set_option maxHeartbeats 4000000 in
set_option maxRecDepth 20000 in
theorem spec_l15Thin_R (st ks : List Int) (A B C : Option Addr) (c d cc g o : Nat) (w : World) (h : Ints w A st) (h' : Ints w B (afterP ks st)) (hk : Ints w C ks)
    (c0 : w.cell? ⟨g, o, none⟩ = some (.int .i64 1)) (c2 : w.cell? ⟨g, o + 2, none⟩ = some (.slice C ks.length cc)) (hv : stacksB st = true) (hs : stitchesB ks = true) (heq : takenS ks = st.length) :
    Calls Try.prog 101 #[.slice A st.length c, .slice B (afterP ks st).length d, .pointer (some ⟨g, o, none⟩)] w fun e w' => e = .returned (.bool (keepB 1 st ks)) ∧ Below w.heap.size w w' := by
  obtain ⟨hl16, hst⟩ := stitchesB_of hs
  obtain ⟨hl8, hr⟩ := stacksB_of hv
  have htt := tinyB_of hr
  have hsum := sumI_le htt
  have hmade := (sums_le hst).2
  have HST := Lib.hid hst
  have HR := Lib.hid hr; clear hr
  have HTT := Lib.hid htt; clear htt
  have hal : (afterP ks st).length = madeS ks := afterP_len hst
  obtain ⟨al, hal'⟩ : ∃ al, al = (afterP ks st).length := ⟨_, rfl⟩
  rw [← hal'] at hal ⊢
  have HAL := Lib.hid (And.intro hal' hal)
  have hal100 : al ≤ 64 := by omega
  clear hal hal' hmade hst
  have HEQ := Lib.hid heq; clear heq
  go_enter Try.func101, Try.ntmps101
  go_wp2_with (fail)
  go_loopw [7, 8] (fun sv iv wr => ∃ (k : Nat) (s : Int), k ≤ st.length ∧ sv = .int .i64 s ∧ iv = .int .i64 k ∧ Hid (s = sumI (st.take k)) ∧ 0 ≤ s ∧ s ≤ 5 * k ∧ w = wr) (fun _ iv _ => st.length - (intOf iv).toNat)
  case atStart => exact ⟨0, 0, Nat.zero_le _, rfl, rfl, Lib.hid rfl, by omega, by omega, rfl⟩
  case round =>
    obtain ⟨k, s, hk8, rfl, rfl, HS, hs0, hs1, rfl⟩ := hrel
    by_cases hlt : k < st.length
    · obtain ⟨b, off, x, rfl, hc, hx⟩ := h k hlt
      have hx4 := inR_iff.1 (HR.out x (List.mem_of_getElem? hx))
      have HS2 : Hid (s + x = sumI (st.take (k + 1))) := Lib.hid (by rw [sumI_snoc hx, HS.out])
      clear hx
      have j1 : (0 : Int) ≤ (k : Int) := by omega
      have j2 : (k : Int) < (st.length : Int) := by omega
      go_wp2_with (fail)
      go_roundw
      case rel => exact ⟨k + 1, s + x, by omega, by go_num, by go_num, HS2, by omega, by omega, trivial⟩
      case measure => simp [intOf]; omega
    · have hs9 : s = sumI st := by rw [HS.out, take_all (by omega)]
      have HK9 : Hid (keepB 1 st ks = limB s ((ordL 1 (changesP ks st)).drop 0)) := Lib.hid (by rw [hs9]; rfl)
      have hs40 : s ≤ 40 := by omega
      clear hs9 HS hk8 hs1
      have hs1 := hs40; clear hs40
      go_wp2_with (fail)
      go_loopw [7, 10, 11, 12] (fun sv fv tv iv wr => ∃ (k F T : Nat) (s : Int), k ≤ ks.length ∧ sv = .int .i64 s ∧ fv = .int .i64 F ∧ tv = .int .i64 T ∧ iv = .int .i64 k ∧ Hid (F = takenS (ks.take k)) ∧ Hid (T = madeS (ks.take k)) ∧ F ≤ st.length ∧ T ≤ al ∧ Hid (keepB 1 st ks = limB s ((ordL 1 (changesP ks st)).drop k)) ∧ -100 - 20 * (k : Int) ≤ s ∧ s ≤ 100 + 20 * (k : Int) ∧ Below w.heap.size w wr) (fun _ _ _ iv _ => ks.length - (intOf iv).toNat)
      case atStart => exact ⟨0, 0, 0, s, Nat.zero_le _, rfl, rfl, rfl, rfl, Lib.hid rfl, Lib.hid rfl, Nat.zero_le _, Nat.zero_le _, HK9, by omega, by omega, Below.refl _ _⟩
      case round =>
        clear HK9 hs0 hs1
        obtain ⟨k, F, T, s, hkl, rfl, rfl, rfl, rfl, HF, HT, hF8, hT8, HK, hs0, hs1, hb⟩ := hrel
        have hzs := hb.size
        have d0 := cells_below hb _ _ c0
        have d2 := cells_below hb _ _ c2
        by_cases hlt : k < ks.length
        · obtain ⟨b, off, y, rfl, hc, hy⟩ := (hk.below hb) k hlt
          have HY := Lib.hid hy; clear hy
          have hq := HST.out y (List.mem_of_getElem? HY.out)
          have htn := takenN_le y hq
          have HCH : Hid ((ordL 1 (changesP ks st))[k]? = some (changeI y (st.drop F))) := Lib.hid (by rw [ordL_fwd, changesP_at HY.out, HF.out])
          have hFt : F + takenN y ≤ st.length := by have := takenS_at HY.out; rw [← HF.out, HEQ.out] at this; exact this
          have hTt : T + madeN y ≤ al := by have := madeS_at HY.out; rw [← HT.out, ← HAL.out.2] at this; exact this
          have HSEG : Hid (∃ rest, (afterP ks st).drop T = stepMade y (st.drop F) ++ rest) := Lib.hid (by rw [HF.out, HT.out]; exact afterP_seg HST.out HY.out)
          have j1 : (0 : Int) ≤ (k : Int) := by omega
          have j2 : (k : Int) < (ks.length : Int) := by omega
          have HB : Hid (takenB y = takenN y) := Lib.hid (takenB_of hq)
          have HM : Hid (madeB y = madeN y) := Lib.hid (madeB_of hq)
          have hml := stepMade_madeN hq (st.drop F)
          have HML := Lib.hid hml; clear hml
          have HTM : Hid (tinyB (stepMade y (st.drop F))) := Lib.hid (tinyB_made y (fun x hx => HR.out x (List.mem_of_mem_drop hx)))
          clear hq
          go_wp2_with (fail)
          go_loopw [7, 14] (fun sv qv ws => ∃ (q : Nat) (S : Int), q ≤ takenN y ∧ sv = .int .i64 (s - S) ∧ qv = .int .i64 q ∧ Hid (S = sumI ((st.drop F).take q)) ∧ 0 ≤ S ∧ S ≤ 5 * (q : Int) ∧ Below w.heap.size w ws) (fun _ qv _ => takenN y - (intOf qv).toNat)
          case atStart => exact ⟨0, 0, Nat.zero_le _, by simp, rfl, Lib.hid rfl, by omega, by omega, hb⟩
          case round =>
            obtain ⟨q, S, hq4, rfl, rfl, HSS, hS0, hS1, hb3⟩ := hrel
            have hz3 := hb3.size
            by_cases hqt : q < takenN y
            · obtain ⟨b2, off2, x, rfl, hcx, hx⟩ := h (F + q) (by omega)
              have hx4 := inR_iff.1 (HR.out x (List.mem_of_getElem? hx))
              have HS3 : Hid (S + x = sumI ((st.drop F).take (q + 1))) := Lib.hid (by rw [sumI_snoc (drop_getElem hx), HSS.out])
              clear hx
              have i1 : (0 : Int) ≤ (F : Int) + (q : Int) := by omega
              have i2 : (F : Int) + (q : Int) < (st.length : Int) := by omega
              have i3 : IntKind.i64.wrap ((F : Int) + (q : Int)) = (F : Int) + (q : Int) := IntWalk.i64_in _ (by omega)
              have i4 : ((F : Int) + (q : Int)).toNat = F + q := by omega
              go_wp2_with (fail)
              refine (spec_ColumnsTaken _ _).mono ?_; rintro e w7 ⟨rfl, b7⟩
              rw [HB.out]
              have hb7 : Below w.heap.size w w7 := hb3.trans (b7.mono hz3)
              replace hcx := cells_below hb7 _ _ hcx
              go_wp2_with (fail)
              go_roundw
              case rel => exact ⟨q + 1, S + x, by omega, by go_num, by go_num, HS3, by omega, by omega, hb7⟩
              case measure => simp [intOf]; omega
            · obtain rfl : q = takenN y := by omega
              clear hqt hq4
              go_wp2_with (fail)
              refine (spec_ColumnsTaken _ _).mono ?_; rintro e w7 ⟨rfl, b7⟩
              rw [HB.out]
              have hb7 : Below w.heap.size w w7 := hb3.trans (b7.mono hz3)
              have hS20 : S ≤ 20 := by omega
              go_wp2_with (fail)
              go_loopw [7, 15] (fun sv qv ws => ∃ (q : Nat) (S2 : Int), q ≤ madeN y ∧ sv = .int .i64 (s - S + S2) ∧ qv = .int .i64 q ∧ Hid (S2 = sumI ((stepMade y (st.drop F)).take q)) ∧ 0 ≤ S2 ∧ S2 ≤ 5 * (q : Int) ∧ Below w.heap.size w ws) (fun _ qv _ => madeN y - (intOf qv).toNat)
              case atStart => exact ⟨0, 0, Nat.zero_le _, by simp, rfl, Lib.hid rfl, by omega, by omega, hb7⟩
              case round =>
                obtain ⟨q, S2, hq4, rfl, rfl, HS2, hS2, hS3, hb4⟩ := hrel
                have hz4 := hb4.size
                by_cases hqt : q < madeN y
                · obtain ⟨b2, off2, x, rfl, hcx, hx⟩ := h' (T + q) (by rw [← HAL.out.1]; omega)
                  have hxm : (stepMade y (st.drop F))[q]? = some x := by
                    obtain ⟨rest, hrest⟩ := HSEG.out
                    have := drop_getElem hx
                    rw [hrest, List.getElem?_append_left (by rw [HML.out]; exact hqt)] at this
                    exact this
                  have hx5 := HTM.out x (List.mem_of_getElem? hxm)
                  have HS4 : Hid (S2 + x = sumI ((stepMade y (st.drop F)).take (q + 1))) := Lib.hid (by rw [sumI_snoc hxm, HS2.out])
                  clear hx hxm
                  have i1 : (0 : Int) ≤ (T : Int) + (q : Int) := by omega
                  have i2 : (T : Int) + (q : Int) < (al : Int) := by omega
                  have i3 : IntKind.i64.wrap ((T : Int) + (q : Int)) = (T : Int) + (q : Int) := IntWalk.i64_in _ (by omega)
                  have i4 : ((T : Int) + (q : Int)).toNat = T + q := by omega
                  go_wp2_with (fail)
                  refine (spec_ColumnsMade _ _).mono ?_; rintro e w8 ⟨rfl, b8⟩
                  rw [HM.out]
                  have hb8 : Below w.heap.size w w8 := hb4.trans (b8.mono hz4)
                  replace hcx := cells_below hb8 _ _ hcx
                  go_wp2_with (fail)
                  go_roundw
                  case rel => exact ⟨q + 1, S2 + x, by omega, by go_num, by go_num, HS4, by omega, by omega, hb8⟩
                  case measure => simp [intOf]; omega
                · obtain rfl : q = madeN y := by omega
                  clear hqt hq4
                  have HCC : Hid (changeI y (st.drop F) = S2 - S) := Lib.hid (by
                    have hta : (stepMade y (st.drop F)).take (madeN y) = stepMade y (st.drop F) := List.take_of_length_le (by rw [HML.out]; exact Nat.le_refl _)
                    unfold changeI
                    rw [HSS.out, HS2.out, hta])
                  have hS220 : S2 ≤ 20 := by omega
                  have HL : Hid (limB s ((ordL 1 (changesP ks st)).drop k) = (decide (s - S + S2 ≤ 12) && limB (s - S + S2) ((ordL 1 (changesP ks st)).drop (k + 1)))) := Lib.hid (by rw [limB_drop HCH.out, HCC.out, show s + (S2 - S) = s - S + S2 by omega])
                  go_wp2_with (fail)
                  refine (spec_ColumnsMade _ _).mono ?_; rintro e w8 ⟨rfl, b8⟩
                  rw [HM.out]
                  have hb8 : Below w.heap.size w w8 := hb4.trans (b8.mono hz4)
                  have hz8 := hb8.size
                  have d0' := cells_below hb8 _ _ c0
                  by_cases h12 : s - S + S2 ≤ 12
                  · have h12' : decide (12 < s - S + S2) = false := decide_eq_false (by omega)
                    have HK2 : Hid (keepB 1 st ks = limB (s - S + S2) ((ordL 1 (changesP ks st)).drop (k + 1))) := Lib.hid (by rw [HK.out, HL.out, decide_eq_true h12, Bool.true_and])
                    go_wp2_with (fail)
                    refine (spec_ColumnsTaken _ _).mono ?_; rintro e wA ⟨rfl, bA⟩
                    rw [HB.out]
                    go_wp2_with (fail)
                    refine (spec_ColumnsMade _ _).mono ?_; rintro e wB ⟨rfl, bB⟩
                    rw [HM.out]
                    have zA := bA.size
                    have hbB : Below w.heap.size w wB := (hb8.trans (bA.mono hz8)).trans (bB.mono (by omega))
                    go_wp2_with (fail)
                    go_roundw
                    case rel => exact ⟨k + 1, F + takenN y, T + madeN y, s - S + S2, by omega, by go_num, by go_num, by go_num, by go_num, Lib.hid (by rw [takenS_snoc HY.out, HF.out]), Lib.hid (by rw [madeS_snoc HY.out, HT.out]), hFt, hTt, HK2, by omega, by omega, hbB⟩
                    case measure => simp [intOf]; omega
                  · have h12' : decide (12 < s - S + S2) = true := decide_eq_true (by omega)
                    have HK2 : Hid (keepB 1 st ks = false) := Lib.hid (by rw [HK.out, HL.out, decide_eq_false h12, Bool.false_and])
                    go_wp2_with (fail)
                    go_ret
                    exact ⟨ret_bool HK2.out.symm, hb8⟩
        · have HK2 : Hid (keepB 1 st ks = true) := Lib.hid (by rw [HK.out, drop_all (by rw [ordL_length, changesP_length]; omega)]; rfl)
          go_wp2_with (fail)
          go_ret
          exact ⟨ret_bool HK2.out.symm, hb⟩
set_option maxHeartbeats 4000000 in
set_option maxRecDepth 20000 in
theorem spec_l15Thin_L (st ks : List Int) (A B C : Option Addr) (c d cc g o : Nat) (w : World) (h : Ints w A st) (h' : Ints w B (afterP ks st)) (hk : Ints w C ks)
    (c0 : w.cell? ⟨g, o, none⟩ = some (.int .i64 (-1))) (c2 : w.cell? ⟨g, o + 2, none⟩ = some (.slice C ks.length cc)) (hv : stacksB st = true) (hs : stitchesB ks = true) (heq : takenS ks = st.length) :
    Calls Try.prog 101 #[.slice A st.length c, .slice B (afterP ks st).length d, .pointer (some ⟨g, o, none⟩)] w fun e w' => e = .returned (.bool (keepB (-1) st ks)) ∧ Below w.heap.size w w' := by
  obtain ⟨hl16, hst⟩ := stitchesB_of hs
  obtain ⟨hl8, hr⟩ := stacksB_of hv
  have htt := tinyB_of hr
  have hsum := sumI_le htt
  have hmade := (sums_le hst).2
  have HST := Lib.hid hst
  have HR := Lib.hid hr; clear hr
  have HTT := Lib.hid htt; clear htt
  have hal : (afterP ks st).length = madeS ks := afterP_len hst
  obtain ⟨al, hal'⟩ : ∃ al, al = (afterP ks st).length := ⟨_, rfl⟩
  rw [← hal'] at hal ⊢
  have HAL := Lib.hid (And.intro hal' hal)
  have hal100 : al ≤ 64 := by omega
  clear hal hal' hmade hst
  have HEQ := Lib.hid heq; clear heq
  go_enter Try.func101, Try.ntmps101
  go_wp2_with (fail)
  go_loopw [7, 8] (fun sv iv wr => ∃ (k : Nat) (s : Int), k ≤ st.length ∧ sv = .int .i64 s ∧ iv = .int .i64 k ∧ Hid (s = sumI (st.take k)) ∧ 0 ≤ s ∧ s ≤ 5 * k ∧ w = wr) (fun _ iv _ => st.length - (intOf iv).toNat)
  case atStart => exact ⟨0, 0, Nat.zero_le _, rfl, rfl, Lib.hid rfl, by omega, by omega, rfl⟩
  case round =>
    obtain ⟨k, s, hk8, rfl, rfl, HS, hs0, hs1, rfl⟩ := hrel
    by_cases hlt : k < st.length
    · obtain ⟨b, off, x, rfl, hc, hx⟩ := h k hlt
      have hx4 := inR_iff.1 (HR.out x (List.mem_of_getElem? hx))
      have HS2 : Hid (s + x = sumI (st.take (k + 1))) := Lib.hid (by rw [sumI_snoc hx, HS.out])
      clear hx
      have j1 : (0 : Int) ≤ (k : Int) := by omega
      have j2 : (k : Int) < (st.length : Int) := by omega
      go_wp2_with (fail)
      go_roundw
      case rel => exact ⟨k + 1, s + x, by omega, by go_num, by go_num, HS2, by omega, by omega, trivial⟩
      case measure => simp [intOf]; omega
    · have hs9 : s = sumI st := by rw [HS.out, take_all (by omega)]
      have HK9 : Hid (keepB (-1) st ks = limB s ((ordL (-1) (changesP ks st)).drop 0)) := Lib.hid (by rw [hs9]; rfl)
      have hs40 : s ≤ 40 := by omega
      clear hs9 HS hk8 hs1
      have hs1 := hs40; clear hs40
      go_wp2_with (fail)
      go_loopw [7, 10, 11, 12] (fun sv fv tv iv wr => ∃ (k F T : Nat) (s : Int), k ≤ ks.length ∧ sv = .int .i64 s ∧ fv = .int .i64 F ∧ tv = .int .i64 T ∧ iv = .int .i64 k ∧ Hid (F = takenS (ks.take (ks.length - k))) ∧ Hid (T = madeS (ks.take (ks.length - k))) ∧ F ≤ st.length ∧ T ≤ al ∧ Hid (keepB (-1) st ks = limB s ((ordL (-1) (changesP ks st)).drop k)) ∧ -100 - 20 * (k : Int) ≤ s ∧ s ≤ 100 + 20 * (k : Int) ∧ Below w.heap.size w wr) (fun _ _ _ iv _ => ks.length - (intOf iv).toNat)
      case atStart => exact ⟨0, st.length, al, s, Nat.zero_le _, rfl, rfl, rfl, rfl, Lib.hid (by rw [Nat.sub_zero, take_all (Nat.le_refl _), HEQ.out]), Lib.hid (by rw [Nat.sub_zero, take_all (Nat.le_refl _), HAL.out.2]), Nat.le_refl _, Nat.le_refl _, HK9, by omega, by omega, Below.refl _ _⟩
      case round =>
        clear HK9 hs0 hs1
        obtain ⟨k, F, T, s, hkl, rfl, rfl, rfl, rfl, HF, HT, hF8, hT8, HK, hs0, hs1, hb⟩ := hrel
        have hzs := hb.size
        have d0 := cells_below hb _ _ c0
        have d2 := cells_below hb _ _ c2
        by_cases hlt : k < ks.length
        · obtain ⟨j, hj⟩ : ∃ j, ks.length = j + 1 + k := ⟨ks.length - 1 - k, by omega⟩
          have hjl : j < ks.length := by omega
          obtain ⟨b, off, y, rfl, hc, hy⟩ := (hk.below hb) j hjl
          obtain ⟨_, _, y0, hA0, hc0, _⟩ := (hk.below hb) k hlt
          injection hA0 with hA0
          injection hA0 with hA1 hA2
          subst hA1 hA2
          have HY := Lib.hid hy; clear hy
          have hq := HST.out y (List.mem_of_getElem? HY.out)
          have htn := takenN_le y hq
          obtain ⟨F0, hF0⟩ : ∃ F0, F0 = takenS (ks.take j) := ⟨_, rfl⟩
          obtain ⟨T0, hT0⟩ : ∃ T0, T0 = madeS (ks.take j) := ⟨_, rfl⟩
          have hFF : F = F0 + takenN y := by rw [HF.out, show ks.length - k = j + 1 by omega, takenS_snoc HY.out, hF0]
          have hTT : T = T0 + madeN y := by rw [HT.out, show ks.length - k = j + 1 by omega, madeS_snoc HY.out, hT0]
          have HF0 : Hid (F0 = takenS (ks.take j)) := Lib.hid hF0
          have HT0 : Hid (T0 = madeS (ks.take j)) := Lib.hid hT0
          clear hF0 hT0 HF HT
          have HCH : Hid ((ordL (-1) (changesP ks st))[k]? = some (changeI y (st.drop F0))) := Lib.hid (by
            have := ordL_rev (cs := changesP ks st) (i := k) (by rw [changesP_length]; omega)
            rw [this, changesP_length, show ks.length - 1 - k = j by omega, changesP_at HY.out, HF0.out])
          have hFt : F0 + takenN y ≤ st.length := by omega
          have hTt : T0 + madeN y ≤ al := by omega
          have HSEG : Hid (∃ rest, (afterP ks st).drop T0 = stepMade y (st.drop F0) ++ rest) := Lib.hid (by rw [HF0.out, HT0.out]; exact afterP_seg HST.out HY.out)
          have j1 : (0 : Int) ≤ (k : Int) := by omega
          have j2 : (k : Int) < (ks.length : Int) := by omega
          have j3 : IntKind.i64.wrap ((ks.length : Int) - 1) = (ks.length : Int) - 1 := IntWalk.i64_in _ (by omega)
          have j4 : IntKind.i64.wrap ((ks.length : Int) - 1 - (k : Int)) = (j : Int) := by rw [IntWalk.i64_in _ (by omega)]; omega
          have j5 : (0 : Int) ≤ (j : Int) := by omega
          have j6 : (j : Int) < (ks.length : Int) := by omega
          have j7 : IntKind.i64.wrap ((F : Int) - (takenN y : Int)) = (F0 : Int) := by rw [IntWalk.i64_in _ (by omega)]; omega
          have j8 : IntKind.i64.wrap ((T : Int) - (madeN y : Int)) = (T0 : Int) := by rw [IntWalk.i64_in _ (by omega)]; omega
          have HJ := Lib.hid hj; clear hj
          have HFF := Lib.hid hFF; clear hFF
          have HTT' := Lib.hid hTT; clear hTT
          have HB : Hid (takenB y = takenN y) := Lib.hid (takenB_of hq)
          have HM : Hid (madeB y = madeN y) := Lib.hid (madeB_of hq)
          have hml := stepMade_madeN hq (st.drop F0)
          have HML := Lib.hid hml; clear hml
          have HTM : Hid (tinyB (stepMade y (st.drop F0))) := Lib.hid (tinyB_made y (fun x hx => HR.out x (List.mem_of_mem_drop hx)))
          clear hq
          go_wp2_with (fail)
          refine (spec_ColumnsTaken _ _).mono ?_; rintro e w5 ⟨rfl, b5⟩
          rw [HB.out]
          go_wp2_with (fail)
          refine (spec_ColumnsMade _ _).mono ?_; rintro e w6 ⟨rfl, b6⟩
          rw [HM.out]
          have z5 := b5.size
          have z6 := b6.size
          have hb6 : Below w.heap.size w w6 := (hb.trans (b5.mono hzs)).trans (b6.mono (by omega))
          replace d0 := cells_below hb6 _ _ c0
          replace d2 := cells_below hb6 _ _ c2
          clear hc hc0
          go_wp2_with (fail)
          go_loopw [7, 14] (fun sv qv ws => ∃ (q : Nat) (S : Int), q ≤ takenN y ∧ sv = .int .i64 (s - S) ∧ qv = .int .i64 q ∧ Hid (S = sumI ((st.drop F0).take q)) ∧ 0 ≤ S ∧ S ≤ 5 * (q : Int) ∧ Below w.heap.size w ws) (fun _ qv _ => takenN y - (intOf qv).toNat)
          case atStart => exact ⟨0, 0, Nat.zero_le _, by simp, rfl, Lib.hid rfl, by omega, by omega, hb6⟩
          case round =>
            obtain ⟨q, S, hq4, rfl, rfl, HSS, hS0, hS1, hb3⟩ := hrel
            have hz3 := hb3.size
            by_cases hqt : q < takenN y
            · obtain ⟨b2, off2, x, rfl, hcx, hx⟩ := h (F0 + q) (by omega)
              have hx4 := inR_iff.1 (HR.out x (List.mem_of_getElem? hx))
              have HS3 : Hid (S + x = sumI ((st.drop F0).take (q + 1))) := Lib.hid (by rw [sumI_snoc (drop_getElem hx), HSS.out])
              clear hx
              have i1 : (0 : Int) ≤ (F0 : Int) + (q : Int) := by omega
              have i2 : (F0 : Int) + (q : Int) < (st.length : Int) := by omega
              have i3 : IntKind.i64.wrap ((F0 : Int) + (q : Int)) = (F0 : Int) + (q : Int) := IntWalk.i64_in _ (by omega)
              have i4 : ((F0 : Int) + (q : Int)).toNat = F0 + q := by omega
              go_wp2_with (fail)
              refine (spec_ColumnsTaken _ _).mono ?_; rintro e w7 ⟨rfl, b7⟩
              rw [HB.out]
              have hb7 : Below w.heap.size w w7 := hb3.trans (b7.mono hz3)
              replace hcx := cells_below hb7 _ _ hcx
              go_wp2_with (fail)
              go_roundw
              case rel => exact ⟨q + 1, S + x, by omega, by go_num, by go_num, HS3, by omega, by omega, hb7⟩
              case measure => simp [intOf]; omega
            · obtain rfl : q = takenN y := by omega
              clear hqt hq4
              go_wp2_with (fail)
              refine (spec_ColumnsTaken _ _).mono ?_; rintro e w7 ⟨rfl, b7⟩
              rw [HB.out]
              have hb7 : Below w.heap.size w w7 := hb3.trans (b7.mono hz3)
              have hS20 : S ≤ 20 := by omega
              go_wp2_with (fail)
              go_loopw [7, 15] (fun sv qv ws => ∃ (q : Nat) (S2 : Int), q ≤ madeN y ∧ sv = .int .i64 (s - S + S2) ∧ qv = .int .i64 q ∧ Hid (S2 = sumI ((stepMade y (st.drop F0)).take q)) ∧ 0 ≤ S2 ∧ S2 ≤ 5 * (q : Int) ∧ Below w.heap.size w ws) (fun _ qv _ => madeN y - (intOf qv).toNat)
              case atStart => exact ⟨0, 0, Nat.zero_le _, by simp, rfl, Lib.hid rfl, by omega, by omega, hb7⟩
              case round =>
                obtain ⟨q, S2, hq4, rfl, rfl, HS2, hS2, hS3, hb4⟩ := hrel
                have hz4 := hb4.size
                by_cases hqt : q < madeN y
                · obtain ⟨b2, off2, x, rfl, hcx, hx⟩ := h' (T0 + q) (by rw [← HAL.out.1]; omega)
                  have hxm : (stepMade y (st.drop F0))[q]? = some x := by
                    obtain ⟨rest, hrest⟩ := HSEG.out
                    have := drop_getElem hx
                    rw [hrest, List.getElem?_append_left (by rw [HML.out]; exact hqt)] at this
                    exact this
                  have hx5 := HTM.out x (List.mem_of_getElem? hxm)
                  have HS4 : Hid (S2 + x = sumI ((stepMade y (st.drop F0)).take (q + 1))) := Lib.hid (by rw [sumI_snoc hxm, HS2.out])
                  clear hx hxm
                  have i1 : (0 : Int) ≤ (T0 : Int) + (q : Int) := by omega
                  have i2 : (T0 : Int) + (q : Int) < (al : Int) := by omega
                  have i3 : IntKind.i64.wrap ((T0 : Int) + (q : Int)) = (T0 : Int) + (q : Int) := IntWalk.i64_in _ (by omega)
                  have i4 : ((T0 : Int) + (q : Int)).toNat = T0 + q := by omega
                  go_wp2_with (fail)
                  refine (spec_ColumnsMade _ _).mono ?_; rintro e w8 ⟨rfl, b8⟩
                  rw [HM.out]
                  have hb8 : Below w.heap.size w w8 := hb4.trans (b8.mono hz4)
                  replace hcx := cells_below hb8 _ _ hcx
                  go_wp2_with (fail)
                  go_roundw
                  case rel => exact ⟨q + 1, S2 + x, by omega, by go_num, by go_num, HS4, by omega, by omega, hb8⟩
                  case measure => simp [intOf]; omega
                · obtain rfl : q = madeN y := by omega
                  clear hqt hq4
                  have HCC : Hid (changeI y (st.drop F0) = S2 - S) := Lib.hid (by
                    have hta : (stepMade y (st.drop F0)).take (madeN y) = stepMade y (st.drop F0) := List.take_of_length_le (by rw [HML.out]; exact Nat.le_refl _)
                    unfold changeI
                    rw [HSS.out, HS2.out, hta])
                  have hS220 : S2 ≤ 20 := by omega
                  have HL : Hid (limB s ((ordL (-1) (changesP ks st)).drop k) = (decide (s - S + S2 ≤ 12) && limB (s - S + S2) ((ordL (-1) (changesP ks st)).drop (k + 1)))) := Lib.hid (by rw [limB_drop HCH.out, HCC.out, show s + (S2 - S) = s - S + S2 by omega])
                  go_wp2_with (fail)
                  refine (spec_ColumnsMade _ _).mono ?_; rintro e w8 ⟨rfl, b8⟩
                  rw [HM.out]
                  have hb8 : Below w.heap.size w w8 := hb4.trans (b8.mono hz4)
                  have hz8 := hb8.size
                  have d0' := cells_below hb8 _ _ c0
                  by_cases h12 : s - S + S2 ≤ 12
                  · have h12' : decide (12 < s - S + S2) = false := decide_eq_false (by omega)
                    have HK2 : Hid (keepB (-1) st ks = limB (s - S + S2) ((ordL (-1) (changesP ks st)).drop (k + 1))) := Lib.hid (by rw [HK.out, HL.out, decide_eq_true h12, Bool.true_and])
                    go_wp2_with (fail)
                    go_roundw
                    case rel => exact ⟨k + 1, F0, T0, s - S + S2, by omega, by go_num, by go_num, by go_num, by go_num, Lib.hid (by rw [HF0.out, show ks.length - (k + 1) = j by have := HJ.out; omega]), Lib.hid (by rw [HT0.out, show ks.length - (k + 1) = j by have := HJ.out; omega]), by omega, by omega, HK2, by omega, by omega, hb8⟩
                    case measure => simp [intOf]; omega
                  · have h12' : decide (12 < s - S + S2) = true := decide_eq_true (by omega)
                    have HK2 : Hid (keepB (-1) st ks = false) := Lib.hid (by rw [HK.out, HL.out, decide_eq_false h12, Bool.false_and])
                    go_wp2_with (fail)
                    go_ret
                    exact ⟨ret_bool HK2.out.symm, hb8⟩
        · have HK2 : Hid (keepB (-1) st ks = true) := Lib.hid (by rw [HK.out, drop_all (by rw [ordL_length, changesP_length]; omega)]; rfl)
          go_wp2_with (fail)
          go_ret
          exact ⟨ret_bool HK2.out.symm, hb⟩

end Go.Proofs.Ytfgbhhkmdeljoaa
