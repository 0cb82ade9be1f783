/- Steps of the proof, joined from several texts: TI TL MD TJ. -/
import Derived.Test.YtnjgmhdmjaijgaaGreatZ8
import Derived.Test.YtnjgmhdmjaijgaaGreatZ7
import Derived.Test.YtnjgmhdmjaijgaaGreatZ6
import Derived.BigRegion
import Derived.Deep.RegionLaw

/- l15Thin: the given side's limit on strands. -/
namespace Go.Proofs.YtnjgmhdmjaijgaaGreat
open Go.RowKit

theorem afterP_len {ks st : List Int} (hs : ∀ k ∈ ks, isStitchB k = true) : (afterP ks st).length = madeS ks := by
  induction ks generalizing st with
  | nil => rfl
  | cons q ks ih => rw [afterP, madeS, List.length_append, stepMade_madeN (hs q (by simp)), ih fun x hx => hs x (by simp [hx])]
theorem madeS_at {ks : List Int} {i : Nat} {k : Int} (h : ks[i]? = some k) : madeS (ks.take i) + madeN k ≤ madeS ks := by
  rw [← madeS_snoc h]
  have := madeS_append (ks.take (i + 1)) (ks.drop (i + 1))
  rw [List.take_append_drop] at this
  omega
theorem drop_getElem {xs : List Int} {f q : Nat} {x : Int} (h : xs[f + q]? = some x) : (xs.drop f)[q]? = some x := by rw [List.getElem?_drop]; exact h

set_option maxHeartbeats 4000000 in
set_option maxRecDepth 20000 in
theorem spec_l15Thin_R (st ks : List Int) (A B C : Option Addr) (c d cc g o : Nat) (w : World) (h : Ints w A st) (h' : Ints w B (afterP ks st)) (hk : Ints w C ks)
    (c0 : w.cell? ⟨g, o, none⟩ = some (.int .i64 1)) (c2 : w.cell? ⟨g, o + 2, none⟩ = some (.slice C ks.length cc)) (hv : stacksB st = true) (hs : stitchesB ks = true) (heq : takenS ks = st.length) :
    Calls Tryz.prog 99 #[.slice A st.length c, .slice B (afterP ks st).length d, .pointer (some ⟨g, o, none⟩)] w fun e w' => e = .returned (.bool (keepB 1 st ks)) ∧ Below w.heap.size w w' := by
  obtain ⟨hl16, hst⟩ := stitchesB_of hs
  obtain ⟨hl8, hr⟩ := stacksB_of hv
  have htt := tinyB_of hr
  have hsum := sumI_le htt
  have hmade := (sums_le hst).2
  have HST := Lib.hid hst
  have HR := Lib.hid hr; clear hr
  have HTT := Lib.hid htt; clear htt
  have hal : (afterP ks st).length = madeS ks := afterP_len hst
  obtain ⟨al, hal'⟩ : ∃ al, al = (afterP ks st).length := ⟨_, rfl⟩
  rw [← hal'] at hal ⊢
  have HAL := Lib.hid (And.intro hal' hal)
  have hal100 : al ≤ 64 := by omega
  clear hal hal' hmade hst
  have HEQ := Lib.hid heq; clear heq
  go_enter Tryz.func99, Tryz.ntmps99
  go_wp2_with (fail)
  go_loopw [7, 8] (fun sv iv wr => ∃ (k : Nat) (s : Int), k ≤ st.length ∧ sv = .int .i64 s ∧ iv = .int .i64 k ∧ Hid (s = sumI (st.take k)) ∧ 0 ≤ s ∧ s ≤ 5 * k ∧ w = wr) (fun _ iv _ => st.length - (intOf iv).toNat)
  case atStart => exact ⟨0, 0, Nat.zero_le _, rfl, rfl, Lib.hid rfl, by omega, by omega, rfl⟩
  case round =>
    obtain ⟨k, s, hk8, rfl, rfl, HS, hs0, hs1, rfl⟩ := hrel
    by_cases hlt : k < st.length
    · obtain ⟨b, off, x, rfl, hc, hx⟩ := h k hlt
      have hx4 := inR_iff.1 (HR.out x (List.mem_of_getElem? hx))
      have HS2 : Hid (s + x = sumI (st.take (k + 1))) := Lib.hid (by rw [sumI_snoc hx, HS.out])
      clear hx
      have j1 : (0 : Int) ≤ (k : Int) := by omega
      have j2 : (k : Int) < (st.length : Int) := by omega
      go_wp2_with (fail)
      go_roundw
      case rel => exact ⟨k + 1, s + x, by omega, by go_num, by go_num, HS2, by omega, by omega, trivial⟩
      case measure => simp [intOf]; omega
    · have hs9 : s = sumI st := by rw [HS.out, take_all (by omega)]
      have HK9 : Hid (keepB 1 st ks = limB s ((ordL 1 (changesP ks st)).drop 0)) := Lib.hid (by rw [hs9]; rfl)
      have hs40 : s ≤ 40 := by omega
      clear hs9 HS hk8 hs1
      have hs1 := hs40; clear hs40
      go_wp2_with (fail)
      go_loopw [7, 10, 11, 12] (fun sv fv tv iv wr => ∃ (k F T : Nat) (s : Int), k ≤ ks.length ∧ sv = .int .i64 s ∧ fv = .int .i64 F ∧ tv = .int .i64 T ∧ iv = .int .i64 k ∧ Hid (F = takenS (ks.take k)) ∧ Hid (T = madeS (ks.take k)) ∧ F ≤ st.length ∧ T ≤ al ∧ Hid (keepB 1 st ks = limB s ((ordL 1 (changesP ks st)).drop k)) ∧ -100 - 20 * (k : Int) ≤ s ∧ s ≤ 100 + 20 * (k : Int) ∧ Below w.heap.size w wr) (fun _ _ _ iv _ => ks.length - (intOf iv).toNat)
      case atStart => exact ⟨0, 0, 0, s, Nat.zero_le _, rfl, rfl, rfl, rfl, Lib.hid rfl, Lib.hid rfl, Nat.zero_le _, Nat.zero_le _, HK9, by omega, by omega, Below.refl _ _⟩
      case round =>
        clear HK9 hs0 hs1
        obtain ⟨k, F, T, s, hkl, rfl, rfl, rfl, rfl, HF, HT, hF8, hT8, HK, hs0, hs1, hb⟩ := hrel
        have hzs := hb.size
        have d0 := cells_below hb _ _ c0
        have d2 := cells_below hb _ _ c2
        by_cases hlt : k < ks.length
        · obtain ⟨b, off, y, rfl, hc, hy⟩ := (hk.below hb) k hlt
          have HY := Lib.hid hy; clear hy
          have hq := HST.out y (List.mem_of_getElem? HY.out)
          have htn := takenN_le y hq
          have HCH : Hid ((ordL 1 (changesP ks st))[k]? = some (changeI y (st.drop F))) := Lib.hid (by rw [ordL_fwd, changesP_at HY.out, HF.out])
          have hFt : F + takenN y ≤ st.length := by have := takenS_at HY.out; rw [← HF.out, HEQ.out] at this; exact this
          have hTt : T + madeN y ≤ al := by have := madeS_at HY.out; rw [← HT.out, ← HAL.out.2] at this; exact this
          have HSEG : Hid (∃ rest, (afterP ks st).drop T = stepMade y (st.drop F) ++ rest) := Lib.hid (by rw [HF.out, HT.out]; exact afterP_seg HST.out HY.out)
          have j1 : (0 : Int) ≤ (k : Int) := by omega
          have j2 : (k : Int) < (ks.length : Int) := by omega
          have HB : Hid (takenB y = takenN y) := Lib.hid (takenB_of hq)
          have HM : Hid (madeB y = madeN y) := Lib.hid (madeB_of hq)
          have hml := stepMade_madeN hq (st.drop F)
          have HML := Lib.hid hml; clear hml
          have HTM : Hid (tinyB (stepMade y (st.drop F))) := Lib.hid (tinyB_made y (fun x hx => HR.out x (List.mem_of_mem_drop hx)))
          clear hq
          go_wp2_with (fail)
          go_loopw [7, 14] (fun sv qv ws => ∃ (q : Nat) (S : Int), q ≤ takenN y ∧ sv = .int .i64 (s - S) ∧ qv = .int .i64 q ∧ Hid (S = sumI ((st.drop F).take q)) ∧ 0 ≤ S ∧ S ≤ 5 * (q : Int) ∧ Below w.heap.size w ws) (fun _ qv _ => takenN y - (intOf qv).toNat)
          case atStart => exact ⟨0, 0, Nat.zero_le _, by simp, rfl, Lib.hid rfl, by omega, by omega, hb⟩
          case round =>
            obtain ⟨q, S, hq4, rfl, rfl, HSS, hS0, hS1, hb3⟩ := hrel
            have hz3 := hb3.size
            by_cases hqt : q < takenN y
            · obtain ⟨b2, off2, x, rfl, hcx, hx⟩ := h (F + q) (by omega)
              have hx4 := inR_iff.1 (HR.out x (List.mem_of_getElem? hx))
              have HS3 : Hid (S + x = sumI ((st.drop F).take (q + 1))) := Lib.hid (by rw [sumI_snoc (drop_getElem hx), HSS.out])
              clear hx
              have i1 : (0 : Int) ≤ (F : Int) + (q : Int) := by omega
              have i2 : (F : Int) + (q : Int) < (st.length : Int) := by omega
              have i3 : IntKind.i64.wrap ((F : Int) + (q : Int)) = (F : Int) + (q : Int) := IntWalk.i64_in _ (by omega)
              have i4 : ((F : Int) + (q : Int)).toNat = F + q := by omega
              go_wp2_with (fail)
              refine (spec_ColumnsTaken _ _).mono ?_; rintro e w7 ⟨rfl, b7⟩
              rw [HB.out]
              have hb7 : Below w.heap.size w w7 := hb3.trans (b7.mono hz3)
              replace hcx := cells_below hb7 _ _ hcx
              go_wp2_with (fail)
              go_roundw
              case rel => exact ⟨q + 1, S + x, by omega, by go_num, by go_num, HS3, by omega, by omega, hb7⟩
              case measure => simp [intOf]; omega
            · obtain rfl : q = takenN y := by omega
              clear hqt hq4
              go_wp2_with (fail)
              refine (spec_ColumnsTaken _ _).mono ?_; rintro e w7 ⟨rfl, b7⟩
              rw [HB.out]
              have hb7 : Below w.heap.size w w7 := hb3.trans (b7.mono hz3)
              have hS20 : S ≤ 20 := by omega
              go_wp2_with (fail)
              go_loopw [7, 15] (fun sv qv ws => ∃ (q : Nat) (S2 : Int), q ≤ madeN y ∧ sv = .int .i64 (s - S + S2) ∧ qv = .int .i64 q ∧ Hid (S2 = sumI ((stepMade y (st.drop F)).take q)) ∧ 0 ≤ S2 ∧ S2 ≤ 5 * (q : Int) ∧ Below w.heap.size w ws) (fun _ qv _ => madeN y - (intOf qv).toNat)
              case atStart => exact ⟨0, 0, Nat.zero_le _, by simp, rfl, Lib.hid rfl, by omega, by omega, hb7⟩
              case round =>
                obtain ⟨q, S2, hq4, rfl, rfl, HS2, hS2, hS3, hb4⟩ := hrel
                have hz4 := hb4.size
                by_cases hqt : q < madeN y
                · obtain ⟨b2, off2, x, rfl, hcx, hx⟩ := h' (T + q) (by rw [← HAL.out.1]; omega)
                  have hxm : (stepMade y (st.drop F))[q]? = some x := by
                    obtain ⟨rest, hrest⟩ := HSEG.out
                    have := drop_getElem hx
                    rw [hrest, List.getElem?_append_left (by rw [HML.out]; exact hqt)] at this
                    exact this
                  have hx5 := HTM.out x (List.mem_of_getElem? hxm)
                  have HS4 : Hid (S2 + x = sumI ((stepMade y (st.drop F)).take (q + 1))) := Lib.hid (by rw [sumI_snoc hxm, HS2.out])
                  clear hx hxm
                  have i1 : (0 : Int) ≤ (T : Int) + (q : Int) := by omega
                  have i2 : (T : Int) + (q : Int) < (al : Int) := by omega
                  have i3 : IntKind.i64.wrap ((T : Int) + (q : Int)) = (T : Int) + (q : Int) := IntWalk.i64_in _ (by omega)
                  have i4 : ((T : Int) + (q : Int)).toNat = T + q := by omega
                  go_wp2_with (fail)
                  refine (spec_ColumnsMade _ _).mono ?_; rintro e w8 ⟨rfl, b8⟩
                  rw [HM.out]
                  have hb8 : Below w.heap.size w w8 := hb4.trans (b8.mono hz4)
                  replace hcx := cells_below hb8 _ _ hcx
                  go_wp2_with (fail)
                  go_roundw
                  case rel => exact ⟨q + 1, S2 + x, by omega, by go_num, by go_num, HS4, by omega, by omega, hb8⟩
                  case measure => simp [intOf]; omega
                · obtain rfl : q = madeN y := by omega
                  clear hqt hq4
                  have HCC : Hid (changeI y (st.drop F) = S2 - S) := Lib.hid (by
                    have hta : (stepMade y (st.drop F)).take (madeN y) = stepMade y (st.drop F) := List.take_of_length_le (by rw [HML.out]; exact Nat.le_refl _)
                    unfold changeI
                    rw [HSS.out, HS2.out, hta])
                  have hS220 : S2 ≤ 20 := by omega
                  have HL : Hid (limB s ((ordL 1 (changesP ks st)).drop k) = (decide (s - S + S2 ≤ 12) && limB (s - S + S2) ((ordL 1 (changesP ks st)).drop (k + 1)))) := Lib.hid (by rw [limB_drop HCH.out, HCC.out, show s + (S2 - S) = s - S + S2 by omega])
                  go_wp2_with (fail)
                  refine (spec_ColumnsMade _ _).mono ?_; rintro e w8 ⟨rfl, b8⟩
                  rw [HM.out]
                  have hb8 : Below w.heap.size w w8 := hb4.trans (b8.mono hz4)
                  have hz8 := hb8.size
                  have d0' := cells_below hb8 _ _ c0
                  by_cases h12 : s - S + S2 ≤ 12
                  · have h12' : decide (12 < s - S + S2) = false := decide_eq_false (by omega)
                    have HK2 : Hid (keepB 1 st ks = limB (s - S + S2) ((ordL 1 (changesP ks st)).drop (k + 1))) := Lib.hid (by rw [HK.out, HL.out, decide_eq_true h12, Bool.true_and])
                    go_wp2_with (fail)
                    refine (spec_ColumnsTaken _ _).mono ?_; rintro e wA ⟨rfl, bA⟩
                    rw [HB.out]
                    go_wp2_with (fail)
                    refine (spec_ColumnsMade _ _).mono ?_; rintro e wB ⟨rfl, bB⟩
                    rw [HM.out]
                    have zA := bA.size
                    have hbB : Below w.heap.size w wB := (hb8.trans (bA.mono hz8)).trans (bB.mono (by omega))
                    go_wp2_with (fail)
                    go_roundw
                    case rel => exact ⟨k + 1, F + takenN y, T + madeN y, s - S + S2, by omega, by go_num, by go_num, by go_num, by go_num, Lib.hid (by rw [takenS_snoc HY.out, HF.out]), Lib.hid (by rw [madeS_snoc HY.out, HT.out]), hFt, hTt, HK2, by omega, by omega, hbB⟩
                    case measure => simp [intOf]; omega
                  · have h12' : decide (12 < s - S + S2) = true := decide_eq_true (by omega)
                    have HK2 : Hid (keepB 1 st ks = false) := Lib.hid (by rw [HK.out, HL.out, decide_eq_false h12, Bool.false_and])
                    go_wp2_with (fail)
                    go_ret
                    exact ⟨ret_bool HK2.out.symm, hb8⟩
        · have HK2 : Hid (keepB 1 st ks = true) := Lib.hid (by rw [HK.out, drop_all (by rw [ordL_length, changesP_length]; omega)]; rfl)
          go_wp2_with (fail)
          go_ret
          exact ⟨ret_bool HK2.out.symm, hb⟩
set_option maxHeartbeats 4000000 in
set_option maxRecDepth 20000 in
theorem spec_l15Thin_L (st ks : List Int) (A B C : Option Addr) (c d cc g o : Nat) (w : World) (h : Ints w A st) (h' : Ints w B (afterP ks st)) (hk : Ints w C ks)
    (c0 : w.cell? ⟨g, o, none⟩ = some (.int .i64 (-1))) (c2 : w.cell? ⟨g, o + 2, none⟩ = some (.slice C ks.length cc)) (hv : stacksB st = true) (hs : stitchesB ks = true) (heq : takenS ks = st.length) :
    Calls Tryz.prog 99 #[.slice A st.length c, .slice B (afterP ks st).length d, .pointer (some ⟨g, o, none⟩)] w fun e w' => e = .returned (.bool (keepB (-1) st ks)) ∧ Below w.heap.size w w' := by
  obtain ⟨hl16, hst⟩ := stitchesB_of hs
  obtain ⟨hl8, hr⟩ := stacksB_of hv
  have htt := tinyB_of hr
  have hsum := sumI_le htt
  have hmade := (sums_le hst).2
  have HST := Lib.hid hst
  have HR := Lib.hid hr; clear hr
  have HTT := Lib.hid htt; clear htt
  have hal : (afterP ks st).length = madeS ks := afterP_len hst
  obtain ⟨al, hal'⟩ : ∃ al, al = (afterP ks st).length := ⟨_, rfl⟩
  rw [← hal'] at hal ⊢
  have HAL := Lib.hid (And.intro hal' hal)
  have hal100 : al ≤ 64 := by omega
  clear hal hal' hmade hst
  have HEQ := Lib.hid heq; clear heq
  go_enter Tryz.func99, Tryz.ntmps99
  go_wp2_with (fail)
  go_loopw [7, 8] (fun sv iv wr => ∃ (k : Nat) (s : Int), k ≤ st.length ∧ sv = .int .i64 s ∧ iv = .int .i64 k ∧ Hid (s = sumI (st.take k)) ∧ 0 ≤ s ∧ s ≤ 5 * k ∧ w = wr) (fun _ iv _ => st.length - (intOf iv).toNat)
  case atStart => exact ⟨0, 0, Nat.zero_le _, rfl, rfl, Lib.hid rfl, by omega, by omega, rfl⟩
  case round =>
    obtain ⟨k, s, hk8, rfl, rfl, HS, hs0, hs1, rfl⟩ := hrel
    by_cases hlt : k < st.length
    · obtain ⟨b, off, x, rfl, hc, hx⟩ := h k hlt
      have hx4 := inR_iff.1 (HR.out x (List.mem_of_getElem? hx))
      have HS2 : Hid (s + x = sumI (st.take (k + 1))) := Lib.hid (by rw [sumI_snoc hx, HS.out])
      clear hx
      have j1 : (0 : Int) ≤ (k : Int) := by omega
      have j2 : (k : Int) < (st.length : Int) := by omega
      go_wp2_with (fail)
      go_roundw
      case rel => exact ⟨k + 1, s + x, by omega, by go_num, by go_num, HS2, by omega, by omega, trivial⟩
      case measure => simp [intOf]; omega
    · have hs9 : s = sumI st := by rw [HS.out, take_all (by omega)]
      have HK9 : Hid (keepB (-1) st ks = limB s ((ordL (-1) (changesP ks st)).drop 0)) := Lib.hid (by rw [hs9]; rfl)
      have hs40 : s ≤ 40 := by omega
      clear hs9 HS hk8 hs1
      have hs1 := hs40; clear hs40
      go_wp2_with (fail)
      go_loopw [7, 10, 11, 12] (fun sv fv tv iv wr => ∃ (k F T : Nat) (s : Int), k ≤ ks.length ∧ sv = .int .i64 s ∧ fv = .int .i64 F ∧ tv = .int .i64 T ∧ iv = .int .i64 k ∧ Hid (F = takenS (ks.take (ks.length - k))) ∧ Hid (T = madeS (ks.take (ks.length - k))) ∧ F ≤ st.length ∧ T ≤ al ∧ Hid (keepB (-1) st ks = limB s ((ordL (-1) (changesP ks st)).drop k)) ∧ -100 - 20 * (k : Int) ≤ s ∧ s ≤ 100 + 20 * (k : Int) ∧ Below w.heap.size w wr) (fun _ _ _ iv _ => ks.length - (intOf iv).toNat)
      case atStart => exact ⟨0, st.length, al, s, Nat.zero_le _, rfl, rfl, rfl, rfl, Lib.hid (by rw [Nat.sub_zero, take_all (Nat.le_refl _), HEQ.out]), Lib.hid (by rw [Nat.sub_zero, take_all (Nat.le_refl _), HAL.out.2]), Nat.le_refl _, Nat.le_refl _, HK9, by omega, by omega, Below.refl _ _⟩
      case round =>
        clear HK9 hs0 hs1
        obtain ⟨k, F, T, s, hkl, rfl, rfl, rfl, rfl, HF, HT, hF8, hT8, HK, hs0, hs1, hb⟩ := hrel
        have hzs := hb.size
        have d0 := cells_below hb _ _ c0
        have d2 := cells_below hb _ _ c2
        by_cases hlt : k < ks.length
        · obtain ⟨j, hj⟩ : ∃ j, ks.length = j + 1 + k := ⟨ks.length - 1 - k, by omega⟩
          have hjl : j < ks.length := by omega
          obtain ⟨b, off, y, rfl, hc, hy⟩ := (hk.below hb) j hjl
          obtain ⟨_, _, y0, hA0, hc0, _⟩ := (hk.below hb) k hlt
          injection hA0 with hA0
          injection hA0 with hA1 hA2
          subst hA1 hA2
          have HY := Lib.hid hy; clear hy
          have hq := HST.out y (List.mem_of_getElem? HY.out)
          have htn := takenN_le y hq
          obtain ⟨F0, hF0⟩ : ∃ F0, F0 = takenS (ks.take j) := ⟨_, rfl⟩
          obtain ⟨T0, hT0⟩ : ∃ T0, T0 = madeS (ks.take j) := ⟨_, rfl⟩
          have hFF : F = F0 + takenN y := by rw [HF.out, show ks.length - k = j + 1 by omega, takenS_snoc HY.out, hF0]
          have hTT : T = T0 + madeN y := by rw [HT.out, show ks.length - k = j + 1 by omega, madeS_snoc HY.out, hT0]
          have HF0 : Hid (F0 = takenS (ks.take j)) := Lib.hid hF0
          have HT0 : Hid (T0 = madeS (ks.take j)) := Lib.hid hT0
          clear hF0 hT0 HF HT
          have HCH : Hid ((ordL (-1) (changesP ks st))[k]? = some (changeI y (st.drop F0))) := Lib.hid (by
            have := ordL_rev (cs := changesP ks st) (i := k) (by rw [changesP_length]; omega)
            rw [this, changesP_length, show ks.length - 1 - k = j by omega, changesP_at HY.out, HF0.out])
          have hFt : F0 + takenN y ≤ st.length := by omega
          have hTt : T0 + madeN y ≤ al := by omega
          have HSEG : Hid (∃ rest, (afterP ks st).drop T0 = stepMade y (st.drop F0) ++ rest) := Lib.hid (by rw [HF0.out, HT0.out]; exact afterP_seg HST.out HY.out)
          have j1 : (0 : Int) ≤ (k : Int) := by omega
          have j2 : (k : Int) < (ks.length : Int) := by omega
          have j3 : IntKind.i64.wrap ((ks.length : Int) - 1) = (ks.length : Int) - 1 := IntWalk.i64_in _ (by omega)
          have j4 : IntKind.i64.wrap ((ks.length : Int) - 1 - (k : Int)) = (j : Int) := by rw [IntWalk.i64_in _ (by omega)]; omega
          have j5 : (0 : Int) ≤ (j : Int) := by omega
          have j6 : (j : Int) < (ks.length : Int) := by omega
          have j7 : IntKind.i64.wrap ((F : Int) - (takenN y : Int)) = (F0 : Int) := by rw [IntWalk.i64_in _ (by omega)]; omega
          have j8 : IntKind.i64.wrap ((T : Int) - (madeN y : Int)) = (T0 : Int) := by rw [IntWalk.i64_in _ (by omega)]; omega
          have HJ := Lib.hid hj; clear hj
          have HFF := Lib.hid hFF; clear hFF
          have HTT' := Lib.hid hTT; clear hTT
          have HB : Hid (takenB y = takenN y) := Lib.hid (takenB_of hq)
          have HM : Hid (madeB y = madeN y) := Lib.hid (madeB_of hq)
          have hml := stepMade_madeN hq (st.drop F0)
          have HML := Lib.hid hml; clear hml
          have HTM : Hid (tinyB (stepMade y (st.drop F0))) := Lib.hid (tinyB_made y (fun x hx => HR.out x (List.mem_of_mem_drop hx)))
          clear hq
          go_wp2_with (fail)
          refine (spec_ColumnsTaken _ _).mono ?_; rintro e w5 ⟨rfl, b5⟩
          rw [HB.out]
          go_wp2_with (fail)
          refine (spec_ColumnsMade _ _).mono ?_; rintro e w6 ⟨rfl, b6⟩
          rw [HM.out]
          have z5 := b5.size
          have z6 := b6.size
          have hb6 : Below w.heap.size w w6 := (hb.trans (b5.mono hzs)).trans (b6.mono (by omega))
          replace d0 := cells_below hb6 _ _ c0
          replace d2 := cells_below hb6 _ _ c2
          clear hc hc0
          go_wp2_with (fail)
          go_loopw [7, 14] (fun sv qv ws => ∃ (q : Nat) (S : Int), q ≤ takenN y ∧ sv = .int .i64 (s - S) ∧ qv = .int .i64 q ∧ Hid (S = sumI ((st.drop F0).take q)) ∧ 0 ≤ S ∧ S ≤ 5 * (q : Int) ∧ Below w.heap.size w ws) (fun _ qv _ => takenN y - (intOf qv).toNat)
          case atStart => exact ⟨0, 0, Nat.zero_le _, by simp, rfl, Lib.hid rfl, by omega, by omega, hb6⟩
          case round =>
            obtain ⟨q, S, hq4, rfl, rfl, HSS, hS0, hS1, hb3⟩ := hrel
            have hz3 := hb3.size
            by_cases hqt : q < takenN y
            · obtain ⟨b2, off2, x, rfl, hcx, hx⟩ := h (F0 + q) (by omega)
              have hx4 := inR_iff.1 (HR.out x (List.mem_of_getElem? hx))
              have HS3 : Hid (S + x = sumI ((st.drop F0).take (q + 1))) := Lib.hid (by rw [sumI_snoc (drop_getElem hx), HSS.out])
              clear hx
              have i1 : (0 : Int) ≤ (F0 : Int) + (q : Int) := by omega
              have i2 : (F0 : Int) + (q : Int) < (st.length : Int) := by omega
              have i3 : IntKind.i64.wrap ((F0 : Int) + (q : Int)) = (F0 : Int) + (q : Int) := IntWalk.i64_in _ (by omega)
              have i4 : ((F0 : Int) + (q : Int)).toNat = F0 + q := by omega
              go_wp2_with (fail)
              refine (spec_ColumnsTaken _ _).mono ?_; rintro e w7 ⟨rfl, b7⟩
              rw [HB.out]
              have hb7 : Below w.heap.size w w7 := hb3.trans (b7.mono hz3)
              replace hcx := cells_below hb7 _ _ hcx
              go_wp2_with (fail)
              go_roundw
              case rel => exact ⟨q + 1, S + x, by omega, by go_num, by go_num, HS3, by omega, by omega, hb7⟩
              case measure => simp [intOf]; omega
            · obtain rfl : q = takenN y := by omega
              clear hqt hq4
              go_wp2_with (fail)
              refine (spec_ColumnsTaken _ _).mono ?_; rintro e w7 ⟨rfl, b7⟩
              rw [HB.out]
              have hb7 : Below w.heap.size w w7 := hb3.trans (b7.mono hz3)
              have hS20 : S ≤ 20 := by omega
              go_wp2_with (fail)
              go_loopw [7, 15] (fun sv qv ws => ∃ (q : Nat) (S2 : Int), q ≤ madeN y ∧ sv = .int .i64 (s - S + S2) ∧ qv = .int .i64 q ∧ Hid (S2 = sumI ((stepMade y (st.drop F0)).take q)) ∧ 0 ≤ S2 ∧ S2 ≤ 5 * (q : Int) ∧ Below w.heap.size w ws) (fun _ qv _ => madeN y - (intOf qv).toNat)
              case atStart => exact ⟨0, 0, Nat.zero_le _, by simp, rfl, Lib.hid rfl, by omega, by omega, hb7⟩
              case round =>
                obtain ⟨q, S2, hq4, rfl, rfl, HS2, hS2, hS3, hb4⟩ := hrel
                have hz4 := hb4.size
                by_cases hqt : q < madeN y
                · obtain ⟨b2, off2, x, rfl, hcx, hx⟩ := h' (T0 + q) (by rw [← HAL.out.1]; omega)
                  have hxm : (stepMade y (st.drop F0))[q]? = some x := by
                    obtain ⟨rest, hrest⟩ := HSEG.out
                    have := drop_getElem hx
                    rw [hrest, List.getElem?_append_left (by rw [HML.out]; exact hqt)] at this
                    exact this
                  have hx5 := HTM.out x (List.mem_of_getElem? hxm)
                  have HS4 : Hid (S2 + x = sumI ((stepMade y (st.drop F0)).take (q + 1))) := Lib.hid (by rw [sumI_snoc hxm, HS2.out])
                  clear hx hxm
                  have i1 : (0 : Int) ≤ (T0 : Int) + (q : Int) := by omega
                  have i2 : (T0 : Int) + (q : Int) < (al : Int) := by omega
                  have i3 : IntKind.i64.wrap ((T0 : Int) + (q : Int)) = (T0 : Int) + (q : Int) := IntWalk.i64_in _ (by omega)
                  have i4 : ((T0 : Int) + (q : Int)).toNat = T0 + q := by omega
                  go_wp2_with (fail)
                  refine (spec_ColumnsMade _ _).mono ?_; rintro e w8 ⟨rfl, b8⟩
                  rw [HM.out]
                  have hb8 : Below w.heap.size w w8 := hb4.trans (b8.mono hz4)
                  replace hcx := cells_below hb8 _ _ hcx
                  go_wp2_with (fail)
                  go_roundw
                  case rel => exact ⟨q + 1, S2 + x, by omega, by go_num, by go_num, HS4, by omega, by omega, hb8⟩
                  case measure => simp [intOf]; omega
                · obtain rfl : q = madeN y := by omega
                  clear hqt hq4
                  have HCC : Hid (changeI y (st.drop F0) = S2 - S) := Lib.hid (by
                    have hta : (stepMade y (st.drop F0)).take (madeN y) = stepMade y (st.drop F0) := List.take_of_length_le (by rw [HML.out]; exact Nat.le_refl _)
                    unfold changeI
                    rw [HSS.out, HS2.out, hta])
                  have hS220 : S2 ≤ 20 := by omega
                  have HL : Hid (limB s ((ordL (-1) (changesP ks st)).drop k) = (decide (s - S + S2 ≤ 12) && limB (s - S + S2) ((ordL (-1) (changesP ks st)).drop (k + 1)))) := Lib.hid (by rw [limB_drop HCH.out, HCC.out, show s + (S2 - S) = s - S + S2 by omega])
                  go_wp2_with (fail)
                  refine (spec_ColumnsMade _ _).mono ?_; rintro e w8 ⟨rfl, b8⟩
                  rw [HM.out]
                  have hb8 : Below w.heap.size w w8 := hb4.trans (b8.mono hz4)
                  have hz8 := hb8.size
                  have d0' := cells_below hb8 _ _ c0
                  by_cases h12 : s - S + S2 ≤ 12
                  · have h12' : decide (12 < s - S + S2) = false := decide_eq_false (by omega)
                    have HK2 : Hid (keepB (-1) st ks = limB (s - S + S2) ((ordL (-1) (changesP ks st)).drop (k + 1))) := Lib.hid (by rw [HK.out, HL.out, decide_eq_true h12, Bool.true_and])
                    go_wp2_with (fail)
                    go_roundw
                    case rel => exact ⟨k + 1, F0, T0, s - S + S2, by omega, by go_num, by go_num, by go_num, by go_num, Lib.hid (by rw [HF0.out, show ks.length - (k + 1) = j by have := HJ.out; omega]), Lib.hid (by rw [HT0.out, show ks.length - (k + 1) = j by have := HJ.out; omega]), by omega, by omega, HK2, by omega, by omega, hb8⟩
                    case measure => simp [intOf]; omega
                  · have h12' : decide (12 < s - S + S2) = true := decide_eq_true (by omega)
                    have HK2 : Hid (keepB (-1) st ks = false) := Lib.hid (by rw [HK.out, HL.out, decide_eq_false h12, Bool.false_and])
                    go_wp2_with (fail)
                    go_ret
                    exact ⟨ret_bool HK2.out.symm, hb8⟩
        · have HK2 : Hid (keepB (-1) st ks = true) := Lib.hid (by rw [HK.out, drop_all (by rw [ordL_length, changesP_length]; omega)]; rfl)
          go_wp2_with (fail)
          go_ret
          exact ⟨ret_bool HK2.out.symm, hb⟩

end Go.Proofs.YtnjgmhdmjaijgaaGreat

/- l15Stacks: the stacks of a chart, the given side. -/
namespace Go.Proofs.YtnjgmhdmjaijgaaGreat
open Go.RowKit

/-- The list of stacks grows by one. -/
theorem stacks_step {w5 w6 : World} {lo m k : Nat} {A5 A3 : Option Addr} {c5 c3 : Nat} {cs : List Value} {done : List (List Int)} {nx : List Int}
    (ho : OwnC w5 lo m 36 1 A5 k c5 cs) (hc : CellsII w5 lo m cs done) (hx : OwnI w5 m w5.heap.size A3 c3 nx) (hlo : lo ≤ m) (hm : m ≤ w5.heap.size)
    (hg : (w5.alloc (.cells #[.slice A3 nx.length c3] 36)).grownBy w6 (Value.slice A5 k c5).ownBlock) (hz : w5.heap.size < w6.heap.size) :
    OwnI w6 lo w6.heap.size A3 c3 nx ∧ CellsII w6 lo w6.heap.size (cs ++ [.slice A3 nx.length c3]) (done ++ [nx]) := by
  have t3 : (2 : TypeId) ≠ 36 := by decide
  have ho' := ho.alloc (.cells #[.slice A3 nx.length c3] 36)
  have hc' : CellsII (w5.alloc (.cells #[.slice A3 nx.length c3] 36)) lo m cs done := hc.keep fun q _ _ h3 => Below.heap_alloc w5 _ q h3
  have hx6 := (hx.alloc (.cells #[.slice A3 nx.length c3] 36)).grownT ho' t3 hg
  have hc6 := hc'.grownT ho' t3 hg
  exact ⟨hx6.mono hlo (by omega), (hc6.snoc hx6 hlo (by omega)).mono (Nat.le_refl _) (by omega)⟩
def sliceLen : Value → Nat
  | .slice _ n _ => n
  | _ => 0
theorem stacksFrom_drop {st : List Int} {rs : List RowD} {k : Nat} {r : RowD} (h : rs[k]? = some r) : stacksFrom st (rs.drop k) = (stacksAfterP st r.s).1 :: stacksFrom (stacksAfterP st r.s).1 (rs.drop (k + 1)) := by rw [drop_cons h, stacksFrom]
theorem rowsOkB_drop {st : List Int} {rs : List RowD} {k : Nat} {r : RowD} (h : rs[k]? = some r) : rowsOkB st (rs.drop k) = (rowOkB st r && rowsOkB (stacksAfterP st r.s).1 (rs.drop (k + 1))) := by rw [drop_cons h, rowsOkB]
theorem chart_bad {n : Int} {rs : List RowD} (h : chartB n rs = false) : chartStacks n rs = [] ∧ chartB n rs = false := ⟨by rw [chartStacks, if_neg (by rw [h]; decide)], h⟩

theorem spec_l15Thin (dd : Int) (hd : dd = 1 ∨ dd = -1) (st ks : List Int) (A B C : Option Addr) (c d cc g o : Nat) (w : World) (h : Ints w A st) (h' : Ints w B (afterP ks st)) (hk : Ints w C ks)
    (c0 : w.cell? ⟨g, o, none⟩ = some (.int .i64 dd)) (c2 : w.cell? ⟨g, o + 2, none⟩ = some (.slice C ks.length cc)) (hv : stacksB st = true) (hs : stitchesB ks = true) (heq : takenS ks = st.length) :
    Calls Tryz.prog 99 #[.slice A st.length c, .slice B (afterP ks st).length d, .pointer (some ⟨g, o, none⟩)] w fun e w' => e = .returned (.bool (keepB dd st ks)) ∧ Below w.heap.size w w' := by
  rcases hd with rfl | rfl
  · exact spec_l15Thin_R st ks A B C c d cc g o w h h' hk c0 c2 hv hs heq
  · exact spec_l15Thin_L st ks A B C c d cc g o w h h' hk c0 c2 hv hs heq

set_option maxHeartbeats 4000000 in
set_option maxRecDepth 20000 in
theorem spec_l15Stacks (g o : Nat) (n : Int) (rs : List RowD) (A : Option Addr) (c : Nat) (w : World) (h : RowsR w A rs) (hl : rs.length ≤ 9223372036854775807)
    (c0 : w.cell? ⟨g, o, none⟩ = some (.int .i64 n)) (c1 : w.cell? ⟨g, o + 1, none⟩ = some (.slice A rs.length c)) :
    Calls Tryz.prog 86 #[.pointer (some ⟨g, o, none⟩)] w fun e w' => ∃ A' c', e = .returned (.tuple #[.slice A' (chartStacks n rs).length c', .bool (chartB n rs)]) ∧ OwnII w' w.heap.size w'.heap.size A' (chartStacks n rs).length c' (chartStacks n rs) ∧ Below w.heap.size w w' := by
  have hnil : ∀ W, OwnII W w.heap.size W.heap.size none 0 0 [] := fun W => ⟨[], OwnC.nil _ _ _ _ _, ⟨rfl, fun k xs hx => by simp at hx, fun i j v v' g hi' => by simp at hi'⟩⟩
  have HNIL := Lib.hid hnil; clear hnil
  cases hn : inR n 1 8
  · have HF : Hid (chartStacks n rs = [] ∧ chartB n rs = false) := Lib.hid (chart_bad (by simp [chartB, hn]))
    go_enter Tryz.func86, Tryz.ntmps86
    go_wp2_with (go_at_call 73; refine (spec_l00In _ _ _ _).mono ?_; rintro e _ ⟨rfl, rfl⟩)
    go_ret2
    rw [HF.out.1, HF.out.2]
    exact ⟨_, _, rfl, HNIL.out _, Below.refl _ _⟩
  · cases hr : inR rs.length 1 8
    · have HF : Hid (chartStacks n rs = [] ∧ chartB n rs = false) := Lib.hid (chart_bad (by simp [chartB, hr]))
      go_enter Tryz.func86, Tryz.ntmps86
      go_wp2_with (go_at_call 73; refine (spec_l00In _ _ _ _).mono ?_; rintro e _ ⟨rfl, rfl⟩)
      go_ret2
      rw [HF.out.1, HF.out.2]
      exact ⟨_, _, rfl, HNIL.out _, Below.refl _ _⟩
    · have hn18 := inR_iff.1 hn
      have hr18 := inR_iff.1 hr
      obtain ⟨m, rfl⟩ := Int.eq_ofNat_of_zero_le (show (0 : Int) ≤ n by omega)
      have HF : Hid (chartB m rs = rowsOkB (List.replicate m 1) rs) := Lib.hid (by unfold chartB; rw [hn, hr]; rfl)
      have HBAD : Hid (rowsOkB (List.replicate m 1) rs = false → chartStacks m rs = [] ∧ chartB m rs = false) := Lib.hid (fun h => chart_bad (by rw [HF.out, h]))
      have HGOOD : Hid (rowsOkB (List.replicate m 1) rs = true → chartStacks m rs = stacksFrom (List.replicate m 1) rs ∧ chartB m rs = true) := Lib.hid (fun h => ⟨by rw [chartStacks, if_pos (by rw [HF.out, h])]; rfl, by rw [HF.out, h]⟩)
      obtain ⟨i0, hi0, hz0, hz1, hz2⟩ := info_parts info_int64
      obtain ⟨i1, hi1, hy0, hy1, hy2⟩ := info_parts info_ints
      go_enter Tryz.func86, Tryz.ntmps86
      go_wp2_with (go_at_call 73; refine (spec_l00In _ _ _ _).mono ?_; rintro e _ ⟨rfl, rfl⟩)
      go_loopw [4] (fun nv wr => ∃ (k : Nat) (A4 : Option Addr) (c4 : Nat), k ≤ m ∧ nv = .slice A4 k c4 ∧ OwnC wr w.heap.size wr.heap.size 2 1 A4 k c4 ((List.replicate k (1 : Int)).map (Value.int .i64)) ∧ Below w.heap.size w wr) (fun nv _ => m - sliceLen nv)
      case atStart =>
        exact ⟨0, some ⟨w.heap.size, 0, none⟩, 0, Nat.zero_le _, rfl, (OwnC.lit _ 1 #[] (Nat.le_refl _) (Nat.zero_le _) rfl).mono (Nat.le_refl _) (by simp), by (repeat (first | exact Below.refl _ _ | assumption | apply Below.drew | apply below_drewN | (refine Below.alloc ?_ (by first | omega | (simp; done) | (simp; omega)) _) | (refine Below.setCell ?_ (by first | omega | (simp; done) | (simp; omega)) _)))⟩
      case round =>
        obtain ⟨k, A4, c4, hk, rfl, ho, hb⟩ := hrel
        have hzs := hb.size
        have d0 := cells_below hb _ _ c0
        have d1 := cells_below hb _ _ c1
        by_cases hlt : k < m
        · go_wp2_with (at_builtin; refine wpList_append1 wr [.int .i64 1] _ rfl (.tmp 32) (.tmp 33) _ rfl 2 i0 _ 1 8 Tryz.underlying36 hi0 hz0 hz1 hz2 rfl (by decide) rfl ho hzs 1 rfl rfl (by simp [Value.oneCell']) (by omega) (by decide) ?_; intro A2 c2 w2 ho2 hg2 hb2 hz2')
          go_roundw
          case rel =>
            refine ⟨k + 1, A2, c2, by omega, rfl, ?_, hb.trans hb2⟩
            rw [List.replicate_succ', List.map_append]
            exact ho2
          case measure => simp [sliceLen]; omega
        · obtain rfl : k = m := by omega
          have hst0 : (List.replicate k (1 : Int)).length = k := by simp
          obtain ⟨st0, hst⟩ : ∃ s, s = List.replicate k (1 : Int) := ⟨_, rfl⟩
          rw [← hst] at ho hst0 HF HBAD HGOOD
          clear hst
          subst hst0
          have ho' : OwnI wr w.heap.size wr.heap.size A4 c4 st0 := ho
          clear ho
          go_wp2_with (fail)
          obtain ⟨W1, rfl⟩ : ∃ W1, W1 = wr := ⟨wr, rfl⟩
          go_loopw [4, 5, 6] (fun nv ov iv wr => ∃ (i : Nat) (st : List Int) (A4 : Option Addr) (c4 : Nat) (A5 : Option Addr) (c5 : Nat) (cs : List Value) (done : List (List Int)), i ≤ rs.length ∧ nv = .slice A4 st.length c4 ∧ ov = .slice A5 i c5 ∧ iv = .int .i64 i ∧ OwnI wr w.heap.size wr.heap.size A4 c4 st ∧ OwnC wr w.heap.size wr.heap.size 36 1 A5 i c5 cs ∧ CellsII wr w.heap.size wr.heap.size cs done ∧ Below w.heap.size w wr ∧ Hid (stacksFrom st0 rs = done ++ stacksFrom st (rs.drop i)) ∧ Hid (rowsOkB st0 rs = rowsOkB st (rs.drop i)) ∧ Hid (done.length = i) ∧ st.length ≤ 8) (fun _ _ iv _ => rs.length - (intOf iv).toNat)
          case atStart =>
            refine ⟨0, st0, A4, c4, some ⟨W1.heap.size, 0, none⟩, 0, [], [], Nat.zero_le _, rfl, rfl, rfl, (ho'.alloc _).mono (Nat.le_refl _) (by simp), ?_, ⟨rfl, fun k xs hx => by simp at hx, fun i j v v' g hi' => by simp at hi'⟩, by (repeat (first | exact Below.refl _ _ | assumption | apply Below.drew | apply below_drewN | (refine Below.alloc ?_ (by first | omega | (simp; done) | (simp; omega)) _) | (refine Below.setCell ?_ (by first | omega | (simp; done) | (simp; omega)) _))), Lib.hid rfl, Lib.hid rfl, Lib.hid rfl, by omega⟩
            exact (OwnC.lit _ 1 #[] (Nat.le_refl _) (Nat.zero_le _) rfl).mono hzs (by simp)
          case round =>
            clear ho'
            obtain ⟨i, st, A4, c4, A5, c5, cs, done, hi, rfl, rfl, rfl, ho4, ho5, hci, hbq, HS, HO, HD, hst8⟩ := hrel
            have hzq := hbq.size
            have e0 := cells_below hbq _ _ c0
            have e1 := cells_below hbq _ _ c1
            clear d0 d1
            by_cases hlr : i < rs.length
            · obtain ⟨b, off, A7, c7, r, rfl, hrx, f0, f1, f2, hri, hrl⟩ := (h.below hbq) i hlr
              have HS2 : Hid (stacksFrom st0 rs = (done ++ [(stacksAfterP st r.s).1]) ++ stacksFrom (stacksAfterP st r.s).1 (rs.drop (i + 1))) := Lib.hid (by rw [HS.out, stacksFrom_drop hrx, List.append_assoc]; rfl)
              have HO2 : Hid (rowsOkB st0 rs = (rowOkB st r && rowsOkB (stacksAfterP st r.s).1 (rs.drop (i + 1)))) := Lib.hid (by rw [HO.out, rowsOkB_drop hrx])
              clear hrx HS HO
              have hnx8 := stacksAfterP_length st r.s
              have j1 : (0 : Int) ≤ (i : Int) := by omega
              have j2 : (i : Int) < (rs.length : Int) := by omega
              cases hrow : rowB r.d r.r r.s
              · have HBB := HBAD.out (by rw [HO2.out, rowOkB, hrow]; rfl)
                have HBB' := Lib.hid HBB; clear HBB
                go_wp2_with (go_at_call 68; refine (spec_l15Row b (off + i * 3) r.d r.r A7 c7 r.s _ hri hrl f0 f1 f2).mono ?_; rintro e _ ⟨rfl, rfl⟩; rw [hrow])
                go_ret2
                rw [HBB'.out.1, HBB'.out.2]
                exact ⟨_, _, rfl, HNIL.out _, hbq⟩
              · have HI4 := Lib.hid ho4.ints
                go_wp2_with (go_at_call 68; refine (spec_l15Row b (off + i * 3) r.d r.r A7 c7 r.s _ hri hrl f0 f1 f2).mono ?_; rintro e _ ⟨rfl, rfl⟩; rw [hrow])
                refine (spec_StacksAfter st r.s A4 c4 A7 c7 _ HI4.out (by omega) hri hrl).mono ?_; rintro e w3 ⟨A3, c3, rfl, o3, b3⟩
                have z3 := b3.size
                have hb3 : Below w.heap.size w w3 := hbq.trans (b3.mono hzq)
                have e0' := cells_below hb3 _ _ c0
                have e1' := cells_below hb3 _ _ c1
                have f0' := cells_below b3 _ _ f0
                have f1' := cells_below b3 _ _ f1
                have f2' := cells_below b3 _ _ f2
                cases hcd : stepCode st r.s
                · have hcd' : ((stacksAfterP st r.s).2 != 0) = true := by simpa [stepCode] using hcd
                  have HBB := HBAD.out (by rw [HO2.out, rowOkB, hcd, Bool.and_false, Bool.false_and, Bool.false_and])
                  have HBB' := Lib.hid HBB; clear HBB
                  go_wp2_with (fail)
                  go_ret2
                  rw [HBB'.out.1, HBB'.out.2]
                  exact ⟨_, _, rfl, HNIL.out _, hb3⟩
                · have hcd' : ((stacksAfterP st r.s).2 != 0) = false := by simpa [stepCode] using hcd
                  obtain ⟨q1, q2, q3, q4, q5⟩ := stepCode_of hcd
                  have hdir : r.d = 1 ∨ r.d = -1 := by
                    unfold rowB dirB at hrow
                    simp only [Bool.and_eq_true, Bool.or_eq_true, beq_iff_eq] at hrow
                    first | exact hrow.1.1 | exact hrow.1.1.symm
                  have HTH := Lib.hid (spec_l15Thin r.d hdir st r.s A4 A3 A7 c4 c3 c7 b (off + i * 3) w3 (HI4.out.below b3) (by rw [← q4]; exact o3.ints) (hri.below b3) f0' f2' q1 q2 q3)
                  rw [← q4] at HTH
                  clear q1 q2 q3 q4 q5
                  have ho4' := ho4.below b3 (Nat.le_refl _)
                  have ho5' := ho5.below b3 (Nat.le_refl _)
                  have hci' : CellsII w3 w.heap.size wr.heap.size cs done := hci.keep fun q _ h2 _ => b3.block q h2
                  have HR : Hid (rowOkB st r = keepB r.d st r.s) := Lib.hid (by rw [rowOkB, hrow, hcd]; simp)
                  clear hcd hrow
                  cases hkp : keepB r.d st r.s
                  · have HBB := HBAD.out (by rw [HO2.out, HR.out, hkp]; rfl)
                    have HBB' := Lib.hid HBB; clear HBB
                    rw [hkp] at HTH
                    go_wp2_with (go_at_call 99; refine HTH.out.mono ?_; rintro e w5 ⟨rfl, b5⟩)
                    go_ret2
                    rw [HBB'.out.1, HBB'.out.2]
                    exact ⟨_, _, rfl, HNIL.out _, hb3.trans (b5.mono (by omega))⟩
                  · have HO3 : Hid (rowsOkB st0 rs = rowsOkB (stacksAfterP st r.s).1 (rs.drop (i + 1))) := Lib.hid (by rw [HO2.out, HR.out, hkp]; rfl)
                    rw [hkp] at HTH
                    clear HO2 HR hkp
                    generalize (stacksAfterP st r.s).1 = nx at o3 HTH HS2 HO3 hnx8 ⊢
                    go_wp2_with (first | (go_at_call 99; refine HTH.out.mono ?_; rintro e w5 ⟨rfl, b5⟩; have z5 := b5.size; have oA := ho5'.below b5 z3) | (at_builtin; refine wpList_append1 w5 [.slice A3 nx.length c3] _ rfl (.tmp 80) (.tmp 82) _ rfl 36 i1 _ 1 24 Tryz.underlying46 hi1 hy0 hy1 hy2 rfl (by decide) rfl oA (by omega) 1 rfl rfl (by simp [Value.oneCell']) (by omega) (by decide) ?_; intro A6 c6 w6 ho6 hg6 hb6 hz6))
                    have hb5 : Below w.heap.size w w5 := hb3.trans (b5.mono (by omega))
                    have hci5 : CellsII w5 w.heap.size wr.heap.size cs done := hci'.keep fun q _ h2 _ => b5.block q (by omega)
                    obtain ⟨oN, hN⟩ := stacks_step oA hci5 ((o3.below b5 (Nat.le_refl _)).mono (Nat.le_refl _) z5) hzq (by omega) hg6 hz6
                    go_roundw
                    case rel => exact ⟨i + 1, nx, A3, c3, A6, c6, _, done ++ [nx], by omega, rfl, rfl, by go_num, oN, ho6, hN, hb5.trans hb6, HS2, HO3, Lib.hid (by rw [List.length_append, HD.out]; rfl), hnx8⟩
                    case measure => simp [intOf]; omega
            · have h9 := HS.out
              have h8 := HO.out
              rw [drop_all (by omega), stacksFrom, List.append_nil] at h9
              rw [drop_all (by omega), rowsOkB] at h8
              have HG := Lib.hid (HGOOD.out h8)
              have H9 := Lib.hid h9; clear h9 h8
              go_wp2_with (fail)
              go_ret2
              rw [HG.out.1, HG.out.2, H9.out, HD.out]
              exact ⟨_, _, rfl, ⟨cs, ho5, hci⟩, hbq⟩

theorem spec_l15Ok (g o : Nat) (n : Int) (rs : List RowD) (A : Option Addr) (c : Nat) (w : World) (h : RowsR w A rs) (hl : rs.length ≤ 9223372036854775807)
    (c0 : w.cell? ⟨g, o, none⟩ = some (.int .i64 n)) (c1 : w.cell? ⟨g, o + 1, none⟩ = some (.slice A rs.length c)) :
    Calls Tryz.prog 45 #[.pointer (some ⟨g, o, none⟩)] w fun e w' => e = .returned (.bool (chartB n rs)) ∧ Below w.heap.size w w' := by
  go_enter Tryz.func45, Tryz.ntmps45
  go_wp2_with (fail)
  refine (spec_l15Stacks g o n rs A c _ h hl c0 c1).mono ?_; rintro e w2 ⟨A', c', rfl, _, b2⟩
  go_wp2_with (fail)
  go_ret
  exact ⟨rfl, b2⟩

theorem spec_ValidChart (n : Int) (rs : List RowD) (A : Option Addr) (c : Nat) (w : World) (h : RowsR w A rs) (hl : rs.length ≤ 9223372036854775807) :
    Calls Tryz.prog 15 #[.agg #[.int .i64 n, .slice A rs.length c]] w fun e w' => e = .returned (.bool (chartB n rs)) ∧ Below w.heap.size w w' := by
  have hb1 : Below w.heap.size w (w.alloc (.cells #[.int .i64 n, .slice A rs.length c] 30)) := by (repeat (first | exact Below.refl _ _ | assumption | apply Below.drew | apply below_drewN | (refine Below.alloc ?_ (by first | omega | (simp; done) | (simp; omega)) _) | (refine Below.setCell ?_ (by first | omega | (simp; done) | (simp; omega)) _)))
  have kb := Blk.new w 30 #[.int .i64 n, .slice A rs.length c]
  go_enter Tryz.func15, Tryz.ntmps15
  go_wp2_with (fail)
  refine (spec_l15Ok w.heap.size 0 n rs A c _ (h.below hb1) hl kb.c2.1 kb.c2.2).mono ?_; rintro e w2 ⟨rfl, b2⟩
  go_wp2_with (fail)
  go_ret
  exact ⟨rfl, hb1.trans (b2.mono (by simp))⟩

end Go.Proofs.YtnjgmhdmjaijgaaGreat

/- slices.Clone, copyLists, slices.Reverse. -/
namespace Go.Proofs.YtnjgmhdmjaijgaaGreat
open Go.RowKit

theorem Ints.news {w : World} {A : Option Addr} {xs : List Int} (h : Ints w A xs) : ∀ j u, (xs.map (Value.int .i64))[j]? = some u → ∃ b off, A = some ⟨b, off, none⟩ ∧ w.cell? ⟨b, off + j, none⟩ = some u := by
  intro j u hu
  have hj := (List.getElem?_eq_some_iff.1 hu).1
  simp at hj
  obtain ⟨b, off, x, hA, hc, hx⟩ := h j hj
  rw [List.getElem?_map, hx] at hu
  simp at hu
  subst hu
  exact ⟨b, off, hA, hc⟩

set_option maxRecDepth 10000 in
theorem slices_Clone (A : Option Addr) (c : Nat) (xs : List Int) (w : World) (h : Ints w A xs) (hl : xs.length ≤ 1048576) :
    Calls Tryz.prog 142 #[.slice A xs.length c] w fun e w' => ∃ A' c', e = .returned (.slice A' xs.length c') ∧ OwnI w' w.heap.size w'.heap.size A' c' xs ∧ Below w.heap.size w w' := by
  obtain ⟨i0, hi0, hz0, hz1, hz2⟩ := info_parts info_int64
  have qn : ∀ (w : World) (a : Option Addr) (n c n' c' : Nat), (binOp .eql 36 (.slice a n c) (.slice none n' c')).run Tryz.prog w = .ok (.bool a.isNone) w := fun w a n c n' c' => Lib.run_eql_slice_nil w _ _ a n c n' c' Tryz.underlying36
  cases A with
  | none =>
    have hx : xs = [] := by
      cases xs with
      | nil => rfl
      | cons x r => obtain ⟨b, off, _, h1, _⟩ := h 0 (by simp); cases h1
    subst hx
    go_enter Tryz.func142, Tryz.ntmps142
    go_wp2_with (fail)
    go_ret
    exact ⟨none, 0, rfl, OwnC.nil _ _ _ _ _, Below.refl _ _⟩
  | some a =>
    have o1 := OwnC.lit (w := w) (lo := w.heap.size) (n := 0) 2 1 #[] (Nat.le_refl _) (Nat.zero_le _) rfl
    have hb1 : Below w.heap.size w (w.alloc (.cells #[] 2)) := by (repeat (first | exact Below.refl _ _ | assumption | apply Below.drew | apply below_drewN | (refine Below.alloc ?_ (by first | omega | (simp; done) | (simp; omega)) _) | (refine Below.setCell ?_ (by first | omega | (simp; done) | (simp; omega)) _)))
    have hn := (h.below hb1).news
    have O1 := Lib.hid o1; clear o1
    have HN := Lib.hid hn; clear hn
    go_enter Tryz.func142, Tryz.ntmps142
    go_wp2_with (at_builtin; refine wpList_appendC (w.alloc (.cells #[] 2)) rfl (.tmp 5) (.tmp 6) _ rfl 2 i0 _ 1 8 Tryz.underlying36 hi0 hz0 hz1 hz2 rfl (by decide) rfl O1.out (by simp) (some a) xs.length c (xs.map (Value.int .i64)) rfl (by simp) HN.out (ints_one _) (by unfold maxLen; omega) (by omega) ?_; intro A5 c5 w5 ho5 hg5 hb5)
    go_ret
    refine ⟨A5, c5, by simp, ?_, hb1.trans hb5⟩
    simpa using ho5

set_option maxHeartbeats 1000000 in
theorem slices_Reverse (A : Option Addr) (c : Nat) (xs : List Int) (lo hi : Nat) (w : World) (h : OwnI w lo hi A c xs) (hl : xs.length ≤ 1048576) :
    Calls Tryz.prog 145 #[.slice A xs.length c] w fun e w' => e = .returned (.tuple #[]) ∧ OwnC w' lo hi 2 1 A xs.length c (xs.reverse.map (Value.int .i64)) ∧ Upd lo hi w w' := by
  go_enter Tryz.func145, Tryz.ntmps145
  go_wp2_with (fail)
  go_loopw [2, 3] (fun iv jv wr => ∃ (i : Nat) (L : List Int), 2 * i ≤ xs.length ∧ iv = .int .i64 i ∧ jv = .int .i64 ((xs.length : Int) - 1 - i) ∧ OwnC wr lo hi 2 1 A xs.length c (L.map (Value.int .i64)) ∧ Hid (L.length = xs.length) ∧ Hid (∀ k, k < xs.length → L[k]? = if k < i ∨ xs.length ≤ k + i then xs[xs.length - 1 - k]? else xs[k]?) ∧ Upd lo hi w wr) (fun _ jv _ => (intOf jv + 1).toNat)
  case atStart => exact ⟨0, xs, by omega, rfl, by simp, h, Lib.hid rfl, Lib.hid (fun k hk => by rw [if_neg (by omega)]), Upd.refl _ _ _⟩
  case round =>
    obtain ⟨i, L, hi2, rfl, rfl, ho, HL, HK, hu⟩ := hrel
    by_cases hlt : 2 * i + 1 < xs.length
    · obtain ⟨j, hj⟩ : ∃ j, xs.length = j + 1 + i := ⟨xs.length - 1 - i, by omega⟩
      have hij : i < j := by omega
      rw [show (xs.length : Int) - 1 - i = j by omega]
      have e1 : L[i]? = some (L[i]'(by rw [HL.out]; omega)) := List.getElem?_eq_getElem _
      have e2 : L[j]? = some (L[j]'(by rw [HL.out]; omega)) := List.getElem?_eq_getElem _
      generalize L[i]'(by rw [HL.out]; omega) = x at e1
      generalize L[j]'(by rw [HL.out]; omega) = y at e2
      obtain ⟨g, rfl, hg1, hg2, q0, f0⟩ := ho.cell (j := i) (by simp [HL.out]; omega)
      obtain ⟨_, hA, _, _, q1, f1⟩ := ho.cell (j := j) (by simp [HL.out]; omega)
      injection hA with hA
      injection hA with hA
      subst hA
      have e3 : (L.map (Value.int .i64))[i]? = some (.int .i64 x) := by simp [e1]
      have e4 : (L.map (Value.int .i64))[j]? = some (.int .i64 y) := by simp [e2]
      rw [List.getElem?_eq_getElem (by simp [HL.out]; omega)] at e3 e4
      injection e3 with e3
      injection e4 with e4
      rw [e3] at q0
      rw [e4] at q1
      have E1 := Lib.hid e1; clear e1
      have E2 := Lib.hid e2; clear e2 e3 e4
      have j1 : (0 : Int) ≤ (i : Int) := by omega
      have j2 : (i : Int) < (xs.length : Int) := by omega
      have j3 : (0 : Int) ≤ (j : Int) := by omega
      have j4 : (j : Int) < (xs.length : Int) := by omega
      have HJ := Lib.hid hj; clear hj
      have hne : i ≠ j := by omega
      have hne2 : j ≠ i := by omega
      have HO := Lib.hid ho; clear ho
      go_wp2_with (fail)
      go_region
      all_goals go_wp2_with (fail)
      all_goals
        have o1 := (HO.out.store (j := i) (.int .i64 y)).1
        have o2 := (o1.store (j := j) (.int .i64 x)).1
        have o3 := OwnC.keep (w' := World.drew ((wr.setCell ⟨g, i, none⟩ (.int .i64 y)).setCell ⟨g, j, none⟩ (.int .i64 x))) o2 fun _ _ _ _ => rfl
        have u2 : Upd lo hi w (World.drew ((wr.setCell ⟨g, i, none⟩ (.int .i64 y)).setCell ⟨g, j, none⟩ (.int .i64 x))) := ((hu.setCell (p := ⟨g, i, none⟩) hg1 hg2 _).setCell (p := ⟨g, j, none⟩) hg1 hg2 _).drewN 1
        refine ⟨⟨i + 1, (L.set i y).set j x, by omega, by go_num, int_eq (by have := HJ.out; push_cast; omega), by simpa [List.map_set] using o3, Lib.hid (by simp [HL.out]), Lib.hid (fun k hk => ?_), u2⟩, by first | (simp [intOf]; done) | (simp [intOf]; omega)⟩
        have hjj := HJ.out
        by_cases hki : k = i
        · subst hki
          rw [List.getElem?_set_ne (by omega), List.getElem?_set_self (by rw [HL.out]; omega), if_pos (by omega), show xs.length - 1 - k = j by omega]
          have := HK.out j (by omega)
          rw [E2.out, if_neg (by omega)] at this
          exact this
        · by_cases hkj : k = j
          · subst hkj
            rw [List.getElem?_set_self (by simp [HL.out]; omega), if_pos (by omega), show xs.length - 1 - k = i by omega]
            have := HK.out i (by omega)
            rw [E1.out, if_neg (by omega)] at this
            exact this
          · rw [List.getElem?_set_ne (by omega), List.getElem?_set_ne (by omega), HK.out k hk]
            by_cases hc : k < i ∨ xs.length ≤ k + i
            · rw [if_pos hc, if_pos (by omega)]
            · rw [if_neg hc, if_neg (by omega)]
    · have hjle : (xs.length : Int) - 1 - i ≤ i := by omega
      go_wp2_with (fail)
      go_end0
      refine ⟨rfl, ?_, hu⟩
      have e : L = xs.reverse := by
        apply List.ext_getElem?
        intro k
        by_cases hk : k < xs.length
        · rw [HK.out k hk, List.getElem?_reverse hk]
          by_cases hc : k < i ∨ xs.length ≤ k + i
          · rw [if_pos hc]
          · rw [if_neg hc, show xs.length - 1 - k = k by omega]
        · rw [List.getElem?_eq_none (by rw [HL.out]; omega), List.getElem?_eq_none (by rw [List.length_reverse]; omega)]
      rw [← e]
      exact ho

end Go.Proofs.YtnjgmhdmjaijgaaGreat

/- keepsLimit: the program's limit on strands. -/
namespace Go.Proofs.YtnjgmhdmjaijgaaGreat
open Go.RowKit

def iotaI (n : Nat) : List Int := (List.range n).map fun (i : Nat) => (i : Int)
theorem iotaI_length (n : Nat) : (iotaI n).length = n := by simp [iotaI]
theorem iotaI_at {n k : Nat} (h : k < n) : (iotaI n)[k]? = some (k : Int) := by simp [iotaI, h]

theorem sumOf_tiny (A : Option Addr) (c : Nat) (xs : List Int) (w : World) (h : Ints w A xs) (hl : xs.length ≤ 100) (ht : tinyB xs) :
    Calls Tryz.prog 64 #[.slice A xs.length c] w fun e w' => e = .returned (.int .i64 (sumI xs)) ∧ w = w' := by
  have HT := Lib.hid ht; clear ht
  go_enter Tryz.func64, Tryz.ntmps64
  go_wp2_with (fail)
  go_loopw [3, 8] (fun sv iv wr => ∃ (k : Nat) (s : Int), k ≤ xs.length ∧ sv = .int .i64 s ∧ iv = .int .i64 k ∧ Hid (s = sumI (xs.take k)) ∧ 0 ≤ s ∧ s ≤ 5 * (k : Int) ∧ w = wr) (fun _ iv _ => xs.length - (intOf iv).toNat)
  case atStart => exact ⟨0, 0, Nat.zero_le _, rfl, rfl, Lib.hid rfl, by omega, by omega, rfl⟩
  case round =>
    obtain ⟨k, s, hk8, rfl, rfl, HS, hs0, hs1, rfl⟩ := hrel
    by_cases hlt : k < xs.length
    · obtain ⟨b, off, x, rfl, hc, hx⟩ := h k hlt
      have hx4 := HT.out x (List.mem_of_getElem? hx)
      have HS2 : Hid (s + x = sumI (xs.take (k + 1))) := Lib.hid (by rw [sumI_snoc hx, HS.out])
      clear hx
      have j1 : (0 : Int) ≤ (k : Int) := by omega
      have j2 : (k : Int) < (xs.length : Int) := by omega
      go_wp2_with (fail)
      go_roundw
      case rel => exact ⟨k + 1, s + x, by omega, by go_num, by go_num, HS2, by omega, by omega, trivial⟩
      case measure => simp [intOf]; omega
    · have hs9 : s = sumI xs := by rw [HS.out, take_all (by omega)]
      have HS9 := Lib.hid hs9; clear hs9
      go_wp2_with (fail)
      go_ret
      exact ⟨ret_int HS9.out, rfl⟩

theorem impl_identity (n : Nat) (w : World) (hl : n ≤ 1000) :
    Calls Tryz.prog 144 #[.int .i64 n] w fun e w' => ∃ A' c', e = .returned (.slice A' (iotaI n).length c') ∧ OwnI w' w.heap.size w'.heap.size A' c' (iotaI n) ∧ Below w.heap.size w w' := by
  obtain ⟨i0, hi0, hz0, hz1, hz2⟩ := info_parts info_int64
  have hlen : n ≤ 9223372036854775807 := by omega
  go_enter Tryz.func144, Tryz.ntmps144
  go_wp2_with (refine wpList_make_full _ rfl _ _ _ rfl w.heap.size 2 i0 _ 1 Tryz.underlying36 hi0 hz0 hz1 .i64 .i64 _ _ n rfl rfl rfl rfl (by rw [hz2]; omega) (by unfold maxLen; omega) (Nat.le_refl _) ?_; intro w1 hown hg)
  have hb1 : Below w.heap.size w w1 := (Below.refl _ _).grown hg (Nat.le_refl _) (by simp)
  go_loopw [9] (fun i wr => ∃ (k : Nat) (cs : List Value), k ≤ n ∧ i = .int .i64 k ∧ wr.ownsRow w.heap.size 2 1 (.slice (some ⟨w.heap.size, 0, none⟩) n n) n cs ∧ cs.take k = ((iotaI n).take k).map (Value.int .i64) ∧ Below w.heap.size w wr) (fun i _ => n - (intOf i).toNat)
  case atStart => exact ⟨0, _, Nat.zero_le _, rfl, hown, by simp, hb1⟩
  case round =>
    clear hown hg hb1
    obtain ⟨k, cs, hk, rfl, hown, htk, hb⟩ := hrel
    have hcl : cs.length = n := by simpa using hown.1
    have HT := Lib.hid htk; clear htk
    have HC := Lib.hid hcl; clear hcl
    by_cases hlt : k < n
    · have hx := iotaI_at hlt
      have hcell : wr.cell? ⟨w.heap.size, k, none⟩ = some (cs[k]'(by rw [HC.out]; exact hlt)) := by
        rw [hown.cellAt k (by omega), List.getElem?_eq_getElem]
      have hfz := hown.frozenAt k
      have HX := Lib.hid hx; clear hx
      go_wp2
      go_roundw
      case rel =>
        refine ⟨k + 1, cs.set k (.int .i64 k), by omega, by go_num, (hown.stored k _).1, ?_, hb.setCell (p := ⟨w.heap.size, k, none⟩) (Nat.le_refl _) _⟩
        rw [take_set_succ _ _ _ (by rw [HC.out]; exact hlt), HT.out, take_snoc HX.out]
        simp
      case measure => simp [intOf]; omega
    · go_wp2
      go_ret
      have : k = n := by omega
      subst this
      have e : cs = (iotaI k).map (Value.int .i64) := by
        have := HT.out
        rwa [take_all (by rw [HC.out]; exact Nat.le_refl _), take_all (by rw [iotaI_length]; exact Nat.le_refl _)] at this
      subst e
      refine ⟨some ⟨w.heap.size, 0, none⟩, k, by rw [iotaI_length]; rfl, ?_, hb⟩
      show OwnC _ _ _ _ _ _ _ _ _
      rw [iotaI_length]
      exact OwnC.of_own hown (Nat.le_refl _)

theorem impl_order (d r : Int) (ks : List Int) (A : Option Addr) (c : Nat) (w : World) (hl : ks.length ≤ 1000) :
    Calls Tryz.prog 107 #[.agg #[.int .i64 d, .int .i64 r, .slice A ks.length c]] w fun e w' => ∃ A' c', e = .returned (.slice A' (ordL d (iotaI ks.length)).length c') ∧ OwnI w' w.heap.size w'.heap.size A' c' (ordL d (iotaI ks.length)) ∧ Below w.heap.size w w' := by
  have hb1 : Below w.heap.size w (w.alloc (.cells #[.int .i64 d, .int .i64 r, .slice A ks.length c] 50)) := by (repeat (first | exact Below.refl _ _ | assumption | apply Below.drew | apply below_drewN | (refine Below.alloc ?_ (by first | omega | (simp; done) | (simp; omega)) _) | (refine Below.setCell ?_ (by first | omega | (simp; done) | (simp; omega)) _)))
  have kb := Blk.new w 50 #[.int .i64 d, .int .i64 r, .slice A ks.length c]
  obtain ⟨u0, u1, u2⟩ := kb.c3
  go_enter Tryz.func107, Tryz.ntmps107
  go_wp2_with (fail)
  refine (impl_identity ks.length _ hl).mono ?_; rintro e w2 ⟨A2, c2, rfl, o2, b2⟩
  simp only [World.size_alloc] at b2 o2
  obtain ⟨v0, v1, v2⟩ := (kb.below b2 (by omega)).c3
  have hb2 : Below w.heap.size w w2 := hb1.trans (b2.mono (by omega))
  clear u0 u1 u2
  have z2 := b2.size
  simp only [World.size_alloc] at z2
  by_cases hd : d = -1
  · subst hd
    have HF : Hid (ordL (-1) (iotaI ks.length) = (iotaI ks.length).reverse) := Lib.hid rfl
    go_wp2_with (fail)
    refine (slices_Reverse A2 c2 (iotaI ks.length) _ _ _ o2 (by rw [iotaI_length]; omega)).mono ?_; rintro e w3 ⟨rfl, o3, u3⟩
    go_wp2_with (fail)
    go_ret
    rw [HF.out]
    refine ⟨A2, c2, by rw [List.length_reverse]; rfl, ?_, hb2.trans ((u3.below (by omega)).mono (by omega))⟩
    show OwnC _ _ _ _ _ _ _ _ _
    rw [List.length_reverse]
    exact o3.mono (by omega) u3.size
  · have hd' : (d == -1) = false := by simp [hd]
    have HF : Hid (ordL d (iotaI ks.length) = iotaI ks.length) := Lib.hid (by rw [ordL, if_neg hd])
    go_wp2_with (fail)
    go_ret
    rw [HF.out]
    exact ⟨A2, c2, rfl, o2.mono (by omega) (Nat.le_refl _), hb2⟩

end Go.Proofs.YtnjgmhdmjaijgaaGreat
