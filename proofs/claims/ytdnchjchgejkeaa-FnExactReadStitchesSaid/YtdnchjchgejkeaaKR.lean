/- ReadStitches: the two functions. -/
import Derived.Test.YtdnchjchgejkeaaKS
namespace Go.Proofs.Ytdnchjchgejkeaa
open Go.RowKit

theorem kinds_at {s : ByteArray} {i : Nat} (h : i < s.size) : (kinds s)[i]? = some (kindB (s.data[i]'h)) := by
  unfold kinds
  rw [List.getElem?_map]
  have : s.data.toList[i]? = some (s.data[i]'h) := by
    rw [Array.getElem?_toList]
    exact Array.getElem?_eq_getElem h
  rw [this]
  rfl
theorem readOk_stitches {s : ByteArray} : readOk s = stitchesB (kinds s) := by
  unfold readOk stitchesB
  rw [kinds_length, Bool.and_comm]

set_option maxHeartbeats 1000000 in
set_option maxRecDepth 10000 in
theorem spec_ReadStitches (s : ByteArray) (w : World) (hl : s.size ≤ 9223372036854775807) :
    Calls Try.prog 45 #[.string s] w fun e w' => ∃ A' c', e = .returned (.tuple #[.slice A' (readP s).length c', .bool (readOk s)]) ∧ OwnI w' w.heap.size w'.heap.size A' c' (readP s) ∧ Below w.heap.size w w' := by
  obtain ⟨i0, hi0, hz0, hz1, hz2⟩ := info_parts info_int64
  by_cases h16 : s.size ≤ 16
  · go_enter Try.func45, Try.ntmps45
    go_wp2_with (fail)
    go_loopw [4, 5] (fun ov iv wr => ∃ (i : Nat) (A' : Option Addr) (c' : Nat) (out : List Int), i ≤ s.size ∧ iv = .int .i64 i ∧ ov = .slice A' out.length c' ∧ OwnI wr w.heap.size wr.heap.size A' c' out ∧ Below w.heap.size w wr ∧ Hid (out = (kinds s).take i) ∧ out.length ≤ 16 ∧ Hid (((kinds s).take i).all isStitchB = true)) (fun _ iv _ => s.size - (intOf iv).toNat)
    case atStart =>
      exact ⟨0, some ⟨w.heap.size, 0, none⟩, 0, [], Nat.zero_le _, rfl, rfl, (OwnC.lit _ 1 #[] (Nat.le_refl _) (Nat.zero_le _) rfl).mono (Nat.le_refl _) (by simp), by (repeat (first | exact Below.refl _ _ | assumption | apply Below.drew | apply below_drewN | (refine Below.alloc ?_ (by first | omega | (simp; done) | (simp; omega)) _) | (refine Below.setCell ?_ (by first | omega | (simp; done) | (simp; omega)) _))), Lib.hid (by simp), by simp, Lib.hid (by simp)⟩
    case round =>
      obtain ⟨i, A', c', out, hi, rfl, rfl, ho, hb, HO, hol, HS⟩ := hrel
      have hzs := hb.size
      by_cases hlt : i < s.size
      · have hcon : ∀ W, Calls Try.prog 110 #[.string (s.extract i (i + 1))] W fun e w' => e = .returned (.int .i64 (kindB (s.data[i]'hlt))) ∧ W = w' := fun W => by rw [extract_one hlt]; exact spec_KindOf _ _
        have HC := Lib.hid hcon; clear hcon
        have HK := Lib.hid (kinds_snoc hlt)
        have HA := Lib.hid (kinds_at hlt)
        have HB := Lib.hid (kindB_stitch (s.data[i]'hlt))
        generalize kindB (s.data[i]'hlt) = k at HC HK HA HB
        have hol2 : out.length + 1 ≤ 16 := by rw [HO.out, List.length_take]; omega
        by_cases hk0 : k = 0
        · have hk0' : (k == 0) = true := by simp [hk0]
          have HF : Hid (readOk s = false) := Lib.hid (by
            rw [readOk, all_false_at HA.out (by rw [HB.out, hk0]; rfl), Bool.and_false])
          clear hk0
          go_wp2_with (fail)
          refine (HC.out _).mono ?_; rintro e _ ⟨rfl, rfl⟩
          go_wp2_with (fail)
          go_ret2
          rw [show readP s = [] from by rw [readP, HF.out]; rfl, HF.out]
          exact ⟨_, _, rfl, OwnC.nil _ _ _ _ _, hb⟩
        · have hk0' : (k == 0) = false := by simpa using hk0
          have HB2 : Hid (isStitchB k = true) := Lib.hid (by rw [HB.out, decide_eq_false hk0]; rfl)
          clear hk0
          go_wp2_with (fail)
          refine (HC.out _).mono ?_; rintro e _ ⟨rfl, rfl⟩
          go_wp2_with (at_builtin; refine wpList_append1 wr [.int .i64 k] _ rfl (.tmp 25) (.tmp 27) _ rfl 2 i0 _ 1 8 Try.underlying29 hi0 hz0 hz1 hz2 rfl (by decide) rfl ho hzs 1 rfl rfl (by simp [Value.oneCell']) (by omega) (by decide) ?_; intro A2 c2 w2 ho2 hg2 hb2 hz2')
          go_roundw
          case rel =>
            refine ⟨i + 1, A2, c2, out ++ [k], by omega, by go_num, by simp, ?_, hb.trans hb2, Lib.hid (by rw [HK.out, HO.out]), by simp; omega, Lib.hid (by rw [HK.out, List.all_append, HS.out]; simp [HB2.out])⟩
            show OwnC _ _ _ _ _ _ _ _ _
            rw [List.map_append, List.length_append]
            exact ho2
          case measure => simp [intOf]; omega
      · have hall := HS.out
        rw [take_all (by rw [kinds_length]; omega)] at hall
        have hout := HO.out
        rw [take_all (by rw [kinds_length]; omega)] at hout
        have HF : Hid (readOk s = true ∧ readP s = out) := Lib.hid (by
          have e : readOk s = true := by rw [readOk, decide_eq_true h16, hall]; rfl
          exact ⟨e, by rw [readP, if_pos e, hout]⟩)
        clear hall hout
        go_wp2_with (fail)
        go_ret2
        rw [HF.out.1, HF.out.2]
        exact ⟨_, _, rfl, ho, hb⟩
  · have HF : Hid (readOk s = false) := Lib.hid (by rw [readOk, decide_eq_false h16, Bool.false_and])
    go_enter Try.func45, Try.ntmps45
    go_wp2_with (fail)
    go_ret2
    rw [show readP s = [] from by rw [readP, HF.out]; rfl, HF.out]
    exact ⟨_, _, rfl, OwnC.nil _ _ _ _ _, Below.refl _ _⟩

set_option maxHeartbeats 1000000 in
set_option maxRecDepth 10000 in
theorem impl_ReadStitches (s : ByteArray) (w : World) (hl : s.size ≤ 9223372036854775807) :
    Calls Try.prog 46 #[.string s] w fun e w' => ∃ A' c', e = .returned (.tuple #[.slice A' (readP s).length c', .bool (readOk s)]) ∧ OwnI w' w.heap.size w'.heap.size A' c' (readP s) ∧ Below w.heap.size w w' := by
  obtain ⟨i0, hi0, hz0, hz1, hz2⟩ := info_parts info_int64
  by_cases h16 : s.size ≤ 16
  · have HR : Hid (readOk s = stitchesB (kinds s)) := Lib.hid (readOk_stitches)
    go_enter Try.func46, Try.ntmps46
    go_wp2_with (fail)
    go_loopw [4, 12] (fun ov iv wr => ∃ (i : Nat) (A' : Option Addr) (c' : Nat) (out : List Int), i ≤ s.size ∧ iv = .int .i64 i ∧ ov = .slice A' out.length c' ∧ OwnI wr w.heap.size wr.heap.size A' c' out ∧ Below w.heap.size w wr ∧ Hid (out = (kinds s).take i) ∧ out.length ≤ 16) (fun _ iv _ => s.size - (intOf iv).toNat)
    case atStart =>
      exact ⟨0, some ⟨w.heap.size, 0, none⟩, 0, [], Nat.zero_le _, rfl, rfl, (OwnC.lit _ 1 #[] (Nat.le_refl _) (Nat.zero_le _) rfl).mono (Nat.le_refl _) (by simp), by (repeat (first | exact Below.refl _ _ | assumption | apply Below.drew | apply below_drewN | (refine Below.alloc ?_ (by first | omega | (simp; done) | (simp; omega)) _) | (refine Below.setCell ?_ (by first | omega | (simp; done) | (simp; omega)) _))), Lib.hid (by simp), by simp⟩
    case round =>
      obtain ⟨i, A', c', out, hi, rfl, rfl, ho, hb, HO, hol⟩ := hrel
      have hzs := hb.size
      by_cases hlt : i < s.size
      · have hcon : ∀ W, Calls Try.prog 111 #[.string (s.extract i (i + 1))] W fun e w' => e = .returned (.int .i64 (kindB (s.data[i]'hlt))) ∧ W = w' := fun W => by rw [extract_one hlt]; exact impl_KindOf _ _
        have HC := Lib.hid hcon; clear hcon
        have HK := Lib.hid (kinds_snoc hlt)
        generalize kindB (s.data[i]'hlt) = k at HC HK
        have hol2 : out.length + 1 ≤ 16 := by rw [HO.out, List.length_take]; omega
        go_wp2_with (fail)
        refine (HC.out _).mono ?_; rintro e _ ⟨rfl, rfl⟩
        go_wp2_with (at_builtin; refine wpList_append1 wr [.int .i64 k] _ rfl (.tmp 15) (.tmp 22) _ rfl 2 i0 _ 1 8 Try.underlying29 hi0 hz0 hz1 hz2 rfl (by decide) rfl ho hzs 1 rfl rfl (by simp [Value.oneCell']) (by omega) (by decide) ?_; intro A2 c2 w2 ho2 hg2 hb2 hz2')
        go_roundw
        case rel =>
          refine ⟨i + 1, A2, c2, out ++ [k], by omega, by go_num, by simp, ?_, hb.trans hb2, Lib.hid (by rw [HK.out, HO.out]), by simp; omega⟩
          show OwnC _ _ _ _ _ _ _ _ _
          rw [List.map_append, List.length_append]
          exact ho2
        case measure => simp [intOf]; omega
      · have hout := HO.out
        rw [take_all (by rw [kinds_length]; omega)] at hout
        rw [← hout] at HR
        have HOUT := Lib.hid hout; clear hout
        have HAR := Lib.hid (impl_areStitches A' c' out wr ho.ints (by omega))
        cases hst : stitchesB out
        · rw [hst] at HAR HR
          have HF : Hid (readOk s = false ∧ readP s = []) := Lib.hid ⟨HR.out, by rw [readP, HR.out]; rfl⟩
          go_wp2_with (fail)
          refine HAR.out.mono ?_; rintro e _ ⟨rfl, rfl⟩
          go_wp2_with (fail)
          go_ret2
          rw [HF.out.1, HF.out.2]
          exact ⟨_, _, rfl, OwnC.nil _ _ _ _ _, hb⟩
        · rw [hst] at HAR HR
          have HF : Hid (readOk s = true ∧ readP s = out) := Lib.hid ⟨HR.out, by rw [readP, if_pos HR.out, HOUT.out]⟩
          go_wp2_with (fail)
          refine HAR.out.mono ?_; rintro e _ ⟨rfl, rfl⟩
          go_wp2_with (fail)
          go_ret2
          rw [HF.out.1, HF.out.2]
          exact ⟨_, _, rfl, ho, hb⟩
  · have HF : Hid (readOk s = false) := Lib.hid (by rw [readOk, decide_eq_false h16, Bool.false_and])
    go_enter Try.func46, Try.ntmps46
    go_wp2_with (fail)
    go_ret2
    rw [show readP s = [] from by rw [readP, HF.out]; rfl, HF.out]
    exact ⟨_, _, rfl, OwnC.nil _ _ _ _ _, Below.refl _ _⟩

end Go.Proofs.Ytdnchjchgejkeaa
