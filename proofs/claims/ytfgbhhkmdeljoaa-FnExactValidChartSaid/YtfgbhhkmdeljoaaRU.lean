/- RowLetters, the program's side. -/
import Derived.Test.YtfgbhhkmdeljoaaRT
namespace Go.Proofs.Ytfgbhhkmdeljoaa
open Go.RowKit

theorem impl_isLaidOut (d r : Int) (ks : List Int) (A : Option Addr) (c : Nat) (w : World) (h : Ints w A ks) (hs : stitchesB ks = true) :
    Calls Try.prog 87 #[.agg #[.int .i64 d, .int .i64 r, .slice A ks.length c]] w fun e w' => e = .returned (.bool (laidB ks)) ∧ Below w.heap.size w w' := by
  have hl := (stitchesB_of hs).1
  have HP : Hid (takenP ks = takenS ks) := Lib.hid (takenP_of hs)
  have HS := Lib.hid hs; clear hs
  have hb1 : Below w.heap.size w (w.alloc (.cells #[.int .i64 d, .int .i64 r, .slice A ks.length c] 60)) := by (repeat (first | exact Below.refl _ _ | assumption | apply Below.drew | apply below_drewN | (refine Below.alloc ?_ (by first | omega | (simp; done) | (simp; omega)) _) | (refine Below.setCell ?_ (by first | omega | (simp; done) | (simp; omega)) _)))
  cases ht : inR (takenS ks : Int) 1 8
  · have HF : Hid (laidB ks = false) := Lib.hid (by rw [laidB, HP.out, ht, Bool.false_and])
    go_enter Try.func87, Try.ntmps87
    go_wp2_with (fail)
    refine (impl_takenBy _ _ _ _ (h.below hb1) HS.out).mono ?_; rintro e _ ⟨rfl, rfl⟩
    go_wp2_with (go_at_call 69; refine (impl_within _ _ _ _).mono ?_; rintro e _ ⟨rfl, rfl⟩)
    go_ret
    exact ⟨ret_bool HF.out.symm, hb1⟩
  · have HF : Hid (laidB ks = inR (madeP ks) 1 8) := Lib.hid (by rw [laidB, HP.out, ht, Bool.true_and])
    go_enter Try.func87, Try.ntmps87
    go_wp2_with (fail)
    refine (impl_takenBy _ _ _ _ (h.below hb1) HS.out).mono ?_; rintro e _ ⟨rfl, rfl⟩
    go_wp2_with (go_at_call 69; refine (impl_within _ _ _ _).mono ?_; rintro e _ ⟨rfl, rfl⟩)
    refine (impl_MadeBy _ _ _ _ (h.below hb1) (by omega)).mono ?_; rintro e _ ⟨rfl, rfl⟩
    go_wp2_with (go_at_call 69; refine (impl_within _ _ _ _).mono ?_; rintro e _ ⟨rfl, rfl⟩)
    go_ret
    exact ⟨ret_bool HF.out.symm, hb1⟩

set_option maxHeartbeats 4000000 in
set_option maxRecDepth 10000 in
theorem impl_letters (d r : Int) (ks : List Int) (A : Option Addr) (c : Nat) (w : World) (h : Ints w A ks) (hs : stitchesB ks = true) :
    Calls Try.prog 78 #[.agg #[.int .i64 d, .int .i64 r, .slice A ks.length c]] w fun e w' => ∃ A' c', e = .returned (.slice A' (lettersFrom ks 0).length c') ∧ OwnI w' w.heap.size w'.heap.size A' c' (lettersFrom ks 0) ∧ Below w.heap.size w w' := by
  obtain ⟨i0, hi0, hz0, hz1, hz2⟩ := info_parts info_int64
  obtain ⟨hl, hst⟩ := stitchesB_of hs
  have hts := (sums_le hst).1
  have HST := Lib.hid hst; clear hst
  have o00 : OwnC ((w.alloc (.cells #[.int .i64 d, .int .i64 r, .slice A ks.length c] 60)).alloc (.cells #[] 2)) w.heap.size (w.heap.size + 2) 2 1 (some ⟨w.heap.size + 1, 0, none⟩) 0 0 [] := by
    have := OwnC.lit (w := w.alloc (.cells #[.int .i64 d, .int .i64 r, .slice A ks.length c] 60)) (lo := w.heap.size) (n := 0) 2 1 #[] (by simp) (Nat.zero_le _) rfl
    simpa using this
  have O00 := Lib.hid o00; clear o00
  go_enter Try.func78, Try.ntmps78
  go_wp2_with (fail)
  go_loopw [3, 4, 11] (fun ov tv iv wr => ∃ (i t : Nat) (A' : Option Addr) (c' : Nat) (out : List Int), i ≤ ks.length ∧ iv = .int .i64 i ∧ tv = .int .i64 t ∧ ov = .slice A' out.length c' ∧ OwnI wr w.heap.size wr.heap.size A' c' out ∧ Below w.heap.size w wr ∧ Hid (takenS (ks.take i) = t) ∧ Hid (lettersFrom ks 0 = out ++ lettersFrom (ks.drop i) t) ∧ out.length ≤ 4 * i) (fun _ _ iv _ => ks.length - (intOf iv).toNat)
  case atStart =>
    exact ⟨0, 0, some ⟨w.heap.size + 1, 0, none⟩, 0, [], Nat.zero_le _, rfl, rfl, rfl, O00.out.mono (Nat.le_refl _) (by simp), by (repeat (first | exact Below.refl _ _ | assumption | apply Below.drew | apply below_drewN | (refine Below.alloc ?_ (by first | omega | (simp; done) | (simp; omega)) _) | (refine Below.setCell ?_ (by first | omega | (simp; done) | (simp; omega)) _))), Lib.hid rfl, Lib.hid (by simp), by simp⟩
  case round =>
    clear O00
    obtain ⟨i, t, A', c', out, hi, rfl, rfl, rfl, ho, hb, HT, HA, hol⟩ := hrel
    have hzs := hb.size
    by_cases hlt : i < ks.length
    · obtain ⟨b, off, k, rfl, hc, hk⟩ := h i hlt
      replace hc := cells_below hb _ _ hc
      have hq := HST.out k (List.mem_of_getElem? hk)
      have hle : t + takenN k ≤ 64 := by have := takenS_at hk; rw [HT.out] at this; omega
      have HT2 : Hid (takenS (ks.take (i + 1)) = t + takenN k) := Lib.hid (by rw [takenS_snoc hk, HT.out])
      have HA2 : Hid (lettersFrom ks 0 = (out ++ stLetters k t) ++ lettersFrom (ks.drop (i + 1)) ((t + takenN k : Nat) : Int)) := Lib.hid (by rw [HA.out, lettersFrom_drop hk, List.append_assoc]; push_cast; rfl)
      have HB : Hid (takenB k = takenN k) := Lib.hid (takenB_of hq)
      clear hk HT HA
      rcases stitch_cases hq with rfl | rfl | rfl | rfl | rfl | rfl | rfl | rfl | rfl | rfl | rfl
      · go_wp2_with (fail)
        refine (impl_ColumnsTaken _ _).mono ?_; rintro e _ ⟨rfl, rfl⟩
        rw [HB.out]
        go_wp2_with (fail)
        refine ⟨⟨i + 1, t + takenN 1, A', c', out, by omega, by go_num, by push_cast; go_num, rfl, ho, hb, HT2, Lib.hid (by rw [HA2.out]; simp [stLetters]), by omega⟩, by simp [intOf]; omega⟩
      · go_wp2_with (fail)
        refine (impl_ColumnsTaken _ _).mono ?_; rintro e _ ⟨rfl, rfl⟩
        rw [HB.out]
        go_wp2_with (fail)
        refine ⟨⟨i + 1, t + takenN 2, A', c', out, by omega, by go_num, by push_cast; go_num, rfl, ho, hb, HT2, Lib.hid (by rw [HA2.out]; simp [stLetters]), by omega⟩, by simp [intOf]; omega⟩
      · go_wp2_with (fail)
        refine (impl_ColumnsTaken _ _).mono ?_; rintro e _ ⟨rfl, rfl⟩
        rw [HB.out]
        go_wp2_with (fail)
        refine ⟨⟨i + 1, t + takenN 3, A', c', out, by omega, by go_num, by push_cast; go_num, rfl, ho, hb, HT2, Lib.hid (by rw [HA2.out]; simp [stLetters]), by omega⟩, by simp [intOf]; omega⟩
      · go_wp2_with (fail)
        refine (impl_ColumnsTaken _ _).mono ?_; rintro e _ ⟨rfl, rfl⟩
        rw [HB.out]
        go_wp2_with (fail)
        refine ⟨⟨i + 1, t + takenN 4, A', c', out, by omega, by go_num, by push_cast; go_num, rfl, ho, hb, HT2, Lib.hid (by rw [HA2.out]; simp [stLetters]), by omega⟩, by simp [intOf]; omega⟩
      · have hle2 : t ≤ 64 := by omega
        have o2 := OwnC.lit (w := wr) (lo := wr.heap.size) (n := 1) 2 1 #[.int .i64 (-(t : Int) - 1)] (Nat.le_refl _) (by unfold maxLen; omega) rfl
        have O2 := Lib.hid o2; clear o2
        have ho2 := ho.alloc (.cells #[.int .i64 (-(t : Int) - 1)] 2)
        go_wp2_with (at_builtin; refine wpList_appendC (wr.alloc (.cells #[.int .i64 (-(t : Int) - 1)] 2)) rfl (.tmp 26) (.tmp 30) _ rfl 2 i0 _ 1 8 Try.underlying33 hi0 hz0 hz1 hz2 rfl (by decide) rfl ho2 (by simp; omega) (some ⟨wr.heap.size, 0, none⟩) 1 1 [.int .i64 (-(t : Int) - 1)] rfl rfl O2.out.news (by simp [Value.oneCell']) (by unfold maxLen; omega) (by omega) ?_; intro A5 c5 w5 ho5 hg5 hb5)
        have hb6 : Below w.heap.size w w5 := Below.trans (by (repeat (first | exact Below.refl _ _ | assumption | apply Below.drew | apply below_drewN | (refine Below.alloc ?_ (by first | omega | (simp; done) | (simp; omega)) _) | (refine Below.setCell ?_ (by first | omega | (simp; done) | (simp; omega)) _)))) hb5
        refine (impl_ColumnsTaken _ _).mono ?_; rintro e _ ⟨rfl, rfl⟩
        rw [HB.out]
        go_wp2_with (fail)
        refine ⟨⟨i + 1, t + takenN 5, A5, c5, out ++ [-(t : Int) - 1], by omega, by go_num, by push_cast; go_num, by simp, by show OwnC _ _ _ _ _ _ _ _ _; rw [List.map_append, List.length_append]; exact ho5, hb6, HT2, HA2, by simp; omega⟩, by simp [intOf]; omega⟩
      · go_wp2_with (fail)
        refine (impl_ColumnsTaken _ _).mono ?_; rintro e _ ⟨rfl, rfl⟩
        rw [HB.out]
        go_wp2_with (fail)
        refine ⟨⟨i + 1, t + takenN 6, A', c', out, by omega, by go_num, by push_cast; go_num, rfl, ho, hb, HT2, Lib.hid (by rw [HA2.out]; simp [stLetters]), by omega⟩, by simp [intOf]; omega⟩
      · go_wp2_with (fail)
        refine (impl_ColumnsTaken _ _).mono ?_; rintro e _ ⟨rfl, rfl⟩
        rw [HB.out]
        go_wp2_with (fail)
        refine ⟨⟨i + 1, t + takenN 7, A', c', out, by omega, by go_num, by push_cast; go_num, rfl, ho, hb, HT2, Lib.hid (by rw [HA2.out]; simp [stLetters]), by omega⟩, by simp [intOf]; omega⟩
      · have hle2 : t ≤ 64 := by omega
        have o2 := OwnC.lit (w := wr) (lo := wr.heap.size) (n := 1) 2 1 #[.int .i64 ((t : Int) + 1)] (Nat.le_refl _) (by unfold maxLen; omega) rfl
        have O2 := Lib.hid o2; clear o2
        have ho2 := ho.alloc (.cells #[.int .i64 ((t : Int) + 1)] 2)
        go_wp2_with (at_builtin; refine wpList_appendC (wr.alloc (.cells #[.int .i64 ((t : Int) + 1)] 2)) rfl (.tmp 18) (.tmp 21) _ rfl 2 i0 _ 1 8 Try.underlying33 hi0 hz0 hz1 hz2 rfl (by decide) rfl ho2 (by simp; omega) (some ⟨wr.heap.size, 0, none⟩) 1 1 [.int .i64 ((t : Int) + 1)] rfl rfl O2.out.news (by simp [Value.oneCell']) (by unfold maxLen; omega) (by omega) ?_; intro A5 c5 w5 ho5 hg5 hb5)
        have hb6 : Below w.heap.size w w5 := Below.trans (by (repeat (first | exact Below.refl _ _ | assumption | apply Below.drew | apply below_drewN | (refine Below.alloc ?_ (by first | omega | (simp; done) | (simp; omega)) _) | (refine Below.setCell ?_ (by first | omega | (simp; done) | (simp; omega)) _)))) hb5
        refine (impl_ColumnsTaken _ _).mono ?_; rintro e _ ⟨rfl, rfl⟩
        rw [HB.out]
        go_wp2_with (fail)
        refine ⟨⟨i + 1, t + takenN 8, A5, c5, out ++ [(t : Int) + 1], by omega, by go_num, by push_cast; go_num, by simp, by show OwnC _ _ _ _ _ _ _ _ _; rw [List.map_append, List.length_append]; exact ho5, hb6, HT2, HA2, by simp; omega⟩, by simp [intOf]; omega⟩
      · have hle2 : t ≤ 64 := by omega
        have o2 := OwnC.lit (w := wr) (lo := wr.heap.size) (n := 1) 2 1 #[.int .i64 (-(t : Int) - 1)] (Nat.le_refl _) (by unfold maxLen; omega) rfl
        have O2 := Lib.hid o2; clear o2
        have ho2 := ho.alloc (.cells #[.int .i64 (-(t : Int) - 1)] 2)
        go_wp2_with (at_builtin; refine wpList_appendC (wr.alloc (.cells #[.int .i64 (-(t : Int) - 1)] 2)) rfl (.tmp 26) (.tmp 30) _ rfl 2 i0 _ 1 8 Try.underlying33 hi0 hz0 hz1 hz2 rfl (by decide) rfl ho2 (by simp; omega) (some ⟨wr.heap.size, 0, none⟩) 1 1 [.int .i64 (-(t : Int) - 1)] rfl rfl O2.out.news (by simp [Value.oneCell']) (by unfold maxLen; omega) (by omega) ?_; intro A5 c5 w5 ho5 hg5 hb5)
        have hb6 : Below w.heap.size w w5 := Below.trans (by (repeat (first | exact Below.refl _ _ | assumption | apply Below.drew | apply below_drewN | (refine Below.alloc ?_ (by first | omega | (simp; done) | (simp; omega)) _) | (refine Below.setCell ?_ (by first | omega | (simp; done) | (simp; omega)) _)))) hb5
        refine (impl_ColumnsTaken _ _).mono ?_; rintro e _ ⟨rfl, rfl⟩
        rw [HB.out]
        go_wp2_with (fail)
        refine ⟨⟨i + 1, t + takenN 9, A5, c5, out ++ [-(t : Int) - 1], by omega, by go_num, by push_cast; go_num, by simp, by show OwnC _ _ _ _ _ _ _ _ _; rw [List.map_append, List.length_append]; exact ho5, hb6, HT2, HA2, by simp; omega⟩, by simp [intOf]; omega⟩
      · have hle2 : t ≤ 64 := by omega
        have o2 := OwnC.lit (w := wr) (lo := wr.heap.size) (n := 4) 2 1 #[.int .i64 ((t : Int) + 2), .int .i64 ((t : Int) + 1), .int .i64 ((t : Int) + 3), .int .i64 ((t : Int) + 2)] (Nat.le_refl _) (by unfold maxLen; omega) rfl
        have O2 := Lib.hid o2; clear o2
        have ho2 := ho.alloc (.cells #[.int .i64 ((t : Int) + 2), .int .i64 ((t : Int) + 1), .int .i64 ((t : Int) + 3), .int .i64 ((t : Int) + 2)] 2)
        go_wp2_with (at_builtin; refine wpList_appendC (wr.alloc (.cells #[.int .i64 ((t : Int) + 2), .int .i64 ((t : Int) + 1), .int .i64 ((t : Int) + 3), .int .i64 ((t : Int) + 2)] 2)) rfl (.tmp 34) (.tmp 43) _ rfl 2 i0 _ 1 8 Try.underlying33 hi0 hz0 hz1 hz2 rfl (by decide) rfl ho2 (by simp; omega) (some ⟨wr.heap.size, 0, none⟩) 4 4 [.int .i64 ((t : Int) + 2), .int .i64 ((t : Int) + 1), .int .i64 ((t : Int) + 3), .int .i64 ((t : Int) + 2)] rfl rfl O2.out.news (by simp [Value.oneCell']) (by unfold maxLen; omega) (by omega) ?_; intro A5 c5 w5 ho5 hg5 hb5)
        have hb6 : Below w.heap.size w w5 := Below.trans (by (repeat (first | exact Below.refl _ _ | assumption | apply Below.drew | apply below_drewN | (refine Below.alloc ?_ (by first | omega | (simp; done) | (simp; omega)) _) | (refine Below.setCell ?_ (by first | omega | (simp; done) | (simp; omega)) _)))) hb5
        refine (impl_ColumnsTaken _ _).mono ?_; rintro e _ ⟨rfl, rfl⟩
        rw [HB.out]
        go_wp2_with (fail)
        refine ⟨⟨i + 1, t + takenN 10, A5, c5, out ++ [(t : Int) + 2, (t : Int) + 1, (t : Int) + 3, (t : Int) + 2], by omega, by go_num, by push_cast; go_num, by simp, by show OwnC _ _ _ _ _ _ _ _ _; rw [List.map_append, List.length_append]; exact ho5, hb6, HT2, HA2, by simp; omega⟩, by simp [intOf]; omega⟩
      · have hle2 : t ≤ 64 := by omega
        have o2 := OwnC.lit (w := wr) (lo := wr.heap.size) (n := 4) 2 1 #[.int .i64 (-(t : Int) - 2), .int .i64 (-(t : Int) - 1), .int .i64 (-(t : Int) - 3), .int .i64 (-(t : Int) - 2)] (Nat.le_refl _) (by unfold maxLen; omega) rfl
        have O2 := Lib.hid o2; clear o2
        have ho2 := ho.alloc (.cells #[.int .i64 (-(t : Int) - 2), .int .i64 (-(t : Int) - 1), .int .i64 (-(t : Int) - 3), .int .i64 (-(t : Int) - 2)] 2)
        go_wp2_with (at_builtin; refine wpList_appendC (wr.alloc (.cells #[.int .i64 (-(t : Int) - 2), .int .i64 (-(t : Int) - 1), .int .i64 (-(t : Int) - 3), .int .i64 (-(t : Int) - 2)] 2)) rfl (.tmp 47) (.tmp 60) _ rfl 2 i0 _ 1 8 Try.underlying33 hi0 hz0 hz1 hz2 rfl (by decide) rfl ho2 (by simp; omega) (some ⟨wr.heap.size, 0, none⟩) 4 4 [.int .i64 (-(t : Int) - 2), .int .i64 (-(t : Int) - 1), .int .i64 (-(t : Int) - 3), .int .i64 (-(t : Int) - 2)] rfl rfl O2.out.news (by simp [Value.oneCell']) (by unfold maxLen; omega) (by omega) ?_; intro A5 c5 w5 ho5 hg5 hb5)
        have hb6 : Below w.heap.size w w5 := Below.trans (by (repeat (first | exact Below.refl _ _ | assumption | apply Below.drew | apply below_drewN | (refine Below.alloc ?_ (by first | omega | (simp; done) | (simp; omega)) _) | (refine Below.setCell ?_ (by first | omega | (simp; done) | (simp; omega)) _)))) hb5
        refine (impl_ColumnsTaken _ _).mono ?_; rintro e _ ⟨rfl, rfl⟩
        rw [HB.out]
        go_wp2_with (fail)
        refine ⟨⟨i + 1, t + takenN 11, A5, c5, out ++ [-(t : Int) - 2, -(t : Int) - 1, -(t : Int) - 3, -(t : Int) - 2], by omega, by go_num, by push_cast; go_num, by simp, by show OwnC _ _ _ _ _ _ _ _ _; rw [List.map_append, List.length_append]; exact ho5, hb6, HT2, HA2, by simp; omega⟩, by simp [intOf]; omega⟩
    · go_wp2_with (fail)
      go_ret
      have he := HA.out
      rw [drop_all (by omega), lettersFrom, List.append_nil] at he
      rw [he]
      exact ⟨_, _, rfl, ho, hb⟩


end Go.Proofs.Ytfgbhhkmdeljoaa
