/- Steps of the proof, joined from several texts: RU RO ROt MC. -/
import Derived.Test.YtnjgmhdmjaijgaaGreatZ6
import Derived.Test.YtnjgmhdmjaijgaaGreatZ3

/- RowLetters, the program's side. -/
namespace Go.Proofs.YtnjgmhdmjaijgaaGreat
open Go.RowKit

theorem impl_isLaidOut (d r : Int) (ks : List Int) (A : Option Addr) (c : Nat) (w : World) (h : Ints w A ks) (hs : stitchesB ks = true) :
    Calls Tryz.prog 96 #[.agg #[.int .i64 d, .int .i64 r, .slice A ks.length c]] w fun e w' => e = .returned (.bool (laidB ks)) ∧ Below w.heap.size w w' := by
  have hl := (stitchesB_of hs).1
  have HP : Hid (takenP ks = takenS ks) := Lib.hid (takenP_of hs)
  have HS := Lib.hid hs; clear hs
  have hb1 : Below w.heap.size w (w.alloc (.cells #[.int .i64 d, .int .i64 r, .slice A ks.length c] 50)) := by (repeat (first | exact Below.refl _ _ | assumption | apply Below.drew | apply below_drewN | (refine Below.alloc ?_ (by first | omega | (simp; done) | (simp; omega)) _) | (refine Below.setCell ?_ (by first | omega | (simp; done) | (simp; omega)) _)))
  cases ht : inR (takenS ks : Int) 1 8
  · have HF : Hid (laidB ks = false) := Lib.hid (by rw [laidB, HP.out, ht, Bool.false_and])
    go_enter Tryz.func96, Tryz.ntmps96
    go_wp2_with (fail)
    refine (impl_takenBy _ _ _ _ (h.below hb1) HS.out).mono ?_; rintro e _ ⟨rfl, rfl⟩
    go_wp2_with (go_at_call 50; refine (impl_within _ _ _ _).mono ?_; rintro e _ ⟨rfl, rfl⟩)
    go_ret
    exact ⟨ret_bool HF.out.symm, hb1⟩
  · have HF : Hid (laidB ks = inR (madeP ks) 1 8) := Lib.hid (by rw [laidB, HP.out, ht, Bool.true_and])
    go_enter Tryz.func96, Tryz.ntmps96
    go_wp2_with (fail)
    refine (impl_takenBy _ _ _ _ (h.below hb1) HS.out).mono ?_; rintro e _ ⟨rfl, rfl⟩
    go_wp2_with (go_at_call 50; refine (impl_within _ _ _ _).mono ?_; rintro e _ ⟨rfl, rfl⟩)
    refine (impl_MadeBy _ _ _ _ (h.below hb1) (by omega)).mono ?_; rintro e _ ⟨rfl, rfl⟩
    go_wp2_with (go_at_call 50; refine (impl_within _ _ _ _).mono ?_; rintro e _ ⟨rfl, rfl⟩)
    go_ret
    exact ⟨ret_bool HF.out.symm, hb1⟩

theorem impl_rowCode (d r : Int) (ks : List Int) (A : Option Addr) (c : Nat) (w : World) (h : Ints w A ks) (hl : ks.length ≤ 9223372036854775807) :
    Calls Tryz.prog 58 #[.agg #[.int .i64 d, .int .i64 r, .slice A ks.length c]] w fun e w' => e = .returned (.int .i64 (rowCodeP d r ks)) ∧ Below w.heap.size w w' := by
  have hb1 : Below w.heap.size w (w.alloc (.cells #[.int .i64 d, .int .i64 r, .slice A ks.length c] 50)) := by (repeat (first | exact Below.refl _ _ | assumption | apply Below.drew | apply below_drewN | (refine Below.alloc ?_ (by first | omega | (simp; done) | (simp; omega)) _) | (refine Below.setCell ?_ (by first | omega | (simp; done) | (simp; omega)) _)))
  have k0 := Blk.new w 50 #[.int .i64 d, .int .i64 r, .slice A ks.length c]
  cases hv : rowB d r ks
  · have HF : Hid (rowCodeP d r ks = 1) := Lib.hid (by simp [rowCodeP, hv])
    go_enter Tryz.func58, Tryz.ntmps58
    go_wp2_with (fail)
    refine (impl_ValidRow d r A c ks _ (h.below hb1) hl).mono ?_; rintro e w2 ⟨rfl, b2⟩
    have hb2 : Below w.heap.size w w2 := hb1.trans (b2.mono (by simp))
    go_wp2_with (fail)
    go_ret
    exact ⟨ret_int HF.out.symm, hb2⟩
  · have HS := Lib.hid (row_stitches hv)
    cases hm : laidB ks
    · have HF : Hid (rowCodeP d r ks = 10) := Lib.hid (by simp [rowCodeP, hv, hm])
      go_enter Tryz.func58, Tryz.ntmps58
      go_wp2_with (fail)
      refine (impl_ValidRow d r A c ks _ (h.below hb1) hl).mono ?_; rintro e w2 ⟨rfl, b2⟩
      have hb2 : Below w.heap.size w w2 := hb1.trans (b2.mono (by simp))
      have k2 : Blk w2 w.heap.size 50 #[.int .i64 d, .int .i64 r, .slice A ks.length c] := k0.below b2 (by simp)
      obtain ⟨q0, q1, q2⟩ := k2.c3
      go_wp2_with (fail)
      refine (impl_isLaidOut d r ks A c _ (h.below hb2) HS.out).mono ?_; rintro e w3 ⟨rfl, b3⟩
      have hb3 : Below w.heap.size w w3 := hb2.trans (b3.mono hb2.size)
      go_wp2_with (fail)
      go_ret
      exact ⟨ret_int HF.out.symm, hb3⟩
    · have HF : Hid (rowCodeP d r ks = 0) := Lib.hid (by simp [rowCodeP, hv, hm])
      go_enter Tryz.func58, Tryz.ntmps58
      go_wp2_with (fail)
      refine (impl_ValidRow d r A c ks _ (h.below hb1) hl).mono ?_; rintro e w2 ⟨rfl, b2⟩
      have hb2 : Below w.heap.size w w2 := hb1.trans (b2.mono (by simp))
      have k2 : Blk w2 w.heap.size 50 #[.int .i64 d, .int .i64 r, .slice A ks.length c] := k0.below b2 (by simp)
      obtain ⟨q0, q1, q2⟩ := k2.c3
      go_wp2_with (fail)
      refine (impl_isLaidOut d r ks A c _ (h.below hb2) HS.out).mono ?_; rintro e w3 ⟨rfl, b3⟩
      have hb3 : Below w.heap.size w w3 := hb2.trans (b3.mono hb2.size)
      go_wp2_with (fail)
      go_ret
      exact ⟨ret_int HF.out.symm, hb3⟩

set_option maxHeartbeats 4000000 in
set_option maxRecDepth 10000 in
theorem impl_letters (d r : Int) (ks : List Int) (A : Option Addr) (c : Nat) (w : World) (h : Ints w A ks) (hs : stitchesB ks = true) :
    Calls Tryz.prog 44 #[.agg #[.int .i64 d, .int .i64 r, .slice A ks.length c]] w fun e w' => ∃ A' c', e = .returned (.slice A' (lettersFrom ks 0).length c') ∧ OwnI w' w.heap.size w'.heap.size A' c' (lettersFrom ks 0) ∧ Below w.heap.size w w' := by
  obtain ⟨i0, hi0, hz0, hz1, hz2⟩ := info_parts info_int64
  obtain ⟨hl, hst⟩ := stitchesB_of hs
  have hts := (sums_le hst).1
  have HST := Lib.hid hst; clear hst
  have o00 : OwnC ((w.alloc (.cells #[.int .i64 d, .int .i64 r, .slice A ks.length c] 50)).alloc (.cells #[] 2)) w.heap.size (w.heap.size + 2) 2 1 (some ⟨w.heap.size + 1, 0, none⟩) 0 0 [] := by
    have := OwnC.lit (w := w.alloc (.cells #[.int .i64 d, .int .i64 r, .slice A ks.length c] 50)) (lo := w.heap.size) (n := 0) 2 1 #[] (by simp) (Nat.zero_le _) rfl
    simpa using this
  have O00 := Lib.hid o00; clear o00
  go_enter Tryz.func44, Tryz.ntmps44
  go_wp2_with (fail)
  go_loopw [3, 4, 11] (fun ov tv iv wr => ∃ (i t : Nat) (A' : Option Addr) (c' : Nat) (out : List Int), i ≤ ks.length ∧ iv = .int .i64 i ∧ tv = .int .i64 t ∧ ov = .slice A' out.length c' ∧ OwnI wr w.heap.size wr.heap.size A' c' out ∧ Below w.heap.size w wr ∧ Hid (takenS (ks.take i) = t) ∧ Hid (lettersFrom ks 0 = out ++ lettersFrom (ks.drop i) t) ∧ out.length ≤ 4 * i) (fun _ _ iv _ => ks.length - (intOf iv).toNat)
  case atStart =>
    exact ⟨0, 0, some ⟨w.heap.size + 1, 0, none⟩, 0, [], Nat.zero_le _, rfl, rfl, rfl, O00.out.mono (Nat.le_refl _) (by simp), by (repeat (first | exact Below.refl _ _ | assumption | apply Below.drew | apply below_drewN | (refine Below.alloc ?_ (by first | omega | (simp; done) | (simp; omega)) _) | (refine Below.setCell ?_ (by first | omega | (simp; done) | (simp; omega)) _))), Lib.hid rfl, Lib.hid (by simp), by simp⟩
  case round =>
    clear O00
    obtain ⟨i, t, A', c', out, hi, rfl, rfl, rfl, ho, hb, HT, HA, hol⟩ := hrel
    have hzs := hb.size
    by_cases hlt : i < ks.length
    · obtain ⟨b, off, k, rfl, hc, hk⟩ := h i hlt
      replace hc := cells_below hb _ _ hc
      have hq := HST.out k (List.mem_of_getElem? hk)
      have hle : t + takenN k ≤ 64 := by have := takenS_at hk; rw [HT.out] at this; omega
      have HT2 : Hid (takenS (ks.take (i + 1)) = t + takenN k) := Lib.hid (by rw [takenS_snoc hk, HT.out])
      have HA2 : Hid (lettersFrom ks 0 = (out ++ stLetters k t) ++ lettersFrom (ks.drop (i + 1)) ((t + takenN k : Nat) : Int)) := Lib.hid (by rw [HA.out, lettersFrom_drop hk, List.append_assoc]; push_cast; rfl)
      have HB : Hid (takenB k = takenN k) := Lib.hid (takenB_of hq)
      clear hk HT HA
      rcases stitch_cases hq with rfl | rfl | rfl | rfl | rfl | rfl | rfl | rfl | rfl | rfl | rfl
      · go_wp2_with (fail)
        refine (impl_ColumnsTaken _ _).mono ?_; rintro e _ ⟨rfl, rfl⟩
        rw [HB.out]
        go_wp2_with (fail)
        refine ⟨⟨i + 1, t + takenN 1, A', c', out, by omega, by go_num, by push_cast; go_num, rfl, ho, hb, HT2, Lib.hid (by rw [HA2.out]; simp [stLetters]), by omega⟩, by simp [intOf]; omega⟩
      · go_wp2_with (fail)
        refine (impl_ColumnsTaken _ _).mono ?_; rintro e _ ⟨rfl, rfl⟩
        rw [HB.out]
        go_wp2_with (fail)
        refine ⟨⟨i + 1, t + takenN 2, A', c', out, by omega, by go_num, by push_cast; go_num, rfl, ho, hb, HT2, Lib.hid (by rw [HA2.out]; simp [stLetters]), by omega⟩, by simp [intOf]; omega⟩
      · go_wp2_with (fail)
        refine (impl_ColumnsTaken _ _).mono ?_; rintro e _ ⟨rfl, rfl⟩
        rw [HB.out]
        go_wp2_with (fail)
        refine ⟨⟨i + 1, t + takenN 3, A', c', out, by omega, by go_num, by push_cast; go_num, rfl, ho, hb, HT2, Lib.hid (by rw [HA2.out]; simp [stLetters]), by omega⟩, by simp [intOf]; omega⟩
      · go_wp2_with (fail)
        refine (impl_ColumnsTaken _ _).mono ?_; rintro e _ ⟨rfl, rfl⟩
        rw [HB.out]
        go_wp2_with (fail)
        refine ⟨⟨i + 1, t + takenN 4, A', c', out, by omega, by go_num, by push_cast; go_num, rfl, ho, hb, HT2, Lib.hid (by rw [HA2.out]; simp [stLetters]), by omega⟩, by simp [intOf]; omega⟩
      · have hle2 : t ≤ 64 := by omega
        have o2 := OwnC.lit (w := wr) (lo := wr.heap.size) (n := 1) 2 1 #[.int .i64 (-(t : Int) - 1)] (Nat.le_refl _) (by unfold maxLen; omega) rfl
        have O2 := Lib.hid o2; clear o2
        have ho2 := ho.alloc (.cells #[.int .i64 (-(t : Int) - 1)] 2)
        go_wp2_with (at_builtin; refine wpList_appendC (wr.alloc (.cells #[.int .i64 (-(t : Int) - 1)] 2)) rfl (.tmp 26) (.tmp 30) _ rfl 2 i0 _ 1 8 Tryz.underlying36 hi0 hz0 hz1 hz2 rfl (by decide) rfl ho2 (by simp; omega) (some ⟨wr.heap.size, 0, none⟩) 1 1 [.int .i64 (-(t : Int) - 1)] rfl rfl O2.out.news (by simp [Value.oneCell']) (by unfold maxLen; omega) (by omega) ?_; intro A5 c5 w5 ho5 hg5 hb5)
        have hb6 : Below w.heap.size w w5 := Below.trans (by (repeat (first | exact Below.refl _ _ | assumption | apply Below.drew | apply below_drewN | (refine Below.alloc ?_ (by first | omega | (simp; done) | (simp; omega)) _) | (refine Below.setCell ?_ (by first | omega | (simp; done) | (simp; omega)) _)))) hb5
        refine (impl_ColumnsTaken _ _).mono ?_; rintro e _ ⟨rfl, rfl⟩
        rw [HB.out]
        go_wp2_with (fail)
        refine ⟨⟨i + 1, t + takenN 5, A5, c5, out ++ [-(t : Int) - 1], by omega, by go_num, by push_cast; go_num, by simp, by show OwnC _ _ _ _ _ _ _ _ _; rw [List.map_append, List.length_append]; exact ho5, hb6, HT2, HA2, by simp; omega⟩, by simp [intOf]; omega⟩
      · go_wp2_with (fail)
        refine (impl_ColumnsTaken _ _).mono ?_; rintro e _ ⟨rfl, rfl⟩
        rw [HB.out]
        go_wp2_with (fail)
        refine ⟨⟨i + 1, t + takenN 6, A', c', out, by omega, by go_num, by push_cast; go_num, rfl, ho, hb, HT2, Lib.hid (by rw [HA2.out]; simp [stLetters]), by omega⟩, by simp [intOf]; omega⟩
      · go_wp2_with (fail)
        refine (impl_ColumnsTaken _ _).mono ?_; rintro e _ ⟨rfl, rfl⟩
        rw [HB.out]
        go_wp2_with (fail)
        refine ⟨⟨i + 1, t + takenN 7, A', c', out, by omega, by go_num, by push_cast; go_num, rfl, ho, hb, HT2, Lib.hid (by rw [HA2.out]; simp [stLetters]), by omega⟩, by simp [intOf]; omega⟩
      · have hle2 : t ≤ 64 := by omega
        have o2 := OwnC.lit (w := wr) (lo := wr.heap.size) (n := 1) 2 1 #[.int .i64 ((t : Int) + 1)] (Nat.le_refl _) (by unfold maxLen; omega) rfl
        have O2 := Lib.hid o2; clear o2
        have ho2 := ho.alloc (.cells #[.int .i64 ((t : Int) + 1)] 2)
        go_wp2_with (at_builtin; refine wpList_appendC (wr.alloc (.cells #[.int .i64 ((t : Int) + 1)] 2)) rfl (.tmp 18) (.tmp 21) _ rfl 2 i0 _ 1 8 Tryz.underlying36 hi0 hz0 hz1 hz2 rfl (by decide) rfl ho2 (by simp; omega) (some ⟨wr.heap.size, 0, none⟩) 1 1 [.int .i64 ((t : Int) + 1)] rfl rfl O2.out.news (by simp [Value.oneCell']) (by unfold maxLen; omega) (by omega) ?_; intro A5 c5 w5 ho5 hg5 hb5)
        have hb6 : Below w.heap.size w w5 := Below.trans (by (repeat (first | exact Below.refl _ _ | assumption | apply Below.drew | apply below_drewN | (refine Below.alloc ?_ (by first | omega | (simp; done) | (simp; omega)) _) | (refine Below.setCell ?_ (by first | omega | (simp; done) | (simp; omega)) _)))) hb5
        refine (impl_ColumnsTaken _ _).mono ?_; rintro e _ ⟨rfl, rfl⟩
        rw [HB.out]
        go_wp2_with (fail)
        refine ⟨⟨i + 1, t + takenN 8, A5, c5, out ++ [(t : Int) + 1], by omega, by go_num, by push_cast; go_num, by simp, by show OwnC _ _ _ _ _ _ _ _ _; rw [List.map_append, List.length_append]; exact ho5, hb6, HT2, HA2, by simp; omega⟩, by simp [intOf]; omega⟩
      · have hle2 : t ≤ 64 := by omega
        have o2 := OwnC.lit (w := wr) (lo := wr.heap.size) (n := 1) 2 1 #[.int .i64 (-(t : Int) - 1)] (Nat.le_refl _) (by unfold maxLen; omega) rfl
        have O2 := Lib.hid o2; clear o2
        have ho2 := ho.alloc (.cells #[.int .i64 (-(t : Int) - 1)] 2)
        go_wp2_with (at_builtin; refine wpList_appendC (wr.alloc (.cells #[.int .i64 (-(t : Int) - 1)] 2)) rfl (.tmp 26) (.tmp 30) _ rfl 2 i0 _ 1 8 Tryz.underlying36 hi0 hz0 hz1 hz2 rfl (by decide) rfl ho2 (by simp; omega) (some ⟨wr.heap.size, 0, none⟩) 1 1 [.int .i64 (-(t : Int) - 1)] rfl rfl O2.out.news (by simp [Value.oneCell']) (by unfold maxLen; omega) (by omega) ?_; intro A5 c5 w5 ho5 hg5 hb5)
        have hb6 : Below w.heap.size w w5 := Below.trans (by (repeat (first | exact Below.refl _ _ | assumption | apply Below.drew | apply below_drewN | (refine Below.alloc ?_ (by first | omega | (simp; done) | (simp; omega)) _) | (refine Below.setCell ?_ (by first | omega | (simp; done) | (simp; omega)) _)))) hb5
        refine (impl_ColumnsTaken _ _).mono ?_; rintro e _ ⟨rfl, rfl⟩
        rw [HB.out]
        go_wp2_with (fail)
        refine ⟨⟨i + 1, t + takenN 9, A5, c5, out ++ [-(t : Int) - 1], by omega, by go_num, by push_cast; go_num, by simp, by show OwnC _ _ _ _ _ _ _ _ _; rw [List.map_append, List.length_append]; exact ho5, hb6, HT2, HA2, by simp; omega⟩, by simp [intOf]; omega⟩
      · have hle2 : t ≤ 64 := by omega
        have o2 := OwnC.lit (w := wr) (lo := wr.heap.size) (n := 4) 2 1 #[.int .i64 ((t : Int) + 2), .int .i64 ((t : Int) + 1), .int .i64 ((t : Int) + 3), .int .i64 ((t : Int) + 2)] (Nat.le_refl _) (by unfold maxLen; omega) rfl
        have O2 := Lib.hid o2; clear o2
        have ho2 := ho.alloc (.cells #[.int .i64 ((t : Int) + 2), .int .i64 ((t : Int) + 1), .int .i64 ((t : Int) + 3), .int .i64 ((t : Int) + 2)] 2)
        go_wp2_with (at_builtin; refine wpList_appendC (wr.alloc (.cells #[.int .i64 ((t : Int) + 2), .int .i64 ((t : Int) + 1), .int .i64 ((t : Int) + 3), .int .i64 ((t : Int) + 2)] 2)) rfl (.tmp 34) (.tmp 43) _ rfl 2 i0 _ 1 8 Tryz.underlying36 hi0 hz0 hz1 hz2 rfl (by decide) rfl ho2 (by simp; omega) (some ⟨wr.heap.size, 0, none⟩) 4 4 [.int .i64 ((t : Int) + 2), .int .i64 ((t : Int) + 1), .int .i64 ((t : Int) + 3), .int .i64 ((t : Int) + 2)] rfl rfl O2.out.news (by simp [Value.oneCell']) (by unfold maxLen; omega) (by omega) ?_; intro A5 c5 w5 ho5 hg5 hb5)
        have hb6 : Below w.heap.size w w5 := Below.trans (by (repeat (first | exact Below.refl _ _ | assumption | apply Below.drew | apply below_drewN | (refine Below.alloc ?_ (by first | omega | (simp; done) | (simp; omega)) _) | (refine Below.setCell ?_ (by first | omega | (simp; done) | (simp; omega)) _)))) hb5
        refine (impl_ColumnsTaken _ _).mono ?_; rintro e _ ⟨rfl, rfl⟩
        rw [HB.out]
        go_wp2_with (fail)
        refine ⟨⟨i + 1, t + takenN 10, A5, c5, out ++ [(t : Int) + 2, (t : Int) + 1, (t : Int) + 3, (t : Int) + 2], by omega, by go_num, by push_cast; go_num, by simp, by show OwnC _ _ _ _ _ _ _ _ _; rw [List.map_append, List.length_append]; exact ho5, hb6, HT2, HA2, by simp; omega⟩, by simp [intOf]; omega⟩
      · have hle2 : t ≤ 64 := by omega
        have o2 := OwnC.lit (w := wr) (lo := wr.heap.size) (n := 4) 2 1 #[.int .i64 (-(t : Int) - 2), .int .i64 (-(t : Int) - 1), .int .i64 (-(t : Int) - 3), .int .i64 (-(t : Int) - 2)] (Nat.le_refl _) (by unfold maxLen; omega) rfl
        have O2 := Lib.hid o2; clear o2
        have ho2 := ho.alloc (.cells #[.int .i64 (-(t : Int) - 2), .int .i64 (-(t : Int) - 1), .int .i64 (-(t : Int) - 3), .int .i64 (-(t : Int) - 2)] 2)
        go_wp2_with (at_builtin; refine wpList_appendC (wr.alloc (.cells #[.int .i64 (-(t : Int) - 2), .int .i64 (-(t : Int) - 1), .int .i64 (-(t : Int) - 3), .int .i64 (-(t : Int) - 2)] 2)) rfl (.tmp 47) (.tmp 60) _ rfl 2 i0 _ 1 8 Tryz.underlying36 hi0 hz0 hz1 hz2 rfl (by decide) rfl ho2 (by simp; omega) (some ⟨wr.heap.size, 0, none⟩) 4 4 [.int .i64 (-(t : Int) - 2), .int .i64 (-(t : Int) - 1), .int .i64 (-(t : Int) - 3), .int .i64 (-(t : Int) - 2)] rfl rfl O2.out.news (by simp [Value.oneCell']) (by unfold maxLen; omega) (by omega) ?_; intro A5 c5 w5 ho5 hg5 hb5)
        have hb6 : Below w.heap.size w w5 := Below.trans (by (repeat (first | exact Below.refl _ _ | assumption | apply Below.drew | apply below_drewN | (refine Below.alloc ?_ (by first | omega | (simp; done) | (simp; omega)) _) | (refine Below.setCell ?_ (by first | omega | (simp; done) | (simp; omega)) _)))) hb5
        refine (impl_ColumnsTaken _ _).mono ?_; rintro e _ ⟨rfl, rfl⟩
        rw [HB.out]
        go_wp2_with (fail)
        refine ⟨⟨i + 1, t + takenN 11, A5, c5, out ++ [-(t : Int) - 2, -(t : Int) - 1, -(t : Int) - 3, -(t : Int) - 2], by omega, by go_num, by push_cast; go_num, by simp, by show OwnC _ _ _ _ _ _ _ _ _; rw [List.map_append, List.length_append]; exact ho5, hb6, HT2, HA2, by simp; omega⟩, by simp [intOf]; omega⟩
    · go_wp2_with (fail)
      go_ret
      have he := HA.out
      rw [drop_all (by omega), lettersFrom, List.append_nil] at he
      rw [he]
      exact ⟨_, _, rfl, ho, hb⟩

theorem impl_RowLetters (d r : Int) (ks : List Int) (A : Option Addr) (c : Nat) (w : World) (h : Ints w A ks) (hl : ks.length ≤ 9223372036854775807) :
    Calls Tryz.prog 21 #[.agg #[.int .i64 d, .int .i64 r, .slice A ks.length c]] w fun e w' => ∃ A' c', e = .returned (.tuple #[.slice A' (rowLettersP d r ks).length c', .int .i64 (rowCodeP d r ks)]) ∧ OwnI w' w.heap.size w'.heap.size A' c' (rowLettersP d r ks) ∧ Below w.heap.size w w' := by
  have hbx : Below w.heap.size w (w.alloc (.cells #[.int .i64 d, .int .i64 r, .slice A ks.length c] 50)) := by (repeat (first | exact Below.refl _ _ | assumption | apply Below.drew | apply below_drewN | (refine Below.alloc ?_ (by first | omega | (simp; done) | (simp; omega)) _) | (refine Below.setCell ?_ (by first | omega | (simp; done) | (simp; omega)) _)))
  have k0 := Blk.new w 50 #[.int .i64 d, .int .i64 r, .slice A ks.length c]
  by_cases hv : rowCodeP d r ks = 0
  · have HF : Hid (rowLettersP d r ks = lettersFrom ks 0) := Lib.hid (by rw [rowLettersP, if_pos hv])
    have HV := Lib.hid hv
    have hst : stitchesB ks = true := by
      by_cases e : rowB d r ks = true
      · exact row_stitches e
      · rw [rowCodeP, if_neg e] at hv; simp at hv
    have HST := Lib.hid hst; clear hst hv
    go_enter Tryz.func21, Tryz.ntmps21
    go_wp2_with (fail)
    refine (impl_rowCode d r ks A c _ (h.below hbx) hl).mono ?_; rintro e w2 ⟨rfl, b2⟩
    have hb2 : Below w.heap.size w w2 := hbx.trans (b2.mono (by simp))
    have k2 : Blk w2 w.heap.size 50 #[.int .i64 d, .int .i64 r, .slice A ks.length c] := k0.below b2 (by simp)
    have z2 := b2.size
    simp only [World.size_alloc] at z2
    obtain ⟨q0, q1, q2⟩ := k2.c3
    rw [HV.out]
    go_wp2_with (fail)
    refine (impl_letters d r ks A c _ (h.below hb2) HST.out).mono ?_; rintro e w3 ⟨A3, c3, rfl, o3, b3⟩
    go_wp2_with (fail)
    go_ret2
    rw [HF.out, HV.out]
    exact ⟨_, _, rfl, o3.mono (by omega) (Nat.le_refl _), hb2.trans (b3.mono (by omega))⟩
  · have HF : Hid (rowLettersP d r ks = []) := Lib.hid (by rw [rowLettersP, if_neg hv])
    have hv' : (rowCodeP d r ks != 0) = true := by simpa using hv
    clear hv
    go_enter Tryz.func21, Tryz.ntmps21
    go_wp2_with (fail)
    refine (impl_rowCode d r ks A c _ (h.below hbx) hl).mono ?_; rintro e w2 ⟨rfl, b2⟩
    have hb2 : Below w.heap.size w w2 := hbx.trans (b2.mono (by simp))
    go_wp2_with (fail)
    go_ret2
    rw [HF.out]
    exact ⟨_, _, rfl, OwnC.nil _ _ _ _ _, hb2⟩

end Go.Proofs.YtnjgmhdmjaijgaaGreat

/- RowOfLetters. -/
namespace Go.Proofs.YtnjgmhdmjaijgaaGreat
open Go.RowKit

def rowFrom (n : Nat) (xs : List Int) (c : Nat) : List Int :=
  if c < n then (if (c : Int) + 1 ∈ xs then 8 :: rowFrom n xs (c + 2) else if -(c : Int) - 1 ∈ xs then 9 :: rowFrom n xs (c + 2) else 1 :: rowFrom n xs (c + 1)) else []
termination_by n - c
decreasing_by all_goals omega
theorem rowFrom_end {n c : Nat} (xs : List Int) (h : n ≤ c) : rowFrom n xs c = [] := by rw [rowFrom, if_neg (by omega)]
theorem rowFrom_8 {n c : Nat} {xs : List Int} (h : c < n) (h1 : (c : Int) + 1 ∈ xs) : rowFrom n xs c = 8 :: rowFrom n xs (c + 2) := by rw [rowFrom, if_pos h, if_pos h1]
theorem rowFrom_9 {n c : Nat} {xs : List Int} (h : c < n) (h1 : ¬ (c : Int) + 1 ∈ xs) (h2 : -(c : Int) - 1 ∈ xs) : rowFrom n xs c = 9 :: rowFrom n xs (c + 2) := by rw [rowFrom, if_pos h, if_neg h1, if_pos h2]
theorem rowFrom_1 {n c : Nat} {xs : List Int} (h : c < n) (h1 : ¬ (c : Int) + 1 ∈ xs) (h2 : ¬ -(c : Int) - 1 ∈ xs) : rowFrom n xs c = 1 :: rowFrom n xs (c + 1) := by rw [rowFrom, if_pos h, if_neg h1, if_neg h2]
theorem rowFrom_length (n : Nat) (xs : List Int) (m : Nat) : ∀ c, n - c ≤ m → (rowFrom n xs c).length ≤ m := by
  induction m with
  | zero => intro c hc; rw [rowFrom_end xs (by omega)]; simp
  | succ m ih =>
    intro c hc
    rw [rowFrom]
    split
    · split
      · have := ih (c + 2) (by omega); simp; omega
      · split
        · have := ih (c + 2) (by omega); simp; omega
        · have := ih (c + 1) (by omega); simp; omega
    · simp
theorem Blk.set32 {w : World} {g : Nat} {t : TypeId} {a b c : Value} (h : Blk w g t #[a, b, c]) (u : Value) : Blk (w.setCell ⟨g, 2, none⟩ u) g t #[a, b, u] := by
  unfold Blk at h ⊢
  simp [World.setCell, Array.getElem?_modify, h]
theorem Blk.set30 {w : World} {g : Nat} {t : TypeId} {a b c : Value} (h : Blk w g t #[a, b, c]) (u : Value) : Blk (w.setCell ⟨g, 0, none⟩ u) g t #[u, b, c] := by
  unfold Blk at h ⊢
  simp [World.setCell, Array.getElem?_modify, h]
theorem Blk.set31 {w : World} {g : Nat} {t : TypeId} {a b c : Value} (h : Blk w g t #[a, b, c]) (u : Value) : Blk (w.setCell ⟨g, 1, none⟩ u) g t #[a, u, c] := by
  unfold Blk at h ⊢
  simp [World.setCell, Array.getElem?_modify, h]
theorem OwnC.farT {w : World} {lo hi : Nat} {e : TypeId} {sz : Nat} {A : Option Addr} {n c : Nat} {cs : List Value} {g : Nat} {t : TypeId} {bs : Array Value} (h : OwnC w lo hi e sz A n c cs) (hb : Blk w g t bs) (ht : t ≠ e) (j : Nat) (u : Value) : OwnC (w.setCell ⟨g, j, none⟩ u) lo hi e sz A n c cs :=
  h.keepT fun k cur _ _ hk => Below.heap_setCell w ⟨g, j, none⟩ u k (by
    rintro rfl
    unfold Blk at hb
    rw [hb] at hk
    injection hk with hk
    injection hk with _ hk
    exact ht hk)
theorem Blk.grownT {w w' : World} {lo hi : Nat} {e : TypeId} {sz : Nat} {A : Option Addr} {n c : Nat} {cs : List Value} {g : Nat} {t : TypeId} {bs : Array Value} (hb : Blk w g t bs) (h : OwnC w lo hi e sz A n c cs) (ht : t ≠ e) (hg : w.grownBy w' (Value.slice A n c).ownBlock) : Blk w' g t bs :=
  (hg.block g hb.lt fun e' => by
    rcases h.form with ⟨rfl, _⟩ | ⟨q, cur, rfl, _, _, hh, _⟩
    · simp [Value.ownBlock] at e'
    · simp [Value.ownBlock] at e'
      subst e'
      unfold Blk at hb
      rw [hb] at hh
      injection hh with hh
      injection hh with _ hh
      exact ht hh).trans hb

theorem spec_l00Has (A : Option Addr) (c : Nat) (xs : List Int) (x : Int) (w : World) (h : Ints w A xs) (hl : xs.length ≤ 9223372036854775807) :
    Calls Tryz.prog 119 #[.slice A xs.length c, .int .i64 x] w fun e w' => e = .returned (.bool (decide (x ∈ xs))) ∧ w = w' := by
  go_enter Tryz.func119, Tryz.ntmps119
  go_wp2
  go_loop [5] (fun i => ∃ k : Nat, k ≤ xs.length ∧ i = .int .i64 k ∧ Hid (¬ x ∈ xs.take k)) (fun i => xs.length - (intOf i).toNat)
  case atStart => exact ⟨0, Nat.zero_le _, rfl, Lib.hid (by simp)⟩
  case round =>
    obtain ⟨k, hk, rfl, HA⟩ := hrel
    by_cases hlt : k < xs.length
    · obtain ⟨b, off, y, rfl, hc, hy⟩ := h k hlt
      have HY := Lib.hid hy; clear hy
      by_cases hyx : y = x
      · have hyx' : (y == x) = true := by simp [hyx]
        have HYX := Lib.hid hyx; clear hyx
        go_wp2_with (fail)
        go_ret
        exact ⟨ret_bool (decide_eq_true (by rw [← HYX.out]; exact List.mem_of_getElem? HY.out)).symm, rfl⟩
      · have hyx' : (y == x) = false := by simpa using hyx
        have HYX := Lib.hid hyx; clear hyx
        go_wp2_with (fail)
        go_round
        case rel => exact ⟨k + 1, by omega, by go_num, Lib.hid (by rw [take_snoc HY.out, List.mem_append, List.mem_singleton]; rintro (h1 | h1); exact HA.out h1; exact HYX.out h1.symm)⟩
        case measure => simp [intOf]; omega
    · go_wp2_with (fail)
      go_ret
      have := HA.out
      rw [take_all (by omega)] at this
      exact ⟨ret_bool (decide_eq_false this).symm, rfl⟩

theorem slices_Index (A : Option Addr) (c : Nat) (xs : List Int) (x : Int) (w : World) (h : Ints w A xs) (hl : xs.length ≤ 9223372036854775807) :
    Calls Tryz.prog 135 #[.slice A xs.length c, .int .i64 x] w fun e w' => AnyInt (fun k => decide (0 ≤ k) = decide (x ∈ xs) ∧ k ≤ 9223372036854775807) e ∧ w = w' := by
  go_enter Tryz.func135, Tryz.ntmps135
  go_wp2
  go_loop [8] (fun i => ∃ k : Nat, k ≤ xs.length ∧ i = .int .i64 k ∧ Hid (¬ x ∈ xs.take k)) (fun i => xs.length - (intOf i).toNat)
  case atStart => exact ⟨0, Nat.zero_le _, rfl, Lib.hid (by simp)⟩
  case round =>
    obtain ⟨k, hk, rfl, HA⟩ := hrel
    by_cases hlt : k < xs.length
    · obtain ⟨b, off, y, rfl, hc, hy⟩ := h k hlt
      have HY := Lib.hid hy; clear hy
      by_cases hyx : x = y
      · have hyx' : (x == y) = true := by simp [hyx]
        have hyx'' : (y == x) = true := by simp [hyx]
        have HYX := Lib.hid hyx; clear hyx
        go_wp2_with (fail)
        go_ret
        exact ⟨⟨_, rfl, by rw [HYX.out]; exact ⟨fun _ => List.mem_of_getElem? HY.out, fun _ => by omega⟩, by omega⟩, rfl⟩
      · have hyx' : (x == y) = false := by simpa using hyx
        have hyx'' : (y == x) = false := by simpa using fun e => hyx e.symm
        have HYX := Lib.hid hyx; clear hyx
        go_wp2_with (fail)
        go_round
        case rel => exact ⟨k + 1, by omega, by go_num, Lib.hid (by rw [take_snoc HY.out, List.mem_append, List.mem_singleton]; rintro (h1 | h1); exact HA.out h1; exact HYX.out h1)⟩
        case measure => simp [intOf]; omega
    · go_wp2_with (fail)
      go_ret
      have := HA.out
      rw [take_all (by omega)] at this
      exact ⟨⟨_, rfl, ⟨fun h0 => absurd h0 (by decide), fun h1 => absurd h1 this⟩, by omega⟩, rfl⟩
theorem slices_Contains (A : Option Addr) (c : Nat) (xs : List Int) (x : Int) (w : World) (h : Ints w A xs) (hl : xs.length ≤ 9223372036854775807) :
    Calls Tryz.prog 95 #[.slice A xs.length c, .int .i64 x] w fun e w' => e = .returned (.bool (decide (x ∈ xs))) ∧ w = w' := by
  go_enter Tryz.func95, Tryz.ntmps95
  go_wp2_with (refine (slices_Index _ _ _ _ _ h hl).mono ?_; rintro e w' ⟨⟨k, rfl, hk, hk'⟩, rfl⟩)
  go_ret
  exact ⟨rfl, rfl⟩

set_option maxHeartbeats 4000000 in
set_option maxRecDepth 10000 in
theorem impl_rowOfLetters (n : Nat) (xs : List Int) (d r : Int) (A : Option Addr) (c : Nat) (w : World) (h : Ints w A xs) (hl : xs.length ≤ 9223372036854775807) (hn : n ≤ 100) :
    Calls Tryz.prog 57 #[.int .i64 n, .slice A xs.length c, .int .i64 d, .int .i64 r] w fun e w' => ∃ A' c', e = .returned (.agg #[.int .i64 d, .int .i64 r, .slice A' (rowFrom n xs 0).length c']) ∧ OwnI w' w.heap.size w'.heap.size A' c' (rowFrom n xs 0) ∧ Below w.heap.size w w' := by
  obtain ⟨i0, hi0, hz0, hz1, hz2⟩ := info_parts info_int64
  have ht : (50 : TypeId) ≠ 2 := by decide
  go_enter Tryz.func57, Tryz.ntmps57
  go_wp2_with (fail)
  go_loopw [10] (fun cv wr => ∃ (k : Nat) (A' : Option Addr) (c' : Nat) (out : List Int), k ≤ n + 1 ∧ cv = .int .i64 k ∧ Blk wr w.heap.size 50 #[.int .i64 0, .int .i64 0, .slice none 0 0] ∧ Blk wr (w.heap.size + 1) 50 #[.int .i64 d, .int .i64 r, .slice A' out.length c'] ∧ OwnI wr w.heap.size wr.heap.size A' c' out ∧ Below w.heap.size w wr ∧ Hid (rowFrom n xs 0 = out ++ rowFrom n xs k) ∧ out.length ≤ k) (fun cv _ => n + 2 - (intOf cv).toNat)
  case atStart =>
    exact ⟨0, none, 0, [], by omega, rfl, (Blk.new w _ _).alloc _, by simpa using Blk.new (w.alloc (.cells #[.int .i64 0, .int .i64 0, .slice none 0 0] 50)) 50 #[.int .i64 d, .int .i64 r, .slice none 0 0], OwnC.nil _ _ _ _ _, by (repeat (first | exact Below.refl _ _ | assumption | apply Below.drew | apply below_drewN | (refine Below.alloc ?_ (by first | omega | (simp; done) | (simp; omega)) _) | (refine Below.setCell ?_ (by first | omega | (simp; done) | (simp; omega)) _))), Lib.hid rfl, by simp⟩
  case round =>
    obtain ⟨k, A', c', out, hk, rfl, hb0, hb9, ho, hb, HA, hol⟩ := hrel
    have hzs := hb.size
    have hz0' := hb0.lt
    have hz9 := hb9.lt
    obtain ⟨q0, q1, q2⟩ := hb9.c3
    have f2 := hb9.frozen 2
    by_cases hlt : k < n
    · by_cases h1 : (k : Int) + 1 ∈ xs
      · have h1' : decide ((k : Int) + 1 ∈ xs) = true := decide_eq_true h1
        have HR : Hid (rowFrom n xs k = 8 :: rowFrom n xs (k + 2)) := Lib.hid (rowFrom_8 hlt h1)
        clear h1
        have a2 := cell_alloc q2 (.cells #[.int .i64 8] 2)
        go_wp2_with (first | (go_at_call 95; refine (slices_Contains _ _ _ _ _ (h.below hb) hl).mono ?_; rintro e _ ⟨rfl, rfl⟩) | (at_builtin; refine wpList_append1 wr [.int .i64 8] _ rfl (.tmp 30) (.tmp 31) _ rfl 2 i0 _ 1 8 Tryz.underlying36 hi0 hz0 hz1 hz2 rfl (by decide) rfl ho hzs 1 rfl rfl (by simp [Value.oneCell']) (by omega) (by decide) ?_; intro A2 c2 w2 ho2 hg2 hb2 hz2'; have k9 := (hb9.alloc (.cells #[.int .i64 8] 2)).grownT (ho.alloc (.cells #[.int .i64 8] 2)) ht hg2; obtain ⟨p0, p1, p2⟩ := k9.c3; have f3 := k9.frozen 2))
        have k9 := (hb9.alloc (.cells #[.int .i64 8] 2)).grownT (ho.alloc (.cells #[.int .i64 8] 2)) ht hg2
        have k0 := (hb0.alloc (.cells #[.int .i64 8] 2)).grownT (ho.alloc (.cells #[.int .i64 8] 2)) ht hg2
        have hbb : Below w.heap.size w w2 := hb.trans hb2
        refine ⟨⟨k + 2, A2, c2, out ++ [8], by omega, by go_num, k0.far (by show w.heap.size ≠ w.heap.size + 1; omega) _, by simpa using k9.set32 (.slice A2 (out.length + 1) c2), ?_, by (repeat (first | exact Below.refl _ _ | assumption | apply Below.drew | apply below_drewN | (refine Below.alloc ?_ (by first | omega | (simp; done) | (simp; omega)) _) | (refine Below.setCell ?_ (by first | omega | (simp; done) | (simp; omega)) _))), Lib.hid (by rw [HA.out, HR.out, List.append_assoc]; rfl), by simp; omega⟩, by simp [intOf]; omega⟩
        have o3 : OwnI w2 w.heap.size w2.heap.size A2 c2 (out ++ [8]) := by show OwnC _ _ _ _ _ _ _ _ _; rw [List.map_append, List.length_append]; exact ho2
        exact (o3.farT k9 ht 2 _).mono (Nat.le_refl _) (by simp)
      · have h1' : decide ((k : Int) + 1 ∈ xs) = false := decide_eq_false h1
        by_cases h2 : -(k : Int) - 1 ∈ xs
        · have h2' : decide (-(k : Int) - 1 ∈ xs) = true := decide_eq_true h2
          have HR : Hid (rowFrom n xs k = 9 :: rowFrom n xs (k + 2)) := Lib.hid (rowFrom_9 hlt h1 h2)
          clear h1 h2
          have a2 := cell_alloc q2 (.cells #[.int .i64 9] 2)
          go_wp2_with (first | (go_at_call 95; refine (slices_Contains _ _ _ _ _ (h.below hb) hl).mono ?_; rintro e _ ⟨rfl, rfl⟩) | (at_builtin; refine wpList_append1 wr [.int .i64 9] _ rfl (.tmp 43) (.tmp 44) _ rfl 2 i0 _ 1 8 Tryz.underlying36 hi0 hz0 hz1 hz2 rfl (by decide) rfl ho hzs 1 rfl rfl (by simp [Value.oneCell']) (by omega) (by decide) ?_; intro A2 c2 w2 ho2 hg2 hb2 hz2'; have k9 := (hb9.alloc (.cells #[.int .i64 9] 2)).grownT (ho.alloc (.cells #[.int .i64 9] 2)) ht hg2; obtain ⟨p0, p1, p2⟩ := k9.c3; have f3 := k9.frozen 2))
          have k9 := (hb9.alloc (.cells #[.int .i64 9] 2)).grownT (ho.alloc (.cells #[.int .i64 9] 2)) ht hg2
          have k0 := (hb0.alloc (.cells #[.int .i64 9] 2)).grownT (ho.alloc (.cells #[.int .i64 9] 2)) ht hg2
          have hbb : Below w.heap.size w w2 := hb.trans hb2
          refine ⟨⟨k + 2, A2, c2, out ++ [9], by omega, by go_num, k0.far (by show w.heap.size ≠ w.heap.size + 1; omega) _, by simpa using k9.set32 (.slice A2 (out.length + 1) c2), ?_, by (repeat (first | exact Below.refl _ _ | assumption | apply Below.drew | apply below_drewN | (refine Below.alloc ?_ (by first | omega | (simp; done) | (simp; omega)) _) | (refine Below.setCell ?_ (by first | omega | (simp; done) | (simp; omega)) _))), Lib.hid (by rw [HA.out, HR.out, List.append_assoc]; rfl), by simp; omega⟩, by simp [intOf]; omega⟩
          have o3 : OwnI w2 w.heap.size w2.heap.size A2 c2 (out ++ [9]) := by show OwnC _ _ _ _ _ _ _ _ _; rw [List.map_append, List.length_append]; exact ho2
          exact (o3.farT k9 ht 2 _).mono (Nat.le_refl _) (by simp)
        · have h2' : decide (-(k : Int) - 1 ∈ xs) = false := decide_eq_false h2
          have HR : Hid (rowFrom n xs k = 1 :: rowFrom n xs (k + 1)) := Lib.hid (rowFrom_1 hlt h1 h2)
          clear h1 h2
          have a2 := cell_alloc q2 (.cells #[.int .i64 1] 2)
          go_wp2_with (first | (go_at_call 95; refine (slices_Contains _ _ _ _ _ (h.below hb) hl).mono ?_; rintro e _ ⟨rfl, rfl⟩) | (at_builtin; refine wpList_append1 wr [.int .i64 1] _ rfl (.tmp 20) (.tmp 21) _ rfl 2 i0 _ 1 8 Tryz.underlying36 hi0 hz0 hz1 hz2 rfl (by decide) rfl ho hzs 1 rfl rfl (by simp [Value.oneCell']) (by omega) (by decide) ?_; intro A2 c2 w2 ho2 hg2 hb2 hz2'; have k9 := (hb9.alloc (.cells #[.int .i64 1] 2)).grownT (ho.alloc (.cells #[.int .i64 1] 2)) ht hg2; obtain ⟨p0, p1, p2⟩ := k9.c3; have f3 := k9.frozen 2))
          have k9 := (hb9.alloc (.cells #[.int .i64 1] 2)).grownT (ho.alloc (.cells #[.int .i64 1] 2)) ht hg2
          have k0 := (hb0.alloc (.cells #[.int .i64 1] 2)).grownT (ho.alloc (.cells #[.int .i64 1] 2)) ht hg2
          have hbb : Below w.heap.size w w2 := hb.trans hb2
          refine ⟨⟨k + 1, A2, c2, out ++ [1], by omega, by go_num, k0.far (by show w.heap.size ≠ w.heap.size + 1; omega) _, by simpa using k9.set32 (.slice A2 (out.length + 1) c2), ?_, by (repeat (first | exact Below.refl _ _ | assumption | apply Below.drew | apply below_drewN | (refine Below.alloc ?_ (by first | omega | (simp; done) | (simp; omega)) _) | (refine Below.setCell ?_ (by first | omega | (simp; done) | (simp; omega)) _))), Lib.hid (by rw [HA.out, HR.out, List.append_assoc]; rfl), by simp; omega⟩, by simp [intOf]; omega⟩
          have o3 : OwnI w2 w.heap.size w2.heap.size A2 c2 (out ++ [1]) := by show OwnC _ _ _ _ _ _ _ _ _; rw [List.map_append, List.length_append]; exact ho2
          exact (o3.farT k9 ht 2 _).mono (Nat.le_refl _) (by simp)
    · have he := HA.out
      rw [rowFrom_end (n := n) (c := k) xs (by omega), List.append_nil] at he
      have HE := Lib.hid he; clear he
      obtain ⟨r0, r1, r2⟩ := hb0.c3
      have g0 := hb0.frozen 0
      have g1 := hb0.frozen 1
      have g2 := hb0.frozen 2
      go_wp2_with (fail)
      refine bodyPost_ret (v := .agg #[.int .i64 d, .int .i64 r, .slice A' out.length c']) (by simp [results, Tryz.results57, go_sem, r0, r1, r2]) rfl ⟨A', c', by rw [HE.out], ?_, ?_⟩
      · rw [HE.out]
        have o1 := ho.farT hb0 ht 0 (.int .i64 d)
        have k1 := hb0.set30 (.int .i64 d)
        have o2 := o1.farT k1 ht 1 (.int .i64 r)
        have k2 := k1.set31 (.int .i64 r)
        exact (o2.farT k2 ht 2 _).mono (Nat.le_refl _) (by simp)
      · (repeat (first | exact Below.refl _ _ | assumption | apply Below.drew | apply below_drewN | (refine Below.alloc ?_ (by first | omega | (simp; done) | (simp; omega)) _) | (refine Below.setCell ?_ (by first | omega | (simp; done) | (simp; omega)) _)))


end Go.Proofs.YtnjgmhdmjaijgaaGreat

/- RowOfLetters: the two functions. -/
namespace Go.Proofs.YtnjgmhdmjaijgaaGreat
open Go.RowKit

structure RowX where
  d : Int
  r : Int
  xs : List Int
def apartAt (xs : List Int) (i : Nat) : Bool := !touchAny (xs.take i) (xs[i]?.getD 0)
def apartB (xs : List Int) : Bool := (List.range xs.length).all (apartAt xs)
def rolCode (n : Int) (xs : List Int) (d r : Int) : Int := if inR n 1 8 && dirB d && carrierB r then (if lettersB n xs then (if apartB xs then 0 else 6) else 1) else 2
def rolRow (n : Int) (xs : List Int) (d r : Int) : RowX := if rolCode n xs d r = 0 then ⟨d, r, rowFrom n.toNat xs 0⟩ else ⟨0, 0, []⟩
theorem rolRow_length (n : Int) (xs : List Int) (d r : Int) : (rolRow n xs d r).xs.length ≤ 8 := by
  unfold rolRow
  split
  · rename_i h
    have hn : inR n 1 8 = true := by
      unfold rolCode at h
      cases e : inR n 1 8
      · rw [e] at h; simp at h
      · rfl
    have := inR_iff.1 hn
    have := rowFrom_length n.toNat xs 8 0 (by omega)
    exact this
  · simp
theorem rol_err {n : Int} {xs : List Int} {d r k : Int} (e : rolCode n xs d r = k) (hk : k ≠ 0) : rolRow n xs d r = ⟨0, 0, []⟩ ∧ rolCode n xs d r = k := ⟨by rw [rolRow, if_neg (by rw [e]; exact hk)], e⟩
theorem letters_small {n : Int} {xs : List Int} (hn : inR n 1 8 = true) (h : lettersB n xs = true) : smallB xs := by
  intro y hy
  have h1 := inR_iff.1 hn
  unfold lettersB letterB at h
  simp only [List.all_eq_true, Bool.and_eq_true] at h
  have h2 := inR_iff.1 (h y hy).2
  omega
theorem smallB_take {xs : List Int} (h : smallB xs) (k : Nat) : smallB (xs.take k) := fun y hy => h y (List.mem_of_mem_take hy)
theorem apart_false {xs : List Int} {k : Nat} {x : Int} (hx : xs[k]? = some x) (h : touchAny (xs.take k) x = true) : apartB xs = false := by
  unfold apartB
  rw [List.all_eq_false]
  refine ⟨k, List.mem_range.2 (List.getElem?_eq_some_iff.1 hx).1, ?_⟩
  simp [apartAt, hx, h]
theorem apart_true {xs : List Int} (h : ∀ j, j < xs.length → apartAt xs j = true) : apartB xs = true := by
  unfold apartB
  rw [List.all_eq_true]
  exact fun j hj => h j (List.mem_range.1 hj)

set_option maxHeartbeats 2000000 in
set_option maxRecDepth 10000 in
theorem impl_RowOfLetters (n : Int) (xs : List Int) (A : Option Addr) (c : Nat) (d r : Int) (w : World) (h : Ints w A xs) (hl : xs.length ≤ 9223372036854775807) (hcap : xs.length ≤ c) :
    Calls Tryz.prog 20 #[.int .i64 n, .slice A xs.length c, .int .i64 d, .int .i64 r] w fun e w' => ∃ A' c', e = .returned (.tuple #[.agg #[.int .i64 (rolRow n xs d r).d, .int .i64 (rolRow n xs d r).r, .slice A' (rolRow n xs d r).xs.length c'], .int .i64 (rolCode n xs d r)]) ∧ OwnI w' w.heap.size w'.heap.size A' c' (rolRow n xs d r).xs ∧ Below w.heap.size w w' := by
  have ht : (50 : TypeId) ≠ 2 := by decide
  have b0 : Below w.heap.size w (w.alloc (.cells #[.int .i64 0, .int .i64 0, .slice none 0 0] 50)) := by (repeat (first | exact Below.refl _ _ | assumption | apply Below.drew | apply below_drewN | (refine Below.alloc ?_ (by first | omega | (simp; done) | (simp; omega)) _) | (refine Below.setCell ?_ (by first | omega | (simp; done) | (simp; omega)) _)))
  have k0 := Blk.new w 50 #[.int .i64 0, .int .i64 0, .slice none 0 0]
  have hmf : ∀ (fn : Fn) (first cap : Array Value) (w : World), (Instr.makeFunc fn first cap).run Tryz.prog w = .ok (.func fn first cap) w := fun _ _ _ _ => rfl
  cases hv : inR n 1 8
  · have HF : Hid (rolRow n xs d r = ⟨0, 0, []⟩ ∧ rolCode n xs d r = 2) := Lib.hid (rol_err (by simp [rolCode, hv]) (by decide))
    go_enter Tryz.func20, Tryz.ntmps20
    go_wp2_with (first | (go_at_call 50; refine (impl_within _ _ _ _).mono ?_; rintro e _ ⟨rfl, rfl⟩) | (go_at_call 51; refine (impl_isDirection _ _).mono ?_; rintro e _ ⟨rfl, rfl⟩) | (go_at_call 52; refine (impl_isCarrier _ _).mono ?_; rintro e _ ⟨rfl, rfl⟩))
    refine bodyPost_ret (v := .tuple #[.agg #[.int .i64 (rolRow n xs d r).d, .int .i64 (rolRow n xs d r).r, .slice none (rolRow n xs d r).xs.length 0], .int .i64 (rolCode n xs d r)]) (by rw [HF.out.1, HF.out.2]; simp [results, Tryz.results20, go_sem, ]) rfl ⟨none, 0, rfl, ?_, ?_⟩
    · rw [HF.out.1]; exact OwnC.nil _ _ _ _ _
    · (repeat (first | exact Below.refl _ _ | assumption | apply Below.drew | apply below_drewN | (refine Below.alloc ?_ (by first | omega | (simp; done) | (simp; omega)) _) | (refine Below.setCell ?_ (by first | omega | (simp; done) | (simp; omega)) _)))
  · cases hd : dirB d
    · have HF : Hid (rolRow n xs d r = ⟨0, 0, []⟩ ∧ rolCode n xs d r = 2) := Lib.hid (rol_err (by simp [rolCode, hd]) (by decide))
      go_enter Tryz.func20, Tryz.ntmps20
      go_wp2_with (first | (go_at_call 50; refine (impl_within _ _ _ _).mono ?_; rintro e _ ⟨rfl, rfl⟩) | (go_at_call 51; refine (impl_isDirection _ _).mono ?_; rintro e _ ⟨rfl, rfl⟩) | (go_at_call 52; refine (impl_isCarrier _ _).mono ?_; rintro e _ ⟨rfl, rfl⟩))
      refine bodyPost_ret (v := .tuple #[.agg #[.int .i64 (rolRow n xs d r).d, .int .i64 (rolRow n xs d r).r, .slice none (rolRow n xs d r).xs.length 0], .int .i64 (rolCode n xs d r)]) (by rw [HF.out.1, HF.out.2]; simp [results, Tryz.results20, go_sem, ]) rfl ⟨none, 0, rfl, ?_, ?_⟩
      · rw [HF.out.1]; exact OwnC.nil _ _ _ _ _
      · (repeat (first | exact Below.refl _ _ | assumption | apply Below.drew | apply below_drewN | (refine Below.alloc ?_ (by first | omega | (simp; done) | (simp; omega)) _) | (refine Below.setCell ?_ (by first | omega | (simp; done) | (simp; omega)) _)))
    · cases hr : carrierB r
      · have HF : Hid (rolRow n xs d r = ⟨0, 0, []⟩ ∧ rolCode n xs d r = 2) := Lib.hid (rol_err (by simp [rolCode, hr]) (by decide))
        go_enter Tryz.func20, Tryz.ntmps20
        go_wp2_with (first | (go_at_call 50; refine (impl_within _ _ _ _).mono ?_; rintro e _ ⟨rfl, rfl⟩) | (go_at_call 51; refine (impl_isDirection _ _).mono ?_; rintro e _ ⟨rfl, rfl⟩) | (go_at_call 52; refine (impl_isCarrier _ _).mono ?_; rintro e _ ⟨rfl, rfl⟩))
        refine bodyPost_ret (v := .tuple #[.agg #[.int .i64 (rolRow n xs d r).d, .int .i64 (rolRow n xs d r).r, .slice none (rolRow n xs d r).xs.length 0], .int .i64 (rolCode n xs d r)]) (by rw [HF.out.1, HF.out.2]; simp [results, Tryz.results20, go_sem, ]) rfl ⟨none, 0, rfl, ?_, ?_⟩
        · rw [HF.out.1]; exact OwnC.nil _ _ _ _ _
        · (repeat (first | exact Below.refl _ _ | assumption | apply Below.drew | apply below_drewN | (refine Below.alloc ?_ (by first | omega | (simp; done) | (simp; omega)) _) | (refine Below.setCell ?_ (by first | omega | (simp; done) | (simp; omega)) _)))
      · have hn18 := inR_iff.1 hv
        obtain ⟨m, rfl⟩ := Int.eq_ofNat_of_zero_le (show (0 : Int) ≤ n by omega)
        cases hle : lettersB m xs
        · have HF : Hid (rolRow m xs d r = ⟨0, 0, []⟩ ∧ rolCode m xs d r = 1) := Lib.hid (rol_err (by simp [rolCode, hv, hd, hr, hle]) (by decide))
          go_enter Tryz.func20, Tryz.ntmps20
          go_wp2_with (first | (go_at_call 50; refine (impl_within _ _ _ _).mono ?_; rintro e _ ⟨rfl, rfl⟩) | (go_at_call 51; refine (impl_isDirection _ _).mono ?_; rintro e _ ⟨rfl, rfl⟩) | (go_at_call 52; refine (impl_isCarrier _ _).mono ?_; rintro e _ ⟨rfl, rfl⟩))
          refine (impl_areLetters _ _ _ xs _ (h.below b0) hl (by omega)).mono ?_; rintro e w2 ⟨rfl, b2⟩
          have k2 := k0.below b2 (by simp)
          have hb2 : Below w.heap.size w w2 := b0.trans (b2.mono (by simp))
          obtain ⟨r0, r1, r2⟩ := k2.c3
          have g0 := k2.frozen 0
          have g1 := k2.frozen 1
          have g2 := k2.frozen 2
          go_wp2_with (fail)
          refine bodyPost_ret (v := .tuple #[.agg #[.int .i64 (rolRow m xs d r).d, .int .i64 (rolRow m xs d r).r, .slice none (rolRow m xs d r).xs.length 0], .int .i64 (rolCode m xs d r)]) (by rw [HF.out.1, HF.out.2]; simp [results, Tryz.results20, go_sem, r0, r1, r2]) rfl ⟨none, 0, rfl, ?_, ?_⟩
          · rw [HF.out.1]; exact OwnC.nil _ _ _ _ _
          · (repeat (first | exact Below.refl _ _ | assumption | apply Below.drew | apply below_drewN | (refine Below.alloc ?_ (by first | omega | (simp; done) | (simp; omega)) _) | (refine Below.setCell ?_ (by first | omega | (simp; done) | (simp; omega)) _)))
        · have HSM : Hid (smallB xs) := Lib.hid (letters_small hv hle)
          have HC0 : Hid (∀ b, apartB xs = b → rolCode m xs d r = if b then 0 else 6) := Lib.hid (fun b hb => by simp [rolCode, hv, hd, hr, hle, hb])
          go_enter Tryz.func20, Tryz.ntmps20
          go_wp2_with (first | (go_at_call 50; refine (impl_within _ _ _ _).mono ?_; rintro e _ ⟨rfl, rfl⟩) | (go_at_call 51; refine (impl_isDirection _ _).mono ?_; rintro e _ ⟨rfl, rfl⟩) | (go_at_call 52; refine (impl_isCarrier _ _).mono ?_; rintro e _ ⟨rfl, rfl⟩))
          refine (impl_areLetters _ _ _ xs _ (h.below b0) hl (by omega)).mono ?_; rintro e w2 ⟨rfl, b2⟩
          have k2 := k0.below b2 (by simp)
          have hb2 : Below w.heap.size w w2 := b0.trans (b2.mono (by simp))
          go_wp2_with (fail)
          go_loopw [33] (fun iv wr => ∃ (k : Nat), k ≤ xs.length ∧ iv = .int .i64 k ∧ Hid (∀ j, j < k → apartAt xs j = true) ∧ Blk wr w.heap.size 50 #[.int .i64 0, .int .i64 0, .slice none 0 0] ∧ Below w.heap.size w wr) (fun iv _ => xs.length - (intOf iv).toNat)
          case atStart => exact ⟨0, Nat.zero_le _, rfl, Lib.hid (fun j hj => by omega), k2, hb2⟩
          case round =>
            clear k2 hb2
            obtain ⟨k, hk, rfl, HA, kb, hb⟩ := hrel
            have hzk := kb.lt
            by_cases hlt : k < xs.length
            · obtain ⟨b, off, x, rfl, hc, hx⟩ := h k hlt
              replace hc := cells_below hb _ _ hc
              have HX := Lib.hid hx; clear hx
              have hkl : (xs.take k).length = k := by rw [List.length_take]; omega
              have j1 : (0 : Int) ≤ (k : Int) := by omega
              have j3 : (k : Int) ≤ (c : Int) := by omega
              have hba : Below w.heap.size w (wr.alloc (.cells #[.int .i64 x] 2)) := by (repeat (first | exact Below.refl _ _ | assumption | apply Below.drew | apply below_drewN | (refine Below.alloc ?_ (by first | omega | (simp; done) | (simp; omega)) _) | (refine Below.setCell ?_ (by first | omega | (simp; done) | (simp; omega)) _)))
              have kba := kb.alloc (.cells #[.int .i64 x] 2)
              obtain ⟨q0, q1, q2⟩ := kb.c3
              obtain ⟨p0, p1, p2⟩ := ((((kb.set30 (.int .i64 0)).set31 (.int .i64 0)).set32 (.slice none 0 0)).alloc (.cells #[.int .i64 x] 2)).c3
              have f0 := kb.frozen 0
              have f1 := kb.frozen 1
              have f2 := kb.frozen 2
              have hcon : Calls Tryz.prog 54 #[.slice (some ⟨b, off, none⟩) k c, .func (.func 55) #[] #[.pointer (some ⟨wr.heap.size, 0, none⟩)]] (wr.alloc (.cells #[.int .i64 x] 2)) fun e w' => e = .returned (.bool (touchAny (xs.take k) x)) ∧ wr.alloc (.cells #[.int .i64 x] 2) = w' := by
                have := containsFunc_impl_RowOfLetters_1 x wr.heap.size (some ⟨b, off, none⟩) c (xs.take k) (wr.alloc (.cells #[.int .i64 x] 2)) (Ints.take (h.below hba) k) (by omega) (smallB_take HSM.out k) (smallB_at HSM.out HX.out) (by simp)
                rwa [hkl] at this
              have HC := Lib.hid hcon; clear hcon hkl
              cases htt : touchAny (xs.take k) x
              · go_wp2_with (go_at_call 54; refine HC.out.mono ?_; rintro e _ ⟨rfl, rfl⟩)
                go_roundw
                case rel =>
                  refine ⟨k + 1, by omega, by go_num, Lib.hid (fun j hj => ?_), kba, hba⟩
                  rcases Nat.lt_or_ge j k with h1 | h1
                  · exact HA.out j h1
                  · obtain rfl : j = k := by omega
                    simp [apartAt, HX.out, htt]
                case measure => simp [intOf]; omega
              · have hap := apart_false HX.out htt
                have hc6 := HC0.out false hap
                have HF : Hid (rolRow m xs d r = ⟨0, 0, []⟩ ∧ rolCode m xs d r = 6) := Lib.hid ⟨by rw [rolRow, hc6]; rfl, hc6⟩
                clear hc6
                go_wp2_with (go_at_call 54; refine HC.out.mono ?_; rintro e _ ⟨rfl, rfl⟩)
                refine bodyPost_ret (v := .tuple #[.agg #[.int .i64 (rolRow m xs d r).d, .int .i64 (rolRow m xs d r).r, .slice none (rolRow m xs d r).xs.length 0], .int .i64 (rolCode m xs d r)]) (by rw [HF.out.1, HF.out.2]; simp [results, Tryz.results20, go_sem, p0, p1, p2]) rfl ⟨none, 0, rfl, ?_, ?_⟩
                · rw [HF.out.1]; exact OwnC.nil _ _ _ _ _
                · (repeat (first | exact Below.refl _ _ | assumption | apply Below.drew | apply below_drewN | (refine Below.alloc ?_ (by first | omega | (simp; done) | (simp; omega)) _) | (refine Below.setCell ?_ (by first | omega | (simp; done) | (simp; omega)) _)))
            · have hap : apartB xs = true := apart_true fun j hj => HA.out j (by omega)
              have hc0 := HC0.out true hap
              have HF : Hid (rolRow m xs d r = ⟨d, r, rowFrom m xs 0⟩ ∧ rolCode m xs d r = 0) := Lib.hid ⟨by rw [rolRow, hc0]; rfl, hc0⟩
              clear hc0
              go_wp2_with (fail)
              refine (impl_rowOfLetters m xs d r A c _ (h.below hb) hl (by omega)).mono ?_; rintro e w2 ⟨A2, c2, rfl, o2, b2⟩
              have hz9 := hb.size
              have k2 := kb.below b2 hzk
              have hb2 : Below w.heap.size w w2 := hb.trans (b2.mono hz9)
              obtain ⟨r0, r1, r2⟩ := k2.c3
              have g0 := k2.frozen 0
              have g1 := k2.frozen 1
              have g2 := k2.frozen 2
              go_wp2_with (fail)
              refine bodyPost_ret (v := .tuple #[.agg #[.int .i64 (rolRow m xs d r).d, .int .i64 (rolRow m xs d r).r, .slice A2 (rolRow m xs d r).xs.length c2], .int .i64 (rolCode m xs d r)]) (by rw [HF.out.1, HF.out.2]; simp [results, Tryz.results20, go_sem, r0, r1, r2]) rfl ⟨A2, c2, rfl, ?_, ?_⟩
              · rw [HF.out.1]
                have o3 : OwnI w2 w.heap.size w2.heap.size A2 c2 (rowFrom m xs 0) := o2.mono hz9 (Nat.le_refl _)
                have p1 := o3.farT k2 ht 0 (.int .i64 d)
                have k3 := k2.set30 (.int .i64 d)
                have p2 := p1.farT k3 ht 1 (.int .i64 r)
                have k4 := k3.set31 (.int .i64 r)
                exact (p2.farT k4 ht 2 _).mono (Nat.le_refl _) (by simp)
              · (repeat (first | exact Below.refl _ _ | assumption | apply Below.drew | apply below_drewN | (refine Below.alloc ?_ (by first | omega | (simp; done) | (simp; omega)) _) | (refine Below.setCell ?_ (by first | omega | (simp; done) | (simp; omega)) _)))


end Go.Proofs.YtnjgmhdmjaijgaaGreat

/- MirrorColours: the plain function, and slices of slices that grow. -/
namespace Go.Proofs.YtnjgmhdmjaijgaaGreat
open Go.RowKit

structure ColX where
  n : Int
  xs : List (List Int)
def mirC (n : Int) (xss : List (List Int)) : ColX := if coloursB n xss then ⟨n, xss.map List.reverse⟩ else ⟨0, []⟩
def mirCode (n : Int) (xss : List (List Int)) : Int := if coloursB n xss then 0 else 1
theorem cntII_le {xss : List (List Int)} {m : Nat} (h : ∀ r ∈ xss, r.length ≤ m) : cntII xss ≤ xss.length * m := by
  induction xss with
  | nil => simp [cntII]
  | cons x r ih =>
    have h1 := h x (by simp)
    have h2 := ih fun y hy => h y (by simp [hy])
    simp only [cntII, List.length_cons, Nat.succ_mul]
    omega
theorem mirC_size (n : Int) (xss : List (List Int)) : (mirC n xss).xs.length ≤ 8 ∧ cntII (mirC n xss).xs ≤ 64 := by
  unfold mirC
  split
  · rename_i hv
    have hv' : coloursB n xss = true := hv
    unfold coloursB at hv'
    simp only [Bool.and_eq_true, List.all_eq_true] at hv'
    have h1 := inR_iff.1 hv'.1.1
    have h2 := inR_iff.1 hv'.1.2
    have h3 : ∀ r ∈ xss.map List.reverse, r.length ≤ 8 := by
      intro r hr
      obtain ⟨x, hx, rfl⟩ := List.mem_map.1 hr
      have := hv'.2 x hx
      unfold rowOfB at this
      simp only [Bool.and_eq_true, decide_eq_true_eq] at this
      rw [List.length_reverse]
      omega
    have h4 := cntII_le h3
    simp only [List.length_map] at h4
    refine ⟨by simp; omega, ?_⟩
    have : xss.length ≤ 8 := by omega
    have := Nat.mul_le_mul_right 8 this
    show cntII (xss.map List.reverse) ≤ 64
    omega
  · simp [cntII]
/-- Another slice, of another type, grows. -/
theorem OwnC.grownT {w w' : World} {lo hi : Nat} {e : TypeId} {sz : Nat} {A : Option Addr} {n c : Nat} {cs : List Value} {lo2 hi2 : Nat} {e2 : TypeId} {sz2 : Nat} {B : Option Addr} {n2 c2 : Nat} {cs2 : List Value}
    (h : OwnC w lo hi e sz A n c cs) (h2 : OwnC w lo2 hi2 e2 sz2 B n2 c2 cs2) (ht : e ≠ e2) (hg : w.grownBy w' (Value.slice B n2 c2).ownBlock) : OwnC w' lo hi e sz A n c cs :=
  h.keepT fun k cur _ _ hk => hg.block k (Array.getElem?_eq_some_iff.1 hk).1 fun e' => by
    rcases h2.form with ⟨rfl, _⟩ | ⟨q, cur, rfl, _, _, hh, _⟩
    · simp [Value.ownBlock] at e'
    · simp [Value.ownBlock] at e'
      subst e'
      rw [hk] at hh
      injection hh with hh
      injection hh with _ hh
      exact ht hh
theorem CellsII.grownT {w w' : World} {lo hi : Nat} {cs : List Value} {xss : List (List Int)} {lo2 hi2 : Nat} {e2 : TypeId} {sz2 : Nat} {B : Option Addr} {n2 c2 : Nat} {cs2 : List Value}
    (h : CellsII w lo hi cs xss) (h2 : OwnC w lo2 hi2 e2 sz2 B n2 c2 cs2) (ht : (2 : TypeId) ≠ e2) (hg : w.grownBy w' (Value.slice B n2 c2).ownBlock) : CellsII w' lo hi cs xss :=
  ⟨h.1, fun k xs hx => by obtain ⟨A', c', h1, h3⟩ := h.2.1 k xs hx; exact ⟨A', c', h1, h3.grownT h2 ht hg⟩, h.2.2⟩
theorem CellsII.farT {w : World} {lo hi : Nat} {cs : List Value} {xss : List (List Int)} {g : Nat} {t : TypeId} {bs : Array Value} (h : CellsII w lo hi cs xss) (hb : Blk w g t bs) (ht : t ≠ 2) (j : Nat) (u : Value) : CellsII (w.setCell ⟨g, j, none⟩ u) lo hi cs xss :=
  ⟨h.1, fun k xs hx => by obtain ⟨A', c', h1, h3⟩ := h.2.1 k xs hx; exact ⟨A', c', h1, h3.farT hb ht j u⟩, h.2.2⟩
theorem Blk.set20 {w : World} {g : Nat} {t : TypeId} {a b : Value} (h : Blk w g t #[a, b]) (u : Value) : Blk (w.setCell ⟨g, 0, none⟩ u) g t #[u, b] := by
  unfold Blk at h ⊢
  simp [World.setCell, Array.getElem?_modify, h]
theorem Blk.set21 {w : World} {g : Nat} {t : TypeId} {a b : Value} (h : Blk w g t #[a, b]) (u : Value) : Blk (w.setCell ⟨g, 1, none⟩ u) g t #[a, u] := by
  unfold Blk at h ⊢
  simp [World.setCell, Array.getElem?_modify, h]


end Go.Proofs.YtnjgmhdmjaijgaaGreat
