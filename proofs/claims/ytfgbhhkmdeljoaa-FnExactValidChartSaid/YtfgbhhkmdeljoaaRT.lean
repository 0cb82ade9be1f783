/- RowLetters. -/
import Derived.Test.YtfgbhhkmdeljoaaSB
namespace Go.Proofs.Ytfgbhhkmdeljoaa
open Go.RowKit

theorem lettersFrom_drop {ks : List Int} {i : Nat} {k c : Int} (h : ks[i]? = some k) : lettersFrom (ks.drop i) c = stLetters k c ++ lettersFrom (ks.drop (i + 1)) (c + takenN k) := by rw [drop_cons h, lettersFrom]
theorem takenP_of {ks : List Int} (h : stitchesB ks = true) : takenP ks = takenS ks := by rw [takenP, if_pos h]
theorem row_stitches {d r : Int} {ks : List Int} (h : rowB d r ks = true) : stitchesB ks = true := by
  unfold rowB at h
  simp only [Bool.and_eq_true] at h
  exact h.2

set_option maxHeartbeats 2000000 in
theorem spec_l18Stitch (k : Int) (c : Nat) (w : World) (hk : isStitchB k = true) (hc : c ≤ 1000) :
    Calls Try.prog 111 #[.int .i64 k, .int .i64 c] w fun e w' => ∃ A' c', e = .returned (.slice A' (stLetters k c).length c') ∧ OwnI w' w.heap.size w'.heap.size A' c' (stLetters k c) ∧ Below w.heap.size w w' := by
  rcases stitch_cases hk with rfl | rfl | rfl | rfl | rfl | rfl | rfl | rfl | rfl | rfl | rfl
  case inr.inr.inr.inr.inl =>
    go_enter Try.func111, Try.ntmps111
    go_wp2_with (fail)
    go_ret
    exact ⟨_, _, rfl, (OwnC.lit (lo := w.heap.size) (n := 1) 2 1 #[.int .i64 (-(c : Int) - 1)] (Nat.le_refl _) (by unfold maxLen; omega) rfl).mono (Nat.le_refl _) (by simp), by (repeat (first | exact Below.refl _ _ | assumption | apply Below.drew | apply below_drewN | (refine Below.alloc ?_ (by first | omega | (simp; done) | (simp; omega)) _) | (refine Below.setCell ?_ (by first | omega | (simp; done) | (simp; omega)) _)))⟩
  case inr.inr.inr.inr.inr.inr.inr.inl =>
    go_enter Try.func111, Try.ntmps111
    go_wp2_with (fail)
    go_ret
    exact ⟨_, _, rfl, (OwnC.lit (lo := w.heap.size) (n := 1) 2 1 #[.int .i64 ((c : Int) + 1)] (Nat.le_refl _) (by unfold maxLen; omega) rfl).mono (Nat.le_refl _) (by simp), by (repeat (first | exact Below.refl _ _ | assumption | apply Below.drew | apply below_drewN | (refine Below.alloc ?_ (by first | omega | (simp; done) | (simp; omega)) _) | (refine Below.setCell ?_ (by first | omega | (simp; done) | (simp; omega)) _)))⟩
  case inr.inr.inr.inr.inr.inr.inr.inr.inl =>
    go_enter Try.func111, Try.ntmps111
    go_wp2_with (fail)
    go_ret
    exact ⟨_, _, rfl, (OwnC.lit (lo := w.heap.size) (n := 1) 2 1 #[.int .i64 (-(c : Int) - 1)] (Nat.le_refl _) (by unfold maxLen; omega) rfl).mono (Nat.le_refl _) (by simp), by (repeat (first | exact Below.refl _ _ | assumption | apply Below.drew | apply below_drewN | (refine Below.alloc ?_ (by first | omega | (simp; done) | (simp; omega)) _) | (refine Below.setCell ?_ (by first | omega | (simp; done) | (simp; omega)) _)))⟩
  case inr.inr.inr.inr.inr.inr.inr.inr.inr.inl =>
    go_enter Try.func111, Try.ntmps111
    go_wp2_with (fail)
    go_ret
    exact ⟨_, _, rfl, (OwnC.lit (lo := w.heap.size) (n := 4) 2 1 #[.int .i64 ((c : Int) + 2), .int .i64 ((c : Int) + 1), .int .i64 ((c : Int) + 3), .int .i64 ((c : Int) + 2)] (Nat.le_refl _) (by unfold maxLen; omega) rfl).mono (Nat.le_refl _) (by simp), by (repeat (first | exact Below.refl _ _ | assumption | apply Below.drew | apply below_drewN | (refine Below.alloc ?_ (by first | omega | (simp; done) | (simp; omega)) _) | (refine Below.setCell ?_ (by first | omega | (simp; done) | (simp; omega)) _)))⟩
  case inr.inr.inr.inr.inr.inr.inr.inr.inr.inr =>
    go_enter Try.func111, Try.ntmps111
    go_wp2_with (fail)
    go_ret
    exact ⟨_, _, rfl, (OwnC.lit (lo := w.heap.size) (n := 4) 2 1 #[.int .i64 (-(c : Int) - 2), .int .i64 (-(c : Int) - 1), .int .i64 (-(c : Int) - 3), .int .i64 (-(c : Int) - 2)] (Nat.le_refl _) (by unfold maxLen; omega) rfl).mono (Nat.le_refl _) (by simp), by (repeat (first | exact Below.refl _ _ | assumption | apply Below.drew | apply below_drewN | (refine Below.alloc ?_ (by first | omega | (simp; done) | (simp; omega)) _) | (refine Below.setCell ?_ (by first | omega | (simp; done) | (simp; omega)) _)))⟩
  all_goals
    go_enter Try.func111, Try.ntmps111
    go_wp2_with (fail)
    go_ret
    exact ⟨_, _, rfl, OwnC.nil _ _ _ _ _, Below.refl _ _⟩

set_option maxHeartbeats 1000000 in
theorem spec_l20Ask (g o : Nat) (d r : Int) (A : Option Addr) (c : Nat) (ks : List Int) (w : World) (h : Ints w A ks) (hl : ks.length ≤ 9223372036854775807)
    (c0 : w.cell? ⟨g, o, none⟩ = some (.int .i64 d)) (c1 : w.cell? ⟨g, o + 1, none⟩ = some (.int .i64 r)) (c2 : w.cell? ⟨g, o + 2, none⟩ = some (.slice A ks.length c)) :
    Calls Try.prog 82 #[.pointer (some ⟨g, o, none⟩)] w fun e w' => e = .returned (.int .i64 (rowCodeP d r ks)) ∧ Below w.heap.size w w' := by
  cases hv : rowB d r ks
  · have HF : Hid (rowCodeP d r ks = 1) := Lib.hid (by simp [rowCodeP, hv])
    go_enter Try.func82, Try.ntmps82
    go_wp2_with (fail)
    refine (spec_l15Row g o d r A c ks _ h hl c0 c1 c2).mono ?_; rintro e _ ⟨rfl, rfl⟩
    go_wp2_with (fail)
    go_ret
    exact ⟨ret_int HF.out.symm, Below.refl _ _⟩
  · cases ht : inR (takenP ks) 1 8
    · have HF : Hid (rowCodeP d r ks = 10) := Lib.hid (by simp [rowCodeP, hv, laidB, ht])
      go_enter Try.func82, Try.ntmps82
      go_wp2_with (fail)
      refine (spec_l15Row g o d r A c ks _ h hl c0 c1 c2).mono ?_; rintro e _ ⟨rfl, rfl⟩
      go_wp2_with (fail)
      refine (spec_TakenBy _ _ _ _ h hl).mono ?_; rintro e w2 ⟨rfl, b2⟩
      go_wp2_with (go_at_call 66; refine (spec_l00In _ _ _ _).mono ?_; rintro e _ ⟨rfl, rfl⟩)
      go_ret
      exact ⟨ret_int HF.out.symm, b2⟩
    · cases hm : inR (madeP ks) 1 8
      · have HF : Hid (rowCodeP d r ks = 10) := Lib.hid (by simp [rowCodeP, hv, laidB, hm])
        go_enter Try.func82, Try.ntmps82
        go_wp2_with (fail)
        refine (spec_l15Row g o d r A c ks _ h hl c0 c1 c2).mono ?_; rintro e _ ⟨rfl, rfl⟩
        go_wp2_with (fail)
        refine (spec_TakenBy _ _ _ _ h hl).mono ?_; rintro e w2 ⟨rfl, b2⟩
        have q2 := cells_below b2 _ _ c2
        go_wp2_with (go_at_call 66; refine (spec_l00In _ _ _ _).mono ?_; rintro e _ ⟨rfl, rfl⟩)
        refine (spec_MadeBy _ _ _ _ (h.below b2) hl).mono ?_; rintro e w3 ⟨rfl, b3⟩
        have hb3 : Below w.heap.size w w3 := b2.trans (b3.mono b2.size)
        go_wp2_with (go_at_call 66; refine (spec_l00In _ _ _ _).mono ?_; rintro e _ ⟨rfl, rfl⟩)
        go_ret
        exact ⟨ret_int HF.out.symm, hb3⟩
      · have HF : Hid (rowCodeP d r ks = 0) := Lib.hid (by simp [rowCodeP, hv, laidB, ht, hm])
        go_enter Try.func82, Try.ntmps82
        go_wp2_with (fail)
        refine (spec_l15Row g o d r A c ks _ h hl c0 c1 c2).mono ?_; rintro e _ ⟨rfl, rfl⟩
        go_wp2_with (fail)
        refine (spec_TakenBy _ _ _ _ h hl).mono ?_; rintro e w2 ⟨rfl, b2⟩
        have q2 := cells_below b2 _ _ c2
        go_wp2_with (go_at_call 66; refine (spec_l00In _ _ _ _).mono ?_; rintro e _ ⟨rfl, rfl⟩)
        refine (spec_MadeBy _ _ _ _ (h.below b2) hl).mono ?_; rintro e w3 ⟨rfl, b3⟩
        have hb3 : Below w.heap.size w w3 := b2.trans (b3.mono b2.size)
        go_wp2_with (go_at_call 66; refine (spec_l00In _ _ _ _).mono ?_; rintro e _ ⟨rfl, rfl⟩)
        go_ret
        exact ⟨ret_int HF.out.symm, hb3⟩

set_option maxHeartbeats 2000000 in
set_option maxRecDepth 10000 in
theorem spec_l18Letters (g o : Nat) (A : Option Addr) (c : Nat) (ks : List Int) (w : World) (h : Ints w A ks) (hs : stitchesB ks = true)
    (c2 : w.cell? ⟨g, o + 2, none⟩ = some (.slice A ks.length c)) :
    Calls Try.prog 77 #[.pointer (some ⟨g, o, none⟩)] w fun e w' => ∃ A' c', e = .returned (.slice A' (lettersFrom ks 0).length c') ∧ OwnI w' w.heap.size w'.heap.size A' c' (lettersFrom ks 0) ∧ Below w.heap.size w w' := by
  obtain ⟨i0, hi0, hz0, hz1, hz2⟩ := info_parts info_int64
  obtain ⟨hl, hst⟩ := stitchesB_of hs
  have hts := (sums_le hst).1
  have HST := Lib.hid hst; clear hst
  have C2 := Lib.hid c2; clear c2
  go_enter Try.func77, Try.ntmps77
  go_wp2_with (fail)
  go_loopw [3, 4, 5] (fun ov tv iv wr => ∃ (i t : Nat) (A' : Option Addr) (c' : Nat) (out : List Int), i ≤ ks.length ∧ iv = .int .i64 i ∧ tv = .int .i64 t ∧ ov = .slice A' out.length c' ∧ OwnI wr w.heap.size wr.heap.size A' c' out ∧ Below w.heap.size w wr ∧ Hid (takenS (ks.take i) = t) ∧ Hid (lettersFrom ks 0 = out ++ lettersFrom (ks.drop i) t) ∧ out.length ≤ 4 * i) (fun _ _ iv _ => ks.length - (intOf iv).toNat)
  case atStart =>
    exact ⟨0, 0, some ⟨w.heap.size, 0, none⟩, 0, [], Nat.zero_le _, rfl, rfl, rfl, (OwnC.lit _ 1 #[] (Nat.le_refl _) (Nat.zero_le _) rfl).mono (Nat.le_refl _) (by simp), by (repeat (first | exact Below.refl _ _ | assumption | apply Below.drew | apply below_drewN | (refine Below.alloc ?_ (by first | omega | (simp; done) | (simp; omega)) _) | (refine Below.setCell ?_ (by first | omega | (simp; done) | (simp; omega)) _))), Lib.hid rfl, Lib.hid (by simp), by simp⟩
  case round =>
    obtain ⟨i, t, A', c', out, hi, rfl, rfl, rfl, ho, hb, HT, HA, hol⟩ := hrel
    have hzs := hb.size
    have q2 := cells_below hb _ _ C2.out
    by_cases hlt : i < ks.length
    · obtain ⟨b, off, k, rfl, hc, hk⟩ := h i hlt
      have hcw := Lib.hid hc
      replace hc := cells_below hb _ _ hc
      have hq := HST.out k (List.mem_of_getElem? hk)
      have hle : t + takenN k ≤ 64 := by have := takenS_at hk; rw [HT.out] at this; omega
      have HT2 : Hid (takenS (ks.take (i + 1)) = t + takenN k) := Lib.hid (by rw [takenS_snoc hk, HT.out])
      have HA2 : Hid (lettersFrom ks 0 = (out ++ stLetters k t) ++ lettersFrom (ks.drop (i + 1)) ((t + takenN k : Nat) : Int)) := Lib.hid (by rw [HA.out, lettersFrom_drop hk, List.append_assoc]; push_cast; rfl)
      have HB : Hid (takenB k = takenN k) := Lib.hid (takenB_of hq)
      have hsl := stLetters_length k t
      clear hk HT HA
      have j1 : (0 : Int) ≤ (i : Int) := by omega
      have j2 : (i : Int) < (ks.length : Int) := by omega
      go_wp2_with (fail)
      refine (spec_l18Stitch k t _ hq (by omega)).mono ?_; rintro e w2 ⟨A2, c3, rfl, o2, b2⟩
      have ho2 := ho.below b2 (Nat.le_refl _)
      have hb2 : Below w.heap.size w w2 := hb.trans (b2.mono hzs)
      have hz2' := b2.size
      generalize stLetters k t = ms at o2 hsl HA2
      go_wp2_with (at_builtin; refine wpList_appendC w2 rfl (.tmp 16) (.tmp 25) _ rfl 2 i0 _ 1 8 Try.underlying33 hi0 hz0 hz1 hz2 rfl (by decide) rfl ho2 (by omega) A2 ms.length c3 (ms.map (Value.int .i64)) rfl (by simp) o2.news (ints_one _) (by unfold maxLen; omega) (by omega) ?_; intro A5 c5 w5 ho5 hg5 hb5; have hbb : Below w.heap.size w w5 := hb2.trans hb5; have q5 := cells_below hbb _ _ C2.out; have hc5 := cells_below hbb _ _ hcw.out)
      refine (spec_ColumnsTaken _ _).mono ?_; rintro e w9 ⟨rfl, b9⟩
      have hbb : Below w.heap.size w w5 := hb2.trans hb5
      have o9 := ho5.below b9 (Nat.le_refl _)
      have hb9 : Below w.heap.size w w9 := hbb.trans (b9.mono hbb.size)
      have z9 := b9.size
      rw [HB.out]
      go_wp2_with (fail)
      go_roundw
      case rel => exact ⟨i + 1, t + takenN k, A5, c5, out ++ ms, by omega, by go_num, by push_cast; go_num, by simp, by show OwnC _ _ _ _ _ _ _ _ _; rw [List.map_append, List.length_append]; exact o9.mono (Nat.le_refl _) z9, hb9, HT2, HA2, by simp; omega⟩
      case measure => simp [intOf]; omega
    · go_wp2_with (fail)
      go_ret
      have he := HA.out
      rw [drop_all (by omega), lettersFrom, List.append_nil] at he
      rw [he]
      exact ⟨_, _, rfl, ho, hb⟩


end Go.Proofs.Ytfgbhhkmdeljoaa
