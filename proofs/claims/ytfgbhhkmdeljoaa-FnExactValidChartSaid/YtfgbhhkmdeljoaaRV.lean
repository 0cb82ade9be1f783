/- slices.Repeat of [1], up to eight times. -/
import Derived.Test.YtfgbhhkmdeljoaaRQ
namespace Go.Proofs.Ytfgbhhkmdeljoaa
open Go.RowKit

theorem bits_Mul8 (b : Int) (w : World) (hb : b = 3 ∨ b = 5 ∨ b = 6 ∨ b = 7 ∨ b = 8) : Calls Try.prog 137 #[.int .u64 1, .int .u64 b] w fun e w' => e = .returned (.tuple #[.int .u64 0, .int .u64 b]) ∧ w = w' := by
  rcases hb with rfl | rfl | rfl | rfl | rfl
  all_goals
    go_enter Try.func137, Try.ntmps137
    go_wp2_with (go_in)
    go_ret2
    exact ⟨rfl, rfl⟩

set_option maxHeartbeats 2000000 in
set_option maxRecDepth 20000 in
theorem slices_Repeat_3 (A : Option Addr) (c : Nat) (w : World) (h : Ints w A [1]) :
    Calls Try.prog 97 #[.slice A 1 c, .int .i64 3] w fun e w' => ∃ A' c', e = .returned (.slice A' (List.replicate 3 (1 : Int)).length c') ∧ OwnI w' w.heap.size w'.heap.size A' c' (List.replicate 3 1) ∧ Below w.heap.size w w' := by
  obtain ⟨i0, hi0, hz0, hz1, hz2⟩ := info_parts info_int64
  have hsz : (Try.prog.info? 2).map (·.size) = some 1 := by rw [hi0]; simp [hz1]
  obtain ⟨b, off, x, rfl, hc, hx⟩ := h 0 (by simp)
  obtain rfl : x = 1 := by simpa using hx.symm
  clear hx
  rw [Nat.add_zero] at hc
  go_enter Try.func97, Try.ntmps97
  go_wp2_with (fail)
  refine (bits_Mul8 _ _ (by omega)).mono ?_; rintro e _ ⟨rfl, rfl⟩
  go_wp2_with (refine wpList_make_full _ rfl _ _ _ rfl w.heap.size 2 i0 _ 1 Try.underlying33 hi0 hz0 hz1 .i64 .i64 _ _ 3 rfl rfl rfl rfl (by rw [hz2]; omega) (by unfold maxLen; omega) (Nat.le_refl _) ?_; intro w3 hown hg)
  have hb3 : Below w.heap.size w w3 := (Below.refl _ _).grown hg (Nat.le_refl _) (by simp)
  have o3 : OwnC w3 w.heap.size w3.heap.size 2 1 (some ⟨w.heap.size, 0, none⟩) 3 3 (ones 0 3) := by
    have := OwnC.of_own hown (Nat.le_refl _)
    simpa [madeCells, Value.cells, ones, List.range_succ] using this
  have h3 : w3.heap[w.heap.size]? = some (.cells (ones 0 3).toArray 2 (0, 0)) := by
    rcases o3.form with ⟨hA, _⟩ | ⟨g, cur, hA, _, _, hh, _, _, hs, ht⟩
    · cases hA
    · injection hA with hA
      injection hA with hA
      subst hA
      rw [hh, ← ht]
      congr 2
      apply Array.ext'
      rw [List.take_of_length_le (by simpa using Nat.le_of_eq hs)]
  have H3 := Lib.hid h3; clear h3 o3 hown hg
  replace hc := cells_below hb3 _ _ hc
  obtain ⟨w4, hcp, h4, hb4⟩ : ∃ w4, (Builtin.copy_ #[33, 33] 3 #[.slice (some ⟨w.heap.size, 0, none⟩) 3 3, .slice (some ⟨b, off, none⟩) 1 c]).run Try.prog w3 = .ok (.int .i64 1) w4 ∧ w4.heap[w.heap.size]? = some (.cells (ones 1 (3 - 1)).toArray 2 (0, 0)) ∧ Below w.heap.size w w4 := by
    have hrun := run_copy_row (P := Try.prog) w3 33 33 3 2 w.heap.size 0 3 3 ⟨b, off, none⟩ 1 c (ones 0 3).toArray 2 [.int .i64 1] Try.underlying33 hsz H3.out (by decide) (src1 hc) (by decide) (by decide)
    refine ⟨_, hrun, ?_, below_setRow hb3 (Nat.le_refl _) _⟩
    exact setRow_heap w3 w.heap.size _ _ 2 _ H3.out
  go_wp2_with (fail)
  rw [hcp]
  go_wp2_with (fail)
  have H4 : Hid (w4.heap[w.heap.size]? = some (.cells (ones 1 (3 - 1)).toArray 2 (0, 0))) := Lib.hid h4
  clear h4 hb3 hc H3
  go_loopw [8] (fun mv wr => ∃ m z : Nat, m + z = 3 ∧ (m = 1 ∨ m = 2 ∨ m = 3) ∧ mv = .int .i64 m ∧ Hid (wr.heap[w.heap.size]? = some (.cells (ones m z).toArray 2 (0, 0))) ∧ Below w.heap.size w wr) (fun mv _ => 3 - (intOf mv).toNat)
  case atStart => exact ⟨1, 3 - 1, rfl, .inl rfl, rfl, H4, hb4⟩
  case round =>
    clear H4 hb4
    obtain ⟨m, z, hmz, hm, rfl, H5, hb5⟩ := hrel
    have hgl : w.heap.size < wr.heap.size := (Array.getElem?_eq_some_iff.1 H5.out).1

    rcases hm with rfl | rfl | rfl
    · obtain rfl : z = 2 := by omega
      go_wp2_with (fail)
      go_region_law (refine step_copy_splice rfl (.tmp 41) (.tmp 44) 33 33 rfl 2 Try.underlying33 hsz (some ⟨w.heap.size, 1, none⟩) (some ⟨w.heap.size, 0, none⟩) 2 2 1 3 (by simp [Act.eval, Act.put]) (by simp [Act.eval, Act.put]) w.heap.size 1 (ones 1 2) 2 (show _ = _ from H5.out) (ones 1 0) (by decide) (fun _ => ⟨rfl, _, rfl, src_of_heap (show wr.heap[w.heap.size]? = _ from H5.out) rfl⟩) (by decide) (by decide) w.heap.size w (Below.drew2 hb5) (Nat.le_refl _) ?_; intro w6 h6 hb6)
      all_goals go_simp
      all_goals (try go_wp2_with (fail))
      all_goals
        refine ⟨⟨2, 1, rfl, by omega, rfl, Lib.hid h6.out, hb6⟩, by first | (simp [intOf, ones]; done) | (simp [intOf, ones]; decide)⟩
    · obtain rfl : z = 1 := by omega
      go_wp2_with (fail)
      go_region_law (refine step_copy_splice rfl (.tmp 41) (.tmp 44) 33 33 rfl 2 Try.underlying33 hsz (some ⟨w.heap.size, 2, none⟩) (some ⟨w.heap.size, 0, none⟩) 1 1 2 3 (by simp [Act.eval, Act.put]) (by simp [Act.eval, Act.put]) w.heap.size 2 (ones 2 1) 2 (show _ = _ from H5.out) (ones 1 0) (by decide) (fun _ => ⟨rfl, _, rfl, src_of_heap (show wr.heap[w.heap.size]? = _ from H5.out) rfl⟩) (by decide) (by decide) w.heap.size w (Below.drew2 hb5) (Nat.le_refl _) ?_; intro w6 h6 hb6)
      all_goals go_simp
      all_goals (try go_wp2_with (fail))
      all_goals
        refine ⟨⟨3, 0, rfl, by omega, rfl, Lib.hid h6.out, hb6⟩, by first | (simp [intOf, ones]; done) | (simp [intOf, ones]; decide)⟩
    · obtain rfl : z = 0 := by omega
      go_wp2_with (fail)
      go_ret
      exact ⟨some ⟨w.heap.size, 0, none⟩, 3, by simp, by have := ones_own (n := 3) (lo := w.heap.size) H5.out (Nat.le_refl _) (by decide); simpa using this, hb5⟩

set_option maxHeartbeats 2000000 in
set_option maxRecDepth 20000 in
theorem slices_Repeat_5 (A : Option Addr) (c : Nat) (w : World) (h : Ints w A [1]) :
    Calls Try.prog 97 #[.slice A 1 c, .int .i64 5] w fun e w' => ∃ A' c', e = .returned (.slice A' (List.replicate 5 (1 : Int)).length c') ∧ OwnI w' w.heap.size w'.heap.size A' c' (List.replicate 5 1) ∧ Below w.heap.size w w' := by
  obtain ⟨i0, hi0, hz0, hz1, hz2⟩ := info_parts info_int64
  have hsz : (Try.prog.info? 2).map (·.size) = some 1 := by rw [hi0]; simp [hz1]
  obtain ⟨b, off, x, rfl, hc, hx⟩ := h 0 (by simp)
  obtain rfl : x = 1 := by simpa using hx.symm
  clear hx
  rw [Nat.add_zero] at hc
  go_enter Try.func97, Try.ntmps97
  go_wp2_with (fail)
  refine (bits_Mul8 _ _ (by omega)).mono ?_; rintro e _ ⟨rfl, rfl⟩
  go_wp2_with (refine wpList_make_full _ rfl _ _ _ rfl w.heap.size 2 i0 _ 1 Try.underlying33 hi0 hz0 hz1 .i64 .i64 _ _ 5 rfl rfl rfl rfl (by rw [hz2]; omega) (by unfold maxLen; omega) (Nat.le_refl _) ?_; intro w3 hown hg)
  have hb3 : Below w.heap.size w w3 := (Below.refl _ _).grown hg (Nat.le_refl _) (by simp)
  have o3 : OwnC w3 w.heap.size w3.heap.size 2 1 (some ⟨w.heap.size, 0, none⟩) 5 5 (ones 0 5) := by
    have := OwnC.of_own hown (Nat.le_refl _)
    simpa [madeCells, Value.cells, ones, List.range_succ] using this
  have h3 : w3.heap[w.heap.size]? = some (.cells (ones 0 5).toArray 2 (0, 0)) := by
    rcases o3.form with ⟨hA, _⟩ | ⟨g, cur, hA, _, _, hh, _, _, hs, ht⟩
    · cases hA
    · injection hA with hA
      injection hA with hA
      subst hA
      rw [hh, ← ht]
      congr 2
      apply Array.ext'
      rw [List.take_of_length_le (by simpa using Nat.le_of_eq hs)]
  have H3 := Lib.hid h3; clear h3 o3 hown hg
  replace hc := cells_below hb3 _ _ hc
  obtain ⟨w4, hcp, h4, hb4⟩ : ∃ w4, (Builtin.copy_ #[33, 33] 3 #[.slice (some ⟨w.heap.size, 0, none⟩) 5 5, .slice (some ⟨b, off, none⟩) 1 c]).run Try.prog w3 = .ok (.int .i64 1) w4 ∧ w4.heap[w.heap.size]? = some (.cells (ones 1 (5 - 1)).toArray 2 (0, 0)) ∧ Below w.heap.size w w4 := by
    have hrun := run_copy_row (P := Try.prog) w3 33 33 3 2 w.heap.size 0 5 5 ⟨b, off, none⟩ 1 c (ones 0 5).toArray 2 [.int .i64 1] Try.underlying33 hsz H3.out (by decide) (src1 hc) (by decide) (by decide)
    refine ⟨_, hrun, ?_, below_setRow hb3 (Nat.le_refl _) _⟩
    exact setRow_heap w3 w.heap.size _ _ 2 _ H3.out
  go_wp2_with (fail)
  rw [hcp]
  go_wp2_with (fail)
  have H4 : Hid (w4.heap[w.heap.size]? = some (.cells (ones 1 (5 - 1)).toArray 2 (0, 0))) := Lib.hid h4
  clear h4 hb3 hc H3
  go_loopw [8] (fun mv wr => ∃ m z : Nat, m + z = 5 ∧ (m = 1 ∨ m = 2 ∨ m = 4 ∨ m = 5) ∧ mv = .int .i64 m ∧ Hid (wr.heap[w.heap.size]? = some (.cells (ones m z).toArray 2 (0, 0))) ∧ Below w.heap.size w wr) (fun mv _ => 5 - (intOf mv).toNat)
  case atStart => exact ⟨1, 5 - 1, rfl, .inl rfl, rfl, H4, hb4⟩
  case round =>
    clear H4 hb4
    obtain ⟨m, z, hmz, hm, rfl, H5, hb5⟩ := hrel
    have hgl : w.heap.size < wr.heap.size := (Array.getElem?_eq_some_iff.1 H5.out).1

    rcases hm with rfl | rfl | rfl | rfl
    · obtain rfl : z = 4 := by omega
      go_wp2_with (fail)
      go_region_law (refine step_copy_splice rfl (.tmp 41) (.tmp 44) 33 33 rfl 2 Try.underlying33 hsz (some ⟨w.heap.size, 1, none⟩) (some ⟨w.heap.size, 0, none⟩) 4 4 1 5 (by simp [Act.eval, Act.put]) (by simp [Act.eval, Act.put]) w.heap.size 1 (ones 1 4) 2 (show _ = _ from H5.out) (ones 1 0) (by decide) (fun _ => ⟨rfl, _, rfl, src_of_heap (show wr.heap[w.heap.size]? = _ from H5.out) rfl⟩) (by decide) (by decide) w.heap.size w (Below.drew2 hb5) (Nat.le_refl _) ?_; intro w6 h6 hb6)
      all_goals go_simp
      all_goals (try go_wp2_with (fail))
      all_goals
        refine ⟨⟨2, 3, rfl, by omega, rfl, Lib.hid h6.out, hb6⟩, by first | (simp [intOf, ones]; done) | (simp [intOf, ones]; decide)⟩
    · obtain rfl : z = 3 := by omega
      go_wp2_with (fail)
      go_region_law (refine step_copy_splice rfl (.tmp 41) (.tmp 44) 33 33 rfl 2 Try.underlying33 hsz (some ⟨w.heap.size, 2, none⟩) (some ⟨w.heap.size, 0, none⟩) 3 3 2 5 (by simp [Act.eval, Act.put]) (by simp [Act.eval, Act.put]) w.heap.size 2 (ones 2 3) 2 (show _ = _ from H5.out) (ones 2 0) (by decide) (fun _ => ⟨rfl, _, rfl, src_of_heap (show wr.heap[w.heap.size]? = _ from H5.out) rfl⟩) (by decide) (by decide) w.heap.size w (Below.drew2 hb5) (Nat.le_refl _) ?_; intro w6 h6 hb6)
      all_goals go_simp
      all_goals (try go_wp2_with (fail))
      all_goals
        refine ⟨⟨4, 1, rfl, by omega, rfl, Lib.hid h6.out, hb6⟩, by first | (simp [intOf, ones]; done) | (simp [intOf, ones]; decide)⟩
    · obtain rfl : z = 1 := by omega
      go_wp2_with (fail)
      go_region_law (refine step_copy_splice rfl (.tmp 41) (.tmp 44) 33 33 rfl 2 Try.underlying33 hsz (some ⟨w.heap.size, 4, none⟩) (some ⟨w.heap.size, 0, none⟩) 1 1 4 5 (by simp [Act.eval, Act.put]) (by simp [Act.eval, Act.put]) w.heap.size 4 (ones 4 1) 2 (show _ = _ from H5.out) (ones 1 0) (by decide) (fun _ => ⟨rfl, _, rfl, src_of_heap (show wr.heap[w.heap.size]? = _ from H5.out) rfl⟩) (by decide) (by decide) w.heap.size w (Below.drew2 hb5) (Nat.le_refl _) ?_; intro w6 h6 hb6)
      all_goals go_simp
      all_goals (try go_wp2_with (fail))
      all_goals
        refine ⟨⟨5, 0, rfl, by omega, rfl, Lib.hid h6.out, hb6⟩, by first | (simp [intOf, ones]; done) | (simp [intOf, ones]; decide)⟩
    · obtain rfl : z = 0 := by omega
      go_wp2_with (fail)
      go_ret
      exact ⟨some ⟨w.heap.size, 0, none⟩, 5, by simp, by have := ones_own (n := 5) (lo := w.heap.size) H5.out (Nat.le_refl _) (by decide); simpa using this, hb5⟩

set_option maxHeartbeats 2000000 in
set_option maxRecDepth 20000 in
theorem slices_Repeat_6 (A : Option Addr) (c : Nat) (w : World) (h : Ints w A [1]) :
    Calls Try.prog 97 #[.slice A 1 c, .int .i64 6] w fun e w' => ∃ A' c', e = .returned (.slice A' (List.replicate 6 (1 : Int)).length c') ∧ OwnI w' w.heap.size w'.heap.size A' c' (List.replicate 6 1) ∧ Below w.heap.size w w' := by
  obtain ⟨i0, hi0, hz0, hz1, hz2⟩ := info_parts info_int64
  have hsz : (Try.prog.info? 2).map (·.size) = some 1 := by rw [hi0]; simp [hz1]
  obtain ⟨b, off, x, rfl, hc, hx⟩ := h 0 (by simp)
  obtain rfl : x = 1 := by simpa using hx.symm
  clear hx
  rw [Nat.add_zero] at hc
  go_enter Try.func97, Try.ntmps97
  go_wp2_with (fail)
  refine (bits_Mul8 _ _ (by omega)).mono ?_; rintro e _ ⟨rfl, rfl⟩
  go_wp2_with (refine wpList_make_full _ rfl _ _ _ rfl w.heap.size 2 i0 _ 1 Try.underlying33 hi0 hz0 hz1 .i64 .i64 _ _ 6 rfl rfl rfl rfl (by rw [hz2]; omega) (by unfold maxLen; omega) (Nat.le_refl _) ?_; intro w3 hown hg)
  have hb3 : Below w.heap.size w w3 := (Below.refl _ _).grown hg (Nat.le_refl _) (by simp)
  have o3 : OwnC w3 w.heap.size w3.heap.size 2 1 (some ⟨w.heap.size, 0, none⟩) 6 6 (ones 0 6) := by
    have := OwnC.of_own hown (Nat.le_refl _)
    simpa [madeCells, Value.cells, ones, List.range_succ] using this
  have h3 : w3.heap[w.heap.size]? = some (.cells (ones 0 6).toArray 2 (0, 0)) := by
    rcases o3.form with ⟨hA, _⟩ | ⟨g, cur, hA, _, _, hh, _, _, hs, ht⟩
    · cases hA
    · injection hA with hA
      injection hA with hA
      subst hA
      rw [hh, ← ht]
      congr 2
      apply Array.ext'
      rw [List.take_of_length_le (by simpa using Nat.le_of_eq hs)]
  have H3 := Lib.hid h3; clear h3 o3 hown hg
  replace hc := cells_below hb3 _ _ hc
  obtain ⟨w4, hcp, h4, hb4⟩ : ∃ w4, (Builtin.copy_ #[33, 33] 3 #[.slice (some ⟨w.heap.size, 0, none⟩) 6 6, .slice (some ⟨b, off, none⟩) 1 c]).run Try.prog w3 = .ok (.int .i64 1) w4 ∧ w4.heap[w.heap.size]? = some (.cells (ones 1 (6 - 1)).toArray 2 (0, 0)) ∧ Below w.heap.size w w4 := by
    have hrun := run_copy_row (P := Try.prog) w3 33 33 3 2 w.heap.size 0 6 6 ⟨b, off, none⟩ 1 c (ones 0 6).toArray 2 [.int .i64 1] Try.underlying33 hsz H3.out (by decide) (src1 hc) (by decide) (by decide)
    refine ⟨_, hrun, ?_, below_setRow hb3 (Nat.le_refl _) _⟩
    exact setRow_heap w3 w.heap.size _ _ 2 _ H3.out
  go_wp2_with (fail)
  rw [hcp]
  go_wp2_with (fail)
  have H4 : Hid (w4.heap[w.heap.size]? = some (.cells (ones 1 (6 - 1)).toArray 2 (0, 0))) := Lib.hid h4
  clear h4 hb3 hc H3
  go_loopw [8] (fun mv wr => ∃ m z : Nat, m + z = 6 ∧ (m = 1 ∨ m = 2 ∨ m = 4 ∨ m = 6) ∧ mv = .int .i64 m ∧ Hid (wr.heap[w.heap.size]? = some (.cells (ones m z).toArray 2 (0, 0))) ∧ Below w.heap.size w wr) (fun mv _ => 6 - (intOf mv).toNat)
  case atStart => exact ⟨1, 6 - 1, rfl, .inl rfl, rfl, H4, hb4⟩
  case round =>
    clear H4 hb4
    obtain ⟨m, z, hmz, hm, rfl, H5, hb5⟩ := hrel
    have hgl : w.heap.size < wr.heap.size := (Array.getElem?_eq_some_iff.1 H5.out).1

    rcases hm with rfl | rfl | rfl | rfl
    · obtain rfl : z = 5 := by omega
      go_wp2_with (fail)
      go_region_law (refine step_copy_splice rfl (.tmp 41) (.tmp 44) 33 33 rfl 2 Try.underlying33 hsz (some ⟨w.heap.size, 1, none⟩) (some ⟨w.heap.size, 0, none⟩) 5 5 1 6 (by simp [Act.eval, Act.put]) (by simp [Act.eval, Act.put]) w.heap.size 1 (ones 1 5) 2 (show _ = _ from H5.out) (ones 1 0) (by decide) (fun _ => ⟨rfl, _, rfl, src_of_heap (show wr.heap[w.heap.size]? = _ from H5.out) rfl⟩) (by decide) (by decide) w.heap.size w (Below.drew2 hb5) (Nat.le_refl _) ?_; intro w6 h6 hb6)
      all_goals go_simp
      all_goals (try go_wp2_with (fail))
      all_goals
        refine ⟨⟨2, 4, rfl, by omega, rfl, Lib.hid h6.out, hb6⟩, by first | (simp [intOf, ones]; done) | (simp [intOf, ones]; decide)⟩
    · obtain rfl : z = 4 := by omega
      go_wp2_with (fail)
      go_region_law (refine step_copy_splice rfl (.tmp 41) (.tmp 44) 33 33 rfl 2 Try.underlying33 hsz (some ⟨w.heap.size, 2, none⟩) (some ⟨w.heap.size, 0, none⟩) 4 4 2 6 (by simp [Act.eval, Act.put]) (by simp [Act.eval, Act.put]) w.heap.size 2 (ones 2 4) 2 (show _ = _ from H5.out) (ones 2 0) (by decide) (fun _ => ⟨rfl, _, rfl, src_of_heap (show wr.heap[w.heap.size]? = _ from H5.out) rfl⟩) (by decide) (by decide) w.heap.size w (Below.drew2 hb5) (Nat.le_refl _) ?_; intro w6 h6 hb6)
      all_goals go_simp
      all_goals (try go_wp2_with (fail))
      all_goals
        refine ⟨⟨4, 2, rfl, by omega, rfl, Lib.hid h6.out, hb6⟩, by first | (simp [intOf, ones]; done) | (simp [intOf, ones]; decide)⟩
    · obtain rfl : z = 2 := by omega
      go_wp2_with (fail)
      go_region_law (refine step_copy_splice rfl (.tmp 41) (.tmp 44) 33 33 rfl 2 Try.underlying33 hsz (some ⟨w.heap.size, 4, none⟩) (some ⟨w.heap.size, 0, none⟩) 2 2 4 6 (by simp [Act.eval, Act.put]) (by simp [Act.eval, Act.put]) w.heap.size 4 (ones 4 2) 2 (show _ = _ from H5.out) (ones 2 0) (by decide) (fun _ => ⟨rfl, _, rfl, src_of_heap (show wr.heap[w.heap.size]? = _ from H5.out) rfl⟩) (by decide) (by decide) w.heap.size w (Below.drew2 hb5) (Nat.le_refl _) ?_; intro w6 h6 hb6)
      all_goals go_simp
      all_goals (try go_wp2_with (fail))
      all_goals
        refine ⟨⟨6, 0, rfl, by omega, rfl, Lib.hid h6.out, hb6⟩, by first | (simp [intOf, ones]; done) | (simp [intOf, ones]; decide)⟩
    · obtain rfl : z = 0 := by omega
      go_wp2_with (fail)
      go_ret
      exact ⟨some ⟨w.heap.size, 0, none⟩, 6, by simp, by have := ones_own (n := 6) (lo := w.heap.size) H5.out (Nat.le_refl _) (by decide); simpa using this, hb5⟩

set_option maxHeartbeats 2000000 in
set_option maxRecDepth 20000 in
theorem slices_Repeat_7 (A : Option Addr) (c : Nat) (w : World) (h : Ints w A [1]) :
    Calls Try.prog 97 #[.slice A 1 c, .int .i64 7] w fun e w' => ∃ A' c', e = .returned (.slice A' (List.replicate 7 (1 : Int)).length c') ∧ OwnI w' w.heap.size w'.heap.size A' c' (List.replicate 7 1) ∧ Below w.heap.size w w' := by
  obtain ⟨i0, hi0, hz0, hz1, hz2⟩ := info_parts info_int64
  have hsz : (Try.prog.info? 2).map (·.size) = some 1 := by rw [hi0]; simp [hz1]
  obtain ⟨b, off, x, rfl, hc, hx⟩ := h 0 (by simp)
  obtain rfl : x = 1 := by simpa using hx.symm
  clear hx
  rw [Nat.add_zero] at hc
  go_enter Try.func97, Try.ntmps97
  go_wp2_with (fail)
  refine (bits_Mul8 _ _ (by omega)).mono ?_; rintro e _ ⟨rfl, rfl⟩
  go_wp2_with (refine wpList_make_full _ rfl _ _ _ rfl w.heap.size 2 i0 _ 1 Try.underlying33 hi0 hz0 hz1 .i64 .i64 _ _ 7 rfl rfl rfl rfl (by rw [hz2]; omega) (by unfold maxLen; omega) (Nat.le_refl _) ?_; intro w3 hown hg)
  have hb3 : Below w.heap.size w w3 := (Below.refl _ _).grown hg (Nat.le_refl _) (by simp)
  have o3 : OwnC w3 w.heap.size w3.heap.size 2 1 (some ⟨w.heap.size, 0, none⟩) 7 7 (ones 0 7) := by
    have := OwnC.of_own hown (Nat.le_refl _)
    simpa [madeCells, Value.cells, ones, List.range_succ] using this
  have h3 : w3.heap[w.heap.size]? = some (.cells (ones 0 7).toArray 2 (0, 0)) := by
    rcases o3.form with ⟨hA, _⟩ | ⟨g, cur, hA, _, _, hh, _, _, hs, ht⟩
    · cases hA
    · injection hA with hA
      injection hA with hA
      subst hA
      rw [hh, ← ht]
      congr 2
      apply Array.ext'
      rw [List.take_of_length_le (by simpa using Nat.le_of_eq hs)]
  have H3 := Lib.hid h3; clear h3 o3 hown hg
  replace hc := cells_below hb3 _ _ hc
  obtain ⟨w4, hcp, h4, hb4⟩ : ∃ w4, (Builtin.copy_ #[33, 33] 3 #[.slice (some ⟨w.heap.size, 0, none⟩) 7 7, .slice (some ⟨b, off, none⟩) 1 c]).run Try.prog w3 = .ok (.int .i64 1) w4 ∧ w4.heap[w.heap.size]? = some (.cells (ones 1 (7 - 1)).toArray 2 (0, 0)) ∧ Below w.heap.size w w4 := by
    have hrun := run_copy_row (P := Try.prog) w3 33 33 3 2 w.heap.size 0 7 7 ⟨b, off, none⟩ 1 c (ones 0 7).toArray 2 [.int .i64 1] Try.underlying33 hsz H3.out (by decide) (src1 hc) (by decide) (by decide)
    refine ⟨_, hrun, ?_, below_setRow hb3 (Nat.le_refl _) _⟩
    exact setRow_heap w3 w.heap.size _ _ 2 _ H3.out
  go_wp2_with (fail)
  rw [hcp]
  go_wp2_with (fail)
  have H4 : Hid (w4.heap[w.heap.size]? = some (.cells (ones 1 (7 - 1)).toArray 2 (0, 0))) := Lib.hid h4
  clear h4 hb3 hc H3
  go_loopw [8] (fun mv wr => ∃ m z : Nat, m + z = 7 ∧ (m = 1 ∨ m = 2 ∨ m = 4 ∨ m = 7) ∧ mv = .int .i64 m ∧ Hid (wr.heap[w.heap.size]? = some (.cells (ones m z).toArray 2 (0, 0))) ∧ Below w.heap.size w wr) (fun mv _ => 7 - (intOf mv).toNat)
  case atStart => exact ⟨1, 7 - 1, rfl, .inl rfl, rfl, H4, hb4⟩
  case round =>
    clear H4 hb4
    obtain ⟨m, z, hmz, hm, rfl, H5, hb5⟩ := hrel
    have hgl : w.heap.size < wr.heap.size := (Array.getElem?_eq_some_iff.1 H5.out).1

    rcases hm with rfl | rfl | rfl | rfl
    · obtain rfl : z = 6 := by omega
      go_wp2_with (fail)
      go_region_law (refine step_copy_splice rfl (.tmp 41) (.tmp 44) 33 33 rfl 2 Try.underlying33 hsz (some ⟨w.heap.size, 1, none⟩) (some ⟨w.heap.size, 0, none⟩) 6 6 1 7 (by simp [Act.eval, Act.put]) (by simp [Act.eval, Act.put]) w.heap.size 1 (ones 1 6) 2 (show _ = _ from H5.out) (ones 1 0) (by decide) (fun _ => ⟨rfl, _, rfl, src_of_heap (show wr.heap[w.heap.size]? = _ from H5.out) rfl⟩) (by decide) (by decide) w.heap.size w (Below.drew2 hb5) (Nat.le_refl _) ?_; intro w6 h6 hb6)
      all_goals go_simp
      all_goals (try go_wp2_with (fail))
      all_goals
        refine ⟨⟨2, 5, rfl, by omega, rfl, Lib.hid h6.out, hb6⟩, by first | (simp [intOf, ones]; done) | (simp [intOf, ones]; decide)⟩
    · obtain rfl : z = 5 := by omega
      go_wp2_with (fail)
      go_region_law (refine step_copy_splice rfl (.tmp 41) (.tmp 44) 33 33 rfl 2 Try.underlying33 hsz (some ⟨w.heap.size, 2, none⟩) (some ⟨w.heap.size, 0, none⟩) 5 5 2 7 (by simp [Act.eval, Act.put]) (by simp [Act.eval, Act.put]) w.heap.size 2 (ones 2 5) 2 (show _ = _ from H5.out) (ones 2 0) (by decide) (fun _ => ⟨rfl, _, rfl, src_of_heap (show wr.heap[w.heap.size]? = _ from H5.out) rfl⟩) (by decide) (by decide) w.heap.size w (Below.drew2 hb5) (Nat.le_refl _) ?_; intro w6 h6 hb6)
      all_goals go_simp
      all_goals (try go_wp2_with (fail))
      all_goals
        refine ⟨⟨4, 3, rfl, by omega, rfl, Lib.hid h6.out, hb6⟩, by first | (simp [intOf, ones]; done) | (simp [intOf, ones]; decide)⟩
    · obtain rfl : z = 3 := by omega
      go_wp2_with (fail)
      go_region_law (refine step_copy_splice rfl (.tmp 41) (.tmp 44) 33 33 rfl 2 Try.underlying33 hsz (some ⟨w.heap.size, 4, none⟩) (some ⟨w.heap.size, 0, none⟩) 3 3 4 7 (by simp [Act.eval, Act.put]) (by simp [Act.eval, Act.put]) w.heap.size 4 (ones 4 3) 2 (show _ = _ from H5.out) (ones 3 0) (by decide) (fun _ => ⟨rfl, _, rfl, src_of_heap (show wr.heap[w.heap.size]? = _ from H5.out) rfl⟩) (by decide) (by decide) w.heap.size w (Below.drew2 hb5) (Nat.le_refl _) ?_; intro w6 h6 hb6)
      all_goals go_simp
      all_goals (try go_wp2_with (fail))
      all_goals
        refine ⟨⟨7, 0, rfl, by omega, rfl, Lib.hid h6.out, hb6⟩, by first | (simp [intOf, ones]; done) | (simp [intOf, ones]; decide)⟩
    · obtain rfl : z = 0 := by omega
      go_wp2_with (fail)
      go_ret
      exact ⟨some ⟨w.heap.size, 0, none⟩, 7, by simp, by have := ones_own (n := 7) (lo := w.heap.size) H5.out (Nat.le_refl _) (by decide); simpa using this, hb5⟩

set_option maxHeartbeats 2000000 in
set_option maxRecDepth 20000 in
theorem slices_Repeat_8 (A : Option Addr) (c : Nat) (w : World) (h : Ints w A [1]) :
    Calls Try.prog 97 #[.slice A 1 c, .int .i64 8] w fun e w' => ∃ A' c', e = .returned (.slice A' (List.replicate 8 (1 : Int)).length c') ∧ OwnI w' w.heap.size w'.heap.size A' c' (List.replicate 8 1) ∧ Below w.heap.size w w' := by
  obtain ⟨i0, hi0, hz0, hz1, hz2⟩ := info_parts info_int64
  have hsz : (Try.prog.info? 2).map (·.size) = some 1 := by rw [hi0]; simp [hz1]
  obtain ⟨b, off, x, rfl, hc, hx⟩ := h 0 (by simp)
  obtain rfl : x = 1 := by simpa using hx.symm
  clear hx
  rw [Nat.add_zero] at hc
  go_enter Try.func97, Try.ntmps97
  go_wp2_with (fail)
  refine (bits_Mul8 _ _ (by omega)).mono ?_; rintro e _ ⟨rfl, rfl⟩
  go_wp2_with (refine wpList_make_full _ rfl _ _ _ rfl w.heap.size 2 i0 _ 1 Try.underlying33 hi0 hz0 hz1 .i64 .i64 _ _ 8 rfl rfl rfl rfl (by rw [hz2]; omega) (by unfold maxLen; omega) (Nat.le_refl _) ?_; intro w3 hown hg)
  have hb3 : Below w.heap.size w w3 := (Below.refl _ _).grown hg (Nat.le_refl _) (by simp)
  have o3 : OwnC w3 w.heap.size w3.heap.size 2 1 (some ⟨w.heap.size, 0, none⟩) 8 8 (ones 0 8) := by
    have := OwnC.of_own hown (Nat.le_refl _)
    simpa [madeCells, Value.cells, ones, List.range_succ] using this
  have h3 : w3.heap[w.heap.size]? = some (.cells (ones 0 8).toArray 2 (0, 0)) := by
    rcases o3.form with ⟨hA, _⟩ | ⟨g, cur, hA, _, _, hh, _, _, hs, ht⟩
    · cases hA
    · injection hA with hA
      injection hA with hA
      subst hA
      rw [hh, ← ht]
      congr 2
      apply Array.ext'
      rw [List.take_of_length_le (by simpa using Nat.le_of_eq hs)]
  have H3 := Lib.hid h3; clear h3 o3 hown hg
  replace hc := cells_below hb3 _ _ hc
  obtain ⟨w4, hcp, h4, hb4⟩ : ∃ w4, (Builtin.copy_ #[33, 33] 3 #[.slice (some ⟨w.heap.size, 0, none⟩) 8 8, .slice (some ⟨b, off, none⟩) 1 c]).run Try.prog w3 = .ok (.int .i64 1) w4 ∧ w4.heap[w.heap.size]? = some (.cells (ones 1 (8 - 1)).toArray 2 (0, 0)) ∧ Below w.heap.size w w4 := by
    have hrun := run_copy_row (P := Try.prog) w3 33 33 3 2 w.heap.size 0 8 8 ⟨b, off, none⟩ 1 c (ones 0 8).toArray 2 [.int .i64 1] Try.underlying33 hsz H3.out (by decide) (src1 hc) (by decide) (by decide)
    refine ⟨_, hrun, ?_, below_setRow hb3 (Nat.le_refl _) _⟩
    exact setRow_heap w3 w.heap.size _ _ 2 _ H3.out
  go_wp2_with (fail)
  rw [hcp]
  go_wp2_with (fail)
  have H4 : Hid (w4.heap[w.heap.size]? = some (.cells (ones 1 (8 - 1)).toArray 2 (0, 0))) := Lib.hid h4
  clear h4 hb3 hc H3
  go_loopw [8] (fun mv wr => ∃ m z : Nat, m + z = 8 ∧ (m = 1 ∨ m = 2 ∨ m = 4 ∨ m = 8) ∧ mv = .int .i64 m ∧ Hid (wr.heap[w.heap.size]? = some (.cells (ones m z).toArray 2 (0, 0))) ∧ Below w.heap.size w wr) (fun mv _ => 8 - (intOf mv).toNat)
  case atStart => exact ⟨1, 8 - 1, rfl, .inl rfl, rfl, H4, hb4⟩
  case round =>
    clear H4 hb4
    obtain ⟨m, z, hmz, hm, rfl, H5, hb5⟩ := hrel
    have hgl : w.heap.size < wr.heap.size := (Array.getElem?_eq_some_iff.1 H5.out).1

    rcases hm with rfl | rfl | rfl | rfl
    · obtain rfl : z = 7 := by omega
      go_wp2_with (fail)
      go_region_law (refine step_copy_splice rfl (.tmp 41) (.tmp 44) 33 33 rfl 2 Try.underlying33 hsz (some ⟨w.heap.size, 1, none⟩) (some ⟨w.heap.size, 0, none⟩) 7 7 1 8 (by simp [Act.eval, Act.put]) (by simp [Act.eval, Act.put]) w.heap.size 1 (ones 1 7) 2 (show _ = _ from H5.out) (ones 1 0) (by decide) (fun _ => ⟨rfl, _, rfl, src_of_heap (show wr.heap[w.heap.size]? = _ from H5.out) rfl⟩) (by decide) (by decide) w.heap.size w (Below.drew2 hb5) (Nat.le_refl _) ?_; intro w6 h6 hb6)
      all_goals go_simp
      all_goals (try go_wp2_with (fail))
      all_goals
        refine ⟨⟨2, 6, rfl, by omega, rfl, Lib.hid h6.out, hb6⟩, by first | (simp [intOf, ones]; done) | (simp [intOf, ones]; decide)⟩
    · obtain rfl : z = 6 := by omega
      go_wp2_with (fail)
      go_region_law (refine step_copy_splice rfl (.tmp 41) (.tmp 44) 33 33 rfl 2 Try.underlying33 hsz (some ⟨w.heap.size, 2, none⟩) (some ⟨w.heap.size, 0, none⟩) 6 6 2 8 (by simp [Act.eval, Act.put]) (by simp [Act.eval, Act.put]) w.heap.size 2 (ones 2 6) 2 (show _ = _ from H5.out) (ones 2 0) (by decide) (fun _ => ⟨rfl, _, rfl, src_of_heap (show wr.heap[w.heap.size]? = _ from H5.out) rfl⟩) (by decide) (by decide) w.heap.size w (Below.drew2 hb5) (Nat.le_refl _) ?_; intro w6 h6 hb6)
      all_goals go_simp
      all_goals (try go_wp2_with (fail))
      all_goals
        refine ⟨⟨4, 4, rfl, by omega, rfl, Lib.hid h6.out, hb6⟩, by first | (simp [intOf, ones]; done) | (simp [intOf, ones]; decide)⟩
    · obtain rfl : z = 4 := by omega
      go_wp2_with (fail)
      go_region_law (refine step_copy_splice rfl (.tmp 41) (.tmp 44) 33 33 rfl 2 Try.underlying33 hsz (some ⟨w.heap.size, 4, none⟩) (some ⟨w.heap.size, 0, none⟩) 4 4 4 8 (by simp [Act.eval, Act.put]) (by simp [Act.eval, Act.put]) w.heap.size 4 (ones 4 4) 2 (show _ = _ from H5.out) (ones 4 0) (by decide) (fun _ => ⟨rfl, _, rfl, src_of_heap (show wr.heap[w.heap.size]? = _ from H5.out) rfl⟩) (by decide) (by decide) w.heap.size w (Below.drew2 hb5) (Nat.le_refl _) ?_; intro w6 h6 hb6)
      all_goals go_simp
      all_goals (try go_wp2_with (fail))
      all_goals
        refine ⟨⟨8, 0, rfl, by omega, rfl, Lib.hid h6.out, hb6⟩, by first | (simp [intOf, ones]; done) | (simp [intOf, ones]; decide)⟩
    · obtain rfl : z = 0 := by omega
      go_wp2_with (fail)
      go_ret
      exact ⟨some ⟨w.heap.size, 0, none⟩, 8, by simp, by have := ones_own (n := 8) (lo := w.heap.size) H5.out (Nat.le_refl _) (by decide); simpa using this, hb5⟩

theorem slices_Repeat_n (n : Nat) (h1 : 1 ≤ n) (h8 : n ≤ 8) (A : Option Addr) (c : Nat) (w : World) (h : Ints w A [1]) :
    Calls Try.prog 97 #[.slice A 1 c, .int .i64 n] w fun e w' => ∃ A' c', e = .returned (.slice A' (List.replicate n (1 : Int)).length c') ∧ OwnI w' w.heap.size w'.heap.size A' c' (List.replicate n 1) ∧ Below w.heap.size w w' := by
  have : n = 1 ∨ n = 2 ∨ n = 3 ∨ n = 4 ∨ n = 5 ∨ n = 6 ∨ n = 7 ∨ n = 8 := by omega
  rcases this with rfl | rfl | rfl | rfl | rfl | rfl | rfl | rfl
  · exact slices_Repeat_1 A c w h
  · exact slices_Repeat_2 A c w h
  · exact slices_Repeat_3 A c w h
  · exact slices_Repeat_4 A c w h
  · exact slices_Repeat_5 A c w h
  · exact slices_Repeat_6 A c w h
  · exact slices_Repeat_7 A c w h
  · exact slices_Repeat_8 A c w h


end Go.Proofs.Ytfgbhhkmdeljoaa
