/- Steps of the proof, joined from several texts: RV TM XA. -/
import Derived.Test.YtnjgmhdmjaijgaaGreatDoorZ4
import Derived.Test.YtnjgmhdmjaijgaaGreatDoorZ7
import Derived.Test.YtnjgmhdmjaijgaaGreatDoorZ6

/- slices.Repeat of [1], up to eight times. -/
namespace Go.Proofs.YtnjgmhdmjaijgaaGreatDoor
open Go.RowKit

theorem bits_Mul8 (b : Int) (w : World) (hb : b = 3 ∨ b = 5 ∨ b = 6 ∨ b = 7 ∨ b = 8) : Calls Tryz.prog 88 #[.int .u64 1, .int .u64 b] w fun e w' => e = .returned (.tuple #[.int .u64 0, .int .u64 b]) ∧ w = w' := by
  rcases hb with rfl | rfl | rfl | rfl | rfl
  all_goals
    go_enter Tryz.func88, Tryz.ntmps88
    go_wp2_with (go_in)
    go_ret2
    exact ⟨rfl, rfl⟩

set_option maxHeartbeats 2000000 in
set_option maxRecDepth 20000 in
theorem slices_Repeat_3 (A : Option Addr) (c : Nat) (w : World) (h : Ints w A [1]) :
    Calls Tryz.prog 60 #[.slice A 1 c, .int .i64 3] w fun e w' => ∃ A' c', e = .returned (.slice A' (List.replicate 3 (1 : Int)).length c') ∧ OwnI w' w.heap.size w'.heap.size A' c' (List.replicate 3 1) ∧ Below w.heap.size w w' := by
  obtain ⟨i0, hi0, hz0, hz1, hz2⟩ := info_parts info_int64
  have hsz : (Tryz.prog.info? 2).map (·.size) = some 1 := by rw [hi0]; simp [hz1]
  obtain ⟨b, off, x, rfl, hc, hx⟩ := h 0 (by simp)
  obtain rfl : x = 1 := by simpa using hx.symm
  clear hx
  rw [Nat.add_zero] at hc
  go_enter Tryz.func60, Tryz.ntmps60
  go_wp2_with (fail)
  refine (bits_Mul8 _ _ (by omega)).mono ?_; rintro e _ ⟨rfl, rfl⟩
  go_wp2_with (refine wpList_make_full _ rfl _ _ _ rfl w.heap.size 2 i0 _ 1 Tryz.underlying34 hi0 hz0 hz1 .i64 .i64 _ _ 3 rfl rfl rfl rfl (by rw [hz2]; omega) (by unfold maxLen; omega) (Nat.le_refl _) ?_; intro w3 hown hg)
  have hb3 : Below w.heap.size w w3 := (Below.refl _ _).grown hg (Nat.le_refl _) (by simp)
  have o3 : OwnC w3 w.heap.size w3.heap.size 2 1 (some ⟨w.heap.size, 0, none⟩) 3 3 (ones 0 3) := by
    have := OwnC.of_own hown (Nat.le_refl _)
    simpa [madeCells, Value.cells, ones, List.range_succ] using this
  have h3 : w3.heap[w.heap.size]? = some (.cells (ones 0 3).toArray 2 (0, 0)) := by
    rcases o3.form with ⟨hA, _⟩ | ⟨g, cur, hA, _, _, hh, _, _, hs, ht⟩
    · cases hA
    · injection hA with hA
      injection hA with hA
      subst hA
      rw [hh, ← ht]
      congr 2
      apply Array.ext'
      rw [List.take_of_length_le (by simpa using Nat.le_of_eq hs)]
  have H3 := Lib.hid h3; clear h3 o3 hown hg
  replace hc := cells_below hb3 _ _ hc
  obtain ⟨w4, hcp, h4, hb4⟩ : ∃ w4, (Builtin.copy_ #[34, 34] 3 #[.slice (some ⟨w.heap.size, 0, none⟩) 3 3, .slice (some ⟨b, off, none⟩) 1 c]).run Tryz.prog w3 = .ok (.int .i64 1) w4 ∧ w4.heap[w.heap.size]? = some (.cells (ones 1 (3 - 1)).toArray 2 (0, 0)) ∧ Below w.heap.size w w4 := by
    have hrun := run_copy_row (P := Tryz.prog) w3 34 34 3 2 w.heap.size 0 3 3 ⟨b, off, none⟩ 1 c (ones 0 3).toArray 2 [.int .i64 1] Tryz.underlying34 hsz H3.out (by decide) (src1 hc) (by decide) (by decide)
    refine ⟨_, hrun, ?_, below_setRow hb3 (Nat.le_refl _) _⟩
    exact setRow_heap w3 w.heap.size _ _ 2 _ H3.out
  go_wp2_with (fail)
  rw [hcp]
  go_wp2_with (fail)
  have H4 : Hid (w4.heap[w.heap.size]? = some (.cells (ones 1 (3 - 1)).toArray 2 (0, 0))) := Lib.hid h4
  clear h4 hb3 hc H3
  go_loopw [8] (fun mv wr => ∃ m z : Nat, m + z = 3 ∧ (m = 1 ∨ m = 2 ∨ m = 3) ∧ mv = .int .i64 m ∧ Hid (wr.heap[w.heap.size]? = some (.cells (ones m z).toArray 2 (0, 0))) ∧ Below w.heap.size w wr) (fun mv _ => 3 - (intOf mv).toNat)
  case atStart => exact ⟨1, 3 - 1, rfl, .inl rfl, rfl, H4, hb4⟩
  case round =>
    clear H4 hb4
    obtain ⟨m, z, hmz, hm, rfl, H5, hb5⟩ := hrel
    have hgl : w.heap.size < wr.heap.size := (Array.getElem?_eq_some_iff.1 H5.out).1

    rcases hm with rfl | rfl | rfl
    · obtain rfl : z = 2 := by omega
      go_wp2_with (fail)
      go_region_law (refine step_copy_splice rfl (.tmp 41) (.tmp 44) 34 34 rfl 2 Tryz.underlying34 hsz (some ⟨w.heap.size, 1, none⟩) (some ⟨w.heap.size, 0, none⟩) 2 2 1 3 (by simp [Act.eval, Act.put]) (by simp [Act.eval, Act.put]) w.heap.size 1 (ones 1 2) 2 (show _ = _ from H5.out) (ones 1 0) (by decide) (fun _ => ⟨rfl, _, rfl, src_of_heap (show wr.heap[w.heap.size]? = _ from H5.out) rfl⟩) (by decide) (by decide) w.heap.size w (Below.drew2 hb5) (Nat.le_refl _) ?_; intro w6 h6 hb6)
      all_goals go_simp
      all_goals (try go_wp2_with (fail))
      all_goals
        refine ⟨⟨2, 1, rfl, by omega, rfl, Lib.hid h6.out, hb6⟩, by first | (simp [intOf, ones]; done) | (simp [intOf, ones]; decide)⟩
    · obtain rfl : z = 1 := by omega
      go_wp2_with (fail)
      go_region_law (refine step_copy_splice rfl (.tmp 41) (.tmp 44) 34 34 rfl 2 Tryz.underlying34 hsz (some ⟨w.heap.size, 2, none⟩) (some ⟨w.heap.size, 0, none⟩) 1 1 2 3 (by simp [Act.eval, Act.put]) (by simp [Act.eval, Act.put]) w.heap.size 2 (ones 2 1) 2 (show _ = _ from H5.out) (ones 1 0) (by decide) (fun _ => ⟨rfl, _, rfl, src_of_heap (show wr.heap[w.heap.size]? = _ from H5.out) rfl⟩) (by decide) (by decide) w.heap.size w (Below.drew2 hb5) (Nat.le_refl _) ?_; intro w6 h6 hb6)
      all_goals go_simp
      all_goals (try go_wp2_with (fail))
      all_goals
        refine ⟨⟨3, 0, rfl, by omega, rfl, Lib.hid h6.out, hb6⟩, by first | (simp [intOf, ones]; done) | (simp [intOf, ones]; decide)⟩
    · obtain rfl : z = 0 := by omega
      go_wp2_with (fail)
      go_ret
      exact ⟨some ⟨w.heap.size, 0, none⟩, 3, by simp, by have := ones_own (n := 3) (lo := w.heap.size) H5.out (Nat.le_refl _) (by decide); simpa using this, hb5⟩

set_option maxHeartbeats 2000000 in
set_option maxRecDepth 20000 in
theorem slices_Repeat_5 (A : Option Addr) (c : Nat) (w : World) (h : Ints w A [1]) :
    Calls Tryz.prog 60 #[.slice A 1 c, .int .i64 5] w fun e w' => ∃ A' c', e = .returned (.slice A' (List.replicate 5 (1 : Int)).length c') ∧ OwnI w' w.heap.size w'.heap.size A' c' (List.replicate 5 1) ∧ Below w.heap.size w w' := by
  obtain ⟨i0, hi0, hz0, hz1, hz2⟩ := info_parts info_int64
  have hsz : (Tryz.prog.info? 2).map (·.size) = some 1 := by rw [hi0]; simp [hz1]
  obtain ⟨b, off, x, rfl, hc, hx⟩ := h 0 (by simp)
  obtain rfl : x = 1 := by simpa using hx.symm
  clear hx
  rw [Nat.add_zero] at hc
  go_enter Tryz.func60, Tryz.ntmps60
  go_wp2_with (fail)
  refine (bits_Mul8 _ _ (by omega)).mono ?_; rintro e _ ⟨rfl, rfl⟩
  go_wp2_with (refine wpList_make_full _ rfl _ _ _ rfl w.heap.size 2 i0 _ 1 Tryz.underlying34 hi0 hz0 hz1 .i64 .i64 _ _ 5 rfl rfl rfl rfl (by rw [hz2]; omega) (by unfold maxLen; omega) (Nat.le_refl _) ?_; intro w3 hown hg)
  have hb3 : Below w.heap.size w w3 := (Below.refl _ _).grown hg (Nat.le_refl _) (by simp)
  have o3 : OwnC w3 w.heap.size w3.heap.size 2 1 (some ⟨w.heap.size, 0, none⟩) 5 5 (ones 0 5) := by
    have := OwnC.of_own hown (Nat.le_refl _)
    simpa [madeCells, Value.cells, ones, List.range_succ] using this
  have h3 : w3.heap[w.heap.size]? = some (.cells (ones 0 5).toArray 2 (0, 0)) := by
    rcases o3.form with ⟨hA, _⟩ | ⟨g, cur, hA, _, _, hh, _, _, hs, ht⟩
    · cases hA
    · injection hA with hA
      injection hA with hA
      subst hA
      rw [hh, ← ht]
      congr 2
      apply Array.ext'
      rw [List.take_of_length_le (by simpa using Nat.le_of_eq hs)]
  have H3 := Lib.hid h3; clear h3 o3 hown hg
  replace hc := cells_below hb3 _ _ hc
  obtain ⟨w4, hcp, h4, hb4⟩ : ∃ w4, (Builtin.copy_ #[34, 34] 3 #[.slice (some ⟨w.heap.size, 0, none⟩) 5 5, .slice (some ⟨b, off, none⟩) 1 c]).run Tryz.prog w3 = .ok (.int .i64 1) w4 ∧ w4.heap[w.heap.size]? = some (.cells (ones 1 (5 - 1)).toArray 2 (0, 0)) ∧ Below w.heap.size w w4 := by
    have hrun := run_copy_row (P := Tryz.prog) w3 34 34 3 2 w.heap.size 0 5 5 ⟨b, off, none⟩ 1 c (ones 0 5).toArray 2 [.int .i64 1] Tryz.underlying34 hsz H3.out (by decide) (src1 hc) (by decide) (by decide)
    refine ⟨_, hrun, ?_, below_setRow hb3 (Nat.le_refl _) _⟩
    exact setRow_heap w3 w.heap.size _ _ 2 _ H3.out
  go_wp2_with (fail)
  rw [hcp]
  go_wp2_with (fail)
  have H4 : Hid (w4.heap[w.heap.size]? = some (.cells (ones 1 (5 - 1)).toArray 2 (0, 0))) := Lib.hid h4
  clear h4 hb3 hc H3
  go_loopw [8] (fun mv wr => ∃ m z : Nat, m + z = 5 ∧ (m = 1 ∨ m = 2 ∨ m = 4 ∨ m = 5) ∧ mv = .int .i64 m ∧ Hid (wr.heap[w.heap.size]? = some (.cells (ones m z).toArray 2 (0, 0))) ∧ Below w.heap.size w wr) (fun mv _ => 5 - (intOf mv).toNat)
  case atStart => exact ⟨1, 5 - 1, rfl, .inl rfl, rfl, H4, hb4⟩
  case round =>
    clear H4 hb4
    obtain ⟨m, z, hmz, hm, rfl, H5, hb5⟩ := hrel
    have hgl : w.heap.size < wr.heap.size := (Array.getElem?_eq_some_iff.1 H5.out).1

    rcases hm with rfl | rfl | rfl | rfl
    · obtain rfl : z = 4 := by omega
      go_wp2_with (fail)
      go_region_law (refine step_copy_splice rfl (.tmp 41) (.tmp 44) 34 34 rfl 2 Tryz.underlying34 hsz (some ⟨w.heap.size, 1, none⟩) (some ⟨w.heap.size, 0, none⟩) 4 4 1 5 (by simp [Act.eval, Act.put]) (by simp [Act.eval, Act.put]) w.heap.size 1 (ones 1 4) 2 (show _ = _ from H5.out) (ones 1 0) (by decide) (fun _ => ⟨rfl, _, rfl, src_of_heap (show wr.heap[w.heap.size]? = _ from H5.out) rfl⟩) (by decide) (by decide) w.heap.size w (Below.drew2 hb5) (Nat.le_refl _) ?_; intro w6 h6 hb6)
      all_goals go_simp
      all_goals (try go_wp2_with (fail))
      all_goals
        refine ⟨⟨2, 3, rfl, by omega, rfl, Lib.hid h6.out, hb6⟩, by first | (simp [intOf, ones]; done) | (simp [intOf, ones]; decide)⟩
    · obtain rfl : z = 3 := by omega
      go_wp2_with (fail)
      go_region_law (refine step_copy_splice rfl (.tmp 41) (.tmp 44) 34 34 rfl 2 Tryz.underlying34 hsz (some ⟨w.heap.size, 2, none⟩) (some ⟨w.heap.size, 0, none⟩) 3 3 2 5 (by simp [Act.eval, Act.put]) (by simp [Act.eval, Act.put]) w.heap.size 2 (ones 2 3) 2 (show _ = _ from H5.out) (ones 2 0) (by decide) (fun _ => ⟨rfl, _, rfl, src_of_heap (show wr.heap[w.heap.size]? = _ from H5.out) rfl⟩) (by decide) (by decide) w.heap.size w (Below.drew2 hb5) (Nat.le_refl _) ?_; intro w6 h6 hb6)
      all_goals go_simp
      all_goals (try go_wp2_with (fail))
      all_goals
        refine ⟨⟨4, 1, rfl, by omega, rfl, Lib.hid h6.out, hb6⟩, by first | (simp [intOf, ones]; done) | (simp [intOf, ones]; decide)⟩
    · obtain rfl : z = 1 := by omega
      go_wp2_with (fail)
      go_region_law (refine step_copy_splice rfl (.tmp 41) (.tmp 44) 34 34 rfl 2 Tryz.underlying34 hsz (some ⟨w.heap.size, 4, none⟩) (some ⟨w.heap.size, 0, none⟩) 1 1 4 5 (by simp [Act.eval, Act.put]) (by simp [Act.eval, Act.put]) w.heap.size 4 (ones 4 1) 2 (show _ = _ from H5.out) (ones 1 0) (by decide) (fun _ => ⟨rfl, _, rfl, src_of_heap (show wr.heap[w.heap.size]? = _ from H5.out) rfl⟩) (by decide) (by decide) w.heap.size w (Below.drew2 hb5) (Nat.le_refl _) ?_; intro w6 h6 hb6)
      all_goals go_simp
      all_goals (try go_wp2_with (fail))
      all_goals
        refine ⟨⟨5, 0, rfl, by omega, rfl, Lib.hid h6.out, hb6⟩, by first | (simp [intOf, ones]; done) | (simp [intOf, ones]; decide)⟩
    · obtain rfl : z = 0 := by omega
      go_wp2_with (fail)
      go_ret
      exact ⟨some ⟨w.heap.size, 0, none⟩, 5, by simp, by have := ones_own (n := 5) (lo := w.heap.size) H5.out (Nat.le_refl _) (by decide); simpa using this, hb5⟩

set_option maxHeartbeats 2000000 in
set_option maxRecDepth 20000 in
theorem slices_Repeat_6 (A : Option Addr) (c : Nat) (w : World) (h : Ints w A [1]) :
    Calls Tryz.prog 60 #[.slice A 1 c, .int .i64 6] w fun e w' => ∃ A' c', e = .returned (.slice A' (List.replicate 6 (1 : Int)).length c') ∧ OwnI w' w.heap.size w'.heap.size A' c' (List.replicate 6 1) ∧ Below w.heap.size w w' := by
  obtain ⟨i0, hi0, hz0, hz1, hz2⟩ := info_parts info_int64
  have hsz : (Tryz.prog.info? 2).map (·.size) = some 1 := by rw [hi0]; simp [hz1]
  obtain ⟨b, off, x, rfl, hc, hx⟩ := h 0 (by simp)
  obtain rfl : x = 1 := by simpa using hx.symm
  clear hx
  rw [Nat.add_zero] at hc
  go_enter Tryz.func60, Tryz.ntmps60
  go_wp2_with (fail)
  refine (bits_Mul8 _ _ (by omega)).mono ?_; rintro e _ ⟨rfl, rfl⟩
  go_wp2_with (refine wpList_make_full _ rfl _ _ _ rfl w.heap.size 2 i0 _ 1 Tryz.underlying34 hi0 hz0 hz1 .i64 .i64 _ _ 6 rfl rfl rfl rfl (by rw [hz2]; omega) (by unfold maxLen; omega) (Nat.le_refl _) ?_; intro w3 hown hg)
  have hb3 : Below w.heap.size w w3 := (Below.refl _ _).grown hg (Nat.le_refl _) (by simp)
  have o3 : OwnC w3 w.heap.size w3.heap.size 2 1 (some ⟨w.heap.size, 0, none⟩) 6 6 (ones 0 6) := by
    have := OwnC.of_own hown (Nat.le_refl _)
    simpa [madeCells, Value.cells, ones, List.range_succ] using this
  have h3 : w3.heap[w.heap.size]? = some (.cells (ones 0 6).toArray 2 (0, 0)) := by
    rcases o3.form with ⟨hA, _⟩ | ⟨g, cur, hA, _, _, hh, _, _, hs, ht⟩
    · cases hA
    · injection hA with hA
      injection hA with hA
      subst hA
      rw [hh, ← ht]
      congr 2
      apply Array.ext'
      rw [List.take_of_length_le (by simpa using Nat.le_of_eq hs)]
  have H3 := Lib.hid h3; clear h3 o3 hown hg
  replace hc := cells_below hb3 _ _ hc
  obtain ⟨w4, hcp, h4, hb4⟩ : ∃ w4, (Builtin.copy_ #[34, 34] 3 #[.slice (some ⟨w.heap.size, 0, none⟩) 6 6, .slice (some ⟨b, off, none⟩) 1 c]).run Tryz.prog w3 = .ok (.int .i64 1) w4 ∧ w4.heap[w.heap.size]? = some (.cells (ones 1 (6 - 1)).toArray 2 (0, 0)) ∧ Below w.heap.size w w4 := by
    have hrun := run_copy_row (P := Tryz.prog) w3 34 34 3 2 w.heap.size 0 6 6 ⟨b, off, none⟩ 1 c (ones 0 6).toArray 2 [.int .i64 1] Tryz.underlying34 hsz H3.out (by decide) (src1 hc) (by decide) (by decide)
    refine ⟨_, hrun, ?_, below_setRow hb3 (Nat.le_refl _) _⟩
    exact setRow_heap w3 w.heap.size _ _ 2 _ H3.out
  go_wp2_with (fail)
  rw [hcp]
  go_wp2_with (fail)
  have H4 : Hid (w4.heap[w.heap.size]? = some (.cells (ones 1 (6 - 1)).toArray 2 (0, 0))) := Lib.hid h4
  clear h4 hb3 hc H3
  go_loopw [8] (fun mv wr => ∃ m z : Nat, m + z = 6 ∧ (m = 1 ∨ m = 2 ∨ m = 4 ∨ m = 6) ∧ mv = .int .i64 m ∧ Hid (wr.heap[w.heap.size]? = some (.cells (ones m z).toArray 2 (0, 0))) ∧ Below w.heap.size w wr) (fun mv _ => 6 - (intOf mv).toNat)
  case atStart => exact ⟨1, 6 - 1, rfl, .inl rfl, rfl, H4, hb4⟩
  case round =>
    clear H4 hb4
    obtain ⟨m, z, hmz, hm, rfl, H5, hb5⟩ := hrel
    have hgl : w.heap.size < wr.heap.size := (Array.getElem?_eq_some_iff.1 H5.out).1

    rcases hm with rfl | rfl | rfl | rfl
    · obtain rfl : z = 5 := by omega
      go_wp2_with (fail)
      go_region_law (refine step_copy_splice rfl (.tmp 41) (.tmp 44) 34 34 rfl 2 Tryz.underlying34 hsz (some ⟨w.heap.size, 1, none⟩) (some ⟨w.heap.size, 0, none⟩) 5 5 1 6 (by simp [Act.eval, Act.put]) (by simp [Act.eval, Act.put]) w.heap.size 1 (ones 1 5) 2 (show _ = _ from H5.out) (ones 1 0) (by decide) (fun _ => ⟨rfl, _, rfl, src_of_heap (show wr.heap[w.heap.size]? = _ from H5.out) rfl⟩) (by decide) (by decide) w.heap.size w (Below.drew2 hb5) (Nat.le_refl _) ?_; intro w6 h6 hb6)
      all_goals go_simp
      all_goals (try go_wp2_with (fail))
      all_goals
        refine ⟨⟨2, 4, rfl, by omega, rfl, Lib.hid h6.out, hb6⟩, by first | (simp [intOf, ones]; done) | (simp [intOf, ones]; decide)⟩
    · obtain rfl : z = 4 := by omega
      go_wp2_with (fail)
      go_region_law (refine step_copy_splice rfl (.tmp 41) (.tmp 44) 34 34 rfl 2 Tryz.underlying34 hsz (some ⟨w.heap.size, 2, none⟩) (some ⟨w.heap.size, 0, none⟩) 4 4 2 6 (by simp [Act.eval, Act.put]) (by simp [Act.eval, Act.put]) w.heap.size 2 (ones 2 4) 2 (show _ = _ from H5.out) (ones 2 0) (by decide) (fun _ => ⟨rfl, _, rfl, src_of_heap (show wr.heap[w.heap.size]? = _ from H5.out) rfl⟩) (by decide) (by decide) w.heap.size w (Below.drew2 hb5) (Nat.le_refl _) ?_; intro w6 h6 hb6)
      all_goals go_simp
      all_goals (try go_wp2_with (fail))
      all_goals
        refine ⟨⟨4, 2, rfl, by omega, rfl, Lib.hid h6.out, hb6⟩, by first | (simp [intOf, ones]; done) | (simp [intOf, ones]; decide)⟩
    · obtain rfl : z = 2 := by omega
      go_wp2_with (fail)
      go_region_law (refine step_copy_splice rfl (.tmp 41) (.tmp 44) 34 34 rfl 2 Tryz.underlying34 hsz (some ⟨w.heap.size, 4, none⟩) (some ⟨w.heap.size, 0, none⟩) 2 2 4 6 (by simp [Act.eval, Act.put]) (by simp [Act.eval, Act.put]) w.heap.size 4 (ones 4 2) 2 (show _ = _ from H5.out) (ones 2 0) (by decide) (fun _ => ⟨rfl, _, rfl, src_of_heap (show wr.heap[w.heap.size]? = _ from H5.out) rfl⟩) (by decide) (by decide) w.heap.size w (Below.drew2 hb5) (Nat.le_refl _) ?_; intro w6 h6 hb6)
      all_goals go_simp
      all_goals (try go_wp2_with (fail))
      all_goals
        refine ⟨⟨6, 0, rfl, by omega, rfl, Lib.hid h6.out, hb6⟩, by first | (simp [intOf, ones]; done) | (simp [intOf, ones]; decide)⟩
    · obtain rfl : z = 0 := by omega
      go_wp2_with (fail)
      go_ret
      exact ⟨some ⟨w.heap.size, 0, none⟩, 6, by simp, by have := ones_own (n := 6) (lo := w.heap.size) H5.out (Nat.le_refl _) (by decide); simpa using this, hb5⟩

set_option maxHeartbeats 2000000 in
set_option maxRecDepth 20000 in
theorem slices_Repeat_7 (A : Option Addr) (c : Nat) (w : World) (h : Ints w A [1]) :
    Calls Tryz.prog 60 #[.slice A 1 c, .int .i64 7] w fun e w' => ∃ A' c', e = .returned (.slice A' (List.replicate 7 (1 : Int)).length c') ∧ OwnI w' w.heap.size w'.heap.size A' c' (List.replicate 7 1) ∧ Below w.heap.size w w' := by
  obtain ⟨i0, hi0, hz0, hz1, hz2⟩ := info_parts info_int64
  have hsz : (Tryz.prog.info? 2).map (·.size) = some 1 := by rw [hi0]; simp [hz1]
  obtain ⟨b, off, x, rfl, hc, hx⟩ := h 0 (by simp)
  obtain rfl : x = 1 := by simpa using hx.symm
  clear hx
  rw [Nat.add_zero] at hc
  go_enter Tryz.func60, Tryz.ntmps60
  go_wp2_with (fail)
  refine (bits_Mul8 _ _ (by omega)).mono ?_; rintro e _ ⟨rfl, rfl⟩
  go_wp2_with (refine wpList_make_full _ rfl _ _ _ rfl w.heap.size 2 i0 _ 1 Tryz.underlying34 hi0 hz0 hz1 .i64 .i64 _ _ 7 rfl rfl rfl rfl (by rw [hz2]; omega) (by unfold maxLen; omega) (Nat.le_refl _) ?_; intro w3 hown hg)
  have hb3 : Below w.heap.size w w3 := (Below.refl _ _).grown hg (Nat.le_refl _) (by simp)
  have o3 : OwnC w3 w.heap.size w3.heap.size 2 1 (some ⟨w.heap.size, 0, none⟩) 7 7 (ones 0 7) := by
    have := OwnC.of_own hown (Nat.le_refl _)
    simpa [madeCells, Value.cells, ones, List.range_succ] using this
  have h3 : w3.heap[w.heap.size]? = some (.cells (ones 0 7).toArray 2 (0, 0)) := by
    rcases o3.form with ⟨hA, _⟩ | ⟨g, cur, hA, _, _, hh, _, _, hs, ht⟩
    · cases hA
    · injection hA with hA
      injection hA with hA
      subst hA
      rw [hh, ← ht]
      congr 2
      apply Array.ext'
      rw [List.take_of_length_le (by simpa using Nat.le_of_eq hs)]
  have H3 := Lib.hid h3; clear h3 o3 hown hg
  replace hc := cells_below hb3 _ _ hc
  obtain ⟨w4, hcp, h4, hb4⟩ : ∃ w4, (Builtin.copy_ #[34, 34] 3 #[.slice (some ⟨w.heap.size, 0, none⟩) 7 7, .slice (some ⟨b, off, none⟩) 1 c]).run Tryz.prog w3 = .ok (.int .i64 1) w4 ∧ w4.heap[w.heap.size]? = some (.cells (ones 1 (7 - 1)).toArray 2 (0, 0)) ∧ Below w.heap.size w w4 := by
    have hrun := run_copy_row (P := Tryz.prog) w3 34 34 3 2 w.heap.size 0 7 7 ⟨b, off, none⟩ 1 c (ones 0 7).toArray 2 [.int .i64 1] Tryz.underlying34 hsz H3.out (by decide) (src1 hc) (by decide) (by decide)
    refine ⟨_, hrun, ?_, below_setRow hb3 (Nat.le_refl _) _⟩
    exact setRow_heap w3 w.heap.size _ _ 2 _ H3.out
  go_wp2_with (fail)
  rw [hcp]
  go_wp2_with (fail)
  have H4 : Hid (w4.heap[w.heap.size]? = some (.cells (ones 1 (7 - 1)).toArray 2 (0, 0))) := Lib.hid h4
  clear h4 hb3 hc H3
  go_loopw [8] (fun mv wr => ∃ m z : Nat, m + z = 7 ∧ (m = 1 ∨ m = 2 ∨ m = 4 ∨ m = 7) ∧ mv = .int .i64 m ∧ Hid (wr.heap[w.heap.size]? = some (.cells (ones m z).toArray 2 (0, 0))) ∧ Below w.heap.size w wr) (fun mv _ => 7 - (intOf mv).toNat)
  case atStart => exact ⟨1, 7 - 1, rfl, .inl rfl, rfl, H4, hb4⟩
  case round =>
    clear H4 hb4
    obtain ⟨m, z, hmz, hm, rfl, H5, hb5⟩ := hrel
    have hgl : w.heap.size < wr.heap.size := (Array.getElem?_eq_some_iff.1 H5.out).1

    rcases hm with rfl | rfl | rfl | rfl
    · obtain rfl : z = 6 := by omega
      go_wp2_with (fail)
      go_region_law (refine step_copy_splice rfl (.tmp 41) (.tmp 44) 34 34 rfl 2 Tryz.underlying34 hsz (some ⟨w.heap.size, 1, none⟩) (some ⟨w.heap.size, 0, none⟩) 6 6 1 7 (by simp [Act.eval, Act.put]) (by simp [Act.eval, Act.put]) w.heap.size 1 (ones 1 6) 2 (show _ = _ from H5.out) (ones 1 0) (by decide) (fun _ => ⟨rfl, _, rfl, src_of_heap (show wr.heap[w.heap.size]? = _ from H5.out) rfl⟩) (by decide) (by decide) w.heap.size w (Below.drew2 hb5) (Nat.le_refl _) ?_; intro w6 h6 hb6)
      all_goals go_simp
      all_goals (try go_wp2_with (fail))
      all_goals
        refine ⟨⟨2, 5, rfl, by omega, rfl, Lib.hid h6.out, hb6⟩, by first | (simp [intOf, ones]; done) | (simp [intOf, ones]; decide)⟩
    · obtain rfl : z = 5 := by omega
      go_wp2_with (fail)
      go_region_law (refine step_copy_splice rfl (.tmp 41) (.tmp 44) 34 34 rfl 2 Tryz.underlying34 hsz (some ⟨w.heap.size, 2, none⟩) (some ⟨w.heap.size, 0, none⟩) 5 5 2 7 (by simp [Act.eval, Act.put]) (by simp [Act.eval, Act.put]) w.heap.size 2 (ones 2 5) 2 (show _ = _ from H5.out) (ones 2 0) (by decide) (fun _ => ⟨rfl, _, rfl, src_of_heap (show wr.heap[w.heap.size]? = _ from H5.out) rfl⟩) (by decide) (by decide) w.heap.size w (Below.drew2 hb5) (Nat.le_refl _) ?_; intro w6 h6 hb6)
      all_goals go_simp
      all_goals (try go_wp2_with (fail))
      all_goals
        refine ⟨⟨4, 3, rfl, by omega, rfl, Lib.hid h6.out, hb6⟩, by first | (simp [intOf, ones]; done) | (simp [intOf, ones]; decide)⟩
    · obtain rfl : z = 3 := by omega
      go_wp2_with (fail)
      go_region_law (refine step_copy_splice rfl (.tmp 41) (.tmp 44) 34 34 rfl 2 Tryz.underlying34 hsz (some ⟨w.heap.size, 4, none⟩) (some ⟨w.heap.size, 0, none⟩) 3 3 4 7 (by simp [Act.eval, Act.put]) (by simp [Act.eval, Act.put]) w.heap.size 4 (ones 4 3) 2 (show _ = _ from H5.out) (ones 3 0) (by decide) (fun _ => ⟨rfl, _, rfl, src_of_heap (show wr.heap[w.heap.size]? = _ from H5.out) rfl⟩) (by decide) (by decide) w.heap.size w (Below.drew2 hb5) (Nat.le_refl _) ?_; intro w6 h6 hb6)
      all_goals go_simp
      all_goals (try go_wp2_with (fail))
      all_goals
        refine ⟨⟨7, 0, rfl, by omega, rfl, Lib.hid h6.out, hb6⟩, by first | (simp [intOf, ones]; done) | (simp [intOf, ones]; decide)⟩
    · obtain rfl : z = 0 := by omega
      go_wp2_with (fail)
      go_ret
      exact ⟨some ⟨w.heap.size, 0, none⟩, 7, by simp, by have := ones_own (n := 7) (lo := w.heap.size) H5.out (Nat.le_refl _) (by decide); simpa using this, hb5⟩

set_option maxHeartbeats 2000000 in
set_option maxRecDepth 20000 in
theorem slices_Repeat_8 (A : Option Addr) (c : Nat) (w : World) (h : Ints w A [1]) :
    Calls Tryz.prog 60 #[.slice A 1 c, .int .i64 8] w fun e w' => ∃ A' c', e = .returned (.slice A' (List.replicate 8 (1 : Int)).length c') ∧ OwnI w' w.heap.size w'.heap.size A' c' (List.replicate 8 1) ∧ Below w.heap.size w w' := by
  obtain ⟨i0, hi0, hz0, hz1, hz2⟩ := info_parts info_int64
  have hsz : (Tryz.prog.info? 2).map (·.size) = some 1 := by rw [hi0]; simp [hz1]
  obtain ⟨b, off, x, rfl, hc, hx⟩ := h 0 (by simp)
  obtain rfl : x = 1 := by simpa using hx.symm
  clear hx
  rw [Nat.add_zero] at hc
  go_enter Tryz.func60, Tryz.ntmps60
  go_wp2_with (fail)
  refine (bits_Mul8 _ _ (by omega)).mono ?_; rintro e _ ⟨rfl, rfl⟩
  go_wp2_with (refine wpList_make_full _ rfl _ _ _ rfl w.heap.size 2 i0 _ 1 Tryz.underlying34 hi0 hz0 hz1 .i64 .i64 _ _ 8 rfl rfl rfl rfl (by rw [hz2]; omega) (by unfold maxLen; omega) (Nat.le_refl _) ?_; intro w3 hown hg)
  have hb3 : Below w.heap.size w w3 := (Below.refl _ _).grown hg (Nat.le_refl _) (by simp)
  have o3 : OwnC w3 w.heap.size w3.heap.size 2 1 (some ⟨w.heap.size, 0, none⟩) 8 8 (ones 0 8) := by
    have := OwnC.of_own hown (Nat.le_refl _)
    simpa [madeCells, Value.cells, ones, List.range_succ] using this
  have h3 : w3.heap[w.heap.size]? = some (.cells (ones 0 8).toArray 2 (0, 0)) := by
    rcases o3.form with ⟨hA, _⟩ | ⟨g, cur, hA, _, _, hh, _, _, hs, ht⟩
    · cases hA
    · injection hA with hA
      injection hA with hA
      subst hA
      rw [hh, ← ht]
      congr 2
      apply Array.ext'
      rw [List.take_of_length_le (by simpa using Nat.le_of_eq hs)]
  have H3 := Lib.hid h3; clear h3 o3 hown hg
  replace hc := cells_below hb3 _ _ hc
  obtain ⟨w4, hcp, h4, hb4⟩ : ∃ w4, (Builtin.copy_ #[34, 34] 3 #[.slice (some ⟨w.heap.size, 0, none⟩) 8 8, .slice (some ⟨b, off, none⟩) 1 c]).run Tryz.prog w3 = .ok (.int .i64 1) w4 ∧ w4.heap[w.heap.size]? = some (.cells (ones 1 (8 - 1)).toArray 2 (0, 0)) ∧ Below w.heap.size w w4 := by
    have hrun := run_copy_row (P := Tryz.prog) w3 34 34 3 2 w.heap.size 0 8 8 ⟨b, off, none⟩ 1 c (ones 0 8).toArray 2 [.int .i64 1] Tryz.underlying34 hsz H3.out (by decide) (src1 hc) (by decide) (by decide)
    refine ⟨_, hrun, ?_, below_setRow hb3 (Nat.le_refl _) _⟩
    exact setRow_heap w3 w.heap.size _ _ 2 _ H3.out
  go_wp2_with (fail)
  rw [hcp]
  go_wp2_with (fail)
  have H4 : Hid (w4.heap[w.heap.size]? = some (.cells (ones 1 (8 - 1)).toArray 2 (0, 0))) := Lib.hid h4
  clear h4 hb3 hc H3
  go_loopw [8] (fun mv wr => ∃ m z : Nat, m + z = 8 ∧ (m = 1 ∨ m = 2 ∨ m = 4 ∨ m = 8) ∧ mv = .int .i64 m ∧ Hid (wr.heap[w.heap.size]? = some (.cells (ones m z).toArray 2 (0, 0))) ∧ Below w.heap.size w wr) (fun mv _ => 8 - (intOf mv).toNat)
  case atStart => exact ⟨1, 8 - 1, rfl, .inl rfl, rfl, H4, hb4⟩
  case round =>
    clear H4 hb4
    obtain ⟨m, z, hmz, hm, rfl, H5, hb5⟩ := hrel
    have hgl : w.heap.size < wr.heap.size := (Array.getElem?_eq_some_iff.1 H5.out).1

    rcases hm with rfl | rfl | rfl | rfl
    · obtain rfl : z = 7 := by omega
      go_wp2_with (fail)
      go_region_law (refine step_copy_splice rfl (.tmp 41) (.tmp 44) 34 34 rfl 2 Tryz.underlying34 hsz (some ⟨w.heap.size, 1, none⟩) (some ⟨w.heap.size, 0, none⟩) 7 7 1 8 (by simp [Act.eval, Act.put]) (by simp [Act.eval, Act.put]) w.heap.size 1 (ones 1 7) 2 (show _ = _ from H5.out) (ones 1 0) (by decide) (fun _ => ⟨rfl, _, rfl, src_of_heap (show wr.heap[w.heap.size]? = _ from H5.out) rfl⟩) (by decide) (by decide) w.heap.size w (Below.drew2 hb5) (Nat.le_refl _) ?_; intro w6 h6 hb6)
      all_goals go_simp
      all_goals (try go_wp2_with (fail))
      all_goals
        refine ⟨⟨2, 6, rfl, by omega, rfl, Lib.hid h6.out, hb6⟩, by first | (simp [intOf, ones]; done) | (simp [intOf, ones]; decide)⟩
    · obtain rfl : z = 6 := by omega
      go_wp2_with (fail)
      go_region_law (refine step_copy_splice rfl (.tmp 41) (.tmp 44) 34 34 rfl 2 Tryz.underlying34 hsz (some ⟨w.heap.size, 2, none⟩) (some ⟨w.heap.size, 0, none⟩) 6 6 2 8 (by simp [Act.eval, Act.put]) (by simp [Act.eval, Act.put]) w.heap.size 2 (ones 2 6) 2 (show _ = _ from H5.out) (ones 2 0) (by decide) (fun _ => ⟨rfl, _, rfl, src_of_heap (show wr.heap[w.heap.size]? = _ from H5.out) rfl⟩) (by decide) (by decide) w.heap.size w (Below.drew2 hb5) (Nat.le_refl _) ?_; intro w6 h6 hb6)
      all_goals go_simp
      all_goals (try go_wp2_with (fail))
      all_goals
        refine ⟨⟨4, 4, rfl, by omega, rfl, Lib.hid h6.out, hb6⟩, by first | (simp [intOf, ones]; done) | (simp [intOf, ones]; decide)⟩
    · obtain rfl : z = 4 := by omega
      go_wp2_with (fail)
      go_region_law (refine step_copy_splice rfl (.tmp 41) (.tmp 44) 34 34 rfl 2 Tryz.underlying34 hsz (some ⟨w.heap.size, 4, none⟩) (some ⟨w.heap.size, 0, none⟩) 4 4 4 8 (by simp [Act.eval, Act.put]) (by simp [Act.eval, Act.put]) w.heap.size 4 (ones 4 4) 2 (show _ = _ from H5.out) (ones 4 0) (by decide) (fun _ => ⟨rfl, _, rfl, src_of_heap (show wr.heap[w.heap.size]? = _ from H5.out) rfl⟩) (by decide) (by decide) w.heap.size w (Below.drew2 hb5) (Nat.le_refl _) ?_; intro w6 h6 hb6)
      all_goals go_simp
      all_goals (try go_wp2_with (fail))
      all_goals
        refine ⟨⟨8, 0, rfl, by omega, rfl, Lib.hid h6.out, hb6⟩, by first | (simp [intOf, ones]; done) | (simp [intOf, ones]; decide)⟩
    · obtain rfl : z = 0 := by omega
      go_wp2_with (fail)
      go_ret
      exact ⟨some ⟨w.heap.size, 0, none⟩, 8, by simp, by have := ones_own (n := 8) (lo := w.heap.size) H5.out (Nat.le_refl _) (by decide); simpa using this, hb5⟩

theorem slices_Repeat_n (n : Nat) (h1 : 1 ≤ n) (h8 : n ≤ 8) (A : Option Addr) (c : Nat) (w : World) (h : Ints w A [1]) :
    Calls Tryz.prog 60 #[.slice A 1 c, .int .i64 n] w fun e w' => ∃ A' c', e = .returned (.slice A' (List.replicate n (1 : Int)).length c') ∧ OwnI w' w.heap.size w'.heap.size A' c' (List.replicate n 1) ∧ Below w.heap.size w w' := by
  have : n = 1 ∨ n = 2 ∨ n = 3 ∨ n = 4 ∨ n = 5 ∨ n = 6 ∨ n = 7 ∨ n = 8 := by omega
  rcases this with rfl | rfl | rfl | rfl | rfl | rfl | rfl | rfl
  · exact slices_Repeat_1 A c w h
  · exact slices_Repeat_2 A c w h
  · exact slices_Repeat_3 A c w h
  · exact slices_Repeat_4 A c w h
  · exact slices_Repeat_5 A c w h
  · exact slices_Repeat_6 A c w h
  · exact slices_Repeat_7 A c w h
  · exact slices_Repeat_8 A c w h


end Go.Proofs.YtnjgmhdmjaijgaaGreatDoor

/- allStacks: the stacks of a chart, the program's side. -/
namespace Go.Proofs.YtnjgmhdmjaijgaaGreatDoor
open Go.RowKit

theorem after_pos {ks st : List Int} (hs : ∀ k ∈ ks, isStitchB k = true) (h : takenS ks = st.length) (h1 : 1 ≤ st.length) : 1 ≤ (afterP ks st).length := by
  cases ks with
  | nil => simp [takenS] at h; omega
  | cons k ks =>
    have h2 := stepMade_madeN (hs k (by simp)) st
    have h3 := (takenN_le k (hs k (by simp))).2.2
    rw [afterP, List.length_append]
    omega
theorem OwnC.head {w : World} {lo hi : Nat} {e : TypeId} {sz : Nat} {A : Option Addr} {n c : Nat} {cs : List Value} (h : OwnC w lo hi e sz A n c cs) (hn : 1 ≤ n) : ∃ g, A = some ⟨g, 0, none⟩ := by
  rcases h.form with ⟨_, h1, _⟩ | ⟨g, _, h1, _⟩
  · omega
  · exact ⟨g, h1⟩

theorem chart_len {n : Int} {rs : List RowD} (h : inR (rs.length : Int) 1 8 = false) : chartB n rs = false := by
  unfold chartB
  rw [h, Bool.and_false, Bool.false_and]

set_option maxHeartbeats 4000000 in
set_option maxRecDepth 20000 in
theorem impl_allStacks (n : Int) (rs : List RowD) (A : Option Addr) (c : Nat) (w : World) (h : RowsR w A rs) (hl : rs.length ≤ 9223372036854775807) :
    Calls Tryz.prog 36 #[.agg #[.int .i64 n, .slice A rs.length c]] w fun e w' => ∃ A' c', e = .returned (.tuple #[.slice A' (chartStacks n rs).length c', .bool (chartB n rs)]) ∧ OwnII w' w.heap.size w'.heap.size A' (chartStacks n rs).length c' (chartStacks n rs) ∧ Below w.heap.size w w' := by
  have hnil : ∀ W, OwnII W w.heap.size W.heap.size none 0 0 [] := fun W => ⟨[], OwnC.nil _ _ _ _ _, ⟨rfl, fun k xs hx => by simp at hx, fun i j v v' g hi' => by simp at hi'⟩⟩
  have HNIL := Lib.hid hnil; clear hnil
  have hb1 : Below w.heap.size w (w.alloc (.cells #[.int .i64 n, .slice A rs.length c] 24)) := by (repeat (first | exact Below.refl _ _ | assumption | apply Below.drew | apply below_drewN | (refine Below.alloc ?_ (by first | omega | (simp; done) | (simp; omega)) _) | (refine Below.setCell ?_ (by first | omega | (simp; done) | (simp; omega)) _)))
  have kb := Blk.new w 24 #[.int .i64 n, .slice A rs.length c]
  cases hn : inR n 1 8
  · have HF : Hid (chartStacks n rs = [] ∧ chartB n rs = false) := Lib.hid (chart_bad (by simp [chartB, hn]))
    go_enter Tryz.func36, Tryz.ntmps36
    go_wp2_with (go_at_call 59; refine (impl_within _ _ _ _).mono ?_; rintro e _ ⟨rfl, rfl⟩)
    go_ret2
    rw [HF.out.1, HF.out.2]
    exact ⟨_, _, rfl, HNIL.out _, hb1⟩
  · by_cases hr1 : rs.length < 1
    · have hr1' : decide ((rs.length : Int) < 1) = true := decide_eq_true (by omega)
      have HF : Hid (chartStacks n rs = [] ∧ chartB n rs = false) := Lib.hid (chart_bad (chart_len (by unfold inR; simp; omega)))
      go_enter Tryz.func36, Tryz.ntmps36
      go_wp2_with (go_at_call 59; refine (impl_within _ _ _ _).mono ?_; rintro e _ ⟨rfl, rfl⟩)
      go_ret2
      rw [HF.out.1, HF.out.2]
      exact ⟨_, _, rfl, HNIL.out _, hb1⟩
    · have hr1' : decide ((rs.length : Int) < 1) = false := decide_eq_false (by omega)
      by_cases hr8 : 8 < rs.length
      · have hr8' : decide ((8 : Int) < (rs.length : Int)) = true := decide_eq_true (by omega)
        have HF : Hid (chartStacks n rs = [] ∧ chartB n rs = false) := Lib.hid (chart_bad (chart_len (by unfold inR; simp; omega)))
        go_enter Tryz.func36, Tryz.ntmps36
        go_wp2_with (go_at_call 59; refine (impl_within _ _ _ _).mono ?_; rintro e _ ⟨rfl, rfl⟩)
        go_ret2
        rw [HF.out.1, HF.out.2]
        exact ⟨_, _, rfl, HNIL.out _, hb1⟩
      · have hr8' : decide ((8 : Int) < (rs.length : Int)) = false := decide_eq_false (by omega)
        have hr : inR (rs.length : Int) 1 8 = true := inR_iff.2 (by omega)
        have hn18 := inR_iff.1 hn
        obtain ⟨m, rfl⟩ := Int.eq_ofNat_of_zero_le (show (0 : Int) ≤ n by omega)
        have HF : Hid (chartB m rs = rowsOkB (List.replicate m 1) rs) := Lib.hid (by unfold chartB; rw [hn, hr]; rfl)
        have HBAD : Hid (rowsOkB (List.replicate m 1) rs = false → chartStacks m rs = [] ∧ chartB m rs = false) := Lib.hid (fun h => chart_bad (by rw [HF.out, h]))
        have HGOOD : Hid (rowsOkB (List.replicate m 1) rs = true → chartStacks m rs = stacksFrom (List.replicate m 1) rs ∧ chartB m rs = true) := Lib.hid (fun h => ⟨by rw [chartStacks, if_pos (by rw [HF.out, h])]; rfl, by rw [HF.out, h]⟩)
        clear hr
        obtain ⟨i1, hi1, hy0, hy1, hy2⟩ := info_parts info_ints
        have hb2' : Below w.heap.size w ((w.alloc (.cells #[.int .i64 m, .slice A rs.length c] 24)).alloc (.cells #[.int .i64 1] 2)) := by (repeat (first | exact Below.refl _ _ | assumption | apply Below.drew | apply below_drewN | (refine Below.alloc ?_ (by first | omega | (simp; done) | (simp; omega)) _) | (refine Below.setCell ?_ (by first | omega | (simp; done) | (simp; omega)) _)))
        have hi1' : Ints ((w.alloc (.cells #[.int .i64 m, .slice A rs.length c] 24)).alloc (.cells #[.int .i64 1] 2)) (some ⟨w.heap.size + 1, 0, none⟩) [1] := by
          intro k hk
          obtain rfl : k = 0 := by simp at hk; omega
          have := (Blk.new (w.alloc (.cells #[.int .i64 m, .slice A rs.length c] 24)) 2 #[.int .i64 1]).c1
          exact ⟨w.heap.size + 1, 0, 1, rfl, by simp, rfl⟩
        have HI := Lib.hid hi1'; clear hi1'
        have kb1 := kb.alloc (.cells #[.int .i64 1] 2)
        obtain ⟨p0, p1⟩ := kb1.c2
        go_enter Tryz.func36, Tryz.ntmps36
        go_wp2_with (go_at_call 59; refine (impl_within _ _ _ _).mono ?_; rintro e _ ⟨rfl, rfl⟩)
        refine (slices_Repeat_n m (by omega) (by omega) _ _ _ HI.out).mono ?_; rintro e w2 ⟨A4, c4, rfl, o4, b4⟩
        have z4 := b4.size
        simp only [World.size_alloc] at z4
        have kb2 := kb1.below b4 (by simp; omega)
        have hbw2 : Below w.heap.size w w2 := hb2'.trans (b4.mono (by simp; omega))
        have ho' : OwnI w2 w.heap.size w2.heap.size A4 c4 (List.replicate m 1) := o4.mono (by simp; omega) (Nat.le_refl _)
        have hst0 : (List.replicate m (1 : Int)).length = m := by simp
        obtain ⟨st0, hst⟩ : ∃ s, s = List.replicate m (1 : Int) := ⟨_, rfl⟩
        rw [← hst] at ho' hst0 HF HBAD HGOOD ⊢
        clear hst p0 p1 kb1 o4 b4 hb2' HI
        subst hst0
        have kb3 := kb2.alloc (.cells #[] 34)
        obtain ⟨p0, p1⟩ := kb3.c2
        go_wp2_with (fail)
        go_loopw [4, 5, 34] (fun nv ov iv wr => ∃ (i : Nat) (st : List Int) (A4 : Option Addr) (c4 : Nat) (A5 : Option Addr) (c5 : Nat) (cs : List Value) (done : List (List Int)), i ≤ rs.length ∧ nv = .slice A4 st.length c4 ∧ ov = .slice A5 i c5 ∧ iv = .int .i64 i ∧ OwnI wr w.heap.size wr.heap.size A4 c4 st ∧ OwnC wr w.heap.size wr.heap.size 34 1 A5 i c5 cs ∧ CellsII wr w.heap.size wr.heap.size cs done ∧ Below w.heap.size w wr ∧ Hid (stacksFrom st0 rs = done ++ stacksFrom st (rs.drop i)) ∧ Hid (rowsOkB st0 rs = rowsOkB st (rs.drop i)) ∧ Hid (done.length = i) ∧ st.length ≤ 8 ∧ 1 ≤ st.length) (fun _ _ iv _ => rs.length - (intOf iv).toNat)
        case atStart =>
          refine ⟨0, st0, A4, c4, some ⟨w2.heap.size, 0, none⟩, 0, [], [], Nat.zero_le _, rfl, rfl, rfl, (ho'.alloc _).mono (Nat.le_refl _) (by simp), ?_, ⟨rfl, fun k xs hx => by simp at hx, fun i j v v' g hi' => by simp at hi'⟩, by (repeat (first | exact Below.refl _ _ | assumption | apply Below.drew | apply below_drewN | (refine Below.alloc ?_ (by first | omega | (simp; done) | (simp; omega)) _) | (refine Below.setCell ?_ (by first | omega | (simp; done) | (simp; omega)) _))), Lib.hid rfl, Lib.hid rfl, Lib.hid rfl, by omega, by omega⟩
          exact (OwnC.lit _ 1 #[] (Nat.le_refl _) (Nat.zero_le _) rfl).mono (by omega) (by simp)
        case round =>
          clear ho' p0 p1 kb2 kb3
          obtain ⟨i, st, A4, c4, A5, c5, cs, done, hi, rfl, rfl, rfl, ho4, ho5, hci, hbq, HS, HO, HD, hst8, hst1⟩ := hrel
          have hzq := hbq.size
          by_cases hlr : i < rs.length
          · obtain ⟨b, off, A7, c7, r, rfl, hrx, f0, f1, f2, hri, hrl⟩ := (h.below hbq) i hlr
            have HS2 : Hid (stacksFrom st0 rs = (done ++ [(stacksAfterP st r.s).1]) ++ stacksFrom (stacksAfterP st r.s).1 (rs.drop (i + 1))) := Lib.hid (by rw [HS.out, stacksFrom_drop hrx, List.append_assoc]; rfl)
            have HO2 : Hid (rowsOkB st0 rs = (rowOkB st r && rowsOkB (stacksAfterP st r.s).1 (rs.drop (i + 1)))) := Lib.hid (by rw [HO.out, rowsOkB_drop hrx])
            clear hrx HS HO
            have hnx8 := stacksAfterP_length st r.s
            have j1 : (0 : Int) ≤ (i : Int) := by omega
            have j2 : (i : Int) < (rs.length : Int) := by omega
            have hbA : Below wr.heap.size wr (wr.alloc (.cells #[.int .i64 r.d, .int .i64 r.r, .slice A7 r.s.length c7] 42)) := by (repeat (first | exact Below.refl _ _ | assumption | apply Below.drew | apply below_drewN | (refine Below.alloc ?_ (by first | omega | (simp; done) | (simp; omega)) _) | (refine Below.setCell ?_ (by first | omega | (simp; done) | (simp; omega)) _)))
            have hbB : Below w.heap.size w (wr.alloc (.cells #[.int .i64 r.d, .int .i64 r.r, .slice A7 r.s.length c7] 42)) := hbq.alloc hzq _
            have kr := Blk.new wr 42 #[.int .i64 r.d, .int .i64 r.r, .slice A7 r.s.length c7]
            obtain ⟨s0, s1, s2⟩ := kr.c3
            have HVR := Lib.hid (impl_ValidRow r.d r.r A7 c7 r.s (wr.alloc (.cells #[.int .i64 r.d, .int .i64 r.r, .slice A7 r.s.length c7] 42)) (hri.below hbA) hrl)
            cases hrow : rowB r.d r.r r.s
            · have HBB := HBAD.out (by rw [HO2.out, rowOkB, hrow]; rfl)
              have HBB' := Lib.hid HBB; clear HBB
              rw [hrow] at HVR
              go_wp2_with (go_at_call 61; refine HVR.out.mono ?_; rintro e w3 ⟨rfl, b3⟩)
              go_ret2
              rw [HBB'.out.1, HBB'.out.2]
              exact ⟨_, _, rfl, HNIL.out _, hbB.trans (b3.mono (by simp; omega))⟩
            · rw [hrow] at HVR
              have HI4 := Lib.hid ho4.ints
              have hcap := ho4.cap
              have hcapm := ho4.capmax
              obtain ⟨g4, rfl⟩ := OwnC.head ho4 hst1
              go_wp2_with (go_at_call 61; refine HVR.out.mono ?_; rintro e w3 ⟨rfl, b3⟩; obtain ⟨s0', s1', s2'⟩ := (kr.below b3 (by simp)).c3)
              have z3 := b3.size
              simp only [World.size_alloc] at z3 b3
              have kr3 := kr.below b3 (by omega)
              obtain ⟨s0', s1', s2'⟩ := kr3.c3
              have hb3 : Below wr.heap.size wr w3 := hbA.trans (b3.mono (by omega))
              refine (impl_StacksAfter st r.s (some ⟨g4, 0, none⟩) c4 A7 c7 _ (HI4.out.below hb3) (by omega) hcap hcapm (.inr ⟨_, _, rfl⟩) (hri.below hb3) hrl).mono ?_; rintro e w4 ⟨A3, c3, rfl, o3, b4⟩
              have z4 := b4.size
              have hb4 : Below wr.heap.size wr w4 := hb3.trans (b4.mono (by omega))
              have hbw4 : Below w.heap.size w w4 := hbq.trans (hb4.mono hzq)
              have kr4 := kr3.below b4 (by omega)
              clear s0 s1 s2 s0' s1' s2'
              obtain ⟨s0, s1, s2⟩ := kr4.c3
              cases hcd : stepCode st r.s
              · have hcd' : ((stacksAfterP st r.s).2 != 0) = true := by simpa [stepCode] using hcd
                have HBB := HBAD.out (by rw [HO2.out, rowOkB, hcd, Bool.and_false, Bool.false_and, Bool.false_and])
                have HBB' := Lib.hid HBB; clear HBB
                go_wp2_with (fail)
                go_ret2
                rw [HBB'.out.1, HBB'.out.2]
                exact ⟨_, _, rfl, HNIL.out _, hbw4⟩
              · have hcd' : ((stacksAfterP st r.s).2 != 0) = false := by simpa [stepCode] using hcd
                obtain ⟨q1, q2, q3, q4, q5⟩ := stepCode_of hcd
                have hnx1 : 1 ≤ (stacksAfterP st r.s).1.length := by rw [q4]; exact after_pos (stitchesB_of q2).2 q3 hst1
                have HTH := Lib.hid (impl_keepsLimit r.d r.r st r.s g4 0 c4 A7 c7 w4 (HI4.out.below hb4) hcap hcapm (hri.below hb4) q1 q2 q3)
                clear q1 q2 q3 q4 q5
                have ho5' := ho5.below hb4 (Nat.le_refl _)
                have hci' : CellsII w4 w.heap.size wr.heap.size cs done := hci.keep fun q _ h2 _ => hb4.block q h2
                have HR : Hid (rowOkB st r = keepB r.d st r.s) := Lib.hid (by rw [rowOkB, hrow, hcd]; simp)
                clear hcd hrow
                cases hkp : keepB r.d st r.s
                · have HBB := HBAD.out (by rw [HO2.out, HR.out, hkp]; rfl)
                  have HBB' := Lib.hid HBB; clear HBB
                  rw [hkp] at HTH
                  go_wp2_with (go_at_call 63; refine HTH.out.mono ?_; rintro e w5 ⟨rfl, b5⟩)
                  go_ret2
                  rw [HBB'.out.1, HBB'.out.2]
                  exact ⟨_, _, rfl, HNIL.out _, hbw4.trans (b5.mono (by omega))⟩
                · have HO3 : Hid (rowsOkB st0 rs = rowsOkB (stacksAfterP st r.s).1 (rs.drop (i + 1))) := Lib.hid (by rw [HO2.out, HR.out, hkp]; rfl)
                  rw [hkp] at HTH
                  clear HO2 HR hkp
                  generalize (stacksAfterP st r.s).1 = nx at o3 HTH HS2 HO3 hnx8 hnx1 ⊢
                  go_wp2_with (first | (go_at_call 63; refine HTH.out.mono ?_; rintro e w5 ⟨rfl, b5⟩; have z5 := b5.size; have oA := ho5'.below b5 (by omega)) | (at_builtin; refine wpList_append1 w5 [.slice A3 nx.length c3] _ rfl (.tmp 57) (.tmp 59) _ rfl 34 i1 _ 1 24 Tryz.underlying37 hi1 hy0 hy1 hy2 rfl (by decide) rfl oA (by omega) 1 rfl rfl (by simp [Value.oneCell']) (by omega) (by decide) ?_; intro A6 c6 w6 ho6 hg6 hb6 hz6))
                  have hb5 : Below w.heap.size w w5 := hbw4.trans (b5.mono (by omega))
                  have hci5 : CellsII w5 w.heap.size wr.heap.size cs done := hci'.keep fun q _ h2 _ => b5.block q (by omega)
                  obtain ⟨oN, hN⟩ := stacks_step oA hci5 ((o3.below b5 (Nat.le_refl _)).mono (by omega) z5) hzq (by omega) hg6 hz6
                  go_roundw
                  case rel => exact ⟨i + 1, nx, A3, c3, A6, c6, _, done ++ [nx], by omega, rfl, rfl, by go_num, oN, ho6, hN, hb5.trans hb6, HS2, HO3, Lib.hid (by rw [List.length_append, HD.out]; rfl), hnx8, hnx1⟩
                  case measure => simp [intOf]; omega
          · have h9 := HS.out
            have h8 := HO.out
            rw [drop_all (by omega), stacksFrom, List.append_nil] at h9
            rw [drop_all (by omega), rowsOkB] at h8
            have HG := Lib.hid (HGOOD.out h8)
            have H9 := Lib.hid h9; clear h9 h8
            obtain rfl : i = rs.length := by omega
            go_wp2_with (fail)
            go_ret2
            rw [HG.out.1, HG.out.2, H9.out, HD.out]
            exact ⟨_, _, rfl, ⟨cs, ho5, hci⟩, hbq⟩

theorem impl_ValidChart (n : Int) (rs : List RowD) (A : Option Addr) (c : Nat) (w : World) (h : RowsR w A rs) (hl : rs.length ≤ 9223372036854775807) :
    Calls Tryz.prog 18 #[.agg #[.int .i64 n, .slice A rs.length c]] w fun e w' => e = .returned (.bool (chartB n rs)) ∧ Below w.heap.size w w' := by
  have hb1 : Below w.heap.size w (w.alloc (.cells #[.int .i64 n, .slice A rs.length c] 24)) := by (repeat (first | exact Below.refl _ _ | assumption | apply Below.drew | apply below_drewN | (refine Below.alloc ?_ (by first | omega | (simp; done) | (simp; omega)) _) | (refine Below.setCell ?_ (by first | omega | (simp; done) | (simp; omega)) _)))
  have kb := Blk.new w 24 #[.int .i64 n, .slice A rs.length c]
  obtain ⟨p0, p1⟩ := kb.c2
  go_enter Tryz.func18, Tryz.ntmps18
  go_wp2_with (fail)
  refine (impl_allStacks n rs A c _ (h.below hb1) hl).mono ?_; rintro e w2 ⟨A', c', rfl, _, b2⟩
  go_wp2_with (fail)
  go_ret
  exact ⟨rfl, hb1.trans (b2.mono (by simp))⟩

end Go.Proofs.YtnjgmhdmjaijgaaGreatDoor

/- Charts: the plain functions of what is made of valid charts. -/
namespace Go.Proofs.YtnjgmhdmjaijgaaGreatDoor
open Go.RowKit

theorem rowB_of {d r : Int} {s : List Int} (h : rowB d r s = true) : (d = 1 ∨ d = -1) ∧ (1 ≤ r ∧ r ≤ 4) ∧ stitchesB s = true ∧ s.length ≤ 16 := by
  unfold rowB dirB carrierB at h
  simp only [Bool.and_eq_true, Bool.or_eq_true, beq_iff_eq] at h
  refine ⟨h.1.1, inR_iff.1 h.1.2, h.2, ?_⟩
  have h2 := h.2
  unfold stitchesB at h2
  simp only [Bool.and_eq_true, decide_eq_true_eq] at h2
  exact h2.2
theorem rowsOk_rows {st : List Int} {rs : List RowD} (h : rowsOkB st rs = true) : ∀ r ∈ rs, rowB r.d r.r r.s = true := by
  induction rs generalizing st with
  | nil => intro r hr; simp at hr
  | cons q rs ih =>
    simp only [rowsOkB, rowOkB, Bool.and_eq_true] at h
    intro r hr
    rcases List.mem_cons.1 hr with rfl | hr
    · exact h.1.1.1
    · exact ih h.2 r hr
theorem chartB_of {n : Int} {rs : List RowD} (h : chartB n rs = true) : (1 ≤ n ∧ n ≤ 8) ∧ (1 ≤ rs.length ∧ rs.length ≤ 8) ∧ ∀ r ∈ rs, rowB r.d r.r r.s = true := by
  unfold chartB at h
  simp only [Bool.and_eq_true] at h
  have h1 := inR_iff.1 h.1.1
  have h2 := inR_iff.1 h.1.2
  exact ⟨h1, by omega, rowsOk_rows h.2⟩
theorem lenRows_le {rs : List RowD} {m : Nat} (h : ∀ r ∈ rs, r.s.length ≤ m) : lenRows rs ≤ rs.length * m := by
  induction rs with
  | nil => simp [lenRows]
  | cons x r ih =>
    have h1 := h x (by simp)
    have h2 := ih fun y hy => h y (by simp [hy])
    simp only [lenRows, List.length_cons, Nat.succ_mul]
    omega
theorem chart_size {n : Int} {rs : List RowD} (h : chartB n rs = true) : rs.length ≤ 8 ∧ lenRows rs ≤ 128 := by
  obtain ⟨_, h2, h3⟩ := chartB_of h
  have h4 := lenRows_le fun r hr => (rowB_of (h3 r hr)).2.2.2
  have h5 := Nat.mul_le_mul_right 16 h2.2
  omega
theorem ch_size {X : ChX} (h : X = ⟨0, []⟩ ∨ chartB X.n X.xs = true) : X.xs.length ≤ 9 ∧ cntRows X.xs ≤ 1000 := by
  rcases h with rfl | h
  · simp [cntRows, lenRows]
  · have := chart_size h
    unfold cntRows
    omega

def validCode (n : Int) (rs : List RowD) : Int := if chartB n rs then 0 else 1
def colsP (n : Int) (rs : List RowD) : List Int := (chartStacks n rs).map fun s => (s.length : Int)
theorem colsP_length (n : Int) (rs : List RowD) : (colsP n rs).length ≤ 8 := by
  have := (chartStacks_size n rs).1
  unfold colsP
  rw [List.length_map]
  exact this
theorem colsP_bad {n : Int} {rs : List RowD} (h : chartB n rs = false) : chartStacks n rs = [] ∧ colsP n rs = [] ∧ validCode n rs = 1 := by
  have h1 : chartStacks n rs = [] := by rw [chartStacks, if_neg (by rw [h]; decide)]
  exact ⟨h1, by rw [colsP, h1]; rfl, by rw [validCode, if_neg (by rw [h]; decide)]⟩
theorem colsP_good {n : Int} {rs : List RowD} (h : chartB n rs = true) : colsP n rs = (chartStacks n rs).map (fun s => (s.length : Int)) ∧ validCode n rs = 0 :=
  ⟨rfl, by rw [validCode, if_pos h]⟩

/-- A mirror's view. -/
def mirK (k : Int) : Int := if k = 4 then 5 else if k = 5 then 4 else if k = 8 then 9 else if k = 9 then 8 else if k = 10 then 11 else if k = 11 then 10 else if isStitchB k then k else 0
def mirRow (r : RowD) : RowD := ⟨-r.d, r.r, r.s.reverse.map mirK⟩
def mirX (n : Int) (rs : List RowD) : ChX := if chartB n rs then ⟨n, rs.map mirRow⟩ else ⟨0, []⟩
theorem lenRows_mir (rs : List RowD) : lenRows (rs.map mirRow) = lenRows rs := by
  induction rs with
  | nil => rfl
  | cons x r ih => simp [lenRows, ih, mirRow]
theorem mirX_size (n : Int) (rs : List RowD) : (mirX n rs).xs.length ≤ 9 ∧ cntRows (mirX n rs).xs ≤ 1000 := by
  unfold mirX
  split
  · rename_i h
    have := chart_size h
    have h2 := lenRows_mir rs
    unfold cntRows
    simp only [List.length_map]
    omega
  · simp [cntRows, lenRows]

/-- The number of columns behind the last row of a valid chart. -/
def lastOf (n : Int) (rs : List RowD) : Int := ((chartStacks n rs).getLast?.getD []).length
def stackCode (n : Int) (rs : List RowD) (m : Int) (ss : List RowD) : Int := if chartB n rs && chartB m ss then (if lastOf n rs = m then (if chartB n (rs ++ ss) then 0 else 5) else 10) else 1
def stackX (n : Int) (rs : List RowD) (m : Int) (ss : List RowD) : ChX := if stackCode n rs m ss = 0 then ⟨n, rs ++ ss⟩ else ⟨0, []⟩
theorem stack_err {n : Int} {rs : List RowD} {m : Int} {ss : List RowD} {k : Int} (e : stackCode n rs m ss = k) (hk : k ≠ 0) : stackX n rs m ss = ⟨0, []⟩ ∧ stackCode n rs m ss = k := ⟨by rw [stackX, if_neg (by rw [e]; exact hk)], e⟩
theorem stackX_size (n : Int) (rs : List RowD) (m : Int) (ss : List RowD) : (stackX n rs m ss).xs.length ≤ 9 ∧ cntRows (stackX n rs m ss).xs ≤ 1000 := by
  refine ch_size ?_
  unfold stackX
  split
  · rename_i h
    refine .inr ?_
    unfold stackCode at h
    split at h
    · split at h
      · split at h
        · assumption
        · simp at h
      · simp at h
    · simp at h
  · exact .inl rfl
def repRows : Nat → List RowD → List RowD
  | 0, _ => []
  | k + 1, rs => repRows k rs ++ rs
theorem repRows_length (k : Nat) (rs : List RowD) : (repRows k rs).length = k * rs.length := by
  induction k with
  | zero => simp [repRows]
  | succ k ih => rw [repRows, List.length_append, ih, Nat.succ_mul]
def repCode (n : Int) (rs : List RowD) (t : Int) : Int := if chartB n rs then (if inR t 1 8 then (if decide (1 < t) && !decide (lastOf n rs = n) then 10 else if chartB n (repRows t.toNat rs) then 0 else 5) else 2) else 1
def repX (n : Int) (rs : List RowD) (t : Int) : ChX := if repCode n rs t = 0 then ⟨n, repRows t.toNat rs⟩ else ⟨0, []⟩
theorem rep_err {n : Int} {rs : List RowD} {t : Int} {k : Int} (e : repCode n rs t = k) (hk : k ≠ 0) : repX n rs t = ⟨0, []⟩ ∧ repCode n rs t = k := ⟨by rw [repX, if_neg (by rw [e]; exact hk)], e⟩
theorem repX_size (n : Int) (rs : List RowD) (t : Int) : (repX n rs t).xs.length ≤ 9 ∧ cntRows (repX n rs t).xs ≤ 1000 := by
  refine ch_size ?_
  unfold repX
  split
  · rename_i h
    refine .inr ?_
    unfold repCode at h
    split at h
    · split at h
      · split at h
        · simp at h
        · split at h
          · assumption
          · simp at h
      · simp at h
    · simp at h
  · exact .inl rfl
/-- Two charts side by side. -/
def joinRow (a b : RowD) : RowD := ⟨a.d, a.r, a.s ++ b.s⟩
def joinRows : List RowD → List RowD → List RowD
  | [], _ => []
  | _, [] => []
  | a :: rs, b :: ss => joinRow a b :: joinRows rs ss
def sameHead (a b : RowD) : Bool := decide (a.d = b.d) && decide (a.r = b.r)
def sameHeads : List RowD → List RowD → Bool
  | [], _ => true
  | _, [] => true
  | a :: rs, b :: ss => sameHead a b && sameHeads rs ss
theorem joinRows_length (rs ss : List RowD) (h : rs.length = ss.length) : (joinRows rs ss).length = rs.length := by
  induction rs generalizing ss with
  | nil => simp [joinRows]
  | cons a rs ih =>
    cases ss with
    | nil => simp at h
    | cons b bs => simp [joinRows, ih bs (by simpa using h)]
def besCode (n : Int) (rs : List RowD) (m : Int) (ss : List RowD) : Int := if chartB n rs && chartB m ss then (if rs.length = ss.length then (if sameHeads rs ss then (if chartB (n + m) (joinRows rs ss) then 0 else 5) else 6) else 6) else 1
def besX (n : Int) (rs : List RowD) (m : Int) (ss : List RowD) : ChX := if besCode n rs m ss = 0 then ⟨n + m, joinRows rs ss⟩ else ⟨0, []⟩
theorem bes_err {n : Int} {rs : List RowD} {m : Int} {ss : List RowD} {k : Int} (e : besCode n rs m ss = k) (hk : k ≠ 0) : besX n rs m ss = ⟨0, []⟩ ∧ besCode n rs m ss = k := ⟨by rw [besX, if_neg (by rw [e]; exact hk)], e⟩
theorem besX_size (n : Int) (rs : List RowD) (m : Int) (ss : List RowD) : (besX n rs m ss).xs.length ≤ 9 ∧ cntRows (besX n rs m ss).xs ≤ 1000 := by
  refine ch_size ?_
  unfold besX
  split
  · rename_i h
    refine .inr ?_
    unfold besCode at h
    split at h
    · split at h
      · split at h
        · split at h
          · assumption
          · simp at h
        · simp at h
      · simp at h
    · simp at h
  · exact .inl rfl
/-- Cables. -/
def plainRow (s : List Int) : Bool := s.all fun k => !inR k 3 7
def plainB (rs : List RowD) : Bool := rs.all fun r => plainRow r.s
def cableB (n : Int) (rs : List RowD) : Bool := chartB n rs && plainB rs
def rowsWord (rs : List RowD) : List Int := rs.flatMap fun r => lettersFrom r.s 0
structure BrX where
  n : Int
  xs : List Int
def cbCode (n : Int) (rs : List RowD) : Int := if chartB n rs then (if plainB rs then (if (rowsWord rs).length ≤ 40 then 0 else 5) else 6) else 1
def cbX (n : Int) (rs : List RowD) : BrX := if cbCode n rs = 0 then ⟨n, rowsWord rs⟩ else ⟨0, []⟩
theorem cb_err {n : Int} {rs : List RowD} {k : Int} (e : cbCode n rs = k) (hk : k ≠ 0) : cbX n rs = ⟨0, []⟩ ∧ cbCode n rs = k := ⟨by rw [cbX, if_neg (by rw [e]; exact hk)], e⟩
theorem cbX_size (n : Int) (rs : List RowD) : (cbX n rs).xs.length ≤ 40 := by
  unfold cbX
  split
  · rename_i h
    unfold cbCode at h
    split at h
    · split at h
      · split at h
        · assumption
        · simp at h
      · simp at h
    · simp at h
  · simp

end Go.Proofs.YtnjgmhdmjaijgaaGreatDoor
