/- Steps of the proof, joined from several texts: TK RV TM XA XB. -/
import Derived.Test.YthjamohaeahipaaGreatZ6
import Derived.Test.YthjamohaeahipaaGreatZ4

/- keepsLimit. -/
namespace Go.Proofs.YthjamohaeahipaaGreat
open Go.RowKit

theorem ordL_map (d : Int) (cs : List Int) {k : Nat} (h : k < cs.length) : ∃ j : Nat, j < cs.length ∧ (ordL d (iotaI cs.length))[k]? = some (j : Int) ∧ (ordL d cs)[k]? = cs[j]? := by
  by_cases hd : d = -1
  · subst hd
    refine ⟨cs.length - 1 - k, by omega, ?_, ordL_rev h⟩
    rw [ordL_rev (by rw [iotaI_length]; exact h), iotaI_length]
    exact iotaI_at (by omega)
  · refine ⟨k, h, ?_, ?_⟩
    · unfold ordL; rw [if_neg hd]; exact iotaI_at h
    · unfold ordL; rw [if_neg hd]


end Go.Proofs.YthjamohaeahipaaGreat

/- slices.Repeat of [1], up to eight times. -/
namespace Go.Proofs.YthjamohaeahipaaGreat
open Go.RowKit

theorem bits_Mul8 (b : Int) (w : World) (hb : b = 3 ∨ b = 5 ∨ b = 6 ∨ b = 7 ∨ b = 8) : Calls Tryz.prog 94 #[.int .u64 1, .int .u64 b] w fun e w' => e = .returned (.tuple #[.int .u64 0, .int .u64 b]) ∧ w = w' := by
  rcases hb with rfl | rfl | rfl | rfl | rfl
  all_goals
    go_enter Tryz.func94, Tryz.ntmps94
    go_wp2_with (go_in)
    go_ret2
    exact ⟨rfl, rfl⟩

set_option maxHeartbeats 2000000 in
set_option maxRecDepth 20000 in
theorem slices_Repeat_3 (A : Option Addr) (c : Nat) (w : World) (h : Ints w A [1]) :
    Calls Tryz.prog 87 #[.slice A 1 c, .int .i64 3] w fun e w' => ∃ A' c', e = .returned (.slice A' (List.replicate 3 (1 : Int)).length c') ∧ OwnI w' w.heap.size w'.heap.size A' c' (List.replicate 3 1) ∧ Below w.heap.size w w' := by
  obtain ⟨i0, hi0, hz0, hz1, hz2⟩ := info_parts info_int64
  have hsz : (Tryz.prog.info? 2).map (·.size) = some 1 := by rw [hi0]; simp [hz1]
  obtain ⟨b, off, x, rfl, hc, hx⟩ := h 0 (by simp)
  obtain rfl : x = 1 := by simpa using hx.symm
  clear hx
  rw [Nat.add_zero] at hc
  go_enter Tryz.func87, Tryz.ntmps87
  go_wp2_with (fail)
  refine (bits_Mul8 _ _ (by omega)).mono ?_; rintro e _ ⟨rfl, rfl⟩
  go_wp2_with (refine wpList_make_full _ rfl _ _ _ rfl w.heap.size 2 i0 _ 1 Tryz.underlying24 hi0 hz0 hz1 .i64 .i64 _ _ 3 rfl rfl rfl rfl (by rw [hz2]; omega) (by unfold maxLen; omega) (Nat.le_refl _) ?_; intro w3 hown hg)
  have hb3 : Below w.heap.size w w3 := (Below.refl _ _).grown hg (Nat.le_refl _) (by simp)
  have o3 : OwnC w3 w.heap.size w3.heap.size 2 1 (some ⟨w.heap.size, 0, none⟩) 3 3 (ones 0 3) := by
    have := OwnC.of_own hown (Nat.le_refl _)
    simpa [madeCells, Value.cells, ones, List.range_succ] using this
  have h3 : w3.heap[w.heap.size]? = some (.cells (ones 0 3).toArray 2 (0, 0)) := by
    rcases o3.form with ⟨hA, _⟩ | ⟨g, cur, hA, _, _, hh, _, _, hs, ht⟩
    · cases hA
    · injection hA with hA
      injection hA with hA
      subst hA
      rw [hh, ← ht]
      congr 2
      apply Array.ext'
      rw [List.take_of_length_le (by simpa using Nat.le_of_eq hs)]
  have H3 := Lib.hid h3; clear h3 o3 hown hg
  replace hc := cells_below hb3 _ _ hc
  obtain ⟨w4, hcp, h4, hb4⟩ : ∃ w4, (Builtin.copy_ #[24, 24] 3 #[.slice (some ⟨w.heap.size, 0, none⟩) 3 3, .slice (some ⟨b, off, none⟩) 1 c]).run Tryz.prog w3 = .ok (.int .i64 1) w4 ∧ w4.heap[w.heap.size]? = some (.cells (ones 1 (3 - 1)).toArray 2 (0, 0)) ∧ Below w.heap.size w w4 := by
    have hrun := run_copy_row (P := Tryz.prog) w3 24 24 3 2 w.heap.size 0 3 3 ⟨b, off, none⟩ 1 c (ones 0 3).toArray 2 [.int .i64 1] Tryz.underlying24 hsz H3.out (by decide) (src1 hc) (by decide) (by decide)
    refine ⟨_, hrun, ?_, below_setRow hb3 (Nat.le_refl _) _⟩
    exact setRow_heap w3 w.heap.size _ _ 2 _ H3.out
  go_wp2_with (fail)
  rw [hcp]
  go_wp2_with (fail)
  have H4 : Hid (w4.heap[w.heap.size]? = some (.cells (ones 1 (3 - 1)).toArray 2 (0, 0))) := Lib.hid h4
  clear h4 hb3 hc H3
  go_loopw [8] (fun mv wr => ∃ m z : Nat, m + z = 3 ∧ (m = 1 ∨ m = 2 ∨ m = 3) ∧ mv = .int .i64 m ∧ Hid (wr.heap[w.heap.size]? = some (.cells (ones m z).toArray 2 (0, 0))) ∧ Below w.heap.size w wr) (fun mv _ => 3 - (intOf mv).toNat)
  case atStart => exact ⟨1, 3 - 1, rfl, .inl rfl, rfl, H4, hb4⟩
  case round =>
    clear H4 hb4
    obtain ⟨m, z, hmz, hm, rfl, H5, hb5⟩ := hrel
    have hgl : w.heap.size < wr.heap.size := (Array.getElem?_eq_some_iff.1 H5.out).1

    rcases hm with rfl | rfl | rfl
    · obtain rfl : z = 2 := by omega
      go_wp2_with (fail)
      go_region_law (refine step_copy_splice rfl (.tmp 41) (.tmp 44) 24 24 rfl 2 Tryz.underlying24 hsz (some ⟨w.heap.size, 1, none⟩) (some ⟨w.heap.size, 0, none⟩) 2 2 1 3 (by simp [Act.eval, Act.put]) (by simp [Act.eval, Act.put]) w.heap.size 1 (ones 1 2) 2 (show _ = _ from H5.out) (ones 1 0) (by decide) (fun _ => ⟨rfl, _, rfl, src_of_heap (show wr.heap[w.heap.size]? = _ from H5.out) rfl⟩) (by decide) (by decide) w.heap.size w (Below.drew2 hb5) (Nat.le_refl _) ?_; intro w6 h6 hb6)
      all_goals go_simp
      all_goals (try go_wp2_with (fail))
      all_goals
        refine ⟨⟨2, 1, rfl, by omega, rfl, Lib.hid h6.out, hb6⟩, by first | (simp [intOf, ones]; done) | (simp [intOf, ones]; decide)⟩
    · obtain rfl : z = 1 := by omega
      go_wp2_with (fail)
      go_region_law (refine step_copy_splice rfl (.tmp 41) (.tmp 44) 24 24 rfl 2 Tryz.underlying24 hsz (some ⟨w.heap.size, 2, none⟩) (some ⟨w.heap.size, 0, none⟩) 1 1 2 3 (by simp [Act.eval, Act.put]) (by simp [Act.eval, Act.put]) w.heap.size 2 (ones 2 1) 2 (show _ = _ from H5.out) (ones 1 0) (by decide) (fun _ => ⟨rfl, _, rfl, src_of_heap (show wr.heap[w.heap.size]? = _ from H5.out) rfl⟩) (by decide) (by decide) w.heap.size w (Below.drew2 hb5) (Nat.le_refl _) ?_; intro w6 h6 hb6)
      all_goals go_simp
      all_goals (try go_wp2_with (fail))
      all_goals
        refine ⟨⟨3, 0, rfl, by omega, rfl, Lib.hid h6.out, hb6⟩, by first | (simp [intOf, ones]; done) | (simp [intOf, ones]; decide)⟩
    · obtain rfl : z = 0 := by omega
      go_wp2_with (fail)
      go_ret
      exact ⟨some ⟨w.heap.size, 0, none⟩, 3, by simp, by have := ones_own (n := 3) (lo := w.heap.size) H5.out (Nat.le_refl _) (by decide); simpa using this, hb5⟩

set_option maxHeartbeats 2000000 in
set_option maxRecDepth 20000 in
theorem slices_Repeat_5 (A : Option Addr) (c : Nat) (w : World) (h : Ints w A [1]) :
    Calls Tryz.prog 87 #[.slice A 1 c, .int .i64 5] w fun e w' => ∃ A' c', e = .returned (.slice A' (List.replicate 5 (1 : Int)).length c') ∧ OwnI w' w.heap.size w'.heap.size A' c' (List.replicate 5 1) ∧ Below w.heap.size w w' := by
  obtain ⟨i0, hi0, hz0, hz1, hz2⟩ := info_parts info_int64
  have hsz : (Tryz.prog.info? 2).map (·.size) = some 1 := by rw [hi0]; simp [hz1]
  obtain ⟨b, off, x, rfl, hc, hx⟩ := h 0 (by simp)
  obtain rfl : x = 1 := by simpa using hx.symm
  clear hx
  rw [Nat.add_zero] at hc
  go_enter Tryz.func87, Tryz.ntmps87
  go_wp2_with (fail)
  refine (bits_Mul8 _ _ (by omega)).mono ?_; rintro e _ ⟨rfl, rfl⟩
  go_wp2_with (refine wpList_make_full _ rfl _ _ _ rfl w.heap.size 2 i0 _ 1 Tryz.underlying24 hi0 hz0 hz1 .i64 .i64 _ _ 5 rfl rfl rfl rfl (by rw [hz2]; omega) (by unfold maxLen; omega) (Nat.le_refl _) ?_; intro w3 hown hg)
  have hb3 : Below w.heap.size w w3 := (Below.refl _ _).grown hg (Nat.le_refl _) (by simp)
  have o3 : OwnC w3 w.heap.size w3.heap.size 2 1 (some ⟨w.heap.size, 0, none⟩) 5 5 (ones 0 5) := by
    have := OwnC.of_own hown (Nat.le_refl _)
    simpa [madeCells, Value.cells, ones, List.range_succ] using this
  have h3 : w3.heap[w.heap.size]? = some (.cells (ones 0 5).toArray 2 (0, 0)) := by
    rcases o3.form with ⟨hA, _⟩ | ⟨g, cur, hA, _, _, hh, _, _, hs, ht⟩
    · cases hA
    · injection hA with hA
      injection hA with hA
      subst hA
      rw [hh, ← ht]
      congr 2
      apply Array.ext'
      rw [List.take_of_length_le (by simpa using Nat.le_of_eq hs)]
  have H3 := Lib.hid h3; clear h3 o3 hown hg
  replace hc := cells_below hb3 _ _ hc
  obtain ⟨w4, hcp, h4, hb4⟩ : ∃ w4, (Builtin.copy_ #[24, 24] 3 #[.slice (some ⟨w.heap.size, 0, none⟩) 5 5, .slice (some ⟨b, off, none⟩) 1 c]).run Tryz.prog w3 = .ok (.int .i64 1) w4 ∧ w4.heap[w.heap.size]? = some (.cells (ones 1 (5 - 1)).toArray 2 (0, 0)) ∧ Below w.heap.size w w4 := by
    have hrun := run_copy_row (P := Tryz.prog) w3 24 24 3 2 w.heap.size 0 5 5 ⟨b, off, none⟩ 1 c (ones 0 5).toArray 2 [.int .i64 1] Tryz.underlying24 hsz H3.out (by decide) (src1 hc) (by decide) (by decide)
    refine ⟨_, hrun, ?_, below_setRow hb3 (Nat.le_refl _) _⟩
    exact setRow_heap w3 w.heap.size _ _ 2 _ H3.out
  go_wp2_with (fail)
  rw [hcp]
  go_wp2_with (fail)
  have H4 : Hid (w4.heap[w.heap.size]? = some (.cells (ones 1 (5 - 1)).toArray 2 (0, 0))) := Lib.hid h4
  clear h4 hb3 hc H3
  go_loopw [8] (fun mv wr => ∃ m z : Nat, m + z = 5 ∧ (m = 1 ∨ m = 2 ∨ m = 4 ∨ m = 5) ∧ mv = .int .i64 m ∧ Hid (wr.heap[w.heap.size]? = some (.cells (ones m z).toArray 2 (0, 0))) ∧ Below w.heap.size w wr) (fun mv _ => 5 - (intOf mv).toNat)
  case atStart => exact ⟨1, 5 - 1, rfl, .inl rfl, rfl, H4, hb4⟩
  case round =>
    clear H4 hb4
    obtain ⟨m, z, hmz, hm, rfl, H5, hb5⟩ := hrel
    have hgl : w.heap.size < wr.heap.size := (Array.getElem?_eq_some_iff.1 H5.out).1

    rcases hm with rfl | rfl | rfl | rfl
    · obtain rfl : z = 4 := by omega
      go_wp2_with (fail)
      go_region_law (refine step_copy_splice rfl (.tmp 41) (.tmp 44) 24 24 rfl 2 Tryz.underlying24 hsz (some ⟨w.heap.size, 1, none⟩) (some ⟨w.heap.size, 0, none⟩) 4 4 1 5 (by simp [Act.eval, Act.put]) (by simp [Act.eval, Act.put]) w.heap.size 1 (ones 1 4) 2 (show _ = _ from H5.out) (ones 1 0) (by decide) (fun _ => ⟨rfl, _, rfl, src_of_heap (show wr.heap[w.heap.size]? = _ from H5.out) rfl⟩) (by decide) (by decide) w.heap.size w (Below.drew2 hb5) (Nat.le_refl _) ?_; intro w6 h6 hb6)
      all_goals go_simp
      all_goals (try go_wp2_with (fail))
      all_goals
        refine ⟨⟨2, 3, rfl, by omega, rfl, Lib.hid h6.out, hb6⟩, by first | (simp [intOf, ones]; done) | (simp [intOf, ones]; decide)⟩
    · obtain rfl : z = 3 := by omega
      go_wp2_with (fail)
      go_region_law (refine step_copy_splice rfl (.tmp 41) (.tmp 44) 24 24 rfl 2 Tryz.underlying24 hsz (some ⟨w.heap.size, 2, none⟩) (some ⟨w.heap.size, 0, none⟩) 3 3 2 5 (by simp [Act.eval, Act.put]) (by simp [Act.eval, Act.put]) w.heap.size 2 (ones 2 3) 2 (show _ = _ from H5.out) (ones 2 0) (by decide) (fun _ => ⟨rfl, _, rfl, src_of_heap (show wr.heap[w.heap.size]? = _ from H5.out) rfl⟩) (by decide) (by decide) w.heap.size w (Below.drew2 hb5) (Nat.le_refl _) ?_; intro w6 h6 hb6)
      all_goals go_simp
      all_goals (try go_wp2_with (fail))
      all_goals
        refine ⟨⟨4, 1, rfl, by omega, rfl, Lib.hid h6.out, hb6⟩, by first | (simp [intOf, ones]; done) | (simp [intOf, ones]; decide)⟩
    · obtain rfl : z = 1 := by omega
      go_wp2_with (fail)
      go_region_law (refine step_copy_splice rfl (.tmp 41) (.tmp 44) 24 24 rfl 2 Tryz.underlying24 hsz (some ⟨w.heap.size, 4, none⟩) (some ⟨w.heap.size, 0, none⟩) 1 1 4 5 (by simp [Act.eval, Act.put]) (by simp [Act.eval, Act.put]) w.heap.size 4 (ones 4 1) 2 (show _ = _ from H5.out) (ones 1 0) (by decide) (fun _ => ⟨rfl, _, rfl, src_of_heap (show wr.heap[w.heap.size]? = _ from H5.out) rfl⟩) (by decide) (by decide) w.heap.size w (Below.drew2 hb5) (Nat.le_refl _) ?_; intro w6 h6 hb6)
      all_goals go_simp
      all_goals (try go_wp2_with (fail))
      all_goals
        refine ⟨⟨5, 0, rfl, by omega, rfl, Lib.hid h6.out, hb6⟩, by first | (simp [intOf, ones]; done) | (simp [intOf, ones]; decide)⟩
    · obtain rfl : z = 0 := by omega
      go_wp2_with (fail)
      go_ret
      exact ⟨some ⟨w.heap.size, 0, none⟩, 5, by simp, by have := ones_own (n := 5) (lo := w.heap.size) H5.out (Nat.le_refl _) (by decide); simpa using this, hb5⟩

set_option maxHeartbeats 2000000 in
set_option maxRecDepth 20000 in
theorem slices_Repeat_6 (A : Option Addr) (c : Nat) (w : World) (h : Ints w A [1]) :
    Calls Tryz.prog 87 #[.slice A 1 c, .int .i64 6] w fun e w' => ∃ A' c', e = .returned (.slice A' (List.replicate 6 (1 : Int)).length c') ∧ OwnI w' w.heap.size w'.heap.size A' c' (List.replicate 6 1) ∧ Below w.heap.size w w' := by
  obtain ⟨i0, hi0, hz0, hz1, hz2⟩ := info_parts info_int64
  have hsz : (Tryz.prog.info? 2).map (·.size) = some 1 := by rw [hi0]; simp [hz1]
  obtain ⟨b, off, x, rfl, hc, hx⟩ := h 0 (by simp)
  obtain rfl : x = 1 := by simpa using hx.symm
  clear hx
  rw [Nat.add_zero] at hc
  go_enter Tryz.func87, Tryz.ntmps87
  go_wp2_with (fail)
  refine (bits_Mul8 _ _ (by omega)).mono ?_; rintro e _ ⟨rfl, rfl⟩
  go_wp2_with (refine wpList_make_full _ rfl _ _ _ rfl w.heap.size 2 i0 _ 1 Tryz.underlying24 hi0 hz0 hz1 .i64 .i64 _ _ 6 rfl rfl rfl rfl (by rw [hz2]; omega) (by unfold maxLen; omega) (Nat.le_refl _) ?_; intro w3 hown hg)
  have hb3 : Below w.heap.size w w3 := (Below.refl _ _).grown hg (Nat.le_refl _) (by simp)
  have o3 : OwnC w3 w.heap.size w3.heap.size 2 1 (some ⟨w.heap.size, 0, none⟩) 6 6 (ones 0 6) := by
    have := OwnC.of_own hown (Nat.le_refl _)
    simpa [madeCells, Value.cells, ones, List.range_succ] using this
  have h3 : w3.heap[w.heap.size]? = some (.cells (ones 0 6).toArray 2 (0, 0)) := by
    rcases o3.form with ⟨hA, _⟩ | ⟨g, cur, hA, _, _, hh, _, _, hs, ht⟩
    · cases hA
    · injection hA with hA
      injection hA with hA
      subst hA
      rw [hh, ← ht]
      congr 2
      apply Array.ext'
      rw [List.take_of_length_le (by simpa using Nat.le_of_eq hs)]
  have H3 := Lib.hid h3; clear h3 o3 hown hg
  replace hc := cells_below hb3 _ _ hc
  obtain ⟨w4, hcp, h4, hb4⟩ : ∃ w4, (Builtin.copy_ #[24, 24] 3 #[.slice (some ⟨w.heap.size, 0, none⟩) 6 6, .slice (some ⟨b, off, none⟩) 1 c]).run Tryz.prog w3 = .ok (.int .i64 1) w4 ∧ w4.heap[w.heap.size]? = some (.cells (ones 1 (6 - 1)).toArray 2 (0, 0)) ∧ Below w.heap.size w w4 := by
    have hrun := run_copy_row (P := Tryz.prog) w3 24 24 3 2 w.heap.size 0 6 6 ⟨b, off, none⟩ 1 c (ones 0 6).toArray 2 [.int .i64 1] Tryz.underlying24 hsz H3.out (by decide) (src1 hc) (by decide) (by decide)
    refine ⟨_, hrun, ?_, below_setRow hb3 (Nat.le_refl _) _⟩
    exact setRow_heap w3 w.heap.size _ _ 2 _ H3.out
  go_wp2_with (fail)
  rw [hcp]
  go_wp2_with (fail)
  have H4 : Hid (w4.heap[w.heap.size]? = some (.cells (ones 1 (6 - 1)).toArray 2 (0, 0))) := Lib.hid h4
  clear h4 hb3 hc H3
  go_loopw [8] (fun mv wr => ∃ m z : Nat, m + z = 6 ∧ (m = 1 ∨ m = 2 ∨ m = 4 ∨ m = 6) ∧ mv = .int .i64 m ∧ Hid (wr.heap[w.heap.size]? = some (.cells (ones m z).toArray 2 (0, 0))) ∧ Below w.heap.size w wr) (fun mv _ => 6 - (intOf mv).toNat)
  case atStart => exact ⟨1, 6 - 1, rfl, .inl rfl, rfl, H4, hb4⟩
  case round =>
    clear H4 hb4
    obtain ⟨m, z, hmz, hm, rfl, H5, hb5⟩ := hrel
    have hgl : w.heap.size < wr.heap.size := (Array.getElem?_eq_some_iff.1 H5.out).1

    rcases hm with rfl | rfl | rfl | rfl
    · obtain rfl : z = 5 := by omega
      go_wp2_with (fail)
      go_region_law (refine step_copy_splice rfl (.tmp 41) (.tmp 44) 24 24 rfl 2 Tryz.underlying24 hsz (some ⟨w.heap.size, 1, none⟩) (some ⟨w.heap.size, 0, none⟩) 5 5 1 6 (by simp [Act.eval, Act.put]) (by simp [Act.eval, Act.put]) w.heap.size 1 (ones 1 5) 2 (show _ = _ from H5.out) (ones 1 0) (by decide) (fun _ => ⟨rfl, _, rfl, src_of_heap (show wr.heap[w.heap.size]? = _ from H5.out) rfl⟩) (by decide) (by decide) w.heap.size w (Below.drew2 hb5) (Nat.le_refl _) ?_; intro w6 h6 hb6)
      all_goals go_simp
      all_goals (try go_wp2_with (fail))
      all_goals
        refine ⟨⟨2, 4, rfl, by omega, rfl, Lib.hid h6.out, hb6⟩, by first | (simp [intOf, ones]; done) | (simp [intOf, ones]; decide)⟩
    · obtain rfl : z = 4 := by omega
      go_wp2_with (fail)
      go_region_law (refine step_copy_splice rfl (.tmp 41) (.tmp 44) 24 24 rfl 2 Tryz.underlying24 hsz (some ⟨w.heap.size, 2, none⟩) (some ⟨w.heap.size, 0, none⟩) 4 4 2 6 (by simp [Act.eval, Act.put]) (by simp [Act.eval, Act.put]) w.heap.size 2 (ones 2 4) 2 (show _ = _ from H5.out) (ones 2 0) (by decide) (fun _ => ⟨rfl, _, rfl, src_of_heap (show wr.heap[w.heap.size]? = _ from H5.out) rfl⟩) (by decide) (by decide) w.heap.size w (Below.drew2 hb5) (Nat.le_refl _) ?_; intro w6 h6 hb6)
      all_goals go_simp
      all_goals (try go_wp2_with (fail))
      all_goals
        refine ⟨⟨4, 2, rfl, by omega, rfl, Lib.hid h6.out, hb6⟩, by first | (simp [intOf, ones]; done) | (simp [intOf, ones]; decide)⟩
    · obtain rfl : z = 2 := by omega
      go_wp2_with (fail)
      go_region_law (refine step_copy_splice rfl (.tmp 41) (.tmp 44) 24 24 rfl 2 Tryz.underlying24 hsz (some ⟨w.heap.size, 4, none⟩) (some ⟨w.heap.size, 0, none⟩) 2 2 4 6 (by simp [Act.eval, Act.put]) (by simp [Act.eval, Act.put]) w.heap.size 4 (ones 4 2) 2 (show _ = _ from H5.out) (ones 2 0) (by decide) (fun _ => ⟨rfl, _, rfl, src_of_heap (show wr.heap[w.heap.size]? = _ from H5.out) rfl⟩) (by decide) (by decide) w.heap.size w (Below.drew2 hb5) (Nat.le_refl _) ?_; intro w6 h6 hb6)
      all_goals go_simp
      all_goals (try go_wp2_with (fail))
      all_goals
        refine ⟨⟨6, 0, rfl, by omega, rfl, Lib.hid h6.out, hb6⟩, by first | (simp [intOf, ones]; done) | (simp [intOf, ones]; decide)⟩
    · obtain rfl : z = 0 := by omega
      go_wp2_with (fail)
      go_ret
      exact ⟨some ⟨w.heap.size, 0, none⟩, 6, by simp, by have := ones_own (n := 6) (lo := w.heap.size) H5.out (Nat.le_refl _) (by decide); simpa using this, hb5⟩

set_option maxHeartbeats 2000000 in
set_option maxRecDepth 20000 in
theorem slices_Repeat_7 (A : Option Addr) (c : Nat) (w : World) (h : Ints w A [1]) :
    Calls Tryz.prog 87 #[.slice A 1 c, .int .i64 7] w fun e w' => ∃ A' c', e = .returned (.slice A' (List.replicate 7 (1 : Int)).length c') ∧ OwnI w' w.heap.size w'.heap.size A' c' (List.replicate 7 1) ∧ Below w.heap.size w w' := by
  obtain ⟨i0, hi0, hz0, hz1, hz2⟩ := info_parts info_int64
  have hsz : (Tryz.prog.info? 2).map (·.size) = some 1 := by rw [hi0]; simp [hz1]
  obtain ⟨b, off, x, rfl, hc, hx⟩ := h 0 (by simp)
  obtain rfl : x = 1 := by simpa using hx.symm
  clear hx
  rw [Nat.add_zero] at hc
  go_enter Tryz.func87, Tryz.ntmps87
  go_wp2_with (fail)
  refine (bits_Mul8 _ _ (by omega)).mono ?_; rintro e _ ⟨rfl, rfl⟩
  go_wp2_with (refine wpList_make_full _ rfl _ _ _ rfl w.heap.size 2 i0 _ 1 Tryz.underlying24 hi0 hz0 hz1 .i64 .i64 _ _ 7 rfl rfl rfl rfl (by rw [hz2]; omega) (by unfold maxLen; omega) (Nat.le_refl _) ?_; intro w3 hown hg)
  have hb3 : Below w.heap.size w w3 := (Below.refl _ _).grown hg (Nat.le_refl _) (by simp)
  have o3 : OwnC w3 w.heap.size w3.heap.size 2 1 (some ⟨w.heap.size, 0, none⟩) 7 7 (ones 0 7) := by
    have := OwnC.of_own hown (Nat.le_refl _)
    simpa [madeCells, Value.cells, ones, List.range_succ] using this
  have h3 : w3.heap[w.heap.size]? = some (.cells (ones 0 7).toArray 2 (0, 0)) := by
    rcases o3.form with ⟨hA, _⟩ | ⟨g, cur, hA, _, _, hh, _, _, hs, ht⟩
    · cases hA
    · injection hA with hA
      injection hA with hA
      subst hA
      rw [hh, ← ht]
      congr 2
      apply Array.ext'
      rw [List.take_of_length_le (by simpa using Nat.le_of_eq hs)]
  have H3 := Lib.hid h3; clear h3 o3 hown hg
  replace hc := cells_below hb3 _ _ hc
  obtain ⟨w4, hcp, h4, hb4⟩ : ∃ w4, (Builtin.copy_ #[24, 24] 3 #[.slice (some ⟨w.heap.size, 0, none⟩) 7 7, .slice (some ⟨b, off, none⟩) 1 c]).run Tryz.prog w3 = .ok (.int .i64 1) w4 ∧ w4.heap[w.heap.size]? = some (.cells (ones 1 (7 - 1)).toArray 2 (0, 0)) ∧ Below w.heap.size w w4 := by
    have hrun := run_copy_row (P := Tryz.prog) w3 24 24 3 2 w.heap.size 0 7 7 ⟨b, off, none⟩ 1 c (ones 0 7).toArray 2 [.int .i64 1] Tryz.underlying24 hsz H3.out (by decide) (src1 hc) (by decide) (by decide)
    refine ⟨_, hrun, ?_, below_setRow hb3 (Nat.le_refl _) _⟩
    exact setRow_heap w3 w.heap.size _ _ 2 _ H3.out
  go_wp2_with (fail)
  rw [hcp]
  go_wp2_with (fail)
  have H4 : Hid (w4.heap[w.heap.size]? = some (.cells (ones 1 (7 - 1)).toArray 2 (0, 0))) := Lib.hid h4
  clear h4 hb3 hc H3
  go_loopw [8] (fun mv wr => ∃ m z : Nat, m + z = 7 ∧ (m = 1 ∨ m = 2 ∨ m = 4 ∨ m = 7) ∧ mv = .int .i64 m ∧ Hid (wr.heap[w.heap.size]? = some (.cells (ones m z).toArray 2 (0, 0))) ∧ Below w.heap.size w wr) (fun mv _ => 7 - (intOf mv).toNat)
  case atStart => exact ⟨1, 7 - 1, rfl, .inl rfl, rfl, H4, hb4⟩
  case round =>
    clear H4 hb4
    obtain ⟨m, z, hmz, hm, rfl, H5, hb5⟩ := hrel
    have hgl : w.heap.size < wr.heap.size := (Array.getElem?_eq_some_iff.1 H5.out).1

    rcases hm with rfl | rfl | rfl | rfl
    · obtain rfl : z = 6 := by omega
      go_wp2_with (fail)
      go_region_law (refine step_copy_splice rfl (.tmp 41) (.tmp 44) 24 24 rfl 2 Tryz.underlying24 hsz (some ⟨w.heap.size, 1, none⟩) (some ⟨w.heap.size, 0, none⟩) 6 6 1 7 (by simp [Act.eval, Act.put]) (by simp [Act.eval, Act.put]) w.heap.size 1 (ones 1 6) 2 (show _ = _ from H5.out) (ones 1 0) (by decide) (fun _ => ⟨rfl, _, rfl, src_of_heap (show wr.heap[w.heap.size]? = _ from H5.out) rfl⟩) (by decide) (by decide) w.heap.size w (Below.drew2 hb5) (Nat.le_refl _) ?_; intro w6 h6 hb6)
      all_goals go_simp
      all_goals (try go_wp2_with (fail))
      all_goals
        refine ⟨⟨2, 5, rfl, by omega, rfl, Lib.hid h6.out, hb6⟩, by first | (simp [intOf, ones]; done) | (simp [intOf, ones]; decide)⟩
    · obtain rfl : z = 5 := by omega
      go_wp2_with (fail)
      go_region_law (refine step_copy_splice rfl (.tmp 41) (.tmp 44) 24 24 rfl 2 Tryz.underlying24 hsz (some ⟨w.heap.size, 2, none⟩) (some ⟨w.heap.size, 0, none⟩) 5 5 2 7 (by simp [Act.eval, Act.put]) (by simp [Act.eval, Act.put]) w.heap.size 2 (ones 2 5) 2 (show _ = _ from H5.out) (ones 2 0) (by decide) (fun _ => ⟨rfl, _, rfl, src_of_heap (show wr.heap[w.heap.size]? = _ from H5.out) rfl⟩) (by decide) (by decide) w.heap.size w (Below.drew2 hb5) (Nat.le_refl _) ?_; intro w6 h6 hb6)
      all_goals go_simp
      all_goals (try go_wp2_with (fail))
      all_goals
        refine ⟨⟨4, 3, rfl, by omega, rfl, Lib.hid h6.out, hb6⟩, by first | (simp [intOf, ones]; done) | (simp [intOf, ones]; decide)⟩
    · obtain rfl : z = 3 := by omega
      go_wp2_with (fail)
      go_region_law (refine step_copy_splice rfl (.tmp 41) (.tmp 44) 24 24 rfl 2 Tryz.underlying24 hsz (some ⟨w.heap.size, 4, none⟩) (some ⟨w.heap.size, 0, none⟩) 3 3 4 7 (by simp [Act.eval, Act.put]) (by simp [Act.eval, Act.put]) w.heap.size 4 (ones 4 3) 2 (show _ = _ from H5.out) (ones 3 0) (by decide) (fun _ => ⟨rfl, _, rfl, src_of_heap (show wr.heap[w.heap.size]? = _ from H5.out) rfl⟩) (by decide) (by decide) w.heap.size w (Below.drew2 hb5) (Nat.le_refl _) ?_; intro w6 h6 hb6)
      all_goals go_simp
      all_goals (try go_wp2_with (fail))
      all_goals
        refine ⟨⟨7, 0, rfl, by omega, rfl, Lib.hid h6.out, hb6⟩, by first | (simp [intOf, ones]; done) | (simp [intOf, ones]; decide)⟩
    · obtain rfl : z = 0 := by omega
      go_wp2_with (fail)
      go_ret
      exact ⟨some ⟨w.heap.size, 0, none⟩, 7, by simp, by have := ones_own (n := 7) (lo := w.heap.size) H5.out (Nat.le_refl _) (by decide); simpa using this, hb5⟩

set_option maxHeartbeats 2000000 in
set_option maxRecDepth 20000 in
theorem slices_Repeat_8 (A : Option Addr) (c : Nat) (w : World) (h : Ints w A [1]) :
    Calls Tryz.prog 87 #[.slice A 1 c, .int .i64 8] w fun e w' => ∃ A' c', e = .returned (.slice A' (List.replicate 8 (1 : Int)).length c') ∧ OwnI w' w.heap.size w'.heap.size A' c' (List.replicate 8 1) ∧ Below w.heap.size w w' := by
  obtain ⟨i0, hi0, hz0, hz1, hz2⟩ := info_parts info_int64
  have hsz : (Tryz.prog.info? 2).map (·.size) = some 1 := by rw [hi0]; simp [hz1]
  obtain ⟨b, off, x, rfl, hc, hx⟩ := h 0 (by simp)
  obtain rfl : x = 1 := by simpa using hx.symm
  clear hx
  rw [Nat.add_zero] at hc
  go_enter Tryz.func87, Tryz.ntmps87
  go_wp2_with (fail)
  refine (bits_Mul8 _ _ (by omega)).mono ?_; rintro e _ ⟨rfl, rfl⟩
  go_wp2_with (refine wpList_make_full _ rfl _ _ _ rfl w.heap.size 2 i0 _ 1 Tryz.underlying24 hi0 hz0 hz1 .i64 .i64 _ _ 8 rfl rfl rfl rfl (by rw [hz2]; omega) (by unfold maxLen; omega) (Nat.le_refl _) ?_; intro w3 hown hg)
  have hb3 : Below w.heap.size w w3 := (Below.refl _ _).grown hg (Nat.le_refl _) (by simp)
  have o3 : OwnC w3 w.heap.size w3.heap.size 2 1 (some ⟨w.heap.size, 0, none⟩) 8 8 (ones 0 8) := by
    have := OwnC.of_own hown (Nat.le_refl _)
    simpa [madeCells, Value.cells, ones, List.range_succ] using this
  have h3 : w3.heap[w.heap.size]? = some (.cells (ones 0 8).toArray 2 (0, 0)) := by
    rcases o3.form with ⟨hA, _⟩ | ⟨g, cur, hA, _, _, hh, _, _, hs, ht⟩
    · cases hA
    · injection hA with hA
      injection hA with hA
      subst hA
      rw [hh, ← ht]
      congr 2
      apply Array.ext'
      rw [List.take_of_length_le (by simpa using Nat.le_of_eq hs)]
  have H3 := Lib.hid h3; clear h3 o3 hown hg
  replace hc := cells_below hb3 _ _ hc
  obtain ⟨w4, hcp, h4, hb4⟩ : ∃ w4, (Builtin.copy_ #[24, 24] 3 #[.slice (some ⟨w.heap.size, 0, none⟩) 8 8, .slice (some ⟨b, off, none⟩) 1 c]).run Tryz.prog w3 = .ok (.int .i64 1) w4 ∧ w4.heap[w.heap.size]? = some (.cells (ones 1 (8 - 1)).toArray 2 (0, 0)) ∧ Below w.heap.size w w4 := by
    have hrun := run_copy_row (P := Tryz.prog) w3 24 24 3 2 w.heap.size 0 8 8 ⟨b, off, none⟩ 1 c (ones 0 8).toArray 2 [.int .i64 1] Tryz.underlying24 hsz H3.out (by decide) (src1 hc) (by decide) (by decide)
    refine ⟨_, hrun, ?_, below_setRow hb3 (Nat.le_refl _) _⟩
    exact setRow_heap w3 w.heap.size _ _ 2 _ H3.out
  go_wp2_with (fail)
  rw [hcp]
  go_wp2_with (fail)
  have H4 : Hid (w4.heap[w.heap.size]? = some (.cells (ones 1 (8 - 1)).toArray 2 (0, 0))) := Lib.hid h4
  clear h4 hb3 hc H3
  go_loopw [8] (fun mv wr => ∃ m z : Nat, m + z = 8 ∧ (m = 1 ∨ m = 2 ∨ m = 4 ∨ m = 8) ∧ mv = .int .i64 m ∧ Hid (wr.heap[w.heap.size]? = some (.cells (ones m z).toArray 2 (0, 0))) ∧ Below w.heap.size w wr) (fun mv _ => 8 - (intOf mv).toNat)
  case atStart => exact ⟨1, 8 - 1, rfl, .inl rfl, rfl, H4, hb4⟩
  case round =>
    clear H4 hb4
    obtain ⟨m, z, hmz, hm, rfl, H5, hb5⟩ := hrel
    have hgl : w.heap.size < wr.heap.size := (Array.getElem?_eq_some_iff.1 H5.out).1

    rcases hm with rfl | rfl | rfl | rfl
    · obtain rfl : z = 7 := by omega
      go_wp2_with (fail)
      go_region_law (refine step_copy_splice rfl (.tmp 41) (.tmp 44) 24 24 rfl 2 Tryz.underlying24 hsz (some ⟨w.heap.size, 1, none⟩) (some ⟨w.heap.size, 0, none⟩) 7 7 1 8 (by simp [Act.eval, Act.put]) (by simp [Act.eval, Act.put]) w.heap.size 1 (ones 1 7) 2 (show _ = _ from H5.out) (ones 1 0) (by decide) (fun _ => ⟨rfl, _, rfl, src_of_heap (show wr.heap[w.heap.size]? = _ from H5.out) rfl⟩) (by decide) (by decide) w.heap.size w (Below.drew2 hb5) (Nat.le_refl _) ?_; intro w6 h6 hb6)
      all_goals go_simp
      all_goals (try go_wp2_with (fail))
      all_goals
        refine ⟨⟨2, 6, rfl, by omega, rfl, Lib.hid h6.out, hb6⟩, by first | (simp [intOf, ones]; done) | (simp [intOf, ones]; decide)⟩
    · obtain rfl : z = 6 := by omega
      go_wp2_with (fail)
      go_region_law (refine step_copy_splice rfl (.tmp 41) (.tmp 44) 24 24 rfl 2 Tryz.underlying24 hsz (some ⟨w.heap.size, 2, none⟩) (some ⟨w.heap.size, 0, none⟩) 6 6 2 8 (by simp [Act.eval, Act.put]) (by simp [Act.eval, Act.put]) w.heap.size 2 (ones 2 6) 2 (show _ = _ from H5.out) (ones 2 0) (by decide) (fun _ => ⟨rfl, _, rfl, src_of_heap (show wr.heap[w.heap.size]? = _ from H5.out) rfl⟩) (by decide) (by decide) w.heap.size w (Below.drew2 hb5) (Nat.le_refl _) ?_; intro w6 h6 hb6)
      all_goals go_simp
      all_goals (try go_wp2_with (fail))
      all_goals
        refine ⟨⟨4, 4, rfl, by omega, rfl, Lib.hid h6.out, hb6⟩, by first | (simp [intOf, ones]; done) | (simp [intOf, ones]; decide)⟩
    · obtain rfl : z = 4 := by omega
      go_wp2_with (fail)
      go_region_law (refine step_copy_splice rfl (.tmp 41) (.tmp 44) 24 24 rfl 2 Tryz.underlying24 hsz (some ⟨w.heap.size, 4, none⟩) (some ⟨w.heap.size, 0, none⟩) 4 4 4 8 (by simp [Act.eval, Act.put]) (by simp [Act.eval, Act.put]) w.heap.size 4 (ones 4 4) 2 (show _ = _ from H5.out) (ones 4 0) (by decide) (fun _ => ⟨rfl, _, rfl, src_of_heap (show wr.heap[w.heap.size]? = _ from H5.out) rfl⟩) (by decide) (by decide) w.heap.size w (Below.drew2 hb5) (Nat.le_refl _) ?_; intro w6 h6 hb6)
      all_goals go_simp
      all_goals (try go_wp2_with (fail))
      all_goals
        refine ⟨⟨8, 0, rfl, by omega, rfl, Lib.hid h6.out, hb6⟩, by first | (simp [intOf, ones]; done) | (simp [intOf, ones]; decide)⟩
    · obtain rfl : z = 0 := by omega
      go_wp2_with (fail)
      go_ret
      exact ⟨some ⟨w.heap.size, 0, none⟩, 8, by simp, by have := ones_own (n := 8) (lo := w.heap.size) H5.out (Nat.le_refl _) (by decide); simpa using this, hb5⟩

theorem slices_Repeat_n (n : Nat) (h1 : 1 ≤ n) (h8 : n ≤ 8) (A : Option Addr) (c : Nat) (w : World) (h : Ints w A [1]) :
    Calls Tryz.prog 87 #[.slice A 1 c, .int .i64 n] w fun e w' => ∃ A' c', e = .returned (.slice A' (List.replicate n (1 : Int)).length c') ∧ OwnI w' w.heap.size w'.heap.size A' c' (List.replicate n 1) ∧ Below w.heap.size w w' := by
  have : n = 1 ∨ n = 2 ∨ n = 3 ∨ n = 4 ∨ n = 5 ∨ n = 6 ∨ n = 7 ∨ n = 8 := by omega
  rcases this with rfl | rfl | rfl | rfl | rfl | rfl | rfl | rfl
  · exact slices_Repeat_1 A c w h
  · exact slices_Repeat_2 A c w h
  · exact slices_Repeat_3 A c w h
  · exact slices_Repeat_4 A c w h
  · exact slices_Repeat_5 A c w h
  · exact slices_Repeat_6 A c w h
  · exact slices_Repeat_7 A c w h
  · exact slices_Repeat_8 A c w h


end Go.Proofs.YthjamohaeahipaaGreat

/- allStacks: the stacks of a chart, the program's side. -/
namespace Go.Proofs.YthjamohaeahipaaGreat
open Go.RowKit

theorem after_pos {ks st : List Int} (hs : ∀ k ∈ ks, isStitchB k = true) (h : takenS ks = st.length) (h1 : 1 ≤ st.length) : 1 ≤ (afterP ks st).length := by
  cases ks with
  | nil => simp [takenS] at h; omega
  | cons k ks =>
    have h2 := stepMade_madeN (hs k (by simp)) st
    have h3 := (takenN_le k (hs k (by simp))).2.2
    rw [afterP, List.length_append]
    omega
theorem OwnC.head {w : World} {lo hi : Nat} {e : TypeId} {sz : Nat} {A : Option Addr} {n c : Nat} {cs : List Value} (h : OwnC w lo hi e sz A n c cs) (hn : 1 ≤ n) : ∃ g, A = some ⟨g, 0, none⟩ := by
  rcases h.form with ⟨_, h1, _⟩ | ⟨g, _, h1, _⟩
  · omega
  · exact ⟨g, h1⟩

theorem chart_len {n : Int} {rs : List RowD} (h : inR (rs.length : Int) 1 8 = false) : chartB n rs = false := by
  unfold chartB
  rw [h, Bool.and_false, Bool.false_and]


end Go.Proofs.YthjamohaeahipaaGreat

/- Charts: the plain functions of what is made of valid charts. -/
namespace Go.Proofs.YthjamohaeahipaaGreat
open Go.RowKit

theorem rowB_of {d r : Int} {s : List Int} (h : rowB d r s = true) : (d = 1 ∨ d = -1) ∧ (1 ≤ r ∧ r ≤ 4) ∧ stitchesB s = true ∧ s.length ≤ 16 := by
  unfold rowB dirB carrierB at h
  simp only [Bool.and_eq_true, Bool.or_eq_true, beq_iff_eq] at h
  refine ⟨h.1.1, inR_iff.1 h.1.2, h.2, ?_⟩
  have h2 := h.2
  unfold stitchesB at h2
  simp only [Bool.and_eq_true, decide_eq_true_eq] at h2
  exact h2.2
theorem rowsOk_rows {st : List Int} {rs : List RowD} (h : rowsOkB st rs = true) : ∀ r ∈ rs, rowB r.d r.r r.s = true := by
  induction rs generalizing st with
  | nil => intro r hr; simp at hr
  | cons q rs ih =>
    simp only [rowsOkB, rowOkB, Bool.and_eq_true] at h
    intro r hr
    rcases List.mem_cons.1 hr with rfl | hr
    · exact h.1.1.1
    · exact ih h.2 r hr
theorem chartB_of {n : Int} {rs : List RowD} (h : chartB n rs = true) : (1 ≤ n ∧ n ≤ 8) ∧ (1 ≤ rs.length ∧ rs.length ≤ 8) ∧ ∀ r ∈ rs, rowB r.d r.r r.s = true := by
  unfold chartB at h
  simp only [Bool.and_eq_true] at h
  have h1 := inR_iff.1 h.1.1
  have h2 := inR_iff.1 h.1.2
  exact ⟨h1, by omega, rowsOk_rows h.2⟩
theorem lenRows_le {rs : List RowD} {m : Nat} (h : ∀ r ∈ rs, r.s.length ≤ m) : lenRows rs ≤ rs.length * m := by
  induction rs with
  | nil => simp [lenRows]
  | cons x r ih =>
    have h1 := h x (by simp)
    have h2 := ih fun y hy => h y (by simp [hy])
    simp only [lenRows, List.length_cons, Nat.succ_mul]
    omega
theorem chart_size {n : Int} {rs : List RowD} (h : chartB n rs = true) : rs.length ≤ 8 ∧ lenRows rs ≤ 128 := by
  obtain ⟨_, h2, h3⟩ := chartB_of h
  have h4 := lenRows_le fun r hr => (rowB_of (h3 r hr)).2.2.2
  have h5 := Nat.mul_le_mul_right 16 h2.2
  omega
theorem ch_size {X : ChX} (h : X = ⟨0, []⟩ ∨ chartB X.n X.xs = true) : X.xs.length ≤ 9 ∧ cntRows X.xs ≤ 1000 := by
  rcases h with rfl | h
  · simp [cntRows, lenRows]
  · have := chart_size h
    unfold cntRows
    omega

def validCode (n : Int) (rs : List RowD) : Int := if chartB n rs then 0 else 1
def colsP (n : Int) (rs : List RowD) : List Int := (chartStacks n rs).map fun s => (s.length : Int)
theorem colsP_length (n : Int) (rs : List RowD) : (colsP n rs).length ≤ 8 := by
  have := (chartStacks_size n rs).1
  unfold colsP
  rw [List.length_map]
  exact this
theorem colsP_bad {n : Int} {rs : List RowD} (h : chartB n rs = false) : chartStacks n rs = [] ∧ colsP n rs = [] ∧ validCode n rs = 1 := by
  have h1 : chartStacks n rs = [] := by rw [chartStacks, if_neg (by rw [h]; decide)]
  exact ⟨h1, by rw [colsP, h1]; rfl, by rw [validCode, if_neg (by rw [h]; decide)]⟩
theorem colsP_good {n : Int} {rs : List RowD} (h : chartB n rs = true) : colsP n rs = (chartStacks n rs).map (fun s => (s.length : Int)) ∧ validCode n rs = 0 :=
  ⟨rfl, by rw [validCode, if_pos h]⟩

/-- A mirror's view. -/
def mirK (k : Int) : Int := if k = 4 then 5 else if k = 5 then 4 else if k = 8 then 9 else if k = 9 then 8 else if k = 10 then 11 else if k = 11 then 10 else if isStitchB k then k else 0
def mirRow (r : RowD) : RowD := ⟨-r.d, r.r, r.s.reverse.map mirK⟩
def mirX (n : Int) (rs : List RowD) : ChX := if chartB n rs then ⟨n, rs.map mirRow⟩ else ⟨0, []⟩
theorem lenRows_mir (rs : List RowD) : lenRows (rs.map mirRow) = lenRows rs := by
  induction rs with
  | nil => rfl
  | cons x r ih => simp [lenRows, ih, mirRow]
theorem mirX_size (n : Int) (rs : List RowD) : (mirX n rs).xs.length ≤ 9 ∧ cntRows (mirX n rs).xs ≤ 1000 := by
  unfold mirX
  split
  · rename_i h
    have := chart_size h
    have h2 := lenRows_mir rs
    unfold cntRows
    simp only [List.length_map]
    omega
  · simp [cntRows, lenRows]

/-- The number of columns behind the last row of a valid chart. -/
def lastOf (n : Int) (rs : List RowD) : Int := ((chartStacks n rs).getLast?.getD []).length
def stackCode (n : Int) (rs : List RowD) (m : Int) (ss : List RowD) : Int := if chartB n rs && chartB m ss then (if lastOf n rs = m then (if chartB n (rs ++ ss) then 0 else 5) else 10) else 1
def stackX (n : Int) (rs : List RowD) (m : Int) (ss : List RowD) : ChX := if stackCode n rs m ss = 0 then ⟨n, rs ++ ss⟩ else ⟨0, []⟩
theorem stack_err {n : Int} {rs : List RowD} {m : Int} {ss : List RowD} {k : Int} (e : stackCode n rs m ss = k) (hk : k ≠ 0) : stackX n rs m ss = ⟨0, []⟩ ∧ stackCode n rs m ss = k := ⟨by rw [stackX, if_neg (by rw [e]; exact hk)], e⟩
theorem stackX_size (n : Int) (rs : List RowD) (m : Int) (ss : List RowD) : (stackX n rs m ss).xs.length ≤ 9 ∧ cntRows (stackX n rs m ss).xs ≤ 1000 := by
  refine ch_size ?_
  unfold stackX
  split
  · rename_i h
    refine .inr ?_
    unfold stackCode at h
    split at h
    · split at h
      · split at h
        · assumption
        · simp at h
      · simp at h
    · simp at h
  · exact .inl rfl
def repRows : Nat → List RowD → List RowD
  | 0, _ => []
  | k + 1, rs => repRows k rs ++ rs
theorem repRows_length (k : Nat) (rs : List RowD) : (repRows k rs).length = k * rs.length := by
  induction k with
  | zero => simp [repRows]
  | succ k ih => rw [repRows, List.length_append, ih, Nat.succ_mul]
def repCode (n : Int) (rs : List RowD) (t : Int) : Int := if chartB n rs then (if inR t 1 8 then (if decide (1 < t) && !decide (lastOf n rs = n) then 10 else if chartB n (repRows t.toNat rs) then 0 else 5) else 2) else 1
def repX (n : Int) (rs : List RowD) (t : Int) : ChX := if repCode n rs t = 0 then ⟨n, repRows t.toNat rs⟩ else ⟨0, []⟩
theorem rep_err {n : Int} {rs : List RowD} {t : Int} {k : Int} (e : repCode n rs t = k) (hk : k ≠ 0) : repX n rs t = ⟨0, []⟩ ∧ repCode n rs t = k := ⟨by rw [repX, if_neg (by rw [e]; exact hk)], e⟩
theorem repX_size (n : Int) (rs : List RowD) (t : Int) : (repX n rs t).xs.length ≤ 9 ∧ cntRows (repX n rs t).xs ≤ 1000 := by
  refine ch_size ?_
  unfold repX
  split
  · rename_i h
    refine .inr ?_
    unfold repCode at h
    split at h
    · split at h
      · split at h
        · simp at h
        · split at h
          · assumption
          · simp at h
      · simp at h
    · simp at h
  · exact .inl rfl
/-- Two charts side by side. -/
def joinRow (a b : RowD) : RowD := ⟨a.d, a.r, a.s ++ b.s⟩
def joinRows : List RowD → List RowD → List RowD
  | [], _ => []
  | _, [] => []
  | a :: rs, b :: ss => joinRow a b :: joinRows rs ss
def sameHead (a b : RowD) : Bool := decide (a.d = b.d) && decide (a.r = b.r)
def sameHeads : List RowD → List RowD → Bool
  | [], _ => true
  | _, [] => true
  | a :: rs, b :: ss => sameHead a b && sameHeads rs ss
theorem joinRows_length (rs ss : List RowD) (h : rs.length = ss.length) : (joinRows rs ss).length = rs.length := by
  induction rs generalizing ss with
  | nil => simp [joinRows]
  | cons a rs ih =>
    cases ss with
    | nil => simp at h
    | cons b bs => simp [joinRows, ih bs (by simpa using h)]
def besCode (n : Int) (rs : List RowD) (m : Int) (ss : List RowD) : Int := if chartB n rs && chartB m ss then (if rs.length = ss.length then (if sameHeads rs ss then (if chartB (n + m) (joinRows rs ss) then 0 else 5) else 6) else 6) else 1
def besX (n : Int) (rs : List RowD) (m : Int) (ss : List RowD) : ChX := if besCode n rs m ss = 0 then ⟨n + m, joinRows rs ss⟩ else ⟨0, []⟩
theorem bes_err {n : Int} {rs : List RowD} {m : Int} {ss : List RowD} {k : Int} (e : besCode n rs m ss = k) (hk : k ≠ 0) : besX n rs m ss = ⟨0, []⟩ ∧ besCode n rs m ss = k := ⟨by rw [besX, if_neg (by rw [e]; exact hk)], e⟩
theorem besX_size (n : Int) (rs : List RowD) (m : Int) (ss : List RowD) : (besX n rs m ss).xs.length ≤ 9 ∧ cntRows (besX n rs m ss).xs ≤ 1000 := by
  refine ch_size ?_
  unfold besX
  split
  · rename_i h
    refine .inr ?_
    unfold besCode at h
    split at h
    · split at h
      · split at h
        · split at h
          · assumption
          · simp at h
        · simp at h
      · simp at h
    · simp at h
  · exact .inl rfl
/-- Cables. -/
def plainRow (s : List Int) : Bool := s.all fun k => !inR k 3 7
def plainB (rs : List RowD) : Bool := rs.all fun r => plainRow r.s
def cableB (n : Int) (rs : List RowD) : Bool := chartB n rs && plainB rs
def rowsWord (rs : List RowD) : List Int := rs.flatMap fun r => lettersFrom r.s 0
structure BrX where
  n : Int
  xs : List Int
def cbCode (n : Int) (rs : List RowD) : Int := if chartB n rs then (if plainB rs then (if (rowsWord rs).length ≤ 40 then 0 else 5) else 6) else 1
def cbX (n : Int) (rs : List RowD) : BrX := if cbCode n rs = 0 then ⟨n, rowsWord rs⟩ else ⟨0, []⟩
theorem cb_err {n : Int} {rs : List RowD} {k : Int} (e : cbCode n rs = k) (hk : k ≠ 0) : cbX n rs = ⟨0, []⟩ ∧ cbCode n rs = k := ⟨by rw [cbX, if_neg (by rw [e]; exact hk)], e⟩
theorem cbX_size (n : Int) (rs : List RowD) : (cbX n rs).xs.length ≤ 40 := by
  unfold cbX
  split
  · rename_i h
    unfold cbCode at h
    split at h
    · split at h
      · split at h
        · assumption
        · simp at h
      · simp at h
    · simp at h
  · simp

end Go.Proofs.YthjamohaeahipaaGreat

/- Charts: ColumnsAfter, StacksOf. -/
namespace Go.Proofs.YthjamohaeahipaaGreat
open Go.RowKit

set_option maxRecDepth 10000 in
theorem spec_l00Own (A : Option Addr) (c : Nat) (xs : List Int) (w : World) (h : Ints w A xs) (hl : xs.length ≤ 1048576) :
    Calls Tryz.prog 62 #[.slice A xs.length c] w fun e w' => ∃ A' c', e = .returned (.slice A' xs.length c') ∧ OwnI w' w.heap.size w'.heap.size A' c' xs ∧ Below w.heap.size w w' := by
  obtain ⟨i0, hi0, hz0, hz1, hz2⟩ := info_parts info_int64
  have o1 := OwnC.lit (w := w) (lo := w.heap.size) (n := 0) 2 1 #[] (Nat.le_refl _) (Nat.zero_le _) rfl
  have hb1 : Below w.heap.size w (w.alloc (.cells #[] 2)) := by (repeat (first | exact Below.refl _ _ | assumption | apply Below.drew | apply below_drewN | (refine Below.alloc ?_ (by first | omega | (simp; done) | (simp; omega)) _) | (refine Below.setCell ?_ (by first | omega | (simp; done) | (simp; omega)) _)))
  have hn := (h.below hb1).news
  have O1 := Lib.hid o1; clear o1
  have HN := Lib.hid hn; clear hn
  go_enter Tryz.func62, Tryz.ntmps62
  go_wp2_with (at_builtin; refine wpList_appendC (w.alloc (.cells #[] 2)) rfl (.tmp 3) (.tmp 4) _ rfl 2 i0 _ 1 8 Tryz.underlying24 hi0 hz0 hz1 hz2 rfl (by decide) rfl O1.out (by simp) A xs.length c (xs.map (Value.int .i64)) rfl (by simp) HN.out (ints_one _) (by unfold maxLen; omega) (by omega) ?_; intro A5 c5 w5 ho5 hg5 hb5)
  go_ret
  refine ⟨A5, c5, by simp, ?_, hb1.trans hb5⟩
  simpa using ho5


end Go.Proofs.YthjamohaeahipaaGreat
