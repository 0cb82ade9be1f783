/- Steps of the proof, joined from several texts: RQ SA FF PL FLs. -/
import Derived.Test.YthjamohaeahipaaGreatZ3
import Derived.BigRegion
import Derived.Test.YthjamohaeahipaaGreatZ1
import Derived.BigGuard

/- slices.Repeat of [1]; madeStacks. -/
namespace Go.Proofs.YthjamohaeahipaaGreat
open Go.RowKit

theorem Below.drew2 {B : Nat} {w w' : World} (h : Below B w w') : Below B w (World.drew w') := h.trans ⟨rfl, rfl, rfl, Nat.le_refl _, fun _ _ => rfl⟩
theorem src1 {w : World} {b off : Nat} (h : w.cell? ⟨b, off, none⟩ = some (.int .i64 1)) : ∀ j v, ([Value.int .i64 1] : List Value)[j]? = some v → w.cell? ((⟨b, off, none⟩ : Addr).add j) = some v := by
  intro j v hv
  cases j with
  | zero =>
    simp at hv
    subst hv
    simpa [Addr.add] using h
  | succ j => simp at hv
theorem ones_own {w : World} {g lo n : Nat} (h : w.heap[g]? = some (.cells (ones n 0).toArray 2 (0, 0))) (hlo : lo ≤ g) (hn : n ≤ 1000) : OwnI w lo w.heap.size (some ⟨g, 0, none⟩) n (List.replicate n 1) := by
  have e : ones n 0 = (List.replicate n (1 : Int)).map (Value.int .i64) := by simp [ones]
  refine OwnC.of_own ⟨by simp, .inr ⟨g, n, (ones n 0).toArray, by simp, hlo, h, by simp, by unfold maxLen; omega, by simp [ones], by simp [ones]⟩⟩ (Nat.le_refl _)

set_option maxHeartbeats 2000000 in
set_option maxRecDepth 20000 in
theorem slices_Repeat_1 (A : Option Addr) (c : Nat) (w : World) (h : Ints w A [1]) :
    Calls Tryz.prog 87 #[.slice A 1 c, .int .i64 1] w fun e w' => ∃ A' c', e = .returned (.slice A' (List.replicate 1 (1 : Int)).length c') ∧ OwnI w' w.heap.size w'.heap.size A' c' (List.replicate 1 1) ∧ Below w.heap.size w w' := by
  obtain ⟨i0, hi0, hz0, hz1, hz2⟩ := info_parts info_int64
  have hsz : (Tryz.prog.info? 2).map (·.size) = some 1 := by rw [hi0]; simp [hz1]
  obtain ⟨b, off, x, rfl, hc, hx⟩ := h 0 (by simp)
  obtain rfl : x = 1 := by simpa using hx.symm
  clear hx
  rw [Nat.add_zero] at hc
  go_enter Tryz.func87, Tryz.ntmps87
  go_wp2_with (fail)
  refine (bits_Mul1 _ _ (by omega)).mono ?_; rintro e _ ⟨rfl, rfl⟩
  go_wp2_with (refine wpList_make_full _ rfl _ _ _ rfl w.heap.size 2 i0 _ 1 Tryz.underlying24 hi0 hz0 hz1 .i64 .i64 _ _ 1 rfl rfl rfl rfl (by rw [hz2]; omega) (by unfold maxLen; omega) (Nat.le_refl _) ?_; intro w3 hown hg)
  have hb3 : Below w.heap.size w w3 := (Below.refl _ _).grown hg (Nat.le_refl _) (by simp)
  have o3 : OwnC w3 w.heap.size w3.heap.size 2 1 (some ⟨w.heap.size, 0, none⟩) 1 1 (ones 0 1) := by
    have := OwnC.of_own hown (Nat.le_refl _)
    simpa [madeCells, Value.cells, ones, List.range_succ] using this
  have h3 : w3.heap[w.heap.size]? = some (.cells (ones 0 1).toArray 2 (0, 0)) := by
    rcases o3.form with ⟨hA, _⟩ | ⟨g, cur, hA, _, _, hh, _, _, hs, ht⟩
    · cases hA
    · injection hA with hA
      injection hA with hA
      subst hA
      rw [hh, ← ht]
      congr 2
      apply Array.ext'
      rw [List.take_of_length_le (by simpa using Nat.le_of_eq hs)]
  have H3 := Lib.hid h3; clear h3 o3 hown hg
  replace hc := cells_below hb3 _ _ hc
  obtain ⟨w4, hcp, h4, hb4⟩ : ∃ w4, (Builtin.copy_ #[24, 24] 3 #[.slice (some ⟨w.heap.size, 0, none⟩) 1 1, .slice (some ⟨b, off, none⟩) 1 c]).run Tryz.prog w3 = .ok (.int .i64 1) w4 ∧ w4.heap[w.heap.size]? = some (.cells (ones 1 (1 - 1)).toArray 2 (0, 0)) ∧ Below w.heap.size w w4 := by
    have hrun := run_copy_row (P := Tryz.prog) w3 24 24 3 2 w.heap.size 0 1 1 ⟨b, off, none⟩ 1 c (ones 0 1).toArray 2 [.int .i64 1] Tryz.underlying24 hsz H3.out (by decide) (src1 hc) (by decide) (by decide)
    refine ⟨_, hrun, ?_, below_setRow hb3 (Nat.le_refl _) _⟩
    exact setRow_heap w3 w.heap.size _ _ 2 _ H3.out
  go_wp2_with (fail)
  rw [hcp]
  go_wp2_with (fail)
  have H4 : Hid (w4.heap[w.heap.size]? = some (.cells (ones 1 (1 - 1)).toArray 2 (0, 0))) := Lib.hid h4
  clear h4 hb3 hc H3
  go_loopw [8] (fun mv wr => ∃ m z : Nat, m + z = 1 ∧ (m = 1 ∨ m = 2 ∨ m = 4) ∧ mv = .int .i64 m ∧ Hid (wr.heap[w.heap.size]? = some (.cells (ones m z).toArray 2 (0, 0))) ∧ Below w.heap.size w wr) (fun mv _ => 1 - (intOf mv).toNat)
  case atStart => exact ⟨1, 1 - 1, rfl, .inl rfl, rfl, H4, hb4⟩
  case round =>
    clear H4 hb4
    obtain ⟨m, z, hmz, hm, rfl, H5, hb5⟩ := hrel
    have hgl : w.heap.size < wr.heap.size := (Array.getElem?_eq_some_iff.1 H5.out).1

    rcases hm with rfl | rfl | rfl
    · obtain rfl : z = 0 := by omega
      go_wp2_with (fail)
      go_ret
      exact ⟨some ⟨w.heap.size, 0, none⟩, 1, by simp, by have := ones_own (n := 1) (lo := w.heap.size) H5.out (Nat.le_refl _) (by decide); simpa using this, hb5⟩
    · omega
    · omega

set_option maxHeartbeats 2000000 in
set_option maxRecDepth 20000 in
theorem slices_Repeat_2 (A : Option Addr) (c : Nat) (w : World) (h : Ints w A [1]) :
    Calls Tryz.prog 87 #[.slice A 1 c, .int .i64 2] w fun e w' => ∃ A' c', e = .returned (.slice A' (List.replicate 2 (1 : Int)).length c') ∧ OwnI w' w.heap.size w'.heap.size A' c' (List.replicate 2 1) ∧ Below w.heap.size w w' := by
  obtain ⟨i0, hi0, hz0, hz1, hz2⟩ := info_parts info_int64
  have hsz : (Tryz.prog.info? 2).map (·.size) = some 1 := by rw [hi0]; simp [hz1]
  obtain ⟨b, off, x, rfl, hc, hx⟩ := h 0 (by simp)
  obtain rfl : x = 1 := by simpa using hx.symm
  clear hx
  rw [Nat.add_zero] at hc
  go_enter Tryz.func87, Tryz.ntmps87
  go_wp2_with (fail)
  refine (bits_Mul1 _ _ (by omega)).mono ?_; rintro e _ ⟨rfl, rfl⟩
  go_wp2_with (refine wpList_make_full _ rfl _ _ _ rfl w.heap.size 2 i0 _ 1 Tryz.underlying24 hi0 hz0 hz1 .i64 .i64 _ _ 2 rfl rfl rfl rfl (by rw [hz2]; omega) (by unfold maxLen; omega) (Nat.le_refl _) ?_; intro w3 hown hg)
  have hb3 : Below w.heap.size w w3 := (Below.refl _ _).grown hg (Nat.le_refl _) (by simp)
  have o3 : OwnC w3 w.heap.size w3.heap.size 2 1 (some ⟨w.heap.size, 0, none⟩) 2 2 (ones 0 2) := by
    have := OwnC.of_own hown (Nat.le_refl _)
    simpa [madeCells, Value.cells, ones, List.range_succ] using this
  have h3 : w3.heap[w.heap.size]? = some (.cells (ones 0 2).toArray 2 (0, 0)) := by
    rcases o3.form with ⟨hA, _⟩ | ⟨g, cur, hA, _, _, hh, _, _, hs, ht⟩
    · cases hA
    · injection hA with hA
      injection hA with hA
      subst hA
      rw [hh, ← ht]
      congr 2
      apply Array.ext'
      rw [List.take_of_length_le (by simpa using Nat.le_of_eq hs)]
  have H3 := Lib.hid h3; clear h3 o3 hown hg
  replace hc := cells_below hb3 _ _ hc
  obtain ⟨w4, hcp, h4, hb4⟩ : ∃ w4, (Builtin.copy_ #[24, 24] 3 #[.slice (some ⟨w.heap.size, 0, none⟩) 2 2, .slice (some ⟨b, off, none⟩) 1 c]).run Tryz.prog w3 = .ok (.int .i64 1) w4 ∧ w4.heap[w.heap.size]? = some (.cells (ones 1 (2 - 1)).toArray 2 (0, 0)) ∧ Below w.heap.size w w4 := by
    have hrun := run_copy_row (P := Tryz.prog) w3 24 24 3 2 w.heap.size 0 2 2 ⟨b, off, none⟩ 1 c (ones 0 2).toArray 2 [.int .i64 1] Tryz.underlying24 hsz H3.out (by decide) (src1 hc) (by decide) (by decide)
    refine ⟨_, hrun, ?_, below_setRow hb3 (Nat.le_refl _) _⟩
    exact setRow_heap w3 w.heap.size _ _ 2 _ H3.out
  go_wp2_with (fail)
  rw [hcp]
  go_wp2_with (fail)
  have H4 : Hid (w4.heap[w.heap.size]? = some (.cells (ones 1 (2 - 1)).toArray 2 (0, 0))) := Lib.hid h4
  clear h4 hb3 hc H3
  go_loopw [8] (fun mv wr => ∃ m z : Nat, m + z = 2 ∧ (m = 1 ∨ m = 2 ∨ m = 4) ∧ mv = .int .i64 m ∧ Hid (wr.heap[w.heap.size]? = some (.cells (ones m z).toArray 2 (0, 0))) ∧ Below w.heap.size w wr) (fun mv _ => 2 - (intOf mv).toNat)
  case atStart => exact ⟨1, 2 - 1, rfl, .inl rfl, rfl, H4, hb4⟩
  case round =>
    clear H4 hb4
    obtain ⟨m, z, hmz, hm, rfl, H5, hb5⟩ := hrel
    have hgl : w.heap.size < wr.heap.size := (Array.getElem?_eq_some_iff.1 H5.out).1

    rcases hm with rfl | rfl | rfl
    · obtain rfl : z = 1 := by omega
      go_wp2_with (fail)
      go_region_law (refine step_copy_splice rfl (.tmp 41) (.tmp 44) 24 24 rfl 2 Tryz.underlying24 hsz (some ⟨w.heap.size, 1, none⟩) (some ⟨w.heap.size, 0, none⟩) 1 1 1 2 (by simp [Act.eval, Act.put]) (by simp [Act.eval, Act.put]) w.heap.size 1 (ones 1 1) 2 (show _ = _ from H5.out) (ones 1 0) (by decide) (fun _ => ⟨rfl, _, rfl, src_of_heap (show wr.heap[w.heap.size]? = _ from H5.out) rfl⟩) (by decide) (by decide) w.heap.size w (Below.drew2 hb5) (Nat.le_refl _) ?_; intro w6 h6 hb6)
      all_goals go_simp
      all_goals (try go_wp2_with (fail))
      all_goals
        refine ⟨⟨2, 0, rfl, by omega, rfl, Lib.hid h6.out, hb6⟩, by first | (simp [intOf, ones]; done) | (simp [intOf, ones]; decide)⟩
    · obtain rfl : z = 0 := by omega
      go_wp2_with (fail)
      go_ret
      exact ⟨some ⟨w.heap.size, 0, none⟩, 2, by simp, by have := ones_own (n := 2) (lo := w.heap.size) H5.out (Nat.le_refl _) (by decide); simpa using this, hb5⟩
    · omega

set_option maxHeartbeats 2000000 in
set_option maxRecDepth 20000 in
theorem slices_Repeat_4 (A : Option Addr) (c : Nat) (w : World) (h : Ints w A [1]) :
    Calls Tryz.prog 87 #[.slice A 1 c, .int .i64 4] w fun e w' => ∃ A' c', e = .returned (.slice A' (List.replicate 4 (1 : Int)).length c') ∧ OwnI w' w.heap.size w'.heap.size A' c' (List.replicate 4 1) ∧ Below w.heap.size w w' := by
  obtain ⟨i0, hi0, hz0, hz1, hz2⟩ := info_parts info_int64
  have hsz : (Tryz.prog.info? 2).map (·.size) = some 1 := by rw [hi0]; simp [hz1]
  obtain ⟨b, off, x, rfl, hc, hx⟩ := h 0 (by simp)
  obtain rfl : x = 1 := by simpa using hx.symm
  clear hx
  rw [Nat.add_zero] at hc
  go_enter Tryz.func87, Tryz.ntmps87
  go_wp2_with (fail)
  refine (bits_Mul1 _ _ (by omega)).mono ?_; rintro e _ ⟨rfl, rfl⟩
  go_wp2_with (refine wpList_make_full _ rfl _ _ _ rfl w.heap.size 2 i0 _ 1 Tryz.underlying24 hi0 hz0 hz1 .i64 .i64 _ _ 4 rfl rfl rfl rfl (by rw [hz2]; omega) (by unfold maxLen; omega) (Nat.le_refl _) ?_; intro w3 hown hg)
  have hb3 : Below w.heap.size w w3 := (Below.refl _ _).grown hg (Nat.le_refl _) (by simp)
  have o3 : OwnC w3 w.heap.size w3.heap.size 2 1 (some ⟨w.heap.size, 0, none⟩) 4 4 (ones 0 4) := by
    have := OwnC.of_own hown (Nat.le_refl _)
    simpa [madeCells, Value.cells, ones, List.range_succ] using this
  have h3 : w3.heap[w.heap.size]? = some (.cells (ones 0 4).toArray 2 (0, 0)) := by
    rcases o3.form with ⟨hA, _⟩ | ⟨g, cur, hA, _, _, hh, _, _, hs, ht⟩
    · cases hA
    · injection hA with hA
      injection hA with hA
      subst hA
      rw [hh, ← ht]
      congr 2
      apply Array.ext'
      rw [List.take_of_length_le (by simpa using Nat.le_of_eq hs)]
  have H3 := Lib.hid h3; clear h3 o3 hown hg
  replace hc := cells_below hb3 _ _ hc
  obtain ⟨w4, hcp, h4, hb4⟩ : ∃ w4, (Builtin.copy_ #[24, 24] 3 #[.slice (some ⟨w.heap.size, 0, none⟩) 4 4, .slice (some ⟨b, off, none⟩) 1 c]).run Tryz.prog w3 = .ok (.int .i64 1) w4 ∧ w4.heap[w.heap.size]? = some (.cells (ones 1 (4 - 1)).toArray 2 (0, 0)) ∧ Below w.heap.size w w4 := by
    have hrun := run_copy_row (P := Tryz.prog) w3 24 24 3 2 w.heap.size 0 4 4 ⟨b, off, none⟩ 1 c (ones 0 4).toArray 2 [.int .i64 1] Tryz.underlying24 hsz H3.out (by decide) (src1 hc) (by decide) (by decide)
    refine ⟨_, hrun, ?_, below_setRow hb3 (Nat.le_refl _) _⟩
    exact setRow_heap w3 w.heap.size _ _ 2 _ H3.out
  go_wp2_with (fail)
  rw [hcp]
  go_wp2_with (fail)
  have H4 : Hid (w4.heap[w.heap.size]? = some (.cells (ones 1 (4 - 1)).toArray 2 (0, 0))) := Lib.hid h4
  clear h4 hb3 hc H3
  go_loopw [8] (fun mv wr => ∃ m z : Nat, m + z = 4 ∧ (m = 1 ∨ m = 2 ∨ m = 4) ∧ mv = .int .i64 m ∧ Hid (wr.heap[w.heap.size]? = some (.cells (ones m z).toArray 2 (0, 0))) ∧ Below w.heap.size w wr) (fun mv _ => 4 - (intOf mv).toNat)
  case atStart => exact ⟨1, 4 - 1, rfl, .inl rfl, rfl, H4, hb4⟩
  case round =>
    clear H4 hb4
    obtain ⟨m, z, hmz, hm, rfl, H5, hb5⟩ := hrel
    have hgl : w.heap.size < wr.heap.size := (Array.getElem?_eq_some_iff.1 H5.out).1

    rcases hm with rfl | rfl | rfl
    · obtain rfl : z = 3 := by omega
      go_wp2_with (fail)
      go_region_law (refine step_copy_splice rfl (.tmp 41) (.tmp 44) 24 24 rfl 2 Tryz.underlying24 hsz (some ⟨w.heap.size, 1, none⟩) (some ⟨w.heap.size, 0, none⟩) 3 3 1 4 (by simp [Act.eval, Act.put]) (by simp [Act.eval, Act.put]) w.heap.size 1 (ones 1 3) 2 (show _ = _ from H5.out) (ones 1 0) (by decide) (fun _ => ⟨rfl, _, rfl, src_of_heap (show wr.heap[w.heap.size]? = _ from H5.out) rfl⟩) (by decide) (by decide) w.heap.size w (Below.drew2 hb5) (Nat.le_refl _) ?_; intro w6 h6 hb6)
      all_goals go_simp
      all_goals (try go_wp2_with (fail))
      all_goals
        refine ⟨⟨2, 2, rfl, by omega, rfl, Lib.hid h6.out, hb6⟩, by first | (simp [intOf, ones]; done) | (simp [intOf, ones]; decide)⟩
    · obtain rfl : z = 2 := by omega
      go_wp2_with (fail)
      go_region_law (refine step_copy_splice rfl (.tmp 41) (.tmp 44) 24 24 rfl 2 Tryz.underlying24 hsz (some ⟨w.heap.size, 2, none⟩) (some ⟨w.heap.size, 0, none⟩) 2 2 2 4 (by simp [Act.eval, Act.put]) (by simp [Act.eval, Act.put]) w.heap.size 2 (ones 2 2) 2 (show _ = _ from H5.out) (ones 2 0) (by decide) (fun _ => ⟨rfl, _, rfl, src_of_heap (show wr.heap[w.heap.size]? = _ from H5.out) rfl⟩) (by decide) (by decide) w.heap.size w (Below.drew2 hb5) (Nat.le_refl _) ?_; intro w6 h6 hb6)
      all_goals go_simp
      all_goals (try go_wp2_with (fail))
      all_goals
        refine ⟨⟨4, 0, rfl, by omega, rfl, Lib.hid h6.out, hb6⟩, by first | (simp [intOf, ones]; done) | (simp [intOf, ones]; decide)⟩
    · obtain rfl : z = 0 := by omega
      go_wp2_with (fail)
      go_ret
      exact ⟨some ⟨w.heap.size, 0, none⟩, 4, by simp, by have := ones_own (n := 4) (lo := w.heap.size) H5.out (Nat.le_refl _) (by decide); simpa using this, hb5⟩

theorem madeStacks_1 (A : Option Addr) (n c : Nat) (w : World) :
    Calls Tryz.prog 72 #[.int .i64 1, .slice A n c] w fun e w' => ∃ A' c', e = .returned (.tuple #[.slice A' (List.replicate 1 (1 : Int)).length c', .bool true]) ∧ OwnI w' w.heap.size w'.heap.size A' c' (List.replicate 1 1) ∧ Below w.heap.size w w' := by
  have HB : Hid (madeB 1 = 1) := Lib.hid (by decide)
  have hb1 : Below w.heap.size w (w.alloc (.cells #[.int .i64 1] 2)) := by (repeat (first | exact Below.refl _ _ | assumption | apply Below.drew | apply below_drewN | (refine Below.alloc ?_ (by first | omega | (simp; done) | (simp; omega)) _) | (refine Below.setCell ?_ (by first | omega | (simp; done) | (simp; omega)) _)))
  have hi : Ints (w.alloc (.cells #[.int .i64 1] 2)) (some ⟨w.heap.size, 0, none⟩) [1] := by
    intro k hk
    obtain rfl : k = 0 := by simp at hk; omega
    exact ⟨w.heap.size, 0, 1, rfl, (Blk.new w 2 #[.int .i64 1]).c1, rfl⟩
  have HI := Lib.hid hi; clear hi
  go_enter Tryz.func72, Tryz.ntmps72
  go_wp2_with (fail)
  refine (impl_ColumnsMade _ _).mono ?_; rintro e _ ⟨rfl, rfl⟩
  rw [HB.out]
  go_wp2_with (fail)
  refine (slices_Repeat_1 _ _ _ HI.out).mono ?_; rintro e w2 ⟨A2, c2, rfl, o2, b2⟩
  have z2 := b2.size
  simp only [World.size_alloc] at z2
  have b3 : Below w.heap.size w w2 := hb1.trans (b2.mono (by simp))
  go_wp2_with (fail)
  go_ret2
  exact ⟨A2, c2, rfl, o2.mono (by simp) (Nat.le_refl _), b3⟩

theorem madeStacks_2 (A : Option Addr) (n c : Nat) (w : World) :
    Calls Tryz.prog 72 #[.int .i64 2, .slice A n c] w fun e w' => ∃ A' c', e = .returned (.tuple #[.slice A' (List.replicate 1 (1 : Int)).length c', .bool true]) ∧ OwnI w' w.heap.size w'.heap.size A' c' (List.replicate 1 1) ∧ Below w.heap.size w w' := by
  have HB : Hid (madeB 2 = 1) := Lib.hid (by decide)
  have hb1 : Below w.heap.size w (w.alloc (.cells #[.int .i64 1] 2)) := by (repeat (first | exact Below.refl _ _ | assumption | apply Below.drew | apply below_drewN | (refine Below.alloc ?_ (by first | omega | (simp; done) | (simp; omega)) _) | (refine Below.setCell ?_ (by first | omega | (simp; done) | (simp; omega)) _)))
  have hi : Ints (w.alloc (.cells #[.int .i64 1] 2)) (some ⟨w.heap.size, 0, none⟩) [1] := by
    intro k hk
    obtain rfl : k = 0 := by simp at hk; omega
    exact ⟨w.heap.size, 0, 1, rfl, (Blk.new w 2 #[.int .i64 1]).c1, rfl⟩
  have HI := Lib.hid hi; clear hi
  go_enter Tryz.func72, Tryz.ntmps72
  go_wp2_with (fail)
  refine (impl_ColumnsMade _ _).mono ?_; rintro e _ ⟨rfl, rfl⟩
  rw [HB.out]
  go_wp2_with (fail)
  refine (slices_Repeat_1 _ _ _ HI.out).mono ?_; rintro e w2 ⟨A2, c2, rfl, o2, b2⟩
  have z2 := b2.size
  simp only [World.size_alloc] at z2
  have b3 : Below w.heap.size w w2 := hb1.trans (b2.mono (by simp))
  go_wp2_with (fail)
  go_ret2
  exact ⟨A2, c2, rfl, o2.mono (by simp) (Nat.le_refl _), b3⟩

theorem madeStacks_3 (A : Option Addr) (n c : Nat) (w : World) :
    Calls Tryz.prog 72 #[.int .i64 3, .slice A n c] w fun e w' => ∃ A' c', e = .returned (.tuple #[.slice A' (List.replicate 1 (1 : Int)).length c', .bool true]) ∧ OwnI w' w.heap.size w'.heap.size A' c' (List.replicate 1 1) ∧ Below w.heap.size w w' := by
  have HB : Hid (madeB 3 = 1) := Lib.hid (by decide)
  have hb1 : Below w.heap.size w (w.alloc (.cells #[.int .i64 1] 2)) := by (repeat (first | exact Below.refl _ _ | assumption | apply Below.drew | apply below_drewN | (refine Below.alloc ?_ (by first | omega | (simp; done) | (simp; omega)) _) | (refine Below.setCell ?_ (by first | omega | (simp; done) | (simp; omega)) _)))
  have hi : Ints (w.alloc (.cells #[.int .i64 1] 2)) (some ⟨w.heap.size, 0, none⟩) [1] := by
    intro k hk
    obtain rfl : k = 0 := by simp at hk; omega
    exact ⟨w.heap.size, 0, 1, rfl, (Blk.new w 2 #[.int .i64 1]).c1, rfl⟩
  have HI := Lib.hid hi; clear hi
  go_enter Tryz.func72, Tryz.ntmps72
  go_wp2_with (fail)
  refine (impl_ColumnsMade _ _).mono ?_; rintro e _ ⟨rfl, rfl⟩
  rw [HB.out]
  go_wp2_with (fail)
  refine (slices_Repeat_1 _ _ _ HI.out).mono ?_; rintro e w2 ⟨A2, c2, rfl, o2, b2⟩
  have z2 := b2.size
  simp only [World.size_alloc] at z2
  have b3 : Below w.heap.size w w2 := hb1.trans (b2.mono (by simp))
  go_wp2_with (fail)
  go_ret2
  exact ⟨A2, c2, rfl, o2.mono (by simp) (Nat.le_refl _), b3⟩

theorem madeStacks_8 (A : Option Addr) (n c : Nat) (w : World) :
    Calls Tryz.prog 72 #[.int .i64 8, .slice A n c] w fun e w' => ∃ A' c', e = .returned (.tuple #[.slice A' (List.replicate 2 (1 : Int)).length c', .bool true]) ∧ OwnI w' w.heap.size w'.heap.size A' c' (List.replicate 2 1) ∧ Below w.heap.size w w' := by
  have HB : Hid (madeB 8 = 2) := Lib.hid (by decide)
  have hb1 : Below w.heap.size w (w.alloc (.cells #[.int .i64 1] 2)) := by (repeat (first | exact Below.refl _ _ | assumption | apply Below.drew | apply below_drewN | (refine Below.alloc ?_ (by first | omega | (simp; done) | (simp; omega)) _) | (refine Below.setCell ?_ (by first | omega | (simp; done) | (simp; omega)) _)))
  have hi : Ints (w.alloc (.cells #[.int .i64 1] 2)) (some ⟨w.heap.size, 0, none⟩) [1] := by
    intro k hk
    obtain rfl : k = 0 := by simp at hk; omega
    exact ⟨w.heap.size, 0, 1, rfl, (Blk.new w 2 #[.int .i64 1]).c1, rfl⟩
  have HI := Lib.hid hi; clear hi
  go_enter Tryz.func72, Tryz.ntmps72
  go_wp2_with (fail)
  refine (impl_ColumnsMade _ _).mono ?_; rintro e _ ⟨rfl, rfl⟩
  rw [HB.out]
  go_wp2_with (fail)
  refine (slices_Repeat_2 _ _ _ HI.out).mono ?_; rintro e w2 ⟨A2, c2, rfl, o2, b2⟩
  have z2 := b2.size
  simp only [World.size_alloc] at z2
  have b3 : Below w.heap.size w w2 := hb1.trans (b2.mono (by simp))
  go_wp2_with (fail)
  go_ret2
  exact ⟨A2, c2, rfl, o2.mono (by simp) (Nat.le_refl _), b3⟩

theorem madeStacks_9 (A : Option Addr) (n c : Nat) (w : World) :
    Calls Tryz.prog 72 #[.int .i64 9, .slice A n c] w fun e w' => ∃ A' c', e = .returned (.tuple #[.slice A' (List.replicate 2 (1 : Int)).length c', .bool true]) ∧ OwnI w' w.heap.size w'.heap.size A' c' (List.replicate 2 1) ∧ Below w.heap.size w w' := by
  have HB : Hid (madeB 9 = 2) := Lib.hid (by decide)
  have hb1 : Below w.heap.size w (w.alloc (.cells #[.int .i64 1] 2)) := by (repeat (first | exact Below.refl _ _ | assumption | apply Below.drew | apply below_drewN | (refine Below.alloc ?_ (by first | omega | (simp; done) | (simp; omega)) _) | (refine Below.setCell ?_ (by first | omega | (simp; done) | (simp; omega)) _)))
  have hi : Ints (w.alloc (.cells #[.int .i64 1] 2)) (some ⟨w.heap.size, 0, none⟩) [1] := by
    intro k hk
    obtain rfl : k = 0 := by simp at hk; omega
    exact ⟨w.heap.size, 0, 1, rfl, (Blk.new w 2 #[.int .i64 1]).c1, rfl⟩
  have HI := Lib.hid hi; clear hi
  go_enter Tryz.func72, Tryz.ntmps72
  go_wp2_with (fail)
  refine (impl_ColumnsMade _ _).mono ?_; rintro e _ ⟨rfl, rfl⟩
  rw [HB.out]
  go_wp2_with (fail)
  refine (slices_Repeat_2 _ _ _ HI.out).mono ?_; rintro e w2 ⟨A2, c2, rfl, o2, b2⟩
  have z2 := b2.size
  simp only [World.size_alloc] at z2
  have b3 : Below w.heap.size w w2 := hb1.trans (b2.mono (by simp))
  go_wp2_with (fail)
  go_ret2
  exact ⟨A2, c2, rfl, o2.mono (by simp) (Nat.le_refl _), b3⟩

theorem madeStacks_10 (A : Option Addr) (n c : Nat) (w : World) :
    Calls Tryz.prog 72 #[.int .i64 10, .slice A n c] w fun e w' => ∃ A' c', e = .returned (.tuple #[.slice A' (List.replicate 4 (1 : Int)).length c', .bool true]) ∧ OwnI w' w.heap.size w'.heap.size A' c' (List.replicate 4 1) ∧ Below w.heap.size w w' := by
  have HB : Hid (madeB 10 = 4) := Lib.hid (by decide)
  have hb1 : Below w.heap.size w (w.alloc (.cells #[.int .i64 1] 2)) := by (repeat (first | exact Below.refl _ _ | assumption | apply Below.drew | apply below_drewN | (refine Below.alloc ?_ (by first | omega | (simp; done) | (simp; omega)) _) | (refine Below.setCell ?_ (by first | omega | (simp; done) | (simp; omega)) _)))
  have hi : Ints (w.alloc (.cells #[.int .i64 1] 2)) (some ⟨w.heap.size, 0, none⟩) [1] := by
    intro k hk
    obtain rfl : k = 0 := by simp at hk; omega
    exact ⟨w.heap.size, 0, 1, rfl, (Blk.new w 2 #[.int .i64 1]).c1, rfl⟩
  have HI := Lib.hid hi; clear hi
  go_enter Tryz.func72, Tryz.ntmps72
  go_wp2_with (fail)
  refine (impl_ColumnsMade _ _).mono ?_; rintro e _ ⟨rfl, rfl⟩
  rw [HB.out]
  go_wp2_with (fail)
  refine (slices_Repeat_4 _ _ _ HI.out).mono ?_; rintro e w2 ⟨A2, c2, rfl, o2, b2⟩
  have z2 := b2.size
  simp only [World.size_alloc] at z2
  have b3 : Below w.heap.size w w2 := hb1.trans (b2.mono (by simp))
  go_wp2_with (fail)
  go_ret2
  exact ⟨A2, c2, rfl, o2.mono (by simp) (Nat.le_refl _), b3⟩

theorem madeStacks_11 (A : Option Addr) (n c : Nat) (w : World) :
    Calls Tryz.prog 72 #[.int .i64 11, .slice A n c] w fun e w' => ∃ A' c', e = .returned (.tuple #[.slice A' (List.replicate 4 (1 : Int)).length c', .bool true]) ∧ OwnI w' w.heap.size w'.heap.size A' c' (List.replicate 4 1) ∧ Below w.heap.size w w' := by
  have HB : Hid (madeB 11 = 4) := Lib.hid (by decide)
  have hb1 : Below w.heap.size w (w.alloc (.cells #[.int .i64 1] 2)) := by (repeat (first | exact Below.refl _ _ | assumption | apply Below.drew | apply below_drewN | (refine Below.alloc ?_ (by first | omega | (simp; done) | (simp; omega)) _) | (refine Below.setCell ?_ (by first | omega | (simp; done) | (simp; omega)) _)))
  have hi : Ints (w.alloc (.cells #[.int .i64 1] 2)) (some ⟨w.heap.size, 0, none⟩) [1] := by
    intro k hk
    obtain rfl : k = 0 := by simp at hk; omega
    exact ⟨w.heap.size, 0, 1, rfl, (Blk.new w 2 #[.int .i64 1]).c1, rfl⟩
  have HI := Lib.hid hi; clear hi
  go_enter Tryz.func72, Tryz.ntmps72
  go_wp2_with (fail)
  refine (impl_ColumnsMade _ _).mono ?_; rintro e _ ⟨rfl, rfl⟩
  rw [HB.out]
  go_wp2_with (fail)
  refine (slices_Repeat_4 _ _ _ HI.out).mono ?_; rintro e w2 ⟨A2, c2, rfl, o2, b2⟩
  have z2 := b2.size
  simp only [World.size_alloc] at z2
  have b3 : Below w.heap.size w w2 := hb1.trans (b2.mono (by simp))
  go_wp2_with (fail)
  go_ret2
  exact ⟨A2, c2, rfl, o2.mono (by simp) (Nat.le_refl _), b3⟩

theorem madeStacks_4 (A : Option Addr) (x y : Int) (c : Nat) (w : World) (h : Ints w A [x, y]) (hx : 1 ≤ x ∧ x ≤ 4) (hy : 1 ≤ y ∧ y ≤ 4) :
    Calls Tryz.prog 72 #[.int .i64 4, .slice A 2 c] w fun e w' => ∃ A' c', e = .returned (.tuple #[.slice A' 1 c', .bool (decide (x + y ≤ 4))]) ∧ OwnI w' w.heap.size w'.heap.size A' c' [1] ∧ Below w.heap.size w w' := by
  obtain ⟨b, off, x', rfl, hc0, hx0⟩ := h 0 (by simp)
  obtain rfl : x' = x := by simpa using hx0.symm
  obtain ⟨b', off', y', hA, hc1, hx1⟩ := h 1 (by simp)
  injection hA with hA
  injection hA with hA1 hA2
  subst hA1 hA2
  obtain rfl : y' = y := by simpa using hx1.symm
  clear h hx0 hx1
  rw [Nat.add_zero] at hc0
  have q0 := cell_alloc hc0 (.cells #[.int .i64 1] 2)
  have q1 := cell_alloc hc1 (.cells #[.int .i64 1] 2)
  have o1 := (OwnC.lit (w := w) (lo := w.heap.size) (n := 1) 2 1 #[.int .i64 1] (Nat.le_refl _) (by unfold maxLen; omega) rfl).keep (w' := World.drew (w.alloc (.cells #[.int .i64 1] 2))) fun _ _ _ _ => rfl
  have b1 : Below w.heap.size w (World.drew (w.alloc (.cells #[.int .i64 1] 2))) := Below.drew2 (by (repeat (first | exact Below.refl _ _ | assumption | apply Below.drew | apply below_drewN | (refine Below.alloc ?_ (by first | omega | (simp; done) | (simp; omega)) _) | (refine Below.setCell ?_ (by first | omega | (simp; done) | (simp; omega)) _))))
  have O1 := Lib.hid o1; clear o1
  go_enter Tryz.func72, Tryz.ntmps72
  go_wp2_with (fail)
  go_region
  all_goals (try go_wp2_with (fail))
  all_goals
    go_ret2
    exact ⟨_, _, rfl, O1.out.mono (Nat.le_refl _) (show _ ≤ (w.alloc _).heap.size by simp), b1⟩

theorem madeStacks_5 (A : Option Addr) (x y : Int) (c : Nat) (w : World) (h : Ints w A [x, y]) (hx : 1 ≤ x ∧ x ≤ 4) (hy : 1 ≤ y ∧ y ≤ 4) :
    Calls Tryz.prog 72 #[.int .i64 5, .slice A 2 c] w fun e w' => ∃ A' c', e = .returned (.tuple #[.slice A' 1 c', .bool (decide (x + y ≤ 4))]) ∧ OwnI w' w.heap.size w'.heap.size A' c' [1] ∧ Below w.heap.size w w' := by
  obtain ⟨b, off, x', rfl, hc0, hx0⟩ := h 0 (by simp)
  obtain rfl : x' = x := by simpa using hx0.symm
  obtain ⟨b', off', y', hA, hc1, hx1⟩ := h 1 (by simp)
  injection hA with hA
  injection hA with hA1 hA2
  subst hA1 hA2
  obtain rfl : y' = y := by simpa using hx1.symm
  clear h hx0 hx1
  rw [Nat.add_zero] at hc0
  have q0 := cell_alloc hc0 (.cells #[.int .i64 1] 2)
  have q1 := cell_alloc hc1 (.cells #[.int .i64 1] 2)
  have o1 := (OwnC.lit (w := w) (lo := w.heap.size) (n := 1) 2 1 #[.int .i64 1] (Nat.le_refl _) (by unfold maxLen; omega) rfl).keep (w' := World.drew (w.alloc (.cells #[.int .i64 1] 2))) fun _ _ _ _ => rfl
  have b1 : Below w.heap.size w (World.drew (w.alloc (.cells #[.int .i64 1] 2))) := Below.drew2 (by (repeat (first | exact Below.refl _ _ | assumption | apply Below.drew | apply below_drewN | (refine Below.alloc ?_ (by first | omega | (simp; done) | (simp; omega)) _) | (refine Below.setCell ?_ (by first | omega | (simp; done) | (simp; omega)) _))))
  have O1 := Lib.hid o1; clear o1
  go_enter Tryz.func72, Tryz.ntmps72
  go_wp2_with (fail)
  go_region
  all_goals (try go_wp2_with (fail))
  all_goals
    go_ret2
    exact ⟨_, _, rfl, O1.out.mono (Nat.le_refl _) (show _ ≤ (w.alloc _).heap.size by simp), b1⟩

theorem madeStacks_6 (A : Option Addr) (x : Int) (c : Nat) (w : World) (h : Ints w A [x]) (hx : 1 ≤ x ∧ x ≤ 4) :
    Calls Tryz.prog 72 #[.int .i64 6, .slice A 1 c] w fun e w' => ∃ A' c', e = .returned (.tuple #[.slice A' 1 c', .bool (decide (x < 4))]) ∧ OwnI w' w.heap.size w'.heap.size A' c' [wrap64 (x + 1)] ∧ Below w.heap.size w w' := by
  obtain ⟨b, off, x', rfl, hc0, hx0⟩ := h 0 (by simp)
  obtain rfl : x' = x := by simpa using hx0.symm
  clear h hx0
  rw [Nat.add_zero] at hc0
  have hw : wrap64 (x' + 1) = x' + 1 := IntWalk.wrap64_in _ ⟨by omega, by omega⟩
  rw [hw]
  have hw2 : IntKind.i64.wrap (x' + 1) = x' + 1 := IntWalk.i64_in _ ⟨by omega, by omega⟩
  have q0 := cell_alloc hc0 (.cells #[.int .i64 (x' + 1)] 2)
  have q1 := cell_alloc hc0 (.cells #[.int .i64 (IntKind.i64.wrap (x' + 1))] 2)
  have o1 := (OwnC.lit (w := w) (lo := w.heap.size) (n := 1) 2 1 #[.int .i64 (x' + 1)] (Nat.le_refl _) (by unfold maxLen; omega) rfl).keep (w' := World.drew (w.alloc (.cells #[.int .i64 (x' + 1)] 2))) fun _ _ _ _ => rfl
  have b1 : Below w.heap.size w (World.drew (w.alloc (.cells #[.int .i64 (x' + 1)] 2))) := Below.drew2 (by (repeat (first | exact Below.refl _ _ | assumption | apply Below.drew | apply below_drewN | (refine Below.alloc ?_ (by first | omega | (simp; done) | (simp; omega)) _) | (refine Below.setCell ?_ (by first | omega | (simp; done) | (simp; omega)) _))))
  have O1 := Lib.hid o1; clear o1
  go_enter Tryz.func72, Tryz.ntmps72
  go_wp2_with (fail)
  go_region
  all_goals (try go_wp2_with (fail))
  all_goals
    go_ret2
    exact ⟨_, _, rfl, O1.out.mono (Nat.le_refl _) (show _ ≤ (w.alloc _).heap.size by simp), b1⟩

theorem madeStacks_7 (A : Option Addr) (x : Int) (c : Nat) (w : World) (h : Ints w A [x]) :
    Calls Tryz.prog 72 #[.int .i64 7, .slice A 1 c] w fun e w' => ∃ A' c', e = .returned (.tuple #[.slice A' 1 c', .bool true]) ∧ OwnI w' w.heap.size w'.heap.size A' c' [x] ∧ Below w.heap.size w w' := by
  obtain ⟨b, off, x', rfl, hc0, hx0⟩ := h 0 (by simp)
  obtain rfl : x' = x := by simpa using hx0.symm
  clear h hx0
  rw [Nat.add_zero] at hc0
  go_enter Tryz.func72, Tryz.ntmps72
  go_wp2_with (fail)
  go_ret2
  exact ⟨_, _, rfl, (OwnC.lit (lo := w.heap.size) (n := 1) 2 1 #[.int .i64 x'] (Nat.le_refl _) (by unfold maxLen; omega) rfl).mono (Nat.le_refl _) (by simp), by (repeat (first | exact Below.refl _ _ | assumption | apply Below.drew | apply below_drewN | (refine Below.alloc ?_ (by first | omega | (simp; done) | (simp; omega)) _) | (refine Below.setCell ?_ (by first | omega | (simp; done) | (simp; omega)) _)))⟩

theorem impl_madeStacks (k : Int) (A : Option Addr) (st : List Int) (c : Nat) (w : World) (h : Ints w A st) (hk : isStitchB k = true) (hl : st.length = takenN k) (hs : ∀ x ∈ st, inR x 1 4 = true) :
    Calls Tryz.prog 72 #[.int .i64 k, .slice A st.length c] w fun e w' => ∃ A' c', e = .returned (.tuple #[.slice A' (stepMade k st).length c', .bool (stepOk k st)]) ∧ OwnI w' w.heap.size w'.heap.size A' c' (stepMade k st) ∧ Below w.heap.size w w' := by
  have hs' : ∀ x ∈ st, 1 ≤ x ∧ x ≤ 4 := fun x hx => inR_iff.1 (hs x hx)
  rcases stitch_cases hk with rfl | rfl | rfl | rfl | rfl | rfl | rfl | rfl | rfl | rfl | rfl
  · exact madeStacks_1 _ _ _ _
  · exact madeStacks_2 _ _ _ _
  · exact madeStacks_3 _ _ _ _
  · match st, hl with
    | [x, y], _ => exact madeStacks_4 _ x y _ _ h (hs' x (by simp)) (hs' y (by simp))
  · match st, hl with
    | [x, y], _ => exact madeStacks_5 _ x y _ _ h (hs' x (by simp)) (hs' y (by simp))
  · match st, hl with
    | [x], _ => exact madeStacks_6 _ x _ _ h (hs' x (by simp))
  · match st, hl with
    | [x], _ => exact madeStacks_7 _ x _ _ h
  · exact madeStacks_8 _ _ _ _
  · exact madeStacks_9 _ _ _ _
  · exact madeStacks_10 _ _ _ _
  · exact madeStacks_11 _ _ _ _


end Go.Proofs.YthjamohaeahipaaGreat

/- StacksAfter, the reference's side. -/
namespace Go.Proofs.YthjamohaeahipaaGreat
open Go.RowKit

theorem st0_drop {st : List Int} {t : Nat} {x : Int} (h : st[t]? = some x) : st0 (st.drop t) = x := by
  unfold st0
  rw [List.getElem?_drop, Nat.add_zero, h]; rfl
theorem st1_drop {st : List Int} {t : Nat} {x : Int} (h : st[t + 1]? = some x) : st1 (st.drop t) = x := by
  unfold st1
  rw [List.getElem?_drop, h]; rfl
theorem afterP_drop {ks st : List Int} {i t : Nat} {k : Int} (h : ks[i]? = some k) : afterP (ks.drop i) (st.drop t) = stepMade k (st.drop t) ++ afterP (ks.drop (i + 1)) (st.drop (t + takenN k)) := by
  rw [drop_cons h, afterP, List.drop_drop]
theorem thickP_drop {ks st : List Int} {i t : Nat} {k : Int} (h : ks[i]? = some k) : thickP (ks.drop i) (st.drop t) = (stepThick k (st.drop t) || thickP (ks.drop (i + 1)) (st.drop (t + takenN k))) := by
  rw [drop_cons h, thickP, List.drop_drop]
theorem okAfter_drop {ks st : List Int} {i t : Nat} {k : Int} (h : ks[i]? = some k) : okAfter (ks.drop i) (st.drop t) = (stepOk k (st.drop t) && okAfter (ks.drop (i + 1)) (st.drop (t + takenN k))) := by
  rw [drop_cons h, okAfter, List.drop_drop]

set_option maxHeartbeats 4000000 in
set_option maxRecDepth 10000 in
theorem spec_l14After (A B : Option Addr) (c d : Nat) (st ks : List Int) (w : World) (h : Ints w A st) (h' : Ints w B ks) (hv : stacksB st = true) (hs : stitchesB ks = true) (heq : takenS ks = st.length) :
    Calls Tryz.prog 66 #[.slice A st.length c, .slice B ks.length d] w fun e w' => ∃ A' c', e = .returned (.slice A' (afterP ks st).length c') ∧ OwnI w' w.heap.size w'.heap.size A' c' (afterP ks st) ∧ Below w.heap.size w w' := by
  obtain ⟨i0, hi0, hz0, hz1, hz2⟩ := info_parts info_int64
  obtain ⟨hl, hst⟩ := stitchesB_of hs
  obtain ⟨hl8, hr⟩ := stacksB_of hv
  have HST := Lib.hid hst; clear hst
  have HR := Lib.hid hr; clear hr
  have HEQ := Lib.hid heq; clear heq
  go_enter Tryz.func66, Tryz.ntmps66
  go_wp2_with (fail)
  go_loopw [5, 6, 7] (fun ov tv iv wr => ∃ (i t : Nat) (A' : Option Addr) (c' : Nat) (out : List Int), i ≤ ks.length ∧ iv = .int .i64 i ∧ tv = .int .i64 t ∧ ov = .slice A' out.length c' ∧ OwnI wr w.heap.size wr.heap.size A' c' out ∧ Below w.heap.size w wr ∧ Hid (takenS (ks.take i) = t) ∧ Hid (afterP ks st = out ++ afterP (ks.drop i) (st.drop t)) ∧ out.length ≤ 4 * i) (fun _ _ iv _ => ks.length - (intOf iv).toNat)
  case atStart =>
    exact ⟨0, 0, some ⟨w.heap.size, 0, none⟩, 0, [], Nat.zero_le _, rfl, rfl, rfl, (OwnC.lit _ 1 #[] (Nat.le_refl _) (Nat.zero_le _) rfl).mono (Nat.le_refl _) (by simp), by (repeat (first | exact Below.refl _ _ | assumption | apply Below.drew | apply below_drewN | (refine Below.alloc ?_ (by first | omega | (simp; done) | (simp; omega)) _) | (refine Below.setCell ?_ (by first | omega | (simp; done) | (simp; omega)) _))), Lib.hid rfl, Lib.hid (by simp), by simp⟩
  case round =>
    obtain ⟨i, t, A', c', out, hi, rfl, rfl, rfl, ho, hb, HT, HA, hol⟩ := hrel
    have hzs := hb.size
    by_cases hlt : i < ks.length
    · obtain ⟨b, off, k, rfl, hc, hk⟩ := h' i hlt
      have hcw := Lib.hid hc
      replace hc := cells_below hb _ _ hc
      have hq := HST.out k (List.mem_of_getElem? hk)
      have htn := takenN_le k hq
      have hle : t + takenN k ≤ st.length := by have := takenS_at hk; rw [HT.out, HEQ.out] at this; exact this
      have HT2 : Hid (takenS (ks.take (i + 1)) = t + takenN k) := Lib.hid (by rw [takenS_snoc hk, HT.out])
      have HA2 : Hid (afterP ks st = (out ++ stepMade k (st.drop t)) ++ afterP (ks.drop (i + 1)) (st.drop (t + takenN k))) := Lib.hid (by rw [HA.out, afterP_drop hk, List.append_assoc])
      have HB : Hid (takenB k = takenN k) := Lib.hid (takenB_of hq)
      have HM : Hid (madeB k = madeN k) := Lib.hid (madeB_of hq)
      clear hk HT HA
      have j1 : (0 : Int) ≤ (i : Int) := by omega
      by_cases hk6 : k = 6
      · subst hk6
        have hlen : t < st.length := by have : takenN 6 = 1 := by decide
                                        omega
        obtain ⟨b1, off1, x, rfl, hcx, hx⟩ := h t hlen
        replace hcx := cells_below hb _ _ hcx
        have hxr := inR_iff.1 (HR.out x (List.mem_of_getElem? hx))
        have hsm : stepMade 6 (st.drop t) = [x + 1] := by
          unfold stepMade
          rw [if_pos rfl, st0_drop hx]
          have hw : wrap64 (x + 1) = x + 1 := IntWalk.wrap64_in _ ⟨by omega, by omega⟩
          rw [hw]
        rw [hsm] at HA2
        clear hx hsm
        go_wp2_with (at_builtin; refine wpList_append1 wr [.int .i64 (x + 1)] _ rfl (.tmp 34) (.tmp 40) _ rfl 2 i0 _ 1 8 Tryz.underlying24 hi0 hz0 hz1 hz2 rfl (by decide) rfl ho hzs 1 rfl rfl (by simp [Value.oneCell']) (by omega) (by decide) ?_; intro A2 c2 w2 ho2 hg2 hb2 hz2'; have hc2 := cells_below (hb.trans hb2) _ _ hcw.out)
        refine (spec_ColumnsTaken _ _).mono ?_; rintro e w9 ⟨rfl, b9⟩
        have o9 := ho2.below b9 (Nat.le_refl _)
        have hb9 : Below w.heap.size w w9 := (hb.trans hb2).trans (b9.mono (hb.trans hb2).size)
        have z9 := b9.size
        rw [HB.out]
        go_wp2_with (fail)
        refine ⟨⟨i + 1, t + takenN 6, A2, c2, (out ++ [x + 1]), by omega, by go_num, by push_cast; go_num, by simp, by show OwnC _ _ _ _ _ _ _ _ _; rw [List.map_append, List.length_append]; exact o9.mono (Nat.le_refl _) z9, hb9, HT2, HA2, by simp; omega⟩, by simp [intOf]; omega⟩
      · by_cases hk7 : k = 7
        · subst hk7
          have hlen : t < st.length := by have : takenN 7 = 1 := by decide
                                          omega
          obtain ⟨b1, off1, x, rfl, hcx, hx⟩ := h t hlen
          replace hcx := cells_below hb _ _ hcx
          have hsm : stepMade 7 (st.drop t) = [x] := by
            unfold stepMade
            rw [if_neg (by decide), if_pos rfl, st0_drop hx]
          rw [hsm] at HA2
          clear hx hsm
          go_wp2_with (at_builtin; refine wpList_append1 wr [.int .i64 x] _ rfl (.tmp 44) (.tmp 49) _ rfl 2 i0 _ 1 8 Tryz.underlying24 hi0 hz0 hz1 hz2 rfl (by decide) rfl ho hzs 1 rfl rfl (by simp [Value.oneCell']) (by omega) (by decide) ?_; intro A2 c2 w2 ho2 hg2 hb2 hz2'; have hc2 := cells_below (hb.trans hb2) _ _ hcw.out)
          refine (spec_ColumnsTaken _ _).mono ?_; rintro e w9 ⟨rfl, b9⟩
          have o9 := ho2.below b9 (Nat.le_refl _)
          have hb9 : Below w.heap.size w w9 := (hb.trans hb2).trans (b9.mono (hb.trans hb2).size)
          have z9 := b9.size
          rw [HB.out]
          go_wp2_with (fail)
          refine ⟨⟨i + 1, t + takenN 7, A2, c2, (out ++ [x]), by omega, by go_num, by push_cast; go_num, by simp, by show OwnC _ _ _ _ _ _ _ _ _; rw [List.map_append, List.length_append]; exact o9.mono (Nat.le_refl _) z9, hb9, HT2, HA2, by simp; omega⟩, by simp [intOf]; omega⟩
        · have hsm : stepMade k (st.drop t) = List.replicate (madeN k) 1 := by
            unfold stepMade
            rw [if_neg hk6, if_neg hk7]
          rw [hsm] at HA2
          clear hsm
          have hk6' : (k == 6) = false := by simpa using hk6
          have hk7' : (k == 7) = false := by simpa using hk7
          clear hk6 hk7
          go_wp2_with (fail)
          refine (spec_ColumnsMade _ _).mono ?_; rintro e w2 ⟨rfl, b2⟩
          have ho2 := ho.below b2 (Nat.le_refl _)
          have hb2 : Below w.heap.size w w2 := hb.trans (b2.mono hzs)
          have z2 := b2.size
          rw [HM.out]
          go_wp2_with (fail)
          go_loopw [5, 8] (fun ov mv ws => ∃ (j : Nat) (A' : Option Addr) (c' : Nat), j ≤ madeN k ∧ mv = .int .i64 ((madeN k : Int) - j) ∧ ov = .slice A' (out ++ List.replicate j 1).length c' ∧ OwnI ws w.heap.size ws.heap.size A' c' (out ++ List.replicate j 1) ∧ Below w.heap.size w ws) (fun _ mv _ => (intOf mv).toNat)
          case atStart => exact ⟨0, A', c', Nat.zero_le _, by simp, by simp, by simpa using ho2.mono (Nat.le_refl _) z2, hb2⟩
          case round =>
            clear ho ho2 hzs
            obtain ⟨j, A3, c3, hj, rfl, rfl, ho3, hb3⟩ := hrel
            have hzs3 := hb3.size
            have hlen : (out ++ List.replicate j (1 : Int)).length ≤ 100 := by simp; omega
            have hlen2 : (out ++ List.replicate j (1 : Int)).length = out.length + j := by simp
            have HL2 := Lib.hid hlen2; clear hlen2
            have HJ : Hid (out ++ List.replicate (j + 1) (1 : Int) = (out ++ List.replicate j 1) ++ [1]) := Lib.hid (by rw [List.replicate_succ', List.append_assoc])
            generalize hL : out ++ List.replicate j (1 : Int) = L at ho3 hlen HL2 HJ ⊢
            have HL := Lib.hid hL; clear hL
            by_cases hjl : j < madeN k
            · go_wp2_with (at_builtin; refine wpList_append1 wr [.int .i64 1] _ rfl (.tmp 29) (.tmp 30) _ rfl 2 i0 _ 1 8 Tryz.underlying24 hi0 hz0 hz1 hz2 rfl (by decide) rfl ho3 hzs3 1 rfl rfl (by simp [Value.oneCell']) (by omega) (by decide) ?_; intro A4 c4 w4 ho4 hg4 hb4 hz4)
              go_roundw
              case rel =>
                refine ⟨j + 1, A4, c4, by omega, by push_cast; go_num, by rw [HJ.out]; simp, ?_, hb3.trans hb4⟩
                rw [HJ.out]
                show OwnC _ _ _ _ _ _ _ _ _
                rw [List.map_append, List.length_append]
                exact ho4
              case measure => simp [intOf]; omega
            · have hj4 : j = madeN k := by omega
              subst hj4
              have hc3 := cells_below hb3 _ _ hcw.out
              go_wp2_with (fail)
              refine (spec_ColumnsTaken _ _).mono ?_; rintro e w9 ⟨rfl, b9⟩
              have o9 := ho3.below b9 (Nat.le_refl _)
              have hb9 : Below w.heap.size w w9 := hb3.trans (b9.mono hb3.size)
              have z9 := b9.size
              rw [HB.out]
              go_wp2_with (fail)
              refine ⟨⟨i + 1, t + takenN k, A3, c3, L, by omega, by go_num, by push_cast; go_num, rfl, o9.mono (Nat.le_refl _) z9, hb9, HT2, Lib.hid (by rw [HA2.out, HL.out]), by have := HL2.out; omega⟩, by simp [intOf]; omega⟩
    · go_wp2_with (fail)
      go_ret
      have he := HA.out
      rw [drop_all (by omega), afterP, List.append_nil] at he
      rw [he]
      exact ⟨_, _, rfl, ho, hb⟩

set_option maxHeartbeats 2000000 in
set_option maxRecDepth 10000 in
theorem spec_l14Thick (A B : Option Addr) (c d : Nat) (st ks : List Int) (w : World) (h : Ints w A st) (h' : Ints w B ks) (hv : stacksB st = true) (hs : stitchesB ks = true) (heq : takenS ks = st.length) :
    Calls Tryz.prog 67 #[.slice A st.length c, .slice B ks.length d] w fun e w' => e = .returned (.bool (thickP ks st)) ∧ Below w.heap.size w w' := by
  obtain ⟨hl, hst⟩ := stitchesB_of hs
  obtain ⟨hl8, hr⟩ := stacksB_of hv
  have HST := Lib.hid hst; clear hst
  have HR := Lib.hid hr; clear hr
  have HEQ := Lib.hid heq; clear heq
  go_enter Tryz.func67, Tryz.ntmps67
  go_wp2_with (fail)
  go_loopw [5, 6] (fun tv iv wr => ∃ (i t : Nat), i ≤ ks.length ∧ iv = .int .i64 i ∧ tv = .int .i64 t ∧ Below w.heap.size w wr ∧ Hid (takenS (ks.take i) = t) ∧ Hid (thickP ks st = thickP (ks.drop i) (st.drop t))) (fun _ iv _ => ks.length - (intOf iv).toNat)
  case atStart => exact ⟨0, 0, Nat.zero_le _, rfl, rfl, Below.refl _ _, Lib.hid rfl, Lib.hid (by simp)⟩
  case round =>
    obtain ⟨i, t, hi, rfl, rfl, hb, HT, HA⟩ := hrel
    have hzs := hb.size
    by_cases hlt : i < ks.length
    · obtain ⟨b, off, k, rfl, hc, hk⟩ := h' i hlt
      replace hc := cells_below hb _ _ hc
      have hq := HST.out k (List.mem_of_getElem? hk)
      have htn := takenN_le k hq
      have hle : t + takenN k ≤ st.length := by have := takenS_at hk; rw [HT.out, HEQ.out] at this; exact this
      have HT2 : Hid (takenS (ks.take (i + 1)) = t + takenN k) := Lib.hid (by rw [takenS_snoc hk, HT.out])
      have HA2 : Hid (thickP ks st = (stepThick k (st.drop t) || thickP (ks.drop (i + 1)) (st.drop (t + takenN k)))) := Lib.hid (by rw [HA.out, thickP_drop hk])
      have HB : Hid (takenB k = takenN k) := Lib.hid (takenB_of hq)
      clear hk HT HA
      have j1 : (0 : Int) ≤ (i : Int) := by omega
      have j2 : (i : Int) < (ks.length : Int) := by omega
      by_cases h45 : k = 4 ∨ k = 5
      · have ht2 : takenN k = 2 := by rcases h45 with rfl | rfl <;> rfl
        obtain ⟨b1, off1, x, hA1, hcx, hx⟩ := h t (by omega)
        obtain ⟨b2, off2, y, hA2, hcy, hy⟩ := h (t + 1) (by omega)
        subst hA1
        injection hA2 with hA2
        injection hA2 with hA2 hA3
        subst hA2 hA3
        replace hcx := cells_below hb _ _ hcx
        replace hcy := cells_below hb _ _ hcy
        have hxr := inR_iff.1 (HR.out x (List.mem_of_getElem? hx))
        have hyr := inR_iff.1 (HR.out y (List.mem_of_getElem? hy))
        have HS : Hid (stepThick k (st.drop t) = decide (4 < x + y)) := Lib.hid (by rw [stepThick, st0_drop hx, st1_drop hy, decide_eq_true h45, Bool.true_and])
        clear hx hy
        have j3 : (0 : Int) ≤ (t : Int) := by omega
        have j4 : (t : Int) < (st.length : Int) := by omega
        have j5 : (0 : Int) ≤ (t : Int) + 1 := by omega
        have j6 : (t : Int) + 1 < (st.length : Int) := by omega
        have j7 : ((t : Int) + 1).toNat = t + 1 := by omega
        have j8 : IntKind.i64.wrap ((t : Int) + 1) = (t : Int) + 1 := IntWalk.i64_in _ ⟨by omega, by omega⟩
        have hcy2 := hcy
        rw [← Nat.add_assoc] at hcy2
        rcases h45 with rfl | rfl
        · by_cases hxy : 4 < x + y
          · have hxy' : decide (4 < x + y) = true := decide_eq_true hxy
            go_wp2_with (fail)
            go_quiet (fail)
            go_wp2_with (fail)
            go_ret
            exact ⟨ret_bool (by rw [HA2.out, HS.out, decide_eq_true hxy]; rfl), below_drewN hb _⟩
          · have hxy' : decide (4 < x + y) = false := decide_eq_false hxy
            go_wp2_with (fail)
            go_quiet (fail)
            go_wp2_with (fail)
            refine (spec_ColumnsTaken _ _).mono ?_; rintro e w9 ⟨rfl, b9⟩
            have hb9 : Below w.heap.size w w9 := (below_drewN hb nq).trans (b9.mono hzs)
            rw [HB.out]
            go_wp2_with (fail)
            refine ⟨⟨i + 1, t + takenN _, by omega, by go_num, by push_cast; go_num, hb9, HT2, Lib.hid (by rw [HA2.out, HS.out, show decide (4 < x + y) = false from decide_eq_false (by omega), Bool.false_or])⟩, by simp [intOf]; omega⟩
        · have hd4 : ((5 : Int) == 4) = false := by decide
          by_cases hxy : 4 < x + y
          · have hxy' : decide (4 < x + y) = true := decide_eq_true hxy
            go_wp2_with (fail)
            go_quiet (fail)
            go_wp2_with (fail)
            go_ret
            exact ⟨ret_bool (by rw [HA2.out, HS.out, decide_eq_true hxy]; rfl), below_drewN hb _⟩
          · have hxy' : decide (4 < x + y) = false := decide_eq_false hxy
            go_wp2_with (fail)
            go_quiet (fail)
            go_wp2_with (fail)
            refine (spec_ColumnsTaken _ _).mono ?_; rintro e w9 ⟨rfl, b9⟩
            have hb9 : Below w.heap.size w w9 := (below_drewN hb nq).trans (b9.mono hzs)
            rw [HB.out]
            go_wp2_with (fail)
            refine ⟨⟨i + 1, t + takenN _, by omega, by go_num, by push_cast; go_num, hb9, HT2, Lib.hid (by rw [HA2.out, HS.out, show decide (4 < x + y) = false from decide_eq_false (by omega), Bool.false_or])⟩, by simp [intOf]; omega⟩
      · have hd4 : (k == 4) = false := by simpa using fun e => h45 (.inl e)
        have hd5 : (k == 5) = false := by simpa using fun e => h45 (.inr e)
        have HS : Hid (stepThick k (st.drop t) = false) := Lib.hid (by rw [stepThick, decide_eq_false h45, Bool.false_and])
        clear h45
        go_wp2_with (fail)
        go_quiet (fail)
        go_wp2_with (fail)
        refine (spec_ColumnsTaken _ _).mono ?_; rintro e w9 ⟨rfl, b9⟩
        have hb9 : Below w.heap.size w w9 := (below_drewN hb nq).trans (b9.mono hzs)
        rw [HB.out]
        go_wp2_with (fail)
        refine ⟨⟨i + 1, t + takenN k, by omega, by go_num, by push_cast; go_num, hb9, HT2, Lib.hid (by rw [HA2.out, HS.out, Bool.false_or])⟩, by simp [intOf]; omega⟩
    · go_wp2_with (fail)
      go_ret
      have he := HA.out
      rw [drop_all (by omega), thickP] at he
      exact ⟨ret_bool he.symm, hb⟩

end Go.Proofs.YthjamohaeahipaaGreat

/- Slices of Float: how they are read and owned, and the helpers of the laws on them. -/
namespace Go.Proofs.YthjamohaeahipaaGreat
open Go.RowKit

structure FloatD where
  row : Int
  carrier : Int
  start : Int
  stop : Int
instance : DecidableEq FloatD := fun a b => decidable_of_iff (a.row = b.row ∧ a.carrier = b.carrier ∧ a.start = b.start ∧ a.stop = b.stop) ⟨fun h => by cases a; cases b; simp_all, fun h => by simp [h]⟩
def cellsFloat : List FloatD → List Value
  | [] => []
  | p :: ps => .int .i64 p.row :: .int .i64 p.carrier :: .int .i64 p.start :: .int .i64 p.stop :: cellsFloat ps

theorem cellsFloat_length (ps : List FloatD) : (cellsFloat ps).length = ps.length * 4 := by
  induction ps with
  | nil => rfl
  | cons p ps ih => simp [cellsFloat, ih]; omega
theorem cellsFloat_snoc (ps : List FloatD) (p : FloatD) : cellsFloat (ps ++ [p]) = cellsFloat ps ++ [.int .i64 p.row, .int .i64 p.carrier, .int .i64 p.start, .int .i64 p.stop] := by
  induction ps with
  | nil => rfl
  | cons q ps ih => simp [cellsFloat, ih]
theorem cellsFloat_at {ps : List FloatD} {i : Nat} {p : FloatD} (h : ps[i]? = some p) : (cellsFloat ps)[i * 4]? = some (.int .i64 p.row) ∧ (cellsFloat ps)[i * 4 + 1]? = some (.int .i64 p.carrier) ∧ (cellsFloat ps)[i * 4 + 2]? = some (.int .i64 p.start) ∧ (cellsFloat ps)[i * 4 + 3]? = some (.int .i64 p.stop) := by
  induction ps generalizing i with
  | nil => simp at h
  | cons q ps ih =>
    cases i with
    | zero =>
      simp at h
      subst h
      simp [cellsFloat]
    | succ i =>
      have := ih (i := i) (by simpa using h)
      simp only [Nat.succ_mul, cellsFloat]
      simpa [Nat.add_right_comm] using this
def Floats (w : World) (A : Option Addr) (ps : List FloatD) : Prop :=
  ∀ k, k < ps.length → ∃ b off p, A = some ⟨b, off, none⟩ ∧ ps[k]? = some p ∧ w.cell? ⟨b, off + k * 4, none⟩ = some (.int .i64 p.row) ∧ w.cell? ⟨b, off + k * 4 + 1, none⟩ = some (.int .i64 p.carrier) ∧ w.cell? ⟨b, off + k * 4 + 2, none⟩ = some (.int .i64 p.start) ∧ w.cell? ⟨b, off + k * 4 + 3, none⟩ = some (.int .i64 p.stop)
theorem Floats.of_cells {w w' : World} {A : Option Addr} {ps : List FloatD} (h : Floats w A ps) (hk : ∀ a v, w.cell? a = some v → w'.cell? a = some v) : Floats w' A ps :=
  fun k hk' => by
    obtain ⟨b, off, p, hA, hp, h0, h1, h2, h3⟩ := h k hk'
    exact ⟨b, off, p, hA, hp, hk _ _ h0, hk _ _ h1, hk _ _ h2, hk _ _ h3⟩
theorem Floats.below {w w' : World} {A : Option Addr} {ps : List FloatD} (h : Floats w A ps) (hb : Below w.heap.size w w') : Floats w' A ps := h.of_cells (cells_below hb)
theorem Floats.drewN {w : World} {A : Option Addr} {ps : List FloatD} (h : Floats w A ps) (n : Nat) : Floats (w.drewN n) A ps := h
theorem Floats.nil {w : World} {A : Option Addr} : Floats w A [] := fun k hk => by simp at hk

def marksFloat (k : Int) (m : Nat) : List FloatD := (List.range m).map fun (i : Nat) => ⟨k + 4 * i, k + 4 * i + 1, k + 4 * i + 2, k + 4 * i + 3⟩
theorem marksFloat_length (k : Int) (m : Nat) : (marksFloat k m).length = m := by simp [marksFloat]
theorem marksFloat_snoc (k : Int) (m : Nat) : marksFloat k (m + 1) = marksFloat k m ++ [⟨k + 4 * m, k + 4 * m + 1, k + 4 * m + 2, k + 4 * m + 3⟩] := by simp [marksFloat, List.range_succ]
theorem marksFloat_at {k : Int} {m i : Nat} {p : FloatD} (h : (marksFloat k m)[i]? = some p) : p = ⟨k + 4 * i, k + 4 * i + 1, k + 4 * i + 2, k + 4 * i + 3⟩ := by
  simp only [marksFloat, List.getElem?_map, Option.map_eq_some_iff] at h
  obtain ⟨j, hj, rfl⟩ := h
  obtain ⟨hl, he⟩ := List.getElem?_eq_some_iff.1 hj
  simp at he
  subst he
  rfl


end Go.Proofs.YthjamohaeahipaaGreat

/- Floats and letters: the plain functions. -/
namespace Go.Proofs.YthjamohaeahipaaGreat
open Go.RowKit

def fStep (r c : Int) (s : List FloatD × Int) (k : Nat) (x : Int) : List FloatD × Int := if x = c then (if 0 ≤ s.2 ∧ s.2 + 1 < k then s.1 ++ [⟨r, c, s.2, k⟩] else s.1, k) else s
/-- The floats of one carrier in the first k columns of a row, and the last column of the carrier. -/
def fRow (r c : Int) (row : List Int) : Nat → List FloatD × Int
  | 0 => ([], -1)
  | k + 1 => fStep r c (fRow r c row k) k (row[k]?.getD 0)
def fCar (r : Int) (row : List Int) : Nat → List FloatD
  | 0 => []
  | j + 1 => fCar r row j ++ (fRow r ((j : Int) + 1) row row.length).1
def fAll (xss : List (List Int)) : Nat → List FloatD
  | 0 => []
  | i + 1 => fAll xss i ++ fCar i (xss[i]?.getD []) 4
def floatsP (n : Int) (xss : List (List Int)) : List FloatD := if coloursB n xss then fAll xss xss.length else []
def max64 (a b : Int) : Int := if b < a then a else b
def longOf (fs : List FloatD) : Int := fs.foldl (fun o f => max64 o (wrap64 (wrap64 (f.stop - f.start) - 1))) 0
def longP (n : Int) (xss : List (List Int)) : Int := longOf (floatsP n xss)
def colCode (n : Int) (xss : List (List Int)) : Int := if coloursB n xss then 0 else 1

theorem fRow_succ {r c : Int} {row : List Int} {k : Nat} {x : Int} (h : row[k]? = some x) : fRow r c row (k + 1) = fStep r c (fRow r c row k) k x := by
  rw [fRow, h]; rfl
theorem fRow_last (r c : Int) (row : List Int) (k : Nat) : -1 ≤ (fRow r c row k).2 ∧ (fRow r c row k).2 < k ∧ (fRow r c row k).1.length ≤ k := by
  induction k with
  | zero => simp [fRow]
  | succ k ih =>
    rw [fRow, fStep]
    split
    · split
      · simp; omega
      · simp; omega
    · refine ⟨ih.1, by omega, by omega⟩
theorem fCar_length (r : Int) (row : List Int) (j : Nat) : (fCar r row j).length ≤ j * row.length := by
  induction j with
  | zero => simp [fCar]
  | succ j ih =>
    have := (fRow_last r ((j : Int) + 1) row row.length).2.2
    rw [fCar, List.length_append, Nat.succ_mul]
    omega
theorem fAll_succ {xss : List (List Int)} {i : Nat} {row : List Int} (h : xss[i]? = some row) : fAll xss (i + 1) = fAll xss i ++ fCar i row 4 := by
  rw [fAll, h]; rfl
theorem fAll_length {xss : List (List Int)} (m : Nat) (h : ∀ row ∈ xss, row.length ≤ m) (i : Nat) : (fAll xss i).length ≤ i * (4 * m) := by
  induction i with
  | zero => simp [fAll]
  | succ i ih =>
    rw [fAll, List.length_append, Nat.succ_mul]
    have h1 := fCar_length (i : Int) (xss[i]?.getD []) 4
    have h2 : (xss[i]?.getD []).length ≤ m := by
      cases hx : xss[i]? with
      | none => simp
      | some row => exact h row (List.mem_of_getElem? hx)
    omega
theorem colours_row {n : Int} {xss : List (List Int)} (h : coloursB n xss = true) : 1 ≤ n ∧ n ≤ 8 ∧ 1 ≤ xss.length ∧ xss.length ≤ 8 ∧ ∀ row ∈ xss, (row.length : Int) = n := by
  unfold coloursB inR at h
  simp only [Bool.and_eq_true, List.all_eq_true, decide_eq_true_eq] at h
  obtain ⟨⟨h1, h2⟩, h3⟩ := h
  refine ⟨h1.1, h1.2, by omega, by omega, fun row hr => ?_⟩
  have := h3 row hr
  unfold rowOfB at this
  simp only [Bool.and_eq_true, decide_eq_true_eq] at this
  exact this.1
theorem fAll_small {n : Int} {xss : List (List Int)} (h : coloursB n xss = true) {i : Nat} (hi : i ≤ xss.length) : (fAll xss i).length ≤ 256 := by
  obtain ⟨_, h2, _, h4, h5⟩ := colours_row h
  have := fAll_length 8 (fun row hr => by have := h5 row hr; omega) i
  omega
theorem floatsP_length (n : Int) (xss : List (List Int)) : (floatsP n xss).length ≤ 256 := by
  unfold floatsP
  split
  · exact fAll_small (by assumption) (Nat.le_refl _)
  · simp

end Go.Proofs.YthjamohaeahipaaGreat

/- Floats: l19Floats, l19All, floats, FloatsOf, LongestFloat. -/
namespace Go.Proofs.YthjamohaeahipaaGreat
open Go.RowKit

theorem OwnC.news {w : World} {lo hi : Nat} {e : TypeId} {sz : Nat} {A : Option Addr} {n c : Nat} {cs : List Value} (h : OwnC w lo hi e sz A n c cs) : ∀ j u, cs[j]? = some u → ∃ b off, A = some ⟨b, off, none⟩ ∧ w.cell? ⟨b, off + j, none⟩ = some u := by
  intro j u hu
  obtain ⟨hj, rfl⟩ := List.getElem?_eq_some_iff.1 hu
  obtain ⟨g, rfl, _, _, h1, _⟩ := h.cell hj
  exact ⟨g, 0, rfl, by rw [Nat.zero_add]; exact h1⟩
theorem cellsFloat_one (ps : List FloatD) : ∀ u ∈ cellsFloat ps, u.oneCell' = true := by
  induction ps with
  | nil => simp [cellsFloat]
  | cons p ps ih =>
    intro u hu
    simp only [cellsFloat, List.mem_cons] at hu
    rcases hu with rfl | rfl | rfl | rfl | hu
    · rfl
    · rfl
    · rfl
    · rfl
    · exact ih u hu
theorem cellsFloat_append (a b : List FloatD) : cellsFloat (a ++ b) = cellsFloat a ++ cellsFloat b := by
  induction a with
  | nil => rfl
  | cons p a ih => simp [cellsFloat, ih]


end Go.Proofs.YthjamohaeahipaaGreat
