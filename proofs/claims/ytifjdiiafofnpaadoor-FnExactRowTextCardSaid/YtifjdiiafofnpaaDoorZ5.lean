/- Steps of the proof, joined from several texts: RP RQ SA. -/
import Derived.Test.YtifjdiiafofnpaaDoorZ4
import Derived.Laws.CopyOwn
import Derived.BigRegion

/- slices.Repeat of [1]; how many columns a stitch takes and makes. -/
namespace Go.Proofs.YtifjdiiafofnpaaDoor
open Go.RowKit

theorem addr_add (g i : Nat) : (⟨g, 0, none⟩ : Addr).add i = ⟨g, i, none⟩ := by
  unfold Addr.add
  split <;> simp_all
theorem src_of_heap {w : World} {g : Nat} {t : TypeId} {L cs : List Value} (h : w.heap[g]? = some (.cells L.toArray t (0, 0))) (hp : cs = L.take cs.length) : ∀ j v, cs[j]? = some v → w.cell? ((⟨g, 0, none⟩ : Addr).add j) = some v := by
  intro j v hv
  rw [addr_add, cell_of_row w g j L.toArray t (0, 0) h]
  have hj := (List.getElem?_eq_some_iff.1 hv).1
  rw [hp, List.getElem?_take, if_pos hj] at hv
  simpa using hv
def ones (m z : Nat) : List Value := (List.replicate m (1 : Int) ++ List.replicate z 0).map (Value.int .i64)

theorem bits_Mul1 (b : Int) (w : World) (hb : b = 1 ∨ b = 2 ∨ b = 4) : Calls Tryd.prog 119 #[.int .u64 1, .int .u64 b] w fun e w' => e = .returned (.tuple #[.int .u64 0, .int .u64 b]) ∧ w = w' := by
  rcases hb with rfl | rfl | rfl
  · go_enter Tryd.func119, Tryd.ntmps119
    go_wp2_with (go_in)
    go_ret2
    exact ⟨rfl, rfl⟩
  · go_enter Tryd.func119, Tryd.ntmps119
    go_wp2_with (go_in)
    go_ret2
    exact ⟨rfl, rfl⟩
  · go_enter Tryd.func119, Tryd.ntmps119
    go_wp2_with (go_in)
    go_ret2
    exact ⟨rfl, rfl⟩

theorem impl_ColumnsTaken (k : Int) (w : World) : Calls Tryd.prog 123 #[.int .i64 k] w fun e w' => e = .returned (.int .i64 (takenB k)) ∧ w = w' := by
  by_cases hk : isStitchB k = true
  · rcases stitch_cases hk with rfl | rfl | rfl | rfl | rfl | rfl | rfl | rfl | rfl | rfl | rfl
    all_goals
      go_enter Tryd.func123, Tryd.ntmps123
      go_wp2_with (fail)
      refine (impl_isStitch _ _).mono ?_; rintro e _ ⟨rfl, rfl⟩
      go_wp2_with (fail)
      go_ret
      exact ⟨rfl, rfl⟩
  · have hk' : isStitchB k = false := by simpa using hk
    have HF : Hid (takenB k = -1) := Lib.hid (by rw [takenB, if_neg hk])
    clear hk
    go_enter Tryd.func123, Tryd.ntmps123
    go_wp2_with (fail)
    refine (impl_isStitch _ _).mono ?_; rintro e _ ⟨rfl, rfl⟩
    go_wp2_with (fail)
    go_ret
    exact ⟨ret_int HF.out.symm, rfl⟩

theorem impl_ColumnsMade (k : Int) (w : World) : Calls Tryd.prog 140 #[.int .i64 k] w fun e w' => e = .returned (.int .i64 (madeB k)) ∧ w = w' := by
  by_cases hk : isStitchB k = true
  · rcases stitch_cases hk with rfl | rfl | rfl | rfl | rfl | rfl | rfl | rfl | rfl | rfl | rfl
    all_goals
      go_enter Tryd.func140, Tryd.ntmps140
      go_wp2_with (fail)
      refine (impl_isStitch _ _).mono ?_; rintro e _ ⟨rfl, rfl⟩
      go_wp2_with (fail)
      go_ret
      exact ⟨rfl, rfl⟩
  · have hk' : isStitchB k = false := by simpa using hk
    have HF : Hid (madeB k = -1) := Lib.hid (by rw [madeB, if_neg hk])
    clear hk
    go_enter Tryd.func140, Tryd.ntmps140
    go_wp2_with (fail)
    refine (impl_isStitch _ _).mono ?_; rintro e _ ⟨rfl, rfl⟩
    go_wp2_with (fail)
    go_ret
    exact ⟨ret_int HF.out.symm, rfl⟩

set_option maxHeartbeats 4000000 in
theorem spec_ColumnsTaken (k : Int) (w : World) : Calls Tryd.prog 117 #[.int .i64 k] w fun e w' => e = .returned (.int .i64 (takenB k)) ∧ Below w.heap.size w w' := by
  by_cases hk : isStitchB k = true
  · rcases stitch_cases hk with rfl | rfl | rfl | rfl | rfl | rfl | rfl | rfl | rfl | rfl | rfl
    all_goals
      go_enter Tryd.func117, Tryd.ntmps117
      go_wp2_with (fail)
      refine (spec_l14Kind _ _).mono ?_; rintro e _ ⟨rfl, rfl⟩
      go_wp2_with (fail)
      go_ret
      exact ⟨rfl, by (repeat (first | exact Below.refl _ _ | assumption | apply Below.drew | apply below_drewN | (refine Below.alloc ?_ (by first | omega | (simp; done) | (simp; omega)) _) | (refine Below.setCell ?_ (by first | omega | (simp; done) | (simp; omega)) _)))⟩
  · have hk' : isStitchB k = false := by simpa using hk
    have HF : Hid (takenB k = -1) := Lib.hid (by rw [takenB, if_neg hk])
    clear hk
    go_enter Tryd.func117, Tryd.ntmps117
    go_wp2_with (fail)
    refine (spec_l14Kind _ _).mono ?_; rintro e _ ⟨rfl, rfl⟩
    go_wp2_with (fail)
    go_ret
    exact ⟨ret_int HF.out.symm, Below.refl _ _⟩

set_option maxHeartbeats 4000000 in
theorem spec_ColumnsMade (k : Int) (w : World) : Calls Tryd.prog 118 #[.int .i64 k] w fun e w' => e = .returned (.int .i64 (madeB k)) ∧ Below w.heap.size w w' := by
  by_cases hk : isStitchB k = true
  · rcases stitch_cases hk with rfl | rfl | rfl | rfl | rfl | rfl | rfl | rfl | rfl | rfl | rfl
    all_goals
      go_enter Tryd.func118, Tryd.ntmps118
      go_wp2_with (fail)
      refine (spec_l14Kind _ _).mono ?_; rintro e _ ⟨rfl, rfl⟩
      go_wp2_with (fail)
      go_ret
      exact ⟨rfl, by (repeat (first | exact Below.refl _ _ | assumption | apply Below.drew | apply below_drewN | (refine Below.alloc ?_ (by first | omega | (simp; done) | (simp; omega)) _) | (refine Below.setCell ?_ (by first | omega | (simp; done) | (simp; omega)) _)))⟩
  · have hk' : isStitchB k = false := by simpa using hk
    have HF : Hid (madeB k = -1) := Lib.hid (by rw [madeB, if_neg hk])
    clear hk
    go_enter Tryd.func118, Tryd.ntmps118
    go_wp2_with (fail)
    refine (spec_l14Kind _ _).mono ?_; rintro e _ ⟨rfl, rfl⟩
    go_wp2_with (fail)
    go_ret
    exact ⟨ret_int HF.out.symm, Below.refl _ _⟩

theorem impl_takenBy (A : Option Addr) (c : Nat) (ks : List Int) (w : World) (h : Ints w A ks) (hs : stitchesB ks = true) :
    Calls Tryd.prog 122 #[.slice A ks.length c] w fun e w' => e = .returned (.int .i64 (takenS ks)) ∧ w = w' := by
  obtain ⟨hl, hst⟩ := stitchesB_of hs
  have hsum := (sums_le hst).1
  have HST := Lib.hid hst; clear hst
  go_enter Tryd.func122, Tryd.ntmps122
  go_wp2_with (fail)
  go_loop [3, 8] (fun s i => ∃ k : Nat, k ≤ ks.length ∧ i = .int .i64 k ∧ s = .int .i64 (takenS (ks.take k))) (fun _ i => ks.length - (intOf i).toNat)
  case atStart => exact ⟨0, Nat.zero_le _, rfl, rfl⟩
  case round =>
    obtain ⟨k, hk, rfl, rfl⟩ := hrel
    by_cases hlt : k < ks.length
    · obtain ⟨b, off, x, rfl, hc, hx⟩ := h k hlt
      have hq := HST.out x (List.mem_of_getElem? hx)
      have hle := takenS_at hx
      have HS : Hid (takenS (ks.take (k + 1)) = takenS (ks.take k) + takenN x) := Lib.hid (takenS_snoc hx)
      have HB : Hid (takenB x = takenN x) := Lib.hid (takenB_of hq)
      clear hx hq
      go_wp2_with (fail)
      refine (impl_ColumnsTaken _ _).mono ?_; rintro e _ ⟨rfl, rfl⟩
      rw [HB.out]
      go_wp2_with (fail)
      go_round
      case rel => exact ⟨k + 1, by omega, by go_num, by rw [HS.out]; push_cast; go_num⟩
      case measure => simp [intOf]; omega
    · go_wp2_with (fail)
      go_ret
      exact ⟨ret_int (by rw [take_all (by omega)]), rfl⟩

theorem spec_TakenBy (A : Option Addr) (c : Nat) (ks : List Int) (w : World) (h : Ints w A ks) (hl9 : ks.length ≤ 9223372036854775807) :
    Calls Tryd.prog 114 #[.slice A ks.length c] w fun e w' => e = .returned (.int .i64 (takenP ks)) ∧ Below w.heap.size w w' := by
  by_cases hs : stitchesB ks = true
  · have HF : Hid (takenP ks = takenS ks) := Lib.hid (by rw [takenP, if_pos hs])
    obtain ⟨hl, hst⟩ := stitchesB_of hs
    have HST := Lib.hid hst; clear hst
    go_enter Tryd.func114, Tryd.ntmps114
    go_wp2_with (fail)
    refine (spec_l14Ok _ _ _ _ h hl9).mono ?_; rintro e _ ⟨rfl, rfl⟩
    go_wp2_with (fail)
    go_loopw [3, 4] (fun s i wr => ∃ k : Nat, k ≤ ks.length ∧ i = .int .i64 k ∧ s = .int .i64 (takenS (ks.take k)) ∧ Below w.heap.size w wr) (fun _ i _ => ks.length - (intOf i).toNat)
    case atStart => exact ⟨0, Nat.zero_le _, rfl, rfl, Below.refl _ _⟩
    case round =>
      obtain ⟨k, hk, rfl, rfl, hb⟩ := hrel
      have hzs := hb.size
      by_cases hlt : k < ks.length
      · obtain ⟨b, off, x, rfl, hc, hx⟩ := h k hlt
        replace hc := cells_below hb _ _ hc
        have hq := HST.out x (List.mem_of_getElem? hx)
        have HS : Hid (takenS (ks.take (k + 1)) = takenS (ks.take k) + takenN x) := Lib.hid (takenS_snoc hx)
        have hle : takenS (ks.take (k + 1)) ≤ 4 * (k + 1) ∧ madeS (ks.take (k + 1)) ≤ 4 * (k + 1) := by
          have := (sums_le (ks := ks.take (k + 1)) fun y hy => HST.out y (List.mem_of_mem_take hy))
          have h2 := List.length_take_le (k + 1) ks
          omega
        have hle2 : takenS (ks.take (k + 1)) ≤ 4 * (k + 1) := by first | exact hle.1 | exact hle.2
        clear hle
        rw [HS.out] at hle2
        have HB : Hid (takenB x = takenN x) := Lib.hid (takenB_of hq)
        clear hx hq
        go_wp2_with (fail)
        refine (spec_ColumnsTaken _ _).mono ?_; rintro e w2 ⟨rfl, b2⟩
        have hb2 : Below w.heap.size w w2 := hb.trans (b2.mono hzs)
        rw [HB.out]
        go_wp2_with (fail)
        go_roundw
        case rel => exact ⟨k + 1, by omega, by go_num, by rw [HS.out]; push_cast; go_num, hb2⟩
        case measure => simp [intOf]; omega
      · go_wp2_with (fail)
        go_ret
        exact ⟨ret_int (by rw [HF.out, take_all (by omega)]), hb⟩
  · have hs' : stitchesB ks = false := by simpa using hs
    have HF : Hid (takenP ks = -1) := Lib.hid (by rw [takenP, if_neg hs])
    clear hs
    go_enter Tryd.func114, Tryd.ntmps114
    go_wp2_with (fail)
    refine (spec_l14Ok _ _ _ _ h hl9).mono ?_; rintro e _ ⟨rfl, rfl⟩
    go_wp2_with (fail)
    go_ret
    exact ⟨ret_int HF.out.symm, Below.refl _ _⟩

end Go.Proofs.YtifjdiiafofnpaaDoor

/- slices.Repeat of [1]; madeStacks. -/
namespace Go.Proofs.YtifjdiiafofnpaaDoor
open Go.RowKit

theorem Below.drew2 {B : Nat} {w w' : World} (h : Below B w w') : Below B w (World.drew w') := h.trans ⟨rfl, rfl, rfl, Nat.le_refl _, fun _ _ => rfl⟩
theorem src1 {w : World} {b off : Nat} (h : w.cell? ⟨b, off, none⟩ = some (.int .i64 1)) : ∀ j v, ([Value.int .i64 1] : List Value)[j]? = some v → w.cell? ((⟨b, off, none⟩ : Addr).add j) = some v := by
  intro j v hv
  cases j with
  | zero =>
    simp at hv
    subst hv
    simpa [Addr.add] using h
  | succ j => simp at hv
theorem ones_own {w : World} {g lo n : Nat} (h : w.heap[g]? = some (.cells (ones n 0).toArray 2 (0, 0))) (hlo : lo ≤ g) (hn : n ≤ 1000) : OwnI w lo w.heap.size (some ⟨g, 0, none⟩) n (List.replicate n 1) := by
  have e : ones n 0 = (List.replicate n (1 : Int)).map (Value.int .i64) := by simp [ones]
  refine OwnC.of_own ⟨by simp, .inr ⟨g, n, (ones n 0).toArray, by simp, hlo, h, by simp, by unfold maxLen; omega, by simp [ones], by simp [ones]⟩⟩ (Nat.le_refl _)

set_option maxHeartbeats 2000000 in
set_option maxRecDepth 20000 in
theorem slices_Repeat_1 (A : Option Addr) (c : Nat) (w : World) (h : Ints w A [1]) :
    Calls Tryd.prog 102 #[.slice A 1 c, .int .i64 1] w fun e w' => ∃ A' c', e = .returned (.slice A' (List.replicate 1 (1 : Int)).length c') ∧ OwnI w' w.heap.size w'.heap.size A' c' (List.replicate 1 1) ∧ Below w.heap.size w w' := by
  obtain ⟨i0, hi0, hz0, hz1, hz2⟩ := info_parts info_int64
  have hsz : (Tryd.prog.info? 2).map (·.size) = some 1 := by rw [hi0]; simp [hz1]
  obtain ⟨b, off, x, rfl, hc, hx⟩ := h 0 (by simp)
  obtain rfl : x = 1 := by simpa using hx.symm
  clear hx
  rw [Nat.add_zero] at hc
  go_enter Tryd.func102, Tryd.ntmps102
  go_wp2_with (fail)
  refine (bits_Mul1 _ _ (by omega)).mono ?_; rintro e _ ⟨rfl, rfl⟩
  go_wp2_with (refine wpList_make_full _ rfl _ _ _ rfl w.heap.size 2 i0 _ 1 Tryd.underlying22 hi0 hz0 hz1 .i64 .i64 _ _ 1 rfl rfl rfl rfl (by rw [hz2]; omega) (by unfold maxLen; omega) (Nat.le_refl _) ?_; intro w3 hown hg)
  have hb3 : Below w.heap.size w w3 := (Below.refl _ _).grown hg (Nat.le_refl _) (by simp)
  have o3 : OwnC w3 w.heap.size w3.heap.size 2 1 (some ⟨w.heap.size, 0, none⟩) 1 1 (ones 0 1) := by
    have := OwnC.of_own hown (Nat.le_refl _)
    simpa [madeCells, Value.cells, ones, List.range_succ] using this
  have h3 : w3.heap[w.heap.size]? = some (.cells (ones 0 1).toArray 2 (0, 0)) := by
    rcases o3.form with ⟨hA, _⟩ | ⟨g, cur, hA, _, _, hh, _, _, hs, ht⟩
    · cases hA
    · injection hA with hA
      injection hA with hA
      subst hA
      rw [hh, ← ht]
      congr 2
      apply Array.ext'
      rw [List.take_of_length_le (by simpa using Nat.le_of_eq hs)]
  have H3 := Lib.hid h3; clear h3 o3 hown hg
  replace hc := cells_below hb3 _ _ hc
  obtain ⟨w4, hcp, h4, hb4⟩ : ∃ w4, (Builtin.copy_ #[22, 22] 3 #[.slice (some ⟨w.heap.size, 0, none⟩) 1 1, .slice (some ⟨b, off, none⟩) 1 c]).run Tryd.prog w3 = .ok (.int .i64 1) w4 ∧ w4.heap[w.heap.size]? = some (.cells (ones 1 (1 - 1)).toArray 2 (0, 0)) ∧ Below w.heap.size w w4 := by
    have hrun := run_copy_row (P := Tryd.prog) w3 22 22 3 2 w.heap.size 0 1 1 ⟨b, off, none⟩ 1 c (ones 0 1).toArray 2 [.int .i64 1] Tryd.underlying22 hsz H3.out (by decide) (src1 hc) (by decide) (by decide)
    refine ⟨_, hrun, ?_, below_setRow hb3 (Nat.le_refl _) _⟩
    exact setRow_heap w3 w.heap.size _ _ 2 _ H3.out
  go_wp2_with (fail)
  rw [hcp]
  go_wp2_with (fail)
  have H4 : Hid (w4.heap[w.heap.size]? = some (.cells (ones 1 (1 - 1)).toArray 2 (0, 0))) := Lib.hid h4
  clear h4 hb3 hc H3
  go_loopw [8] (fun mv wr => ∃ m z : Nat, m + z = 1 ∧ (m = 1 ∨ m = 2 ∨ m = 4) ∧ mv = .int .i64 m ∧ Hid (wr.heap[w.heap.size]? = some (.cells (ones m z).toArray 2 (0, 0))) ∧ Below w.heap.size w wr) (fun mv _ => 1 - (intOf mv).toNat)
  case atStart => exact ⟨1, 1 - 1, rfl, .inl rfl, rfl, H4, hb4⟩
  case round =>
    clear H4 hb4
    obtain ⟨m, z, hmz, hm, rfl, H5, hb5⟩ := hrel
    have hgl : w.heap.size < wr.heap.size := (Array.getElem?_eq_some_iff.1 H5.out).1

    rcases hm with rfl | rfl | rfl
    · obtain rfl : z = 0 := by omega
      go_wp2_with (fail)
      go_ret
      exact ⟨some ⟨w.heap.size, 0, none⟩, 1, by simp, by have := ones_own (n := 1) (lo := w.heap.size) H5.out (Nat.le_refl _) (by decide); simpa using this, hb5⟩
    · omega
    · omega

set_option maxHeartbeats 2000000 in
set_option maxRecDepth 20000 in
theorem slices_Repeat_2 (A : Option Addr) (c : Nat) (w : World) (h : Ints w A [1]) :
    Calls Tryd.prog 102 #[.slice A 1 c, .int .i64 2] w fun e w' => ∃ A' c', e = .returned (.slice A' (List.replicate 2 (1 : Int)).length c') ∧ OwnI w' w.heap.size w'.heap.size A' c' (List.replicate 2 1) ∧ Below w.heap.size w w' := by
  obtain ⟨i0, hi0, hz0, hz1, hz2⟩ := info_parts info_int64
  have hsz : (Tryd.prog.info? 2).map (·.size) = some 1 := by rw [hi0]; simp [hz1]
  obtain ⟨b, off, x, rfl, hc, hx⟩ := h 0 (by simp)
  obtain rfl : x = 1 := by simpa using hx.symm
  clear hx
  rw [Nat.add_zero] at hc
  go_enter Tryd.func102, Tryd.ntmps102
  go_wp2_with (fail)
  refine (bits_Mul1 _ _ (by omega)).mono ?_; rintro e _ ⟨rfl, rfl⟩
  go_wp2_with (refine wpList_make_full _ rfl _ _ _ rfl w.heap.size 2 i0 _ 1 Tryd.underlying22 hi0 hz0 hz1 .i64 .i64 _ _ 2 rfl rfl rfl rfl (by rw [hz2]; omega) (by unfold maxLen; omega) (Nat.le_refl _) ?_; intro w3 hown hg)
  have hb3 : Below w.heap.size w w3 := (Below.refl _ _).grown hg (Nat.le_refl _) (by simp)
  have o3 : OwnC w3 w.heap.size w3.heap.size 2 1 (some ⟨w.heap.size, 0, none⟩) 2 2 (ones 0 2) := by
    have := OwnC.of_own hown (Nat.le_refl _)
    simpa [madeCells, Value.cells, ones, List.range_succ] using this
  have h3 : w3.heap[w.heap.size]? = some (.cells (ones 0 2).toArray 2 (0, 0)) := by
    rcases o3.form with ⟨hA, _⟩ | ⟨g, cur, hA, _, _, hh, _, _, hs, ht⟩
    · cases hA
    · injection hA with hA
      injection hA with hA
      subst hA
      rw [hh, ← ht]
      congr 2
      apply Array.ext'
      rw [List.take_of_length_le (by simpa using Nat.le_of_eq hs)]
  have H3 := Lib.hid h3; clear h3 o3 hown hg
  replace hc := cells_below hb3 _ _ hc
  obtain ⟨w4, hcp, h4, hb4⟩ : ∃ w4, (Builtin.copy_ #[22, 22] 3 #[.slice (some ⟨w.heap.size, 0, none⟩) 2 2, .slice (some ⟨b, off, none⟩) 1 c]).run Tryd.prog w3 = .ok (.int .i64 1) w4 ∧ w4.heap[w.heap.size]? = some (.cells (ones 1 (2 - 1)).toArray 2 (0, 0)) ∧ Below w.heap.size w w4 := by
    have hrun := run_copy_row (P := Tryd.prog) w3 22 22 3 2 w.heap.size 0 2 2 ⟨b, off, none⟩ 1 c (ones 0 2).toArray 2 [.int .i64 1] Tryd.underlying22 hsz H3.out (by decide) (src1 hc) (by decide) (by decide)
    refine ⟨_, hrun, ?_, below_setRow hb3 (Nat.le_refl _) _⟩
    exact setRow_heap w3 w.heap.size _ _ 2 _ H3.out
  go_wp2_with (fail)
  rw [hcp]
  go_wp2_with (fail)
  have H4 : Hid (w4.heap[w.heap.size]? = some (.cells (ones 1 (2 - 1)).toArray 2 (0, 0))) := Lib.hid h4
  clear h4 hb3 hc H3
  go_loopw [8] (fun mv wr => ∃ m z : Nat, m + z = 2 ∧ (m = 1 ∨ m = 2 ∨ m = 4) ∧ mv = .int .i64 m ∧ Hid (wr.heap[w.heap.size]? = some (.cells (ones m z).toArray 2 (0, 0))) ∧ Below w.heap.size w wr) (fun mv _ => 2 - (intOf mv).toNat)
  case atStart => exact ⟨1, 2 - 1, rfl, .inl rfl, rfl, H4, hb4⟩
  case round =>
    clear H4 hb4
    obtain ⟨m, z, hmz, hm, rfl, H5, hb5⟩ := hrel
    have hgl : w.heap.size < wr.heap.size := (Array.getElem?_eq_some_iff.1 H5.out).1

    rcases hm with rfl | rfl | rfl
    · obtain rfl : z = 1 := by omega
      go_wp2_with (fail)
      go_region_law (refine step_copy_splice rfl (.tmp 41) (.tmp 44) 22 22 rfl 2 Tryd.underlying22 hsz (some ⟨w.heap.size, 1, none⟩) (some ⟨w.heap.size, 0, none⟩) 1 1 1 2 (by simp [Act.eval, Act.put]) (by simp [Act.eval, Act.put]) w.heap.size 1 (ones 1 1) 2 (show _ = _ from H5.out) (ones 1 0) (by decide) (fun _ => ⟨rfl, _, rfl, src_of_heap (show wr.heap[w.heap.size]? = _ from H5.out) rfl⟩) (by decide) (by decide) w.heap.size w (Below.drew2 hb5) (Nat.le_refl _) ?_; intro w6 h6 hb6)
      all_goals go_simp
      all_goals (try go_wp2_with (fail))
      all_goals
        refine ⟨⟨2, 0, rfl, by omega, rfl, Lib.hid h6.out, hb6⟩, by first | (simp [intOf, ones]; done) | (simp [intOf, ones]; decide)⟩
    · obtain rfl : z = 0 := by omega
      go_wp2_with (fail)
      go_ret
      exact ⟨some ⟨w.heap.size, 0, none⟩, 2, by simp, by have := ones_own (n := 2) (lo := w.heap.size) H5.out (Nat.le_refl _) (by decide); simpa using this, hb5⟩
    · omega

set_option maxHeartbeats 2000000 in
set_option maxRecDepth 20000 in
theorem slices_Repeat_4 (A : Option Addr) (c : Nat) (w : World) (h : Ints w A [1]) :
    Calls Tryd.prog 102 #[.slice A 1 c, .int .i64 4] w fun e w' => ∃ A' c', e = .returned (.slice A' (List.replicate 4 (1 : Int)).length c') ∧ OwnI w' w.heap.size w'.heap.size A' c' (List.replicate 4 1) ∧ Below w.heap.size w w' := by
  obtain ⟨i0, hi0, hz0, hz1, hz2⟩ := info_parts info_int64
  have hsz : (Tryd.prog.info? 2).map (·.size) = some 1 := by rw [hi0]; simp [hz1]
  obtain ⟨b, off, x, rfl, hc, hx⟩ := h 0 (by simp)
  obtain rfl : x = 1 := by simpa using hx.symm
  clear hx
  rw [Nat.add_zero] at hc
  go_enter Tryd.func102, Tryd.ntmps102
  go_wp2_with (fail)
  refine (bits_Mul1 _ _ (by omega)).mono ?_; rintro e _ ⟨rfl, rfl⟩
  go_wp2_with (refine wpList_make_full _ rfl _ _ _ rfl w.heap.size 2 i0 _ 1 Tryd.underlying22 hi0 hz0 hz1 .i64 .i64 _ _ 4 rfl rfl rfl rfl (by rw [hz2]; omega) (by unfold maxLen; omega) (Nat.le_refl _) ?_; intro w3 hown hg)
  have hb3 : Below w.heap.size w w3 := (Below.refl _ _).grown hg (Nat.le_refl _) (by simp)
  have o3 : OwnC w3 w.heap.size w3.heap.size 2 1 (some ⟨w.heap.size, 0, none⟩) 4 4 (ones 0 4) := by
    have := OwnC.of_own hown (Nat.le_refl _)
    simpa [madeCells, Value.cells, ones, List.range_succ] using this
  have h3 : w3.heap[w.heap.size]? = some (.cells (ones 0 4).toArray 2 (0, 0)) := by
    rcases o3.form with ⟨hA, _⟩ | ⟨g, cur, hA, _, _, hh, _, _, hs, ht⟩
    · cases hA
    · injection hA with hA
      injection hA with hA
      subst hA
      rw [hh, ← ht]
      congr 2
      apply Array.ext'
      rw [List.take_of_length_le (by simpa using Nat.le_of_eq hs)]
  have H3 := Lib.hid h3; clear h3 o3 hown hg
  replace hc := cells_below hb3 _ _ hc
  obtain ⟨w4, hcp, h4, hb4⟩ : ∃ w4, (Builtin.copy_ #[22, 22] 3 #[.slice (some ⟨w.heap.size, 0, none⟩) 4 4, .slice (some ⟨b, off, none⟩) 1 c]).run Tryd.prog w3 = .ok (.int .i64 1) w4 ∧ w4.heap[w.heap.size]? = some (.cells (ones 1 (4 - 1)).toArray 2 (0, 0)) ∧ Below w.heap.size w w4 := by
    have hrun := run_copy_row (P := Tryd.prog) w3 22 22 3 2 w.heap.size 0 4 4 ⟨b, off, none⟩ 1 c (ones 0 4).toArray 2 [.int .i64 1] Tryd.underlying22 hsz H3.out (by decide) (src1 hc) (by decide) (by decide)
    refine ⟨_, hrun, ?_, below_setRow hb3 (Nat.le_refl _) _⟩
    exact setRow_heap w3 w.heap.size _ _ 2 _ H3.out
  go_wp2_with (fail)
  rw [hcp]
  go_wp2_with (fail)
  have H4 : Hid (w4.heap[w.heap.size]? = some (.cells (ones 1 (4 - 1)).toArray 2 (0, 0))) := Lib.hid h4
  clear h4 hb3 hc H3
  go_loopw [8] (fun mv wr => ∃ m z : Nat, m + z = 4 ∧ (m = 1 ∨ m = 2 ∨ m = 4) ∧ mv = .int .i64 m ∧ Hid (wr.heap[w.heap.size]? = some (.cells (ones m z).toArray 2 (0, 0))) ∧ Below w.heap.size w wr) (fun mv _ => 4 - (intOf mv).toNat)
  case atStart => exact ⟨1, 4 - 1, rfl, .inl rfl, rfl, H4, hb4⟩
  case round =>
    clear H4 hb4
    obtain ⟨m, z, hmz, hm, rfl, H5, hb5⟩ := hrel
    have hgl : w.heap.size < wr.heap.size := (Array.getElem?_eq_some_iff.1 H5.out).1

    rcases hm with rfl | rfl | rfl
    · obtain rfl : z = 3 := by omega
      go_wp2_with (fail)
      go_region_law (refine step_copy_splice rfl (.tmp 41) (.tmp 44) 22 22 rfl 2 Tryd.underlying22 hsz (some ⟨w.heap.size, 1, none⟩) (some ⟨w.heap.size, 0, none⟩) 3 3 1 4 (by simp [Act.eval, Act.put]) (by simp [Act.eval, Act.put]) w.heap.size 1 (ones 1 3) 2 (show _ = _ from H5.out) (ones 1 0) (by decide) (fun _ => ⟨rfl, _, rfl, src_of_heap (show wr.heap[w.heap.size]? = _ from H5.out) rfl⟩) (by decide) (by decide) w.heap.size w (Below.drew2 hb5) (Nat.le_refl _) ?_; intro w6 h6 hb6)
      all_goals go_simp
      all_goals (try go_wp2_with (fail))
      all_goals
        refine ⟨⟨2, 2, rfl, by omega, rfl, Lib.hid h6.out, hb6⟩, by first | (simp [intOf, ones]; done) | (simp [intOf, ones]; decide)⟩
    · obtain rfl : z = 2 := by omega
      go_wp2_with (fail)
      go_region_law (refine step_copy_splice rfl (.tmp 41) (.tmp 44) 22 22 rfl 2 Tryd.underlying22 hsz (some ⟨w.heap.size, 2, none⟩) (some ⟨w.heap.size, 0, none⟩) 2 2 2 4 (by simp [Act.eval, Act.put]) (by simp [Act.eval, Act.put]) w.heap.size 2 (ones 2 2) 2 (show _ = _ from H5.out) (ones 2 0) (by decide) (fun _ => ⟨rfl, _, rfl, src_of_heap (show wr.heap[w.heap.size]? = _ from H5.out) rfl⟩) (by decide) (by decide) w.heap.size w (Below.drew2 hb5) (Nat.le_refl _) ?_; intro w6 h6 hb6)
      all_goals go_simp
      all_goals (try go_wp2_with (fail))
      all_goals
        refine ⟨⟨4, 0, rfl, by omega, rfl, Lib.hid h6.out, hb6⟩, by first | (simp [intOf, ones]; done) | (simp [intOf, ones]; decide)⟩
    · obtain rfl : z = 0 := by omega
      go_wp2_with (fail)
      go_ret
      exact ⟨some ⟨w.heap.size, 0, none⟩, 4, by simp, by have := ones_own (n := 4) (lo := w.heap.size) H5.out (Nat.le_refl _) (by decide); simpa using this, hb5⟩

theorem madeStacks_1 (A : Option Addr) (n c : Nat) (w : World) :
    Calls Tryd.prog 124 #[.int .i64 1, .slice A n c] w fun e w' => ∃ A' c', e = .returned (.tuple #[.slice A' (List.replicate 1 (1 : Int)).length c', .bool true]) ∧ OwnI w' w.heap.size w'.heap.size A' c' (List.replicate 1 1) ∧ Below w.heap.size w w' := by
  have HB : Hid (madeB 1 = 1) := Lib.hid (by decide)
  have hb1 : Below w.heap.size w (w.alloc (.cells #[.int .i64 1] 2)) := by (repeat (first | exact Below.refl _ _ | assumption | apply Below.drew | apply below_drewN | (refine Below.alloc ?_ (by first | omega | (simp; done) | (simp; omega)) _) | (refine Below.setCell ?_ (by first | omega | (simp; done) | (simp; omega)) _)))
  have hi : Ints (w.alloc (.cells #[.int .i64 1] 2)) (some ⟨w.heap.size, 0, none⟩) [1] := by
    intro k hk
    obtain rfl : k = 0 := by simp at hk; omega
    exact ⟨w.heap.size, 0, 1, rfl, (Blk.new w 2 #[.int .i64 1]).c1, rfl⟩
  have HI := Lib.hid hi; clear hi
  go_enter Tryd.func124, Tryd.ntmps124
  go_wp2_with (fail)
  refine (impl_ColumnsMade _ _).mono ?_; rintro e _ ⟨rfl, rfl⟩
  rw [HB.out]
  go_wp2_with (fail)
  refine (slices_Repeat_1 _ _ _ HI.out).mono ?_; rintro e w2 ⟨A2, c2, rfl, o2, b2⟩
  have z2 := b2.size
  simp only [World.size_alloc] at z2
  have b3 : Below w.heap.size w w2 := hb1.trans (b2.mono (by simp))
  go_wp2_with (fail)
  go_ret2
  exact ⟨A2, c2, rfl, o2.mono (by simp) (Nat.le_refl _), b3⟩

theorem madeStacks_2 (A : Option Addr) (n c : Nat) (w : World) :
    Calls Tryd.prog 124 #[.int .i64 2, .slice A n c] w fun e w' => ∃ A' c', e = .returned (.tuple #[.slice A' (List.replicate 1 (1 : Int)).length c', .bool true]) ∧ OwnI w' w.heap.size w'.heap.size A' c' (List.replicate 1 1) ∧ Below w.heap.size w w' := by
  have HB : Hid (madeB 2 = 1) := Lib.hid (by decide)
  have hb1 : Below w.heap.size w (w.alloc (.cells #[.int .i64 1] 2)) := by (repeat (first | exact Below.refl _ _ | assumption | apply Below.drew | apply below_drewN | (refine Below.alloc ?_ (by first | omega | (simp; done) | (simp; omega)) _) | (refine Below.setCell ?_ (by first | omega | (simp; done) | (simp; omega)) _)))
  have hi : Ints (w.alloc (.cells #[.int .i64 1] 2)) (some ⟨w.heap.size, 0, none⟩) [1] := by
    intro k hk
    obtain rfl : k = 0 := by simp at hk; omega
    exact ⟨w.heap.size, 0, 1, rfl, (Blk.new w 2 #[.int .i64 1]).c1, rfl⟩
  have HI := Lib.hid hi; clear hi
  go_enter Tryd.func124, Tryd.ntmps124
  go_wp2_with (fail)
  refine (impl_ColumnsMade _ _).mono ?_; rintro e _ ⟨rfl, rfl⟩
  rw [HB.out]
  go_wp2_with (fail)
  refine (slices_Repeat_1 _ _ _ HI.out).mono ?_; rintro e w2 ⟨A2, c2, rfl, o2, b2⟩
  have z2 := b2.size
  simp only [World.size_alloc] at z2
  have b3 : Below w.heap.size w w2 := hb1.trans (b2.mono (by simp))
  go_wp2_with (fail)
  go_ret2
  exact ⟨A2, c2, rfl, o2.mono (by simp) (Nat.le_refl _), b3⟩

theorem madeStacks_3 (A : Option Addr) (n c : Nat) (w : World) :
    Calls Tryd.prog 124 #[.int .i64 3, .slice A n c] w fun e w' => ∃ A' c', e = .returned (.tuple #[.slice A' (List.replicate 1 (1 : Int)).length c', .bool true]) ∧ OwnI w' w.heap.size w'.heap.size A' c' (List.replicate 1 1) ∧ Below w.heap.size w w' := by
  have HB : Hid (madeB 3 = 1) := Lib.hid (by decide)
  have hb1 : Below w.heap.size w (w.alloc (.cells #[.int .i64 1] 2)) := by (repeat (first | exact Below.refl _ _ | assumption | apply Below.drew | apply below_drewN | (refine Below.alloc ?_ (by first | omega | (simp; done) | (simp; omega)) _) | (refine Below.setCell ?_ (by first | omega | (simp; done) | (simp; omega)) _)))
  have hi : Ints (w.alloc (.cells #[.int .i64 1] 2)) (some ⟨w.heap.size, 0, none⟩) [1] := by
    intro k hk
    obtain rfl : k = 0 := by simp at hk; omega
    exact ⟨w.heap.size, 0, 1, rfl, (Blk.new w 2 #[.int .i64 1]).c1, rfl⟩
  have HI := Lib.hid hi; clear hi
  go_enter Tryd.func124, Tryd.ntmps124
  go_wp2_with (fail)
  refine (impl_ColumnsMade _ _).mono ?_; rintro e _ ⟨rfl, rfl⟩
  rw [HB.out]
  go_wp2_with (fail)
  refine (slices_Repeat_1 _ _ _ HI.out).mono ?_; rintro e w2 ⟨A2, c2, rfl, o2, b2⟩
  have z2 := b2.size
  simp only [World.size_alloc] at z2
  have b3 : Below w.heap.size w w2 := hb1.trans (b2.mono (by simp))
  go_wp2_with (fail)
  go_ret2
  exact ⟨A2, c2, rfl, o2.mono (by simp) (Nat.le_refl _), b3⟩

theorem madeStacks_8 (A : Option Addr) (n c : Nat) (w : World) :
    Calls Tryd.prog 124 #[.int .i64 8, .slice A n c] w fun e w' => ∃ A' c', e = .returned (.tuple #[.slice A' (List.replicate 2 (1 : Int)).length c', .bool true]) ∧ OwnI w' w.heap.size w'.heap.size A' c' (List.replicate 2 1) ∧ Below w.heap.size w w' := by
  have HB : Hid (madeB 8 = 2) := Lib.hid (by decide)
  have hb1 : Below w.heap.size w (w.alloc (.cells #[.int .i64 1] 2)) := by (repeat (first | exact Below.refl _ _ | assumption | apply Below.drew | apply below_drewN | (refine Below.alloc ?_ (by first | omega | (simp; done) | (simp; omega)) _) | (refine Below.setCell ?_ (by first | omega | (simp; done) | (simp; omega)) _)))
  have hi : Ints (w.alloc (.cells #[.int .i64 1] 2)) (some ⟨w.heap.size, 0, none⟩) [1] := by
    intro k hk
    obtain rfl : k = 0 := by simp at hk; omega
    exact ⟨w.heap.size, 0, 1, rfl, (Blk.new w 2 #[.int .i64 1]).c1, rfl⟩
  have HI := Lib.hid hi; clear hi
  go_enter Tryd.func124, Tryd.ntmps124
  go_wp2_with (fail)
  refine (impl_ColumnsMade _ _).mono ?_; rintro e _ ⟨rfl, rfl⟩
  rw [HB.out]
  go_wp2_with (fail)
  refine (slices_Repeat_2 _ _ _ HI.out).mono ?_; rintro e w2 ⟨A2, c2, rfl, o2, b2⟩
  have z2 := b2.size
  simp only [World.size_alloc] at z2
  have b3 : Below w.heap.size w w2 := hb1.trans (b2.mono (by simp))
  go_wp2_with (fail)
  go_ret2
  exact ⟨A2, c2, rfl, o2.mono (by simp) (Nat.le_refl _), b3⟩

theorem madeStacks_9 (A : Option Addr) (n c : Nat) (w : World) :
    Calls Tryd.prog 124 #[.int .i64 9, .slice A n c] w fun e w' => ∃ A' c', e = .returned (.tuple #[.slice A' (List.replicate 2 (1 : Int)).length c', .bool true]) ∧ OwnI w' w.heap.size w'.heap.size A' c' (List.replicate 2 1) ∧ Below w.heap.size w w' := by
  have HB : Hid (madeB 9 = 2) := Lib.hid (by decide)
  have hb1 : Below w.heap.size w (w.alloc (.cells #[.int .i64 1] 2)) := by (repeat (first | exact Below.refl _ _ | assumption | apply Below.drew | apply below_drewN | (refine Below.alloc ?_ (by first | omega | (simp; done) | (simp; omega)) _) | (refine Below.setCell ?_ (by first | omega | (simp; done) | (simp; omega)) _)))
  have hi : Ints (w.alloc (.cells #[.int .i64 1] 2)) (some ⟨w.heap.size, 0, none⟩) [1] := by
    intro k hk
    obtain rfl : k = 0 := by simp at hk; omega
    exact ⟨w.heap.size, 0, 1, rfl, (Blk.new w 2 #[.int .i64 1]).c1, rfl⟩
  have HI := Lib.hid hi; clear hi
  go_enter Tryd.func124, Tryd.ntmps124
  go_wp2_with (fail)
  refine (impl_ColumnsMade _ _).mono ?_; rintro e _ ⟨rfl, rfl⟩
  rw [HB.out]
  go_wp2_with (fail)
  refine (slices_Repeat_2 _ _ _ HI.out).mono ?_; rintro e w2 ⟨A2, c2, rfl, o2, b2⟩
  have z2 := b2.size
  simp only [World.size_alloc] at z2
  have b3 : Below w.heap.size w w2 := hb1.trans (b2.mono (by simp))
  go_wp2_with (fail)
  go_ret2
  exact ⟨A2, c2, rfl, o2.mono (by simp) (Nat.le_refl _), b3⟩

theorem madeStacks_10 (A : Option Addr) (n c : Nat) (w : World) :
    Calls Tryd.prog 124 #[.int .i64 10, .slice A n c] w fun e w' => ∃ A' c', e = .returned (.tuple #[.slice A' (List.replicate 4 (1 : Int)).length c', .bool true]) ∧ OwnI w' w.heap.size w'.heap.size A' c' (List.replicate 4 1) ∧ Below w.heap.size w w' := by
  have HB : Hid (madeB 10 = 4) := Lib.hid (by decide)
  have hb1 : Below w.heap.size w (w.alloc (.cells #[.int .i64 1] 2)) := by (repeat (first | exact Below.refl _ _ | assumption | apply Below.drew | apply below_drewN | (refine Below.alloc ?_ (by first | omega | (simp; done) | (simp; omega)) _) | (refine Below.setCell ?_ (by first | omega | (simp; done) | (simp; omega)) _)))
  have hi : Ints (w.alloc (.cells #[.int .i64 1] 2)) (some ⟨w.heap.size, 0, none⟩) [1] := by
    intro k hk
    obtain rfl : k = 0 := by simp at hk; omega
    exact ⟨w.heap.size, 0, 1, rfl, (Blk.new w 2 #[.int .i64 1]).c1, rfl⟩
  have HI := Lib.hid hi; clear hi
  go_enter Tryd.func124, Tryd.ntmps124
  go_wp2_with (fail)
  refine (impl_ColumnsMade _ _).mono ?_; rintro e _ ⟨rfl, rfl⟩
  rw [HB.out]
  go_wp2_with (fail)
  refine (slices_Repeat_4 _ _ _ HI.out).mono ?_; rintro e w2 ⟨A2, c2, rfl, o2, b2⟩
  have z2 := b2.size
  simp only [World.size_alloc] at z2
  have b3 : Below w.heap.size w w2 := hb1.trans (b2.mono (by simp))
  go_wp2_with (fail)
  go_ret2
  exact ⟨A2, c2, rfl, o2.mono (by simp) (Nat.le_refl _), b3⟩

theorem madeStacks_11 (A : Option Addr) (n c : Nat) (w : World) :
    Calls Tryd.prog 124 #[.int .i64 11, .slice A n c] w fun e w' => ∃ A' c', e = .returned (.tuple #[.slice A' (List.replicate 4 (1 : Int)).length c', .bool true]) ∧ OwnI w' w.heap.size w'.heap.size A' c' (List.replicate 4 1) ∧ Below w.heap.size w w' := by
  have HB : Hid (madeB 11 = 4) := Lib.hid (by decide)
  have hb1 : Below w.heap.size w (w.alloc (.cells #[.int .i64 1] 2)) := by (repeat (first | exact Below.refl _ _ | assumption | apply Below.drew | apply below_drewN | (refine Below.alloc ?_ (by first | omega | (simp; done) | (simp; omega)) _) | (refine Below.setCell ?_ (by first | omega | (simp; done) | (simp; omega)) _)))
  have hi : Ints (w.alloc (.cells #[.int .i64 1] 2)) (some ⟨w.heap.size, 0, none⟩) [1] := by
    intro k hk
    obtain rfl : k = 0 := by simp at hk; omega
    exact ⟨w.heap.size, 0, 1, rfl, (Blk.new w 2 #[.int .i64 1]).c1, rfl⟩
  have HI := Lib.hid hi; clear hi
  go_enter Tryd.func124, Tryd.ntmps124
  go_wp2_with (fail)
  refine (impl_ColumnsMade _ _).mono ?_; rintro e _ ⟨rfl, rfl⟩
  rw [HB.out]
  go_wp2_with (fail)
  refine (slices_Repeat_4 _ _ _ HI.out).mono ?_; rintro e w2 ⟨A2, c2, rfl, o2, b2⟩
  have z2 := b2.size
  simp only [World.size_alloc] at z2
  have b3 : Below w.heap.size w w2 := hb1.trans (b2.mono (by simp))
  go_wp2_with (fail)
  go_ret2
  exact ⟨A2, c2, rfl, o2.mono (by simp) (Nat.le_refl _), b3⟩

theorem madeStacks_4 (A : Option Addr) (x y : Int) (c : Nat) (w : World) (h : Ints w A [x, y]) (hx : 1 ≤ x ∧ x ≤ 4) (hy : 1 ≤ y ∧ y ≤ 4) :
    Calls Tryd.prog 124 #[.int .i64 4, .slice A 2 c] w fun e w' => ∃ A' c', e = .returned (.tuple #[.slice A' 1 c', .bool (decide (x + y ≤ 4))]) ∧ OwnI w' w.heap.size w'.heap.size A' c' [1] ∧ Below w.heap.size w w' := by
  obtain ⟨b, off, x', rfl, hc0, hx0⟩ := h 0 (by simp)
  obtain rfl : x' = x := by simpa using hx0.symm
  obtain ⟨b', off', y', hA, hc1, hx1⟩ := h 1 (by simp)
  injection hA with hA
  injection hA with hA1 hA2
  subst hA1 hA2
  obtain rfl : y' = y := by simpa using hx1.symm
  clear h hx0 hx1
  rw [Nat.add_zero] at hc0
  have q0 := cell_alloc hc0 (.cells #[.int .i64 1] 2)
  have q1 := cell_alloc hc1 (.cells #[.int .i64 1] 2)
  have o1 := (OwnC.lit (w := w) (lo := w.heap.size) (n := 1) 2 1 #[.int .i64 1] (Nat.le_refl _) (by unfold maxLen; omega) rfl).keep (w' := World.drew (w.alloc (.cells #[.int .i64 1] 2))) fun _ _ _ _ => rfl
  have b1 : Below w.heap.size w (World.drew (w.alloc (.cells #[.int .i64 1] 2))) := Below.drew2 (by (repeat (first | exact Below.refl _ _ | assumption | apply Below.drew | apply below_drewN | (refine Below.alloc ?_ (by first | omega | (simp; done) | (simp; omega)) _) | (refine Below.setCell ?_ (by first | omega | (simp; done) | (simp; omega)) _))))
  have O1 := Lib.hid o1; clear o1
  go_enter Tryd.func124, Tryd.ntmps124
  go_wp2_with (fail)
  go_region
  all_goals (try go_wp2_with (fail))
  all_goals
    go_ret2
    exact ⟨_, _, rfl, O1.out.mono (Nat.le_refl _) (show _ ≤ (w.alloc _).heap.size by simp), b1⟩

theorem madeStacks_5 (A : Option Addr) (x y : Int) (c : Nat) (w : World) (h : Ints w A [x, y]) (hx : 1 ≤ x ∧ x ≤ 4) (hy : 1 ≤ y ∧ y ≤ 4) :
    Calls Tryd.prog 124 #[.int .i64 5, .slice A 2 c] w fun e w' => ∃ A' c', e = .returned (.tuple #[.slice A' 1 c', .bool (decide (x + y ≤ 4))]) ∧ OwnI w' w.heap.size w'.heap.size A' c' [1] ∧ Below w.heap.size w w' := by
  obtain ⟨b, off, x', rfl, hc0, hx0⟩ := h 0 (by simp)
  obtain rfl : x' = x := by simpa using hx0.symm
  obtain ⟨b', off', y', hA, hc1, hx1⟩ := h 1 (by simp)
  injection hA with hA
  injection hA with hA1 hA2
  subst hA1 hA2
  obtain rfl : y' = y := by simpa using hx1.symm
  clear h hx0 hx1
  rw [Nat.add_zero] at hc0
  have q0 := cell_alloc hc0 (.cells #[.int .i64 1] 2)
  have q1 := cell_alloc hc1 (.cells #[.int .i64 1] 2)
  have o1 := (OwnC.lit (w := w) (lo := w.heap.size) (n := 1) 2 1 #[.int .i64 1] (Nat.le_refl _) (by unfold maxLen; omega) rfl).keep (w' := World.drew (w.alloc (.cells #[.int .i64 1] 2))) fun _ _ _ _ => rfl
  have b1 : Below w.heap.size w (World.drew (w.alloc (.cells #[.int .i64 1] 2))) := Below.drew2 (by (repeat (first | exact Below.refl _ _ | assumption | apply Below.drew | apply below_drewN | (refine Below.alloc ?_ (by first | omega | (simp; done) | (simp; omega)) _) | (refine Below.setCell ?_ (by first | omega | (simp; done) | (simp; omega)) _))))
  have O1 := Lib.hid o1; clear o1
  go_enter Tryd.func124, Tryd.ntmps124
  go_wp2_with (fail)
  go_region
  all_goals (try go_wp2_with (fail))
  all_goals
    go_ret2
    exact ⟨_, _, rfl, O1.out.mono (Nat.le_refl _) (show _ ≤ (w.alloc _).heap.size by simp), b1⟩

theorem madeStacks_6 (A : Option Addr) (x : Int) (c : Nat) (w : World) (h : Ints w A [x]) (hx : 1 ≤ x ∧ x ≤ 4) :
    Calls Tryd.prog 124 #[.int .i64 6, .slice A 1 c] w fun e w' => ∃ A' c', e = .returned (.tuple #[.slice A' 1 c', .bool (decide (x < 4))]) ∧ OwnI w' w.heap.size w'.heap.size A' c' [wrap64 (x + 1)] ∧ Below w.heap.size w w' := by
  obtain ⟨b, off, x', rfl, hc0, hx0⟩ := h 0 (by simp)
  obtain rfl : x' = x := by simpa using hx0.symm
  clear h hx0
  rw [Nat.add_zero] at hc0
  have hw : wrap64 (x' + 1) = x' + 1 := IntWalk.wrap64_in _ ⟨by omega, by omega⟩
  rw [hw]
  have hw2 : IntKind.i64.wrap (x' + 1) = x' + 1 := IntWalk.i64_in _ ⟨by omega, by omega⟩
  have q0 := cell_alloc hc0 (.cells #[.int .i64 (x' + 1)] 2)
  have q1 := cell_alloc hc0 (.cells #[.int .i64 (IntKind.i64.wrap (x' + 1))] 2)
  have o1 := (OwnC.lit (w := w) (lo := w.heap.size) (n := 1) 2 1 #[.int .i64 (x' + 1)] (Nat.le_refl _) (by unfold maxLen; omega) rfl).keep (w' := World.drew (w.alloc (.cells #[.int .i64 (x' + 1)] 2))) fun _ _ _ _ => rfl
  have b1 : Below w.heap.size w (World.drew (w.alloc (.cells #[.int .i64 (x' + 1)] 2))) := Below.drew2 (by (repeat (first | exact Below.refl _ _ | assumption | apply Below.drew | apply below_drewN | (refine Below.alloc ?_ (by first | omega | (simp; done) | (simp; omega)) _) | (refine Below.setCell ?_ (by first | omega | (simp; done) | (simp; omega)) _))))
  have O1 := Lib.hid o1; clear o1
  go_enter Tryd.func124, Tryd.ntmps124
  go_wp2_with (fail)
  go_region
  all_goals (try go_wp2_with (fail))
  all_goals
    go_ret2
    exact ⟨_, _, rfl, O1.out.mono (Nat.le_refl _) (show _ ≤ (w.alloc _).heap.size by simp), b1⟩

theorem madeStacks_7 (A : Option Addr) (x : Int) (c : Nat) (w : World) (h : Ints w A [x]) :
    Calls Tryd.prog 124 #[.int .i64 7, .slice A 1 c] w fun e w' => ∃ A' c', e = .returned (.tuple #[.slice A' 1 c', .bool true]) ∧ OwnI w' w.heap.size w'.heap.size A' c' [x] ∧ Below w.heap.size w w' := by
  obtain ⟨b, off, x', rfl, hc0, hx0⟩ := h 0 (by simp)
  obtain rfl : x' = x := by simpa using hx0.symm
  clear h hx0
  rw [Nat.add_zero] at hc0
  go_enter Tryd.func124, Tryd.ntmps124
  go_wp2_with (fail)
  go_ret2
  exact ⟨_, _, rfl, (OwnC.lit (lo := w.heap.size) (n := 1) 2 1 #[.int .i64 x'] (Nat.le_refl _) (by unfold maxLen; omega) rfl).mono (Nat.le_refl _) (by simp), by (repeat (first | exact Below.refl _ _ | assumption | apply Below.drew | apply below_drewN | (refine Below.alloc ?_ (by first | omega | (simp; done) | (simp; omega)) _) | (refine Below.setCell ?_ (by first | omega | (simp; done) | (simp; omega)) _)))⟩

theorem impl_madeStacks (k : Int) (A : Option Addr) (st : List Int) (c : Nat) (w : World) (h : Ints w A st) (hk : isStitchB k = true) (hl : st.length = takenN k) (hs : ∀ x ∈ st, inR x 1 4 = true) :
    Calls Tryd.prog 124 #[.int .i64 k, .slice A st.length c] w fun e w' => ∃ A' c', e = .returned (.tuple #[.slice A' (stepMade k st).length c', .bool (stepOk k st)]) ∧ OwnI w' w.heap.size w'.heap.size A' c' (stepMade k st) ∧ Below w.heap.size w w' := by
  have hs' : ∀ x ∈ st, 1 ≤ x ∧ x ≤ 4 := fun x hx => inR_iff.1 (hs x hx)
  rcases stitch_cases hk with rfl | rfl | rfl | rfl | rfl | rfl | rfl | rfl | rfl | rfl | rfl
  · exact madeStacks_1 _ _ _ _
  · exact madeStacks_2 _ _ _ _
  · exact madeStacks_3 _ _ _ _
  · match st, hl with
    | [x, y], _ => exact madeStacks_4 _ x y _ _ h (hs' x (by simp)) (hs' y (by simp))
  · match st, hl with
    | [x, y], _ => exact madeStacks_5 _ x y _ _ h (hs' x (by simp)) (hs' y (by simp))
  · match st, hl with
    | [x], _ => exact madeStacks_6 _ x _ _ h (hs' x (by simp))
  · match st, hl with
    | [x], _ => exact madeStacks_7 _ x _ _ h
  · exact madeStacks_8 _ _ _ _
  · exact madeStacks_9 _ _ _ _
  · exact madeStacks_10 _ _ _ _
  · exact madeStacks_11 _ _ _ _


end Go.Proofs.YtifjdiiafofnpaaDoor

/- StacksAfter, the reference's side. -/
namespace Go.Proofs.YtifjdiiafofnpaaDoor
open Go.RowKit

theorem st0_drop {st : List Int} {t : Nat} {x : Int} (h : st[t]? = some x) : st0 (st.drop t) = x := by
  unfold st0
  rw [List.getElem?_drop, Nat.add_zero, h]; rfl
theorem st1_drop {st : List Int} {t : Nat} {x : Int} (h : st[t + 1]? = some x) : st1 (st.drop t) = x := by
  unfold st1
  rw [List.getElem?_drop, h]; rfl
theorem afterP_drop {ks st : List Int} {i t : Nat} {k : Int} (h : ks[i]? = some k) : afterP (ks.drop i) (st.drop t) = stepMade k (st.drop t) ++ afterP (ks.drop (i + 1)) (st.drop (t + takenN k)) := by
  rw [drop_cons h, afterP, List.drop_drop]
theorem thickP_drop {ks st : List Int} {i t : Nat} {k : Int} (h : ks[i]? = some k) : thickP (ks.drop i) (st.drop t) = (stepThick k (st.drop t) || thickP (ks.drop (i + 1)) (st.drop (t + takenN k))) := by
  rw [drop_cons h, thickP, List.drop_drop]
theorem okAfter_drop {ks st : List Int} {i t : Nat} {k : Int} (h : ks[i]? = some k) : okAfter (ks.drop i) (st.drop t) = (stepOk k (st.drop t) && okAfter (ks.drop (i + 1)) (st.drop (t + takenN k))) := by
  rw [drop_cons h, okAfter, List.drop_drop]

set_option maxHeartbeats 4000000 in
set_option maxRecDepth 10000 in
theorem spec_l14After (A B : Option Addr) (c d : Nat) (st ks : List Int) (w : World) (h : Ints w A st) (h' : Ints w B ks) (hv : stacksB st = true) (hs : stitchesB ks = true) (heq : takenS ks = st.length) :
    Calls Tryd.prog 115 #[.slice A st.length c, .slice B ks.length d] w fun e w' => ∃ A' c', e = .returned (.slice A' (afterP ks st).length c') ∧ OwnI w' w.heap.size w'.heap.size A' c' (afterP ks st) ∧ Below w.heap.size w w' := by
  obtain ⟨i0, hi0, hz0, hz1, hz2⟩ := info_parts info_int64
  obtain ⟨hl, hst⟩ := stitchesB_of hs
  obtain ⟨hl8, hr⟩ := stacksB_of hv
  have HST := Lib.hid hst; clear hst
  have HR := Lib.hid hr; clear hr
  have HEQ := Lib.hid heq; clear heq
  go_enter Tryd.func115, Tryd.ntmps115
  go_wp2_with (fail)
  go_loopw [5, 6, 7] (fun ov tv iv wr => ∃ (i t : Nat) (A' : Option Addr) (c' : Nat) (out : List Int), i ≤ ks.length ∧ iv = .int .i64 i ∧ tv = .int .i64 t ∧ ov = .slice A' out.length c' ∧ OwnI wr w.heap.size wr.heap.size A' c' out ∧ Below w.heap.size w wr ∧ Hid (takenS (ks.take i) = t) ∧ Hid (afterP ks st = out ++ afterP (ks.drop i) (st.drop t)) ∧ out.length ≤ 4 * i) (fun _ _ iv _ => ks.length - (intOf iv).toNat)
  case atStart =>
    exact ⟨0, 0, some ⟨w.heap.size, 0, none⟩, 0, [], Nat.zero_le _, rfl, rfl, rfl, (OwnC.lit _ 1 #[] (Nat.le_refl _) (Nat.zero_le _) rfl).mono (Nat.le_refl _) (by simp), by (repeat (first | exact Below.refl _ _ | assumption | apply Below.drew | apply below_drewN | (refine Below.alloc ?_ (by first | omega | (simp; done) | (simp; omega)) _) | (refine Below.setCell ?_ (by first | omega | (simp; done) | (simp; omega)) _))), Lib.hid rfl, Lib.hid (by simp), by simp⟩
  case round =>
    obtain ⟨i, t, A', c', out, hi, rfl, rfl, rfl, ho, hb, HT, HA, hol⟩ := hrel
    have hzs := hb.size
    by_cases hlt : i < ks.length
    · obtain ⟨b, off, k, rfl, hc, hk⟩ := h' i hlt
      have hcw := Lib.hid hc
      replace hc := cells_below hb _ _ hc
      have hq := HST.out k (List.mem_of_getElem? hk)
      have htn := takenN_le k hq
      have hle : t + takenN k ≤ st.length := by have := takenS_at hk; rw [HT.out, HEQ.out] at this; exact this
      have HT2 : Hid (takenS (ks.take (i + 1)) = t + takenN k) := Lib.hid (by rw [takenS_snoc hk, HT.out])
      have HA2 : Hid (afterP ks st = (out ++ stepMade k (st.drop t)) ++ afterP (ks.drop (i + 1)) (st.drop (t + takenN k))) := Lib.hid (by rw [HA.out, afterP_drop hk, List.append_assoc])
      have HB : Hid (takenB k = takenN k) := Lib.hid (takenB_of hq)
      have HM : Hid (madeB k = madeN k) := Lib.hid (madeB_of hq)
      clear hk HT HA
      have j1 : (0 : Int) ≤ (i : Int) := by omega
      by_cases hk6 : k = 6
      · subst hk6
        have hlen : t < st.length := by have : takenN 6 = 1 := by decide
                                        omega
        obtain ⟨b1, off1, x, rfl, hcx, hx⟩ := h t hlen
        replace hcx := cells_below hb _ _ hcx
        have hxr := inR_iff.1 (HR.out x (List.mem_of_getElem? hx))
        have hsm : stepMade 6 (st.drop t) = [x + 1] := by
          unfold stepMade
          rw [if_pos rfl, st0_drop hx]
          have hw : wrap64 (x + 1) = x + 1 := IntWalk.wrap64_in _ ⟨by omega, by omega⟩
          rw [hw]
        rw [hsm] at HA2
        clear hx hsm
        go_wp2_with (at_builtin; refine wpList_append1 wr [.int .i64 (x + 1)] _ rfl (.tmp 34) (.tmp 40) _ rfl 2 i0 _ 1 8 Tryd.underlying22 hi0 hz0 hz1 hz2 rfl (by decide) rfl ho hzs 1 rfl rfl (by simp [Value.oneCell']) (by omega) (by decide) ?_; intro A2 c2 w2 ho2 hg2 hb2 hz2'; have hc2 := cells_below (hb.trans hb2) _ _ hcw.out)
        refine (spec_ColumnsTaken _ _).mono ?_; rintro e w9 ⟨rfl, b9⟩
        have o9 := ho2.below b9 (Nat.le_refl _)
        have hb9 : Below w.heap.size w w9 := (hb.trans hb2).trans (b9.mono (hb.trans hb2).size)
        have z9 := b9.size
        rw [HB.out]
        go_wp2_with (fail)
        refine ⟨⟨i + 1, t + takenN 6, A2, c2, (out ++ [x + 1]), by omega, by go_num, by push_cast; go_num, by simp, by show OwnC _ _ _ _ _ _ _ _ _; rw [List.map_append, List.length_append]; exact o9.mono (Nat.le_refl _) z9, hb9, HT2, HA2, by simp; omega⟩, by simp [intOf]; omega⟩
      · by_cases hk7 : k = 7
        · subst hk7
          have hlen : t < st.length := by have : takenN 7 = 1 := by decide
                                          omega
          obtain ⟨b1, off1, x, rfl, hcx, hx⟩ := h t hlen
          replace hcx := cells_below hb _ _ hcx
          have hsm : stepMade 7 (st.drop t) = [x] := by
            unfold stepMade
            rw [if_neg (by decide), if_pos rfl, st0_drop hx]
          rw [hsm] at HA2
          clear hx hsm
          go_wp2_with (at_builtin; refine wpList_append1 wr [.int .i64 x] _ rfl (.tmp 44) (.tmp 49) _ rfl 2 i0 _ 1 8 Tryd.underlying22 hi0 hz0 hz1 hz2 rfl (by decide) rfl ho hzs 1 rfl rfl (by simp [Value.oneCell']) (by omega) (by decide) ?_; intro A2 c2 w2 ho2 hg2 hb2 hz2'; have hc2 := cells_below (hb.trans hb2) _ _ hcw.out)
          refine (spec_ColumnsTaken _ _).mono ?_; rintro e w9 ⟨rfl, b9⟩
          have o9 := ho2.below b9 (Nat.le_refl _)
          have hb9 : Below w.heap.size w w9 := (hb.trans hb2).trans (b9.mono (hb.trans hb2).size)
          have z9 := b9.size
          rw [HB.out]
          go_wp2_with (fail)
          refine ⟨⟨i + 1, t + takenN 7, A2, c2, (out ++ [x]), by omega, by go_num, by push_cast; go_num, by simp, by show OwnC _ _ _ _ _ _ _ _ _; rw [List.map_append, List.length_append]; exact o9.mono (Nat.le_refl _) z9, hb9, HT2, HA2, by simp; omega⟩, by simp [intOf]; omega⟩
        · have hsm : stepMade k (st.drop t) = List.replicate (madeN k) 1 := by
            unfold stepMade
            rw [if_neg hk6, if_neg hk7]
          rw [hsm] at HA2
          clear hsm
          have hk6' : (k == 6) = false := by simpa using hk6
          have hk7' : (k == 7) = false := by simpa using hk7
          clear hk6 hk7
          go_wp2_with (fail)
          refine (spec_ColumnsMade _ _).mono ?_; rintro e w2 ⟨rfl, b2⟩
          have ho2 := ho.below b2 (Nat.le_refl _)
          have hb2 : Below w.heap.size w w2 := hb.trans (b2.mono hzs)
          have z2 := b2.size
          rw [HM.out]
          go_wp2_with (fail)
          go_loopw [5, 8] (fun ov mv ws => ∃ (j : Nat) (A' : Option Addr) (c' : Nat), j ≤ madeN k ∧ mv = .int .i64 ((madeN k : Int) - j) ∧ ov = .slice A' (out ++ List.replicate j 1).length c' ∧ OwnI ws w.heap.size ws.heap.size A' c' (out ++ List.replicate j 1) ∧ Below w.heap.size w ws) (fun _ mv _ => (intOf mv).toNat)
          case atStart => exact ⟨0, A', c', Nat.zero_le _, by simp, by simp, by simpa using ho2.mono (Nat.le_refl _) z2, hb2⟩
          case round =>
            clear ho ho2 hzs
            obtain ⟨j, A3, c3, hj, rfl, rfl, ho3, hb3⟩ := hrel
            have hzs3 := hb3.size
            have hlen : (out ++ List.replicate j (1 : Int)).length ≤ 100 := by simp; omega
            have hlen2 : (out ++ List.replicate j (1 : Int)).length = out.length + j := by simp
            have HL2 := Lib.hid hlen2; clear hlen2
            have HJ : Hid (out ++ List.replicate (j + 1) (1 : Int) = (out ++ List.replicate j 1) ++ [1]) := Lib.hid (by rw [List.replicate_succ', List.append_assoc])
            generalize hL : out ++ List.replicate j (1 : Int) = L at ho3 hlen HL2 HJ ⊢
            have HL := Lib.hid hL; clear hL
            by_cases hjl : j < madeN k
            · go_wp2_with (at_builtin; refine wpList_append1 wr [.int .i64 1] _ rfl (.tmp 29) (.tmp 30) _ rfl 2 i0 _ 1 8 Tryd.underlying22 hi0 hz0 hz1 hz2 rfl (by decide) rfl ho3 hzs3 1 rfl rfl (by simp [Value.oneCell']) (by omega) (by decide) ?_; intro A4 c4 w4 ho4 hg4 hb4 hz4)
              go_roundw
              case rel =>
                refine ⟨j + 1, A4, c4, by omega, by push_cast; go_num, by rw [HJ.out]; simp, ?_, hb3.trans hb4⟩
                rw [HJ.out]
                show OwnC _ _ _ _ _ _ _ _ _
                rw [List.map_append, List.length_append]
                exact ho4
              case measure => simp [intOf]; omega
            · have hj4 : j = madeN k := by omega
              subst hj4
              have hc3 := cells_below hb3 _ _ hcw.out
              go_wp2_with (fail)
              refine (spec_ColumnsTaken _ _).mono ?_; rintro e w9 ⟨rfl, b9⟩
              have o9 := ho3.below b9 (Nat.le_refl _)
              have hb9 : Below w.heap.size w w9 := hb3.trans (b9.mono hb3.size)
              have z9 := b9.size
              rw [HB.out]
              go_wp2_with (fail)
              refine ⟨⟨i + 1, t + takenN k, A3, c3, L, by omega, by go_num, by push_cast; go_num, rfl, o9.mono (Nat.le_refl _) z9, hb9, HT2, Lib.hid (by rw [HA2.out, HL.out]), by have := HL2.out; omega⟩, by simp [intOf]; omega⟩
    · go_wp2_with (fail)
      go_ret
      have he := HA.out
      rw [drop_all (by omega), afterP, List.append_nil] at he
      rw [he]
      exact ⟨_, _, rfl, ho, hb⟩

set_option maxHeartbeats 2000000 in
set_option maxRecDepth 10000 in
theorem spec_l14Thick (A B : Option Addr) (c d : Nat) (st ks : List Int) (w : World) (h : Ints w A st) (h' : Ints w B ks) (hv : stacksB st = true) (hs : stitchesB ks = true) (heq : takenS ks = st.length) :
    Calls Tryd.prog 116 #[.slice A st.length c, .slice B ks.length d] w fun e w' => e = .returned (.bool (thickP ks st)) ∧ Below w.heap.size w w' := by
  obtain ⟨hl, hst⟩ := stitchesB_of hs
  obtain ⟨hl8, hr⟩ := stacksB_of hv
  have HST := Lib.hid hst; clear hst
  have HR := Lib.hid hr; clear hr
  have HEQ := Lib.hid heq; clear heq
  go_enter Tryd.func116, Tryd.ntmps116
  go_wp2_with (fail)
  go_loopw [5, 6] (fun tv iv wr => ∃ (i t : Nat), i ≤ ks.length ∧ iv = .int .i64 i ∧ tv = .int .i64 t ∧ Below w.heap.size w wr ∧ Hid (takenS (ks.take i) = t) ∧ Hid (thickP ks st = thickP (ks.drop i) (st.drop t))) (fun _ iv _ => ks.length - (intOf iv).toNat)
  case atStart => exact ⟨0, 0, Nat.zero_le _, rfl, rfl, Below.refl _ _, Lib.hid rfl, Lib.hid (by simp)⟩
  case round =>
    obtain ⟨i, t, hi, rfl, rfl, hb, HT, HA⟩ := hrel
    have hzs := hb.size
    by_cases hlt : i < ks.length
    · obtain ⟨b, off, k, rfl, hc, hk⟩ := h' i hlt
      replace hc := cells_below hb _ _ hc
      have hq := HST.out k (List.mem_of_getElem? hk)
      have htn := takenN_le k hq
      have hle : t + takenN k ≤ st.length := by have := takenS_at hk; rw [HT.out, HEQ.out] at this; exact this
      have HT2 : Hid (takenS (ks.take (i + 1)) = t + takenN k) := Lib.hid (by rw [takenS_snoc hk, HT.out])
      have HA2 : Hid (thickP ks st = (stepThick k (st.drop t) || thickP (ks.drop (i + 1)) (st.drop (t + takenN k)))) := Lib.hid (by rw [HA.out, thickP_drop hk])
      have HB : Hid (takenB k = takenN k) := Lib.hid (takenB_of hq)
      clear hk HT HA
      have j1 : (0 : Int) ≤ (i : Int) := by omega
      have j2 : (i : Int) < (ks.length : Int) := by omega
      by_cases h45 : k = 4 ∨ k = 5
      · have ht2 : takenN k = 2 := by rcases h45 with rfl | rfl <;> rfl
        obtain ⟨b1, off1, x, hA1, hcx, hx⟩ := h t (by omega)
        obtain ⟨b2, off2, y, hA2, hcy, hy⟩ := h (t + 1) (by omega)
        subst hA1
        injection hA2 with hA2
        injection hA2 with hA2 hA3
        subst hA2 hA3
        replace hcx := cells_below hb _ _ hcx
        replace hcy := cells_below hb _ _ hcy
        have hxr := inR_iff.1 (HR.out x (List.mem_of_getElem? hx))
        have hyr := inR_iff.1 (HR.out y (List.mem_of_getElem? hy))
        have HS : Hid (stepThick k (st.drop t) = decide (4 < x + y)) := Lib.hid (by rw [stepThick, st0_drop hx, st1_drop hy, decide_eq_true h45, Bool.true_and])
        clear hx hy
        have j3 : (0 : Int) ≤ (t : Int) := by omega
        have j4 : (t : Int) < (st.length : Int) := by omega
        have j5 : (0 : Int) ≤ (t : Int) + 1 := by omega
        have j6 : (t : Int) + 1 < (st.length : Int) := by omega
        have j7 : ((t : Int) + 1).toNat = t + 1 := by omega
        have j8 : IntKind.i64.wrap ((t : Int) + 1) = (t : Int) + 1 := IntWalk.i64_in _ ⟨by omega, by omega⟩
        have hcy2 := hcy
        rw [← Nat.add_assoc] at hcy2
        rcases h45 with rfl | rfl
        · by_cases hxy : 4 < x + y
          · have hxy' : decide (4 < x + y) = true := decide_eq_true hxy
            go_wp2_with (fail)
            go_quiet (fail)
            go_wp2_with (fail)
            go_ret
            exact ⟨ret_bool (by rw [HA2.out, HS.out, decide_eq_true hxy]; rfl), below_drewN hb _⟩
          · have hxy' : decide (4 < x + y) = false := decide_eq_false hxy
            go_wp2_with (fail)
            go_quiet (fail)
            go_wp2_with (fail)
            refine (spec_ColumnsTaken _ _).mono ?_; rintro e w9 ⟨rfl, b9⟩
            have hb9 : Below w.heap.size w w9 := (below_drewN hb nq).trans (b9.mono hzs)
            rw [HB.out]
            go_wp2_with (fail)
            refine ⟨⟨i + 1, t + takenN _, by omega, by go_num, by push_cast; go_num, hb9, HT2, Lib.hid (by rw [HA2.out, HS.out, show decide (4 < x + y) = false from decide_eq_false (by omega), Bool.false_or])⟩, by simp [intOf]; omega⟩
        · have hd4 : ((5 : Int) == 4) = false := by decide
          by_cases hxy : 4 < x + y
          · have hxy' : decide (4 < x + y) = true := decide_eq_true hxy
            go_wp2_with (fail)
            go_quiet (fail)
            go_wp2_with (fail)
            go_ret
            exact ⟨ret_bool (by rw [HA2.out, HS.out, decide_eq_true hxy]; rfl), below_drewN hb _⟩
          · have hxy' : decide (4 < x + y) = false := decide_eq_false hxy
            go_wp2_with (fail)
            go_quiet (fail)
            go_wp2_with (fail)
            refine (spec_ColumnsTaken _ _).mono ?_; rintro e w9 ⟨rfl, b9⟩
            have hb9 : Below w.heap.size w w9 := (below_drewN hb nq).trans (b9.mono hzs)
            rw [HB.out]
            go_wp2_with (fail)
            refine ⟨⟨i + 1, t + takenN _, by omega, by go_num, by push_cast; go_num, hb9, HT2, Lib.hid (by rw [HA2.out, HS.out, show decide (4 < x + y) = false from decide_eq_false (by omega), Bool.false_or])⟩, by simp [intOf]; omega⟩
      · have hd4 : (k == 4) = false := by simpa using fun e => h45 (.inl e)
        have hd5 : (k == 5) = false := by simpa using fun e => h45 (.inr e)
        have HS : Hid (stepThick k (st.drop t) = false) := Lib.hid (by rw [stepThick, decide_eq_false h45, Bool.false_and])
        clear h45
        go_wp2_with (fail)
        go_quiet (fail)
        go_wp2_with (fail)
        refine (spec_ColumnsTaken _ _).mono ?_; rintro e w9 ⟨rfl, b9⟩
        have hb9 : Below w.heap.size w w9 := (below_drewN hb nq).trans (b9.mono hzs)
        rw [HB.out]
        go_wp2_with (fail)
        refine ⟨⟨i + 1, t + takenN k, by omega, by go_num, by push_cast; go_num, hb9, HT2, Lib.hid (by rw [HA2.out, HS.out, Bool.false_or])⟩, by simp [intOf]; omega⟩
    · go_wp2_with (fail)
      go_ret
      have he := HA.out
      rw [drop_all (by omega), thickP] at he
      exact ⟨ret_bool he.symm, hb⟩

end Go.Proofs.YtifjdiiafofnpaaDoor
