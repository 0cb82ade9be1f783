/- slices.Repeat of [1]; how many columns a stitch takes and makes. -/
import Derived.Test.YtfgbhhkmdeljoaaSP
import Derived.Test.YtfgbhhkmdeljoaaPKs
import Derived.Laws.CopyOwn
namespace Go.Proofs.Ytfgbhhkmdeljoaa
open Go.RowKit

theorem addr_add (g i : Nat) : (⟨g, 0, none⟩ : Addr).add i = ⟨g, i, none⟩ := by
  unfold Addr.add
  split <;> simp_all
theorem src_of_heap {w : World} {g : Nat} {t : TypeId} {L cs : List Value} (h : w.heap[g]? = some (.cells L.toArray t (0, 0))) (hp : cs = L.take cs.length) : ∀ j v, cs[j]? = some v → w.cell? ((⟨g, 0, none⟩ : Addr).add j) = some v := by
  intro j v hv
  rw [addr_add, cell_of_row w g j L.toArray t (0, 0) h]
  have hj := (List.getElem?_eq_some_iff.1 hv).1
  rw [hp, List.getElem?_take, if_pos hj] at hv
  simpa using hv
def ones (m z : Nat) : List Value := (List.replicate m (1 : Int) ++ List.replicate z 0).map (Value.int .i64)

theorem bits_Mul1 (b : Int) (w : World) (hb : b = 1 ∨ b = 2 ∨ b = 4) : Calls Try.prog 137 #[.int .u64 1, .int .u64 b] w fun e w' => e = .returned (.tuple #[.int .u64 0, .int .u64 b]) ∧ w = w' := by
  rcases hb with rfl | rfl | rfl
  · go_enter Try.func137, Try.ntmps137
    go_wp2_with (go_in)
    go_ret2
    exact ⟨rfl, rfl⟩
  · go_enter Try.func137, Try.ntmps137
    go_wp2_with (go_in)
    go_ret2
    exact ⟨rfl, rfl⟩
  · go_enter Try.func137, Try.ntmps137
    go_wp2_with (go_in)
    go_ret2
    exact ⟨rfl, rfl⟩

theorem impl_ColumnsTaken (k : Int) (w : World) : Calls Try.prog 113 #[.int .i64 k] w fun e w' => e = .returned (.int .i64 (takenB k)) ∧ w = w' := by
  by_cases hk : isStitchB k = true
  · rcases stitch_cases hk with rfl | rfl | rfl | rfl | rfl | rfl | rfl | rfl | rfl | rfl | rfl
    all_goals
      go_enter Try.func113, Try.ntmps113
      go_wp2_with (fail)
      refine (impl_isStitch _ _).mono ?_; rintro e _ ⟨rfl, rfl⟩
      go_wp2_with (fail)
      go_ret
      exact ⟨rfl, rfl⟩
  · have hk' : isStitchB k = false := by simpa using hk
    have HF : Hid (takenB k = -1) := Lib.hid (by rw [takenB, if_neg hk])
    clear hk
    go_enter Try.func113, Try.ntmps113
    go_wp2_with (fail)
    refine (impl_isStitch _ _).mono ?_; rintro e _ ⟨rfl, rfl⟩
    go_wp2_with (fail)
    go_ret
    exact ⟨ret_int HF.out.symm, rfl⟩

theorem impl_ColumnsMade (k : Int) (w : World) : Calls Try.prog 150 #[.int .i64 k] w fun e w' => e = .returned (.int .i64 (madeB k)) ∧ w = w' := by
  by_cases hk : isStitchB k = true
  · rcases stitch_cases hk with rfl | rfl | rfl | rfl | rfl | rfl | rfl | rfl | rfl | rfl | rfl
    all_goals
      go_enter Try.func150, Try.ntmps150
      go_wp2_with (fail)
      refine (impl_isStitch _ _).mono ?_; rintro e _ ⟨rfl, rfl⟩
      go_wp2_with (fail)
      go_ret
      exact ⟨rfl, rfl⟩
  · have hk' : isStitchB k = false := by simpa using hk
    have HF : Hid (madeB k = -1) := Lib.hid (by rw [madeB, if_neg hk])
    clear hk
    go_enter Try.func150, Try.ntmps150
    go_wp2_with (fail)
    refine (impl_isStitch _ _).mono ?_; rintro e _ ⟨rfl, rfl⟩
    go_wp2_with (fail)
    go_ret
    exact ⟨ret_int HF.out.symm, rfl⟩

set_option maxHeartbeats 4000000 in
theorem spec_ColumnsTaken (k : Int) (w : World) : Calls Try.prog 112 #[.int .i64 k] w fun e w' => e = .returned (.int .i64 (takenB k)) ∧ Below w.heap.size w w' := by
  by_cases hk : isStitchB k = true
  · rcases stitch_cases hk with rfl | rfl | rfl | rfl | rfl | rfl | rfl | rfl | rfl | rfl | rfl
    all_goals
      go_enter Try.func112, Try.ntmps112
      go_wp2_with (fail)
      refine (spec_l14Kind _ _).mono ?_; rintro e _ ⟨rfl, rfl⟩
      go_wp2_with (fail)
      go_ret
      exact ⟨rfl, by (repeat (first | exact Below.refl _ _ | assumption | apply Below.drew | apply below_drewN | (refine Below.alloc ?_ (by first | omega | (simp; done) | (simp; omega)) _) | (refine Below.setCell ?_ (by first | omega | (simp; done) | (simp; omega)) _)))⟩
  · have hk' : isStitchB k = false := by simpa using hk
    have HF : Hid (takenB k = -1) := Lib.hid (by rw [takenB, if_neg hk])
    clear hk
    go_enter Try.func112, Try.ntmps112
    go_wp2_with (fail)
    refine (spec_l14Kind _ _).mono ?_; rintro e _ ⟨rfl, rfl⟩
    go_wp2_with (fail)
    go_ret
    exact ⟨ret_int HF.out.symm, Below.refl _ _⟩

set_option maxHeartbeats 4000000 in
theorem spec_ColumnsMade (k : Int) (w : World) : Calls Try.prog 142 #[.int .i64 k] w fun e w' => e = .returned (.int .i64 (madeB k)) ∧ Below w.heap.size w w' := by
  by_cases hk : isStitchB k = true
  · rcases stitch_cases hk with rfl | rfl | rfl | rfl | rfl | rfl | rfl | rfl | rfl | rfl | rfl
    all_goals
      go_enter Try.func142, Try.ntmps142
      go_wp2_with (fail)
      refine (spec_l14Kind _ _).mono ?_; rintro e _ ⟨rfl, rfl⟩
      go_wp2_with (fail)
      go_ret
      exact ⟨rfl, by (repeat (first | exact Below.refl _ _ | assumption | apply Below.drew | apply below_drewN | (refine Below.alloc ?_ (by first | omega | (simp; done) | (simp; omega)) _) | (refine Below.setCell ?_ (by first | omega | (simp; done) | (simp; omega)) _)))⟩
  · have hk' : isStitchB k = false := by simpa using hk
    have HF : Hid (madeB k = -1) := Lib.hid (by rw [madeB, if_neg hk])
    clear hk
    go_enter Try.func142, Try.ntmps142
    go_wp2_with (fail)
    refine (spec_l14Kind _ _).mono ?_; rintro e _ ⟨rfl, rfl⟩
    go_wp2_with (fail)
    go_ret
    exact ⟨ret_int HF.out.symm, Below.refl _ _⟩

theorem impl_takenBy (A : Option Addr) (c : Nat) (ks : List Int) (w : World) (h : Ints w A ks) (hs : stitchesB ks = true) :
    Calls Try.prog 88 #[.slice A ks.length c] w fun e w' => e = .returned (.int .i64 (takenS ks)) ∧ w = w' := by
  obtain ⟨hl, hst⟩ := stitchesB_of hs
  have hsum := (sums_le hst).1
  have HST := Lib.hid hst; clear hst
  go_enter Try.func88, Try.ntmps88
  go_wp2_with (fail)
  go_loop [3, 8] (fun s i => ∃ k : Nat, k ≤ ks.length ∧ i = .int .i64 k ∧ s = .int .i64 (takenS (ks.take k))) (fun _ i => ks.length - (intOf i).toNat)
  case atStart => exact ⟨0, Nat.zero_le _, rfl, rfl⟩
  case round =>
    obtain ⟨k, hk, rfl, rfl⟩ := hrel
    by_cases hlt : k < ks.length
    · obtain ⟨b, off, x, rfl, hc, hx⟩ := h k hlt
      have hq := HST.out x (List.mem_of_getElem? hx)
      have hle := takenS_at hx
      have HS : Hid (takenS (ks.take (k + 1)) = takenS (ks.take k) + takenN x) := Lib.hid (takenS_snoc hx)
      have HB : Hid (takenB x = takenN x) := Lib.hid (takenB_of hq)
      clear hx hq
      go_wp2_with (fail)
      refine (impl_ColumnsTaken _ _).mono ?_; rintro e _ ⟨rfl, rfl⟩
      rw [HB.out]
      go_wp2_with (fail)
      go_round
      case rel => exact ⟨k + 1, by omega, by go_num, by rw [HS.out]; push_cast; go_num⟩
      case measure => simp [intOf]; omega
    · go_wp2_with (fail)
      go_ret
      exact ⟨ret_int (by rw [take_all (by omega)]), rfl⟩

theorem impl_MadeBy (A : Option Addr) (c : Nat) (ks : List Int) (w : World) (h : Ints w A ks) (hl9 : ks.length ≤ 9223372036854775807) :
    Calls Try.prog 125 #[.slice A ks.length c] w fun e w' => e = .returned (.int .i64 (madeP ks)) ∧ w = w' := by
  by_cases hs : stitchesB ks = true
  · have HF : Hid (madeP ks = madeS ks) := Lib.hid (by rw [madeP, if_pos hs])
    obtain ⟨hl, hst⟩ := stitchesB_of hs
    have hsum := (sums_le hst).2
    have HST := Lib.hid hst; clear hst
    go_enter Try.func125, Try.ntmps125
    go_wp2_with (fail)
    refine (impl_areStitches _ _ _ _ h hl9).mono ?_; rintro e _ ⟨rfl, rfl⟩
    go_wp2_with (fail)
    go_loop [3, 11] (fun s i => ∃ k : Nat, k ≤ ks.length ∧ i = .int .i64 k ∧ s = .int .i64 (madeS (ks.take k))) (fun _ i => ks.length - (intOf i).toNat)
    case atStart => exact ⟨0, Nat.zero_le _, rfl, rfl⟩
    case round =>
      obtain ⟨k, hk, rfl, rfl⟩ := hrel
      by_cases hlt : k < ks.length
      · obtain ⟨b, off, x, rfl, hc, hx⟩ := h k hlt
        have hq := HST.out x (List.mem_of_getElem? hx)
        have HS : Hid (madeS (ks.take (k + 1)) = madeS (ks.take k) + madeN x) := Lib.hid (madeS_snoc hx)
        have hle : madeS (ks.take (k + 1)) ≤ 4 * (k + 1) := by
          have := (sums_le (ks := ks.take (k + 1)) fun y hy => HST.out y (List.mem_of_mem_take hy)).2
          have h2 := List.length_take_le (k + 1) ks
          omega
        rw [HS.out] at hle
        have HB : Hid (madeB x = madeN x) := Lib.hid (madeB_of hq)
        clear hx hq
        go_wp2_with (fail)
        refine (impl_ColumnsMade _ _).mono ?_; rintro e _ ⟨rfl, rfl⟩
        rw [HB.out]
        go_wp2_with (fail)
        go_round
        case rel => exact ⟨k + 1, by omega, by go_num, by rw [HS.out]; push_cast; go_num⟩
        case measure => simp [intOf]; omega
      · go_wp2_with (fail)
        go_ret
        exact ⟨ret_int (by rw [HF.out, take_all (by omega)]), rfl⟩
  · have hs' : stitchesB ks = false := by simpa using hs
    have HF : Hid (madeP ks = -1) := Lib.hid (by rw [madeP, if_neg hs])
    clear hs
    go_enter Try.func125, Try.ntmps125
    go_wp2_with (fail)
    refine (impl_areStitches _ _ _ _ h hl9).mono ?_; rintro e _ ⟨rfl, rfl⟩
    go_wp2_with (fail)
    go_ret
    exact ⟨ret_int HF.out.symm, rfl⟩

theorem spec_TakenBy (A : Option Addr) (c : Nat) (ks : List Int) (w : World) (h : Ints w A ks) (hl9 : ks.length ≤ 9223372036854775807) :
    Calls Try.prog 83 #[.slice A ks.length c] w fun e w' => e = .returned (.int .i64 (takenP ks)) ∧ Below w.heap.size w w' := by
  by_cases hs : stitchesB ks = true
  · have HF : Hid (takenP ks = takenS ks) := Lib.hid (by rw [takenP, if_pos hs])
    obtain ⟨hl, hst⟩ := stitchesB_of hs
    have HST := Lib.hid hst; clear hst
    go_enter Try.func83, Try.ntmps83
    go_wp2_with (fail)
    refine (spec_l14Ok _ _ _ _ h hl9).mono ?_; rintro e _ ⟨rfl, rfl⟩
    go_wp2_with (fail)
    go_loopw [3, 4] (fun s i wr => ∃ k : Nat, k ≤ ks.length ∧ i = .int .i64 k ∧ s = .int .i64 (takenS (ks.take k)) ∧ Below w.heap.size w wr) (fun _ i _ => ks.length - (intOf i).toNat)
    case atStart => exact ⟨0, Nat.zero_le _, rfl, rfl, Below.refl _ _⟩
    case round =>
      obtain ⟨k, hk, rfl, rfl, hb⟩ := hrel
      have hzs := hb.size
      by_cases hlt : k < ks.length
      · obtain ⟨b, off, x, rfl, hc, hx⟩ := h k hlt
        replace hc := cells_below hb _ _ hc
        have hq := HST.out x (List.mem_of_getElem? hx)
        have HS : Hid (takenS (ks.take (k + 1)) = takenS (ks.take k) + takenN x) := Lib.hid (takenS_snoc hx)
        have hle : takenS (ks.take (k + 1)) ≤ 4 * (k + 1) ∧ madeS (ks.take (k + 1)) ≤ 4 * (k + 1) := by
          have := (sums_le (ks := ks.take (k + 1)) fun y hy => HST.out y (List.mem_of_mem_take hy))
          have h2 := List.length_take_le (k + 1) ks
          omega
        have hle2 : takenS (ks.take (k + 1)) ≤ 4 * (k + 1) := by first | exact hle.1 | exact hle.2
        clear hle
        rw [HS.out] at hle2
        have HB : Hid (takenB x = takenN x) := Lib.hid (takenB_of hq)
        clear hx hq
        go_wp2_with (fail)
        refine (spec_ColumnsTaken _ _).mono ?_; rintro e w2 ⟨rfl, b2⟩
        have hb2 : Below w.heap.size w w2 := hb.trans (b2.mono hzs)
        rw [HB.out]
        go_wp2_with (fail)
        go_roundw
        case rel => exact ⟨k + 1, by omega, by go_num, by rw [HS.out]; push_cast; go_num, hb2⟩
        case measure => simp [intOf]; omega
      · go_wp2_with (fail)
        go_ret
        exact ⟨ret_int (by rw [HF.out, take_all (by omega)]), hb⟩
  · have hs' : stitchesB ks = false := by simpa using hs
    have HF : Hid (takenP ks = -1) := Lib.hid (by rw [takenP, if_neg hs])
    clear hs
    go_enter Try.func83, Try.ntmps83
    go_wp2_with (fail)
    refine (spec_l14Ok _ _ _ _ h hl9).mono ?_; rintro e _ ⟨rfl, rfl⟩
    go_wp2_with (fail)
    go_ret
    exact ⟨ret_int HF.out.symm, Below.refl _ _⟩
theorem spec_MadeBy (A : Option Addr) (c : Nat) (ks : List Int) (w : World) (h : Ints w A ks) (hl9 : ks.length ≤ 9223372036854775807) :
    Calls Try.prog 117 #[.slice A ks.length c] w fun e w' => e = .returned (.int .i64 (madeP ks)) ∧ Below w.heap.size w w' := by
  by_cases hs : stitchesB ks = true
  · have HF : Hid (madeP ks = madeS ks) := Lib.hid (by rw [madeP, if_pos hs])
    obtain ⟨hl, hst⟩ := stitchesB_of hs
    have HST := Lib.hid hst; clear hst
    go_enter Try.func117, Try.ntmps117
    go_wp2_with (fail)
    refine (spec_l14Ok _ _ _ _ h hl9).mono ?_; rintro e _ ⟨rfl, rfl⟩
    go_wp2_with (fail)
    go_loopw [3, 4] (fun s i wr => ∃ k : Nat, k ≤ ks.length ∧ i = .int .i64 k ∧ s = .int .i64 (madeS (ks.take k)) ∧ Below w.heap.size w wr) (fun _ i _ => ks.length - (intOf i).toNat)
    case atStart => exact ⟨0, Nat.zero_le _, rfl, rfl, Below.refl _ _⟩
    case round =>
      obtain ⟨k, hk, rfl, rfl, hb⟩ := hrel
      have hzs := hb.size
      by_cases hlt : k < ks.length
      · obtain ⟨b, off, x, rfl, hc, hx⟩ := h k hlt
        replace hc := cells_below hb _ _ hc
        have hq := HST.out x (List.mem_of_getElem? hx)
        have HS : Hid (madeS (ks.take (k + 1)) = madeS (ks.take k) + madeN x) := Lib.hid (madeS_snoc hx)
        have hle : takenS (ks.take (k + 1)) ≤ 4 * (k + 1) ∧ madeS (ks.take (k + 1)) ≤ 4 * (k + 1) := by
          have := (sums_le (ks := ks.take (k + 1)) fun y hy => HST.out y (List.mem_of_mem_take hy))
          have h2 := List.length_take_le (k + 1) ks
          omega
        have hle2 : madeS (ks.take (k + 1)) ≤ 4 * (k + 1) := by first | exact hle.1 | exact hle.2
        clear hle
        rw [HS.out] at hle2
        have HB : Hid (madeB x = madeN x) := Lib.hid (madeB_of hq)
        clear hx hq
        go_wp2_with (fail)
        refine (spec_ColumnsMade _ _).mono ?_; rintro e w2 ⟨rfl, b2⟩
        have hb2 : Below w.heap.size w w2 := hb.trans (b2.mono hzs)
        rw [HB.out]
        go_wp2_with (fail)
        go_roundw
        case rel => exact ⟨k + 1, by omega, by go_num, by rw [HS.out]; push_cast; go_num, hb2⟩
        case measure => simp [intOf]; omega
      · go_wp2_with (fail)
        go_ret
        exact ⟨ret_int (by rw [HF.out, take_all (by omega)]), hb⟩
  · have hs' : stitchesB ks = false := by simpa using hs
    have HF : Hid (madeP ks = -1) := Lib.hid (by rw [madeP, if_neg hs])
    clear hs
    go_enter Try.func117, Try.ntmps117
    go_wp2_with (fail)
    refine (spec_l14Ok _ _ _ _ h hl9).mono ?_; rintro e _ ⟨rfl, rfl⟩
    go_wp2_with (fail)
    go_ret
    exact ⟨ret_int HF.out.symm, Below.refl _ _⟩

end Go.Proofs.Ytfgbhhkmdeljoaa
