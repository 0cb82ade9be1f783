/- The helpers of the laws on slices of numbers. -/
import Derived.Test.YtfgbhhkmdeljoaaP
namespace Go.Proofs.Ytfgbhhkmdeljoaa
open Go.RowKit

set_option maxHeartbeats 400000 in
theorem laws_toInt64S (A : Option Addr) (c : Nat) (xs : List Int) (w : World) (h : Ints w A xs) (hl : xs.length ≤ 1048576) :
    Calls Try.prog 49 #[.slice A xs.length c] w fun e w' => ∃ A' c', e = .returned (.slice A' xs.length c') ∧ OwnI w' w.heap.size w'.heap.size A' c' xs ∧ Below w.heap.size w w' := by
  obtain ⟨i0, hi0, hz0, hz1, hz2⟩ := info_parts info_int64
  have hlen : xs.length ≤ 9223372036854775807 := by omega
  go_enter Try.func49, Try.ntmps49
  go_wp2_with (refine wpList_make_full _ rfl (.tmp 6) (.tmp 6) _ rfl w.heap.size 2 i0 _ 1 Try.underlying33 hi0 hz0 hz1 .i64 .i64 _ _ xs.length rfl rfl rfl rfl (by rw [hz2]; omega) (by unfold maxLen; omega) (Nat.le_refl _) ?_; intro w1 hown hg)
  have hb1 : Below w.heap.size w w1 := (Below.refl _ _).grown hg (Nat.le_refl _) (by simp)
  go_loopw [4] (fun i wr => ∃ (k : Nat) (cs : List Value), k ≤ xs.length ∧ i = .int .i64 k ∧ wr.ownsRow w.heap.size 2 1 (.slice (some ⟨w.heap.size, 0, none⟩) xs.length xs.length) xs.length cs ∧ cs.take k = (xs.take k).map (Value.int .i64) ∧ Below w.heap.size w wr) (fun i _ => xs.length - (intOf i).toNat)
  case atStart => exact ⟨0, _, Nat.zero_le _, rfl, hown, by simp, hb1⟩
  case round =>
    clear hown hg hb1
    obtain ⟨k, cs, hk, rfl, hown, htk, hb⟩ := hrel
    have hcl : cs.length = xs.length := by simpa using hown.1
    have HT := Lib.hid htk; clear htk
    have HC := Lib.hid hcl; clear hcl
    by_cases hlt : k < xs.length
    · obtain ⟨b, off, x, rfl, hc, hx⟩ := h k hlt
      have hc' := cells_below hb _ _ hc
      clear hc
      have hcell : wr.cell? ⟨w.heap.size, k, none⟩ = some (cs[k]'(by rw [HC.out]; exact hlt)) := by
        rw [hown.cellAt k (by omega), List.getElem?_eq_getElem]
      have hfz := hown.frozenAt k
      go_wp2
      go_roundw
      case rel =>
        refine ⟨k + 1, cs.set k (.int .i64 x), by omega, by go_num, (hown.stored k _).1, ?_, hb.setCell (p := ⟨w.heap.size, k, none⟩) (Nat.le_refl _) _⟩
        rw [take_set_succ _ _ _ (by rw [HC.out]; exact hlt), HT.out, take_snoc hx]
        simp
      case measure => simp [intOf]; omega
    · go_wp2
      go_ret
      have : k = xs.length := by omega
      subst this
      have e : cs = xs.map (Value.int .i64) := by
        have := HT.out
        rwa [take_all (by rw [HC.out]; exact Nat.le_refl _), take_all (Nat.le_refl _)] at this
      subst e
      exact ⟨_, _, rfl, OwnC.of_own hown (Nat.le_refl _), hb⟩

theorem laws_eqInt64S (A B : Option Addr) (c d : Nat) (xs ys : List Int) (w : World) (h : Ints w A xs) (h' : Ints w B ys) (hl : xs.length ≤ 9223372036854775807) (_hl' : ys.length ≤ 9223372036854775807) :
    Calls Try.prog 21 #[.slice A xs.length c, .slice B ys.length d] w fun e w' => e = .returned (.bool (decide (xs = ys))) ∧ ∃ n, w' = w.drewN n := by
  by_cases hle : xs.length = ys.length
  · have HL := Lib.hid hle
    have hle' : ((xs.length : Int) != (ys.length : Int)) = false := by simp [hle]
    clear hle
    go_enter Try.func21, Try.ntmps21
    go_wp2
    go_loopw [5] (fun i wr => ∃ (k : Nat), k ≤ xs.length ∧ i = .int .i64 k ∧ xs.take k = ys.take k ∧ ∃ n, wr = w.drewN n) (fun i _ => xs.length - (intOf i).toNat)
    case atStart => exact ⟨0, Nat.zero_le _, rfl, rfl, 0, rfl⟩
    case round =>
      obtain ⟨k, hk, rfl, htk, n, rfl⟩ := hrel
      have HT := Lib.hid htk; clear htk
      by_cases hlt : k < xs.length
      · have hlt' : k < ys.length := by rw [← HL.out]; exact hlt
        obtain ⟨b, off, x, rfl, hc, hx⟩ := h k hlt
        obtain ⟨b', off', y, rfl, hc', hy⟩ := h' k hlt'
        by_cases hxy : x = y
        · subst hxy
          go_wp2
          go_quiet (fail)
          go_wp2
          go_roundw
          case rel => exact ⟨k + 1, by omega, by go_num, by rw [take_snoc hx, take_snoc hy, HT.out], (by first | exact drew2 _ _ _ | exact ⟨_, rfl⟩)⟩
          case measure => simp [intOf]; omega
        · have hxy' : (x != y) = true := by simpa using hxy
          go_wp2
          go_quiet (fail)
          go_wp2
          go_ret
          exact ⟨ret_bool (by simpa using ne_of_getElem? hx hy hxy), (by first | exact drew2 _ _ _ | exact ⟨_, rfl⟩)⟩
      · go_wp2
        go_ret
        have : k = xs.length := by omega
        subst this
        have e := HT.out
        rw [take_all (Nat.le_refl _), take_all (by rw [HL.out]; exact Nat.le_refl _)] at e
        exact ⟨ret_bool (by simpa using e), _, rfl⟩
  · have hle' : ((xs.length : Int) != (ys.length : Int)) = true := by simp; omega
    go_enter Try.func21, Try.ntmps21
    go_wp2
    go_ret
    exact ⟨ret_bool (by simp; intro e; exact hle (by rw [e])), 0, rfl⟩

theorem spec_l00In (n lo hi : Int) (w : World) : Calls Try.prog 66 #[.int .i64 n, .int .i64 lo, .int .i64 hi] w fun e w' => e = .returned (.bool (inR n lo hi)) ∧ w = w' := by
  unfold inR
  by_cases h1 : lo ≤ n
  · go_enter Try.func66, Try.ntmps66
    go_wp2
    go_ret
    exact ⟨by simp [h1], rfl⟩
  · go_enter Try.func66, Try.ntmps66
    go_wp2
    go_ret
    exact ⟨by simp; omega, rfl⟩

theorem impl_within (n lo hi : Int) (w : World) : Calls Try.prog 69 #[.int .i64 n, .int .i64 lo, .int .i64 hi] w fun e w' => e = .returned (.bool (inR n lo hi)) ∧ w = w' := by
  unfold inR
  by_cases h1 : lo ≤ n
  · go_enter Try.func69, Try.ntmps69
    go_wp2
    go_ret
    exact ⟨by simp [h1], rfl⟩
  · go_enter Try.func69, Try.ntmps69
    go_wp2
    go_ret
    exact ⟨by simp; omega, rfl⟩

theorem laws_szInt64S (A : Option Addr) (n c : Nat) (l : Int) (w : World) (hl : n ≤ 9223372036854775807) (h0 : 0 ≤ l) (h1 : l ≤ 1048576) : Calls Try.prog 79 #[.slice A n c, .int .i64 l] w fun e w' => e = .returned (.int .i64 (szLeft l n)) ∧ w = w' := by
  by_cases h : l < n
  · go_enter Try.func79, Try.ntmps79
    go_wp2
    go_ret
    exact ⟨ret_int (by rw [szLeft, if_pos (by assumption)]), rfl⟩
  · go_enter Try.func79, Try.ntmps79
    go_wp2
    go_ret
    exact ⟨ret_int (by rw [szLeft, if_neg (by omega)]), rfl⟩

theorem spec_l17Sum (A : Option Addr) (c : Nat) (xs : List Int) (w : World) (h : Ints w A xs) (hl : xs.length ≤ 9223372036854775807) : Calls Try.prog 116 #[.slice A xs.length c] w fun e w' => e = .returned (.int .i64 (sum64 xs)) ∧ w = w' := by
  go_enter Try.func116, Try.ntmps116
  go_wp2
  go_loop [3, 4] (fun s i => ∃ k : Nat, k ≤ xs.length ∧ i = .int .i64 k ∧ s = .int .i64 (sum64 (xs.take k))) (fun _ i => xs.length - (intOf i).toNat)
  case atStart => exact ⟨0, Nat.zero_le _, rfl, rfl⟩
  case round =>
    obtain ⟨k, hk, rfl, rfl⟩ := hrel
    by_cases hlt : k < xs.length
    · obtain ⟨b, off, x, rfl, hc, hx⟩ := h k hlt
      have HX := Lib.hid hx; clear hx
      go_wp2
      go_round
      case rel => exact ⟨k + 1, by omega, by go_num, by rw [take_snoc HX.out, sum64_snoc]⟩
      case measure => simp [intOf]; omega
    · go_wp2
      go_ret
      exact ⟨ret_int (by rw [take_all (by omega)]), rfl⟩

theorem impl_sumOf (A : Option Addr) (c : Nat) (xs : List Int) (w : World) (h : Ints w A xs) (hl : xs.length ≤ 9223372036854775807) : Calls Try.prog 124 #[.slice A xs.length c] w fun e w' => e = .returned (.int .i64 (sum64 xs)) ∧ w = w' := by
  go_enter Try.func124, Try.ntmps124
  go_wp2
  go_loop [3, 8] (fun s i => ∃ k : Nat, k ≤ xs.length ∧ i = .int .i64 k ∧ s = .int .i64 (sum64 (xs.take k))) (fun _ i => xs.length - (intOf i).toNat)
  case atStart => exact ⟨0, Nat.zero_le _, rfl, rfl⟩
  case round =>
    obtain ⟨k, hk, rfl, rfl⟩ := hrel
    by_cases hlt : k < xs.length
    · obtain ⟨b, off, x, rfl, hc, hx⟩ := h k hlt
      have HX := Lib.hid hx; clear hx
      go_wp2
      go_round
      case rel => exact ⟨k + 1, by omega, by go_num, by rw [take_snoc HX.out, sum64_snoc]⟩
      case measure => simp [intOf]; omega
    · go_wp2
      go_ret
      exact ⟨ret_int (by rw [take_all (by omega)]), rfl⟩

theorem impl_isStitch (n : Int) (w : World) : Calls Try.prog 143 #[.int .i64 n] w fun e w' => e = .returned (.bool (isStitchB n)) ∧ w = w' := by
  go_enter Try.func143, Try.ntmps143
  go_wp2_with (first | (refine (impl_within _ _ _ _).mono ?_; rintro e w' ⟨rfl, rfl⟩) | (refine (spec_l00In _ _ _ _).mono ?_; rintro e w' ⟨rfl, rfl⟩))
  go_ret
  exact ⟨rfl, rfl⟩

theorem spec_l14Kind (n : Int) (w : World) : Calls Try.prog 102 #[.int .i64 n] w fun e w' => e = .returned (.bool (isStitchB n)) ∧ w = w' := by
  go_enter Try.func102, Try.ntmps102
  go_wp2_with (first | (refine (impl_within _ _ _ _).mono ?_; rintro e w' ⟨rfl, rfl⟩) | (refine (spec_l00In _ _ _ _).mono ?_; rintro e w' ⟨rfl, rfl⟩))
  go_ret
  exact ⟨rfl, rfl⟩

theorem impl_isCarrier (n : Int) (w : World) : Calls Try.prog 121 #[.int .i64 n] w fun e w' => e = .returned (.bool (carrierB n)) ∧ w = w' := by
  go_enter Try.func121, Try.ntmps121
  go_wp2_with (first | (refine (impl_within _ _ _ _).mono ?_; rintro e w' ⟨rfl, rfl⟩) | (refine (spec_l00In _ _ _ _).mono ?_; rintro e w' ⟨rfl, rfl⟩))
  go_ret
  exact ⟨rfl, rfl⟩

theorem spec_l07Yarn (n : Int) (w : World) : Calls Try.prog 91 #[.int .i64 n] w fun e w' => e = .returned (.bool (carrierB n)) ∧ w = w' := by
  go_enter Try.func91, Try.ntmps91
  go_wp2_with (first | (refine (impl_within _ _ _ _).mono ?_; rintro e w' ⟨rfl, rfl⟩) | (refine (spec_l00In _ _ _ _).mono ?_; rintro e w' ⟨rfl, rfl⟩))
  go_ret
  exact ⟨rfl, rfl⟩

theorem impl_isDirection (n : Int) (w : World) : Calls Try.prog 120 #[.int .i64 n] w fun e w' => e = .returned (.bool (dirB n)) ∧ w = w' := by
  unfold dirB
  by_cases h1 : n = 1
  · subst h1
    go_enter Try.func120, Try.ntmps120
    go_wp2
    go_ret
    exact ⟨rfl, rfl⟩
  · go_enter Try.func120, Try.ntmps120
    go_wp2
    go_ret
    exact ⟨by simp, rfl⟩

theorem impl_areStacks_1 (n : Int) (w : World) : Calls Try.prog 149 #[.int .i64 n] w fun e w' => e = .returned (.bool (!inR n 1 4)) ∧ w = w' := by
  go_enter Try.func149, Try.ntmps149
  go_wp2_with (refine (impl_within _ _ _ _).mono ?_; rintro e w' ⟨rfl, rfl⟩)
  go_ret
  exact ⟨rfl, rfl⟩

theorem impl_areStitches_1 (n : Int) (w : World) : Calls Try.prog 148 #[.int .i64 n] w fun e w' => e = .returned (.bool (!isStitchB n)) ∧ w = w' := by
  go_enter Try.func148, Try.ntmps148
  go_wp2_with (refine (impl_isStitch _ _).mono ?_; rintro e w' ⟨rfl, rfl⟩)
  go_ret
  exact ⟨rfl, rfl⟩

theorem indexFunc_impl_areStacks_1 (A : Option Addr) (c : Nat) (xs : List Int) (w : World) (h : Ints w A xs) (hl : xs.length ≤ 9223372036854775807) : Calls Try.prog 144 #[.slice A xs.length c, .func (.func 149) #[] #[]] w fun e w' => AnyInt (fun k => decide (0 ≤ k) = xs.any (fun n => !inR n 1 4) ∧ k ≤ 9223372036854775807) e ∧ w = w' := by
  go_enter Try.func144, Try.ntmps144
  go_wp2
  go_loop [8] (fun i => ∃ k : Nat, k ≤ xs.length ∧ i = .int .i64 k ∧ (xs.take k).any (fun n => !inR n 1 4) = false) (fun i => xs.length - (intOf i).toNat)
  case atStart => exact ⟨0, Nat.zero_le _, rfl, rfl⟩
  case round =>
    obtain ⟨k, hk, rfl, ha⟩ := hrel
    have HA := Lib.hid ha; clear ha
    by_cases hlt : k < xs.length
    · obtain ⟨b, off, x, rfl, hc, hx⟩ := h k hlt
      have HX := Lib.hid hx; clear hx
      go_wp2_with (refine (impl_areStacks_1 _ _).mono ?_; rintro e w' ⟨rfl, rfl⟩)
      · have hq : ((fun n => !inR n 1 4) x) = true := by assumption
        go_ret
        refine ⟨⟨_, rfl, ?_, by omega⟩, rfl⟩
        rw [any_true_at HX.out hq]
        simp
      · have hq : ((fun n => !inR n 1 4) x) = false := by assumption
        go_round
        case rel => exact ⟨k + 1, by omega, by go_num, by rw [take_snoc HX.out, List.any_append, HA.out]; simpa using hq⟩
        case measure => simp [intOf]; omega
    · go_wp2
      go_ret
      refine ⟨⟨_, rfl, ?_, by omega⟩, rfl⟩
      have := HA.out
      rw [take_all (by omega)] at this
      rw [this]
      rfl

theorem indexFunc_impl_areStitches_1 (A : Option Addr) (c : Nat) (xs : List Int) (w : World) (h : Ints w A xs) (hl : xs.length ≤ 9223372036854775807) : Calls Try.prog 144 #[.slice A xs.length c, .func (.func 148) #[] #[]] w fun e w' => AnyInt (fun k => decide (0 ≤ k) = xs.any (fun n => !isStitchB n) ∧ k ≤ 9223372036854775807) e ∧ w = w' := by
  go_enter Try.func144, Try.ntmps144
  go_wp2
  go_loop [8] (fun i => ∃ k : Nat, k ≤ xs.length ∧ i = .int .i64 k ∧ (xs.take k).any (fun n => !isStitchB n) = false) (fun i => xs.length - (intOf i).toNat)
  case atStart => exact ⟨0, Nat.zero_le _, rfl, rfl⟩
  case round =>
    obtain ⟨k, hk, rfl, ha⟩ := hrel
    have HA := Lib.hid ha; clear ha
    by_cases hlt : k < xs.length
    · obtain ⟨b, off, x, rfl, hc, hx⟩ := h k hlt
      have HX := Lib.hid hx; clear hx
      go_wp2_with (refine (impl_areStitches_1 _ _).mono ?_; rintro e w' ⟨rfl, rfl⟩)
      · have hq : ((fun n => !isStitchB n) x) = true := by assumption
        go_ret
        refine ⟨⟨_, rfl, ?_, by omega⟩, rfl⟩
        rw [any_true_at HX.out hq]
        simp
      · have hq : ((fun n => !isStitchB n) x) = false := by assumption
        go_round
        case rel => exact ⟨k + 1, by omega, by go_num, by rw [take_snoc HX.out, List.any_append, HA.out]; simpa using hq⟩
        case measure => simp [intOf]; omega
    · go_wp2
      go_ret
      refine ⟨⟨_, rfl, ?_, by omega⟩, rfl⟩
      have := HA.out
      rw [take_all (by omega)] at this
      rw [this]
      rfl

theorem containsFunc_impl_areStacks_1 (A : Option Addr) (c : Nat) (xs : List Int) (w : World) (h : Ints w A xs) (hl : xs.length ≤ 9223372036854775807) : Calls Try.prog 109 #[.slice A xs.length c, .func (.func 149) #[] #[]] w fun e w' => e = .returned (.bool (xs.any (fun n => !inR n 1 4))) ∧ w = w' := by
  go_enter Try.func109, Try.ntmps109
  go_wp2_with (refine (indexFunc_impl_areStacks_1 _ _ _ _ h hl).mono ?_; rintro e w' ⟨⟨k, rfl, hk, hk'⟩, rfl⟩)
  go_ret
  exact ⟨rfl, rfl⟩

theorem containsFunc_impl_areStitches_1 (A : Option Addr) (c : Nat) (xs : List Int) (w : World) (h : Ints w A xs) (hl : xs.length ≤ 9223372036854775807) : Calls Try.prog 109 #[.slice A xs.length c, .func (.func 148) #[] #[]] w fun e w' => e = .returned (.bool (xs.any (fun n => !isStitchB n))) ∧ w = w' := by
  go_enter Try.func109, Try.ntmps109
  go_wp2_with (refine (indexFunc_impl_areStitches_1 _ _ _ _ h hl).mono ?_; rintro e w' ⟨⟨k, rfl, hk, hk'⟩, rfl⟩)
  go_ret
  exact ⟨rfl, rfl⟩

theorem impl_areStacks (A : Option Addr) (c : Nat) (xs : List Int) (w : World) (h : Ints w A xs) (hl : xs.length ≤ 9223372036854775807) : Calls Try.prog 123 #[.slice A xs.length c] w fun e w' => e = .returned (.bool (stacksB xs)) ∧ w = w' := by
  by_cases h8 : xs.length ≤ 8
  · have h8' : decide ((xs.length : Int) ≤ 8) = true := by simp; omega
    go_enter Try.func123, Try.ntmps123
    go_wp2_with (refine (containsFunc_impl_areStacks_1 _ _ _ _ h hl).mono ?_; rintro e w' ⟨rfl, rfl⟩)
    go_ret
    exact ⟨ret_bool (by rw [stacksB]; simp [h8, List.all_eq_not_any_not]), rfl⟩
  · have h8' : decide ((xs.length : Int) ≤ 8) = false := by simp; omega
    go_enter Try.func123, Try.ntmps123
    go_wp2_with (fail)
    go_ret
    exact ⟨ret_bool (by rw [stacksB]; simp [h8]), rfl⟩

theorem impl_areStitches (A : Option Addr) (c : Nat) (xs : List Int) (w : World) (h : Ints w A xs) (hl : xs.length ≤ 9223372036854775807) : Calls Try.prog 122 #[.slice A xs.length c] w fun e w' => e = .returned (.bool (stitchesB xs)) ∧ w = w' := by
  by_cases h8 : xs.length ≤ 16
  · have h8' : decide ((xs.length : Int) ≤ 16) = true := by simp; omega
    go_enter Try.func122, Try.ntmps122
    go_wp2_with (refine (containsFunc_impl_areStitches_1 _ _ _ _ h hl).mono ?_; rintro e w' ⟨rfl, rfl⟩)
    go_ret
    exact ⟨ret_bool (by rw [stitchesB]; simp [h8, List.all_eq_not_any_not]), rfl⟩
  · have h8' : decide ((xs.length : Int) ≤ 16) = false := by simp; omega
    go_enter Try.func122, Try.ntmps122
    go_wp2_with (fail)
    go_ret
    exact ⟨ret_bool (by rw [stitchesB]; simp [h8]), rfl⟩

theorem spec_l14Stacks (A : Option Addr) (c : Nat) (xs : List Int) (w : World) (h : Ints w A xs) (hl : xs.length ≤ 9223372036854775807) : Calls Try.prog 115 #[.slice A xs.length c] w fun e w' => e = .returned (.bool (stacksB xs)) ∧ w = w' := by
  go_enter Try.func115, Try.ntmps115
  go_wp2
  go_loop [3] (fun i => ∃ k : Nat, k ≤ xs.length ∧ i = .int .i64 k ∧ (xs.take k).all (fun n => inR n 1 4) = true) (fun i => xs.length - (intOf i).toNat)
  case atStart => exact ⟨0, Nat.zero_le _, rfl, rfl⟩
  case round =>
    obtain ⟨k, hk, rfl, ha⟩ := hrel
    have HA := Lib.hid ha; clear ha
    by_cases hlt : k < xs.length
    · obtain ⟨b, off, x, rfl, hc, hx⟩ := h k hlt
      have HX := Lib.hid hx; clear hx
      go_wp2_with (refine (spec_l00In _ _ _ _).mono ?_; rintro e w' ⟨rfl, rfl⟩)
      · have hq : ((fun n => inR n 1 4) x) = false := by simpa using (show (!((fun n => inR n 1 4) x)) = true by assumption)
        go_ret
        exact ⟨ret_bool (by rw [stacksB, all_false_at HX.out hq]; rfl), rfl⟩
      · have hq : ((fun n => inR n 1 4) x) = true := by simpa using (show (!((fun n => inR n 1 4) x)) = false by assumption)
        go_round
        case rel => exact ⟨k + 1, by omega, by go_num, by rw [take_snoc HX.out, List.all_append, HA.out]; simpa using hq⟩
        case measure => simp [intOf]; omega
    · have ha := HA.out
      rw [take_all (by omega)] at ha
      go_wp2
      go_ret
      exact ⟨ret_bool (by rw [stacksB, ha]; simp; constructor <;> intro <;> omega), rfl⟩

theorem spec_l14Ok (A : Option Addr) (c : Nat) (xs : List Int) (w : World) (h : Ints w A xs) (hl : xs.length ≤ 9223372036854775807) : Calls Try.prog 114 #[.slice A xs.length c] w fun e w' => e = .returned (.bool (stitchesB xs)) ∧ w = w' := by
  go_enter Try.func114, Try.ntmps114
  go_wp2
  go_loop [3] (fun i => ∃ k : Nat, k ≤ xs.length ∧ i = .int .i64 k ∧ (xs.take k).all isStitchB = true) (fun i => xs.length - (intOf i).toNat)
  case atStart => exact ⟨0, Nat.zero_le _, rfl, rfl⟩
  case round =>
    obtain ⟨k, hk, rfl, ha⟩ := hrel
    have HA := Lib.hid ha; clear ha
    by_cases hlt : k < xs.length
    · obtain ⟨b, off, x, rfl, hc, hx⟩ := h k hlt
      have HX := Lib.hid hx; clear hx
      go_wp2_with (refine (spec_l14Kind _ _).mono ?_; rintro e w' ⟨rfl, rfl⟩)
      · have hq : (isStitchB x) = false := by simpa using (show (!(isStitchB x)) = true by assumption)
        go_ret
        exact ⟨ret_bool (by rw [stitchesB, all_false_at HX.out hq]; rfl), rfl⟩
      · have hq : (isStitchB x) = true := by simpa using (show (!(isStitchB x)) = false by assumption)
        go_round
        case rel => exact ⟨k + 1, by omega, by go_num, by rw [take_snoc HX.out, List.all_append, HA.out]; simpa using hq⟩
        case measure => simp [intOf]; omega
    · have ha := HA.out
      rw [take_all (by omega)] at ha
      go_wp2
      go_ret
      exact ⟨ret_bool (by rw [stitchesB, ha]; simp; constructor <;> intro <;> omega), rfl⟩

theorem impl_ValidSizes (A : Option Addr) (c : Nat) (xs : List Int) (w : World) (h : Ints w A xs) (hl : xs.length ≤ 9223372036854775807) : Calls Try.prog 86 #[.slice A xs.length c] w fun e w' => e = .returned (.bool (sizesB xs)) ∧ w = w' := by
  by_cases h0 : 0 < xs.length
  · have h0' : decide ((0 : Int) < xs.length) = true := by simp; omega
    have h0'' : decide ((1 : Int) ≤ xs.length) = true := by simp; omega
    by_cases hs : stacksB xs = true
    · go_enter Try.func86, Try.ntmps86
      go_wp2_with (first | (refine (impl_areStacks _ _ _ _ h hl).mono ?_; rintro e w' ⟨rfl, rfl⟩) | (refine (impl_sumOf _ _ _ _ h hl).mono ?_; rintro e w' ⟨rfl, rfl⟩))
      go_ret
      exact ⟨ret_bool (by simp [sizesB, h0, hs]), rfl⟩
    · have hs' : stacksB xs = false := by simpa using hs
      go_enter Try.func86, Try.ntmps86
      go_wp2_with (first | (refine (impl_areStacks _ _ _ _ h hl).mono ?_; rintro e w' ⟨rfl, rfl⟩) | (refine (impl_sumOf _ _ _ _ h hl).mono ?_; rintro e w' ⟨rfl, rfl⟩))
      go_ret
      exact ⟨ret_bool (by simp [sizesB, hs']), rfl⟩
  · have h0' : decide ((0 : Int) < xs.length) = false := decide_eq_false (by omega)
    have h0'' : decide ((1 : Int) ≤ xs.length) = false := decide_eq_false (by omega)
    go_enter Try.func86, Try.ntmps86
    go_wp2_with (fail)
    go_ret
    exact ⟨ret_bool (by simp [sizesB, h0]), rfl⟩

theorem spec_l17Ok (A : Option Addr) (c : Nat) (xs : List Int) (w : World) (h : Ints w A xs) (hl : xs.length ≤ 9223372036854775807) : Calls Try.prog 81 #[.slice A xs.length c] w fun e w' => e = .returned (.bool (sizesB xs)) ∧ w = w' := by
  by_cases h0 : 0 < xs.length
  · have h0' : decide ((0 : Int) < xs.length) = true := by simp; omega
    have h0'' : decide ((1 : Int) ≤ xs.length) = true := by simp; omega
    by_cases hs : stacksB xs = true
    · go_enter Try.func81, Try.ntmps81
      go_wp2_with (first | (refine (spec_l14Stacks _ _ _ _ h hl).mono ?_; rintro e w' ⟨rfl, rfl⟩) | (refine (spec_l17Sum _ _ _ _ h hl).mono ?_; rintro e w' ⟨rfl, rfl⟩))
      go_ret
      exact ⟨ret_bool (by simp [sizesB, h0, hs]), rfl⟩
    · have hs' : stacksB xs = false := by simpa using hs
      go_enter Try.func81, Try.ntmps81
      go_wp2_with (first | (refine (spec_l14Stacks _ _ _ _ h hl).mono ?_; rintro e w' ⟨rfl, rfl⟩) | (refine (spec_l17Sum _ _ _ _ h hl).mono ?_; rintro e w' ⟨rfl, rfl⟩))
      go_ret
      exact ⟨ret_bool (by simp [sizesB, hs']), rfl⟩
  · have h0' : decide ((0 : Int) < xs.length) = false := decide_eq_false (by omega)
    have h0'' : decide ((1 : Int) ≤ xs.length) = false := decide_eq_false (by omega)
    go_enter Try.func81, Try.ntmps81
    go_wp2_with (fail)
    go_ret
    exact ⟨ret_bool (by simp [sizesB, h0]), rfl⟩


end Go.Proofs.Ytfgbhhkmdeljoaa
