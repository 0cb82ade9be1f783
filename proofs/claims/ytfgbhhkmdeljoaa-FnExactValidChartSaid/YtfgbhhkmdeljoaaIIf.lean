/- Slices of slices of numbers: the helpers of the laws. -/
import Derived.Test.YtfgbhhkmdeljoaaII
namespace Go.Proofs.Ytfgbhhkmdeljoaa
open Go.RowKit

def Drawn (w wr : World) : Prop := ∃ n, wr = w.drewN n
theorem Drawn.refl (w : World) : Drawn w w := ⟨0, rfl⟩
theorem Drawn.drewN {w wr : World} (h : Drawn w wr) (k : Nat) : Drawn w (wr.drewN k) := by
  obtain ⟨n, rfl⟩ := h
  exact ⟨n + k, by simp⟩
theorem Drawn.cells {w wr : World} (h : Drawn w wr) : ∀ a v, w.cell? a = some v → wr.cell? a = some v := by
  obtain ⟨n, rfl⟩ := h
  exact fun _ _ h => h

set_option maxHeartbeats 1000000 in
theorem laws_eqInt64SS (xss yss : List (List Int)) (A B : Option Addr) (c d : Nat) (w : World) (h : Ints2 w A xss) (h' : Ints2 w B yss) (hl : xss.length ≤ 1000000000000) (_hl' : yss.length ≤ 1000000000000) :
    Calls Try.prog 27 #[.slice A xss.length c, .slice B yss.length d] w fun e w' => e = .returned (.bool (decide (xss = yss))) ∧ Below w.heap.size w w' := by
  refine Calls.mono (R := fun e w' => e = .returned (.bool (decide (xss = yss))) ∧ ∃ n, w' = w.drewN n) ?_ fun e w' ⟨h1, n, h2⟩ => ⟨h1, by subst h2; exact below_drewN (Below.refl _ _) _⟩
  by_cases hle : xss.length = yss.length
  · have HL := Lib.hid hle
    have hle' : ((xss.length : Int) != (yss.length : Int)) = false := by simp [hle]
    clear hle
    go_enter Try.func27, Try.ntmps27
    go_wp2
    go_loopw [5] (fun i wr => ∃ (k : Nat), k ≤ xss.length ∧ i = .int .i64 k ∧ xss.take k = yss.take k ∧ Drawn w wr) (fun i _ => xss.length - (intOf i).toNat)
    case atStart => exact ⟨0, Nat.zero_le _, rfl, rfl, Drawn.refl _⟩
    case round =>
      obtain ⟨k, hk, rfl, htk, hdr⟩ := hrel
      have HT := Lib.hid htk; clear htk
      by_cases hlt : k < xss.length
      · have hlt' : k < yss.length := by rw [← HL.out]; exact hlt
        obtain ⟨b, off, A1, c1, xs, rfl, hx, hc, hi, hxl⟩ := (h.of_cells hdr.cells) k hlt
        obtain ⟨b', off', A2, c2, ys, rfl, hy, hc', hi', hyl⟩ := (h'.of_cells hdr.cells) k hlt'
        have HX := Lib.hid hx; clear hx
        have HY := Lib.hid hy; clear hy
        have j1 : (0 : Int) ≤ (k : Int) := by omega
        have j2 : (k : Int) < (xss.length : Int) := by omega
        have j3 : (k : Int) < (yss.length : Int) := by omega
        by_cases hxy : xs = ys
        · subst hxy
          go_wp2_with (fail)
          go_quiet ((go_at_call 21; exact Calls.quiet_of (laws_eqInt64S _ _ _ _ _ _ _ hi hi' hxl hyl)))
          go_wp2_with (fail)
          go_roundw
          case rel => exact ⟨k + 1, by omega, by go_num, by rw [take_snoc HX.out, take_snoc HY.out, HT.out], hdr.drewN _⟩
          case measure => simp [intOf]; omega
        · have hxy' : decide (xs = ys) = false := decide_eq_false hxy
          go_wp2_with (fail)
          go_quiet ((go_at_call 21; exact Calls.quiet_of (laws_eqInt64S _ _ _ _ _ _ _ hi hi' hxl hyl)))
          go_wp2_with (fail)
          go_ret
          exact ⟨ret_bool (by simpa using ne_of_getElem? HX.out HY.out hxy), hdr.drewN _⟩
      · go_wp2_with (fail)
        go_ret
        have : k = xss.length := by omega
        subst this
        have e := HT.out
        rw [take_all (Nat.le_refl _), take_all (by rw [HL.out]; exact Nat.le_refl _)] at e
        exact ⟨ret_bool (by simpa using e), hdr⟩
  · have hle' : ((xss.length : Int) != (yss.length : Int)) = true := by simp; omega
    go_enter Try.func27, Try.ntmps27
    go_wp2
    go_ret
    exact ⟨ret_bool (by simp; intro e; exact hle (by rw [e])), 0, rfl⟩

def marksII (k : Int) : List (List Int) → List (List Int)
  | [] => []
  | xs :: r => marksI k xs.length :: marksII (k + xs.length) r
theorem marksII_length (k : Int) (xss : List (List Int)) : (marksII k xss).length = xss.length := by
  induction xss generalizing k with
  | nil => rfl
  | cons x r ih => simp [marksII, ih]
theorem marksII_append (k : Int) (a b : List (List Int)) : marksII k (a ++ b) = marksII k a ++ marksII (k + cntII a) b := by
  induction a generalizing k with
  | nil => simp [marksII, cntII]
  | cons x r ih => simp [marksII, cntII, ih, Int.add_assoc]
theorem marksII_snoc {k : Int} {xss : List (List Int)} {j : Nat} {xs : List Int} (h : xss[j]? = some xs) : marksII k (xss.take (j + 1)) = marksII k (xss.take j) ++ [marksI (k + cntII (xss.take j)) xs.length] := by
  rw [take_snoc h, marksII_append]; simp [marksII]
theorem marksII_at {k : Int} {xss : List (List Int)} {j : Nat} {xs : List Int} (h : xss[j]? = some xs) : (marksII k xss)[j]? = some (marksI (k + cntII (xss.take j)) xs.length) := by
  obtain ⟨hj, rfl⟩ := List.getElem?_eq_some_iff.1 h
  have e : xss = xss.take j ++ xss[j] :: xss.drop (j + 1) := by rw [List.getElem_cons_drop, List.take_append_drop]
  have hlen : (marksII k (xss.take j)).length = j := by rw [marksII_length, List.length_take]; omega
  have e2 := congrArg (fun l => (marksII k l)[j]?) e
  rw [e2, marksII_append, List.getElem?_append_right (by omega), hlen]
  simp [marksII]

set_option maxHeartbeats 1000000 in
theorem laws_markInt64SS (xss : List (List Int)) (A : Option Addr) (c : Nat) (k0 : Int) (lo hi : Nat) (w : World) (h : OwnII w lo hi A xss.length c xss) (hk0 : 0 ≤ k0) (hk1 : k0 + cntII xss ≤ 1000000000000) :
    Calls Try.prog 28 #[.slice A xss.length c, .int .i64 k0] w fun e w' => e = .returned (.int .i64 (k0 + cntII xss)) ∧ OwnII w' lo hi A xss.length c (marksII k0 xss) ∧ Upd lo hi w w' := by
  have hlen : xss.length ≤ 9223372036854775807 := by obtain ⟨cs, h1, _⟩ := h.ex; exact h1.maxc
  go_enter Try.func28, Try.ntmps28
  go_wp2
  go_loopw [1, 5] (fun kv i wr => ∃ (k : Nat), k ≤ xss.length ∧ i = .int .i64 k ∧ kv = .int .i64 (k0 + cntII (xss.take k)) ∧ OwnII wr lo hi A xss.length c (marksII k0 (xss.take k) ++ xss.drop k) ∧ Upd lo hi w wr) (fun _ i _ => xss.length - (intOf i).toNat)
  case atStart => exact ⟨0, Nat.zero_le _, rfl, by simp [cntII], by simpa [marksII] using h, Upd.refl _ _ _⟩
  case round =>
    clear h
    obtain ⟨k, hk, rfl, rfl, ho, hu⟩ := hrel
    by_cases hlt : k < xss.length
    · have hx : xss[k]? = some xss[k] := List.getElem?_eq_getElem hlt
      generalize xss[k] = xs at hx
      have hml : (marksII k0 (xss.take k)).length = k := by rw [marksII_length, List.length_take]; omega
      have hx2 : (marksII k0 (xss.take k) ++ xss.drop k)[k]? = some xs := by
        rw [List.getElem?_append_right (by omega), hml, drop_cons hx]; simp
      obtain ⟨g, A', c', l, h', rfl, hc, hin, hxl, hset⟩ := ho.open_ hx2
      have HS := Lib.hid (cntII_snoc hx)
      have hat := cntII_at hx
      have HM := Lib.hid (marksII_snoc (k := k0) hx)
      have HX := Lib.hid hx; clear hx
      have HX2 := Lib.hid hx2; clear hx2
      have HML := Lib.hid hml; clear hml
      go_wp2_with (fail)
      refine (laws_markInt64S A' c' xs (k0 + cntII (xss.take k)) l h' _ hin (by omega) (by omega)).mono ?_; rintro e w2 ⟨rfl, o2, u2⟩
      obtain ⟨ho2, hu2⟩ := hset w2 (marksI (k0 + cntII (xss.take k)) xs.length) (marksI_length _ _) u2 o2
      go_wp2_with (fail)
      go_roundw
      case rel =>
        refine ⟨k + 1, by omega, by go_num, int_eq (by rw [HS.out]; omega), ?_, hu.trans hu2⟩
        have e : (marksII k0 (xss.take k) ++ xss.drop k).set k (marksI (k0 + cntII (xss.take k)) xs.length) = marksII k0 (xss.take (k + 1)) ++ xss.drop (k + 1) := by
          rw [HM.out, List.set_append_right _ _ (by rw [HML.out]; exact Nat.le_refl _), HML.out, drop_cons HX.out]
          simp
        rw [← e]
        exact ho2
      case measure => simp [intOf]; omega
    · go_wp2
      go_ret
      have : k = xss.length := by omega
      subst this
      rw [take_all (Nat.le_refl _), drop_all (Nat.le_refl _)] at ho
      exact ⟨ret_int (by rw [take_all (Nat.le_refl _)]), by simpa using ho, hu⟩

theorem laws_heldInt64SS (A : Option Addr) (c : Nat) (xss : List (List Int)) (k0 : Int) (w : World) (h : Ints2 w A (marksII k0 xss)) (hk0 : 0 ≤ k0) (hk1 : k0 + cntII xss ≤ 1000000000000) (hl : xss.length ≤ 1000000000000) :
    Calls Try.prog 29 #[.slice A xss.length c, .int .i64 k0] w fun e w' => e = .returned (.int .i64 (k0 + cntII xss)) ∧ w = w' := by
  go_enter Try.func29, Try.ntmps29
  go_wp2
  go_loop [1, 5] (fun kv i => ∃ (k : Nat), k ≤ xss.length ∧ i = .int .i64 k ∧ kv = .int .i64 (k0 + cntII (xss.take k))) (fun _ i => xss.length - (intOf i).toNat)
  case atStart => exact ⟨0, Nat.zero_le _, rfl, by simp [cntII]⟩
  case round =>
    obtain ⟨k, hk, rfl, rfl⟩ := hrel
    by_cases hlt : k < xss.length
    · have hx : xss[k]? = some xss[k] := List.getElem?_eq_getElem hlt
      generalize xss[k] = xs at hx
      obtain ⟨b, off, A', c', zs, rfl, hz, hc, hi, hzl⟩ := h k (by rw [marksII_length]; exact hlt)
      rw [marksII_at hx] at hz
      injection hz with hz
      subst hz
      rw [marksI_length] at hc
      have HS := Lib.hid (cntII_snoc hx)
      have hat := cntII_at hx
      clear hx
      go_wp2_with (refine (laws_heldInt64S _ _ _ _ _ hi (by omega) (by omega)).mono ?_; rintro e _ ⟨rfl, rfl⟩)
      go_round
      case rel => exact ⟨k + 1, by omega, by go_num, int_eq (by rw [HS.out]; omega)⟩
      case measure => simp [intOf]; omega
    · go_wp2
      go_ret
      have : k = xss.length := by omega
      subst this
      exact ⟨ret_int (by rw [take_all (Nat.le_refl _)]), rfl⟩

end Go.Proofs.Ytfgbhhkmdeljoaa
