/- Slices of slices of numbers: the helpers of the laws. -/
import Derived.Test.YtdnchjchgejkeaaII
namespace Go.Proofs.Ytdnchjchgejkeaa
open Go.RowKit

def Drawn (w wr : World) : Prop := ∃ n, wr = w.drewN n
theorem Drawn.refl (w : World) : Drawn w w := ⟨0, rfl⟩
theorem Drawn.drewN {w wr : World} (h : Drawn w wr) (k : Nat) : Drawn w (wr.drewN k) := by
  obtain ⟨n, rfl⟩ := h
  exact ⟨n + k, by simp⟩
theorem Drawn.cells {w wr : World} (h : Drawn w wr) : ∀ a v, w.cell? a = some v → wr.cell? a = some v := by
  obtain ⟨n, rfl⟩ := h
  exact fun _ _ h => h

set_option maxHeartbeats 1000000 in
theorem laws_szInt64SS (xss : List (List Int)) (A : Option Addr) (c : Nat) (l0 : Int) (w : World) (h : Ints2 w A xss) (hl : xss.length ≤ 9223372036854775807) (h0 : 0 ≤ l0) (h1 : l0 ≤ 1048576) :
    Calls Try.prog 103 #[.slice A xss.length c, .int .i64 l0] w fun e w' => e = .returned (.int .i64 (szLeft l0 (sizeII xss : Nat))) ∧ Below w.heap.size w w' := by
  by_cases hn : l0 < xss.length
  · have HF : Hid (szLeft l0 (sizeII xss : Nat) = -1) := Lib.hid (by rw [szLeft, if_pos]; unfold sizeII; omega)
    have hd : decide (l0 - (xss.length : Int) < 0) = true := decide_eq_true (by omega)
    go_enter Try.func103, Try.ntmps103
    go_wp2_with (fail)
    go_ret
    exact ⟨ret_int HF.out.symm, Below.refl _ _⟩
  · have hd : decide (l0 - (xss.length : Int) < 0) = false := decide_eq_false (by omega)
    go_enter Try.func103, Try.ntmps103
    go_wp2_with (fail)
    go_loop [1, 5] (fun lv i => ∃ (k : Nat), k ≤ xss.length ∧ i = .int .i64 k ∧ lv = .int .i64 (l0 - xss.length - (cntII (xss.take k) : Nat)) ∧ (cntII (xss.take k) : Nat) ≤ l0 - xss.length) (fun _ i => xss.length - (intOf i).toNat)
    case atStart => exact ⟨0, Nat.zero_le _, rfl, by simp [cntII], by simp [cntII]; omega⟩
    case round =>
      obtain ⟨k, hk, rfl, rfl, hle⟩ := hrel
      by_cases hlt : k < xss.length
      · obtain ⟨b, off, A', c', xs, rfl, hx, hc, hi, hxl⟩ := h k hlt
        have hs := cntII_snoc hx
        have hat := cntII_at hx
        have HS := Lib.hid hs; clear hs
        have HX := Lib.hid hx; clear hx
        by_cases hz : l0 - xss.length - (cntII (xss.take k) : Nat) < xs.length
        · have hsz : szLeft (l0 - xss.length - (cntII (xss.take k) : Nat)) xs.length = -1 := by rw [szLeft, if_pos hz]
          go_wp2_with (refine (laws_szInt64S _ _ _ _ _ hxl (by omega) (by omega)).mono ?_; rintro e _ ⟨rfl, rfl⟩)
          go_ret
          exact ⟨ret_int (by rw [szLeft, if_pos]; unfold sizeII; omega), Below.refl _ _⟩
        · have hsz : szLeft (l0 - xss.length - (cntII (xss.take k) : Nat)) xs.length = l0 - xss.length - (cntII (xss.take k) : Nat) - xs.length := by rw [szLeft, if_neg hz]
          have hd2 : decide (l0 - xss.length - (cntII (xss.take k) : Nat) - (xs.length : Int) < 0) = false := decide_eq_false (by omega)
          go_wp2_with (refine (laws_szInt64S _ _ _ _ _ hxl (by omega) (by omega)).mono ?_; rintro e _ ⟨rfl, rfl⟩)
          go_round
          case rel => exact ⟨k + 1, by omega, by go_num, int_eq (by rw [HS.out]; omega), by rw [HS.out]; omega⟩
          case measure => simp [intOf]; omega
      · go_wp2_with (fail)
        go_ret
        refine ⟨ret_int ?_, Below.refl _ _⟩
        rw [take_all (by omega)] at hle ⊢
        rw [szLeft, if_neg]
        · unfold sizeII; omega
        · unfold sizeII; omega

set_option maxHeartbeats 1000000 in
theorem laws_toInt64SS (xss : List (List Int)) (A : Option Addr) (c : Nat) (w : World) (h : Ints2 w A xss) (hl : sizeII xss ≤ 1048576) :
    Calls Try.prog 107 #[.slice A xss.length c] w fun e w' => ∃ A' c', e = .returned (.slice A' xss.length c') ∧ OwnII w' w.heap.size w'.heap.size A' xss.length c' xss ∧ Below w.heap.size w w' := by
  obtain ⟨i0, hi0, hz0, hz1, hz2⟩ := info_parts info_ints
  have hlen : xss.length ≤ 1048576 := by unfold sizeII at hl; omega
  go_enter Try.func107, Try.ntmps107
  go_wp2_with (refine wpList_make_full _ rfl (.tmp 6) (.tmp 6) _ rfl w.heap.size 29 i0 _ 1 Try.underlying33 hi0 hz0 hz1 .i64 .i64 _ _ xss.length rfl rfl rfl rfl (by rw [hz2]; omega) (by unfold maxLen; omega) (Nat.le_refl _) ?_; intro w1 hown hg)
  have hb1 : Below w.heap.size w w1 := (Below.refl _ _).grown hg (Nat.le_refl _) (by simp)
  go_loopw [4] (fun i wr => ∃ (k : Nat) (cs : List Value) (ds : List (List Int)), k ≤ xss.length ∧ i = .int .i64 k ∧ OwnC wr w.heap.size wr.heap.size 29 1 (some ⟨w.heap.size, 0, none⟩) xss.length xss.length cs ∧ CellsII wr (w.heap.size + 1) wr.heap.size cs ds ∧ ds.length = xss.length ∧ ds.take k = xss.take k ∧ Below w.heap.size w wr) (fun i _ => xss.length - (intOf i).toNat)
  case atStart =>
    refine ⟨0, _, List.replicate xss.length [], Nat.zero_le _, rfl, OwnC.of_own hown (Nat.le_refl _), ?_, by simp, by simp, hb1⟩
    have : (madeCells (Value.slice none 0 0).cells (xss.length * 1)).toList = List.replicate xss.length (Value.slice none 0 0) := by
      simp [madeCells, Value.cells, Nat.mod_one, List.map_const']
    rw [this]
    exact CellsII.nils
  case round =>
    clear hown hg hb1
    obtain ⟨k, cs, ds, hk, rfl, ho, hci, hdl, htk, hb⟩ := hrel
    have hcl : cs.length = xss.length * 1 := ho.len
    have HT := Lib.hid htk; clear htk
    have HC := Lib.hid hcl; clear hcl
    have HD := Lib.hid hdl; clear hdl
    by_cases hlt : k < xss.length
    · obtain ⟨b, off, A', c', xs, rfl, hx, hc, hi, hxl⟩ := h k hlt
      have hat := cntII_at hx
      have hxs : xs.length ≤ 1048576 := by unfold sizeII at hl; omega
      have HX := Lib.hid hx; clear hx
      replace hc := cells_below hb _ _ hc
      have hgl : w.heap.size < wr.heap.size := (ho.own.lt _ rfl).2
      have hzs := hb.size
      go_wp2_with (fail)
      refine (laws_toInt64S _ _ _ _ (hi.below hb) hxs).mono ?_; rintro e w2 ⟨A2, c2, rfl, o2, b2⟩
      have ho2 := ho.below b2 (Nat.le_refl _)
      have hci2 := hci.keep (w' := w2) fun k _ h2 _ => b2.block k (by omega)
      have hb2 := hb.trans (b2.mono hb.size)
      have hz2' := b2.size
      obtain ⟨_, hA0, _, _, q0, f0⟩ := ho2.cell (j := k) (by rw [HC.out]; omega)
      injection hA0 with hA0
      injection hA0 with hA0
      subst hA0
      go_wp2_with (fail)
      go_roundw
      case rel =>
        have hst := ho2.store (j := k) (Value.slice A2 xs.length c2)
        refine ⟨k + 1, cs.set k (.slice A2 xs.length c2), ds.set k xs, by omega, by go_num, ?_, ?_, by rw [List.length_set]; exact HD.out, ?_, by (repeat (first | exact Below.refl _ _ | assumption | apply Below.drew | apply below_drewN | (refine Below.alloc ?_ (by first | omega | (simp; done) | (simp; omega)) _) | (refine Below.setCell ?_ (by first | omega | (simp; done) | (simp; omega)) _)))⟩
        · exact hst.1.mono (Nat.le_refl _) (by simp; omega)
        · refine CellsII.keep (w := w2) ?_ fun q h1 h2 h3 => Below.heap_setCell w2 _ _ q (by show q ≠ w.heap.size; omega)
          exact CellsII.mono (hci2.set o2 (Nat.le_refl _) hz2' (by omega) (by rw [HD.out]; exact hlt)) (Nat.le_refl _) (by simp)
        · rw [take_set_succ _ _ _ (by rw [HD.out]; exact hlt), HT.out, take_snoc HX.out]
      case measure => simp [intOf]; omega
    · go_wp2
      go_ret
      have : k = xss.length := by omega
      subst this
      have e : ds = xss := by
        have := HT.out
        rwa [take_all (by rw [HD.out]; exact Nat.le_refl _), take_all (Nat.le_refl _)] at this
      subst e
      exact ⟨_, _, rfl, ⟨cs, ho, hci.mono (Nat.le_succ _) (Nat.le_refl _)⟩, hb⟩

set_option maxHeartbeats 1000000 in
theorem laws_eqInt64SS (xss yss : List (List Int)) (A B : Option Addr) (c d : Nat) (w : World) (h : Ints2 w A xss) (h' : Ints2 w B yss) (hl : xss.length ≤ 1000000000000) (_hl' : yss.length ≤ 1000000000000) :
    Calls Try.prog 25 #[.slice A xss.length c, .slice B yss.length d] w fun e w' => e = .returned (.bool (decide (xss = yss))) ∧ Below w.heap.size w w' := by
  refine Calls.mono (R := fun e w' => e = .returned (.bool (decide (xss = yss))) ∧ ∃ n, w' = w.drewN n) ?_ fun e w' ⟨h1, n, h2⟩ => ⟨h1, by subst h2; exact below_drewN (Below.refl _ _) _⟩
  by_cases hle : xss.length = yss.length
  · have HL := Lib.hid hle
    have hle' : ((xss.length : Int) != (yss.length : Int)) = false := by simp [hle]
    clear hle
    go_enter Try.func25, Try.ntmps25
    go_wp2
    go_loopw [5] (fun i wr => ∃ (k : Nat), k ≤ xss.length ∧ i = .int .i64 k ∧ xss.take k = yss.take k ∧ Drawn w wr) (fun i _ => xss.length - (intOf i).toNat)
    case atStart => exact ⟨0, Nat.zero_le _, rfl, rfl, Drawn.refl _⟩
    case round =>
      obtain ⟨k, hk, rfl, htk, hdr⟩ := hrel
      have HT := Lib.hid htk; clear htk
      by_cases hlt : k < xss.length
      · have hlt' : k < yss.length := by rw [← HL.out]; exact hlt
        obtain ⟨b, off, A1, c1, xs, rfl, hx, hc, hi, hxl⟩ := (h.of_cells hdr.cells) k hlt
        obtain ⟨b', off', A2, c2, ys, rfl, hy, hc', hi', hyl⟩ := (h'.of_cells hdr.cells) k hlt'
        have HX := Lib.hid hx; clear hx
        have HY := Lib.hid hy; clear hy
        have j1 : (0 : Int) ≤ (k : Int) := by omega
        have j2 : (k : Int) < (xss.length : Int) := by omega
        have j3 : (k : Int) < (yss.length : Int) := by omega
        by_cases hxy : xs = ys
        · subst hxy
          go_wp2_with (fail)
          go_quiet ((go_at_call 34; exact Calls.quiet_of (laws_eqInt64S _ _ _ _ _ _ _ hi hi' hxl hyl)))
          go_wp2_with (fail)
          go_roundw
          case rel => exact ⟨k + 1, by omega, by go_num, by rw [take_snoc HX.out, take_snoc HY.out, HT.out], hdr.drewN _⟩
          case measure => simp [intOf]; omega
        · have hxy' : decide (xs = ys) = false := decide_eq_false hxy
          go_wp2_with (fail)
          go_quiet ((go_at_call 34; exact Calls.quiet_of (laws_eqInt64S _ _ _ _ _ _ _ hi hi' hxl hyl)))
          go_wp2_with (fail)
          go_ret
          exact ⟨ret_bool (by simpa using ne_of_getElem? HX.out HY.out hxy), hdr.drewN _⟩
      · go_wp2_with (fail)
        go_ret
        have : k = xss.length := by omega
        subst this
        have e := HT.out
        rw [take_all (Nat.le_refl _), take_all (by rw [HL.out]; exact Nat.le_refl _)] at e
        exact ⟨ret_bool (by simpa using e), hdr⟩
  · have hle' : ((xss.length : Int) != (yss.length : Int)) = true := by simp; omega
    go_enter Try.func25, Try.ntmps25
    go_wp2
    go_ret
    exact ⟨ret_bool (by simp; intro e; exact hle (by rw [e])), 0, rfl⟩

def marksII (k : Int) : List (List Int) → List (List Int)
  | [] => []
  | xs :: r => marksI k xs.length :: marksII (k + xs.length) r
theorem marksII_length (k : Int) (xss : List (List Int)) : (marksII k xss).length = xss.length := by
  induction xss generalizing k with
  | nil => rfl
  | cons x r ih => simp [marksII, ih]
theorem marksII_append (k : Int) (a b : List (List Int)) : marksII k (a ++ b) = marksII k a ++ marksII (k + cntII a) b := by
  induction a generalizing k with
  | nil => simp [marksII, cntII]
  | cons x r ih => simp [marksII, cntII, ih, Int.add_assoc]
theorem marksII_snoc {k : Int} {xss : List (List Int)} {j : Nat} {xs : List Int} (h : xss[j]? = some xs) : marksII k (xss.take (j + 1)) = marksII k (xss.take j) ++ [marksI (k + cntII (xss.take j)) xs.length] := by
  rw [take_snoc h, marksII_append]; simp [marksII]
theorem marksII_at {k : Int} {xss : List (List Int)} {j : Nat} {xs : List Int} (h : xss[j]? = some xs) : (marksII k xss)[j]? = some (marksI (k + cntII (xss.take j)) xs.length) := by
  obtain ⟨hj, rfl⟩ := List.getElem?_eq_some_iff.1 h
  have e : xss = xss.take j ++ xss[j] :: xss.drop (j + 1) := by rw [List.getElem_cons_drop, List.take_append_drop]
  have hlen : (marksII k (xss.take j)).length = j := by rw [marksII_length, List.length_take]; omega
  have e2 := congrArg (fun l => (marksII k l)[j]?) e
  rw [e2, marksII_append, List.getElem?_append_right (by omega), hlen]
  simp [marksII]

set_option maxHeartbeats 1000000 in
theorem laws_markInt64SS (xss : List (List Int)) (A : Option Addr) (c : Nat) (k0 : Int) (lo hi : Nat) (w : World) (h : OwnII w lo hi A xss.length c xss) (hk0 : 0 ≤ k0) (hk1 : k0 + cntII xss ≤ 1000000000000) :
    Calls Try.prog 28 #[.slice A xss.length c, .int .i64 k0] w fun e w' => e = .returned (.int .i64 (k0 + cntII xss)) ∧ OwnII w' lo hi A xss.length c (marksII k0 xss) ∧ Upd lo hi w w' := by
  have hlen : xss.length ≤ 9223372036854775807 := by obtain ⟨cs, h1, _⟩ := h.ex; exact h1.maxc
  go_enter Try.func28, Try.ntmps28
  go_wp2
  go_loopw [1, 5] (fun kv i wr => ∃ (k : Nat), k ≤ xss.length ∧ i = .int .i64 k ∧ kv = .int .i64 (k0 + cntII (xss.take k)) ∧ OwnII wr lo hi A xss.length c (marksII k0 (xss.take k) ++ xss.drop k) ∧ Upd lo hi w wr) (fun _ i _ => xss.length - (intOf i).toNat)
  case atStart => exact ⟨0, Nat.zero_le _, rfl, by simp [cntII], by simpa [marksII] using h, Upd.refl _ _ _⟩
  case round =>
    clear h
    obtain ⟨k, hk, rfl, rfl, ho, hu⟩ := hrel
    by_cases hlt : k < xss.length
    · have hx : xss[k]? = some xss[k] := List.getElem?_eq_getElem hlt
      generalize xss[k] = xs at hx
      have hml : (marksII k0 (xss.take k)).length = k := by rw [marksII_length, List.length_take]; omega
      have hx2 : (marksII k0 (xss.take k) ++ xss.drop k)[k]? = some xs := by
        rw [List.getElem?_append_right (by omega), hml, drop_cons hx]; simp
      obtain ⟨g, A', c', l, h', rfl, hc, hin, hxl, hset⟩ := ho.open_ hx2
      have HS := Lib.hid (cntII_snoc hx)
      have hat := cntII_at hx
      have HM := Lib.hid (marksII_snoc (k := k0) hx)
      have HX := Lib.hid hx; clear hx
      have HX2 := Lib.hid hx2; clear hx2
      have HML := Lib.hid hml; clear hml
      go_wp2_with (fail)
      refine (laws_markInt64S A' c' xs (k0 + cntII (xss.take k)) l h' _ hin (by omega) (by omega)).mono ?_; rintro e w2 ⟨rfl, o2, u2⟩
      obtain ⟨ho2, hu2⟩ := hset w2 (marksI (k0 + cntII (xss.take k)) xs.length) (marksI_length _ _) u2 o2
      go_wp2_with (fail)
      go_roundw
      case rel =>
        refine ⟨k + 1, by omega, by go_num, int_eq (by rw [HS.out]; omega), ?_, hu.trans hu2⟩
        have e : (marksII k0 (xss.take k) ++ xss.drop k).set k (marksI (k0 + cntII (xss.take k)) xs.length) = marksII k0 (xss.take (k + 1)) ++ xss.drop (k + 1) := by
          rw [HM.out, List.set_append_right _ _ (by rw [HML.out]; exact Nat.le_refl _), HML.out, drop_cons HX.out]
          simp
        rw [← e]
        exact ho2
      case measure => simp [intOf]; omega
    · go_wp2
      go_ret
      have : k = xss.length := by omega
      subst this
      rw [take_all (Nat.le_refl _), drop_all (Nat.le_refl _)] at ho
      exact ⟨ret_int (by rw [take_all (Nat.le_refl _)]), by simpa using ho, hu⟩

theorem laws_heldInt64SS (A : Option Addr) (c : Nat) (xss : List (List Int)) (k0 : Int) (w : World) (h : Ints2 w A (marksII k0 xss)) (hk0 : 0 ≤ k0) (hk1 : k0 + cntII xss ≤ 1000000000000) (hl : xss.length ≤ 1000000000000) :
    Calls Try.prog 29 #[.slice A xss.length c, .int .i64 k0] w fun e w' => e = .returned (.int .i64 (k0 + cntII xss)) ∧ w = w' := by
  go_enter Try.func29, Try.ntmps29
  go_wp2
  go_loop [1, 5] (fun kv i => ∃ (k : Nat), k ≤ xss.length ∧ i = .int .i64 k ∧ kv = .int .i64 (k0 + cntII (xss.take k))) (fun _ i => xss.length - (intOf i).toNat)
  case atStart => exact ⟨0, Nat.zero_le _, rfl, by simp [cntII]⟩
  case round =>
    obtain ⟨k, hk, rfl, rfl⟩ := hrel
    by_cases hlt : k < xss.length
    · have hx : xss[k]? = some xss[k] := List.getElem?_eq_getElem hlt
      generalize xss[k] = xs at hx
      obtain ⟨b, off, A', c', zs, rfl, hz, hc, hi, hzl⟩ := h k (by rw [marksII_length]; exact hlt)
      rw [marksII_at hx] at hz
      injection hz with hz
      subst hz
      rw [marksI_length] at hc
      have HS := Lib.hid (cntII_snoc hx)
      have hat := cntII_at hx
      clear hx
      go_wp2_with (refine (laws_heldInt64S _ _ _ _ _ hi (by omega) (by omega)).mono ?_; rintro e _ ⟨rfl, rfl⟩)
      go_round
      case rel => exact ⟨k + 1, by omega, by go_num, int_eq (by rw [HS.out]; omega)⟩
      case measure => simp [intOf]; omega
    · go_wp2
      go_ret
      have : k = xss.length := by omega
      subst this
      exact ⟨ret_int (by rw [take_all (Nat.le_refl _)]), rfl⟩

end Go.Proofs.Ytdnchjchgejkeaa
