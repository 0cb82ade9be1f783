/- slices.Clone, copyLists, slices.Reverse. -/
import Derived.Test.YtfgbhhkmdeljoaaMC
import Derived.Test.YtfgbhhkmdeljoaaSB
import Derived.BigRegion
namespace Go.Proofs.Ytfgbhhkmdeljoaa
open Go.RowKit

theorem Ints.news {w : World} {A : Option Addr} {xs : List Int} (h : Ints w A xs) : ∀ j u, (xs.map (Value.int .i64))[j]? = some u → ∃ b off, A = some ⟨b, off, none⟩ ∧ w.cell? ⟨b, off + j, none⟩ = some u := by
  intro j u hu
  have hj := (List.getElem?_eq_some_iff.1 hu).1
  simp at hj
  obtain ⟨b, off, x, hA, hc, hx⟩ := h j hj
  rw [List.getElem?_map, hx] at hu
  simp at hu
  subst hu
  exact ⟨b, off, hA, hc⟩

set_option maxRecDepth 10000 in
theorem slices_Clone (A : Option Addr) (c : Nat) (xs : List Int) (w : World) (h : Ints w A xs) (hl : xs.length ≤ 1048576) :
    Calls Try.prog 105 #[.slice A xs.length c] w fun e w' => ∃ A' c', e = .returned (.slice A' xs.length c') ∧ OwnI w' w.heap.size w'.heap.size A' c' xs ∧ Below w.heap.size w w' := by
  obtain ⟨i0, hi0, hz0, hz1, hz2⟩ := info_parts info_int64
  have qn : ∀ (w : World) (a : Option Addr) (n c n' c' : Nat), (binOp .eql 33 (.slice a n c) (.slice none n' c')).run Try.prog w = .ok (.bool a.isNone) w := fun w a n c n' c' => Lib.run_eql_slice_nil w _ _ a n c n' c' Try.underlying33
  cases A with
  | none =>
    have hx : xs = [] := by
      cases xs with
      | nil => rfl
      | cons x r => obtain ⟨b, off, _, h1, _⟩ := h 0 (by simp); cases h1
    subst hx
    go_enter Try.func105, Try.ntmps105
    go_wp2_with (fail)
    go_ret
    exact ⟨none, 0, rfl, OwnC.nil _ _ _ _ _, Below.refl _ _⟩
  | some a =>
    have o1 := OwnC.lit (w := w) (lo := w.heap.size) (n := 0) 2 1 #[] (Nat.le_refl _) (Nat.zero_le _) rfl
    have hb1 : Below w.heap.size w (w.alloc (.cells #[] 2)) := by (repeat (first | exact Below.refl _ _ | assumption | apply Below.drew | apply below_drewN | (refine Below.alloc ?_ (by first | omega | (simp; done) | (simp; omega)) _) | (refine Below.setCell ?_ (by first | omega | (simp; done) | (simp; omega)) _)))
    have hn := (h.below hb1).news
    have O1 := Lib.hid o1; clear o1
    have HN := Lib.hid hn; clear hn
    go_enter Try.func105, Try.ntmps105
    go_wp2_with (at_builtin; refine wpList_appendC (w.alloc (.cells #[] 2)) rfl (.tmp 5) (.tmp 6) _ rfl 2 i0 _ 1 8 Try.underlying33 hi0 hz0 hz1 hz2 rfl (by decide) rfl O1.out (by simp) (some a) xs.length c (xs.map (Value.int .i64)) rfl (by simp) HN.out (ints_one _) (by unfold maxLen; omega) (by omega) ?_; intro A5 c5 w5 ho5 hg5 hb5)
    go_ret
    refine ⟨A5, c5, by simp, ?_, hb1.trans hb5⟩
    simpa using ho5

set_option maxHeartbeats 1000000 in
theorem slices_Reverse (A : Option Addr) (c : Nat) (xs : List Int) (lo hi : Nat) (w : World) (h : OwnI w lo hi A c xs) (hl : xs.length ≤ 1048576) :
    Calls Try.prog 161 #[.slice A xs.length c] w fun e w' => e = .returned (.tuple #[]) ∧ OwnC w' lo hi 2 1 A xs.length c (xs.reverse.map (Value.int .i64)) ∧ Upd lo hi w w' := by
  go_enter Try.func161, Try.ntmps161
  go_wp2_with (fail)
  go_loopw [2, 3] (fun iv jv wr => ∃ (i : Nat) (L : List Int), 2 * i ≤ xs.length ∧ iv = .int .i64 i ∧ jv = .int .i64 ((xs.length : Int) - 1 - i) ∧ OwnC wr lo hi 2 1 A xs.length c (L.map (Value.int .i64)) ∧ Hid (L.length = xs.length) ∧ Hid (∀ k, k < xs.length → L[k]? = if k < i ∨ xs.length ≤ k + i then xs[xs.length - 1 - k]? else xs[k]?) ∧ Upd lo hi w wr) (fun _ jv _ => (intOf jv + 1).toNat)
  case atStart => exact ⟨0, xs, by omega, rfl, by simp, h, Lib.hid rfl, Lib.hid (fun k hk => by rw [if_neg (by omega)]), Upd.refl _ _ _⟩
  case round =>
    obtain ⟨i, L, hi2, rfl, rfl, ho, HL, HK, hu⟩ := hrel
    by_cases hlt : 2 * i + 1 < xs.length
    · obtain ⟨j, hj⟩ : ∃ j, xs.length = j + 1 + i := ⟨xs.length - 1 - i, by omega⟩
      have hij : i < j := by omega
      rw [show (xs.length : Int) - 1 - i = j by omega]
      have e1 : L[i]? = some (L[i]'(by rw [HL.out]; omega)) := List.getElem?_eq_getElem _
      have e2 : L[j]? = some (L[j]'(by rw [HL.out]; omega)) := List.getElem?_eq_getElem _
      generalize L[i]'(by rw [HL.out]; omega) = x at e1
      generalize L[j]'(by rw [HL.out]; omega) = y at e2
      obtain ⟨g, rfl, hg1, hg2, q0, f0⟩ := ho.cell (j := i) (by simp [HL.out]; omega)
      obtain ⟨_, hA, _, _, q1, f1⟩ := ho.cell (j := j) (by simp [HL.out]; omega)
      injection hA with hA
      injection hA with hA
      subst hA
      have e3 : (L.map (Value.int .i64))[i]? = some (.int .i64 x) := by simp [e1]
      have e4 : (L.map (Value.int .i64))[j]? = some (.int .i64 y) := by simp [e2]
      rw [List.getElem?_eq_getElem (by simp [HL.out]; omega)] at e3 e4
      injection e3 with e3
      injection e4 with e4
      rw [e3] at q0
      rw [e4] at q1
      have E1 := Lib.hid e1; clear e1
      have E2 := Lib.hid e2; clear e2 e3 e4
      have j1 : (0 : Int) ≤ (i : Int) := by omega
      have j2 : (i : Int) < (xs.length : Int) := by omega
      have j3 : (0 : Int) ≤ (j : Int) := by omega
      have j4 : (j : Int) < (xs.length : Int) := by omega
      have HJ := Lib.hid hj; clear hj
      have hne : i ≠ j := by omega
      have hne2 : j ≠ i := by omega
      have HO := Lib.hid ho; clear ho
      go_wp2_with (fail)
      go_region
      all_goals go_wp2_with (fail)
      all_goals
        have o1 := (HO.out.store (j := i) (.int .i64 y)).1
        have o2 := (o1.store (j := j) (.int .i64 x)).1
        have o3 := OwnC.keep (w' := World.drew ((wr.setCell ⟨g, i, none⟩ (.int .i64 y)).setCell ⟨g, j, none⟩ (.int .i64 x))) o2 fun _ _ _ _ => rfl
        have u2 : Upd lo hi w (World.drew ((wr.setCell ⟨g, i, none⟩ (.int .i64 y)).setCell ⟨g, j, none⟩ (.int .i64 x))) := ((hu.setCell (p := ⟨g, i, none⟩) hg1 hg2 _).setCell (p := ⟨g, j, none⟩) hg1 hg2 _).drewN 1
        refine ⟨⟨i + 1, (L.set i y).set j x, by omega, by go_num, int_eq (by have := HJ.out; push_cast; omega), by simpa [List.map_set] using o3, Lib.hid (by simp [HL.out]), Lib.hid (fun k hk => ?_), u2⟩, by first | (simp [intOf]; done) | (simp [intOf]; omega)⟩
        have hjj := HJ.out
        by_cases hki : k = i
        · subst hki
          rw [List.getElem?_set_ne (by omega), List.getElem?_set_self (by rw [HL.out]; omega), if_pos (by omega), show xs.length - 1 - k = j by omega]
          have := HK.out j (by omega)
          rw [E2.out, if_neg (by omega)] at this
          exact this
        · by_cases hkj : k = j
          · subst hkj
            rw [List.getElem?_set_self (by simp [HL.out]; omega), if_pos (by omega), show xs.length - 1 - k = i by omega]
            have := HK.out i (by omega)
            rw [E1.out, if_neg (by omega)] at this
            exact this
          · rw [List.getElem?_set_ne (by omega), List.getElem?_set_ne (by omega), HK.out k hk]
            by_cases hc : k < i ∨ xs.length ≤ k + i
            · rw [if_pos hc, if_pos (by omega)]
            · rw [if_neg hc, if_neg (by omega)]
    · have hjle : (xs.length : Int) - 1 - i ≤ i := by omega
      go_wp2_with (fail)
      go_end0
      refine ⟨rfl, ?_, hu⟩
      have e : L = xs.reverse := by
        apply List.ext_getElem?
        intro k
        by_cases hk : k < xs.length
        · rw [HK.out k hk, List.getElem?_reverse hk]
          by_cases hc : k < i ∨ xs.length ≤ k + i
          · rw [if_pos hc]
          · rw [if_neg hc, show xs.length - 1 - k = k by omega]
        · rw [List.getElem?_eq_none (by rw [HL.out]; omega), List.getElem?_eq_none (by rw [List.length_reverse]; omega)]
      rw [← e]
      exact ho

end Go.Proofs.Ytfgbhhkmdeljoaa
