/- Steps of the proof, joined from several texts: YC ZO QB QC QD. -/
import Derived.Test.YthjamohaeahipaaGreatZ8
import Derived.Test.YthjamohaeahipaaGreatZ9
import Derived.Test.YthjamohaeahipaaGreatZ20
import Derived.Test.YthjamohaeahipaaGreatZ15
import Derived.Test.YthjamohaeahipaaGreatZ7
import Derived.Test.YthjamohaeahipaaGreatZ5
import Derived.Test.YthjamohaeahipaaGreatZ2

/- Doubled braids: the given side's word. -/
namespace Go.Proofs.YthjamohaeahipaaGreat
open Go Go.RowKit

set_option maxHeartbeats 4000000 in
set_option maxRecDepth 10000 in
theorem spec_l03Double (word sizes : List Int) (A B : Option Addr) (c d n : Nat) (S : Int) (w : World) (h : Ints w A word) (hl : word.length ≤ 40) (h' : Ints w B sizes) (hn : NowB sizes n S) (hn8 : 1 ≤ n ∧ n ≤ 8) (hS : S ≤ 32) (hw : ∀ x ∈ word, 1 ≤ x.natAbs ∧ x.natAbs < n) :
    Calls Tryz.prog 55 #[.slice A word.length c, .slice B sizes.length d] w fun e w' => ∃ A' c', e = .returned (.slice A' (dblFrom word sizes).length c') ∧ OwnI w' w.heap.size w'.heap.size A' c' (dblFrom word sizes) ∧ Below w.heap.size w w' := by
  obtain ⟨i0, hi0, hz0, hz1, hz2⟩ := info_parts info_int64
  obtain rfl := hn.len
  obtain ⟨hn1, hn8⟩ := hn8
  have HW := Lib.hid hw; clear hw
  have HNB := Lib.hid hn; clear hn
  go_enter Tryz.func55, Tryz.ntmps55
  go_wp2_with (fail)
  refine (spec_l00Own B d sizes w h' (by omega)).mono ?_; rintro e w5 ⟨A5, c5, rfl, o5, b5⟩
  obtain ⟨g5, rfl⟩ := OwnC.head o5 (by omega)
  have hz5 := b5.size
  have o6 := (OwnC.lit (w := w5) (lo := w5.heap.size) (n := 0) 2 1 #[] (Nat.le_refl _) (Nat.zero_le _) rfl).mono (Nat.le_refl _) (show w5.heap.size + 1 ≤ (w5.alloc (.cells #[] 2)).heap.size by simp)
  have hb6 : Below w.heap.size w (w5.alloc (.cells #[] 2)) := b5.alloc (by omega) _
  have o5a := o5.alloc (.cells #[] 2)
  have O6 := Lib.hid o6; clear o6
  go_wp2_with (fail)
  go_loopw [6, 7] (fun ov iv wr => ∃ (i : Nat) (A' : Option Addr) (c' : Nat) (out now : List Int), i ≤ word.length ∧ iv = .int .i64 i ∧ ov = .slice A' out.length c' ∧ OwnI wr w5.heap.size wr.heap.size A' c' out ∧ OwnI wr w.heap.size w5.heap.size (some ⟨g5, 0, none⟩) c5 now ∧ NowB now sizes.length S ∧ Below w.heap.size w wr ∧ w5.heap.size ≤ wr.heap.size ∧ Hid (dblFrom word sizes = out ++ dblFrom (word.drop i) now) ∧ out.length ≤ 16 * i) (fun _ iv _ => word.length - (intOf iv).toNat)
  case atStart => exact ⟨0, some ⟨w5.heap.size, 0, none⟩, 0, [], sizes, Nat.zero_le _, rfl, rfl, O6.out, o5a, HNB.out, hb6, by simp, Lib.hid rfl, by simp⟩
  case round =>
    clear O6 hb6 o5a
    obtain ⟨i, A', c', out, now, hi, rfl, rfl, ho, hnow, hnb, hb, hz, HD, hol⟩ := hrel
    by_cases hil : i < word.length
    · obtain ⟨b, off, x, rfl, hc, hx⟩ := (h.below hb) i hil
      obtain ⟨hx1, hx2⟩ := HW.out x (List.mem_of_getElem? hx)
      obtain ⟨K, hK⟩ : ∃ K, x.natAbs = K + 1 := ⟨x.natAbs - 1, by omega⟩
      have hab : absI x = (K : Int) + 1 := by unfold absI; split <;> omega
      have HAB := Lib.hid hab; clear hab
      obtain ⟨a, ha, a1, a4⟩ := now_at hnb (k := K) (by omega)
      obtain ⟨bb, hbb, b1, b4⟩ := now_at hnb (k := K + 1) (by omega)
      obtain ⟨aN, rfl⟩ := Int.eq_ofNat_of_zero_le (show (0 : Int) ≤ a by omega)
      obtain ⟨bN, rfl⟩ := Int.eq_ofNat_of_zero_le (show (0 : Int) ≤ bb by omega)
      obtain ⟨hn2, hs0, hs1⟩ := hnb.swap ha hbb
      have HD2 : Hid (dblFrom word sizes = (out ++ swTo (sumI (now.take K)) (sgnI x) aN bN) ++ dblFrom (word.drop (i + 1)) (swapL K now)) := Lib.hid (by
        rw [HD.out, drop_cons hx, dblFrom, hK, Nat.add_sub_cancel, getD_of ha, getD_of hbb, Int.toNat_natCast, Int.toNat_natCast, List.append_assoc])
      have HSW := Lib.hid (swapL_at ha hbb)
      have hxs : -1000 ≤ x ∧ x ≤ 1000 := by omega
      have HNL := Lib.hid hnb.len
      have j1 : (0 : Int) ≤ (i : Int) := by omega
      have j2 : (i : Int) < (word.length : Int) := by omega
      have HXS := Lib.hid hxs; clear hxs hx HD
      go_wp2_with (go_at_call 80; refine (spec_l03Abs _ _ HXS.out).mono ?_; rintro e _ ⟨rfl, rfl⟩; rw [HAB.out])
      go_loop [9, 10] (fun pv jv => ∃ j : Nat, j ≤ K ∧ jv = .int .i64 j ∧ pv = .int .i64 (sumI (now.take j)) ∧ Hid (0 ≤ sumI (now.take j))) (fun _ jv => K - (intOf jv).toNat)
      case atStart => exact ⟨0, Nat.zero_le _, rfl, rfl, Lib.hid (by simp [sumI])⟩
      case round =>
        obtain ⟨j, hj, rfl, rfl, H0⟩ := hrel
        by_cases hjk : j < K
        · obtain ⟨y, hy, y1, y4⟩ := now_at hnb (k := j) (by omega)
          obtain ⟨cy, fy, _, _⟩ := own_at hnow hy
          have HSN := Lib.hid (sumI_snoc hy)
          have htk := hnb.take (j + 1)
          obtain ⟨t0, t1⟩ := htk
          rw [HSN.out] at t0 t1
          have h0 := H0.out
          have hd : decide ((j : Int) < (K : Int)) = true := decide_eq_true (by omega)
          clear hy
          have j3 : (0 : Int) ≤ (j : Int) := by omega
          have j4 : (j : Int) < (sizes.length : Int) := by omega
          generalize sumI (now.take j) = pj at HSN t0 t1 h0 H0 ⊢
          go_wp2_with (fail)
          refine ⟨⟨j + 1, by omega, by go_num, by rw [HSN.out], Lib.hid (by rw [HSN.out]; exact t0)⟩, by simp [intOf]; omega⟩
        · obtain rfl : j = K := by omega
          have h0 := H0.out
          have hpS : sumI (now.take j) ≤ 1000 := by have := (hnb.take j).2; omega
          obtain ⟨ca, fa, ga, gb⟩ := own_at hnow ha
          obtain ⟨cb, fb, _, _⟩ := own_at hnow hbb
          generalize sumI (now.take j) = place at hpS h0 HD2 hs1 H0 ⊢
          have hd : decide ((j : Int) < (j : Int)) = false := decide_eq_false (by omega)
          have j3 : (0 : Int) ≤ (j : Int) := by omega
          have j4 : (j : Int) < (sizes.length : Int) := by omega
          have j5 : (j : Int) + 1 < (sizes.length : Int) := by omega
          have j6 : IntKind.i64.wrap (j : Int) = (j : Int) := IntWalk.i64_in _ (by omega)
          have j7 : (0 : Int) ≤ (j : Int) + 1 := by omega
          have j8 : ((j : Int) + 1).toNat = j + 1 := by omega
          by_cases hneg : x < 0
          case' pos =>
            have hng : decide (x < 0) = true := decide_eq_true hneg
            have HSG : Hid (sgnI x = -1) := Lib.hid (by rw [sgnI, if_pos hneg])
          case' neg =>
            have hng : decide (x < 0) = false := decide_eq_false hneg
            have HSG : Hid (sgnI x = 1) := Lib.hid (by rw [sgnI, if_neg hneg])
          all_goals
            rw [HSG.out] at HD2
            clear hneg HSG
            go_wp2_with (fail)
            (refine wp_region_pops 2 (S := (fun W' => W'.cell? ⟨g5, j, none⟩ = some (.int .i64 (aN : Int)) ∧ W'.cell? ⟨g5, j + 1, none⟩ = some (.int .i64 (bN : Int)))) (pre := ?_) (T := ?_) (n := ?_) (by kernel_rfl) (by kernel_rfl) ?_ ?_ ?_ ?_ (fun hHeld => ?_); rotate_left 3; (focus (simp only [pops, List.pop_toArray, List.dropLast_cons_cons, List.dropLast_singleton]; rfl)); (focus (simp only [tailOf, List.pop_toArray, List.dropLast_cons_cons, List.dropLast_singleton, List.back?_toArray, List.getLast?_cons_cons, List.getLast?_singleton, Option.toList_some, List.nil_append, List.cons_append]; rfl)); (focus rfl); (focus (exact ⟨ca, cb⟩)))
            ((refine wpAnyH_take (i := 0) (v := ?_) rfl (by kernel_rfl) (by kernel_rfl) (by kernel_rfl) (fun _ _ _ h => h) (Or.inl ⟨by rfl, ?_⟩) (by assumption) ?_; rotate_left; (focus (intro W hSw; (try dsimp only at hSw); go_simp; try (with_reducible rfl)))); (try simp only [List.getElem_toArray, List.getElem_cons_zero, Act.put, List.setIfInBounds_toArray, List.set_cons_zero, List.set_cons_succ]); (refine wpAnyH_take (i := 1) (v := ?_) rfl (by kernel_rfl) (by kernel_rfl) (by kernel_rfl) (fun _ _ _ h => h) (Or.inl ⟨by rfl, ?_⟩) (by assumption) ?_; rotate_left; (focus (intro W hSw; (try dsimp only at hSw); go_simp; try (with_reducible rfl)))); (try simp only [List.getElem_toArray, List.getElem_cons_zero, List.getElem_cons_succ, Act.put, List.setIfInBounds_toArray, List.set_cons_zero, List.set_cons_succ]); (refine wpAnyH_take (i := 2) (v := ?_) rfl (by kernel_rfl) (by kernel_rfl) (by kernel_rfl) (fun _ _ _ h => h) (Or.inl ⟨by rfl, ?_⟩) (by assumption) ?_; rotate_left; (focus (intro W hSw; (try dsimp only at hSw); go_simp; try (with_reducible rfl)))); (try simp only [List.getElem_toArray, List.getElem_cons_zero, List.getElem_cons_succ, Act.put, List.setIfInBounds_toArray, List.set_cons_zero, List.set_cons_succ]); (refine wpAnyH_take (i := 3) (v := ?_) rfl (by kernel_rfl) (by kernel_rfl) (by kernel_rfl) (fun _ _ _ h => h) (Or.inl ⟨by rfl, ?_⟩) (by assumption) ?_; rotate_left; (focus (intro W hSw; (try dsimp only at hSw); go_simp; try (with_reducible rfl)))); (try simp only [List.getElem_toArray, List.getElem_cons_zero, List.getElem_cons_succ, Act.put, List.setIfInBounds_toArray, List.set_cons_zero, List.set_cons_succ]); (refine wpAnyH_take (i := 4) (v := ?_) rfl (by kernel_rfl) (by kernel_rfl) (by kernel_rfl) (fun _ _ _ h => h) (Or.inl ⟨by rfl, ?_⟩) (by assumption) ?_; rotate_left; (focus (intro W hSw; (try dsimp only at hSw); go_simp; try (with_reducible rfl)))); (try simp only [List.getElem_toArray, List.getElem_cons_zero, List.getElem_cons_succ, Act.put, List.setIfInBounds_toArray, List.set_cons_zero, List.set_cons_succ]); (refine wpAnyH_take (i := 5) (v := ?_) rfl (by kernel_rfl) (by kernel_rfl) (by kernel_rfl) (fun _ _ _ h => h) (Or.inl ⟨by rfl, ?_⟩) (by assumption) ?_; rotate_left; (focus (intro W hSw; (try dsimp only at hSw); go_simp; try (with_reducible rfl)))); (try simp only [List.getElem_toArray, List.getElem_cons_zero, List.getElem_cons_succ, Act.put, List.setIfInBounds_toArray, List.set_cons_zero, List.set_cons_succ]); (refine wpAnyH_take (i := 6) (v := ?_) rfl (by kernel_rfl) (by kernel_rfl) (by kernel_rfl) (fun _ _ _ h => h) (Or.inl ⟨by rfl, ?_⟩) (by assumption) ?_; rotate_left; (focus (intro W hSw; (try dsimp only at hSw); go_simp; try (with_reducible rfl)))); (try simp only [List.getElem_toArray, List.getElem_cons_zero, List.getElem_cons_succ, Act.put, List.setIfInBounds_toArray, List.set_cons_zero, List.set_cons_succ]); (refine wpAnyH_take (i := 7) (v := ?_) rfl (by kernel_rfl) (by kernel_rfl) (by kernel_rfl) (fun _ _ _ h => h) (Or.inl ⟨by rfl, ?_⟩) (by assumption) ?_; rotate_left; (focus (intro W hSw; (try dsimp only at hSw); go_simp; try (with_reducible rfl)))); (try simp only [List.getElem_toArray, List.getElem_cons_zero, List.getElem_cons_succ, Act.put, List.setIfInBounds_toArray, List.set_cons_zero, List.set_cons_succ]); (refine wpAnyH_take (i := 8) (v := ?_) rfl (by kernel_rfl) (by kernel_rfl) (by kernel_rfl) (fun _ _ _ h => h) (Or.inl ⟨by rfl, ?_⟩) (by assumption) ?_; rotate_left; (focus (intro W hSw; (try dsimp only at hSw); go_simp; try (with_reducible rfl)))); (try simp only [List.getElem_toArray, List.getElem_cons_zero, List.getElem_cons_succ, Act.put, List.setIfInBounds_toArray, List.set_cons_zero, List.set_cons_succ]); (refine wpAnyH_take (i := 9) (v := ?_) rfl (by kernel_rfl) (by kernel_rfl) (by kernel_rfl) (fun _ _ _ h => h) (Or.inl ⟨by rfl, ?_⟩) (by assumption) ?_; rotate_left; (focus (intro W hSw; (try dsimp only at hSw); go_simp; try (with_reducible rfl)))); (try simp only [List.getElem_toArray, List.getElem_cons_zero, List.getElem_cons_succ, Act.put, List.setIfInBounds_toArray, List.set_cons_zero, List.set_cons_succ]); (refine wpAnyH_take (i := 10) (v := ?_) rfl (by kernel_rfl) (by kernel_rfl) (by kernel_rfl) (fun _ _ _ h => h) (Or.inl ⟨by rfl, ?_⟩) (by assumption) ?_; rotate_left; (focus (intro W hSw; (try dsimp only at hSw); go_simp; try (with_reducible rfl)))); (try simp only [List.getElem_toArray, List.getElem_cons_zero, List.getElem_cons_succ, Act.put, List.setIfInBounds_toArray, List.set_cons_zero, List.set_cons_succ]); (refine wpAnyH_take (i := 11) (v := ?_) rfl (by kernel_rfl) (by kernel_rfl) (by kernel_rfl) (fun _ _ _ h => h) (Or.inl ⟨by rfl, ?_⟩) (by assumption) ?_; rotate_left; (focus (intro W hSw; (try dsimp only at hSw); go_simp; try (with_reducible rfl)))); (try simp only [List.getElem_toArray, List.getElem_cons_zero, List.getElem_cons_succ, Act.put, List.setIfInBounds_toArray, List.set_cons_zero, List.set_cons_succ]))
            (refine wpAnyH_ready (rs := [12]) (by kernel_rfl) (by simp) ?_; refine AllReadyH.cons rfl (fun K hK => ?_) AllReadyH.nil)
            go_simp
            refine (spec_l03Swap place aN bN _ _ (by first | exact .inl rfl | exact .inr rfl) ⟨h0, hpS⟩ (by omega) (by omega)).mono ?_; rintro e w7 ⟨A8, c8, rfl, o7', b7'⟩
            have b7 := undrew b7'
            have o7 : OwnI w7 wr.heap.size w7.heap.size A8 c8 (swTo place _ aN bN) := o7'
            have hz7 := b7.size
            refine hK.out _ _ ⟨(own_at (OwnC.below hnow b7 (by omega)) ha).1, (own_at (OwnC.below hnow b7 (by omega)) hbb).1⟩ (fun hHeld => ?_)
            clear hK K b7' o7'
            (try simp only [List.getElem_toArray, List.getElem_cons_zero, List.getElem_cons_succ, Act.put, List.setIfInBounds_toArray, List.set_cons_zero, List.set_cons_succ])
            (refine wpAnyH_done (by kernel_rfl) ?_ _; change wpList _ _ _ _ _ _)
            clear hHeld
            have hm := Nat.mul_le_mul (show aN ≤ 4 by omega) (show bN ≤ 4 by omega)
            generalize hms : swTo place _ aN bN = ms at o7 HD2 ⊢
            have hml : ms.length ≤ 16 := by rw [← hms, swTo_length]; exact hm
            clear hms hm
            have hnow7 := OwnC.below hnow b7 (by omega)
            have ho7 := OwnC.below ho b7 (Nat.le_refl _)
            go_wp2_with (at_builtin; refine wpList_appendC w7 rfl (.tmp 44) (.tmp 56) _ rfl 2 i0 _ 1 8 Tryz.underlying24 hi0 hz0 hz1 hz2 rfl (by decide) rfl ho7 (by omega) A8 ms.length c8 (ms.map (Value.int .i64)) rfl (by simp) o7.news (ints_one _) (by unfold maxLen; omega) (by omega) ?_; intro A9 c9 w8 ho8 hg8 hb8; have hnow8 := OwnC.below hnow7 hb8 (Nat.le_refl _); obtain ⟨ca8, fa8, _, _⟩ := own_at hnow8 ha; obtain ⟨cb8, fb8, _, _⟩ := own_at hnow8 hbb)
            have hz8 := hb8.size
            refine ⟨⟨i + 1, A9, c9, out ++ ms, swapL j now, by omega, by go_num, by simp, ?_, own_swap hnow8 ha hbb, hn2, ((((hb.trans (b7.mono (by omega))).trans (hb8.mono (by omega))).setCell (by show w.heap.size ≤ g5; omega) _).setCell (by show w.heap.size ≤ g5; omega) _), by simp; omega, HD2, by simp; omega⟩, by first | (simp [intOf]; done) | (simp [intOf]; omega)⟩
            show OwnC _ _ _ _ _ _ _ _ _
            rw [List.map_append, List.length_append]
            exact ((ho8.far (.inl gb) _).far (.inl gb) _).mono (Nat.le_refl _) (by simp)
    · go_wp2_with (fail)
      go_ret
      have he := HD.out
      rw [drop_all (by omega), dblFrom, List.append_nil] at he
      rw [he]
      exact ⟨_, _, rfl, ho.mono (by omega) (Nat.le_refl _), hb⟩

end Go.Proofs.YthjamohaeahipaaGreat

/- The permutation of a braid, the inversions of a permutation: the given side. -/
namespace Go.Proofs.YthjamohaeahipaaGreat
open Go Go.RowKit

theorem swW_snoc {xs L : List Int} {i : Nat} {x : Int} (h : xs[i]? = some x) : swW (xs.take (i + 1)) L = swapL (x.natAbs - 1) (swW (xs.take i) L) := by
  rw [take_snoc h, swW_append]; rfl
theorem iotaN_snoc (n : Nat) : iotaI (n + 1) = iotaI n ++ [(n : Int)] := by simp [iotaI, List.range_succ]

end Go.Proofs.YthjamohaeahipaaGreat

/- Permutations of normal forms, the given side: identity, half twist, inverse, letters at the start and at the end. -/
namespace Go.Proofs.YthjamohaeahipaaGreat
open Go Go.RowKit
open Br (idl halfl invl flipl sw bh dB finB lwB Pm)

theorem idl_iota (n : Nat) : idl n = iotaI n := rfl
theorem idl_snoc (n : Nat) : idl (n + 1) = idl n ++ [(n : Int)] := by rw [idl_iota, idl_iota, iotaN_snoc]
theorem halfl_snoc {n m : Nat} (h : m < n) : (halfl n).take (m + 1) = (halfl n).take m ++ [(n : Int) - 1 - m] := by
  refine take_snoc ?_
  unfold halfl
  rw [List.getElem?_map, Br.idl_get h]
  rfl
/-- The letters with which a permutation can begin, the first m places alone. -/
def stTo (p : List Int) (m : Nat) : List Int := ((List.range m).filter (fun j => dB j p)).map (fun j : Nat => (j : Int) + 1)
theorem stTo_zero (p : List Int) : stTo p 0 = [] := rfl
theorem stTo_succ (p : List Int) (m : Nat) : stTo p (m + 1) = stTo p m ++ (if dB m p then [(m : Int) + 1] else []) := by
  unfold stTo
  rw [List.range_succ, List.filter_append, List.map_append]
  congr 1
  by_cases h : dB m p = true
  · rw [if_pos h, List.filter_cons_of_pos (by simpa using h)]; rfl
  · rw [if_neg h, List.filter_cons_of_neg (by simpa using h)]; rfl
theorem stTo_length (p : List Int) (m : Nat) : (stTo p m).length ≤ m := by
  unfold stTo
  rw [List.length_map]
  exact Nat.le_trans (List.length_filter_le _ _) (by simp)
def startsL (p : List Int) : List Int := stTo p (p.length - 1)
theorem startsL_mem {p : List Int} {x : Int} : x ∈ startsL p ↔ ∃ j : Nat, x = (j : Int) + 1 ∧ dB j p = true := by
  unfold startsL stTo
  rw [List.mem_map]
  constructor
  · rintro ⟨j, hj, rfl⟩
    rw [List.mem_filter] at hj
    exact ⟨j, rfl, hj.2⟩
  · rintro ⟨j, rfl, hj⟩
    refine ⟨j, ?_, rfl⟩
    rw [List.mem_filter, List.mem_range]
    have := Br.dB_lt hj
    exact ⟨by omega, hj⟩
theorem startsL_length (p : List Int) : (startsL p).length ≤ p.length := Nat.le_trans (stTo_length _ _) (by omega)

set_option maxHeartbeats 2000000 in
set_option maxRecDepth 10000 in
theorem spec_l04Identity (n : Nat) (w : World) (hn : n ≤ 100) :
    Calls Tryz.prog 83 #[.int .i64 (n : Int)] w fun e w' => ∃ A' c', e = .returned (.slice A' n c') ∧ OwnC w' w.heap.size w'.heap.size 2 1 A' n c' ((idl n).map (Value.int .i64)) ∧ Below w.heap.size w w' := by
  obtain ⟨i0, hi0, hz0, hz1, hz2⟩ := info_parts info_int64
  go_enter Tryz.func83, Tryz.ntmps83
  go_wp2_with (fail)
  go_loopw [3, 4] (fun ov iv wr => ∃ (i : Nat) (A3 : Option Addr) (c3 : Nat), i ≤ n ∧ iv = .int .i64 i ∧ ov = .slice A3 i c3 ∧ OwnC wr w.heap.size wr.heap.size 2 1 A3 i c3 ((idl i).map (Value.int .i64)) ∧ Below w.heap.size w wr) (fun _ iv _ => n - (intOf iv).toNat)
  case atStart =>
    refine ⟨0, some ⟨w.heap.size, 0, none⟩, 0, Nat.zero_le _, rfl, rfl, ?_, by (repeat (first | exact Below.refl _ _ | assumption | apply Below.drew | apply below_drewN | (refine Below.alloc ?_ (by first | omega | (simp; done) | (simp; omega)) _) | (refine Below.setCell ?_ (by first | omega | (simp; done) | (simp; omega)) _)))⟩
    exact (OwnC.lit (w := w) (lo := w.heap.size) (n := 0) 2 1 #[] (Nat.le_refl _) (Nat.zero_le _) rfl).mono (Nat.le_refl _) (by simp)
  case round =>
    obtain ⟨i, A3, c3, hi, rfl, rfl, o3, hb⟩ := hrel
    have hzs := hb.size
    by_cases hin : i < n
    · have di : decide ((i : Int) < (n : Int)) = true := decide_eq_true (by omega)
      have HX : Hid ((idl (i + 1)).map (Value.int .i64) = (idl i).map (Value.int .i64) ++ [.int .i64 (i : Int)]) := Lib.hid (by rw [idl_snoc]; simp)
      go_wp2_with (at_builtin; refine wpList_append1 wr [.int .i64 (i : Int)] _ rfl (.tmp 11) (.tmp 13) _ rfl 2 i0 _ 1 8 Tryz.underlying24 hi0 hz0 hz1 hz2 rfl (by decide) rfl o3 hzs 1 rfl rfl (by simp [Value.oneCell']) (by omega) (by decide) ?_; intro A2 c2 w3 ho2 hg2 hb3 hz2')
      exact ⟨⟨i + 1, A2, c2, by omega, by go_num, rfl, by rw [HX.out]; exact ho2, hb.trans hb3⟩, by simp [intOf]; omega⟩
    · obtain rfl : i = n := by omega
      have di : decide ((i : Int) < (i : Int)) = false := decide_eq_false (by omega)
      go_wp2_with (fail)
      go_ret
      exact ⟨A3, c3, rfl, o3, hb⟩

set_option maxHeartbeats 2000000 in
set_option maxRecDepth 10000 in
theorem spec_l04Half (n : Nat) (w : World) (hn : n ≤ 100) :
    Calls Tryz.prog 85 #[.int .i64 (n : Int)] w fun e w' => ∃ A' c', e = .returned (.slice A' n c') ∧ OwnC w' w.heap.size w'.heap.size 2 1 A' n c' ((halfl n).map (Value.int .i64)) ∧ Below w.heap.size w w' := by
  obtain ⟨i0, hi0, hz0, hz1, hz2⟩ := info_parts info_int64
  have j1 : IntKind.i64.wrap ((n : Int) - 1) = (n : Int) - 1 := IntWalk.i64_in _ ⟨by omega, by omega⟩
  go_enter Tryz.func85, Tryz.ntmps85
  go_wp2_with (fail)
  go_loopw [3, 4] (fun ov iv wr => ∃ (i : Nat) (A3 : Option Addr) (c3 : Nat), i ≤ n ∧ iv = .int .i64 ((n : Int) - 1 - i) ∧ ov = .slice A3 i c3 ∧ OwnC wr w.heap.size wr.heap.size 2 1 A3 i c3 (((halfl n).take i).map (Value.int .i64)) ∧ Below w.heap.size w wr) (fun _ iv _ => (intOf iv + 1).toNat)
  case atStart =>
    refine ⟨0, some ⟨w.heap.size, 0, none⟩, 0, Nat.zero_le _, by simp, rfl, ?_, by (repeat (first | exact Below.refl _ _ | assumption | apply Below.drew | apply below_drewN | (refine Below.alloc ?_ (by first | omega | (simp; done) | (simp; omega)) _) | (refine Below.setCell ?_ (by first | omega | (simp; done) | (simp; omega)) _)))⟩
    exact (OwnC.lit (w := w) (lo := w.heap.size) (n := 0) 2 1 #[] (Nat.le_refl _) (Nat.zero_le _) rfl).mono (Nat.le_refl _) (by simp)
  case round =>
    clear j1
    obtain ⟨i, A3, c3, hi, rfl, rfl, o3, hb⟩ := hrel
    have hzs := hb.size
    by_cases hin : i < n
    · have HX : Hid (((halfl n).take (i + 1)).map (Value.int .i64) = ((halfl n).take i).map (Value.int .i64) ++ [.int .i64 ((n : Int) - 1 - i)]) := Lib.hid (by rw [halfl_snoc hin]; simp)
      have HE : Hid ((n : Int) - 1 - (i + 1 : Nat) = (n : Int) - 1 - i - 1) := Lib.hid (by omega)
      obtain ⟨v, hv⟩ : ∃ v, v = (n : Int) - 1 - i := ⟨_, rfl⟩
      rw [← hv] at HX HE ⊢
      have hv0 : 0 ≤ v ∧ v ≤ 1000 := by omega
      have HV := Lib.hid hv; clear hv
      have di : decide (v ≥ 0) = true := decide_eq_true (by omega)
      have jv : IntKind.i64.wrap (v - 1) = v - 1 := IntWalk.i64_in _ ⟨by omega, by omega⟩
      go_wp2_with (at_builtin; refine wpList_append1 wr [.int .i64 v] _ rfl (.tmp 12) (.tmp 14) _ rfl 2 i0 _ 1 8 Tryz.underlying24 hi0 hz0 hz1 hz2 rfl (by decide) rfl o3 hzs 1 rfl rfl (by simp [Value.oneCell']) (by omega) (by decide) ?_; intro A2 c2 w3 ho2 hg2 hb3 hz2')
      exact ⟨⟨i + 1, A2, c2, by omega, by rw [HE.out], rfl, by rw [HX.out]; exact ho2, hb.trans hb3⟩, by simp [intOf]; omega⟩
    · obtain rfl : i = n := by omega
      have di : decide ((i : Int) - 1 - (i : Int) ≥ 0) = false := decide_eq_false (by omega)
      go_wp2_with (fail)
      go_ret
      rw [take_all (by rw [Br.halfl_length]; exact Nat.le_refl _)] at o3
      exact ⟨A3, c3, rfl, o3, hb⟩

set_option maxHeartbeats 2000000 in
set_option maxRecDepth 10000 in
theorem spec_l04Start (p : List Int) (A : Option Addr) (c : Nat) (w : World) (h : Ints w A p) (hl : p.length ≤ 100) :
    Calls Tryz.prog 97 #[.slice A p.length c] w fun e w' => ∃ A' c', e = .returned (.slice A' (startsL p).length c') ∧ OwnI w' w.heap.size w'.heap.size A' c' (startsL p) ∧ Below w.heap.size w w' := by
  obtain ⟨i0, hi0, hz0, hz1, hz2⟩ := info_parts info_int64
  have o1 := (OwnC.lit (w := w) (lo := w.heap.size) (n := 0) 2 1 #[] (Nat.le_refl _) (Nat.zero_le _) rfl).mono (Nat.le_refl _) (show w.heap.size + 1 ≤ (w.alloc (.cells #[] 2)).heap.size by simp)
  have O1 := Lib.hid o1; clear o1
  have hb1 : Below w.heap.size w (w.alloc (.cells #[] 2)) := by (repeat (first | exact Below.refl _ _ | assumption | apply Below.drew | apply below_drewN | (refine Below.alloc ?_ (by first | omega | (simp; done) | (simp; omega)) _) | (refine Below.setCell ?_ (by first | omega | (simp; done) | (simp; omega)) _)))
  go_enter Tryz.func97, Tryz.ntmps97
  go_wp2_with (fail)
  go_loopw [3, 4] (fun ov kv wr => ∃ (k : Nat) (A' : Option Addr) (c' : Nat) (out : List Int), k ≤ p.length ∧ kv = .int .i64 ((k : Int) + 1) ∧ ov = .slice A' out.length c' ∧ OwnI wr w.heap.size wr.heap.size A' c' out ∧ Below w.heap.size w wr ∧ Hid (out = stTo p k) ∧ out.length ≤ k ∧ (k = 0 ∨ k + 1 ≤ p.length)) (fun _ kv _ => p.length + 1 - (intOf kv).toNat)
  case atStart => exact ⟨0, some ⟨w.heap.size, 0, none⟩, 0, [], by omega, rfl, rfl, O1.out, hb1, Lib.hid rfl, by simp, .inl rfl⟩
  case round =>
    clear O1 hb1
    obtain ⟨k, A', c', out, hk, rfl, rfl, ho, hb, HD, hol, hke⟩ := hrel
    have hzs := hb.size
    by_cases hkl : k + 1 < p.length
    · have hd0 : decide ((k : Int) + 1 < (p.length : Int)) = true := decide_eq_true (by omega)
      obtain ⟨b, off, a, rfl, ca, ha⟩ := (h.below hb) k (by omega)
      obtain ⟨b', off', bb, hA, cb, hbb⟩ := (h.below hb) (k + 1) hkl
      injection hA with hA
      injection hA with hA1 hA2
      subst hA1 hA2
      have j0 : IntKind.i64.wrap ((k : Int) + 1 - 1) = (k : Int) := by rw [show (k : Int) + 1 - 1 = (k : Int) by omega]; exact IntWalk.i64_in _ (by omega)
      have j1 : (0 : Int) ≤ (k : Int) := by omega
      have j2 : (k : Int) < (p.length : Int) := by omega
      have j3 : (k : Int) + 1 < (p.length : Int) := by omega
      have j4 : (0 : Int) ≤ (k : Int) + 1 := by omega
      have j5 : ((k : Int) + 1).toNat = k + 1 := by omega
      have j6 : IntKind.i64.wrap ((k : Int) + 1 + 1) = ((k + 1 : Nat) : Int) + 1 := by rw [show (k : Int) + 1 + 1 = ((k + 1 : Nat) : Int) + 1 by omega]; exact IntWalk.i64_in _ (by omega)
      have hdB : dB k p = decide (bb < a) := Br.dB_get ha hbb
      have hss := stTo_succ p k
      rw [hdB] at hss
      have hop : out.length ≤ 100 := by omega
      clear ha hbb hdB hke
      by_cases hab : bb < a
      · have hd : decide (bb < a) = true := decide_eq_true hab
        have HD2 : Hid (out ++ [(k : Int) + 1] = stTo p (k + 1)) := Lib.hid (by rw [hss, hd, if_pos rfl, HD.out])
        clear hab hss
        go_wp2_with (fail)
        go_quiet (fail)
        obtain ⟨w7, hw7⟩ : ∃ w7, w7 = World.drewN wr nq := ⟨_, rfl⟩
        have ho7 : OwnI w7 w.heap.size w7.heap.size A' c' out := by rw [hw7]; exact OwnC.drewN ho nq
        have hb7 : Below w.heap.size w w7 := by rw [hw7]; exact below_drewN hb nq
        have hz7 : w.heap.size ≤ w7.heap.size := hb7.size
        rw [← hw7]
        clear hw7 ca cb ho hb hzs
        go_wp2_with (at_builtin; refine wpList_append1 w7 [.int .i64 ((k : Int) + 1)] _ rfl (.tmp 22) (.tmp 24) _ rfl 2 i0 _ 1 8 Tryz.underlying24 hi0 hz0 hz1 hz2 rfl (by decide) rfl ho7 hz7 1 rfl rfl (by simp [Value.oneCell']) (by omega) (by decide) ?_; intro A9 c9 w8 ho8 hg8 hb8 hz8)
        refine ⟨⟨k + 1, A9, c9, out ++ [(k : Int) + 1], by omega, rfl, by simp, ?_, hb7.trans hb8, HD2, by simp; omega, .inr (by omega)⟩, by simp [intOf]; omega⟩
        show OwnC _ _ _ _ _ _ _ _ _
        rw [List.map_append, List.length_append]
        exact ho8
      · have hd : decide (bb < a) = false := decide_eq_false hab
        have HD2 : Hid (out = stTo p (k + 1)) := Lib.hid (by rw [hss, hd, HD.out]; simp)
        clear hab hss
        go_wp2_with (fail)
        go_quiet (fail)
        go_wp2_with (fail)
        exact ⟨⟨k + 1, A', c', out, by omega, rfl, rfl, OwnC.drewN ho _, below_drewN hb _, HD2, by omega, .inr (by omega)⟩, by simp [intOf]; omega⟩
    · have hd0 : decide ((k : Int) + 1 < (p.length : Int)) = false := decide_eq_false (by omega)
      have HF : Hid (out = startsL p) := Lib.hid (by rw [HD.out, startsL, show p.length - 1 = k by omega])
      go_wp2_with (fail)
      go_ret
      refine ⟨A', c', by rw [← HF.out]; rfl, ?_, hb⟩
      rw [← HF.out]
      exact ho

end Go.Proofs.YthjamohaeahipaaGreat

/- Permutations of normal forms, the given side: inverse, last letters, turned, a letter in front and behind, what can be moved. -/
namespace Go.Proofs.YthjamohaeahipaaGreat
open Go Go.RowKit
open Br (idl halfl invl flipl sw bh dB finB lwB Pm)

theorem sw_swapL {k : Nat} {xs : List Int} (h : k + 1 < xs.length) : sw k xs = swapL k xs := by
  obtain ⟨a, x, y, b, rfl, ha⟩ := Br.bi h
  have e1 : (a ++ x :: y :: b)[k]? = some x := by rw [List.getElem?_append_right (by omega), ha, Nat.sub_self]; rfl
  have e2 : (a ++ x :: y :: b)[k + 1]? = some y := by rw [List.getElem?_append_right (by omega), ha, Nat.add_sub_cancel_left]; rfl
  rw [Br.sw_at' ha, swapL_at e1 e2, ← ha, swapL_eq]
theorem invTo_invl {n : Nat} {p : List Int} (h : Pm n p) : invTo p n n = invl p := by
  refine Br.invl_uniq h (invTo_length _ _ _) fun i v hiv => ?_
  have hi : i < n := by rw [← h.len]; exact (List.getElem?_eq_some_iff.1 hiv).1
  have := invTo_at h.len h.nodup (fun x hx => h.mem.1 hx) n (Nat.le_refl _) i (v : Int) hi hiv
  simpa using this
theorem zerosN2 (n : Nat) : (madeCells (Value.int .i64 0).cells (n * 1)).toList = (List.replicate n (0 : Int)).map (Value.int .i64) := by
  apply List.ext_getElem?
  intro i
  simp only [madeCells, Value.cells, Array.toList_map, Array.toList_range, List.getElem?_map, Nat.mul_one]
  by_cases h : i < n
  · rw [List.getElem?_range h, List.getElem?_replicate, if_pos h]
    simp [Nat.mod_one]
  · rw [List.getElem?_eq_none (by simpa using h), List.getElem?_eq_none (by simpa using h)]
    rfl
/-- A store into a cell of slices leaves the numbers as they were. -/
theorem Ints.past {w : World} {A : Option Addr} {xs : List Int} (h : Ints w A xs) {g j : Nat} (hA : ∀ a, A = some a → a.block ≠ g) (u : Value) : Ints (w.setCell ⟨g, j, none⟩ u) A xs := by
  intro k hk
  obtain ⟨b, off, x, hA', hc, hx⟩ := h k hk
  exact ⟨b, off, x, hA', by rw [World.cell?, Below.heap_setCell w _ _ b (by show b ≠ g; exact hA _ hA')]; exact hc, hx⟩

set_option maxHeartbeats 2000000 in
set_option maxRecDepth 10000 in
theorem spec_l04Inverse (n : Nat) (p : List Int) (A : Option Addr) (c : Nat) (w : World) (h : Ints w A p) (hp : Pm n p) (hn : n ≤ 100) :
    Calls Tryz.prog 102 #[.slice A n c] w fun e w' => ∃ A' c', e = .returned (.slice A' n c') ∧ OwnC w' w.heap.size w'.heap.size 2 1 A' n c' ((invl p).map (Value.int .i64)) ∧ Below w.heap.size w w' := by
  obtain ⟨i0, hi0, hz0, hz1, hz2⟩ := info_parts info_int64
  have HP := Lib.hid (invTo_invl hp)
  have HAL := Lib.hid hp.len
  have HAR := Lib.hid (fun x hx => hp.mem.1 hx : ∀ x ∈ p, 0 ≤ x ∧ x < (n : Int))
  have HFAR : Hid (∀ a, A = some a → 0 < p.length → a.block ≠ w.heap.size) := Lib.hid (fun a ha h0 e => by
    obtain ⟨b, off, x, hA, hc, _⟩ := h 0 h0
    rw [hA] at ha
    injection ha with ha
    subst ha
    have := cell_lt hc
    have e' : b = w.heap.size := e
    have h2 : b < w.heap.size := this
    omega)
  clear hp
  go_enter Tryz.func102, Tryz.ntmps102
  go_wp2_with (refine wpList_make_full _ rfl _ _ _ rfl w.heap.size 2 i0 _ 1 Tryz.underlying24 hi0 hz0 hz1 .i64 .i64 _ _ n rfl rfl rfl rfl (by rw [hz2]; omega) (by unfold maxLen; omega) (Nat.le_refl _) ?_; intro w4 hown hg)
  have b4 : Below w.heap.size w w4 := (Below.refl _ _).grown hg (Nat.le_refl _) (by simp)
  have o4 : OwnC w4 w.heap.size w4.heap.size 2 1 (some ⟨w.heap.size, 0, none⟩) n n ((invTo p n 0).map (Value.int .i64)) := by
    have := OwnC.of_own hown (Nat.le_refl _)
    rwa [zerosN2] at this
  have ia4 := h.below b4
  obtain ⟨hi4, hh4⟩ : ∃ hi4, hi4 = w4.heap.size := ⟨_, rfl⟩
  rw [← hh4] at o4
  have hz4 : hi4 ≤ w4.heap.size := by omega
  clear hown hg hh4
  go_loopw [4] (fun iv wr => ∃ i : Nat, i ≤ n ∧ iv = .int .i64 i ∧ OwnC wr w.heap.size hi4 2 1 (some ⟨w.heap.size, 0, none⟩) n n ((invTo p n i).map (Value.int .i64)) ∧ Ints wr A p ∧ Below w.heap.size w wr ∧ hi4 ≤ wr.heap.size) (fun iv _ => n - (intOf iv).toNat)
  case atStart => exact ⟨0, Nat.zero_le _, rfl, o4, ia4, b4, hz4⟩
  case round =>
    clear o4 ia4 b4 hz4
    obtain ⟨i, hi, rfl, ho, hia, hb, hz⟩ := hrel
    by_cases hin : i < n
    · have di : decide ((i : Int) < (n : Int)) = true := decide_eq_true (by omega)
      obtain ⟨b, off, x, hA3, hc, hx⟩ := hia i (by rw [HAL.out]; exact hin)
      have hbg : b ≠ w.heap.size := HFAR.out _ hA3 (by rw [HAL.out]; omega)
      subst hA3
      obtain ⟨hx0, hx1⟩ := HAR.out x (List.mem_of_getElem? hx)
      obtain ⟨v, rfl⟩ := Int.eq_ofNat_of_zero_le hx0
      have hvn : v < n := by omega
      have HI : Hid (invTo p n (i + 1) = (invTo p n i).set v (i : Int)) := Lib.hid (by rw [invTo, getD_of hx, Int.toNat_natCast])
      have hil : (invTo p n i).length = n := invTo_length p n i
      obtain ⟨yy, hy⟩ : ∃ yy, (invTo p n i)[v]? = some yy := ⟨_, List.getElem?_eq_getElem (by omega)⟩
      obtain ⟨cy, fy, gy, _⟩ := own_at (show OwnI wr w.heap.size hi4 (some ⟨w.heap.size, 0, none⟩) n (invTo p n i) from by show OwnC _ _ _ _ _ _ _ _ _; rw [hil]; exact ho) hy
      have HIL := Lib.hid hil; clear hil hy
      have j1 : (0 : Int) ≤ (i : Int) := by omega
      have j3 : (0 : Int) ≤ (v : Int) := by omega
      have j4 : (v : Int) < (n : Int) := by omega
      have j5 : IntKind.i64.wrap (v : Int) = (v : Int) := IntWalk.i64_in _ ⟨by omega, by omega⟩
      have j6 : (i : Int) < (n : Int) := by omega
      clear hx
      go_wp2_with (fail)
      refine ⟨⟨i + 1, by omega, by go_num, ?_, ?_, hb.setCell (Nat.le_refl _) _, by simpa using hz⟩, by simp [intOf]; omega⟩
      · rw [HI.out, List.map_set]
        exact (OwnC.store ho _).1
      · exact hia.past (fun a ha => by injection ha with ha; subst ha; exact hbg) _
    · obtain rfl : i = n := by omega
      have di : decide ((i : Int) < (i : Int)) = false := decide_eq_false (by omega)
      go_wp2_with (fail)
      go_ret
      refine ⟨some ⟨w.heap.size, 0, none⟩, i, rfl, ?_, hb⟩
      rw [← HP.out]
      exact OwnC.mono ho (Nat.le_refl _) hz

theorem spec_l04Start_n {n : Nat} (p : List Int) (A : Option Addr) (c : Nat) (w : World) (h : Ints w A p) (hl : p.length = n) (hn : n ≤ 100) :
    Calls Tryz.prog 97 #[.slice A n c] w fun e w' => ∃ A' c', e = .returned (.slice A' (startsL p).length c') ∧ OwnI w' w.heap.size w'.heap.size A' c' (startsL p) ∧ Below w.heap.size w w' := by
  subst hl
  exact spec_l04Start p A c w h hn
theorem spec_l04Finish (n : Nat) (p : List Int) (A : Option Addr) (c : Nat) (w : World) (h : Ints w A p) (hp : Pm n p) (hn : n ≤ 100) :
    Calls Tryz.prog 96 #[.slice A n c] w fun e w' => ∃ A' c', e = .returned (.slice A' (startsL (invl p)).length c') ∧ OwnI w' w.heap.size w'.heap.size A' c' (startsL (invl p)) ∧ Below w.heap.size w w' := by
  go_enter Tryz.func96, Tryz.ntmps96
  go_wp2_with (fail)
  refine (spec_l04Inverse n p A c w h hp hn).mono ?_; rintro e w1 ⟨A1, c1, rfl, o1, b1⟩
  have HL := Lib.hid ((Br.invl_length p).trans hp.len)
  go_wp2_with (fail)
  refine (spec_l04Start_n (n := n) (invl p) A1 c1 w1 (OwnC.ints o1) HL.out hn).mono ?_; rintro e w2 ⟨A2, c2, rfl, o2, b2⟩
  go_wp2_with (fail)
  go_ret
  exact ⟨A2, c2, rfl, o2.mono b1.size (Nat.le_refl _), b1.trans (b2.mono b1.size)⟩

theorem spec_l00Own_n {n : Nat} (A : Option Addr) (c : Nat) (p : List Int) (w : World) (h : Ints w A p) (hl : p.length = n) (hn : n ≤ 100) :
    Calls Tryz.prog 62 #[.slice A n c] w fun e w' => ∃ A' c', e = .returned (.slice A' n c') ∧ OwnC w' w.heap.size w'.heap.size 2 1 A' n c' (p.map (Value.int .i64)) ∧ Below w.heap.size w w' := by
  subst hl
  exact spec_l00Own A c p w h (by omega)

set_option maxHeartbeats 2000000 in
set_option maxRecDepth 10000 in
theorem spec_l04Before (n j : Nat) (p : List Int) (A : Option Addr) (c : Nat) (w : World) (h : Ints w A p) (hl : p.length = n) (hj : j + 1 < n) (hn : n ≤ 100) :
    Calls Tryz.prog 92 #[.int .i64 ((j : Int) + 1), .slice A n c] w fun e w' => ∃ A' c', e = .returned (.slice A' n c') ∧ OwnC w' w.heap.size w'.heap.size 2 1 A' n c' ((sw j p).map (Value.int .i64)) ∧ Below w.heap.size w w' := by
  have HS := Lib.hid (sw_swapL (k := j) (xs := p) (by omega))
  obtain ⟨b, off, x, hA, hc, hx⟩ := h j (by omega)
  obtain ⟨b', off', y, hA', hc', hy⟩ := h (j + 1) (by omega)
  subst hA
  injection hA' with hA'
  injection hA' with e1 e2
  subst e1 e2
  have HC0 : Hid (Calls Tryz.prog 62 #[.slice (some ⟨b, off, none⟩) n c] w fun e w' => ∃ A' c', e = .returned (.slice A' n c') ∧ OwnC w' w.heap.size w'.heap.size 2 1 A' n c' (p.map (Value.int .i64)) ∧ Below w.heap.size w w') := Lib.hid (spec_l00Own_n _ c p w h hl hn)
  have j1 : IntKind.i64.wrap ((j : Int) + 1 - 1) = (j : Int) := by rw [show (j : Int) + 1 - 1 = (j : Int) by omega]; exact IntWalk.i64_in _ (by omega)
  have j2 : (0 : Int) ≤ (j : Int) := by omega
  have j3 : (j : Int) < (n : Int) := by omega
  have j4 : (0 : Int) ≤ (j : Int) + 1 := by omega
  have j5 : (j : Int) + 1 < (n : Int) := by omega
  have j6 : ((j : Int) + 1).toNat = j + 1 := by omega
  have HL := Lib.hid hl; clear hl
  go_enter Tryz.func92, Tryz.ntmps92
  go_wp2_with (fail)
  refine HC0.out.mono ?_; rintro e w1 ⟨A1, c1, rfl, o1, b1⟩
  obtain ⟨g, rfl⟩ := OwnC.head o1 (by omega)
  have o1' : OwnI w1 w.heap.size w1.heap.size (some ⟨g, 0, none⟩) c1 p := by show OwnC _ _ _ _ _ _ _ _ _; rw [HL.out]; exact o1
  obtain ⟨ca, fa, ga, gb⟩ := own_at o1' hx
  obtain ⟨cb, fb, _, _⟩ := own_at o1' hy
  have HSL := Lib.hid (own_swap o1' hx hy)
  have q0 := cells_below b1 _ _ hc
  have q1 := cells_below b1 _ _ hc'
  have hbw : b < w.heap.size := cell_lt hc
  have hbg : ¬ b = g := by omega
  have hgb : ¬ g = b := by omega
  clear o1 o1' hx hy
  go_wp2_with (fail)
  go_ret
  refine ⟨some ⟨g, 0, none⟩, c1, rfl, ?_, (b1.setCell (by show w.heap.size ≤ g; omega) _).setCell (by show w.heap.size ≤ g; omega) _⟩
  have := HSL.out
  rw [← HS.out] at this
  have h2 : OwnC _ _ _ _ _ _ _ _ _ := this
  rw [Br.sw_length, HL.out] at h2
  simpa using h2

theorem fv_take {k : Nat} {p : List Int} {i : Nat} {x : Int} (h : p[i]? = some x) : (bh k (p.take i) ++ p.drop i).set i (Br.fv k x) = bh k (p.take (i + 1)) ++ p.drop (i + 1) := by
  have hi : i < p.length := (List.getElem?_eq_some_iff.1 h).1
  have hl : (bh k (p.take i)).length = i := by rw [bh, List.length_map, List.length_take]; omega
  rw [take_snoc h, drop_cons h, List.set_append_right _ _ (by omega), hl, Nat.sub_self, List.set_cons_zero]
  simp [bh]
set_option maxHeartbeats 4000000 in
set_option maxRecDepth 10000 in
theorem spec_l04Behind (n j : Nat) (p : List Int) (A : Option Addr) (c : Nat) (w : World) (h : Ints w A p) (hl : p.length = n) (hj : j ≤ 1000) (hn : n ≤ 100) :
    Calls Tryz.prog 82 #[.slice A n c, .int .i64 ((j : Int) + 1)] w fun e w' => ∃ A' c', e = .returned (.slice A' n c') ∧ OwnC w' w.heap.size w'.heap.size 2 1 A' n c' ((bh j p).map (Value.int .i64)) ∧ Below w.heap.size w w' := by
  have HC0 : Hid (Calls Tryz.prog 62 #[.slice A n c] w fun e w' => ∃ A' c', e = .returned (.slice A' n c') ∧ OwnC w' w.heap.size w'.heap.size 2 1 A' n c' (p.map (Value.int .i64)) ∧ Below w.heap.size w w') := Lib.hid (spec_l00Own_n _ c p w h hl hn)
  have j1 : IntKind.i64.wrap ((j : Int) + 1 - 1) = (j : Int) := by rw [show (j : Int) + 1 - 1 = (j : Int) by omega]; exact IntWalk.i64_in _ (by omega)
  have HL := Lib.hid hl; clear hl
  go_enter Tryz.func82, Tryz.ntmps82
  go_wp2_with (fail)
  refine HC0.out.mono ?_; rintro e w1 ⟨A1, c1, rfl, o1, b1⟩
  obtain ⟨hi1, hh1⟩ : ∃ hi1, hi1 = w1.heap.size := ⟨_, rfl⟩
  rw [← hh1] at o1
  have hz1 : hi1 ≤ w1.heap.size := by omega
  clear hh1
  go_wp2_with (fail)
  go_loopw [6] (fun iv wr => ∃ i : Nat, i ≤ n ∧ iv = .int .i64 (i : Int) ∧ OwnC wr w.heap.size hi1 2 1 A1 n c1 ((bh j (p.take i) ++ p.drop i).map (Value.int .i64)) ∧ Below w.heap.size w wr ∧ hi1 ≤ wr.heap.size) (fun iv _ => n - (intOf iv).toNat)
  case atStart => exact ⟨0, Nat.zero_le _, rfl, by simpa [bh] using o1, b1, hz1⟩
  case round =>
    clear o1 b1 hz1
    obtain ⟨i, hi, rfl, ho, hb, hz⟩ := hrel
    by_cases hin : i < n
    · have di : decide ((i : Int) < (n : Int)) = true := decide_eq_true (by omega)
      obtain ⟨b, off, x, rfl, hc, hx⟩ := h i (by rw [HL.out]; exact hin)
      obtain ⟨g, rfl⟩ := OwnC.head ho (by omega)
      have hF := fv_take (k := j) hx
      have hlen : (bh j (p.take i) ++ p.drop i).length = n := by rw [List.length_append, bh, List.length_map, List.length_take, List.length_drop, HL.out]; omega
      have hget : (bh j (p.take i) ++ p.drop i)[i]? = some x := by
        rw [List.getElem?_append_right (by rw [bh, List.length_map, List.length_take, HL.out]; omega), bh, List.length_map, List.length_take, HL.out, Nat.min_eq_left hi, Nat.sub_self, drop_cons hx]
        rfl
      obtain ⟨cy, fy, gy, gy2⟩ := own_at (show OwnI wr w.heap.size hi1 (some ⟨g, 0, none⟩) c1 (bh j (p.take i) ++ p.drop i) from by show OwnC _ _ _ _ _ _ _ _ _; rw [hlen]; exact ho) hget
      have q0 := cells_below hb _ _ hc
      have hbw : b < w.heap.size := cell_lt hc
      have hbg : ¬ b = g := by omega
      have hgb : ¬ g = b := by omega
      have k1 : (0 : Int) ≤ (i : Int) := by omega
      have k2 : (i : Int) < (n : Int) := by omega
      have HST : Hid (∀ u, OwnC (wr.setCell ⟨g, i, none⟩ u) w.heap.size hi1 2 1 (some ⟨g, 0, none⟩) n c1 (((bh j (p.take i) ++ p.drop i).map (Value.int .i64)).set i u)) := Lib.hid (fun u => (OwnC.store ho u).1)
      have HF := Lib.hid hF; clear hF
      have HBF := Lib.hid hx; clear hx hget hlen hc
      by_cases h1 : x = (j : Int)
      · have e1 : (x == (j : Int)) = true := by rw [h1]; simp
        have e2 : (x == (j : Int) + 1) = false := by rw [beq_eq_false_iff_ne]; omega
        have HV : Hid (Br.fv j x = (j : Int) + 1) := Lib.hid (by rw [h1, Br.fv_k])
        clear h1
        go_wp2_with (fail)
        refine ⟨⟨i + 1, by omega, by go_num, ?_, hb.setCell (by show w.heap.size ≤ g; omega) _, by simpa using hz⟩, by simp [intOf]; omega⟩
        rw [← HF.out, HV.out, List.map_set]
        exact HST.out _
      · have e1 : (x == (j : Int)) = false := by rw [beq_eq_false_iff_ne]; exact h1
        by_cases h2 : x = (j : Int) + 1
        · have e2 : (x == (j : Int) + 1) = true := by rw [h2]; simp
          have HV : Hid (Br.fv j x = (j : Int)) := Lib.hid (by rw [h2, Br.fv_k1])
          clear h1 h2
          go_wp2_with (fail)
          refine ⟨⟨i + 1, by omega, by go_num, ?_, hb.setCell (by show w.heap.size ≤ g; omega) _, by simpa using hz⟩, by simp [intOf]; omega⟩
          rw [← HF.out, HV.out, List.map_set]
          exact HST.out _
        · have e2 : (x == (j : Int) + 1) = false := by rw [beq_eq_false_iff_ne]; exact h2
          have HV : Hid (Br.fv j x = x) := Lib.hid (by rw [Br.fv, if_neg h1, if_neg h2])
          clear h1 h2
          go_wp2_with (fail)
          refine ⟨⟨i + 1, by omega, by go_num, ?_, hb, hz⟩, by simp [intOf]; omega⟩
          rw [← HF.out, HV.out]
          have e3 : (bh j (p.take i) ++ p.drop i).set i x = bh j (p.take i) ++ p.drop i := by
            rw [HV.out] at HF
            have hl1 : (bh j (p.take i)).length = i := by rw [bh, List.length_map, List.length_take, HL.out]; omega
            rw [List.set_append_right _ _ (by omega), hl1, Nat.sub_self, drop_cons HBF.out, List.set_cons_zero]
          rw [e3]
          exact ho
    · obtain rfl : i = n := by omega
      have di : decide ((i : Int) < (i : Int)) = false := decide_eq_false (by omega)
      go_wp2_with (fail)
      go_ret
      rw [take_all (by rw [HL.out]; exact Nat.le_refl _), List.drop_eq_nil_of_le (by rw [HL.out]; exact Nat.le_refl _), List.append_nil] at ho
      exact ⟨A1, c1, rfl, OwnC.mono ho (Nat.le_refl _) hz, hb⟩

end Go.Proofs.YthjamohaeahipaaGreat

/- Lists of permutations, the given side: the outer slice is the call's own, the inner ones are read; turned lists, what can be moved. -/
namespace Go.Proofs.YthjamohaeahipaaGreat
open Go Go.RowKit
open Br (idl halfl invl flipl sw bh dB finB lwB Pm)

/-- The cells of a list of permutations of n numbers. -/
def CR (w : World) (n : Nat) (cs : List Value) (F : List (List Int)) : Prop :=
  cs.length = F.length ∧ ∀ (k : Nat) (p : List Int), F[k]? = some p → ∃ (A' : Option Addr) (c' : Nat), cs[k]? = some (Value.slice A' n c') ∧ OwnC w 0 w.heap.size 2 1 A' n c' (p.map (Value.int .i64)) ∧ p.length = n
section
variable {w w' : World} {n : Nat} {cs : List Value} {F : List (List Int)}
theorem CR.keepC (h : CR w n cs F) (hz : w.heap.size ≤ w'.heap.size) (hk : ∀ (A' : Option Addr) (c' : Nat) (p : List Int), OwnC w 0 w.heap.size 2 1 A' n c' (p.map (Value.int .i64)) → OwnC w' 0 w.heap.size 2 1 A' n c' (p.map (Value.int .i64))) : CR w' n cs F :=
  ⟨h.1, fun k p hp => by obtain ⟨A', c', h1, h2, h3⟩ := h.2 k p hp; exact ⟨A', c', h1, (hk _ _ _ h2).mono (Nat.le_refl _) hz, h3⟩⟩
theorem CR.below (h : CR w n cs F) (hb : Below w.heap.size w w') : CR w' n cs F := h.keepC hb.size fun _ _ _ ho => ho.below hb (Nat.le_refl _)
theorem CR.nil : CR w n [] [] := ⟨rfl, fun k p h => by simp at h⟩
theorem CR.snoc {A2 : Option Addr} {c2 : Nat} {q : List Int} (h : CR w n cs F) (ho : OwnC w 0 w.heap.size 2 1 A2 n c2 (q.map (Value.int .i64))) (hq : q.length = n) : CR w n (cs ++ [.slice A2 n c2]) (F ++ [q]) := by
  refine ⟨by simp [h.1], fun k p hp => ?_⟩
  by_cases hk : k < F.length
  · rw [List.getElem?_append_left hk] at hp
    obtain ⟨A', c', h1, h2, h3⟩ := h.2 k p hp
    exact ⟨A', c', by rw [List.getElem?_append_left (by rw [h.1]; exact hk)]; exact h1, h2, h3⟩
  · rw [List.getElem?_append_right (by omega)] at hp
    have hk0 : k = F.length := by
      have := (List.getElem?_eq_some_iff.1 hp).1
      simp at this
      omega
    subst hk0
    rw [Nat.sub_self] at hp
    injection hp with hp
    subst hp
    exact ⟨A2, c2, by rw [List.getElem?_append_right (by rw [h.1]; exact Nat.le_refl _), h.1, Nat.sub_self]; rfl, ho, hq⟩
theorem CR.set {A2 : Option Addr} {c2 k : Nat} {q : List Int} (h : CR w n cs F) (hk : k < F.length) (ho : OwnC w 0 w.heap.size 2 1 A2 n c2 (q.map (Value.int .i64))) (hq : q.length = n) : CR w n (cs.set k (.slice A2 n c2)) (F.set k q) := by
  refine ⟨by simp [h.1], fun j p hp => ?_⟩
  by_cases e : k = j
  · subst e
    rw [List.getElem?_set_self hk] at hp
    injection hp with hp
    subst hp
    exact ⟨A2, c2, by rw [List.getElem?_set_self (by rw [h.1]; exact hk)], ho, hq⟩
  · rw [List.getElem?_set_ne e] at hp
    obtain ⟨A', c', h1, h2, h3⟩ := h.2 j p hp
    exact ⟨A', c', by rw [List.getElem?_set_ne e]; exact h1, h2, h3⟩
theorem CR.farT {g : Nat} {bs : Array Value} (h : CR w n cs F) (hb : Blk w g 24 bs) (j : Nat) (u : Value) : CR (w.setCell ⟨g, j, none⟩ u) n cs F :=
  h.keepC (by simp) fun _ _ _ ho => ho.farT hb (by decide) j u
theorem CR.grownT {lo2 hi2 sz2 n2 c2 : Nat} {B : Option Addr} {cs2 : List Value} (h : CR w n cs F) (h2 : OwnC w lo2 hi2 24 sz2 B n2 c2 cs2) (hg : w.grownBy w' (Value.slice B n2 c2).ownBlock) : CR w' n cs F :=
  h.keepC hg.size fun _ _ _ ho => OwnC.grownT ho h2 (by decide) hg
end
/-- A list of permutations whose outer slice is the call's own. -/
def PRows (w : World) (lo n : Nat) (A : Option Addr) (m c : Nat) (F : List (List Int)) : Prop := ∃ cs, OwnC w lo w.heap.size 24 1 A m c cs ∧ CR w n cs F
section
variable {w w' : World} {lo n m c : Nat} {A : Option Addr} {F : List (List Int)}
theorem PRows.len (h : PRows w lo n A m c F) : F.length = m := by
  obtain ⟨cs, h1, h2⟩ := h
  have := h1.len
  rw [h2.1] at this
  omega
theorem PRows.below (h : PRows w lo n A m c F) (hb : Below w.heap.size w w') : PRows w' lo n A m c F := by
  obtain ⟨cs, h1, h2⟩ := h
  exact ⟨cs, (h1.below hb (Nat.le_refl _)).mono (Nat.le_refl _) hb.size, h2.below hb⟩
theorem PRows.drewN (h : PRows w lo n A m c F) (k : Nat) : PRows (w.drewN k) lo n A m c F := h.below (below_drewN (Below.refl _ _) k)
theorem PRows.get (h : PRows w lo n A m c F) {k : Nat} {p : List Int} (hp : F[k]? = some p) : ∃ g A' c', A = some ⟨g, 0, none⟩ ∧ lo ≤ g ∧ g < w.heap.size ∧ w.cell? ⟨g, k, none⟩ = some (.slice A' n c') ∧ w.frozen? ⟨g, k, none⟩ = false ∧ Ints w A' p ∧ p.length = n ∧ OwnC w 0 w.heap.size 2 1 A' n c' (p.map (Value.int .i64)) := by
  obtain ⟨cs, h1, h2⟩ := h
  obtain ⟨A', c', h3, h4, h5⟩ := h2.2 k p hp
  have hk := (List.getElem?_eq_some_iff.1 h3).1
  obtain ⟨g, hA, hg1, hg2, hc, hf⟩ := h1.cell hk
  have := (List.getElem?_eq_some_iff.1 h3).2
  rw [this] at hc
  exact ⟨g, A', c', hA, hg1, hg2, hc, hf, OwnC.ints h4, h5, h4⟩
theorem PRows.put {g k c2 : Nat} {A2 : Option Addr} {q : List Int} (h : PRows w lo n (some ⟨g, 0, none⟩) m c F) (hk : k < F.length) (ho : OwnC w 0 w.heap.size 2 1 A2 n c2 (q.map (Value.int .i64))) (hq : q.length = n) :
    PRows (w.setCell ⟨g, k, none⟩ (.slice A2 n c2)) lo n (some ⟨g, 0, none⟩) m c (F.set k q) := by
  obtain ⟨cs, h1, h2⟩ := h
  rcases h1.form with ⟨hA, _⟩ | ⟨g', cur, hA, _, _, hh, _⟩
  · cases hA
  · injection hA with hA
    injection hA with hA
    subst hA
    have h3 := (h2.set hk ho hq).farT (show Blk w g 24 cur from hh) k (.slice A2 n c2)
    exact ⟨_, (h1.store _).1.mono (Nat.le_refl _) (by simp), h3⟩
theorem PRows.cap (h : PRows w lo n A m c F) : m ≤ c ∧ c ≤ 9223372036854775807 := by
  obtain ⟨cs, h1, _⟩ := h
  exact ⟨h1.cap, h1.capmax⟩
theorem PRows.push {cs : List Value} {w8 : World} {A9 A2 : Option Addr} {c9 c2 : Nat} {q : List Int} (ho : OwnC w lo w.heap.size 24 1 A m c cs) (hc : CR w n cs F) (h2 : OwnC w 0 w.heap.size 2 1 A2 n c2 (q.map (Value.int .i64))) (hq : q.length = n)
    (ho8 : OwnC w8 lo w8.heap.size 24 1 A9 (m + 1) c9 (cs ++ [.slice A2 n c2])) (hg : (w.alloc (.cells #[.slice A2 n c2] 24)).grownBy w8 (Value.slice A m c).ownBlock) : PRows w8 lo n A9 (m + 1) c9 (F ++ [q]) := by
  have hb : Below w.heap.size w (w.alloc (.cells #[.slice A2 n c2] 24)) := (Below.refl _ _).alloc (Nat.le_refl _) _
  have h3 := hc.snoc h2 hq
  exact ⟨_, ho8, (h3.below hb).grownT (OwnC.alloc ho (.cells #[.slice A2 n c2] 24)) hg⟩
theorem PRows.nil (A : Option Addr) (hA : A = none) : PRows w lo n A 0 0 [] := ⟨[], by subst hA; exact OwnC.nil _ _ _ _ _, CR.nil⟩
end
theorem info_intsI : (Tryz.prog.info? 24).map (fun i => (i.zero, i.size, i.bytes)) = some (some (.slice none 0 0), 1, 24) := by kernel_rfl

theorem flip_at {p : List Int} {i : Nat} {x : Int} (hi : i < p.length) (h : p[p.length - 1 - i]? = some x) : (flipl p)[i]? = some ((p.length : Int) - 1 - x) := by
  unfold flipl
  rw [List.getElem?_reverse (by rw [List.length_map]; exact hi), List.length_map, List.getElem?_map, h]
  rfl
theorem flip_length (p : List Int) : (flipl p).length = p.length := by simp [flipl]
set_option maxHeartbeats 2000000 in
set_option maxRecDepth 10000 in
theorem spec_l04Flip (n : Nat) (p : List Int) (A : Option Addr) (c : Nat) (w : World) (h : Ints w A p) (hp : Pm n p) (hn : n ≤ 100) :
    Calls Tryz.prog 90 #[.slice A n c] w fun e w' => ∃ A' c', e = .returned (.slice A' n c') ∧ OwnC w' w.heap.size w'.heap.size 2 1 A' n c' ((flipl p).map (Value.int .i64)) ∧ Below w.heap.size w w' := by
  obtain ⟨i0, hi0, hz0, hz1, hz2⟩ := info_parts info_int64
  have HAL := Lib.hid hp.len
  have HAR := Lib.hid (fun x hx => hp.mem.1 hx : ∀ x ∈ p, 0 ≤ x ∧ x < (n : Int))
  have HFL := Lib.hid ((flip_length p).trans hp.len)
  have HFA := Lib.hid (fun i x hi hx => flip_at hi hx : ∀ (i : Nat) (x : Int), i < p.length → p[p.length - 1 - i]? = some x → (flipl p)[i]? = some ((p.length : Int) - 1 - x))
  have HFAR : Hid (∀ a, A = some a → 0 < p.length → a.block ≠ w.heap.size) := Lib.hid (fun a ha h0 e => by
    obtain ⟨b, off, x, hA, hc, _⟩ := h 0 h0
    rw [hA] at ha
    injection ha with ha
    subst ha
    have := cell_lt hc
    have e' : b = w.heap.size := e
    have h2 : b < w.heap.size := this
    omega)
  clear hp
  have w1 : IntKind.i64.wrap ((n : Int) - 1) = (n : Int) - 1 := IntWalk.i64_in _ ⟨by omega, by omega⟩
  go_enter Tryz.func90, Tryz.ntmps90
  go_wp2_with (refine wpList_make_full _ rfl _ _ _ rfl w.heap.size 2 i0 _ 1 Tryz.underlying24 hi0 hz0 hz1 .i64 .i64 _ _ n rfl rfl rfl rfl (by rw [hz2]; omega) (by unfold maxLen; omega) (Nat.le_refl _) ?_; intro w4 hown hg)
  have b4 : Below w.heap.size w w4 := (Below.refl _ _).grown hg (Nat.le_refl _) (by simp)
  have o4 := OwnC.of_own hown (Nat.le_refl _)
  rw [zerosN2] at o4
  have ia4 := h.below b4
  obtain ⟨hi4, hh4⟩ : ∃ hi4, hi4 = w4.heap.size := ⟨_, rfl⟩
  rw [← hh4] at o4
  have hz4 : hi4 ≤ w4.heap.size := by omega
  clear hown hg hh4
  go_loopw [5] (fun iv wr => ∃ (i : Nat) (cs : List Int), i ≤ n ∧ iv = .int .i64 i ∧ OwnC wr w.heap.size hi4 2 1 (some ⟨w.heap.size, 0, none⟩) n n (cs.map (Value.int .i64)) ∧ Hid (cs.length = n ∧ cs.take i = (flipl p).take i) ∧ Ints wr A p ∧ Below w.heap.size w wr ∧ hi4 ≤ wr.heap.size) (fun iv _ => n - (intOf iv).toNat)
  case atStart => exact ⟨0, _, Nat.zero_le _, rfl, o4, Lib.hid ⟨by simp, by simp⟩, ia4, b4, hz4⟩
  case round =>
    clear o4 ia4 b4 hz4
    obtain ⟨i, cs, hi, rfl, ho, HCS, hia, hb, hz⟩ := hrel
    by_cases hin : i < n
    · have di : decide ((i : Int) < (n : Int)) = true := decide_eq_true (by omega)
      obtain ⟨b, off, x, hA3, hc, hx⟩ := hia (n - 1 - i) (by rw [HAL.out]; omega)
      have hbg : b ≠ w.heap.size := HFAR.out _ hA3 (by rw [HAL.out]; omega)
      subst hA3
      obtain ⟨hx0, hx1⟩ := HAR.out x (List.mem_of_getElem? hx)
      have hfx := HFA.out i x (by rw [HAL.out]; exact hin) (by rw [HAL.out]; exact hx)
      rw [HAL.out] at hfx
      have hcl := HCS.out.1
      obtain ⟨yy, hy⟩ : ∃ yy, cs[i]? = some yy := ⟨_, List.getElem?_eq_getElem (by omega)⟩
      obtain ⟨cy, fy, gy, _⟩ := own_at (show OwnI wr w.heap.size hi4 (some ⟨w.heap.size, 0, none⟩) n cs from by show OwnC _ _ _ _ _ _ _ _ _; rw [hcl]; exact ho) hy
      have HCS2 : Hid ((cs.set i ((n : Int) - 1 - x)).length = n ∧ (cs.set i ((n : Int) - 1 - x)).take (i + 1) = (flipl p).take (i + 1)) := Lib.hid ⟨by simpa using hcl, by rw [take_set_succ _ _ _ (by omega), HCS.out.2, take_snoc hfx]⟩
      clear hcl hy hfx
      obtain ⟨m, hm⟩ : ∃ m, m = n - 1 - i := ⟨_, rfl⟩
      rw [← hm] at hc hx
      have hmn : (n : Int) - 1 - (i : Int) = (m : Int) := by omega
      have w2 : IntKind.i64.wrap ((n : Int) - 1 - (i : Int)) = (m : Int) := by rw [hmn]; exact IntWalk.i64_in _ ⟨by omega, by omega⟩
      have w3 : IntKind.i64.wrap ((n : Int) - 1 - x) = (n : Int) - 1 - x := IntWalk.i64_in _ ⟨by omega, by omega⟩
      have j1 : (0 : Int) ≤ (i : Int) := by omega
      have j3 : (0 : Int) ≤ (m : Int) := by omega
      have j4 : (m : Int) < (n : Int) := by omega
      have j6 : (i : Int) < (n : Int) := by omega
      clear hx hm hmn
      go_wp2_with (fail)
      refine ⟨⟨i + 1, cs.set i ((n : Int) - 1 - x), by omega, by go_num, ?_, HCS2, ?_, hb.setCell (Nat.le_refl _) _, by simpa using hz⟩, by simp [intOf]; omega⟩
      · rw [List.map_set]
        exact (OwnC.store ho _).1
      · exact hia.past (fun a ha => by injection ha with ha; subst ha; exact hbg) _
    · obtain rfl : i = n := by omega
      have di : decide ((i : Int) < (i : Int)) = false := decide_eq_false (by omega)
      go_wp2_with (fail)
      go_ret
      refine ⟨some ⟨w.heap.size, 0, none⟩, i, rfl, ?_, hb⟩
      have e := HCS.out.2
      rw [take_all (by rw [HCS.out.1]; exact Nat.le_refl _), take_all (by rw [HFL.out]; exact Nat.le_refl _)] at e
      rw [← e]
      exact OwnC.mono ho (Nat.le_refl _) hz

set_option maxHeartbeats 2000000 in
set_option maxRecDepth 10000 in
theorem spec_l04Extra (n : Nat) (p q : List Int) (A B : Option Addr) (c d : Nat) (w : World) (h : Ints w A p) (h' : Ints w B q) (hp : Pm n p) (hq : Pm n q) (hn : n ≤ 100) :
    Calls Tryz.prog 91 #[.slice A n c, .slice B n d] w fun e w' => ∃ k : Int, e = .returned (.int .i64 k) ∧ ((k = 0 ∧ lwB p q) ∨ ∃ j : Nat, k = (j : Int) + 1 ∧ dB j q = true ∧ finB j p = false) ∧ Below w.heap.size w w' := by
  go_enter Tryz.func91, Tryz.ntmps91
  go_wp2_with (fail)
  refine (spec_l04Finish n p A c w h hp hn).mono ?_; rintro e w1 ⟨A1, c1, rfl, o1, b1⟩
  have i1 := OwnC.ints o1
  go_wp2_with (fail)
  refine (spec_l04Start_n (n := n) q B d w1 (h'.below b1) hq.len hn).mono ?_; rintro e w2 ⟨A2, c2, rfl, o2, b2⟩
  have i2 := OwnC.ints o2
  have i12 := i1.below b2
  have B2 : Below w.heap.size w w2 := b1.trans (b2.mono b1.size)
  have hls : (startsL q).length ≤ 100 := by have := startsL_length q; have := hq.len; omega
  have hlf : (startsL (invl p)).length ≤ 100 := by have := startsL_length (invl p); have := Br.invl_length p; have := hp.len; omega
  have HMS := Lib.hid (fun x => startsL_mem (p := q) (x := x))
  have HMF := Lib.hid (fun x => startsL_mem (p := invl p) (x := x))
  clear o1 o2 b1 b2 i1 h h' hp hq
  generalize startsL q = L at *
  generalize startsL (invl p) = E at *
  go_wp2_with (fail)
  go_loopw [7] (fun iv wr => ∃ i : Nat, i ≤ L.length ∧ iv = .int .i64 (i : Int) ∧ Hid (∀ x ∈ L.take i, x ∈ E) ∧ w2 = wr) (fun iv _ => L.length - (intOf iv).toNat)
  case atStart => exact ⟨0, Nat.zero_le _, rfl, Lib.hid (by simp), rfl⟩
  case round =>
    obtain ⟨i, hi, rfl, HI, rfl⟩ := hrel
    by_cases hil : i < L.length
    · have di : decide ((i : Int) < (L.length : Int)) = true := decide_eq_true (by omega)
      obtain ⟨b, off, x, rfl, hc, hx⟩ := i2 i hil
      have j1 : (0 : Int) ≤ (i : Int) := by omega
      have j2 : (i : Int) < (L.length : Int) := by omega
      have HX := Lib.hid hx; clear hx
      cases hm : decide (x ∈ E)
      · go_wp2_with (go_at_call 98; refine (spec_l00Has _ _ E x _ i12 (by omega)).mono ?_; rintro e _ ⟨rfl, rfl⟩; rw [hm])
        go_ret
        obtain ⟨j, hj1, hj2⟩ := (HMS.out x).1 (List.mem_of_getElem? HX.out)
        refine ⟨x, rfl, .inr ⟨j, hj1, hj2, ?_⟩, B2⟩
        cases hf : finB j p
        · rfl
        · exact absurd ((HMF.out x).2 ⟨j, hj1, hf⟩) (of_decide_eq_false hm)
      · have HI2 : Hid (∀ x ∈ L.take (i + 1), x ∈ E) := Lib.hid (by
          rw [take_snoc HX.out]
          intro y hy
          rcases List.mem_append.1 hy with hy | hy
          · exact HI.out y hy
          · rw [List.mem_singleton] at hy
            subst hy
            exact of_decide_eq_true hm)
        go_wp2_with (go_at_call 98; refine (spec_l00Has _ _ E x _ i12 (by omega)).mono ?_; rintro e _ ⟨rfl, rfl⟩; rw [hm])
        go_roundw
        case rel => exact ⟨i + 1, by omega, by go_num, HI2, trivial⟩
        case measure => simp [intOf]; omega
    · have di : decide ((i : Int) < (L.length : Int)) = false := decide_eq_false (by omega)
      go_wp2_with (fail)
      go_ret
      refine ⟨0, rfl, .inl ⟨rfl, fun j hj => ?_⟩, B2⟩
      have h1 := HI.out
      rw [take_all (by omega)] at h1
      obtain ⟨j', e1, e2⟩ := (HMF.out _).1 (h1 _ ((HMS.out _).2 ⟨j, rfl, hj⟩))
      have : j' = j := by omega
      subst this
      exact e2

end Go.Proofs.YthjamohaeahipaaGreat
