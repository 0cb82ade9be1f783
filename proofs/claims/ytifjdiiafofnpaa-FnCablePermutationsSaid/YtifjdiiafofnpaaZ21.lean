/- Steps of the proof, joined from several texts: ZO ZP XR XS. -/
import Derived.Test.YtifjdiiafofnpaaZ20
import Derived.Test.YtifjdiiafofnpaaZ13
import Derived.Test.YtifjdiiafofnpaaZ15
import Derived.Test.YtifjdiiafofnpaaZ10
import Derived.Test.YtifjdiiafofnpaaZ11
import Derived.Test.YtifjdiiafofnpaaZ6
import Derived.Test.YtifjdiiafofnpaaZ12

/- The permutation of a braid, the inversions of a permutation: the given side. -/
namespace Go.Proofs.Ytifjdiiafofnpaa
open Go Go.RowKit

theorem swW_snoc {xs L : List Int} {i : Nat} {x : Int} (h : xs[i]? = some x) : swW (xs.take (i + 1)) L = swapL (x.natAbs - 1) (swW (xs.take i) L) := by
  rw [take_snoc h, swW_append]; rfl
theorem iotaN_snoc (n : Nat) : iotaI (n + 1) = iotaI n ++ [(n : Int)] := by simp [iotaI, List.range_succ]

set_option maxHeartbeats 2000000 in
set_option maxRecDepth 10000 in
theorem spec_l03Places (n : Nat) (xs : List Int) (A : Option Addr) (c : Nat) (w : World) (h : Ints w A xs) (hl : xs.length ≤ 40) (hn : 1 ≤ n ∧ n ≤ 12) (hL : Letters n xs) :
    Calls Try.prog 91 #[.int .i64 (n : Int), .slice A xs.length c] w fun e w' => ∃ A' c', e = .returned (.slice A' (swW xs (iotaI n)).length c') ∧ OwnI w' w.heap.size w'.heap.size A' c' (swW xs (iotaI n)) ∧ Below w.heap.size w w' := by
  obtain ⟨i0, hi0, hz0, hz1, hz2⟩ := info_parts info_int64
  have HL := Lib.hid hL; clear hL
  go_enter Try.func91, Try.ntmps91
  go_wp2_with (fail)
  go_loopw [5, 6] (fun ov iv wr => ∃ (i : Nat) (A3 : Option Addr) (c3 : Nat), i ≤ n ∧ iv = .int .i64 i ∧ ov = .slice A3 i c3 ∧ OwnC wr w.heap.size wr.heap.size 2 1 A3 i c3 ((iotaI i).map (Value.int .i64)) ∧ Below w.heap.size w wr) (fun _ iv _ => n - (intOf iv).toNat)
  case atStart =>
    refine ⟨0, some ⟨w.heap.size, 0, none⟩, 0, Nat.zero_le _, rfl, rfl, ?_, by (repeat (first | exact Below.refl _ _ | assumption | apply Below.drew | apply below_drewN | (refine Below.alloc ?_ (by first | omega | (simp; done) | (simp; omega)) _) | (refine Below.setCell ?_ (by first | omega | (simp; done) | (simp; omega)) _)))⟩
    exact (OwnC.lit (w := w) (lo := w.heap.size) (n := 0) 2 1 #[] (Nat.le_refl _) (Nat.zero_le _) rfl).mono (Nat.le_refl _) (by simp)
  case round =>
    obtain ⟨i, A3, c3, hi, rfl, rfl, o3, hb⟩ := hrel
    have hzs := hb.size
    by_cases hin : i < n
    · have di : decide ((i : Int) < (n : Int)) = true := decide_eq_true (by omega)
      have HX : Hid ((iotaI (i + 1)).map (Value.int .i64) = (iotaI i).map (Value.int .i64) ++ [.int .i64 (i : Int)]) := Lib.hid (by rw [iotaN_snoc]; simp)
      go_wp2_with (at_builtin; refine wpList_append1 wr [.int .i64 (i : Int)] _ rfl (.tmp 16) (.tmp 18) _ rfl 2 i0 _ 1 8 Try.underlying22 hi0 hz0 hz1 hz2 rfl (by decide) rfl o3 hzs 1 rfl rfl (by simp [Value.oneCell']) (by omega) (by decide) ?_; intro A2 c2 w3 ho2 hg2 hb3 hz2')
      exact ⟨⟨i + 1, A2, c2, by omega, by go_num, rfl, by rw [HX.out]; exact ho2, hb.trans hb3⟩, by simp [intOf]; omega⟩
    · obtain rfl : i = n := by omega
      have di : decide ((i : Int) < (i : Int)) = false := decide_eq_false (by omega)
      have o3' : OwnI wr w.heap.size wr.heap.size A3 c3 (iotaI i) := by show OwnC _ _ _ _ _ _ _ _ _; rw [iotaI_length]; exact o3
      obtain ⟨g, rfl⟩ := OwnC.head o3' (by rw [iotaI_length]; omega)
      obtain ⟨hB, hhB⟩ : ∃ hB, hB = wr.heap.size := ⟨_, rfl⟩
      rw [← hhB] at o3'
      have hzB : hB ≤ wr.heap.size := by omega
      clear o3 hhB hzs
      go_wp2_with (fail)
      go_loopw [7] (fun iv wq => ∃ j : Nat, j ≤ xs.length ∧ iv = .int .i64 j ∧ OwnI wq w.heap.size hB (some ⟨g, 0, none⟩) c3 (swW (xs.take j) (iotaI i)) ∧ Below w.heap.size w wq ∧ hB ≤ wq.heap.size) (fun iv _ => xs.length - (intOf iv).toNat)
      case atStart => exact ⟨0, Nat.zero_le _, rfl, o3', hb, hzB⟩
      case round =>
        clear o3' hb hzB
        obtain ⟨j, hj, rfl, ho, hb, hzB⟩ := hrel
        by_cases hjl : j < xs.length
        · obtain ⟨b, off, x, rfl, hc, hx⟩ := (h.below hb) j hjl
          obtain ⟨hx1, hx2⟩ := HL.out x (List.mem_of_getElem? hx)
          have hxs : -1000 ≤ x ∧ x ≤ 1000 := by omega
          have HXS := Lib.hid hxs; clear hxs
          obtain ⟨K, hK⟩ : ∃ K, x.natAbs = K + 1 := ⟨x.natAbs - 1, by omega⟩
          have hab : absI x = (K : Int) + 1 := by unfold absI; split <;> omega
          have HAB := Lib.hid hab; clear hab
          have HSN := Lib.hid (swW_snoc (L := iotaI i) hx)
          rw [hK, Nat.add_sub_cancel] at HSN
          have hln : (swW (xs.take j) (iotaI i)).length = i := by rw [swW_length, iotaI_length]
          generalize swW (xs.take j) (iotaI i) = now at *
          have HLN := Lib.hid hln; clear hln
          have ha := List.getElem?_eq_getElem (l := now) (i := K) (by rw [HLN.out]; omega)
          have hbb := List.getElem?_eq_getElem (l := now) (i := K + 1) (by rw [HLN.out]; omega)
          generalize now[K]'(by rw [HLN.out]; omega) = a at *
          generalize now[K + 1]'(by rw [HLN.out]; omega) = bb at *
          obtain ⟨ca, fa, ga, gb⟩ := own_at ho ha
          obtain ⟨cb, fb, _, _⟩ := own_at ho hbb
          have HSL := Lib.hid (own_swap ho ha hbb)
          have j1 : (0 : Int) ≤ (j : Int) := by omega
          have j2 : (j : Int) < (xs.length : Int) := by omega
          have j3 : (0 : Int) ≤ (K : Int) := by omega
          have j4 : (K : Int) < (i : Int) := by omega
          have j5 : (K : Int) + 1 < (i : Int) := by omega
          have j6 : IntKind.i64.wrap ((K : Int) + 1 - 1) = (K : Int) := by rw [show (K : Int) + 1 - 1 = (K : Int) by omega]; exact IntWalk.i64_in _ (by omega)
          have j7 : (0 : Int) ≤ (K : Int) + 1 := by omega
          have j8 : ((K : Int) + 1).toNat = K + 1 := by omega
          have j9 : IntKind.i64.wrap (K : Int) = (K : Int) := IntWalk.i64_in _ (by omega)
          clear hx ha hbb
          go_wp2_with (go_at_call 141; refine (spec_l03Abs _ _ HXS.out).mono ?_; rintro e _ ⟨rfl, rfl⟩; rw [HAB.out])
          refine ⟨⟨j + 1, by omega, by go_num, by rw [HSN.out]; exact HSL.out, (hb.setCell (by show w.heap.size ≤ g; omega) _).setCell (by show w.heap.size ≤ g; omega) _, by simp; omega⟩, by simp [intOf]; omega⟩
        · go_wp2_with (fail)
          go_ret
          rw [take_all (by omega)] at ho
          have hlen : (swW xs (iotaI i)).length = i := by rw [swW_length, iotaI_length]
          refine ⟨some ⟨g, 0, none⟩, c3, by rw [hlen]; rfl, OwnC.mono ho (Nat.le_refl _) hzB, hb⟩

theorem zerosN (n : Nat) : (madeCells (Value.int .i64 0).cells (n * 1)).toList = (List.replicate n (0 : Int)).map (Value.int .i64) := by
  apply List.ext_getElem?
  intro i
  simp only [madeCells, Value.cells, Array.toList_map, Array.toList_range, List.getElem?_map, Nat.mul_one]
  by_cases h : i < n
  · rw [List.getElem?_range h, List.getElem?_replicate, if_pos h]
    simp [Nat.mod_one]
  · rw [List.getElem?_eq_none (by simpa using h), List.getElem?_eq_none (by simpa using h)]
    rfl

set_option maxHeartbeats 2000000 in
set_option maxRecDepth 10000 in
theorem spec_BraidPermutation (n : Nat) (xs : List Int) (A : Option Addr) (c : Nat) (w : World) (h : Ints w A xs) (hn : 1 ≤ n) (hv : braidB n xs = true) :
    Calls Try.prog 38 #[.agg #[.int .i64 (n : Int), .slice A xs.length c]] w fun e w' => ∃ A' c', e = .returned (.slice A' (permOf n xs).length c') ∧ OwnI w' w.heap.size w'.heap.size A' c' (permOf n xs) ∧ Below w.heap.size w w' := by
  obtain ⟨i0, hi0, hz0, hz1, hz2⟩ := info_parts info_int64
  obtain ⟨v1, v2, v3, _⟩ := braidB_of hv
  have hn12 : n ≤ 12 := by omega
  have hL := letters_of_braid hv
  have hb1 : Below w.heap.size w (w.alloc (.cells #[.int .i64 (n : Int), .slice A xs.length c] 59)) := by (repeat (first | exact Below.refl _ _ | assumption | apply Below.drew | apply below_drewN | (refine Below.alloc ?_ (by first | omega | (simp; done) | (simp; omega)) _) | (refine Below.setCell ?_ (by first | omega | (simp; done) | (simp; omega)) _)))
  have ka := Blk.new w 59 #[.int .i64 (n : Int), .slice A xs.length c]
  go_enter Try.func38, Try.ntmps38
  go_wp2_with (fail)
  refine (spec_l03Ok _ _ (n : Int) A c xs _ (h.below hb1) (by omega) ka.c2.1 ka.c2.2).mono ?_; rintro e w2 ⟨rfl, hdr⟩
  have b2 : Below w.heap.size w w2 := by obtain ⟨q, rfl⟩ := hdr; exact below_drewN hb1 q
  have ka2 : Blk w2 w.heap.size 59 #[.int .i64 (n : Int), .slice A xs.length c] := by obtain ⟨q, rfl⟩ := hdr; exact ka.drewN q
  clear hdr ka hb1
  rw [hv]
  have q2 := ka2.c2
  go_wp2_with (fail)
  refine (spec_l03Places n xs A c w2 (h.below b2) v3 ⟨hn, hn12⟩ hL).mono ?_; rintro e w3 ⟨A3, c3, rfl, o3, b3⟩
  have B3 : Below w.heap.size w w3 := b2.trans (b3.mono b2.size)
  have hP : permOf n xs = invTo (swW xs (iotaI n)) n n := rfl
  have HP := Lib.hid hP; clear hP
  have hal : (swW xs (iotaI n)).length = n := by rw [swW_length, iotaI_length]
  have har : ∀ x ∈ swW xs (iotaI n), 0 ≤ x ∧ x < (n : Int) := fun x hx => iotaN_mem.1 ((swW_perm (by rw [iotaI_length]; exact hL)).mem_iff.1 hx)
  have HAR := Lib.hid har; clear har
  have ia := OwnC.ints o3
  clear o3 b2 b3 ka2 q2
  generalize swW xs (iotaI n) = at_ at *
  have HAL := Lib.hid hal
  rw [hal]
  clear hal
  have hZ : w.heap.size ≤ w3.heap.size := B3.size
  go_wp2_with (refine wpList_make_full _ rfl _ _ _ rfl w3.heap.size 2 i0 _ 1 Try.underlying22 hi0 hz0 hz1 .i64 .i64 _ _ n rfl rfl rfl rfl (by rw [hz2]; omega) (by unfold maxLen; omega) (Nat.le_refl _) ?_; intro w4 hown hg)
  have b4 : Below w3.heap.size w3 w4 := (Below.refl _ _).grown hg (Nat.le_refl _) (by simp)
  have o4 : OwnC w4 w3.heap.size w4.heap.size 2 1 (some ⟨w3.heap.size, 0, none⟩) n n ((invTo at_ n 0).map (Value.int .i64)) := by
    have := OwnC.of_own hown (Nat.le_refl _)
    rwa [zerosN] at this
  have ia4 := ia.below b4
  obtain ⟨g, hgg⟩ : ∃ g, g = w3.heap.size := ⟨_, rfl⟩
  have HZ4 := Lib.hid (show w3.heap.size ≤ w4.heap.size from b4.size)
  have B4 : Below w.heap.size w w4 := B3.trans (b4.mono hZ)
  rw [← hgg] at o4 hZ b4 HZ4 ⊢
  obtain ⟨hi4, hh4⟩ : ∃ hi4, hi4 = w4.heap.size := ⟨_, rfl⟩
  rw [← hh4] at o4
  have hz4 : hi4 ≤ w4.heap.size := by omega
  have hfar : ∀ a, A3 = some a → 0 < at_.length → a.block ≠ g := by
    intro a ha h0 e
    obtain ⟨b, off, x, hA, hc, _⟩ := ia 0 h0
    rw [hA] at ha
    injection ha with ha
    subst ha
    have := cell_lt hc
    rw [← hgg] at this
    have e' : b = g := e
    have h2 : b < g := this
    omega
  have HFAR := Lib.hid hfar; clear hfar
  clear hown hg ia b4 hgg hh4 B3
  go_loopw [5] (fun iv wr => ∃ i : Nat, i ≤ n ∧ iv = .int .i64 i ∧ OwnC wr g hi4 2 1 (some ⟨g, 0, none⟩) n n ((invTo at_ n i).map (Value.int .i64)) ∧ Ints wr A3 at_ ∧ Below w.heap.size w wr ∧ hi4 ≤ wr.heap.size) (fun iv _ => n - (intOf iv).toNat)
  case atStart => exact ⟨0, Nat.zero_le _, rfl, o4, ia4, B4, hz4⟩
  case round =>
    clear o4 ia4 B4 hz4
    obtain ⟨i, hi, rfl, ho, hia, hb, hz⟩ := hrel
    by_cases hin : i < n
    · have di : decide ((i : Int) < (n : Int)) = true := decide_eq_true (by omega)
      obtain ⟨b, off, x, hA3, hc, hx⟩ := hia i (by rw [HAL.out]; exact hin)
      have hbg : b ≠ g := HFAR.out _ hA3 (by rw [HAL.out]; omega)
      subst hA3
      obtain ⟨hx0, hx1⟩ := HAR.out x (List.mem_of_getElem? hx)
      obtain ⟨v, rfl⟩ := Int.eq_ofNat_of_zero_le hx0
      have hvn : v < n := by omega
      have HI : Hid (invTo at_ n (i + 1) = (invTo at_ n i).set v (i : Int)) := Lib.hid (by rw [invTo, getD_of hx, Int.toNat_natCast])
      have hil : (invTo at_ n i).length = n := invTo_length at_ n i
      obtain ⟨yy, hy⟩ : ∃ yy, (invTo at_ n i)[v]? = some yy := ⟨_, List.getElem?_eq_getElem (by omega)⟩
      obtain ⟨cy, fy, gy, _⟩ := own_at (show OwnI wr g hi4 (some ⟨g, 0, none⟩) n (invTo at_ n i) from by show OwnC _ _ _ _ _ _ _ _ _; rw [hil]; exact ho) hy
      have HIL := Lib.hid hil; clear hil hy
      have j1 : (0 : Int) ≤ (i : Int) := by omega
      have j3 : (0 : Int) ≤ (v : Int) := by omega
      have j4 : (v : Int) < (n : Int) := by omega
      have j5 : IntKind.i64.wrap (v : Int) = (v : Int) := IntWalk.i64_in _ ⟨by omega, by omega⟩
      clear hx
      go_wp2_with (fail)
      refine ⟨⟨i + 1, by omega, by go_num, ?_, ?_, hb.setCell (by show w.heap.size ≤ g; omega) _, by simpa using hz⟩, by simp [intOf]; omega⟩
      · rw [HI.out, List.map_set]
        exact (OwnC.store ho _).1
      · intro k hk
        obtain ⟨b', off', x', hA', hc', hx'⟩ := hia k hk
        injection hA' with hA'
        injection hA' with e1 e2
        subst e1 e2
        exact ⟨b, off, x', rfl, by rw [World.cell?, Below.heap_setCell wr _ _ b (by show b ≠ g; exact hbg)]; exact hc', hx'⟩
    · obtain rfl : i = n := by omega
      have di : decide ((i : Int) < (i : Int)) = false := decide_eq_false (by omega)
      go_wp2_with (fail)
      go_ret
      have hlen : (permOf i xs).length = i := by rw [HP.out, invTo_length]
      refine ⟨some ⟨g, 0, none⟩, i, by rw [hlen]; rfl, ?_, hb⟩
      show OwnC _ _ _ _ _ _ _ _ _
      rw [hlen, HP.out]
      exact OwnC.mono ho hZ hz

theorem cnt_snoc {xs : List Int} {p : Int → Bool} {i : Nat} {x : Int} (h : xs[i]? = some x) : (xs.take (i + 1)).countP p = (xs.take i).countP p + if p x then 1 else 0 := by
  rw [take_snoc h, List.countP_append]
  simp [List.countP_cons]
theorem invs_take {xs : List Int} {j : Nat} {y : Int} (h : xs[j]? = some y) : invs (xs.take (j + 1)) = invs (xs.take j) + (xs.take j).countP fun x => decide (y < x) := by
  rw [take_snoc h, invs_snoc]
set_option maxHeartbeats 2000000 in
theorem spec_l02Inversions (xs : List Int) (A : Option Addr) (c : Nat) (w : World) (h : Ints w A xs) (hl : xs.length ≤ 12) :
    Calls Try.prog 93 #[.slice A xs.length c] w fun e w' => e = .returned (.int .i64 (invs xs : Int)) ∧ ∃ k, w' = w.drewN k := by
  go_enter Try.func93, Try.ntmps93
  go_wp2_with (fail)
  go_loopw [3, 4] (fun nv jv wr => ∃ j : Nat, j ≤ xs.length ∧ jv = .int .i64 j ∧ nv = .int .i64 (invs (xs.take j) : Int) ∧ Hid (invs (xs.take j) ≤ 12 * j) ∧ ∃ k, wr = w.drewN k) (fun _ jv _ => xs.length - (intOf jv).toNat)
  case atStart => exact ⟨0, Nat.zero_le _, rfl, rfl, Lib.hid (Nat.le_refl _), 0, rfl⟩
  case round =>
    obtain ⟨j, hj, rfl, rfl, HJ, k, rfl⟩ := hrel
    by_cases hjl : j < xs.length
    · obtain ⟨b, off, y, rfl, hc, hy⟩ := h j hjl
      have HIV := Lib.hid (invs_take hy)
      have h12 := HJ.out
      generalize hN : invs (xs.take j) = N at *
      clear hN
      go_wp2
      go_loopw [3, 5] (fun nv iv wr => ∃ i : Nat, i ≤ j ∧ iv = .int .i64 i ∧ nv = .int .i64 ((N + (xs.take i).countP (fun x => decide (y < x)) : Nat) : Int) ∧ ∃ k, wr = w.drewN k) (fun _ iv _ => j - (intOf iv).toNat)
      case atStart => exact ⟨0, Nat.zero_le _, rfl, by simp, _, rfl⟩
      case round =>
        obtain ⟨i, hi, rfl, rfl, k2, rfl⟩ := hrel
        have hcl := List.countP_le_length (p := fun x => decide (y < x)) (l := xs.take i)
        rw [List.length_take] at hcl
        by_cases hij : i < j
        · obtain ⟨b', off', x, hA', hcx, hx⟩ := h i (by omega)
          injection hA' with hA'
          injection hA' with e1 e2
          subst e1 e2
          have HC := Lib.hid (cnt_snoc (p := fun x => decide (y < x)) hx)
          generalize hM : (xs.take i).countP (fun x => decide (y < x)) = M at *
          clear hM hx
          have hw : IntKind.i64.wrap (((N + M : Nat) : Int) + 1) = ((N + (M + 1) : Nat) : Int) := by
            rw [show ((N + M : Nat) : Int) + 1 = ((N + (M + 1) : Nat) : Int) by omega]
            exact IntWalk.i64_in _ ⟨by omega, by omega⟩
          by_cases hxy : y < x
          · have HC2 : Hid ((xs.take (i + 1)).countP (fun x => decide (y < x)) = M + 1) := Lib.hid (by rw [HC.out, if_pos (by simpa using hxy)])
            have hgt : decide (x > y) = true := decide_eq_true hxy
            clear hxy
            go_wp2
            go_quiet (fail)
            go_wp2
            go_roundw
            case rel => exact ⟨i + 1, by omega, by go_num, by rw [HC2.out]; first | rfl | (congr 1; omega), (by first | exact drew2 _ _ _ | exact ⟨_, rfl⟩)⟩
            case measure => simp [intOf]; omega
          · have HC2 : Hid ((xs.take (i + 1)).countP (fun x => decide (y < x)) = M) := Lib.hid (by rw [HC.out, if_neg (by simpa using hxy)]; rfl)
            have hgt : decide (x > y) = false := decide_eq_false hxy
            clear hxy
            go_wp2
            go_quiet (fail)
            go_wp2
            go_roundw
            case rel => exact ⟨i + 1, by omega, by go_num, by rw [HC2.out]; first | rfl | (congr 1; omega), (by first | exact drew2 _ _ _ | exact ⟨_, rfl⟩)⟩
            case measure => simp [intOf]; omega
        · obtain rfl : i = j := by omega
          have HV2 : Hid (invs (xs.take (i + 1)) = N + (xs.take i).countP (fun x => decide (y < x))) := HIV
          generalize (xs.take i).countP (fun x => decide (y < x)) = M at *
          go_wp2
          go_roundw
          case rel => exact ⟨i + 1, by omega, by go_num, by rw [HV2.out], Lib.hid (by rw [HV2.out]; omega), (by first | exact drew2 _ _ _ | exact ⟨_, rfl⟩)⟩
          case measure => simp [intOf]; omega
    · go_wp2
      go_ret
      rw [take_all (by omega)]
      exact ⟨rfl, (by first | exact drew2 _ _ _ | exact ⟨_, rfl⟩)⟩

theorem spec_InversionsOf (xs : List Int) (A : Option Addr) (c : Nat) (w : World) (h : Ints w A xs) (hp : permB xs = true) :
    Calls Try.prog 39 #[.slice A xs.length c] w fun e w' => e = .returned (.int .i64 (invs xs : Int)) ∧ Below w.heap.size w w' := by
  have h12 := permB_len hp
  go_enter Try.func39, Try.ntmps39
  go_wp2_with (fail)
  refine (spec_l02Ok xs A c w h (by omega)).mono ?_; rintro e w2 ⟨rfl, b2⟩
  rw [hp]
  go_wp2_with (fail)
  refine (spec_l02Inversions xs A c w2 (h.below b2) h12).mono ?_; rintro e w3 ⟨rfl, k, rfl⟩
  go_wp2_with (fail)
  go_ret
  exact ⟨rfl, below_drewN b2 k⟩

end Go.Proofs.Ytifjdiiafofnpaa

/- The draws: a permutation, seldom another list, and a carrier. -/
namespace Go.Proofs.Ytifjdiiafofnpaa
open Go Go.RowKit

set_option maxHeartbeats 2000000 in
set_option maxRecDepth 10000 in
theorem spec_DrawChartOfPermutation (A : Option Addr) (c : Nat) (bs : List Int) (w : World) (hby : Bytes w A bs) (hl : bs.length ≤ 1099511627776) :
    Calls Try.prog 34 #[.slice A bs.length c] w fun e w' => ∃ (A1 : Option Addr) (c1 : Nat) (p : List Int) (car : Int), e = .returned (.tuple #[.slice A1 p.length c1, .int .i64 car]) ∧ OwnI w' w.heap.size w'.heap.size A1 c1 p ∧ p.length ≤ 8 ∧ Below w.heap.size w w' := by
  obtain ⟨iI, hi0, hu0, hu1, hu2⟩ := info_parts info_int64
  go_enter Try.func34, Try.ntmps34
  go_wp2_with (fail)
  refine (spec_l00From A c bs _ hby hl).mono ?_
  rintro e w2 ⟨rfl, hs2, b2, hz2⟩
  obtain ⟨g, hgg⟩ : ∃ g, g = w.heap.size := ⟨_, rfl⟩
  rw [← hgg] at hs2 hz2 ⊢
  have HG := Lib.hid hgg; clear hgg
  have HZ2 := Lib.hid hz2; clear hz2
  go_wp2_with (fail)
  refine (sv_pick 7 (by decide) hs2 (by decide)).mono ?_
  rintro e w3 ⟨x, rfl, hx0, hx7, hs3, hg3, hz3⟩
  obtain ⟨n, rfl⟩ := Int.eq_ofNat_of_zero_le hx0
  have hn7 : n < 7 := by omega
  clear hx0 hx7
  have b3 : Below w.heap.size w w3 := b2.trans (gb_below hg3 (by have := HG.out; omega) (by have := HG.out; have := HZ2.out; omega))
  have hz3' : g + 1 ≤ w3.heap.size := by rw [hz3]; have := HZ2.out; omega
  clear b2 hs2 hg3 hz3 HZ2
  have o3 := (OwnC.lit (w := w3) (lo := g + 1) (n := 0) 2 1 #[] hz3' (Nat.zero_le _) rfl).mono (Nat.le_refl _) (show w3.heap.size + 1 ≤ (w3.alloc (.cells #[] 2)).heap.size by simp)
  go_wp2_with (fail)
  go_loopw [6, 7] (fun pv iv wr => ∃ (g3 c3 : Nat) (ps : List Int), pv = .slice (some ⟨g3, 0, none⟩) ps.length c3 ∧ iv = .int .i64 ps.length ∧ ps.length ≤ n ∧ OwnI wr (g + 1) wr.heap.size (some ⟨g3, 0, none⟩) c3 ps ∧ Sv wr g A c bs (2 + ps.length) ∧ Below w.heap.size w wr ∧ g + 1 ≤ wr.heap.size) (fun _ iv _ => n - (intOf iv).toNat)
  case atStart => exact ⟨w3.heap.size, 0, [], rfl, rfl, Nat.zero_le _, o3, (hs3.alloc _).mono (by simp), Below.alloc b3 b3.size _, by simp; omega⟩
  case round =>
    clear o3 hs3 b3 hz3'
    obtain ⟨g3, c3, ps, rfl, rfl, hpn, o3, hs, hb, hzr⟩ := hrel
    by_cases hin : ps.length < n
    · have di : decide ((ps.length : Int) < (n : Int)) = true := decide_eq_true (by omega)
      have wi : IntKind.i64.wrap ((ps.length : Int) + 1) = ((ps.length + 1 : Nat) : Int) := by
        rw [show (ps.length : Int) + 1 = ((ps.length + 1 : Nat) : Int) by omega]; exact IntWalk.i64_in _ ⟨by omega, by omega⟩
      go_wp2_with (fail)
      refine (sv_pick ((ps.length + 1 : Nat) : Int) (by omega) hs (by omega)).mono ?_
      rintro e w4 ⟨x, rfl, hx0, hx7, hs4, hg4, hz4⟩
      obtain ⟨k, rfl⟩ := Int.eq_ofNat_of_zero_le hx0
      have hk : k ≤ ps.length := by omega
      have b4 : Below w.heap.size w w4 := hb.trans (gb_below hg4 (by have := HG.out; omega) hb.size)
      have o4 := OwnC.grownG o3 hg4 (.inl (by omega))
      rw [← hz4] at o4
      have hzr4 : g + 1 ≤ w4.heap.size := by omega
      clear hx0 hx7 hg4 hz4 hs hb hzr o3
      have hcap := OwnC.cap o4
      have hcm := OwnC.capmax o4
      have it : Ints w4 (some ⟨g3, 0, none⟩) (ps.take k) := fun q hq => by
        rw [List.length_take] at hq
        obtain ⟨b, off, y, e1, e2, e3⟩ := (OwnC.ints o4) q (by omega)
        exact ⟨b, off, y, e1, e2, by rw [List.getElem?_take, if_pos (by omega)]; exact e3⟩
      have idr : Ints w4 (some ⟨g3, 0 + k, none⟩) (ps.drop k) := (OwnC.ints o4).drop k
      have htl : (ps.take k).length = k := by rw [List.length_take]; omega
      have hdl : (ps.drop k).length = ps.length - k := List.length_drop
      have j1 : (0 : Int) ≤ (k : Int) := by omega
      have j2 : (k : Int) ≤ (ps.length : Int) := by omega
      have j3 : (k : Int) ≤ (c3 : Int) := by omega
      have j4 : IntKind.i64.wrap (k : Int) = (k : Int) := IntWalk.i64_in _ ⟨by omega, by omega⟩
      have j5 : ((ps.length : Int)) ≤ (c3 : Int) := by omega
      have HTL := Lib.hid htl; clear htl
      have HDL := Lib.hid hdl; clear hdl
      have hown : ∀ W, Ints W (some ⟨g3, 0, none⟩) (ps.take k) → Calls Try.prog 82 #[.slice (some ⟨g3, 0, none⟩) k c3] W fun e w' => ∃ A' c', e = .returned (.slice A' k c') ∧ OwnI w' W.heap.size w'.heap.size A' c' (ps.take k) ∧ Below W.heap.size W w' := fun W hW => by
        have := spec_l00Own (some ⟨g3, 0, none⟩) c3 (ps.take k) W hW (by rw [HTL.out]; omega)
        rw [HTL.out] at this
        exact this
      have HOWN := Lib.hid hown; clear hown
      go_wp2_with (fail)
      refine (HOWN.out w4 it).mono ?_
      rintro e w5 ⟨A5, c5, rfl, o5', b5⟩
      have o5 : OwnC w5 w4.heap.size w5.heap.size 2 1 A5 k c5 ((ps.take k).map (Value.int .i64)) := by
        have := o5'
        unfold OwnI at this
        rw [HTL.out] at this
        exact this
      have hz5 := b5.size
      have o45 := OwnC.below o4 b5 (Nat.le_refl _)
      have hs5 := hs4.below b5
      have B5 : Below w.heap.size w w5 := b4.trans (b5.mono b4.size)
      have HZ5 : Hid (g + 1 ≤ w4.heap.size) := Lib.hid hzr4
      clear o5' b5 it idr hs4 b4 o4 hzr4
      go_upto_region 10 with (at_builtin; refine wpList_append1 w5 [.int .i64 (ps.length : Int)] _ rfl (.tmp 28) (.tmp 30) _ rfl 2 iI _ 1 8 Try.underlying22 hi0 hu0 hu1 hu2 rfl (by decide) rfl o5 hz5 1 rfl rfl (by simp [Value.oneCell']) (by omega) (by decide) ?_; intro A6 c6 w6 o6 hg6 hb6 hz6)
      have o46 := OwnC.below o45 hb6 (Nat.le_refl _)
      have idr6 : Ints w6 (some ⟨g3, 0 + k, none⟩) (ps.drop k) := (OwnC.ints o46).drop k
      have hs6 : Sv w6 g A c bs (2 + ps.length + 1) := hs5.keep fun q hq => hb6.block q (by have := HZ5.out; omega)
      have B6 : Below w.heap.size w w6 := B5.trans (hb6.mono (by have := B5.size; have := HZ5.out; have := HG.out; omega))
      have hfin : (ps.take k ++ [(ps.length : Int)] ++ ps.drop k).length = ps.length + 1 := by
        rw [List.length_append, List.length_append, HTL.out, HDL.out, List.length_singleton]; omega
      have HFIN := Lib.hid hfin; clear hfin
      have HM : Hid (∀ (W : World) (A9 : Option Addr) (c9 : Nat), OwnC W w4.heap.size W.heap.size 2 1 A9 (k + 1 + (ps.length - k)) c9 (((ps.take k).map (Value.int .i64) ++ [.int .i64 (ps.length : Int)]) ++ (ps.drop k).map (Value.int .i64)) → OwnI W w4.heap.size W.heap.size A9 c9 (ps.take k ++ [(ps.length : Int)] ++ ps.drop k)) := Lib.hid (fun W A9 c9 h => by
        show OwnC _ _ _ _ _ _ _ _ _
        rw [HFIN.out, List.map_append, List.map_append]
        have e : k + 1 + (ps.length - k) = ps.length + 1 := by omega
        rw [e] at h
        exact h)
      have hz64 : w4.heap.size ≤ w6.heap.size := by omega
      have e63 : k + 1 + (ps.length - k) ≤ maxLen := by unfold maxLen; omega
      have eby : (k + 1 + (ps.length - k)) * 8 ≤ 140737488355328 := by omega
      have hnl : ((ps.drop k).map (Value.int .i64)).length = (ps.length - k) * 1 := by rw [List.length_map, HDL.out]; omega
      have HNL := Lib.hid hnl; clear hnl
      have HE := Lib.hid (⟨e63, eby⟩ : _ ∧ _); clear e63 eby
      clear o5 hs5 B5 hg6 hb6 o46 o45
      by_cases hck : c3 = k
      · subst hck
        have hk0 : ps.length = c3 := by omega
        have hd0 : (ps.drop c3).map (Value.int .i64) = [] := by rw [List.drop_eq_nil_of_le (by omega)]; rfl
        have hk1 : ps.length - c3 = 0 := by omega
        have HD0 := Lib.hid hd0; clear hd0
        have HK1 := Lib.hid hk1; clear hk1 hk0
        have HNO : Hid (∀ j u, ([] : List Value)[j]? = some u → ∃ b off, (some ⟨g3, 0, none⟩ : Option Addr) = some ⟨b, off, none⟩ ∧ w6.cell? ⟨b, off + j, none⟩ = some u) := Lib.hid (fun j u hj => by simp at hj)
        go_wp2_with (at_builtin; refine wpList_appendC w6 rfl (.tmp 32) (.tmp 35) _ rfl 2 iI _ 1 8 Try.underlying22 hi0 hu0 hu1 hu2 rfl (by decide) rfl o6 hz64 (some ⟨g3, 0, none⟩) 0 0 [] rfl rfl HNO.out (by intro u hu; simp at hu) (by unfold maxLen; omega) (by omega) ?_; intro A9 c9 w8 ho8 hg8 hb8)
        have o8 := HM.out w8 A9 c9 (by rw [HD0.out, HK1.out]; exact ho8)
        obtain ⟨g9, rfl⟩ := OwnC.head o8 (by rw [HFIN.out]; omega)
        have hz8 := hb8.size
        refine ⟨⟨g9, c9, ps.take c3 ++ [(ps.length : Int)] ++ ps.drop c3, by rw [HFIN.out]; first | rfl | (congr 1; omega), by rw [HFIN.out]; go_num, by rw [HFIN.out]; omega, o8.mono HZ5.out (Nat.le_refl _), ?_, ?_, by have := HZ5.out; omega⟩, by simp [intOf]; omega⟩
        · have h9 : Sv w8 g A c bs (2 + ps.length + 1) := hs6.keep fun q hq => hb8.block q (by have := HZ5.out; omega)
          exact h9.mono (by rw [HFIN.out]; omega)
        · exact B6.trans (hb8.mono (by have := B6.size; have := HZ5.out; have := HG.out; omega))
      · have hnews : ∀ j u, ((ps.drop k).map (Value.int .i64))[j]? = some u → ∃ b off, (some ⟨g3, k, none⟩ : Option Addr) = some ⟨b, off, none⟩ ∧ w6.cell? ⟨b, off + j, none⟩ = some u := by
          intro j u hj
          rw [List.getElem?_map, Option.map_eq_some_iff] at hj
          obtain ⟨y, hy, rfl⟩ := hj
          obtain ⟨b, off, y', e1, e2, e3⟩ := idr6 j (List.getElem?_eq_some_iff.1 hy).1
          injection e1 with e1
          injection e1 with e4 e5
          subst e4 e5
          rw [e3] at hy
          injection hy with hy
          subst hy
          exact ⟨g3, k, rfl, by rw [Nat.zero_add] at e2; exact e2⟩
        have HNW := Lib.hid hnews; clear hnews
        have hck1 : ¬ c3 - k = 0 := by omega
        have hck2 : (c3 - k == 0) = false := by simpa using hck1
        go_wp2_with (at_builtin; refine wpList_appendC w6 rfl (.tmp 32) (.tmp 35) _ rfl 2 iI _ 1 8 Try.underlying22 hi0 hu0 hu1 hu2 rfl (by decide) rfl o6 hz64 (some ⟨g3, k, none⟩) (ps.length - k) (c3 - k) _ rfl HNL.out HNW.out (ints_one _) HE.out.1 HE.out.2 ?_; intro A9 c9 w8 ho8 hg8 hb8)
        have o8 := HM.out _ _ _ ho8
        obtain ⟨g9, rfl⟩ := OwnC.head o8 (by rw [HFIN.out]; omega)
        have hz8 := hb8.size
        refine ⟨⟨g9, c9, ps.take k ++ [(ps.length : Int)] ++ ps.drop k, by rw [HFIN.out]; first | rfl | (congr 1; omega), by rw [HFIN.out]; go_num, by rw [HFIN.out]; omega, o8.mono HZ5.out (Nat.le_refl _), ?_, ?_, by have := HZ5.out; omega⟩, by simp [intOf]; omega⟩
        · have h9 : Sv w8 g A c bs (2 + ps.length + 1) := hs6.keep fun q hq => hb8.block q (by have := HZ5.out; omega)
          exact h9.mono (by rw [HFIN.out]; omega)
        · exact B6.trans (hb8.mono (by have := B6.size; have := HZ5.out; have := HG.out; omega))
    · have di : decide ((ps.length : Int) < (n : Int)) = false := decide_eq_false (by omega)
      have hl5 : ∀ W : World, Ints (W.alloc (.cells #[.int .i64 1, .int .i64 2, .int .i64 4, .int .i64 1, .int .i64 5] 2)) (some ⟨W.heap.size, 0, none⟩) [1, 2, 4, 1, 5] := fun W => OwnC.ints (lo := W.heap.size) (hi := W.heap.size + 1) (OwnC.lit (w := W) (lo := W.heap.size) (n := 5) 2 1 #[.int .i64 1, .int .i64 2, .int .i64 4, .int .i64 1, .int .i64 5] (Nat.le_refl _) (by decide) rfl)
      have hl3 : ∀ W : World, Ints (W.alloc (.cells #[.int .i64 0, .int .i64 9, .int .i64 (-1)] 2)) (some ⟨W.heap.size, 0, none⟩) [0, 9, -1] := fun W => OwnC.ints (lo := W.heap.size) (hi := W.heap.size + 1) (OwnC.lit (w := W) (lo := W.heap.size) (n := 3) 2 1 #[.int .i64 0, .int .i64 9, .int .i64 (-1)] (Nat.le_refl _) (by decide) rfl)
      have HL5 := Lib.hid hl5; clear hl5
      have HL3 := Lib.hid hl3; clear hl3
      have hps8 : ps.length ≤ 7 := by omega
      go_wp2_with (fail)
      refine (sv_one 8 (by decide) hs (by omega)).mono ?_
      rintro e w4 ⟨y, rfl, hs4, hg4, hz4⟩
      have b4 : Below w.heap.size w w4 := hb.trans (gb_below hg4 (by have := HG.out; omega) hb.size)
      have o4 := OwnC.grownG o3 hg4 (.inl (by omega))
      rw [← hz4] at o4
      have hzr4 : g + 1 ≤ w4.heap.size := by omega
      clear hg4 hz4 hs hb hzr o3
      cases y
      · go_wp2_with (fail)
        refine (sv_among [1, 2, 4, 1, 5] (some ⟨w4.heap.size, 0, none⟩) 5 (by decide) (hs4.alloc (.cells #[.int .i64 1, .int .i64 2, .int .i64 4, .int .i64 1, .int .i64 5] 2)) (by omega) (HL5.out w4) (fun a ha => by injection ha with ha; subst ha; show w4.heap.size ≠ g; omega)).mono ?_
        rintro e w5 ⟨car, rfl, _, hs5, hg5, hz5⟩
        have o5 := OwnC.grownG (OwnC.alloc o4 (.cells #[.int .i64 1, .int .i64 2, .int .i64 4, .int .i64 1, .int .i64 5] 2)) hg5 (.inl (by omega))
        have b5 : Below w.heap.size w w5 := (Below.alloc b4 b4.size (.cells #[.int .i64 1, .int .i64 2, .int .i64 4, .int .i64 1, .int .i64 5] 2)).trans (gb_below hg5 (by have := HG.out; omega) (by have := b4.size; simp; omega))
        have hz6 : w4.heap.size ≤ w5.heap.size := by rw [hz5]; simp
        go_wp2_with (fail)
        go_ret2
        exact ⟨_, _, ps, car, rfl, OwnC.mono o5 (by have := HG.out; omega) hz6, by omega, b5⟩
      · go_wp2_with (fail)
        refine (sv_among [0, 9, -1] (some ⟨w4.heap.size, 0, none⟩) 3 (by decide) (hs4.alloc (.cells #[.int .i64 0, .int .i64 9, .int .i64 (-1)] 2)) (by omega) (HL3.out w4) (fun a ha => by injection ha with ha; subst ha; show w4.heap.size ≠ g; omega)).mono ?_
        rintro e w5 ⟨z, rfl, _, hs5, hg5, hz5⟩
        have o5 := OwnC.grownG (OwnC.alloc o4 (.cells #[.int .i64 0, .int .i64 9, .int .i64 (-1)] 2)) hg5 (.inl (by omega))
        have b5 : Below w.heap.size w w5 := (Below.alloc b4 b4.size (.cells #[.int .i64 0, .int .i64 9, .int .i64 (-1)] 2)).trans (gb_below hg5 (by have := HG.out; omega) (by have := b4.size; simp; omega))
        have hz6 : w4.heap.size ≤ w5.heap.size := by rw [hz5]; simp
        have o5' : OwnI w5 (g + 1) w5.heap.size (some ⟨g3, 0, none⟩) c3 ps := OwnC.mono o5 (Nat.le_refl _) hz6
        have hzr5 : g + 1 ≤ w5.heap.size := by omega
        clear o5 hs4 b4 o4 hg5 hz5 hz6 hzr4
        go_wp2_with (at_builtin; refine wpList_append1 w5 [.int .i64 z] _ rfl (.tmp 39) (.tmp 43) _ rfl 2 iI _ 1 8 Try.underlying22 hi0 hu0 hu1 hu2 rfl (by decide) rfl o5' hzr5 1 rfl rfl (by simp [Value.oneCell']) (by omega) (by decide) ?_; intro A6 c6 w6 o6 hg6 hb6 hz6)
        have hs6 : Sv w6 g A c bs (2 + ps.length + 1 + 1) := hs5.keep fun q hq => hb6.block q (by omega)
        have b6 : Below w.heap.size w w6 := b5.trans (hb6.mono (by have := HG.out; omega))
        refine (sv_among [1, 2, 4, 1, 5] (some ⟨w6.heap.size, 0, none⟩) 5 (by decide) (hs6.alloc (.cells #[.int .i64 1, .int .i64 2, .int .i64 4, .int .i64 1, .int .i64 5] 2)) (by omega) (HL5.out w6) (fun a ha => by injection ha with ha; subst ha; show w6.heap.size ≠ g; omega)).mono ?_
        rintro e w7 ⟨car, rfl, _, hs7, hg7, hz7⟩
        have o7 := OwnC.grownG (OwnC.alloc o6 (.cells #[.int .i64 1, .int .i64 2, .int .i64 4, .int .i64 1, .int .i64 5] 2)) hg7 (.inl (by omega))
        have b7 : Below w.heap.size w w7 := (Below.alloc b6 b6.size (.cells #[.int .i64 1, .int .i64 2, .int .i64 4, .int .i64 1, .int .i64 5] 2)).trans (gb_below hg7 (by have := HG.out; omega) (by have := b6.size; simp; omega))
        have hz8 : w6.heap.size ≤ w7.heap.size := by rw [hz7]; simp
        have hll : (ps ++ [z]).length = ps.length + 1 := by simp
        go_wp2_with (fail)
        go_ret2
        refine ⟨A6, c6, ps ++ [z], car, by rw [hll]; rfl, ?_, by omega, b7⟩
        show OwnC _ _ _ _ _ _ _ _ _
        rw [hll, List.map_append]
        exact OwnC.mono o7 (by have := HG.out; omega) hz8

end Go.Proofs.Ytifjdiiafofnpaa

/- Cables: IsCable. -/
namespace Go.Proofs.Ytifjdiiafofnpaa
open Go.RowKit

theorem kinds_plain {k : Int} (h : isStitchB k = true) : decide (k ∈ [1, 2, 8, 9, 10, 11]) = !inR k 3 7 := by
  rcases stitch_cases h with rfl | rfl | rfl | rfl | rfl | rfl | rfl | rfl | rfl | rfl | rfl <;> decide
theorem plainRow_any (s : List Int) : (!s.any (fun n => inR n 3 7)) = plainRow s := by
  rw [plainRow, List.all_eq_not_any_not]
  simp

theorem impl_isCable_1 (n : Int) (w : World) : Calls Try.prog 139 #[.int .i64 n] w fun e w' => e = .returned (.bool (inR n 3 7)) ∧ w = w' := by
  go_enter Try.func139, Try.ntmps139
  go_wp2_with (refine (impl_within _ _ _ _).mono ?_; rintro e w' ⟨rfl, rfl⟩)
  go_ret
  exact ⟨rfl, rfl⟩
theorem indexFunc_isCable_1 (A : Option Addr) (c : Nat) (xs : List Int) (w : World) (h : Ints w A xs) (hl : xs.length ≤ 9223372036854775807) : Calls Try.prog 165 #[.slice A xs.length c, .func (.func 139) #[] #[]] w fun e w' => AnyInt (fun k => decide (0 ≤ k) = xs.any (fun n => inR n 3 7) ∧ k ≤ 9223372036854775807) e ∧ w = w' := by
  go_enter Try.func165, Try.ntmps165
  go_wp2
  go_loop [8] (fun i => ∃ k : Nat, k ≤ xs.length ∧ i = .int .i64 k ∧ (xs.take k).any (fun n => inR n 3 7) = false) (fun i => xs.length - (intOf i).toNat)
  case atStart => exact ⟨0, Nat.zero_le _, rfl, rfl⟩
  case round =>
    obtain ⟨k, hk, rfl, ha⟩ := hrel
    have HA := Lib.hid ha; clear ha
    by_cases hlt : k < xs.length
    · obtain ⟨b, off, x, rfl, hc, hx⟩ := h k hlt
      have HX := Lib.hid hx; clear hx
      go_wp2_with (refine (impl_isCable_1 _ _).mono ?_; rintro e w' ⟨rfl, rfl⟩)
      · have hq : inR x 3 7 = true := by assumption
        go_ret
        refine ⟨⟨_, rfl, ?_, by omega⟩, rfl⟩
        rw [any_true_at HX.out hq]
        simp
      · have hq : inR x 3 7 = false := by assumption
        go_round
        case rel => exact ⟨k + 1, by omega, by go_num, by rw [take_snoc HX.out, List.any_append, HA.out]; simpa using hq⟩
        case measure => simp [intOf]; omega
    · go_wp2
      go_ret
      refine ⟨⟨_, rfl, ?_, by omega⟩, rfl⟩
      have := HA.out
      rw [take_all (by omega)] at this
      rw [this]
      rfl
theorem containsFunc_isCable_1 (A : Option Addr) (c : Nat) (xs : List Int) (w : World) (h : Ints w A xs) (hl : xs.length ≤ 9223372036854775807) : Calls Try.prog 138 #[.slice A xs.length c, .func (.func 139) #[] #[]] w fun e w' => e = .returned (.bool (!plainRow xs)) ∧ w = w' := by
  go_enter Try.func138, Try.ntmps138
  go_wp2_with (refine (indexFunc_isCable_1 _ _ _ _ h hl).mono ?_; rintro e w' ⟨⟨k, rfl, hk, hk'⟩, rfl⟩)
  go_ret
  exact ⟨ret_bool (by rw [← plainRow_any]; simp), rfl⟩

theorem impl_isCable (n : Int) (rs : List RowD) (A : Option Addr) (c : Nat) (w : World) (h : RowsR w A rs) (hl : rs.length ≤ 9223372036854775807) :
    Calls Try.prog 88 #[.agg #[.int .i64 n, .slice A rs.length c]] w fun e w' => e = .returned (.bool (plainB rs)) ∧ Below w.heap.size w w' := by
  go_enter Try.func88, Try.ntmps88
  go_wp2_with (fail)
  go_loopw [8] (fun iv wr => ∃ k : Nat, k ≤ rs.length ∧ iv = .int .i64 k ∧ Below w.heap.size w wr ∧ Hid (plainB (rs.take k) = true)) (fun iv _ => rs.length - (intOf iv).toNat)
  case atStart => exact ⟨0, Nat.zero_le _, rfl, by (repeat (first | exact Below.refl _ _ | assumption | apply Below.drew | apply below_drewN | (refine Below.alloc ?_ (by first | omega | (simp; done) | (simp; omega)) _) | (refine Below.setCell ?_ (by first | omega | (simp; done) | (simp; omega)) _))), Lib.hid rfl⟩
  case round =>
    obtain ⟨k, hk, rfl, hb, HA⟩ := hrel
    have hzs := hb.size
    by_cases hlt : k < rs.length
    · obtain ⟨b, off, A7, c7, q, rfl, hx, f0, f1, f2, hi, hil⟩ := (h.below hb) k hlt
      have HX := Lib.hid hx; clear hx
      have j1 : (0 : Int) ≤ (k : Int) := by omega
      have j2 : (k : Int) < (rs.length : Int) := by omega
      have b2 : Below wr.heap.size wr (wr.alloc (.cells #[.int .i64 q.d, .int .i64 q.r, .slice A7 q.s.length c7] 29)) := by (repeat (first | exact Below.refl _ _ | assumption | apply Below.drew | apply below_drewN | (refine Below.alloc ?_ (by first | omega | (simp; done) | (simp; omega)) _) | (refine Below.setCell ?_ (by first | omega | (simp; done) | (simp; omega)) _)))
      obtain ⟨r0, r1, r2⟩ := (Blk.new wr 29 #[.int .i64 q.d, .int .i64 q.r, .slice A7 q.s.length c7]).c3
      have hi2 := hi.below b2
      have hb2 : Below w.heap.size w (wr.alloc (.cells #[.int .i64 q.d, .int .i64 q.r, .slice A7 q.s.length c7] 29)) := hb.trans (b2.mono hzs)
      cases hp : plainRow q.s
      · have HF : Hid (plainB rs = false) := Lib.hid (by
          rw [plainB, ← Bool.not_eq_true, List.all_eq_true]
          intro hall
          have := hall q (List.mem_of_getElem? HX.out)
          rw [hp] at this; cases this)
        go_wp2_with (refine (containsFunc_isCable_1 _ _ _ _ hi2 hil).mono ?_; rintro e w' ⟨rfl, rfl⟩; rw [hp])
        go_ret
        exact ⟨ret_bool HF.out.symm, hb2⟩
      · have HP := Lib.hid hp
        go_wp2_with (refine (containsFunc_isCable_1 _ _ _ _ hi2 hil).mono ?_; rintro e w' ⟨rfl, rfl⟩; rw [hp])
        go_roundw
        case rel => exact ⟨k + 1, by omega, by go_num, hb2, Lib.hid (by rw [take_snoc HX.out, plainB, List.all_append, ← plainB, HA.out]; simp [HP.out])⟩
        case measure => simp [intOf]; omega
    · go_wp2_with (fail)
      go_ret
      have := HA.out
      rw [take_all (by omega)] at this
      exact ⟨ret_bool this.symm, hb⟩


end Go.Proofs.Ytifjdiiafofnpaa

/- Cables: CableBraid. -/
namespace Go.Proofs.Ytifjdiiafofnpaa
open Go Go.RowKit

theorem rowsWord_snoc {rs : List RowD} {k : Nat} {q : RowD} (h : rs[k]? = some q) : rowsWord (rs.take (k + 1)) = rowsWord (rs.take k) ++ lettersFrom q.s 0 := by
  rw [take_snoc h, rowsWord, List.flatMap_append]
  simp [rowsWord]
theorem cbCode_1 {n : Int} {rs : List RowD} (h : chartB n rs = false) : cbCode n rs = 1 := by simp [cbCode, h]
theorem cbCode_2 {n : Int} {rs : List RowD} (h : chartB n rs = true) (hp : plainB rs = false) : cbCode n rs = 6 := by simp [cbCode, h, hp]
theorem cbCode_3 {n : Int} {rs : List RowD} (h : chartB n rs = true) (hp : plainB rs = true) : cbCode n rs = if (rowsWord rs).length ≤ 40 then 0 else 5 := by simp [cbCode, h, hp]

set_option maxHeartbeats 4000000 in
set_option maxRecDepth 10000 in
theorem impl_CableBraid (n : Int) (rs : List RowD) (A : Option Addr) (c : Nat) (w : World) (h : RowsR w A rs) (hl : rs.length ≤ 9223372036854775807) :
    Calls Try.prog 36 #[.agg #[.int .i64 n, .slice A rs.length c]] w fun e w' => ∃ A' c', e = .returned (.tuple #[.agg #[.int .i64 (cbX n rs).n, .slice A' (cbX n rs).xs.length c'], .int .i64 (cbCode n rs)]) ∧ OwnI w' w.heap.size w'.heap.size A' c' (cbX n rs).xs ∧ Below w.heap.size w w' := by
  have t1 : (59 : TypeId) ≠ 2 := by decide
  have t2 : (43 : TypeId) ≠ 2 := by decide
  obtain ⟨i0, hi0, hu0, hu1, hu2⟩ := info_parts info_int64
  obtain ⟨w1, hw1⟩ : ∃ w1, w1 = (w.alloc (.cells #[.int .i64 n, .slice A rs.length c] 43)).alloc (.cells #[.int .i64 0, .slice none 0 0] 59) := ⟨_, rfl⟩
  have hb1 : Below w.heap.size w w1 := by rw [hw1]; (repeat (first | exact Below.refl _ _ | assumption | apply Below.drew | apply below_drewN | (refine Below.alloc ?_ (by first | omega | (simp; done) | (simp; omega)) _) | (refine Below.setCell ?_ (by first | omega | (simp; done) | (simp; omega)) _)))
  have ka : Blk w1 w.heap.size 43 #[.int .i64 n, .slice A rs.length c] := by rw [hw1]; exact (Blk.new w _ _).alloc _
  have kz : Blk w1 (w.heap.size + 1) 59 #[.int .i64 0, .slice none 0 0] := by rw [hw1]; simpa using Blk.new (w.alloc (.cells #[.int .i64 n, .slice A rs.length c] 43)) 59 #[.int .i64 0, .slice none 0 0]
  have hz1 : w.heap.size + 2 ≤ w1.heap.size := kz.lt
  cases hv : chartB n rs
  · have HF := Lib.hid (cb_err (cbCode_1 (n := n) hv) (by decide))
    go_enter Try.func36, Try.ntmps36
    go_wp2_with (fail)
    rw [← hw1]
    refine (impl_ValidChart n rs A c _ (h.below hb1) hl).mono ?_; rintro e w2 ⟨rfl, b2⟩
    have hb2 : Below w.heap.size w w2 := hb1.trans (b2.mono (by omega))
    have kz2 := kz.below b2 (by omega)
    obtain ⟨r0, r1⟩ := kz2.c2
    have g0 := kz2.frozen 0
    have g1 := kz2.frozen 1
    rw [hv]
    clear hw1
    go_wp2_with (fail)
    refine bodyPost_ret (v := .tuple #[.agg #[.int .i64 (cbX n rs).n, .slice none (cbX n rs).xs.length 0], .int .i64 (cbCode n rs)]) (by rw [HF.out.1, HF.out.2]; simp [results, Try.results36, go_sem, r0, r1]) rfl ⟨none, 0, rfl, ?_, ?_⟩
    · rw [HF.out.1]; exact OwnC.nil _ _ _ _ _
    · (repeat (first | exact Below.refl _ _ | assumption | apply Below.drew | apply below_drewN | (refine Below.alloc ?_ (by first | omega | (simp; done) | (simp; omega)) _) | (refine Below.setCell ?_ (by first | omega | (simp; done) | (simp; omega)) _)))
  · have HV : Hid (∀ r ∈ rs, stitchesB r.s = true) := Lib.hid (fun r hr => (rowB_of ((chartB_of hv).2.2 r hr)).2.2.1)
    have HV2 := Lib.hid hv
    obtain ⟨h8, hs8⟩ := lens_of_chart hv
    have HS8 := Lib.hid hs8; clear hs8
    go_enter Try.func36, Try.ntmps36
    go_wp2_with (fail)
    rw [← hw1]
    refine (impl_ValidChart n rs A c _ (h.below hb1) hl).mono ?_; rintro e w2 ⟨rfl, b2⟩
    have hb2 : Below w.heap.size w w2 := hb1.trans (b2.mono (by omega))
    have ka2 := ka.below b2 (by omega)
    have kz2 := kz.below b2 (by omega)
    have hz2 := b2.size
    rw [hv]
    clear hw1 hv
    obtain ⟨q0, q1⟩ := ka2.c2
    go_wp2_with (fail)
    refine (impl_isCable n rs A c _ (h.below hb2) hl).mono ?_; rintro e w3 ⟨rfl, b3⟩
    have hb3 : Below w.heap.size w w3 := hb2.trans (b3.mono (by omega))
    have ka3 := ka2.below b3 (by omega)
    have kz3 := kz2.below b3 (by omega)
    have hz3 := b3.size
    clear ka kz ka2 kz2 q0 q1
    cases hp : plainB rs
    · have HF := Lib.hid (cb_err (cbCode_2 HV2.out hp) (by decide))
      obtain ⟨r0, r1⟩ := kz3.c2
      have g0 := kz3.frozen 0
      have g1 := kz3.frozen 1
      clear hp
      go_wp2_with (fail)
      refine bodyPost_ret (v := .tuple #[.agg #[.int .i64 (cbX n rs).n, .slice none (cbX n rs).xs.length 0], .int .i64 (cbCode n rs)]) (by rw [HF.out.1, HF.out.2]; simp [results, Try.results36, go_sem, r0, r1]) rfl ⟨none, 0, rfl, ?_, ?_⟩
      · rw [HF.out.1]; exact OwnC.nil _ _ _ _ _
      · (repeat (first | exact Below.refl _ _ | assumption | apply Below.drew | apply below_drewN | (refine Below.alloc ?_ (by first | omega | (simp; done) | (simp; omega)) _) | (refine Below.setCell ?_ (by first | omega | (simp; done) | (simp; omega)) _)))
    · have HC := Lib.hid (cbCode_3 HV2.out hp)
      clear hp
      obtain ⟨p0, p1⟩ := ka3.c2
      obtain ⟨p2, p3⟩ := (ka3.alloc (.cells #[.int .i64 n, .slice none 0 0] 59)).c2
      go_wp2_with (fail)
      clear p0 p1 p2 p3
      obtain ⟨w4, hw4⟩ : ∃ w4, w4 = w3.alloc (.cells #[.int .i64 n, .slice none 0 0] 59) := ⟨_, rfl⟩
      obtain ⟨gB, hgB⟩ : ∃ gB, gB = w3.heap.size := ⟨_, rfl⟩
      have hb4 : Below w.heap.size w w4 := by rw [hw4]; (repeat (first | exact Below.refl _ _ | assumption | apply Below.drew | apply below_drewN | (refine Below.alloc ?_ (by first | omega | (simp; done) | (simp; omega)) _) | (refine Below.setCell ?_ (by first | omega | (simp; done) | (simp; omega)) _)))
      have ka4 : Blk w4 w.heap.size 43 #[.int .i64 n, .slice A rs.length c] := by rw [hw4]; exact ka3.alloc _
      have kz4 : Blk w4 (w.heap.size + 1) 59 #[.int .i64 0, .slice none 0 0] := by rw [hw4]; exact kz3.alloc _
      have kx4 : Blk w4 gB 59 #[.int .i64 n, .slice none 0 0] := by rw [hw4, hgB]; exact Blk.new _ _ _
      have o4 : OwnI w4 w3.heap.size w4.heap.size none 0 [] := OwnC.nil _ _ _ _ _
      have hgw : w3.heap.size ≤ gB := by omega
      rw [← hgB, ← hw4]
      clear hw4 hgB
      have hz4 : gB < w4.heap.size := kx4.lt
      clear ka3 kz3 hb3 b3
      go_loopw [21] (fun iv wr => ∃ (k : Nat) (A' : Option Addr) (c' : Nat), k ≤ rs.length ∧ iv = .int .i64 k ∧ Blk wr w.heap.size 43 #[.int .i64 n, .slice A rs.length c] ∧ Blk wr (w.heap.size + 1) 59 #[.int .i64 0, .slice none 0 0] ∧ Blk wr gB 59 #[.int .i64 n, .slice A' (rowsWord (rs.take k)).length c'] ∧ OwnI wr w3.heap.size wr.heap.size A' c' (rowsWord (rs.take k)) ∧ Below w.heap.size w wr ∧ (rowsWord (rs.take k)).length ≤ 64 * k) (fun iv _ => rs.length - (intOf iv).toNat)
      case atStart => exact ⟨0, none, 0, Nat.zero_le _, rfl, ka4, kz4, kx4, o4, hb4, by simp [rowsWord]⟩
      case round =>
        clear ka4 kz4 kx4 o4 hb4 hz4
        obtain ⟨k, A', c', hk, rfl, kar, kzr, kxr, oor, hbr, hln⟩ := hrel
        have hzr := hbr.size
        have hxl := kxr.lt
        by_cases hkl : k < rs.length
        · obtain ⟨b, off, A7, c7, q, rfl, hx, f0, f1, f2, hi, hil⟩ := (h.below hbr) k hkl
          have hqs := HV.out q (List.mem_of_getElem? hx)
          have hq16 := (stitchesB_of hqs).1
          have HX := Lib.hid (rowsWord_snoc hx); clear hx
          have hnl : (lettersFrom q.s 0).length ≤ 64 := by have := lettersFrom_length q.s 0; omega
          generalize rowsWord (rs.take k) = out at kxr oor hln HX ⊢
          have j1 : (0 : Int) ≤ (k : Int) := by omega
          have j2 : (k : Int) < (rs.length : Int) := by omega
          obtain ⟨x0, x1⟩ := kar.c2
          have kr := Blk.new wr 29 #[.int .i64 q.d, .int .i64 q.r, .slice A7 q.s.length c7]
          have hbx : Below wr.heap.size wr (wr.alloc (.cells #[.int .i64 q.d, .int .i64 q.r, .slice A7 q.s.length c7] 29)) := by (repeat (first | exact Below.refl _ _ | assumption | apply Below.drew | apply below_drewN | (refine Below.alloc ?_ (by first | omega | (simp; done) | (simp; omega)) _) | (refine Below.setCell ?_ (by first | omega | (simp; done) | (simp; omega)) _)))
          have kxa := kxr.alloc (.cells #[.int .i64 q.d, .int .i64 q.r, .slice A7 q.s.length c7] 29)
          go_wp2_with (fail)
          (refine wp_region_pops 3 (S := (fun W' => W'.cell? ⟨gB, 1, none⟩ = some (.slice A' out.length c') ∧ (W'.cell? ⟨wr.heap.size, 0, none⟩ = some (.int .i64 q.d) ∧ W'.cell? ⟨wr.heap.size, 1, none⟩ = some (.int .i64 q.r) ∧ W'.cell? ⟨wr.heap.size, 2, none⟩ = some (.slice A7 q.s.length c7)))) (pre := ?_) (T := ?_) (n := ?_) (by kernel_rfl) (by kernel_rfl) ?_ ?_ ?_ ?_ (fun hHeld => ?_); rotate_left 3; (focus (simp only [pops, List.pop_toArray, List.dropLast_cons_cons, List.dropLast_singleton]; rfl)); (focus (simp only [tailOf, List.pop_toArray, List.dropLast_cons_cons, List.dropLast_singleton, List.back?_toArray, List.getLast?_cons_cons, List.getLast?_singleton, Option.toList_some, List.nil_append, List.cons_append]; rfl)); (focus rfl); (focus (exact ⟨kxa.c2.2, kr.c3⟩)))
          ((refine wpAnyH_take (i := 0) (v := ?_) rfl (by kernel_rfl) (by kernel_rfl) (by kernel_rfl) (fun _ _ _ h => h) (Or.inl ⟨by rfl, ?_⟩) (by assumption) ?_; rotate_left; (focus (intro W hSw; (try dsimp only at hSw); go_simp; try (with_reducible rfl)))); (try simp only [List.getElem_toArray, List.getElem_cons_zero, Act.put, List.setIfInBounds_toArray, List.set_cons_zero, List.set_cons_succ]); (refine wpAnyH_take (i := 1) (v := ?_) rfl (by kernel_rfl) (by kernel_rfl) (by kernel_rfl) (fun _ _ _ h => h) (Or.inl ⟨by rfl, ?_⟩) (by assumption) ?_; rotate_left; (focus (intro W hSw; (try dsimp only at hSw); go_simp; try (with_reducible rfl)))); (try simp only [List.getElem_toArray, List.getElem_cons_zero, List.getElem_cons_succ, Act.put, List.setIfInBounds_toArray, List.set_cons_zero, List.set_cons_succ]); (refine wpAnyH_take (i := 2) (v := ?_) rfl (by kernel_rfl) (by kernel_rfl) (by kernel_rfl) (fun _ _ _ h => h) (Or.inl ⟨by rfl, ?_⟩) (by assumption) ?_; rotate_left; (focus (intro W hSw; (try dsimp only at hSw); go_simp; try (with_reducible rfl)))); (try simp only [List.getElem_toArray, List.getElem_cons_zero, List.getElem_cons_succ, Act.put, List.setIfInBounds_toArray, List.set_cons_zero, List.set_cons_succ]))
          (refine wpAnyH_ready (rs := [3]) (by kernel_rfl) (by simp) ?_; refine AllReadyH.cons rfl (fun K hK => ?_) AllReadyH.nil)
          go_simp
          refine (impl_letters q.d q.r q.s A7 c7 _ (Ints.drew1 (hi.below hbx)) hqs).mono ?_; rintro e w7 ⟨A8, c8, rfl, o7', b7'⟩
          have b17 : Below wr.heap.size wr w7 := hbx.trans ((undrew b7').mono (by simp))
          have o7 : OwnI w7 wr.heap.size w7.heap.size A8 c8 (lettersFrom q.s 0) := o7'.mono (show wr.heap.size ≤ (wr.alloc _).heap.size by simp) (Nat.le_refl _)
          have hz7 := b17.size
          refine hK.out _ _ ⟨(kxa.below (undrew b7') (by simp; omega)).c2.2, (kr.below (undrew b7') (by simp)).c3⟩ (fun hHeld => ?_)
          clear hK K b7' o7'
          (try simp only [List.getElem_toArray, List.getElem_cons_zero, List.getElem_cons_succ, Act.put, List.setIfInBounds_toArray, List.set_cons_zero, List.set_cons_succ])
          (refine wpAnyH_done (by kernel_rfl) ?_ _; change wpList _ _ _ _ _ _)
          clear hHeld
          have ka7 := kar.below b17 (by omega)
          have kz7 := kzr.below b17 (by omega)
          have kx7 := kxr.below b17 (by omega)
          have oo7 := oor.below b17 (Nat.le_refl _)
          have hb7 : Below w.heap.size w w7 := hbr.trans (b17.mono (by omega))
          generalize lettersFrom q.s 0 = ms at o7 hnl HX ⊢
          have HKX : Hid (∀ w8, w7.grownBy w8 (Value.slice A' out.length c').ownBlock → Blk w8 gB 59 #[.int .i64 n, .slice A' out.length c']) := Lib.hid (fun w8 hg => kx7.grownT oo7 t1 hg)
          go_wp2_with (at_builtin; refine wpList_appendC w7 rfl (.tmp 26) (.tmp 28) _ rfl 2 i0 _ 1 8 Try.underlying22 hi0 hu0 hu1 hu2 rfl (by decide) rfl oo7 (by omega) A8 ms.length c8 (ms.map (Value.int .i64)) rfl (by simp) o7.news (ints_one _) (by unfold maxLen; omega) (by omega) ?_; intro A9 c9 w8 ho8 hg8 hb8; have kx8 := HKX.out w8 hg8; obtain ⟨x0', x1'⟩ := kx8.c2; have x2' := kx8.frozen 1)
          have kx8 := HKX.out w8 hg8
          have ka8 := ka7.grownT oo7 t2 hg8
          have kz8 := kz7.grownT oo7 t1 hg8
          have hz8 := hg8.size
          have hb8' : Below w.heap.size w w8 := hb7.trans (hb8.mono (by omega))
          refine ⟨⟨k + 1, A9, c9, by omega, by go_num, ka8.far (by show w.heap.size ≠ gB; omega) _, kz8.far (by show w.heap.size + 1 ≠ gB; omega) _, ?_, ?_, by (repeat (first | exact Below.refl _ _ | assumption | apply Below.drew | apply below_drewN | (refine Below.alloc ?_ (by first | omega | (simp; done) | (simp; omega)) _) | (refine Below.setCell ?_ (by first | omega | (simp; done) | (simp; omega)) _))), ?_⟩, by first | (simp [intOf]; done) | (simp [intOf]; omega)⟩
          · rw [HX.out, List.length_append]; exact kx8.set21 _
          · rw [HX.out]
            show OwnC _ _ _ _ _ _ _ _ _
            rw [List.map_append, List.length_append]
            exact (ho8.farT kx8 t1 1 _).mono (Nat.le_refl _) (by simp)
          · rw [HX.out, List.length_append]; omega
        · obtain rfl : k = rs.length := by omega
          rw [take_all (Nat.le_refl _)] at kxr oor
          clear hln
          generalize hqs : rowsWord rs = qs at kxr oor HC
          have HQ := Lib.hid hqs; clear hqs
          obtain ⟨x0, x1⟩ := kxr.c2
          obtain ⟨y0, y1⟩ := kar.c2
          obtain ⟨r0, r1⟩ := kzr.c2
          have g0 := kzr.frozen 0
          have g1 := kzr.frozen 1
          by_cases h40 : qs.length ≤ 40
          · have h40' : decide ((40 : Int) < (qs.length : Int)) = false := decide_eq_false (by omega)
            have HF : Hid (cbX n rs = ⟨n, qs⟩ ∧ cbCode n rs = 0) := Lib.hid (by
              have e : cbCode n rs = 0 := by rw [HC.out, if_pos h40]
              exact ⟨by rw [cbX, if_pos e, HQ.out], e⟩)
            clear h40
            go_wp2_with (fail)
            refine bodyPost_ret (v := .tuple #[.agg #[.int .i64 (cbX n rs).n, .slice A' (cbX n rs).xs.length c'], .int .i64 (cbCode n rs)]) (by rw [HF.out.1, HF.out.2]; simp [results, Try.results36, go_sem, r0, r1]) rfl ⟨A', c', rfl, ?_, ?_⟩
            · rw [HF.out.1]
              have k1 := kzr.set20 (.int .i64 n)
              exact OwnC.mono ((oor.farT kzr t1 0 _).farT k1 t1 1 _) (by omega) (by simp)
            · (repeat (first | exact Below.refl _ _ | assumption | apply Below.drew | apply below_drewN | (refine Below.alloc ?_ (by first | omega | (simp; done) | (simp; omega)) _) | (refine Below.setCell ?_ (by first | omega | (simp; done) | (simp; omega)) _)))
          · have h40' : decide ((40 : Int) < (qs.length : Int)) = true := decide_eq_true (by omega)
            have HF := Lib.hid (cb_err (k := 5) (by rw [HC.out, if_neg h40]) (by decide))
            clear h40
            go_wp2_with (fail)
            refine bodyPost_ret (v := .tuple #[.agg #[.int .i64 (cbX n rs).n, .slice none (cbX n rs).xs.length 0], .int .i64 (cbCode n rs)]) (by rw [HF.out.1, HF.out.2]; simp [results, Try.results36, go_sem, r0, r1]) rfl ⟨none, 0, rfl, ?_, ?_⟩
            · rw [HF.out.1]; exact OwnC.nil _ _ _ _ _
            · (repeat (first | exact Below.refl _ _ | assumption | apply Below.drew | apply below_drewN | (refine Below.alloc ?_ (by first | omega | (simp; done) | (simp; omega)) _) | (refine Below.setCell ?_ (by first | omega | (simp; done) | (simp; omega)) _)))


end Go.Proofs.Ytifjdiiafofnpaa
