/- Steps of the proof, joined from several texts: QC QD QE. -/
import Derived.Test.YtnjgmhdmjaijgaaGreatZ17
import Derived.Test.YtnjgmhdmjaijgaaGreatZ7
import Derived.Test.YtnjgmhdmjaijgaaGreatZ3

/- Permutations of normal forms, the given side: inverse, last letters, turned, a letter in front and behind, what can be moved. -/
namespace Go.Proofs.YtnjgmhdmjaijgaaGreat
open Go Go.RowKit
open Br (idl halfl invl flipl sw bh dB finB lwB Pm)

theorem sw_swapL {k : Nat} {xs : List Int} (h : k + 1 < xs.length) : sw k xs = swapL k xs := by
  obtain ⟨a, x, y, b, rfl, ha⟩ := Br.bi h
  have e1 : (a ++ x :: y :: b)[k]? = some x := by rw [List.getElem?_append_right (by omega), ha, Nat.sub_self]; rfl
  have e2 : (a ++ x :: y :: b)[k + 1]? = some y := by rw [List.getElem?_append_right (by omega), ha, Nat.add_sub_cancel_left]; rfl
  rw [Br.sw_at' ha, swapL_at e1 e2, ← ha, swapL_eq]
theorem invTo_invl {n : Nat} {p : List Int} (h : Pm n p) : invTo p n n = invl p := by
  refine Br.invl_uniq h (invTo_length _ _ _) fun i v hiv => ?_
  have hi : i < n := by rw [← h.len]; exact (List.getElem?_eq_some_iff.1 hiv).1
  have := invTo_at h.len h.nodup (fun x hx => h.mem.1 hx) n (Nat.le_refl _) i (v : Int) hi hiv
  simpa using this
theorem zerosN2 (n : Nat) : (madeCells (Value.int .i64 0).cells (n * 1)).toList = (List.replicate n (0 : Int)).map (Value.int .i64) := by
  apply List.ext_getElem?
  intro i
  simp only [madeCells, Value.cells, Array.toList_map, Array.toList_range, List.getElem?_map, Nat.mul_one]
  by_cases h : i < n
  · rw [List.getElem?_range h, List.getElem?_replicate, if_pos h]
    simp [Nat.mod_one]
  · rw [List.getElem?_eq_none (by simpa using h), List.getElem?_eq_none (by simpa using h)]
    rfl
/-- A store into a cell of slices leaves the numbers as they were. -/
theorem Ints.past {w : World} {A : Option Addr} {xs : List Int} (h : Ints w A xs) {g j : Nat} (hA : ∀ a, A = some a → a.block ≠ g) (u : Value) : Ints (w.setCell ⟨g, j, none⟩ u) A xs := by
  intro k hk
  obtain ⟨b, off, x, hA', hc, hx⟩ := h k hk
  exact ⟨b, off, x, hA', by rw [World.cell?, Below.heap_setCell w _ _ b (by show b ≠ g; exact hA _ hA')]; exact hc, hx⟩

set_option maxHeartbeats 2000000 in
set_option maxRecDepth 10000 in
theorem spec_l04Inverse (n : Nat) (p : List Int) (A : Option Addr) (c : Nat) (w : World) (h : Ints w A p) (hp : Pm n p) (hn : n ≤ 100) :
    Calls Tryz.prog 174 #[.slice A n c] w fun e w' => ∃ A' c', e = .returned (.slice A' n c') ∧ OwnC w' w.heap.size w'.heap.size 2 1 A' n c' ((invl p).map (Value.int .i64)) ∧ Below w.heap.size w w' := by
  obtain ⟨i0, hi0, hz0, hz1, hz2⟩ := info_parts info_int64
  have HP := Lib.hid (invTo_invl hp)
  have HAL := Lib.hid hp.len
  have HAR := Lib.hid (fun x hx => hp.mem.1 hx : ∀ x ∈ p, 0 ≤ x ∧ x < (n : Int))
  have HFAR : Hid (∀ a, A = some a → 0 < p.length → a.block ≠ w.heap.size) := Lib.hid (fun a ha h0 e => by
    obtain ⟨b, off, x, hA, hc, _⟩ := h 0 h0
    rw [hA] at ha
    injection ha with ha
    subst ha
    have := cell_lt hc
    have e' : b = w.heap.size := e
    have h2 : b < w.heap.size := this
    omega)
  clear hp
  go_enter Tryz.func174, Tryz.ntmps174
  go_wp2_with (refine wpList_make_full _ rfl _ _ _ rfl w.heap.size 2 i0 _ 1 Tryz.underlying36 hi0 hz0 hz1 .i64 .i64 _ _ n rfl rfl rfl rfl (by rw [hz2]; omega) (by unfold maxLen; omega) (Nat.le_refl _) ?_; intro w4 hown hg)
  have b4 : Below w.heap.size w w4 := (Below.refl _ _).grown hg (Nat.le_refl _) (by simp)
  have o4 : OwnC w4 w.heap.size w4.heap.size 2 1 (some ⟨w.heap.size, 0, none⟩) n n ((invTo p n 0).map (Value.int .i64)) := by
    have := OwnC.of_own hown (Nat.le_refl _)
    rwa [zerosN2] at this
  have ia4 := h.below b4
  obtain ⟨hi4, hh4⟩ : ∃ hi4, hi4 = w4.heap.size := ⟨_, rfl⟩
  rw [← hh4] at o4
  have hz4 : hi4 ≤ w4.heap.size := by omega
  clear hown hg hh4
  go_loopw [4] (fun iv wr => ∃ i : Nat, i ≤ n ∧ iv = .int .i64 i ∧ OwnC wr w.heap.size hi4 2 1 (some ⟨w.heap.size, 0, none⟩) n n ((invTo p n i).map (Value.int .i64)) ∧ Ints wr A p ∧ Below w.heap.size w wr ∧ hi4 ≤ wr.heap.size) (fun iv _ => n - (intOf iv).toNat)
  case atStart => exact ⟨0, Nat.zero_le _, rfl, o4, ia4, b4, hz4⟩
  case round =>
    clear o4 ia4 b4 hz4
    obtain ⟨i, hi, rfl, ho, hia, hb, hz⟩ := hrel
    by_cases hin : i < n
    · have di : decide ((i : Int) < (n : Int)) = true := decide_eq_true (by omega)
      obtain ⟨b, off, x, hA3, hc, hx⟩ := hia i (by rw [HAL.out]; exact hin)
      have hbg : b ≠ w.heap.size := HFAR.out _ hA3 (by rw [HAL.out]; omega)
      subst hA3
      obtain ⟨hx0, hx1⟩ := HAR.out x (List.mem_of_getElem? hx)
      obtain ⟨v, rfl⟩ := Int.eq_ofNat_of_zero_le hx0
      have hvn : v < n := by omega
      have HI : Hid (invTo p n (i + 1) = (invTo p n i).set v (i : Int)) := Lib.hid (by rw [invTo, getD_of hx, Int.toNat_natCast])
      have hil : (invTo p n i).length = n := invTo_length p n i
      obtain ⟨yy, hy⟩ : ∃ yy, (invTo p n i)[v]? = some yy := ⟨_, List.getElem?_eq_getElem (by omega)⟩
      obtain ⟨cy, fy, gy, _⟩ := own_at (show OwnI wr w.heap.size hi4 (some ⟨w.heap.size, 0, none⟩) n (invTo p n i) from by show OwnC _ _ _ _ _ _ _ _ _; rw [hil]; exact ho) hy
      have HIL := Lib.hid hil; clear hil hy
      have j1 : (0 : Int) ≤ (i : Int) := by omega
      have j3 : (0 : Int) ≤ (v : Int) := by omega
      have j4 : (v : Int) < (n : Int) := by omega
      have j5 : IntKind.i64.wrap (v : Int) = (v : Int) := IntWalk.i64_in _ ⟨by omega, by omega⟩
      have j6 : (i : Int) < (n : Int) := by omega
      clear hx
      go_wp2_with (fail)
      refine ⟨⟨i + 1, by omega, by go_num, ?_, ?_, hb.setCell (Nat.le_refl _) _, by simpa using hz⟩, by simp [intOf]; omega⟩
      · rw [HI.out, List.map_set]
        exact (OwnC.store ho _).1
      · exact hia.past (fun a ha => by injection ha with ha; subst ha; exact hbg) _
    · obtain rfl : i = n := by omega
      have di : decide ((i : Int) < (i : Int)) = false := decide_eq_false (by omega)
      go_wp2_with (fail)
      go_ret
      refine ⟨some ⟨w.heap.size, 0, none⟩, i, rfl, ?_, hb⟩
      rw [← HP.out]
      exact OwnC.mono ho (Nat.le_refl _) hz

theorem spec_l04Start_n {n : Nat} (p : List Int) (A : Option Addr) (c : Nat) (w : World) (h : Ints w A p) (hl : p.length = n) (hn : n ≤ 100) :
    Calls Tryz.prog 171 #[.slice A n c] w fun e w' => ∃ A' c', e = .returned (.slice A' (startsL p).length c') ∧ OwnI w' w.heap.size w'.heap.size A' c' (startsL p) ∧ Below w.heap.size w w' := by
  subst hl
  exact spec_l04Start p A c w h hn
theorem spec_l04Finish (n : Nat) (p : List Int) (A : Option Addr) (c : Nat) (w : World) (h : Ints w A p) (hp : Pm n p) (hn : n ≤ 100) :
    Calls Tryz.prog 170 #[.slice A n c] w fun e w' => ∃ A' c', e = .returned (.slice A' (startsL (invl p)).length c') ∧ OwnI w' w.heap.size w'.heap.size A' c' (startsL (invl p)) ∧ Below w.heap.size w w' := by
  go_enter Tryz.func170, Tryz.ntmps170
  go_wp2_with (fail)
  refine (spec_l04Inverse n p A c w h hp hn).mono ?_; rintro e w1 ⟨A1, c1, rfl, o1, b1⟩
  have HL := Lib.hid ((Br.invl_length p).trans hp.len)
  go_wp2_with (fail)
  refine (spec_l04Start_n (n := n) (invl p) A1 c1 w1 (OwnC.ints o1) HL.out hn).mono ?_; rintro e w2 ⟨A2, c2, rfl, o2, b2⟩
  go_wp2_with (fail)
  go_ret
  exact ⟨A2, c2, rfl, o2.mono b1.size (Nat.le_refl _), b1.trans (b2.mono b1.size)⟩

theorem spec_l00Own_n {n : Nat} (A : Option Addr) (c : Nat) (p : List Int) (w : World) (h : Ints w A p) (hl : p.length = n) (hn : n ≤ 100) :
    Calls Tryz.prog 89 #[.slice A n c] w fun e w' => ∃ A' c', e = .returned (.slice A' n c') ∧ OwnC w' w.heap.size w'.heap.size 2 1 A' n c' (p.map (Value.int .i64)) ∧ Below w.heap.size w w' := by
  subst hl
  exact spec_l00Own A c p w h (by omega)

set_option maxHeartbeats 2000000 in
set_option maxRecDepth 10000 in
theorem spec_l04Before (n j : Nat) (p : List Int) (A : Option Addr) (c : Nat) (w : World) (h : Ints w A p) (hl : p.length = n) (hj : j + 1 < n) (hn : n ≤ 100) :
    Calls Tryz.prog 161 #[.int .i64 ((j : Int) + 1), .slice A n c] w fun e w' => ∃ A' c', e = .returned (.slice A' n c') ∧ OwnC w' w.heap.size w'.heap.size 2 1 A' n c' ((sw j p).map (Value.int .i64)) ∧ Below w.heap.size w w' := by
  have HS := Lib.hid (sw_swapL (k := j) (xs := p) (by omega))
  obtain ⟨b, off, x, hA, hc, hx⟩ := h j (by omega)
  obtain ⟨b', off', y, hA', hc', hy⟩ := h (j + 1) (by omega)
  subst hA
  injection hA' with hA'
  injection hA' with e1 e2
  subst e1 e2
  have HC0 : Hid (Calls Tryz.prog 89 #[.slice (some ⟨b, off, none⟩) n c] w fun e w' => ∃ A' c', e = .returned (.slice A' n c') ∧ OwnC w' w.heap.size w'.heap.size 2 1 A' n c' (p.map (Value.int .i64)) ∧ Below w.heap.size w w') := Lib.hid (spec_l00Own_n _ c p w h hl hn)
  have j1 : IntKind.i64.wrap ((j : Int) + 1 - 1) = (j : Int) := by rw [show (j : Int) + 1 - 1 = (j : Int) by omega]; exact IntWalk.i64_in _ (by omega)
  have j2 : (0 : Int) ≤ (j : Int) := by omega
  have j3 : (j : Int) < (n : Int) := by omega
  have j4 : (0 : Int) ≤ (j : Int) + 1 := by omega
  have j5 : (j : Int) + 1 < (n : Int) := by omega
  have j6 : ((j : Int) + 1).toNat = j + 1 := by omega
  have HL := Lib.hid hl; clear hl
  go_enter Tryz.func161, Tryz.ntmps161
  go_wp2_with (fail)
  refine HC0.out.mono ?_; rintro e w1 ⟨A1, c1, rfl, o1, b1⟩
  obtain ⟨g, rfl⟩ := OwnC.head o1 (by omega)
  have o1' : OwnI w1 w.heap.size w1.heap.size (some ⟨g, 0, none⟩) c1 p := by show OwnC _ _ _ _ _ _ _ _ _; rw [HL.out]; exact o1
  obtain ⟨ca, fa, ga, gb⟩ := own_at o1' hx
  obtain ⟨cb, fb, _, _⟩ := own_at o1' hy
  have HSL := Lib.hid (own_swap o1' hx hy)
  have q0 := cells_below b1 _ _ hc
  have q1 := cells_below b1 _ _ hc'
  have hbw : b < w.heap.size := cell_lt hc
  have hbg : ¬ b = g := by omega
  have hgb : ¬ g = b := by omega
  clear o1 o1' hx hy
  go_wp2_with (fail)
  go_ret
  refine ⟨some ⟨g, 0, none⟩, c1, rfl, ?_, (b1.setCell (by show w.heap.size ≤ g; omega) _).setCell (by show w.heap.size ≤ g; omega) _⟩
  have := HSL.out
  rw [← HS.out] at this
  have h2 : OwnC _ _ _ _ _ _ _ _ _ := this
  rw [Br.sw_length, HL.out] at h2
  simpa using h2

theorem fv_take {k : Nat} {p : List Int} {i : Nat} {x : Int} (h : p[i]? = some x) : (bh k (p.take i) ++ p.drop i).set i (Br.fv k x) = bh k (p.take (i + 1)) ++ p.drop (i + 1) := by
  have hi : i < p.length := (List.getElem?_eq_some_iff.1 h).1
  have hl : (bh k (p.take i)).length = i := by rw [bh, List.length_map, List.length_take]; omega
  rw [take_snoc h, drop_cons h, List.set_append_right _ _ (by omega), hl, Nat.sub_self, List.set_cons_zero]
  simp [bh]
set_option maxHeartbeats 4000000 in
set_option maxRecDepth 10000 in
theorem spec_l04Behind (n j : Nat) (p : List Int) (A : Option Addr) (c : Nat) (w : World) (h : Ints w A p) (hl : p.length = n) (hj : j ≤ 1000) (hn : n ≤ 100) :
    Calls Tryz.prog 130 #[.slice A n c, .int .i64 ((j : Int) + 1)] w fun e w' => ∃ A' c', e = .returned (.slice A' n c') ∧ OwnC w' w.heap.size w'.heap.size 2 1 A' n c' ((bh j p).map (Value.int .i64)) ∧ Below w.heap.size w w' := by
  have HC0 : Hid (Calls Tryz.prog 89 #[.slice A n c] w fun e w' => ∃ A' c', e = .returned (.slice A' n c') ∧ OwnC w' w.heap.size w'.heap.size 2 1 A' n c' (p.map (Value.int .i64)) ∧ Below w.heap.size w w') := Lib.hid (spec_l00Own_n _ c p w h hl hn)
  have j1 : IntKind.i64.wrap ((j : Int) + 1 - 1) = (j : Int) := by rw [show (j : Int) + 1 - 1 = (j : Int) by omega]; exact IntWalk.i64_in _ (by omega)
  have HL := Lib.hid hl; clear hl
  go_enter Tryz.func130, Tryz.ntmps130
  go_wp2_with (fail)
  refine HC0.out.mono ?_; rintro e w1 ⟨A1, c1, rfl, o1, b1⟩
  obtain ⟨hi1, hh1⟩ : ∃ hi1, hi1 = w1.heap.size := ⟨_, rfl⟩
  rw [← hh1] at o1
  have hz1 : hi1 ≤ w1.heap.size := by omega
  clear hh1
  go_wp2_with (fail)
  go_loopw [6] (fun iv wr => ∃ i : Nat, i ≤ n ∧ iv = .int .i64 (i : Int) ∧ OwnC wr w.heap.size hi1 2 1 A1 n c1 ((bh j (p.take i) ++ p.drop i).map (Value.int .i64)) ∧ Below w.heap.size w wr ∧ hi1 ≤ wr.heap.size) (fun iv _ => n - (intOf iv).toNat)
  case atStart => exact ⟨0, Nat.zero_le _, rfl, by simpa [bh] using o1, b1, hz1⟩
  case round =>
    clear o1 b1 hz1
    obtain ⟨i, hi, rfl, ho, hb, hz⟩ := hrel
    by_cases hin : i < n
    · have di : decide ((i : Int) < (n : Int)) = true := decide_eq_true (by omega)
      obtain ⟨b, off, x, rfl, hc, hx⟩ := h i (by rw [HL.out]; exact hin)
      obtain ⟨g, rfl⟩ := OwnC.head ho (by omega)
      have hF := fv_take (k := j) hx
      have hlen : (bh j (p.take i) ++ p.drop i).length = n := by rw [List.length_append, bh, List.length_map, List.length_take, List.length_drop, HL.out]; omega
      have hget : (bh j (p.take i) ++ p.drop i)[i]? = some x := by
        rw [List.getElem?_append_right (by rw [bh, List.length_map, List.length_take, HL.out]; omega), bh, List.length_map, List.length_take, HL.out, Nat.min_eq_left hi, Nat.sub_self, drop_cons hx]
        rfl
      obtain ⟨cy, fy, gy, gy2⟩ := own_at (show OwnI wr w.heap.size hi1 (some ⟨g, 0, none⟩) c1 (bh j (p.take i) ++ p.drop i) from by show OwnC _ _ _ _ _ _ _ _ _; rw [hlen]; exact ho) hget
      have q0 := cells_below hb _ _ hc
      have hbw : b < w.heap.size := cell_lt hc
      have hbg : ¬ b = g := by omega
      have hgb : ¬ g = b := by omega
      have k1 : (0 : Int) ≤ (i : Int) := by omega
      have k2 : (i : Int) < (n : Int) := by omega
      have HST : Hid (∀ u, OwnC (wr.setCell ⟨g, i, none⟩ u) w.heap.size hi1 2 1 (some ⟨g, 0, none⟩) n c1 (((bh j (p.take i) ++ p.drop i).map (Value.int .i64)).set i u)) := Lib.hid (fun u => (OwnC.store ho u).1)
      have HF := Lib.hid hF; clear hF
      have HBF := Lib.hid hx; clear hx hget hlen hc
      by_cases h1 : x = (j : Int)
      · have e1 : (x == (j : Int)) = true := by rw [h1]; simp
        have e2 : (x == (j : Int) + 1) = false := by rw [beq_eq_false_iff_ne]; omega
        have HV : Hid (Br.fv j x = (j : Int) + 1) := Lib.hid (by rw [h1, Br.fv_k])
        clear h1
        go_wp2_with (fail)
        refine ⟨⟨i + 1, by omega, by go_num, ?_, hb.setCell (by show w.heap.size ≤ g; omega) _, by simpa using hz⟩, by simp [intOf]; omega⟩
        rw [← HF.out, HV.out, List.map_set]
        exact HST.out _
      · have e1 : (x == (j : Int)) = false := by rw [beq_eq_false_iff_ne]; exact h1
        by_cases h2 : x = (j : Int) + 1
        · have e2 : (x == (j : Int) + 1) = true := by rw [h2]; simp
          have HV : Hid (Br.fv j x = (j : Int)) := Lib.hid (by rw [h2, Br.fv_k1])
          clear h1 h2
          go_wp2_with (fail)
          refine ⟨⟨i + 1, by omega, by go_num, ?_, hb.setCell (by show w.heap.size ≤ g; omega) _, by simpa using hz⟩, by simp [intOf]; omega⟩
          rw [← HF.out, HV.out, List.map_set]
          exact HST.out _
        · have e2 : (x == (j : Int) + 1) = false := by rw [beq_eq_false_iff_ne]; exact h2
          have HV : Hid (Br.fv j x = x) := Lib.hid (by rw [Br.fv, if_neg h1, if_neg h2])
          clear h1 h2
          go_wp2_with (fail)
          refine ⟨⟨i + 1, by omega, by go_num, ?_, hb, hz⟩, by simp [intOf]; omega⟩
          rw [← HF.out, HV.out]
          have e3 : (bh j (p.take i) ++ p.drop i).set i x = bh j (p.take i) ++ p.drop i := by
            rw [HV.out] at HF
            have hl1 : (bh j (p.take i)).length = i := by rw [bh, List.length_map, List.length_take, HL.out]; omega
            rw [List.set_append_right _ _ (by omega), hl1, Nat.sub_self, drop_cons HBF.out, List.set_cons_zero]
          rw [e3]
          exact ho
    · obtain rfl : i = n := by omega
      have di : decide ((i : Int) < (i : Int)) = false := decide_eq_false (by omega)
      go_wp2_with (fail)
      go_ret
      rw [take_all (by rw [HL.out]; exact Nat.le_refl _), List.drop_eq_nil_of_le (by rw [HL.out]; exact Nat.le_refl _), List.append_nil] at ho
      exact ⟨A1, c1, rfl, OwnC.mono ho (Nat.le_refl _) hz, hb⟩

end Go.Proofs.YtnjgmhdmjaijgaaGreat

/- Lists of permutations, the given side: the outer slice is the call's own, the inner ones are read; turned lists, what can be moved. -/
namespace Go.Proofs.YtnjgmhdmjaijgaaGreat
open Go Go.RowKit
open Br (idl halfl invl flipl sw bh dB finB lwB Pm)

/-- The cells of a list of permutations of n numbers. -/
def CR (w : World) (n : Nat) (cs : List Value) (F : List (List Int)) : Prop :=
  cs.length = F.length ∧ ∀ (k : Nat) (p : List Int), F[k]? = some p → ∃ (A' : Option Addr) (c' : Nat), cs[k]? = some (Value.slice A' n c') ∧ OwnC w 0 w.heap.size 2 1 A' n c' (p.map (Value.int .i64)) ∧ p.length = n
section
variable {w w' : World} {n : Nat} {cs : List Value} {F : List (List Int)}
theorem CR.keepC (h : CR w n cs F) (hz : w.heap.size ≤ w'.heap.size) (hk : ∀ (A' : Option Addr) (c' : Nat) (p : List Int), OwnC w 0 w.heap.size 2 1 A' n c' (p.map (Value.int .i64)) → OwnC w' 0 w.heap.size 2 1 A' n c' (p.map (Value.int .i64))) : CR w' n cs F :=
  ⟨h.1, fun k p hp => by obtain ⟨A', c', h1, h2, h3⟩ := h.2 k p hp; exact ⟨A', c', h1, (hk _ _ _ h2).mono (Nat.le_refl _) hz, h3⟩⟩
theorem CR.below (h : CR w n cs F) (hb : Below w.heap.size w w') : CR w' n cs F := h.keepC hb.size fun _ _ _ ho => ho.below hb (Nat.le_refl _)
theorem CR.nil : CR w n [] [] := ⟨rfl, fun k p h => by simp at h⟩
theorem CR.snoc {A2 : Option Addr} {c2 : Nat} {q : List Int} (h : CR w n cs F) (ho : OwnC w 0 w.heap.size 2 1 A2 n c2 (q.map (Value.int .i64))) (hq : q.length = n) : CR w n (cs ++ [.slice A2 n c2]) (F ++ [q]) := by
  refine ⟨by simp [h.1], fun k p hp => ?_⟩
  by_cases hk : k < F.length
  · rw [List.getElem?_append_left hk] at hp
    obtain ⟨A', c', h1, h2, h3⟩ := h.2 k p hp
    exact ⟨A', c', by rw [List.getElem?_append_left (by rw [h.1]; exact hk)]; exact h1, h2, h3⟩
  · rw [List.getElem?_append_right (by omega)] at hp
    have hk0 : k = F.length := by
      have := (List.getElem?_eq_some_iff.1 hp).1
      simp at this
      omega
    subst hk0
    rw [Nat.sub_self] at hp
    injection hp with hp
    subst hp
    exact ⟨A2, c2, by rw [List.getElem?_append_right (by rw [h.1]; exact Nat.le_refl _), h.1, Nat.sub_self]; rfl, ho, hq⟩
theorem CR.set {A2 : Option Addr} {c2 k : Nat} {q : List Int} (h : CR w n cs F) (hk : k < F.length) (ho : OwnC w 0 w.heap.size 2 1 A2 n c2 (q.map (Value.int .i64))) (hq : q.length = n) : CR w n (cs.set k (.slice A2 n c2)) (F.set k q) := by
  refine ⟨by simp [h.1], fun j p hp => ?_⟩
  by_cases e : k = j
  · subst e
    rw [List.getElem?_set_self hk] at hp
    injection hp with hp
    subst hp
    exact ⟨A2, c2, by rw [List.getElem?_set_self (by rw [h.1]; exact hk)], ho, hq⟩
  · rw [List.getElem?_set_ne e] at hp
    obtain ⟨A', c', h1, h2, h3⟩ := h.2 j p hp
    exact ⟨A', c', by rw [List.getElem?_set_ne e]; exact h1, h2, h3⟩
theorem CR.farT {g : Nat} {bs : Array Value} (h : CR w n cs F) (hb : Blk w g 36 bs) (j : Nat) (u : Value) : CR (w.setCell ⟨g, j, none⟩ u) n cs F :=
  h.keepC (by simp) fun _ _ _ ho => ho.farT hb (by decide) j u
theorem CR.grownT {lo2 hi2 sz2 n2 c2 : Nat} {B : Option Addr} {cs2 : List Value} (h : CR w n cs F) (h2 : OwnC w lo2 hi2 36 sz2 B n2 c2 cs2) (hg : w.grownBy w' (Value.slice B n2 c2).ownBlock) : CR w' n cs F :=
  h.keepC hg.size fun _ _ _ ho => OwnC.grownT ho h2 (by decide) hg
end
/-- A list of permutations whose outer slice is the call's own. -/
def PRows (w : World) (lo n : Nat) (A : Option Addr) (m c : Nat) (F : List (List Int)) : Prop := ∃ cs, OwnC w lo w.heap.size 36 1 A m c cs ∧ CR w n cs F
section
variable {w w' : World} {lo n m c : Nat} {A : Option Addr} {F : List (List Int)}
theorem PRows.len (h : PRows w lo n A m c F) : F.length = m := by
  obtain ⟨cs, h1, h2⟩ := h
  have := h1.len
  rw [h2.1] at this
  omega
theorem PRows.below (h : PRows w lo n A m c F) (hb : Below w.heap.size w w') : PRows w' lo n A m c F := by
  obtain ⟨cs, h1, h2⟩ := h
  exact ⟨cs, (h1.below hb (Nat.le_refl _)).mono (Nat.le_refl _) hb.size, h2.below hb⟩
theorem PRows.drewN (h : PRows w lo n A m c F) (k : Nat) : PRows (w.drewN k) lo n A m c F := h.below (below_drewN (Below.refl _ _) k)
theorem PRows.get (h : PRows w lo n A m c F) {k : Nat} {p : List Int} (hp : F[k]? = some p) : ∃ g A' c', A = some ⟨g, 0, none⟩ ∧ lo ≤ g ∧ g < w.heap.size ∧ w.cell? ⟨g, k, none⟩ = some (.slice A' n c') ∧ w.frozen? ⟨g, k, none⟩ = false ∧ Ints w A' p ∧ p.length = n ∧ OwnC w 0 w.heap.size 2 1 A' n c' (p.map (Value.int .i64)) := by
  obtain ⟨cs, h1, h2⟩ := h
  obtain ⟨A', c', h3, h4, h5⟩ := h2.2 k p hp
  have hk := (List.getElem?_eq_some_iff.1 h3).1
  obtain ⟨g, hA, hg1, hg2, hc, hf⟩ := h1.cell hk
  have := (List.getElem?_eq_some_iff.1 h3).2
  rw [this] at hc
  exact ⟨g, A', c', hA, hg1, hg2, hc, hf, OwnC.ints h4, h5, h4⟩
theorem PRows.put {g k c2 : Nat} {A2 : Option Addr} {q : List Int} (h : PRows w lo n (some ⟨g, 0, none⟩) m c F) (hk : k < F.length) (ho : OwnC w 0 w.heap.size 2 1 A2 n c2 (q.map (Value.int .i64))) (hq : q.length = n) :
    PRows (w.setCell ⟨g, k, none⟩ (.slice A2 n c2)) lo n (some ⟨g, 0, none⟩) m c (F.set k q) := by
  obtain ⟨cs, h1, h2⟩ := h
  rcases h1.form with ⟨hA, _⟩ | ⟨g', cur, hA, _, _, hh, _⟩
  · cases hA
  · injection hA with hA
    injection hA with hA
    subst hA
    have h3 := (h2.set hk ho hq).farT (show Blk w g 36 cur from hh) k (.slice A2 n c2)
    exact ⟨_, (h1.store _).1.mono (Nat.le_refl _) (by simp), h3⟩
theorem PRows.cap (h : PRows w lo n A m c F) : m ≤ c ∧ c ≤ 9223372036854775807 := by
  obtain ⟨cs, h1, _⟩ := h
  exact ⟨h1.cap, h1.capmax⟩
theorem PRows.push {cs : List Value} {w8 : World} {A9 A2 : Option Addr} {c9 c2 : Nat} {q : List Int} (ho : OwnC w lo w.heap.size 36 1 A m c cs) (hc : CR w n cs F) (h2 : OwnC w 0 w.heap.size 2 1 A2 n c2 (q.map (Value.int .i64))) (hq : q.length = n)
    (ho8 : OwnC w8 lo w8.heap.size 36 1 A9 (m + 1) c9 (cs ++ [.slice A2 n c2])) (hg : (w.alloc (.cells #[.slice A2 n c2] 36)).grownBy w8 (Value.slice A m c).ownBlock) : PRows w8 lo n A9 (m + 1) c9 (F ++ [q]) := by
  have hb : Below w.heap.size w (w.alloc (.cells #[.slice A2 n c2] 36)) := (Below.refl _ _).alloc (Nat.le_refl _) _
  have h3 := hc.snoc h2 hq
  exact ⟨_, ho8, (h3.below hb).grownT (OwnC.alloc ho (.cells #[.slice A2 n c2] 36)) hg⟩
theorem PRows.nil (A : Option Addr) (hA : A = none) : PRows w lo n A 0 0 [] := ⟨[], by subst hA; exact OwnC.nil _ _ _ _ _, CR.nil⟩
end
theorem info_intsI : (Tryz.prog.info? 36).map (fun i => (i.zero, i.size, i.bytes)) = some (some (.slice none 0 0), 1, 24) := by kernel_rfl

theorem flip_at {p : List Int} {i : Nat} {x : Int} (hi : i < p.length) (h : p[p.length - 1 - i]? = some x) : (flipl p)[i]? = some ((p.length : Int) - 1 - x) := by
  unfold flipl
  rw [List.getElem?_reverse (by rw [List.length_map]; exact hi), List.length_map, List.getElem?_map, h]
  rfl
theorem flip_length (p : List Int) : (flipl p).length = p.length := by simp [flipl]
set_option maxHeartbeats 2000000 in
set_option maxRecDepth 10000 in
theorem spec_l04Flip (n : Nat) (p : List Int) (A : Option Addr) (c : Nat) (w : World) (h : Ints w A p) (hp : Pm n p) (hn : n ≤ 100) :
    Calls Tryz.prog 159 #[.slice A n c] w fun e w' => ∃ A' c', e = .returned (.slice A' n c') ∧ OwnC w' w.heap.size w'.heap.size 2 1 A' n c' ((flipl p).map (Value.int .i64)) ∧ Below w.heap.size w w' := by
  obtain ⟨i0, hi0, hz0, hz1, hz2⟩ := info_parts info_int64
  have HAL := Lib.hid hp.len
  have HAR := Lib.hid (fun x hx => hp.mem.1 hx : ∀ x ∈ p, 0 ≤ x ∧ x < (n : Int))
  have HFL := Lib.hid ((flip_length p).trans hp.len)
  have HFA := Lib.hid (fun i x hi hx => flip_at hi hx : ∀ (i : Nat) (x : Int), i < p.length → p[p.length - 1 - i]? = some x → (flipl p)[i]? = some ((p.length : Int) - 1 - x))
  have HFAR : Hid (∀ a, A = some a → 0 < p.length → a.block ≠ w.heap.size) := Lib.hid (fun a ha h0 e => by
    obtain ⟨b, off, x, hA, hc, _⟩ := h 0 h0
    rw [hA] at ha
    injection ha with ha
    subst ha
    have := cell_lt hc
    have e' : b = w.heap.size := e
    have h2 : b < w.heap.size := this
    omega)
  clear hp
  have w1 : IntKind.i64.wrap ((n : Int) - 1) = (n : Int) - 1 := IntWalk.i64_in _ ⟨by omega, by omega⟩
  go_enter Tryz.func159, Tryz.ntmps159
  go_wp2_with (refine wpList_make_full _ rfl _ _ _ rfl w.heap.size 2 i0 _ 1 Tryz.underlying36 hi0 hz0 hz1 .i64 .i64 _ _ n rfl rfl rfl rfl (by rw [hz2]; omega) (by unfold maxLen; omega) (Nat.le_refl _) ?_; intro w4 hown hg)
  have b4 : Below w.heap.size w w4 := (Below.refl _ _).grown hg (Nat.le_refl _) (by simp)
  have o4 := OwnC.of_own hown (Nat.le_refl _)
  rw [zerosN2] at o4
  have ia4 := h.below b4
  obtain ⟨hi4, hh4⟩ : ∃ hi4, hi4 = w4.heap.size := ⟨_, rfl⟩
  rw [← hh4] at o4
  have hz4 : hi4 ≤ w4.heap.size := by omega
  clear hown hg hh4
  go_loopw [5] (fun iv wr => ∃ (i : Nat) (cs : List Int), i ≤ n ∧ iv = .int .i64 i ∧ OwnC wr w.heap.size hi4 2 1 (some ⟨w.heap.size, 0, none⟩) n n (cs.map (Value.int .i64)) ∧ Hid (cs.length = n ∧ cs.take i = (flipl p).take i) ∧ Ints wr A p ∧ Below w.heap.size w wr ∧ hi4 ≤ wr.heap.size) (fun iv _ => n - (intOf iv).toNat)
  case atStart => exact ⟨0, _, Nat.zero_le _, rfl, o4, Lib.hid ⟨by simp, by simp⟩, ia4, b4, hz4⟩
  case round =>
    clear o4 ia4 b4 hz4
    obtain ⟨i, cs, hi, rfl, ho, HCS, hia, hb, hz⟩ := hrel
    by_cases hin : i < n
    · have di : decide ((i : Int) < (n : Int)) = true := decide_eq_true (by omega)
      obtain ⟨b, off, x, hA3, hc, hx⟩ := hia (n - 1 - i) (by rw [HAL.out]; omega)
      have hbg : b ≠ w.heap.size := HFAR.out _ hA3 (by rw [HAL.out]; omega)
      subst hA3
      obtain ⟨hx0, hx1⟩ := HAR.out x (List.mem_of_getElem? hx)
      have hfx := HFA.out i x (by rw [HAL.out]; exact hin) (by rw [HAL.out]; exact hx)
      rw [HAL.out] at hfx
      have hcl := HCS.out.1
      obtain ⟨yy, hy⟩ : ∃ yy, cs[i]? = some yy := ⟨_, List.getElem?_eq_getElem (by omega)⟩
      obtain ⟨cy, fy, gy, _⟩ := own_at (show OwnI wr w.heap.size hi4 (some ⟨w.heap.size, 0, none⟩) n cs from by show OwnC _ _ _ _ _ _ _ _ _; rw [hcl]; exact ho) hy
      have HCS2 : Hid ((cs.set i ((n : Int) - 1 - x)).length = n ∧ (cs.set i ((n : Int) - 1 - x)).take (i + 1) = (flipl p).take (i + 1)) := Lib.hid ⟨by simpa using hcl, by rw [take_set_succ _ _ _ (by omega), HCS.out.2, take_snoc hfx]⟩
      clear hcl hy hfx
      obtain ⟨m, hm⟩ : ∃ m, m = n - 1 - i := ⟨_, rfl⟩
      rw [← hm] at hc hx
      have hmn : (n : Int) - 1 - (i : Int) = (m : Int) := by omega
      have w2 : IntKind.i64.wrap ((n : Int) - 1 - (i : Int)) = (m : Int) := by rw [hmn]; exact IntWalk.i64_in _ ⟨by omega, by omega⟩
      have w3 : IntKind.i64.wrap ((n : Int) - 1 - x) = (n : Int) - 1 - x := IntWalk.i64_in _ ⟨by omega, by omega⟩
      have j1 : (0 : Int) ≤ (i : Int) := by omega
      have j3 : (0 : Int) ≤ (m : Int) := by omega
      have j4 : (m : Int) < (n : Int) := by omega
      have j6 : (i : Int) < (n : Int) := by omega
      clear hx hm hmn
      go_wp2_with (fail)
      refine ⟨⟨i + 1, cs.set i ((n : Int) - 1 - x), by omega, by go_num, ?_, HCS2, ?_, hb.setCell (Nat.le_refl _) _, by simpa using hz⟩, by simp [intOf]; omega⟩
      · rw [List.map_set]
        exact (OwnC.store ho _).1
      · exact hia.past (fun a ha => by injection ha with ha; subst ha; exact hbg) _
    · obtain rfl : i = n := by omega
      have di : decide ((i : Int) < (i : Int)) = false := decide_eq_false (by omega)
      go_wp2_with (fail)
      go_ret
      refine ⟨some ⟨w.heap.size, 0, none⟩, i, rfl, ?_, hb⟩
      have e := HCS.out.2
      rw [take_all (by rw [HCS.out.1]; exact Nat.le_refl _), take_all (by rw [HFL.out]; exact Nat.le_refl _)] at e
      rw [← e]
      exact OwnC.mono ho (Nat.le_refl _) hz

set_option maxHeartbeats 2000000 in
set_option maxRecDepth 10000 in
theorem spec_l04Extra (n : Nat) (p q : List Int) (A B : Option Addr) (c d : Nat) (w : World) (h : Ints w A p) (h' : Ints w B q) (hp : Pm n p) (hq : Pm n q) (hn : n ≤ 100) :
    Calls Tryz.prog 160 #[.slice A n c, .slice B n d] w fun e w' => ∃ k : Int, e = .returned (.int .i64 k) ∧ ((k = 0 ∧ lwB p q) ∨ ∃ j : Nat, k = (j : Int) + 1 ∧ dB j q = true ∧ finB j p = false) ∧ Below w.heap.size w w' := by
  go_enter Tryz.func160, Tryz.ntmps160
  go_wp2_with (fail)
  refine (spec_l04Finish n p A c w h hp hn).mono ?_; rintro e w1 ⟨A1, c1, rfl, o1, b1⟩
  have i1 := OwnC.ints o1
  go_wp2_with (fail)
  refine (spec_l04Start_n (n := n) q B d w1 (h'.below b1) hq.len hn).mono ?_; rintro e w2 ⟨A2, c2, rfl, o2, b2⟩
  have i2 := OwnC.ints o2
  have i12 := i1.below b2
  have B2 : Below w.heap.size w w2 := b1.trans (b2.mono b1.size)
  have hls : (startsL q).length ≤ 100 := by have := startsL_length q; have := hq.len; omega
  have hlf : (startsL (invl p)).length ≤ 100 := by have := startsL_length (invl p); have := Br.invl_length p; have := hp.len; omega
  have HMS := Lib.hid (fun x => startsL_mem (p := q) (x := x))
  have HMF := Lib.hid (fun x => startsL_mem (p := invl p) (x := x))
  clear o1 o2 b1 b2 i1 h h' hp hq
  generalize startsL q = L at *
  generalize startsL (invl p) = E at *
  go_wp2_with (fail)
  go_loopw [7] (fun iv wr => ∃ i : Nat, i ≤ L.length ∧ iv = .int .i64 (i : Int) ∧ Hid (∀ x ∈ L.take i, x ∈ E) ∧ w2 = wr) (fun iv _ => L.length - (intOf iv).toNat)
  case atStart => exact ⟨0, Nat.zero_le _, rfl, Lib.hid (by simp), rfl⟩
  case round =>
    obtain ⟨i, hi, rfl, HI, rfl⟩ := hrel
    by_cases hil : i < L.length
    · have di : decide ((i : Int) < (L.length : Int)) = true := decide_eq_true (by omega)
      obtain ⟨b, off, x, rfl, hc, hx⟩ := i2 i hil
      have j1 : (0 : Int) ≤ (i : Int) := by omega
      have j2 : (i : Int) < (L.length : Int) := by omega
      have HX := Lib.hid hx; clear hx
      cases hm : decide (x ∈ E)
      · go_wp2_with (go_at_call 119; refine (spec_l00Has _ _ E x _ i12 (by omega)).mono ?_; rintro e _ ⟨rfl, rfl⟩; rw [hm])
        go_ret
        obtain ⟨j, hj1, hj2⟩ := (HMS.out x).1 (List.mem_of_getElem? HX.out)
        refine ⟨x, rfl, .inr ⟨j, hj1, hj2, ?_⟩, B2⟩
        cases hf : finB j p
        · rfl
        · exact absurd ((HMF.out x).2 ⟨j, hj1, hf⟩) (of_decide_eq_false hm)
      · have HI2 : Hid (∀ x ∈ L.take (i + 1), x ∈ E) := Lib.hid (by
          rw [take_snoc HX.out]
          intro y hy
          rcases List.mem_append.1 hy with hy | hy
          · exact HI.out y hy
          · rw [List.mem_singleton] at hy
            subst hy
            exact of_decide_eq_true hm)
        go_wp2_with (go_at_call 119; refine (spec_l00Has _ _ E x _ i12 (by omega)).mono ?_; rintro e _ ⟨rfl, rfl⟩; rw [hm])
        go_roundw
        case rel => exact ⟨i + 1, by omega, by go_num, HI2, trivial⟩
        case measure => simp [intOf]; omega
    · have di : decide ((i : Int) < (L.length : Int)) = false := decide_eq_false (by omega)
      go_wp2_with (fail)
      go_ret
      refine ⟨0, rfl, .inl ⟨rfl, fun j hj => ?_⟩, B2⟩
      have h1 := HI.out
      rw [take_all (by omega)] at h1
      obtain ⟨j', e1, e2⟩ := (HMF.out _).1 (h1 _ ((HMS.out _).2 ⟨j, rfl, hj⟩))
      have : j' = j := by omega
      subst this
      exact e2

end Go.Proofs.YtnjgmhdmjaijgaaGreat

/- Lists of permutations, the given side: what settling needs, plain; turning a list. -/
namespace Go.Proofs.YtnjgmhdmjaijgaaGreat
open Go Go.RowKit
open Br (idl halfl invl flipl sw bh dB finB lwB Pm wd prod LW Eqv)

/-- Letters far behind weigh more. -/
def wtF : Nat → List (List Int) → Nat
  | _, [] => 0
  | i, p :: r => i * (wd p).length + wtF (i + 1) r
theorem wtF_move {p q p' q' : List Int} (h1 : (wd p').length = (wd p).length + 1) (h2 : (wd q).length = (wd q').length + 1) (b : List (List Int)) : ∀ (a : List (List Int)) (i : Nat), wtF i (a ++ p' :: q' :: b) + 1 = wtF i (a ++ p :: q :: b)
  | [], i => by
    simp only [List.nil_append, wtF]
    rw [h1, h2, Nat.mul_succ, Nat.mul_succ]
    omega
  | x :: a, i => by
    have := wtF_move h1 h2 b a (i + 1)
    simp only [List.cons_append, wtF]
    omega
theorem set2_eq {α : Type} {pre post : List α} {a b a' b' : α} : ((pre ++ a :: b :: post).set pre.length a').set (pre.length + 1) b' = pre ++ a' :: b' :: post := by
  induction pre with
  | nil => rfl
  | cons x pre ih => simp
/-- What settling keeps. -/
structure GS (n m : Nat) (F0 F : List (List Int)) : Prop where
  perm : ∀ p ∈ F, Pm n p
  eqv : Eqv (prod F) (prod F0)
  len : F.length = m
/-- All neighbours before a place are left-weighted. -/
def lwTo (F : List (List Int)) (i : Nat) : Prop := ∀ j p q, j < i → F[j]? = some p → F[j + 1]? = some q → lwB p q
theorem lwTo_all : ∀ {F : List (List Int)}, (∀ j p q, F[j]? = some p → F[j + 1]? = some q → lwB p q) → LW F
  | [], _ => trivial
  | [_], _ => trivial
  | p :: q :: F, h => ⟨h 0 p q rfl rfl, lwTo_all (F := q :: F) fun j a b h1 h2 => h (j + 1) a b h1 h2⟩
theorem lwTo_succ {F : List (List Int)} {i : Nat} {p q : List Int} (h : lwTo F i) (hp : F[i]? = some p) (hq : F[i + 1]? = some q) (hl : lwB p q) : lwTo F (i + 1) := by
  intro j a b hj h1 h2
  by_cases e : j = i
  · subst e
    rw [hp] at h1
    rw [hq] at h2
    injection h1 with h1
    injection h2 with h2
    subst h1 h2
    exact hl
  · exact h j a b (by omega) h1 h2
theorem GS.move {n m : Nat} {F0 F : List (List Int)} {i j : Nat} {p q : List Int} (h : GS n m F0 F) (hp : F[i]? = some p) (hq : F[i + 1]? = some q) (hj : dB j q = true) (hf : finB j p = false) :
    GS n m F0 ((F.set i (bh j p)).set (i + 1) (sw j q)) ∧ wtF 0 ((F.set i (bh j p)).set (i + 1) (sw j q)) + 1 = wtF 0 F ∧ (wd (sw j q)).length + 1 = (wd q).length ∧ Pm n (bh j p) ∧ Pm n (sw j q) := by
  have pp := h.perm p (List.mem_of_getElem? hp)
  have pq := h.perm q (List.mem_of_getElem? hq)
  obtain ⟨m1, m2, m3⟩ := Br.move pp pq hj hf
  have l1 := (Br.wd_behind pp (by have := Br.dB_lt hj; rwa [pq.len] at this) (Br.fin_ord pp hf)).len
  have l2 := (Br.wd_start hj).len
  rw [List.length_append, List.length_singleton] at l1
  rw [List.length_cons] at l2
  have hi := (List.getElem?_eq_some_iff.1 hq).1
  obtain ⟨a, x, y, b, rfl, ha⟩ := Br.bi hi
  subst ha
  rw [List.getElem?_append_right (Nat.le_refl _), Nat.sub_self] at hp
  rw [List.getElem?_append_right (by omega), Nat.add_sub_cancel_left] at hq
  simp only [List.getElem?_cons_zero, List.getElem?_cons_succ, Option.some.injEq] at hp hq
  subst hp hq
  rw [set2_eq]
  refine ⟨⟨fun z hz => ?_, ?_, by have := h.len; simpa using this⟩, wtF_move l1 l2 b a 0, by omega, m1, m2⟩
  · simp only [List.mem_append, List.mem_cons] at hz
    rcases hz with hz | rfl | rfl | hz
    · exact h.perm z (by simp [hz])
    · exact m1
    · exact m2
    · exact h.perm z (by simp [hz])
  · refine Eqv.trans ?_ h.eqv
    have e : Eqv (wd (bh j x) ++ (wd (sw j y) ++ prod b)) (wd x ++ (wd y ++ prod b)) := by
      rw [← List.append_assoc, ← List.append_assoc]
      exact m3.post _
    rw [Br.prod_app, Br.prod_app, Br.prod_cons, Br.prod_cons, Br.prod_cons, Br.prod_cons]
    exact e.pre _
theorem take_flip {F : List (List Int)} {i : Nat} {p : List Int} (h : F[i]? = some p) : (F.take (i + 1)).map flipl = (F.take i).map flipl ++ [flipl p] := by
  rw [take_snoc h]; simp

set_option maxHeartbeats 2000000 in
set_option maxRecDepth 10000 in
theorem spec_l04FlipAll (n m lo0 : Nat) (F : List (List Int)) (A : Option Addr) (c : Nat) (w : World) (h : PRows w lo0 n A m c F) (hp : ∀ p ∈ F, Pm n p) (hn : n ≤ 100) (hm : m ≤ 1000) :
    Calls Tryz.prog 132 #[.slice A m c] w fun e w' => ∃ A' c', e = .returned (.slice A' m c') ∧ PRows w' w.heap.size n A' m c' (F.map flipl) ∧ Below w.heap.size w w' := by
  obtain ⟨i1, hi1, hz1, hz2, hz3⟩ := info_parts info_intsI
  have HP := Lib.hid hp; clear hp
  have HL := Lib.hid h.len
  go_enter Tryz.func132, Tryz.ntmps132
  go_wp2_with (fail)
  go_loopw [3, 4] (fun ov iv wr => ∃ (i : Nat) (A3 : Option Addr) (c3 : Nat), i ≤ m ∧ iv = .int .i64 (i : Int) ∧ ov = .slice A3 i c3 ∧ PRows wr w.heap.size n A3 i c3 ((F.take i).map flipl) ∧ Below w.heap.size w wr) (fun _ iv _ => m - (intOf iv).toNat)
  case atStart =>
    refine ⟨0, some ⟨w.heap.size, 0, none⟩, 0, Nat.zero_le _, rfl, rfl, ⟨[], ?_, CR.nil⟩, by (repeat (first | exact Below.refl _ _ | assumption | apply Below.drew | apply below_drewN | (refine Below.alloc ?_ (by first | omega | (simp; done) | (simp; omega)) _) | (refine Below.setCell ?_ (by first | omega | (simp; done) | (simp; omega)) _)))⟩
    exact (OwnC.lit (w := w) (lo := w.heap.size) (n := 0) 36 1 #[] (Nat.le_refl _) (Nat.zero_le _) rfl).mono (Nat.le_refl _) (by simp)
  case round =>
    obtain ⟨i, A3, c3, hi, rfl, rfl, o3, hb⟩ := hrel
    have hzs := hb.size
    by_cases him : i < m
    · have di : decide ((i : Int) < (m : Int)) = true := decide_eq_true (by omega)
      have hx : F[i]? = some (F[i]'(by rw [HL.out]; exact him)) := List.getElem?_eq_getElem _
      generalize F[i]'(by rw [HL.out]; exact him) = p at hx
      obtain ⟨g, A2, c2, rfl, hg1, hg2, q0, _, ip, hpl, _⟩ := (h.below hb).get hx
      have HPM := Lib.hid (HP.out p (List.mem_of_getElem? hx))
      have HT := Lib.hid (take_flip hx)
      have j1 : (0 : Int) ≤ (i : Int) := by omega
      have j2 : (i : Int) < (m : Int) := by omega
      have him2 : i ≤ 1000 := by omega
      clear hx hpl
      go_wp2_with (fail)
      refine (spec_l04Flip n p A2 c2 wr ip HPM.out hn).mono ?_; rintro e w2 ⟨A4, c4, rfl, o4, b4⟩
      obtain ⟨cs, ho, hc⟩ := o3.below b4
      have hz4 : w.heap.size ≤ w2.heap.size := Nat.le_trans hzs b4.size
      have hb4 : Below w.heap.size w w2 := hb.trans (b4.mono hzs)
      clear b4 o3 hb q0
      go_wp2_with (at_builtin; refine wpList_append1 w2 [.slice A4 n c4] _ rfl (.tmp 12) (.tmp 18) _ rfl 36 i1 _ 1 24 Tryz.underlying46 hi1 hz1 hz2 hz3 rfl (by decide) rfl ho hz4 1 rfl rfl (by simp [Value.oneCell']) (by omega) (by decide) ?_; intro A9 c9 w8 ho8 hg8 hb8 hz8)
      refine ⟨⟨i + 1, A9, c9, by omega, by go_num, rfl, ?_, hb4.trans hb8⟩, by simp [intOf]; omega⟩
      rw [HT.out]
      exact PRows.push ho hc (OwnC.mono o4 (Nat.zero_le _) (Nat.le_refl _)) ((flip_length p).trans HPM.out.len) ho8 hg8
    · obtain rfl : i = m := by omega
      have di : decide ((i : Int) < (i : Int)) = false := decide_eq_false (by omega)
      go_wp2_with (fail)
      go_ret
      rw [take_all (by rw [HL.out]; exact Nat.le_refl _)] at o3
      exact ⟨A3, c3, rfl, o3, hb⟩

end Go.Proofs.YtnjgmhdmjaijgaaGreat
