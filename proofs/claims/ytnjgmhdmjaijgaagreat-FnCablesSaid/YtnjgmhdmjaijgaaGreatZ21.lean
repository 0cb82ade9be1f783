/- Steps of the proof, joined from several texts: QH QI. -/
import Derived.Test.YtnjgmhdmjaijgaaGreatZ20
import Derived.Test.YtnjgmhdmjaijgaaGreatZ9
import Derived.Test.YtnjgmhdmjaijgaaGreatZ3
import Derived.Test.YtnjgmhdmjaijgaaGreatZ16
import Derived.Test.YtnjgmhdmjaijgaaGreatZ12
import Derived.ArgAppend

/- Permutations of normal forms, the program's side. -/
namespace Go.Proofs.YtnjgmhdmjaijgaaGreat
open Go Go.RowKit
open Br (idl halfl invl flipl sw bh dB finB lwB Pm wd prod LW Eqv)

theorem desL_mem : ∀ {p : List Int} {i : Nat} {x : Int}, x ∈ desL i p ↔ ∃ j : Nat, x = ((i + j : Nat) : Int) ∧ dB j p = true
  | [], i, x => by
    constructor
    · intro h; cases h
    · rintro ⟨j, _, h⟩; cases j <;> cases h
  | [a], i, x => by
    constructor
    · intro h; cases h
    · rintro ⟨j, _, h⟩
      cases j with
      | zero => cases h
      | succ j => cases j <;> cases h
  | a :: b :: r, i, x => by
    have ih := desL_mem (p := b :: r) (i := i + 1) (x := x)
    have hd : dB 0 (a :: b :: r) = decide (b < a) := rfl
    have hs : ∀ j, dB (j + 1) (a :: b :: r) = dB j (b :: r) := fun _ => rfl
    rw [desL]
    by_cases hba : b < a
    · rw [if_pos hba, List.mem_cons, ih]
      constructor
      · rintro (rfl | ⟨j, rfl, hj⟩)
        · exact ⟨0, by simp, by rw [hd]; exact decide_eq_true hba⟩
        · exact ⟨j + 1, by push_cast; omega, by rw [hs]; exact hj⟩
      · rintro ⟨j, rfl, hj⟩
        cases j with
        | zero => left; simp
        | succ j => right; exact ⟨j, by push_cast; omega, by rw [hs] at hj; exact hj⟩
    · rw [if_neg hba, ih]
      constructor
      · rintro ⟨j, rfl, hj⟩
        exact ⟨j + 1, by push_cast; omega, by rw [hs]; exact hj⟩
      · rintro ⟨j, rfl, hj⟩
        cases j with
        | zero => rw [hd] at hj; exact absurd (of_decide_eq_true hj) hba
        | succ j => exact ⟨j, by push_cast; omega, by rw [hs] at hj; exact hj⟩
/-- The letters at the start, as the program lists them. -/
def startsP (p : List Int) : List Int := (desL 0 p).map (· + 1)
theorem startsP_mem {p : List Int} {x : Int} : x ∈ startsP p ↔ ∃ j : Nat, x = (j : Int) + 1 ∧ dB j p = true := by
  unfold startsP
  rw [List.mem_map]
  constructor
  · rintro ⟨y, hy, rfl⟩
    obtain ⟨j, rfl, hj⟩ := desL_mem.1 hy
    exact ⟨j, by push_cast; omega, hj⟩
  · rintro ⟨j, rfl, hj⟩
    exact ⟨(j : Int), desL_mem.2 ⟨j, by simp, hj⟩, rfl⟩
theorem startsP_length (p : List Int) : (startsP p).length ≤ p.length := by unfold startsP; rw [List.length_map]; exact desL_length 0 p

theorem halfl_rev (n : Nat) : (idl n).reverse = halfl n := by
  refine List.ext_getElem? fun i => ?_
  by_cases hi : i < n
  · rw [List.getElem?_reverse (by rw [Br.idl_length]; exact hi), Br.idl_length, Br.idl_get (by omega), halfl, List.getElem?_map, Br.idl_get hi]
    simp; omega
  · rw [List.getElem?_eq_none (by rw [List.length_reverse, Br.idl_length]; omega), List.getElem?_eq_none (by rw [Br.halfl_length]; omega)]
theorem impl_identity_n (n : Nat) (w : World) (hl : n ≤ 100) :
    Calls Tryz.prog 144 #[.int .i64 n] w fun e w' => ∃ A' c', e = .returned (.slice A' n c') ∧ OwnC w' w.heap.size w'.heap.size 2 1 A' n c' ((idl n).map (Value.int .i64)) ∧ Below w.heap.size w w' := by
  refine (impl_identity n w (by omega)).mono ?_
  rintro e w1 ⟨A1, c1, rfl, o1, b1⟩
  have o2 : OwnC w1 w.heap.size w1.heap.size 2 1 A1 (iotaI n).length c1 ((iotaI n).map (Value.int .i64)) := o1
  rw [iotaI_length] at o2 ⊢
  exact ⟨A1, c1, rfl, o2, b1⟩
set_option maxHeartbeats 1000000 in
theorem impl_halfTwist (n : Nat) (w : World) (hn : n ≤ 100) :
    Calls Tryz.prog 156 #[.int .i64 (n : Int)] w fun e w' => ∃ A' c', e = .returned (.slice A' n c') ∧ OwnC w' w.heap.size w'.heap.size 2 1 A' n c' ((halfl n).map (Value.int .i64)) ∧ Below w.heap.size w w' := by
  go_enter Tryz.func156, Tryz.ntmps156
  go_wp2_with (fail)
  refine (impl_identity_n n w hn).mono ?_; rintro e w1 ⟨A1, c1, rfl, o1, b1⟩
  have o1' : OwnI w1 w.heap.size w1.heap.size A1 c1 (idl n) := by show OwnC _ _ _ _ _ _ _ _ _; rw [Br.idl_length]; exact o1
  have HC := slices_Reverse A1 c1 (idl n) w.heap.size w1.heap.size w1 o1' (by rw [Br.idl_length]; omega)
  rw [Br.idl_length, halfl_rev] at HC
  have HC := Lib.hid HC
  go_wp2_with (fail)
  refine HC.out.mono ?_; rintro e w2 ⟨rfl, o2, u2⟩
  go_wp2_with (fail)
  go_ret
  exact ⟨A1, c1, rfl, OwnC.mono o2 (Nat.le_refl _) u2.size, b1.trans (u2.below b1.size)⟩

set_option maxHeartbeats 1000000 in
set_option maxRecDepth 10000 in
theorem impl_letterPermutation (n j : Nat) (w : World) (hj : j + 1 < n) (hn : n ≤ 100) :
    Calls Tryz.prog 153 #[.int .i64 (n : Int), .int .i64 ((j : Int) + 1)] w fun e w' => ∃ A' c', e = .returned (.slice A' n c') ∧ OwnC w' w.heap.size w'.heap.size 2 1 A' n c' ((bh j (idl n)).map (Value.int .i64)) ∧ Below w.heap.size w w' := by
  have HS : Hid (bh j (idl n) = swapL j (idl n)) := Lib.hid (by rw [show bh j (idl n) = (idl n).map (Br.fv j) from rfl, (Br.idl_fv hj).1, sw_swapL (by rw [Br.idl_length]; exact hj)])
  have hx := Br.idl_get (n := n) (i := j) (by omega)
  have hy := Br.idl_get (n := n) (i := j + 1) hj
  rw [show ((j + 1 : Nat) : Int) = (j : Int) + 1 by omega] at hy
  have j1 : IntKind.i64.wrap ((j : Int) + 1 - 1) = (j : Int) := by rw [show (j : Int) + 1 - 1 = (j : Int) by omega]; exact IntWalk.i64_in _ (by omega)
  have j2 : (0 : Int) ≤ (j : Int) := by omega
  have j3 : (j : Int) < (n : Int) := by omega
  have j4 : (0 : Int) ≤ (j : Int) + 1 := by omega
  have j5 : (j : Int) + 1 < (n : Int) := by omega
  have j6 : ((j : Int) + 1).toNat = j + 1 := by omega
  go_enter Tryz.func153, Tryz.ntmps153
  go_wp2_with (fail)
  refine (impl_identity_n n w hn).mono ?_; rintro e w1 ⟨A1, c1, rfl, o1, b1⟩
  obtain ⟨g, rfl⟩ := OwnC.head o1 (by omega)
  have o1' : OwnI w1 w.heap.size w1.heap.size (some ⟨g, 0, none⟩) c1 (idl n) := by show OwnC _ _ _ _ _ _ _ _ _; rw [Br.idl_length]; exact o1
  obtain ⟨ca, fa, ga, gb⟩ := own_at o1' hx
  obtain ⟨cb, fb, _, _⟩ := own_at o1' hy
  have HSL := Lib.hid (own_swap o1' hx hy)
  clear o1 o1' hx hy
  go_wp2_with (fail)
  go_ret
  refine ⟨some ⟨g, 0, none⟩, c1, rfl, ?_, (b1.setCell (by show w.heap.size ≤ g; omega) _).setCell (by show w.heap.size ≤ g; omega) _⟩
  have h2 := HSL.out
  rw [← HS.out] at h2
  have h3 : OwnC _ _ _ _ _ _ _ _ _ := h2
  have hl : (bh j (idl n)).length = n := by rw [bh, List.length_map, Br.idl_length]
  rw [hl] at h3
  simpa using h3

set_option maxHeartbeats 2000000 in
set_option maxRecDepth 10000 in
theorem impl_invert (n : Nat) (p : List Int) (A : Option Addr) (c : Nat) (w : World) (h : Ints w A p) (hp : Pm n p) (hn : n ≤ 100) :
    Calls Tryz.prog 176 #[.slice A n c] w fun e w' => ∃ A' c', e = .returned (.slice A' n c') ∧ OwnC w' w.heap.size w'.heap.size 2 1 A' n c' ((invl p).map (Value.int .i64)) ∧ Below w.heap.size w w' := by
  obtain ⟨i0, hi0, hz0, hz1, hz2⟩ := info_parts info_int64
  have HP := Lib.hid (invTo_invl hp)
  have HAL := Lib.hid hp.len
  have HAR := Lib.hid (fun x hx => hp.mem.1 hx : ∀ x ∈ p, 0 ≤ x ∧ x < (n : Int))
  have HFAR : Hid (∀ a, A = some a → 0 < p.length → a.block ≠ w.heap.size) := Lib.hid (fun a ha h0 e => by
    obtain ⟨b, off, x, hA, hc, _⟩ := h 0 h0
    rw [hA] at ha
    injection ha with ha
    subst ha
    have := cell_lt hc
    have e' : b = w.heap.size := e
    have h2 : b < w.heap.size := this
    omega)
  clear hp
  go_enter Tryz.func176, Tryz.ntmps176
  go_wp2_with (refine wpList_make_full _ rfl _ _ _ rfl w.heap.size 2 i0 _ 1 Tryz.underlying36 hi0 hz0 hz1 .i64 .i64 _ _ n rfl rfl rfl rfl (by rw [hz2]; omega) (by unfold maxLen; omega) (Nat.le_refl _) ?_; intro w4 hown hg)
  have b4 : Below w.heap.size w w4 := (Below.refl _ _).grown hg (Nat.le_refl _) (by simp)
  have o4 : OwnC w4 w.heap.size w4.heap.size 2 1 (some ⟨w.heap.size, 0, none⟩) n n ((invTo p n 0).map (Value.int .i64)) := by
    have := OwnC.of_own hown (Nat.le_refl _)
    rwa [zerosN2] at this
  have ia4 := h.below b4
  obtain ⟨hi4, hh4⟩ : ∃ hi4, hi4 = w4.heap.size := ⟨_, rfl⟩
  rw [← hh4] at o4
  have hz4 : hi4 ≤ w4.heap.size := by omega
  clear hown hg hh4
  go_loopw [11] (fun iv wr => ∃ i : Nat, i ≤ n ∧ iv = .int .i64 i ∧ OwnC wr w.heap.size hi4 2 1 (some ⟨w.heap.size, 0, none⟩) n n ((invTo p n i).map (Value.int .i64)) ∧ Ints wr A p ∧ Below w.heap.size w wr ∧ hi4 ≤ wr.heap.size) (fun iv _ => n - (intOf iv).toNat)
  case atStart => exact ⟨0, Nat.zero_le _, rfl, o4, ia4, b4, hz4⟩
  case round =>
    clear o4 ia4 b4 hz4
    obtain ⟨i, hi, rfl, ho, hia, hb, hz⟩ := hrel
    by_cases hin : i < n
    · have di : decide ((i : Int) < (n : Int)) = true := decide_eq_true (by omega)
      obtain ⟨b, off, x, hA3, hc, hx⟩ := hia i (by rw [HAL.out]; exact hin)
      have hbg : b ≠ w.heap.size := HFAR.out _ hA3 (by rw [HAL.out]; omega)
      subst hA3
      obtain ⟨hx0, hx1⟩ := HAR.out x (List.mem_of_getElem? hx)
      obtain ⟨v, rfl⟩ := Int.eq_ofNat_of_zero_le hx0
      have hvn : v < n := by omega
      have HI : Hid (invTo p n (i + 1) = (invTo p n i).set v (i : Int)) := Lib.hid (by rw [invTo, getD_of hx, Int.toNat_natCast])
      have hil : (invTo p n i).length = n := invTo_length p n i
      obtain ⟨yy, hy⟩ : ∃ yy, (invTo p n i)[v]? = some yy := ⟨_, List.getElem?_eq_getElem (by omega)⟩
      obtain ⟨cy, fy, gy, _⟩ := own_at (show OwnI wr w.heap.size hi4 (some ⟨w.heap.size, 0, none⟩) n (invTo p n i) from by show OwnC _ _ _ _ _ _ _ _ _; rw [hil]; exact ho) hy
      have HIL := Lib.hid hil; clear hil hy
      have j1 : (0 : Int) ≤ (i : Int) := by omega
      have j3 : (0 : Int) ≤ (v : Int) := by omega
      have j4 : (v : Int) < (n : Int) := by omega
      have j5 : IntKind.i64.wrap (v : Int) = (v : Int) := IntWalk.i64_in _ ⟨by omega, by omega⟩
      have j6 : (i : Int) < (n : Int) := by omega
      clear hx
      go_wp2_with (fail)
      go_roundw
      case rel =>
        refine ⟨i + 1, by omega, by go_num, ?_, ?_, hb.setCell (Nat.le_refl _) _, by simpa using hz⟩
        · rw [HI.out, List.map_set]
          exact (OwnC.store ho _).1
        · exact hia.past (fun a ha => by injection ha with ha; subst ha; exact hbg) _
      case measure => simp [intOf]; omega
    · obtain rfl : i = n := by omega
      have di : decide ((i : Int) < (i : Int)) = false := decide_eq_false (by omega)
      go_wp2_with (fail)
      go_ret
      refine ⟨some ⟨w.heap.size, 0, none⟩, i, rfl, ?_, hb⟩
      rw [← HP.out]
      exact OwnC.mono ho (Nat.le_refl _) hz

set_option maxHeartbeats 2000000 in
set_option maxRecDepth 10000 in
theorem impl_startLetters (n : Nat) (p : List Int) (A : Option Addr) (c : Nat) (w : World) (h : Ints w A p) (hl : p.length = n) (hn : n ≤ 12) (hr : ∀ x ∈ desL 0 p, -1000 ≤ x ∧ x ≤ 1000) :
    Calls Tryz.prog 175 #[.slice A n c] w fun e w' => ∃ A' c', e = .returned (.slice A' (startsP p).length c') ∧ OwnI w' w.heap.size w'.heap.size A' c' (startsP p) ∧ Below w.heap.size w w' := by
  have HM := Lib.hid hr; clear hr
  have HC := Lib.hid (impl_descents p A c w h (by omega))
  rw [hl] at HC
  have hdl := desL_length 0 p
  have HP : Hid (startsP p = (desL 0 p).map (· + 1)) := Lib.hid rfl
  have h12 : (desL 0 p).length ≤ 12 := by omega
  clear hdl
  go_enter Tryz.func175, Tryz.ntmps175
  go_wp2_with (fail)
  refine HC.out.mono ?_; rintro e w5 ⟨A5, c5, rfl, o5, b5⟩
  clear HC
  generalize desL 0 p = ws at o5 HM h12 HP ⊢
  have hz5 := b5.size
  go_wp2_with (fail)
  go_loopw [9] (fun iv wr => ∃ i : Nat, i ≤ ws.length ∧ iv = .int .i64 i ∧ OwnC wr w.heap.size w5.heap.size 2 1 A5 ws.length c5 ((addTo i ws).map (Value.int .i64)) ∧ Below w.heap.size w wr ∧ w5.heap.size ≤ wr.heap.size) (fun iv _ => ws.length - (intOf iv).toNat)
  case atStart => exact ⟨0, Nat.zero_le _, rfl, by simpa [addTo] using o5, b5, Nat.le_refl _⟩
  case round =>
    obtain ⟨i, hi, rfl, ho, hb, hz⟩ := hrel
    by_cases hil : i < ws.length
    · obtain ⟨g5, rfl⟩ := OwnC.head ho (by omega)
      have hx : ws[i]? = some (ws[i]'hil) := List.getElem?_eq_getElem hil
      obtain ⟨x, hxx⟩ : ∃ x, x = ws[i]'hil := ⟨_, rfl⟩
      rw [← hxx] at hx
      clear hxx
      obtain ⟨hat, hset⟩ := addTo_at hx
      have hm := HM.out x (List.mem_of_getElem? hx)
      have hho : OwnI wr w.heap.size w5.heap.size (some ⟨g5, 0, none⟩) c5 (addTo i ws) := by show OwnC _ _ _ _ _ _ _ _ _; rw [addTo_length]; exact ho
      obtain ⟨cx, fx, ga, gb⟩ := own_at hho hat
      have hst := (OwnC.store (j := i) ho (.int .i64 (x + 1))).1
      rw [← List.map_set, hset] at hst
      have hx1 : -9223372036854775808 ≤ x + 1 ∧ x + 1 ≤ 9223372036854775807 := by omega
      obtain ⟨hx1, hx2⟩ := hx1
      have HST := Lib.hid hst; clear hst hset hat hho hx
      have j1 : (0 : Int) ≤ (i : Int) := by omega
      have j2 : (i : Int) < (ws.length : Int) := by omega
      go_wp2_with (fail)
      refine ⟨⟨i + 1, by omega, by go_num, HST.out, Below.setCell (p := ⟨g5, i, none⟩) hb (by show w.heap.size ≤ g5; omega) _, by simpa using hz⟩, by simp [intOf]; omega⟩
    · obtain rfl : i = ws.length := by omega
      rw [addTo_end] at ho
      go_wp2_with (fail)
      go_ret
      refine ⟨A5, c5, by rw [HP.out, List.length_map]; first | rfl | simp [results, go_sem], ?_, hb⟩
      rw [HP.out]
      show OwnC _ _ _ _ _ _ _ _ _
      rw [List.length_map]
      exact ho.mono (Nat.le_refl _) hz

theorem des_small {n : Nat} {p : List Int} (hl : p.length = n) (hn : n ≤ 12) : ∀ x ∈ desL 0 p, -1000 ≤ x ∧ x ≤ 1000 := by
  intro x hx
  obtain ⟨j, rfl, hj⟩ := desL_mem.1 hx
  have := Br.dB_lt hj
  omega
set_option maxHeartbeats 2000000 in
set_option maxRecDepth 10000 in
theorem impl_missing (n : Nat) (p q : List Int) (A B : Option Addr) (c d : Nat) (w : World) (h : Ints w A p) (h' : Ints w B q) (hp : Pm n p) (hq : Pm n q) (hn : n ≤ 12) :
    Calls Tryz.prog 173 #[.slice A n c, .slice B n d] w fun e w' => ∃ k : Int, e = .returned (.int .i64 k) ∧ ((k = 0 ∧ lwB p q) ∨ ∃ j : Nat, k = (j : Int) + 1 ∧ dB j q = true ∧ finB j p = false) ∧ Below w.heap.size w w' := by
  have hil : (invl p).length = n := (Br.invl_length p).trans hp.len
  go_enter Tryz.func173, Tryz.ntmps173
  go_wp2_with (fail)
  refine (impl_invert n p A c w h hp (by omega)).mono ?_; rintro e w0 ⟨A0, c0, rfl, o0, b0⟩
  have HDI := Lib.hid (des_small hil hn)
  have HIL := Lib.hid hil; clear hil
  go_wp2_with (fail)
  refine (impl_startLetters n (invl p) A0 c0 w0 (OwnC.ints o0) HIL.out hn HDI.out).mono ?_; rintro e w1 ⟨A1, c1, rfl, o1, b1⟩
  have i1 := OwnC.ints o1
  have B1 : Below w.heap.size w w1 := b0.trans (b1.mono b0.size)
  have HDQ := Lib.hid (des_small hq.len hn)
  go_wp2_with (fail)
  refine (impl_startLetters n q B d w1 (h'.below B1) hq.len hn HDQ.out).mono ?_; rintro e w2 ⟨A2, c2, rfl, o2, b2⟩
  have i2 := OwnC.ints o2
  have i12 := i1.below b2
  have B2 : Below w.heap.size w w2 := B1.trans (b2.mono B1.size)
  have hls : (startsP q).length ≤ 100 := by have := startsP_length q; have := hq.len; omega
  have hlf : (startsP (invl p)).length ≤ 100 := by have := startsP_length (invl p); have := HIL.out; omega
  have HMS := Lib.hid (fun x => startsP_mem (p := q) (x := x))
  have HMF := Lib.hid (fun x => startsP_mem (p := invl p) (x := x))
  clear o1 o2 b1 b2 i1 h h' hp hq o0 b0 B1
  generalize startsP q = L at *
  generalize startsP (invl p) = E at *
  go_wp2_with (fail)
  go_loopw [14] (fun iv wr => ∃ i : Nat, i ≤ L.length ∧ iv = .int .i64 (i : Int) ∧ Hid (∀ x ∈ L.take i, x ∈ E) ∧ w2 = wr) (fun iv _ => L.length - (intOf iv).toNat)
  case atStart => exact ⟨0, Nat.zero_le _, rfl, Lib.hid (by simp), rfl⟩
  case round =>
    obtain ⟨i, hi, rfl, HI, rfl⟩ := hrel
    by_cases hil : i < L.length
    · have di : decide ((i : Int) < (L.length : Int)) = true := decide_eq_true (by omega)
      obtain ⟨b, off, x, rfl, hc, hx⟩ := i2 i hil
      have j1 : (0 : Int) ≤ (i : Int) := by omega
      have j2 : (i : Int) < (L.length : Int) := by omega
      have HX := Lib.hid hx; clear hx
      cases hm : decide (x ∈ E)
      · go_wp2_with (go_at_call 95; refine (slices_Contains _ _ E x _ i12 (by omega)).mono ?_; rintro e _ ⟨rfl, rfl⟩; rw [hm])
        go_ret
        obtain ⟨j, hj1, hj2⟩ := (HMS.out x).1 (List.mem_of_getElem? HX.out)
        refine ⟨x, rfl, .inr ⟨j, hj1, hj2, ?_⟩, B2⟩
        cases hf : finB j p
        · rfl
        · exact absurd ((HMF.out x).2 ⟨j, hj1, hf⟩) (of_decide_eq_false hm)
      · have HI2 : Hid (∀ x ∈ L.take (i + 1), x ∈ E) := Lib.hid (by
          rw [take_snoc HX.out]
          intro y hy
          rcases List.mem_append.1 hy with hy | hy
          · exact HI.out y hy
          · rw [List.mem_singleton] at hy
            subst hy
            exact of_decide_eq_true hm)
        go_wp2_with (go_at_call 95; refine (slices_Contains _ _ E x _ i12 (by omega)).mono ?_; rintro e _ ⟨rfl, rfl⟩; rw [hm])
        go_roundw
        case rel => exact ⟨i + 1, by omega, by go_num, HI2, trivial⟩
        case measure => simp [intOf]; omega
    · have di : decide ((i : Int) < (L.length : Int)) = false := decide_eq_false (by omega)
      go_wp2_with (fail)
      go_ret
      refine ⟨0, rfl, .inl ⟨rfl, fun j hj => ?_⟩, B2⟩
      have h1 := HI.out
      rw [take_all (by omega)] at h1
      obtain ⟨j', e1, e2⟩ := (HMF.out _).1 (h1 _ ((HMS.out _).2 ⟨j, rfl, hj⟩))
      have : j' = j := by omega
      subst this
      exact e2

end Go.Proofs.YtnjgmhdmjaijgaaGreat

/- Factors of a normal form, the program's side: a slice of slices at some place of its row, whose inner slices are its own; append, cut and change. -/
namespace Go.Proofs.YtnjgmhdmjaijgaaGreat
open Go Go.RowKit
open Br (idl halfl invl flipl sw bh dB finB lwB Pm wd prod LW Eqv)

structure OutA (w : World) (lo hi : Nat) (A : Option Addr) (m c : Nat) (cs : List Value) : Prop where
  len : cs.length = m
  cap : m ≤ c
  cmax : c ≤ 9223372036854775807
  ex : (A = none ∧ c = 0) ∨ ∃ g off cur, A = some ⟨g, off, none⟩ ∧ lo ≤ g ∧ g < hi ∧ Blk w g 36 cur ∧ off + c ≤ cur.size ∧ ∀ k u, cs[k]? = some u → cur[off + k]? = some u
structure InC (w : World) (lo hi n : Nat) (cs : List Value) (F : List (List Int)) : Prop where
  len : cs.length = F.length
  own : ∀ (k : Nat) (p : List Int), F[k]? = some p → ∃ (A' : Option Addr) (c' : Nat), cs[k]? = some (Value.slice A' n c') ∧ OwnC w lo hi 2 1 A' n c' (p.map (Value.int .i64)) ∧ p.length = n
  ne : ∀ (i j : Nat) (v v' : Value) (g : Nat), cs[i]? = some v → cs[j]? = some v' → v.ownBlock = some g → v'.ownBlock = some g → i = j
def Fac (w : World) (lo hi n : Nat) (A : Option Addr) (m c : Nat) (F : List (List Int)) : Prop := ∃ cs, OutA w lo hi A m c cs ∧ InC w lo hi n cs F
section
variable {w w' : World} {lo hi n m c : Nat} {A : Option Addr} {F : List (List Int)}
theorem Fac.len (h : Fac w lo hi n A m c F) : F.length = m := by
  obtain ⟨cs, h1, h2⟩ := h
  rw [← h2.len, h1.len]
theorem Fac.keep (h : Fac w lo hi n A m c F) (hk : ∀ k, lo ≤ k → k < hi → k < w.heap.size → w'.heap[k]? = w.heap[k]?) : Fac w' lo hi n A m c F := by
  obtain ⟨cs, h1, h2⟩ := h
  refine ⟨cs, ⟨h1.len, h1.cap, h1.cmax, ?_⟩, h2.len, fun k p hp => ?_, h2.ne⟩
  · rcases h1.ex with h3 | ⟨g, off, cur, e1, e2, e3, e4, e5⟩
    · exact .inl h3
    · exact .inr ⟨g, off, cur, e1, e2, e3, (hk g e2 e3 e4.lt).trans e4, e5⟩
  · obtain ⟨A', c', e1, e2, e3⟩ := h2.own k p hp
    exact ⟨A', c', e1, e2.keep hk, e3⟩
theorem Fac.below {B : Nat} (h : Fac w lo hi n A m c F) (hb : Below B w w') (hB : hi ≤ B) : Fac w' lo hi n A m c F := h.keep fun k _ h2 _ => hb.block k (by omega)
theorem Fac.mono {hi' : Nat} (h : Fac w lo hi n A m c F) (hh : hi ≤ hi') : Fac w lo hi' n A m c F := by
  obtain ⟨cs, h1, h2⟩ := h
  refine ⟨cs, ⟨h1.len, h1.cap, h1.cmax, ?_⟩, h2.len, fun k p hp => ?_, h2.ne⟩
  · rcases h1.ex with h3 | ⟨g, off, cur, e1, e2, e3, e4⟩
    · exact .inl h3
    · exact .inr ⟨g, off, cur, e1, e2, by omega, e4⟩
  · obtain ⟨A', c', e1, e2, e3⟩ := h2.own k p hp
    exact ⟨A', c', e1, e2.mono (Nat.le_refl _) hh, e3⟩
theorem Fac.box {g : Nat} {t : TypeId} {bs : Array Value} (h : Fac w lo hi n A m c F) (hb : Blk w g t bs) (t1 : t ≠ 2) (t2 : t ≠ 36) (j : Nat) (u : Value) : Fac (w.setCell ⟨g, j, none⟩ u) lo hi n A m c F := by
  obtain ⟨cs, h1, h2⟩ := h
  refine ⟨cs, ⟨h1.len, h1.cap, h1.cmax, ?_⟩, h2.len, fun k p hp => ?_, h2.ne⟩
  · rcases h1.ex with h3 | ⟨g', off, cur, e1, e2, e3, e4, e5⟩
    · exact .inl h3
    · refine .inr ⟨g', off, cur, e1, e2, e3, e4.far (p := ⟨g, j, none⟩) ?_ u, e5⟩
      rintro e
      have e' : g' = g := e
      subst e'
      have h5 : some (Obj.cells cur 36 (0, 0)) = some (Obj.cells bs t (0, 0)) := e4.symm.trans hb
      injection h5 with h5
      injection h5 with _ h5
      exact t2 h5.symm
  · obtain ⟨A', c', e1, e2, e3⟩ := h2.own k p hp
    exact ⟨A', c', e1, e2.farT hb t1 j u, e3⟩
theorem Fac.nil (hA : A = none) (hc : c = 0) : Fac w lo hi n A 0 c [] := ⟨[], ⟨rfl, Nat.zero_le _, by omega, .inl ⟨hA, hc⟩⟩, rfl, fun k p h => by simp at h, fun i j v v' g h => by simp at h⟩
theorem Fac.get (h : Fac w lo hi n A m c F) {k : Nat} {p : List Int} (hp : F[k]? = some p) : ∃ g off A' c', A = some ⟨g, off, none⟩ ∧ lo ≤ g ∧ g < hi ∧ w.cell? ⟨g, off + k, none⟩ = some (.slice A' n c') ∧ w.frozen? ⟨g, off + k, none⟩ = false ∧ OwnC w lo hi 2 1 A' n c' (p.map (Value.int .i64)) ∧ p.length = n := by
  obtain ⟨cs, h1, h2⟩ := h
  obtain ⟨A', c', e1, e2, e3⟩ := h2.own k p hp
  rcases h1.ex with ⟨_, hc⟩ | ⟨g, off, cur, f1, f2, f3, f4, f5, f6⟩
  · have := (List.getElem?_eq_some_iff.1 e1).1
    have := h1.len
    have := h1.cap
    omega
  · exact ⟨g, off, A', c', f1, f2, f3, (f4.cell _).trans (f6 k _ e1), f4.frozen _, e2, e3⟩
theorem Fac.capm (h : Fac w lo hi n A m c F) : m ≤ c ∧ c ≤ 9223372036854775807 := by
  obtain ⟨cs, h1, _⟩ := h
  exact ⟨h1.cap, h1.cmax⟩
/-- Without the first one; where the capacity is spent, the address does not matter. -/
theorem Fac.tail {p : List Int} {A' : Option Addr} (h : Fac w lo hi n A (m + 1) c (p :: F)) (hA : A' = A ∨ ∃ g off, A = some ⟨g, off, none⟩ ∧ A' = some ⟨g, off + 1, none⟩) (hA' : A' = A → c = 1) : Fac w lo hi n A' m (c - 1) F := by
  obtain ⟨cs, h1, h2⟩ := h
  obtain ⟨v, cs, rfl⟩ : ∃ v cs', cs = v :: cs' := by
    cases cs with
    | nil => have := h1.len; simp at this
    | cons v cs => exact ⟨v, cs, rfl⟩
  have hl := h1.len
  have hcp := h1.cap
  have hcm := h1.cmax
  simp only [List.length_cons] at hl
  refine ⟨cs, ⟨by omega, by omega, by omega, ?_⟩, by have := h2.len; simpa using this, fun k q hq => ?_, fun i j v v' g hi' hj hv hv' => ?_⟩
  · rcases h1.ex with ⟨_, hc⟩ | ⟨g, off, cur, f1, f2, f3, f4, f5, f6⟩
    · omega
    · rcases hA with e | ⟨g', off', e1, e2⟩
      · have hc1 := hA' e
        refine .inr ⟨g, off, cur, e.trans f1, f2, f3, f4, by omega, fun k u hk => ?_⟩
        have := (List.getElem?_eq_some_iff.1 hk).1
        omega
      · rw [e1] at f1
        injection f1 with f1
        injection f1 with f1 f1'
        subst f1 f1'
        refine .inr ⟨g', off' + 1, cur, e2, f2, f3, f4, by omega, fun k u hk => ?_⟩
        have := f6 (k + 1) u (by simpa using hk)
        rw [← this]
        congr 1
        omega
  · obtain ⟨A2, c2, e1, e2⟩ := h2.own (k + 1) q (by simpa using hq)
    exact ⟨A2, c2, by simpa using e1, e2⟩
  · have := h2.ne (i + 1) (j + 1) v v' g (by simpa using hi') (by simpa using hj) hv hv'
    omega
/-- Without the last ones. -/
theorem Fac.init {k : Nat} (h : Fac w lo hi n A m c F) (hk : k ≤ m) : Fac w lo hi n A k c (F.take k) := by
  obtain ⟨cs, h1, h2⟩ := h
  have hl := h1.len
  have hcp := h1.cap
  have tk : ∀ {α : Type} {l : List α} {j : Nat} {x : α}, (l.take k)[j]? = some x → l[j]? = some x ∧ j < k := by
    intro α l j x hx
    rw [List.getElem?_take] at hx
    split at hx
    · rename_i hjk; exact ⟨hx, hjk⟩
    · cases hx
  refine ⟨cs.take k, ⟨by rw [List.length_take]; omega, by omega, h1.cmax, ?_⟩, by rw [List.length_take, List.length_take, h2.len], fun j q hq => ?_, fun i j v v' g hi' hj hv hv' => h2.ne i j v v' g (tk hi').1 (tk hj).1 hv hv'⟩
  · rcases h1.ex with h3 | ⟨g, off, cur, f1, f2, f3, f4, f5, f6⟩
    · exact .inl h3
    · exact .inr ⟨g, off, cur, f1, f2, f3, f4, f5, fun j u hj => f6 j u (tk hj).1⟩
  · obtain ⟨A2, c2, e1, e2⟩ := h2.own j q (tk hq).1
    exact ⟨A2, c2, by rw [List.getElem?_take, if_pos (tk hq).2]; exact e1, e2⟩
theorem InC.keepI {cs : List Value} (h : InC w lo hi n cs F) (hk : ∀ (A' : Option Addr) (c' : Nat) (p : List Int), OwnC w lo hi 2 1 A' n c' (p.map (Value.int .i64)) → OwnC w' lo hi 2 1 A' n c' (p.map (Value.int .i64))) : InC w' lo hi n cs F :=
  ⟨h.len, fun k p hp => by obtain ⟨A', c', e1, e2, e3⟩ := h.own k p hp; exact ⟨A', c', e1, hk _ _ _ e2, e3⟩, h.ne⟩
theorem InC.block {cs : List Value} (h : InC w lo hi n cs F) {i : Nat} {v : Value} {g : Nat} (hv : cs[i]? = some v) (hg : v.ownBlock = some g) : g < hi := by
  have hil : i < F.length := by rw [← h.len]; exact (List.getElem?_eq_some_iff.1 hv).1
  obtain ⟨A', c', e1, e2, _⟩ := h.own i _ (List.getElem?_eq_getElem hil)
  rw [hv] at e1
  injection e1 with e1
  subst e1
  cases A' with
  | none => cases hg
  | some a => injection hg with hg; subst hg; exact e2.lt a rfl
/-- A new one behind, in a block of its own. -/
theorem InC.snoc {cs : List Value} {A2 : Option Addr} {c2 hi' : Nat} {q : List Int} (h : InC w lo hi n cs F) (ho : OwnC w hi hi' 2 1 A2 n c2 (q.map (Value.int .i64))) (hq : q.length = n) (hh : hi ≤ hi') (hlo : lo ≤ hi) : InC w lo hi' n (cs ++ [.slice A2 n c2]) (F ++ [q]) := by
  have last : ∀ {i : Nat} {v : Value}, (cs ++ [Value.slice A2 n c2])[i]? = some v → (i < cs.length ∧ cs[i]? = some v) ∨ (i = cs.length ∧ v = .slice A2 n c2) := by
    intro i v hi'
    by_cases hil : i < cs.length
    · rw [List.getElem?_append_left hil] at hi'
      exact .inl ⟨hil, hi'⟩
    · have := (List.getElem?_eq_some_iff.1 hi').1
      rw [List.length_append, List.length_singleton] at this
      obtain rfl : i = cs.length := by omega
      rw [List.getElem?_append_right (Nat.le_refl _), Nat.sub_self] at hi'
      injection hi' with hi'
      exact .inr ⟨rfl, hi'.symm⟩
  have newb : ∀ {g : Nat}, (Value.slice A2 n c2).ownBlock = some g → hi ≤ g := by
    intro g hg
    rcases ho.form with ⟨rfl, _⟩ | ⟨g', cur, rfl, h1, _⟩
    · cases hg
    · injection hg with hg
      exact hg ▸ h1
  refine ⟨by simp [h.len], fun k p hp => ?_, fun i j v v' g hi1 hj1 hv hv' => ?_⟩
  · by_cases hk : k < F.length
    · rw [List.getElem?_append_left hk] at hp
      obtain ⟨A', c', h1, h2, h3⟩ := h.own k p hp
      exact ⟨A', c', by rw [List.getElem?_append_left (by rw [h.len]; exact hk)]; exact h1, h2.mono (Nat.le_refl _) hh, h3⟩
    · have hk0 : k = F.length := by
        have := (List.getElem?_eq_some_iff.1 hp).1
        rw [List.length_append, List.length_singleton] at this
        omega
      subst hk0
      rw [List.getElem?_append_right (Nat.le_refl _), Nat.sub_self] at hp
      injection hp with hp
      subst hp
      exact ⟨A2, c2, by rw [List.getElem?_append_right (by rw [h.len]; exact Nat.le_refl _), h.len, Nat.sub_self]; rfl, ho.mono hlo (Nat.le_refl _), hq⟩
  · rcases last hi1 with ⟨a1, a2⟩ | ⟨a1, a2⟩
    · rcases last hj1 with ⟨b1, b2⟩ | ⟨b1, b2⟩
      · exact h.ne i j v v' g a2 b2 hv hv'
      · rw [b2] at hv'
        have := newb hv'
        have := h.block a2 hv
        omega
    · rcases last hj1 with ⟨b1, b2⟩ | ⟨b1, b2⟩
      · rw [a2] at hv
        have := newb hv
        have := h.block b2 hv'
        omega
      · omega
/-- append of one slice, at whatever place the row's part begins. -/
theorem wp_append_fac {P : Program} (w : World) {o : Oper} {a : Act} {K : Act → World → Prop} {Q : Exit → Act → World → Prop} (s x : Operand) (t : TypeId)
    (hop : o.op = .call { callee := .builtin .append, args := #[s, x], argTypes := #[t, t] })
    (i : TypeInfo) (z : Value) (bytes : Nat) (ht : P.underlying t = some (.slice 36)) (hinf : P.info? 36 = some i) (hz : i.zero = some z)
    (hsize : i.size = 1) (hby : i.bytes = bytes) (hzs : z.cells.size = 1)
    {lo hi n m c : Nat} {A : Option Addr} {F : List (List Int)} (hs : a.eval s = .slice A m c) (hF : Fac w lo hi n A m c F) (hlo : lo ≤ hi) (hhi : hi ≤ w.heap.size)
    (b2 c2 : Nat) (hx : a.eval x = .slice (some ⟨b2, 0, none⟩) 1 c2) (A2 : Option Addr) (c4 : Nat) (q : List Int) (hcell : w.cell? ⟨b2, 0, none⟩ = some (.slice A2 n c4)) (hq : OwnC w hi w.heap.size 2 1 A2 n c4 (q.map (Value.int .i64))) (hql : q.length = n)
    (h63 : m + 1 ≤ maxLen) (hbytes : (m + 1) * bytes ≤ 140737488355328)
    (h : ∀ A' c' w', Fac w' lo w'.heap.size n A' (m + 1) c' (F ++ [q]) → Below lo w w' → (∀ g t bs, t ≠ 36 → Blk w g t bs → Blk w' g t bs) → K (a.put o.dst (.slice A' (m + 1) c')) w') : o.wp P a w K Q := by
  obtain ⟨cs, h1, h2⟩ := hF
  have hnews : ∀ (j : Nat) (u : Value), [Value.slice A2 n c4][j]? = some u → w.cell? ((⟨b2, 0, none⟩ : Addr).add j) = some u := by
    intro j u hj
    cases j with
    | zero =>
      simp only [List.getElem?_cons_zero, Option.some.injEq] at hj
      subst hj
      unfold Addr.add
      simpa using hcell
    | succ j => simp at hj
  have hone : ∀ u ∈ [Value.slice A2 n c4], u.oneCell' = true := by
    intro u hu
    rw [List.mem_singleton] at hu
    subst hu
    rfl
  by_cases hroom : m + 1 ≤ c
  · rcases h1.ex with ⟨_, hc0⟩ | ⟨g, off, cur, rfl, f2, f3, f4, f5, f6⟩
    · omega
    · have hr := run_append_room_cells (P := P) w t o.type 36 i ht hinf g off m c ⟨b2, 0, none⟩ 1 c2 [.slice A2 n c4] (by rw [hsize]; rfl) hnews hone hroom (by
        intro j hj
        have hj0 : j = 0 := by simpa using hj
        subst hj0
        rw [hsize, Nat.mul_one, Nat.add_zero, f4.cell, Array.getElem?_eq_getElem (by omega)]
        rfl) (by
        intro j hj
        exact f4.frozen _)
      have e1 : w.setCells g (off + m * i.size) [.slice A2 n c4] = w.setCell ⟨g, off + m, none⟩ (.slice A2 n c4) := by
        rw [hsize, Nat.mul_one]; rfl
      rw [e1] at hr
      unfold Oper.wp execOp
      simp only [hop, resolve, invoke, builtin, Sem.run_bind, Sem.run_pure, Result.andThen_ok, List.map_toArray, List.map_cons, List.map_nil, hs, hx, hr]
      have hfar : ∀ (g' : Nat) (t' : TypeId) (bs : Array Value), t' ≠ 36 → Blk w g' t' bs → Blk (w.setCell ⟨g, off + m, none⟩ (.slice A2 n c4)) g' t' bs := by
        intro g' t' bs ht' hb
        refine hb.far (p := ⟨g, off + m, none⟩) ?_ _
        rintro e
        have e' : g' = g := e
        subst e'
        have h5 : some (Obj.cells cur 36 (0, 0)) = some (Obj.cells bs t' (0, 0)) := f4.symm.trans hb
        injection h5 with h5
        injection h5 with _ h5
        exact ht' h5.symm
      refine h _ _ _ ?_ ((Below.refl lo w).setCell (by show lo ≤ g; exact f2) _) hfar
      have hsz : (w.setCell ⟨g, off + m, none⟩ (.slice A2 n c4)).heap.size = w.heap.size := by simp
      refine ⟨cs ++ [.slice A2 n c4], ⟨by simp [h1.len], hroom, h1.cmax, .inr ⟨g, off, cur.setIfInBounds (off + m) (.slice A2 n c4), rfl, f2, by rw [hsz]; omega, f4.setAt (off + m) _, by rw [Array.size_setIfInBounds]; exact f5, fun k u hk => ?_⟩⟩, ?_⟩
      · by_cases hkm : k < cs.length
        · rw [List.getElem?_append_left hkm] at hk
          rw [Array.getElem?_setIfInBounds_ne (by have := h1.len; omega)]
          exact f6 k u hk
        · have hkk := (List.getElem?_eq_some_iff.1 hk).1
          rw [List.length_append, List.length_singleton] at hkk
          obtain rfl : k = cs.length := by omega
          rw [List.getElem?_append_right (Nat.le_refl _), Nat.sub_self] at hk
          injection hk with hk
          subst hk
          rw [h1.len, Array.getElem?_setIfInBounds_self_of_lt (by omega)]
      · rw [hsz]
        have h3 := h2.snoc hq hql hhi hlo
        exact h3.keepI fun A' c' p ho => ho.farT f4 (by decide) _ _
  · have hgrow : ∃ v' w', (Builtin.append_ #[t, t] o.type #[.slice A m c, .slice (some ⟨b2, 0, none⟩) 1 c2]).run P w = .ok v' w' ∧ w'.ownsRow w.heap.size 36 1 v' (m + 1) (cs ++ [.slice A2 n c4]) ∧ w.grownBy w' none := by
      rcases h1.ex with ⟨rfl, rfl⟩ | ⟨g, off, cur, rfl, f2, f3, f4, f5, f6⟩
      · have hm0 : m = 0 := by have := h1.cap; omega
        subst hm0
        have hcs : cs = [] := List.eq_nil_of_length_eq_zero h1.len
        subst hcs
        obtain ⟨v', w', hr, r2, r3, _, _⟩ := run_append_own_at (P := P) w w.heap.size t o.type 36 i z 1 bytes ht hinf hz hsize hby hzs (by decide) (.slice none 0 0) 0 [] (World.ownsRow_nil _ _ _ _) ⟨b2, 0, none⟩ 1 c2 [.slice A2 n c4] rfl hnews hone h63 hbytes (Nat.le_refl _)
        exact ⟨v', w', hr, r2, r3⟩
      · exact run_append_arg_grows (P := P) w t o.type 36 i z 1 bytes ht hinf hz hsize hby hzs (by decide) ⟨g, off, none⟩ m c cs (by rw [h1.len]; omega) (by
          intro j u hj
          unfold Addr.add
          split
          · subst_vars
            have := (f4.cell (off + 0)).trans (f6 0 u hj)
            simpa using this
          · exact (f4.cell _).trans (f6 j u hj)) ⟨b2, 0, none⟩ 1 c2 [.slice A2 n c4] rfl hnews (by omega) h63 hbytes
    obtain ⟨v', w', hr, r2, r3⟩ := hgrow
    obtain ⟨A', c', rfl, r4⟩ := OwnC.of_own' r2
    unfold Oper.wp execOp
    simp only [hop, resolve, invoke, builtin, Sem.run_bind, Sem.run_pure, Result.andThen_ok, List.map_toArray, List.map_cons, List.map_nil, hs, hx, hr]
    have hblk : ∀ k, k < w.heap.size → w'.heap[k]? = w.heap[k]? := fun k hk => r3.block k hk (by simp)
    have hbel : Below w.heap.size w w' := ⟨r3.os, r3.tape, r3.output, r3.size, hblk⟩
    refine h A' c' w' ?_ (hbel.mono (by omega)) (fun g' t' bs _ hb => hb.below hbel hb.lt)
    have h3 := (h2.snoc hq hql hhi hlo).keepI (w' := w') fun A' c' p ho => ho.below hbel (Nat.le_refl _)
    refine ⟨cs ++ [.slice A2 n c4], ⟨by simp [h1.len], r4.cap, r4.capmax, ?_⟩, h3.len, fun k p hp => ?_, h3.ne⟩
    · rcases r4.form with ⟨_, h5, _⟩ | ⟨g, cur, rfl, e1, e2, e3, e4, e5, e6, e7⟩
      · omega
      · refine .inr ⟨g, 0, cur, rfl, by omega, e2, e3, by omega, fun k u hk => ?_⟩
        rw [Nat.zero_add]
        have hkl := (List.getElem?_eq_some_iff.1 hk).1
        rw [← e7, List.getElem?_take] at hk
        split at hk
        · rw [← Array.getElem?_toList]; exact hk
        · cases hk
    · obtain ⟨A3, c3, e1, e2, e3⟩ := h3.own k p hp
      exact ⟨A3, c3, e1, e2.mono (Nat.le_refl _) r3.size, e3⟩
end
/-- Two neighbours change in their own blocks. -/
theorem Fac.two {w : World} {lo hi n m c : Nat} {A : Option Addr} {F : List (List Int)} (h : Fac w lo hi n A m c F) {i : Nat} {p q : List Int} (hp : F[i]? = some p) (hq : F[i + 1]? = some q) (hn : 1 ≤ n) :
    ∃ g off gp gq cp cq, A = some ⟨g, off, none⟩ ∧ w.cell? ⟨g, off + i, none⟩ = some (.slice (some ⟨gp, 0, none⟩) n cp) ∧ w.cell? ⟨g, off + (i + 1), none⟩ = some (.slice (some ⟨gq, 0, none⟩) n cq) ∧ gp ≠ gq ∧ OwnC w lo hi 2 1 (some ⟨gp, 0, none⟩) n cp (p.map (Value.int .i64)) ∧ OwnC w lo hi 2 1 (some ⟨gq, 0, none⟩) n cq (q.map (Value.int .i64)) ∧
      ∀ (w' : World) (p' q' : List Int), (∀ k, k < w.heap.size → k ≠ gp → k ≠ gq → w'.heap[k]? = w.heap[k]?) → OwnC w' lo hi 2 1 (some ⟨gp, 0, none⟩) n cp (p'.map (Value.int .i64)) → OwnC w' lo hi 2 1 (some ⟨gq, 0, none⟩) n cq (q'.map (Value.int .i64)) → p'.length = n → q'.length = n → Fac w' lo hi n A m c ((F.set i p').set (i + 1) q') := by
  obtain ⟨cs, h1, h2⟩ := h
  obtain ⟨Ap, cp, a1, a2, a3⟩ := h2.own i p hp
  obtain ⟨Aq, cq, b1, b2, b3⟩ := h2.own (i + 1) q hq
  obtain ⟨gp, rfl⟩ := OwnC.head a2 hn
  obtain ⟨gq, rfl⟩ := OwnC.head b2 hn
  have hiF := (List.getElem?_eq_some_iff.1 hq).1
  rcases h1.ex with ⟨_, hc⟩ | ⟨g, off, cur, rfl, f2, f3, f4, f5, f6⟩
  · have := (List.getElem?_eq_some_iff.1 b1).1
    have := h1.len
    have := h1.cap
    omega
  · have hne : gp ≠ gq := by
      rintro rfl
      have := h2.ne i (i + 1) _ _ gp a1 b1 rfl rfl
      omega
    refine ⟨g, off, gp, gq, cp, cq, rfl, (f4.cell _).trans (f6 i _ a1), (f4.cell _).trans (f6 (i + 1) _ b1), hne, a2, b2, fun w' p' q' hk hp' hq' hlp hlq => ?_⟩
    have hty : ∀ {g' : Nat} {c' : Nat} {x : List Int}, OwnC w lo hi 2 1 (some ⟨g', 0, none⟩) n c' (x.map (Value.int .i64)) → g ≠ g' := by
      intro g' c' x ho e
      subst e
      rcases ho.form with ⟨hA, _⟩ | ⟨g2, cur2, hA, _, _, hh, _⟩
      · cases hA
      · injection hA with hA
        injection hA with hA
        subst hA
        have h5 : some (Obj.cells cur 36 (0, 0)) = some (Obj.cells cur2 2 (0, 0)) := f4.symm.trans hh
        injection h5 with h5
        injection h5 with _ h5
        exact absurd h5 (by decide)
    refine ⟨cs, ⟨h1.len, h1.cap, h1.cmax, .inr ⟨g, off, cur, rfl, f2, f3, (hk g f4.lt (hty a2) (hty b2)).trans f4, f5, f6⟩⟩, by rw [List.length_set, List.length_set]; exact h2.len, fun k x hx => ?_, h2.ne⟩
    by_cases e1 : k = i + 1
    · subst e1
      rw [List.getElem?_set_self (by rw [List.length_set]; exact hiF)] at hx
      injection hx with hx
      subst hx
      exact ⟨_, _, b1, hq', hlq⟩
    · rw [List.getElem?_set_ne (by omega)] at hx
      by_cases e2 : k = i
      · subst e2
        rw [List.getElem?_set_self (by omega)] at hx
        injection hx with hx
        subst hx
        exact ⟨_, _, a1, hp', hlp⟩
      · rw [List.getElem?_set_ne (by omega)] at hx
        obtain ⟨Ak, ck, d1, d2, d3⟩ := h2.own k x hx
        refine ⟨Ak, ck, d1, OwnC.keep1 d2 fun gk hgk => ?_, d3⟩
        subst hgk
        have hlt : gk < w.heap.size := by
          rcases d2.form with ⟨hA, _⟩ | ⟨g2, cur2, hA, _, _, hh, _⟩
          · cases hA
          · injection hA with hA
            injection hA with hA
            subst hA
            exact (Array.getElem?_eq_some_iff.1 hh).1
        refine hk gk hlt ?_ ?_
        · rintro rfl
          exact e2 (h2.ne k i _ _ gk d1 a1 rfl rfl)
        · rintro rfl
          exact e1 (h2.ne k (i + 1) _ _ gk d1 b1 rfl rfl)
/-- One is put in place of another: it lies in a block of its own. -/
theorem Fac.put {w : World} {lo hi hi' n m c g off : Nat} {F : List (List Int)} (h : Fac w lo hi n (some ⟨g, off, none⟩) m c F) {k : Nat} {A2 : Option Addr} {c2 : Nat} {q : List Int} (hk : k < F.length) (ho : OwnC w hi hi' 2 1 A2 n c2 (q.map (Value.int .i64))) (hq : q.length = n) (hh : hi ≤ hi') (hlo : lo ≤ hi) :
    Fac (w.setCell ⟨g, off + k, none⟩ (.slice A2 n c2)) lo hi' n (some ⟨g, off, none⟩) m c (F.set k q) := by
  obtain ⟨cs, h1, h2⟩ := h
  have hkc : k < cs.length := by rw [h2.len]; exact hk
  rcases h1.ex with ⟨hA, _⟩ | ⟨g', off', cur, hA, f2, f3, f4, f5, f6⟩
  · cases hA
  · injection hA with hA
    injection hA with hA hA'
    subst hA hA'
    have hkk := h1.len
    have hcp := h1.cap
    refine ⟨cs.set k (.slice A2 n c2), ⟨by simp [h1.len], h1.cap, h1.cmax, .inr ⟨g, off, cur.setIfInBounds (off + k) (.slice A2 n c2), rfl, f2, by omega, f4.setAt (off + k) _, by rw [Array.size_setIfInBounds]; exact f5, fun j u hj => ?_⟩⟩, by simp [h2.len], fun j x hx => ?_, fun i j v v' gg hi1 hj1 hv hv' => ?_⟩
    · by_cases e : j = k
      · subst e
        rw [List.getElem?_set_self hkc] at hj
        injection hj with hj
        subst hj
        rw [Array.getElem?_setIfInBounds_self_of_lt (by omega)]
      · rw [List.getElem?_set_ne (by omega)] at hj
        rw [Array.getElem?_setIfInBounds_ne (by omega)]
        exact f6 j u hj
    · by_cases e : j = k
      · subst e
        rw [List.getElem?_set_self hk] at hx
        injection hx with hx
        subst hx
        exact ⟨A2, c2, List.getElem?_set_self hkc, (ho.farT f4 (by decide) _ _).mono hlo (Nat.le_refl _), hq⟩
      · rw [List.getElem?_set_ne (by omega)] at hx
        obtain ⟨A', c', e1, e2, e3⟩ := h2.own j x hx
        exact ⟨A', c', by rw [List.getElem?_set_ne (by omega)]; exact e1, (e2.farT f4 (by decide) _ _).mono (Nat.le_refl _) hh, e3⟩
    · have newb : ∀ {b : Nat}, (Value.slice A2 n c2).ownBlock = some b → hi ≤ b := by
        intro b hb
        rcases ho.form with ⟨rfl, _⟩ | ⟨g', cur, rfl, h1, _⟩
        · cases hb
        · injection hb with hb
          exact hb ▸ h1
      by_cases ei : i = k
      · by_cases ej : j = k
        · omega
        · subst ei
          rw [List.getElem?_set_self hkc] at hi1
          injection hi1 with hi1
          subst hi1
          rw [List.getElem?_set_ne (by omega)] at hj1
          have := newb hv
          have := h2.block hj1 hv'
          omega
      · rw [List.getElem?_set_ne (by omega)] at hi1
        by_cases ej : j = k
        · subst ej
          rw [List.getElem?_set_self hkc] at hj1
          injection hj1 with hj1
          subst hj1
          have := newb hv'
          have := h2.block hi1 hv
          omega
        · rw [List.getElem?_set_ne (by omega)] at hj1
          exact h2.ne i j v v' gg hi1 hj1 hv hv'

end Go.Proofs.YtnjgmhdmjaijgaaGreat
