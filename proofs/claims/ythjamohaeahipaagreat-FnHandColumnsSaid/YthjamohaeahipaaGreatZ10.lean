/- Steps of the proof, joined from several texts: GC GD GE ZM. -/
import Derived.Test.YthjamohaeahipaaGreatZ9
import Derived.Test.YthjamohaeahipaaGreatZ3
import Derived.Deep.DeepCutAuto
import Derived.Test.YthjamohaeahipaaGreatZ7
import Derived.Test.YthjamohaeahipaaGreatZ6
import Derived.Test.YthjamohaeahipaaGreatZ8

/- The draws: how long the source may stay. -/
namespace Go.Proofs.YthjamohaeahipaaGreat
open Go Go.RowKit

theorem least {P : Nat → Prop} (n : Nat) (h : P n) : ∃ m, m ≤ n ∧ P m ∧ ∀ k, k < m → ¬ P k := by
  induction n using Nat.strongRecOn with
  | ind n ih =>
    by_cases hk : ∃ k, k < n ∧ P k
    · obtain ⟨k, hk, hp⟩ := hk
      obtain ⟨m, hm, h1, h2⟩ := ih k hk hp
      exact ⟨m, by omega, h1, h2⟩
    · exact ⟨n, Nat.le_refl _, h, fun k hk' hp => hk ⟨k, hk', hp⟩⟩
theorem steps_ex (s : Nat) : ∃ m : Nat, m ≤ 2 ^ 40 ∧ byteOf (iterN lcg m (lcg s)) % 14 ≠ 5 ∧ ∀ k, k < m → ¬ byteOf (iterN lcg k (lcg s)) % 14 ≠ 5 := by
  obtain ⟨n, hn, h⟩ := leaves (lcg s)
  obtain ⟨m, hm, h1, h2⟩ := least (P := fun n => byteOf (iterN lcg n (lcg s)) % 14 ≠ 5) n h
  exact ⟨m, Nat.le_trans hm hn, h1, h2⟩
/-- How many numbers are drawn, from a seed, until one is not the fifth of fourteen. -/
noncomputable def stepsOf (s : Nat) : Nat := Classical.choose (steps_ex s)
theorem stepsOf_spec (s : Nat) : stepsOf s ≤ 1099511627776 ∧ byteOf (iterN lcg (stepsOf s) (lcg s)) % 14 ≠ 5 ∧ ∀ k, k < stepsOf s → byteOf (iterN lcg k (lcg s)) % 14 = 5 := by
  have h := Classical.choose_spec (steps_ex s)
  exact ⟨Nat.le_trans h.1 (Nat.le_of_eq pow_40), h.2.1, fun k hk => by have := h.2.2 k hk; omega⟩
theorem stepsOf_next {s : Nat} (h : byteOf (lcg s) % 14 = 5) : stepsOf (lcg s) < stepsOf s := by
  obtain ⟨_, h1, h2⟩ := stepsOf_spec s
  obtain ⟨_, h3, h4⟩ := stepsOf_spec (lcg s)
  have h0 : stepsOf s ≠ 0 := by
    intro e
    rw [e, iterN_zero] at h1
    exact h1 h
  obtain ⟨m, hm⟩ : ∃ m, stepsOf s = m + 1 := ⟨stepsOf s - 1, by omega⟩
  rw [hm, iterN_succ] at h1
  rw [hm]
  by_cases hlt : m < stepsOf (lcg s)
  · exact absurd (h4 m hlt) h1
  · omega
/-- What is left to draw: bytes of the code, then steps of the seed. -/
noncomputable def lowOf (len p s : Nat) : Nat := if p < len then (len - p) + 2199023255552 else stepsOf s
theorem lowOf_le (len p s : Nat) : lowOf len p s ≤ len + 2199023255552 := by
  unfold lowOf
  have := (stepsOf_spec s).1
  split <;> omega
theorem lowOf_any {len p s : Nat} {s' : Nat} : lowOf len (p + 1) s' ≤ lowOf len p s + 1099511627776 := by
  unfold lowOf
  have := (stepsOf_spec s').1
  split <;> split <;> omega
theorem lowOf_stay {len p s : Nat} {x : Int} {s' : Nat} (h : Next len p s x s') (h5 : x % 14 = 5) : lowOf len (p + 1) s' < lowOf len p s := by
  unfold lowOf
  have h1 := (stepsOf_spec s').1
  by_cases hp : p < len
  · clear h h5
    rw [if_pos hp]
    generalize stepsOf s' = y at h1 ⊢
    split <;> omega
  · have e := h.2.2 (by omega)
    have e1 := e.1
    have e2 := e.2
    rw [e1] at e2 ⊢
    clear e h e1 h1
    have h2 : byteOf (lcg s) % 14 = 5 := by
      generalize byteOf (lcg s) = y at e2 ⊢
      omega
    have h3 := stepsOf_next h2
    rw [if_neg hp, if_neg (by omega)]
    exact h3

end Go.Proofs.YthjamohaeahipaaGreat

/- The draws: stitches that take some columns. -/
namespace Go.Proofs.YthjamohaeahipaaGreat
open Go Go.RowKit

theorem nextW_grown (w : World) (g p s' n : Nat) : w.grownBy (nextW w g p s' n) (some g) :=
  ⟨rfl, rfl, rfl, by simp [nextW], fun k _ hk => nextW_far (fun e => hk (by rw [e]))⟩
/-- The bytes that are read lie in an earlier block. -/
def FarB (A : Option Addr) (bs : List Int) (g : Nat) : Prop := 0 < bs.length → ∀ a, A = some a → a.block < g
theorem Bytes.grown {w w' : World} {A : Option Addr} {bs : List Int} {g : Nat} (h : Bytes w A bs) (hg : w.grownBy w' (some g)) (hA : FarB A bs g) : Bytes w' A bs :=
  fun k hk' => by
    obtain ⟨b, off, x, hA', hx, hc, h0⟩ := h k hk'
    refine ⟨b, off, x, hA', hx, hg.cell hc ?_, h0⟩
    intro e
    injection e with e
    exact Nat.ne_of_lt (hA (by omega) _ hA') e
def drawL : List Int := [1, 1, 1, 2, 2, 3, 4, 5, 6, 7, 8, 9, 10, 11]
theorem draw_kind {x y : Int} (h : drawL[(x % 14).toNat]? = some y) : isStitchB y = true ∧ (y = 3 → x % 14 = 5) := by
  obtain ⟨k, hk⟩ := Int.eq_ofNat_of_zero_le (Int.emod_nonneg x (show (14 : Int) ≠ 0 by decide))
  have hlt := Int.emod_lt_of_pos x (show (0 : Int) < 14 by decide)
  rw [hk] at h hlt ⊢
  rw [Int.toNat_natCast] at h
  rcases (by omega : k = 0 ∨ k = 1 ∨ k = 2 ∨ k = 3 ∨ k = 4 ∨ k = 5 ∨ k = 6 ∨ k = 7 ∨ k = 8 ∨ k = 9 ∨ k = 10 ∨ k = 11 ∨ k = 12 ∨ k = 13) with e | e | e | e | e | e | e | e | e | e | e | e | e | e
  all_goals
    subst e
    simp [drawL] at h
    subst h
    decide
def numVg : Option Value → Nat
  | some (.int _ x) => x.toNat
  | _ => 0
def lenOV : Value → Nat
  | .slice _ n _ => n
  | _ => 0
/-- What the loop over draws uses up. -/
noncomputable def potW (len g : Nat) (ov lv : Value) (w : World) : Nat := ((intOf lv).toNat * 17 + (16 - lenOV ov)) * 4398046511104 + lowOf len (numVg (w.cell? ⟨g, 1, none⟩)) (numVg (w.cell? ⟨g, 2, none⟩))
theorem potW_eq {w : World} {g n c p s len : Nat} {A A' : Option Addr} {m c' l : Nat} (h : Src w g A n c p s) : potW len g (.slice A' m c') (.int .i64 (l : Int)) w = (l * 17 + (16 - m)) * 4398046511104 + lowOf len p s := by
  unfold potW
  rw [h.c3.2.1, h.c3.2.2]
  simp [numVg, lenOV, intOf]
theorem taken_cases {k : Int} (h : isStitchB k = true) : ∃ t u : Nat, takenB k = (t : Int) ∧ madeB k = (u : Int) ∧ ((k = 3 ∧ t = 0 ∧ u = 1) ∨ (k ≠ 3 ∧ 1 ≤ t ∧ u ≤ t)) := by
  rcases stitch_cases h with rfl | rfl | rfl | rfl | rfl | rfl | rfl | rfl | rfl | rfl | rfl
  · exact ⟨1, 1, by decide, by decide, by decide⟩
  · exact ⟨1, 1, by decide, by decide, by decide⟩
  · exact ⟨0, 1, by decide, by decide, by decide⟩
  · exact ⟨2, 1, by decide, by decide, by decide⟩
  · exact ⟨2, 1, by decide, by decide, by decide⟩
  · exact ⟨1, 1, by decide, by decide, by decide⟩
  · exact ⟨1, 1, by decide, by decide, by decide⟩
  · exact ⟨2, 2, by decide, by decide, by decide⟩
  · exact ⟨2, 2, by decide, by decide, by decide⟩
  · exact ⟨4, 4, by decide, by decide, by decide⟩
  · exact ⟨4, 4, by decide, by decide, by decide⟩


set_option maxHeartbeats 8000000 in
set_option maxRecDepth 10000 in
theorem spec_l14Draw (m : Nat) (g : Nat) (A : Option Addr) (c p s : Nat) (bs : List Int) (w : World) (h : Src w g A bs.length c p s) (hby : Bytes w A bs) (hA : FarB A bs g) (hlen : bs.length ≤ 1099511627776) (hp : p ≤ 576460752303423488) (hs : s < 18446744073709551616) (hm : m ≤ 8) :
    Calls Tryz.prog 36 #[.pointer (some ⟨g, 0, none⟩), .int .i64 (m : Int)] w fun e w' => ∃ (A' : Option Addr) (c' : Nat) (out : List Int) (p' s' : Nat), e = .returned (.slice A' out.length c') ∧ OwnI w' w.heap.size w'.heap.size A' c' out ∧ stitchesB out = true ∧ takenS out = m ∧ Src w' g A bs.length c p' s' ∧ s' < 18446744073709551616 ∧ p ≤ p' ∧ p' ≤ p + 4503599627370496 ∧ w.grownBy w' (some g) := by
  obtain ⟨iI, hi0, hu0, hu1, hu2⟩ := info_parts info_int64
  have t1 : (64 : TypeId) ≠ 2 := by decide
  have hgw := h.lt
  have HB := Lib.hid hby; clear hby
  have HA := Lib.hid hA; clear hA
  have o1 := (OwnC.lit (w := w) (lo := w.heap.size) (n := 0) 2 1 #[] (Nat.le_refl _) (Nat.zero_le _) rfl).mono (Nat.le_refl _) (show w.heap.size + 1 ≤ (w.alloc (.cells #[] 2)).heap.size by simp)
  have O1 := Lib.hid o1; clear o1
  have HP0 : Hid (p + 2 * ((m * 17 + (16 - 0)) * 4398046511104 + lowOf bs.length p s) ≤ p + 4503599627370496) := Lib.hid (by have := lowOf_le bs.length p s; omega)
  obtain ⟨P0, hP0⟩ : ∃ P0, P0 = p + 2 * ((m * 17 + (16 - 0)) * 4398046511104 + lowOf bs.length p s) := ⟨_, rfl⟩
  rw [← hP0] at HP0
  have HP1 := Lib.hid hP0; clear hP0
  go_enter Tryz.func36, Tryz.ntmps36
  go_wp2_with (fail)
  go_loopw [5, 6, 7] (fun ov mv lv wr => ∃ (A5 : Option Addr) (c5 : Nat) (out : List Int) (made left p' s' : Nat), ov = .slice A5 out.length c5 ∧ mv = .int .i64 (made : Int) ∧ lv = .int .i64 (left : Int) ∧ OwnI wr w.heap.size wr.heap.size A5 c5 out ∧ Hid (∀ k ∈ out, isStitchB k = true) ∧ Hid (takenS out + left = m) ∧ out.length + left ≤ 16 ∧ made + left ≤ 8 ∧ Src wr g A bs.length c p' s' ∧ s' < 18446744073709551616 ∧ p ≤ p' ∧ Hid (p' + 2 * ((left * 17 + (16 - out.length)) * 4398046511104 + lowOf bs.length p' s') ≤ P0) ∧ w.grownBy wr (some g)) (fun ov _ lv wr => potW bs.length g ov lv wr)
  case atStart => exact ⟨some ⟨w.heap.size, 0, none⟩, 0, [], 0, m, p, s, rfl, rfl, rfl, O1.out, Lib.hid (by simp), Lib.hid (by simp [takenS]), by simpa using (by omega : m ≤ 16), by omega, h.alloc _, hs, Nat.le_refl _, Lib.hid (by rw [HP1.out]; exact Nat.le_refl _), World.grownBy_alloc _ _ _⟩
  case round =>
    clear O1 h
    obtain ⟨A5, c5, out, made, left, p1, s1, rfl, rfl, rfl, ho, HK, HT, hol, hml, hsr, hs1, hpp, HPH, hgr⟩ := hrel
    have hzr := hgr.size
    by_cases hl0 : 0 < left
    · have d1 : decide ((0 : Int) < (left : Int)) = true := decide_eq_true (by omega)
      obtain ⟨wL, hwL⟩ : ∃ wL, wL = wr.alloc (.cells #[.int .i64 1, .int .i64 1, .int .i64 1, .int .i64 2, .int .i64 2, .int .i64 3, .int .i64 4, .int .i64 5, .int .i64 6, .int .i64 7, .int .i64 8, .int .i64 9, .int .i64 10, .int .i64 11] 2) := ⟨_, rfl⟩
      have hgL : w.grownBy wL (some g) := by rw [hwL]; exact hgr.trans (World.grownBy_alloc _ _ _)
      have hsL : Src wL g A bs.length c p1 s1 := by rw [hwL]; exact hsr.alloc _
      have hoL : OwnI wL w.heap.size wr.heap.size A5 c5 out := by rw [hwL]; exact OwnC.alloc ho _
      have hzL : wr.heap.size < wL.heap.size := by rw [hwL]; simp
      have hIL : Ints wL (some ⟨wr.heap.size, 0, none⟩) drawL := by
        rw [hwL]
        exact OwnC.ints (lo := wr.heap.size) (hi := wr.heap.size + 1) (OwnC.lit (w := wr) (lo := wr.heap.size) (n := 14) 2 1 #[.int .i64 1, .int .i64 1, .int .i64 1, .int .i64 2, .int .i64 2, .int .i64 3, .int .i64 4, .int .i64 5, .int .i64 6, .int .i64 7, .int .i64 8, .int .i64 9, .int .i64 10, .int .i64 11] (Nat.le_refl _) (by decide) rfl)
      have hlw := lowOf_le bs.length p1 s1
      have hp60 : p1 ≤ 1152921504606846976 := by have h1 := HPH.out; have h2 := HP0.out; omega
      have hPot := potW_eq (A' := A5) (m := out.length) (c' := c5) (l := left) (len := bs.length) hsr
      have HPot := Lib.hid hPot; clear hPot
      go_upto_region 5 with fail
      go_wp2_with (fail)
      rw [← hwL]
      clear hwL
      refine (spec_among drawL (some ⟨wr.heap.size, 0, none⟩) 14 g A c p1 s1 bs wL hsL (HB.out.grown hgL HA.out) hp60 hs1 hIL (fun a ha => by injection ha with ha; subst ha; show wr.heap.size ≠ g; omega) ⟨by decide, by decide⟩).mono ?_
      rintro e w2 ⟨x, y, s2, n2, rfl, hy, hx, rfl⟩
      have hy' : drawL[(x % 14).toNat]? = some y := hy
      obtain ⟨hst, h35⟩ := draw_kind hy'
      clear hy hy'
      have hs2 := hx.2.1
      have HX := Lib.hid hx; clear hx
      have hsN : Src (nextW wL g p1 s2 n2) g A bs.length c (p1 + 1) s2 := nextW_src hsL
      have hgN : w.grownBy (nextW wL g p1 s2 n2) (some g) := hgL.trans (nextW_grown _ _ _ _ _)
      have hoN : OwnI (nextW wL g p1 s2 n2) w.heap.size wr.heap.size A5 c5 out := OwnC.keep hoL fun q h1 _ _ => nextW_far (by omega)
      have hzN : wr.heap.size ≤ (nextW wL g p1 s2 n2).heap.size := by simp [nextW]; omega
      generalize nextW wL g p1 s2 n2 = wN at hsN hgN hoN hzN ⊢
      clear hsL hgL hoL hzL hIL hsr hgr ho
      by_cases hcc : y = 3 ∧ (8 ≤ made + left ∨ 16 ≤ out.length + left)
      · obtain ⟨hy3, hor⟩ := hcc
        have hlw2 := lowOf_stay HX.out (h35 hy3)
        have hyb : (y == 3) = true := by simp [hy3]
        clear hy3 h35 hst
        by_cases h8 : 8 ≤ made + left
        · have d8 : decide ((8 : Int) ≤ (made : Int) + (left : Int)) = true := decide_eq_true (by omega)
          go_wp2_with (fail)
          refine ⟨⟨A5, c5, out, made, left, p1 + 1, s2, rfl, rfl, rfl, OwnC.mono hoN (Nat.le_refl _) hzN, HK, HT, hol, hml, hsN, hs2, by omega, Lib.hid (by have := HPH.out; omega), hgN⟩, ?_⟩
          rw [potW_eq hsN, HPot.out]
          omega
        · have d8 : decide ((8 : Int) ≤ (made : Int) + (left : Int)) = false := decide_eq_false (by omega)
          have d16 : decide ((16 : Int) ≤ (out.length : Int) + (left : Int)) = true := decide_eq_true (by omega)
          go_wp2_with (fail)
          refine ⟨⟨A5, c5, out, made, left, p1 + 1, s2, rfl, rfl, rfl, OwnC.mono hoN (Nat.le_refl _) hzN, HK, HT, hol, hml, hsN, hs2, by omega, Lib.hid (by have := HPH.out; omega), hgN⟩, ?_⟩
          rw [potW_eq hsN, HPot.out]
          omega
      · obtain ⟨t, u, htk, hmd, htu⟩ := taken_cases hst
        have hl1 := lowOf_any (len := bs.length) (p := p1) (s := s1) (s' := s2)
        have HTU := Lib.hid htu; clear htu
        have HMD := Lib.hid hmd; clear hmd
        have HTK := Lib.hid htk; clear htk
        have HCC : Hid (y = 3 → ¬ 8 ≤ made + left ∧ ¬ 16 ≤ out.length + left) := Lib.hid (fun e => ⟨fun hh => hcc ⟨e, .inl hh⟩, fun hh => hcc ⟨e, .inr hh⟩⟩)
        have HG : Hid ((y == 3 && (decide (8 ≤ made + left) || decide (16 ≤ out.length + left))) = false) := Lib.hid (by
          cases hq : (y == 3 && (decide (8 ≤ made + left) || decide (16 ≤ out.length + left)))
          · rfl
          · simp at hq; exact absurd ⟨hq.1, hq.2⟩ hcc)
        clear hcc h35 HG
        have hby5 : Bytes wN A bs := HB.out.grown hgN HA.out
        have hgg := hsN.lt
        go_upto_region 6 with fail
        go_cut [30] (fun bv wx => bv = .bool false ∧ wN = wx)
        case first =>
          by_cases hy3 : y = 3
          · have hyb : (y == 3) = true := by simp [hy3]
            obtain ⟨e8, e16⟩ := HCC.out hy3
            clear hy3
            have d8 : decide ((8 : Int) ≤ (made : Int) + (left : Int)) = false := decide_eq_false (by omega)
            have d16 : decide ((16 : Int) ≤ (out.length : Int) + (left : Int)) = false := decide_eq_false (by omega)
            go_wp2_with (fail)
            go_meet
            exact ⟨rfl, rfl⟩
          · have hyb : (y == 3) = false := by simp [hy3]
            go_wp2_with (fail)
            go_meet
            exact ⟨rfl, rfl⟩
        case rest =>
        obtain ⟨rfl, rfl⟩ := hcut
        go_wp2_with (fail)
        refine (spec_ColumnsTaken y wN).mono ?_; rintro e w5 ⟨rfl, b5⟩
        rw [HTK.out]
        have hs5 : Src w5 g A bs.length c (p1 + 1) s2 := hsN.below b5 hgg
        have hg5 : w.grownBy w5 (some g) := hgN.trans ⟨b5.os, b5.tape, b5.output, b5.size, fun k hk _ => b5.block k hk⟩
        have ho5 := OwnC.below hoN b5 hzN
        have hz5 : wr.heap.size ≤ w5.heap.size := Nat.le_trans hzN b5.size
        have hby6 : Bytes w5 A bs := HB.out.grown hg5 HA.out
        clear hsN hgN hoN hzN b5 hby5 hgg
        go_upto_if 34 with fail
        go_cut [8] (fun zv wx => ∃ (z : Int) (pz sz : Nat), zv = .int .i64 z ∧ isStitchB z = true ∧ takenB z ≤ (left : Int) ∧ (z = 3 → ¬ 8 ≤ made + left ∧ ¬ 16 ≤ out.length + left) ∧ Src wx g A bs.length c pz sz ∧ sz < 18446744073709551616 ∧ p1 ≤ pz ∧ pz ≤ p1 + 2 ∧ lowOf bs.length pz sz ≤ lowOf bs.length p1 s1 + 2199023255552 ∧ w.grownBy wx (some g) ∧ OwnI wx w.heap.size wr.heap.size A5 c5 out ∧ wr.heap.size ≤ wx.heap.size)
        case first =>
          by_cases hgt : left < t
          · have dgt : decide ((left : Int) < (t : Int)) = true := decide_eq_true (by omega)
            go_wp2_with (fail)
            refine (spec_pick 2 g A c (p1 + 1) s2 bs w5 hs5 hby6 (by have h1 := HPH.out; have h2 := HP0.out; omega) hs2 (by decide)).mono ?_
            rintro e w6 ⟨x2, s3, n3, rfl, hx2, rfl⟩
            have hs3 := hx2.2.1
            have hl2 := lowOf_any (len := bs.length) (p := p1 + 1) (s := s2) (s' := s3)
            have hs6 : Src (nextW w5 g (p1 + 1) s3 n3) g A bs.length c (p1 + 1 + 1) s3 := nextW_src hs5
            have hg6 : w.grownBy (nextW w5 g (p1 + 1) s3 n3) (some g) := hg5.trans (nextW_grown _ _ _ _ _)
            have ho6 : OwnI (nextW w5 g (p1 + 1) s3 n3) w.heap.size wr.heap.size A5 c5 out := OwnC.keep ho5 fun q h1 _ _ => nextW_far (by omega)
            have hz6 : wr.heap.size ≤ (nextW w5 g (p1 + 1) s3 n3).heap.size := by simp [nextW]; omega
            generalize nextW w5 g (p1 + 1) s3 n3 = w6 at hs6 hg6 ho6 hz6 ⊢
            have q0 := Int.emod_nonneg x2 (show (2 : Int) ≠ 0 by decide)
            have q1 := Int.emod_lt_of_pos x2 (show (0 : Int) < 2 by decide)
            clear hx2
            generalize x2 % 2 = r at q0 q1 ⊢
            have hw : IntKind.i64.wrap (1 + r) = 1 + r := IntWalk.i64_in _ ⟨by omega, by omega⟩
            go_wp2_with (fail)
            go_meet
            refine ⟨1 + r, p1 + 1 + 1, s3, rfl, ?_, ?_, fun e => by omega, hs6, hs3, by omega, by omega, by omega, hg6, ho6, hz6⟩
            · rcases (by omega : r = 0 ∨ r = 1) with e | e <;> subst e <;> decide
            · rcases (by omega : r = 0 ∨ r = 1) with e | e <;> subst e
              · have : takenB (1 + 0) = 1 := by decide
                omega
              · have : takenB (1 + 1) = 1 := by decide
                omega
          · have dgt : decide ((left : Int) < (t : Int)) = false := decide_eq_false (by omega)
            go_wp2_with (fail)
            go_meet
            exact ⟨y, p1 + 1, s2, rfl, hst, by rw [HTK.out]; omega, HCC.out, hs5, hs2, by omega, by omega, by omega, hg5, ho5, hz5⟩
        case rest =>
        clear hs5 hg5 ho5 hz5 hby6 hst HCC HTK HMD HTU hl1 HX hs2
        obtain ⟨z, pz, sz, rfl, hzst, hzl, hz3, hsz, hszz, hpz, hpz2, hlz, hgz, hoz, hzz⟩ := hcut
        obtain ⟨tz, uz, htz, huz, hcz⟩ := taken_cases hzst
        rw [htz] at hzl
        have HT2 : Hid (takenS (out ++ [z]) + (left - tz) = m) := Lib.hid (by
          have e1 := HT.out
          have e2 : takenB z = ((takenN z : Nat) : Int) := by rw [takenB, if_pos hzst]
          rw [takenS_append, takenS, takenS]
          omega)
        have HTZ := Lib.hid htz; clear htz
        have HUZ := Lib.hid huz; clear huz
        have HK2 : Hid (∀ k ∈ out ++ [z], isStitchB k = true) := Lib.hid (fun k hk => by
          rcases List.mem_append.1 hk with hk | hk
          · exact HK.out k hk
          · rw [List.mem_singleton.1 hk]; exact hzst)
        have hol2 : (out ++ [z]).length + (left - tz) ≤ 16 := by
          rw [List.length_append, List.length_singleton]
          rcases hcz with ⟨e, e1, e2⟩ | ⟨_, e1, e2⟩
          · have := hz3 e; omega
          · omega
        have hml2 : made + uz + (left - tz) ≤ 8 := by
          rcases hcz with ⟨e, e1, e2⟩ | ⟨_, e1, e2⟩
          · have := hz3 e; omega
          · omega
        have hdec : (left - tz) * 17 + (16 - (out ++ [z]).length) + 1 ≤ left * 17 + (16 - out.length) := by
          rw [List.length_append, List.length_singleton]
          rcases hcz with ⟨e, e1, e2⟩ | ⟨_, e1, e2⟩
          · have := hz3 e; omega
          · omega
        clear hz3 hcz hzst
        have hgz2 := hsz.lt
        go_wp2_with (at_builtin; refine wpList_append1 wc [.int .i64 z] _ rfl (.tmp 38) (.tmp 40) _ rfl 2 iI _ 1 8 Tryz.underlying24 hi0 hu0 hu1 hu2 rfl (by decide) rfl hoz (by omega) 1 rfl rfl (by simp [Value.oneCell']) (by omega) (by decide) ?_; intro A9 c9 w8 ho8 hg8 hb8 hz8)
        have hs8 : Src w8 g A bs.length c pz sz := (hsz.alloc (.cells #[.int .i64 z] 2)).grownT (OwnC.alloc hoz (.cells #[.int .i64 z] 2)) t1 hg8
        have hgb8 : w.grownBy w8 (some g) := ⟨hb8.os.trans hgz.os, hb8.tape.trans hgz.tape, hb8.output.trans hgz.output, Nat.le_trans hgz.size hb8.size, fun k hk hne => (hb8.block k hk).trans (hgz.block k hk hne)⟩
        have ho8' : OwnI w8 w.heap.size w8.heap.size A9 c9 (out ++ [z]) := by
          show OwnC _ _ _ _ _ _ _ _ _
          rw [List.map_append, List.length_append]
          exact ho8
        clear hsz hgz hoz ho8 hg8 hb8
        have hgs8 := hs8.lt
        refine (spec_ColumnsTaken z w8).mono ?_; rintro e w9 ⟨rfl, b9⟩
        rw [HTZ.out]
        have hs9 : Src w9 g A bs.length c pz sz := hs8.below b9 hgs8
        have hgb9 : w.grownBy w9 (some g) := hgb8.trans ⟨b9.os, b9.tape, b9.output, b9.size, fun k hk _ => b9.block k hk⟩
        have ho9 : OwnI w9 w.heap.size w9.heap.size A9 c9 (out ++ [z]) := (OwnC.below ho8' b9 (Nat.le_refl _)).mono (Nat.le_refl _) b9.size
        have hgs9 := hs9.lt
        clear hs8 hgb8 ho8' hgs8 b9
        have e1 : (left : Int) - (tz : Int) = ((left - tz : Nat) : Int) := by omega
        have w11 : IntKind.i64.wrap ((left : Int) - (tz : Int)) = ((left - tz : Nat) : Int) := by rw [e1]; exact IntWalk.i64_in _ ⟨by omega, by omega⟩
        have w12 : IntKind.i64.wrap ((made : Int) + (uz : Int)) = ((made + uz : Nat) : Int) := by
          rw [show (made : Int) + (uz : Int) = ((made + uz : Nat) : Int) by omega]
          exact IntWalk.i64_in _ ⟨by omega, by omega⟩
        clear e1
        go_wp2_with (fail)
        refine (spec_ColumnsMade z w9).mono ?_; rintro e w10 ⟨rfl, b10⟩
        rw [HUZ.out]
        have hs10 : Src w10 g A bs.length c pz sz := hs9.below b10 hgs9
        have hgb10 : w.grownBy w10 (some g) := hgb9.trans ⟨b10.os, b10.tape, b10.output, b10.size, fun k hk _ => b10.block k hk⟩
        have ho10 : OwnI w10 w.heap.size w10.heap.size A9 c9 (out ++ [z]) := (OwnC.below ho9 b10 (Nat.le_refl _)).mono (Nat.le_refl _) b10.size
        clear hs9 hgb9 ho9 hgs9 b10
        have HLN : Hid ((out ++ [z]).length = out.length + 1) := Lib.hid (by rw [List.length_append]; rfl)
        have HFIN : Hid (pz + 2 * (((left - tz) * 17 + (16 - (out ++ [z]).length)) * 4398046511104 + lowOf bs.length pz sz) ≤ P0) := Lib.hid (by
          have h1 := HPH.out
          omega)
        have hpot := potW_eq (A' := A9) (m := (out ++ [z]).length) (c' := c9) (l := left - tz) (len := bs.length) hs10
        have HP2 := Lib.hid hpot; clear hpot
        go_wp2_with (fail)
        refine ⟨⟨A9, c9, out ++ [z], made + uz, left - tz, pz, sz, by rw [HLN.out], by first | rfl | omega | (congr 1; omega), by first | rfl | (congr 1; omega), ho10, HK2, HT2, hol2, hml2, hs10, hszz, by omega, HFIN, hgb10⟩, ?_⟩
        rw [HLN.out] at HP2 hdec
        have hP2 := HP2.out
        rw [hP2, HPot.out]
        omega
    · have d1 : decide ((0 : Int) < (left : Int)) = false := decide_eq_false (by omega)
      have hlen16 : stitchesB out = true := by
        unfold stitchesB
        rw [Bool.and_eq_true, List.all_eq_true, decide_eq_true_eq]
        exact ⟨HK.out, by omega⟩
      have HL := Lib.hid hlen16; clear hlen16
      have HTM : Hid (takenS out = m) := Lib.hid (by have := HT.out; omega)
      go_wp2_with (fail)
      go_ret
      refine ⟨A5, c5, out, p1, s1, rfl, ho, HL.out, HTM.out, hsr, hs1, hpp, ?_, hgr⟩
      have h1 := HPH.out
      have h2 := HP0.out
      omega

end Go.Proofs.YthjamohaeahipaaGreat

/- The draws: the source as one word, and what its methods give. -/
namespace Go.Proofs.YthjamohaeahipaaGreat
open Go Go.RowKit

/-- The source at block g reads these bytes; it has given at most b numbers. -/
structure Sv (w : World) (g : Nat) (A : Option Addr) (c : Nat) (bs : List Int) (b : Nat) : Prop where
  ex : ∃ p s, Src w g A bs.length c p s ∧ s < 18446744073709551616 ∧ p ≤ b
  bytes : Bytes w A bs
  far : FarB A bs g
  len : bs.length ≤ 1099511627776
section
variable {w w' : World} {g : Nat} {A : Option Addr} {c : Nat} {bs : List Int} {b b' : Nat}
theorem Sv.mono (h : Sv w g A c bs b) (hb : b ≤ b') : Sv w g A c bs b' := by
  obtain ⟨p, s, h1, h2, h3⟩ := h.ex
  exact ⟨⟨p, s, h1, h2, Nat.le_trans h3 hb⟩, h.bytes, h.far, h.len⟩
theorem Sv.lt (h : Sv w g A c bs b) : g < w.heap.size := by obtain ⟨p, s, h1, _⟩ := h.ex; exact h1.lt
theorem Sv.below (h : Sv w g A c bs b) (hb : Below w.heap.size w w') : Sv w' g A c bs b := by
  obtain ⟨p, s, h1, h2, h3⟩ := h.ex
  exact ⟨⟨p, s, h1.below hb h1.lt, h2, h3⟩, h.bytes.of_cells (cells_below hb), h.far, h.len⟩
theorem Sv.alloc (h : Sv w g A c bs b) (o : Obj) : Sv (w.alloc o) g A c bs b := h.below ((Below.refl _ _).alloc (Nat.le_refl _) o)
theorem Sv.drewN (h : Sv w g A c bs b) (n : Nat) : Sv (w.drewN n) g A c bs b := h.below (below_drewN (Below.refl _ _) n)
/-- A world in which the blocks up to the source's are as they were. -/
theorem Sv.keep (h : Sv w g A c bs b) (hk : ∀ q, q ≤ g → w'.heap[q]? = w.heap[q]?) : Sv w' g A c bs b := by
  obtain ⟨p, s, q1, q2, q3⟩ := h.ex
  refine ⟨⟨p, s, (hk g (Nat.le_refl g)).trans q1, q2, q3⟩, fun k hk' => ?_, h.far, h.len⟩
  obtain ⟨b, off, x, hA, hx, hc, h0⟩ := h.bytes k hk'
  have hlt : b < g := h.far (by omega) _ hA
  refine ⟨b, off, x, hA, hx, ?_, h0⟩
  rw [← hc]
  unfold World.cell?
  rw [hk b (by omega)]
theorem Sv.store (h : Sv w g A c bs b) {q j : Nat} (hq : g < q) (u : Value) : Sv (w.setCell ⟨q, j, none⟩ u) g A c bs b :=
  h.keep fun k hk => Below.heap_setCell w _ u k (by show k ≠ q; omega)
theorem Sv.grown {row : Option Nat} (h : Sv w g A c bs b) (hg : w.grownBy w' row) (h1 : ∀ q, row = some q → g < q) : Sv w' g A c bs b :=
  h.keep fun k hk => hg.block k (by have := h.lt; omega) fun e => by have := h1 k e.symm; omega
theorem Sv.next {n p s' : Nat} (h : Sv w g A c bs b) {s : Nat} (hs : Src w g A bs.length c p s) (hp : p ≤ b) (hs' : s' < 18446744073709551616) : Sv (nextW w g p s' n) g A c bs (b + 1) ∧ w.grownBy (nextW w g p s' n) (some g) ∧ (nextW w g p s' n).heap.size = w.heap.size :=
  ⟨⟨⟨p + 1, s', nextW_src hs, hs', by omega⟩, h.bytes.grown (nextW_grown w g p s' n) h.far, h.far, h.len⟩, nextW_grown w g p s' n, by simp [nextW]⟩
theorem OwnC.grownG {lo hi n cc : Nat} {e : TypeId} {sz : Nat} {B : Option Addr} {cs : List Value} (h : OwnC w lo hi e sz B n cc cs) (hg : w.grownBy w' (some g)) (hlo : g < lo ∨ hi ≤ g) : OwnC w' lo hi e sz B n cc cs :=
  h.keep fun k h1 h2 h3 => hg.block k h3 (fun e => by injection e with e; omega)
theorem Blk.grownG {g2 : Nat} {t : TypeId} {cs : Array Value} (h : Blk w g2 t cs) (hg : w.grownBy w' (some g)) (hne : g2 ≠ g) : Blk w' g2 t cs :=
  (hg.block g2 h.lt (fun e => by injection e with e; exact hne e)).trans h
theorem Ints.grownG {B : Option Addr} {xs : List Int} (h : Ints w B xs) (hg : w.grownBy w' (some g)) (hB : ∀ a, B = some a → a.block ≠ g) : Ints w' B xs :=
  fun k hk => by
    obtain ⟨b, off, x, hA, hc, hx⟩ := h k hk
    exact ⟨b, off, x, hA, hg.cell hc (fun e => by injection e with e; exact hB _ hA e), hx⟩
end
theorem below_grownG {w w' : World} {g : Nat} (h : Below w.heap.size w w') : w.grownBy w' (some g) := ⟨h.os, h.tape, h.output, h.size, fun k hk _ => h.block k hk⟩
theorem gb_below {w w' : World} {g B : Nat} (h : w.grownBy w' (some g)) (hB : B ≤ g) (hw : B ≤ w.heap.size) : Below B w w' :=
  ⟨h.os, h.tape, h.output, h.size, fun k hk => h.block k (by omega) (fun e => by injection e with e; omega)⟩

theorem gb_set {w w1 : World} {g : Nat} (h : w.grownBy w1 (some g)) {p : Addr} (hp : w.heap.size ≤ p.block) (u : Value) : w.grownBy (w1.setCell p u) (some g) :=
  ⟨h.os, h.tape, h.output, by simpa using h.size, fun q hq hne => (Below.heap_setCell w1 p u q (by omega)).trans (h.block q hq hne)⟩
theorem gb_app {w w1 w2 : World} {g : Nat} {row : Option Nat} (h : w.grownBy w1 (some g)) (hg : w1.grownBy w2 row) (hr : ∀ q, row = some q → w.heap.size ≤ q) : w.grownBy w2 (some g) :=
  ⟨hg.os.trans h.os, hg.tape.trans h.tape, hg.output.trans h.output, Nat.le_trans h.size hg.size, fun q hq hne => (hg.block q (Nat.lt_of_lt_of_le hq h.size) (fun e => by have := hr q e.symm; omega)).trans (h.block q hq hne)⟩
theorem gb_al {w w1 : World} {g : Nat} (h : w.grownBy w1 (some g)) (o : Obj) : w.grownBy (w1.alloc o) (some g) := h.trans (World.grownBy_alloc _ _ _)
theorem gb_bel {w w1 w2 : World} {g : Nat} (h : w.grownBy w1 (some g)) (b : Below w1.heap.size w1 w2) : w.grownBy w2 (some g) := h.trans (below_grownG b)

/-- Rows (26) outside the source's block. -/
theorem OwnRows.grownG {w w' : World} {g : Nat} {lo hi n cc : Nat} {B : Option Addr} {rs : List RowD} (h : OwnRows w lo hi B n cc rs) (hg : w.grownBy w' (some g)) (hlo : g < lo ∨ hi ≤ g) : OwnRows w' lo hi B n cc rs :=
  h.keep fun k h1 h2 h3 => hg.block k h3 (fun e => by injection e with e; omega)
theorem sv_pick (m : Int) (hm : m ≤ 200) {w : World} {g : Nat} {A : Option Addr} {c : Nat} {bs : List Int} {b : Nat} (h : Sv w g A c bs b) (hb : b ≤ 1152921504606846000) :
    Calls Tryz.prog 34 #[.pointer (some ⟨g, 0, none⟩), .int .i64 m] w fun e w' => ∃ x : Int, e = .returned (.int .i64 x) ∧ 0 ≤ x ∧ (x < m ∨ x = 0) ∧ Sv w' g A c bs (b + 1) ∧ w.grownBy w' (some g) ∧ w'.heap.size = w.heap.size := by
  by_cases h1 : m ≤ 1
  · have d1 : decide (m ≤ 1) = true := decide_eq_true h1
    go_enter Tryz.func34, Tryz.ntmps34
    go_wp2_with (fail)
    go_ret
    exact ⟨0, rfl, by decide, .inr rfl, h.mono (by omega), ⟨rfl, rfl, rfl, Nat.le_refl _, fun _ _ _ => rfl⟩, rfl⟩
  · obtain ⟨p, s, q1, q2, q3⟩ := h.ex
    refine (spec_pick m g A c p s bs w q1 h.bytes (by omega) q2 ⟨by omega, hm⟩).mono ?_
    rintro e w2 ⟨x, s', n, rfl, hx, rfl⟩
    obtain ⟨k1, k2, k3⟩ := h.next q1 (n := n) q3 hx.2.1
    exact ⟨_, rfl, Int.emod_nonneg x (by omega), .inl (Int.emod_lt_of_pos x (by omega)), k1, k2, k3⟩

theorem sv_one (m : Int) (hm : 2 ≤ m ∧ m ≤ 200) {w : World} {g : Nat} {A : Option Addr} {c : Nat} {bs : List Int} {b : Nat} (h : Sv w g A c bs b) (hb : b ≤ 1152921504606846000) :
    Calls Tryz.prog 16 #[.pointer (some ⟨g, 0, none⟩), .int .i64 m] w fun e w' => ∃ x : Bool, e = .returned (.bool x) ∧ Sv w' g A c bs (b + 1) ∧ w.grownBy w' (some g) ∧ w'.heap.size = w.heap.size := by
  obtain ⟨p, s, q1, q2, q3⟩ := h.ex
  refine (spec_one m g A c p s bs w q1 h.bytes (by omega) q2 hm).mono ?_
  rintro e w2 ⟨y, x, s', n, rfl, hx, rfl⟩
  obtain ⟨k1, k2, k3⟩ := h.next q1 (n := n) q3 hx.2.1
  exact ⟨_, rfl, k1, k2, k3⟩

theorem sv_among (l : List Int) (L : Option Addr) (d : Nat) (hl : 2 ≤ l.length ∧ l.length ≤ 200) {w : World} {g : Nat} {A : Option Addr} {c : Nat} {bs : List Int} {b : Nat} (h : Sv w g A c bs b) (hb : b ≤ 1152921504606846000) (hL : Ints w L l) (hLg : ∀ a, L = some a → a.block ≠ g) :
    Calls Tryz.prog 35 #[.pointer (some ⟨g, 0, none⟩), .slice L l.length d] w fun e w' => ∃ y : Int, e = .returned (.int .i64 y) ∧ y ∈ l ∧ Sv w' g A c bs (b + 1) ∧ w.grownBy w' (some g) ∧ w'.heap.size = w.heap.size := by
  obtain ⟨p, s, q1, q2, q3⟩ := h.ex
  refine (spec_among l L d g A c p s bs w q1 h.bytes (by omega) q2 hL hLg hl).mono ?_
  rintro e w2 ⟨x, y, s', n, rfl, hy, hx, rfl⟩
  obtain ⟨k1, k2, k3⟩ := h.next q1 (n := n) q3 hx.2.1
  exact ⟨_, rfl, List.mem_of_getElem? hy, k1, k2, k3⟩

theorem sv_draw14 (m : Nat) (hm : m ≤ 8) {w : World} {g : Nat} {A : Option Addr} {c : Nat} {bs : List Int} {b : Nat} (h : Sv w g A c bs b) (hb : b ≤ 576460752303423488) :
    Calls Tryz.prog 36 #[.pointer (some ⟨g, 0, none⟩), .int .i64 (m : Int)] w fun e w' => ∃ (A' : Option Addr) (c' : Nat) (out : List Int), e = .returned (.slice A' out.length c') ∧ OwnI w' w.heap.size w'.heap.size A' c' out ∧ stitchesB out = true ∧ takenS out = m ∧ Sv w' g A c bs (b + 4503599627370496) ∧ w.grownBy w' (some g) := by
  obtain ⟨p, s, q1, q2, q3⟩ := h.ex
  refine (spec_l14Draw m g A c p s bs w q1 h.bytes h.far h.len (by omega) q2 hm).mono ?_
  rintro e w2 ⟨A', c', out, p', s', rfl, ho, hs, ht, q4, q5, q6, q7, hg⟩
  exact ⟨A', c', out, rfl, ho, hs, ht, ⟨⟨p', s', q4, q5, by omega⟩, h.bytes.grown hg h.far, h.far, h.len⟩, hg⟩

theorem spec_l00From (A : Option Addr) (c : Nat) (bs : List Int) (w : World) (hby : Bytes w A bs) (hl : bs.length ≤ 1099511627776) :
    Calls Tryz.prog 14 #[.slice A bs.length c] w fun e w' => e = .returned (.pointer (some ⟨w.heap.size, 0, none⟩)) ∧ Sv w' w.heap.size A c bs 0 ∧ Below w.heap.size w w' ∧ w'.heap.size = w.heap.size + 1 := by
  have kb := Blk.new w 64 #[.slice A bs.length c, .int .i64 0, .int .u64 0]
  go_enter Tryz.func14, Tryz.ntmps14
  go_wp2_with (fail)
  go_ret
  have hb : Below w.heap.size w (w.alloc (.cells #[.slice A bs.length c, .int .i64 0, .int .u64 0] 64)) := by (repeat (first | exact Below.refl _ _ | assumption | apply Below.drew | apply below_drewN | (refine Below.alloc ?_ (by first | omega | (simp; done) | (simp; omega)) _) | (refine Below.setCell ?_ (by first | omega | (simp; done) | (simp; omega)) _)))
  refine ⟨rfl, ⟨⟨0, 0, kb, by decide, Nat.le_refl _⟩, hby.of_cells (cells_below hb), fun h0 a ha => ?_, hl⟩, hb, by simp⟩
  obtain ⟨b, off, x, hA, _, hc, _⟩ := hby 0 h0
  have h2 := cell_lt hc
  rw [ha] at hA
  injection hA with hA
  subst hA
  exact h2

end Go.Proofs.YthjamohaeahipaaGreat

/- Cables of permutations, plain: the rows of letters that do not touch, their letters, the chart of a braid is a valid cable. -/
namespace Go.Proofs.YthjamohaeahipaaGreat
open Go.RowKit

/-- Letters of which no two touch. -/
def Apart2 (xs : List Int) : Prop := xs.Pairwise fun a b => a.natAbs + 2 ≤ b.natAbs ∨ b.natAbs + 2 ≤ a.natAbs
def Letters (n : Nat) (xs : List Int) : Prop := ∀ x ∈ xs, 1 ≤ x.natAbs ∧ x.natAbs < n
def rowL (n : Nat) (xs : List Int) (c : Nat) : List Int := lettersFrom (rowFrom n xs c) c
theorem touchB_iff (a b : Int) : touchB a b = false ↔ a.natAbs + 2 ≤ b.natAbs ∨ b.natAbs + 2 ≤ a.natAbs := by
  have ea : absI a = (a.natAbs : Int) := by unfold absI; split <;> omega
  have eb : absI b = (b.natAbs : Int) := by unfold absI; split <;> omega
  unfold touchB
  rw [ea, eb, ← Bool.not_eq_true, inR_iff]
  omega
theorem apart_snoc {xs : List Int} {x : Int} (h : Apart2 xs) (ht : touchAny xs x = false) : Apart2 (xs ++ [x]) := by
  unfold Apart2
  rw [List.pairwise_append]
  refine ⟨h, by simp, fun a ha b hb => ?_⟩
  rw [List.mem_singleton.1 hb]
  unfold touchAny at ht
  rw [List.any_eq_false] at ht
  exact (touchB_iff a x).1 (by simpa using ht a ha)
theorem packFrom_apart (s : List (List Int) × List Int) (xs : List Int) (h1 : ∀ g ∈ s.1, Apart2 g) (h2 : Apart2 s.2) : (∀ g ∈ (packFrom s xs).1, Apart2 g) ∧ Apart2 (packFrom s xs).2 := by
  induction xs generalizing s with
  | nil => exact ⟨h1, h2⟩
  | cons x xs ih =>
    have e : packFrom s (x :: xs) = packFrom (packStep s x) xs := rfl
    rw [e]
    unfold packStep
    cases ht : touchAny s.2 x
    · rw [if_neg (by decide)]
      exact ih _ h1 (apart_snoc h2 ht)
    · rw [if_pos rfl]
      refine ih _ (fun g hg => ?_) (by simp [Apart2])
      rcases List.mem_append.1 hg with hg | hg
      · exact h1 g hg
      · rw [List.mem_singleton.1 hg]; exact h2
theorem packFrom_flat (s : List (List Int) × List Int) (xs : List Int) : (packFrom s xs).1.flatten ++ (packFrom s xs).2 = s.1.flatten ++ s.2 ++ xs := by
  induction xs generalizing s with
  | nil => simp [packFrom]
  | cons x xs ih =>
    have e : packFrom s (x :: xs) = packFrom (packStep s x) xs := rfl
    rw [e, ih]
    unfold packStep
    split <;> simp
theorem groups_facts (xs : List Int) : (∀ g ∈ groupsOf xs, Apart2 g) ∧ (groupsOf xs).flatten = xs ∧ 1 ≤ (groupsOf xs).length := by
  unfold groupsOf
  cases xs with
  | nil => simp [pack, Apart2]
  | cons x xs =>
    have h1 := packFrom_apart ([], [x]) xs (by simp) (by simp [Apart2])
    have h2 := packFrom_flat ([], [x]) xs
    rw [if_neg (by simp [pack]), pack]
    refine ⟨fun g hg => ?_, by simpa using h2, by simp⟩
    rcases List.mem_append.1 hg with hg | hg
    · exact h1.1 g hg
    · rw [List.mem_singleton.1 hg]; exact h1.2
theorem apart_mem {xs : List Int} (h : Apart2 xs) {a b : Int} (ha : a ∈ xs) (hb : b ∈ xs) : a = b ∨ a.natAbs + 2 ≤ b.natAbs ∨ b.natAbs + 2 ≤ a.natAbs := by
  induction xs with
  | nil => cases ha
  | cons x xs ih =>
    unfold Apart2 at h
    rw [List.pairwise_cons] at h
    rcases List.mem_cons.1 ha with ea | ha'
    · rcases List.mem_cons.1 hb with eb | hb'
      · exact .inl (ea.trans eb.symm)
      · rw [ea]; exact .inr (h.1 b hb')
    · rcases List.mem_cons.1 hb with eb | hb'
      · rw [eb]; exact .inr ((h.1 a ha').symm)
      · exact ih h.2 ha' hb'
/-- What a row of letters is, from a column on. -/
theorem rowL_cases {n c : Nat} {xs : List Int} (hL : Letters n xs) (h : c < n) : (∃ y, y ∈ xs ∧ y.natAbs = c + 1 ∧ rowL n xs c = y :: rowL n xs (c + 2) ∧ c + 2 ≤ n) ∨ ((∀ y ∈ xs, y.natAbs ≠ c + 1) ∧ rowL n xs c = rowL n xs (c + 1)) := by
  unfold rowL
  by_cases h1 : (c : Int) + 1 ∈ xs
  · refine .inl ⟨(c : Int) + 1, h1, by omega, ?_, by have := hL _ h1; omega⟩
    rw [rowFrom_8 h h1, lettersFrom]
    rfl
  · by_cases h2 : -(c : Int) - 1 ∈ xs
    · refine .inl ⟨-(c : Int) - 1, h2, by omega, ?_, by have := hL _ h2; omega⟩
      rw [rowFrom_9 h h1 h2, lettersFrom]
      rfl
    · refine .inr ⟨fun y hy e => ?_, ?_⟩
      · rcases (by omega : y = (c : Int) + 1 ∨ y = -(c : Int) - 1) with e | e
        · exact h1 (e ▸ hy)
        · exact h2 (e ▸ hy)
      · rw [rowFrom_1 h h1 h2, lettersFrom]
        rfl
theorem rowL_end {n c : Nat} (xs : List Int) (h : n ≤ c) : rowL n xs c = [] := by rw [rowL, rowFrom_end xs h]; rfl
theorem rowL_facts {n : Nat} {xs : List Int} (hL : Letters n xs) (hA : Apart2 xs) (m : Nat) : ∀ c, n - c ≤ m → (∀ y, y ∈ rowL n xs c ↔ y ∈ xs ∧ c + 1 ≤ y.natAbs) ∧ Apart2 (rowL n xs c) := by
  induction m with
  | zero =>
    intro c hc
    rw [rowL_end xs (by omega)]
    refine ⟨fun y => ⟨fun h => by simp at h, fun ⟨h1, h2⟩ => ?_⟩, by simp [Apart2]⟩
    have := hL y h1
    omega
  | succ m ih =>
    intro c hc
    by_cases hcn : c < n
    · rcases rowL_cases hL hcn with ⟨y, hy, hya, e, _⟩ | ⟨hno, e⟩
      · obtain ⟨i1, i2⟩ := ih (c + 2) (by omega)
        rw [e]
        refine ⟨fun z => ?_, ?_⟩
        · rw [List.mem_cons, i1]
          constructor
          · rintro (rfl | ⟨h1, h2⟩)
            · exact ⟨hy, by omega⟩
            · exact ⟨h1, by omega⟩
          · rintro ⟨h1, h2⟩
            rcases apart_mem hA h1 hy with h | h | h
            · exact .inl h
            · omega
            · exact .inr ⟨h1, by omega⟩
        · unfold Apart2
          rw [List.pairwise_cons]
          exact ⟨fun z hz => .inl (by have := ((i1 z).1 hz).2; omega), i2⟩
      · obtain ⟨i1, i2⟩ := ih (c + 1) (by omega)
        rw [e]
        refine ⟨fun z => ?_, i2⟩
        rw [i1]
        constructor
        · rintro ⟨h1, h2⟩
          exact ⟨h1, by omega⟩
        · rintro ⟨h1, h2⟩
          have := hno z h1
          exact ⟨h1, by omega⟩
    · rw [rowL_end xs (by omega)]
      refine ⟨fun y => ⟨fun h => by simp at h, fun ⟨h1, h2⟩ => ?_⟩, by simp [Apart2]⟩
      have := hL y h1
      omega
theorem cnt_step {xs : List Int} (hA : Apart2 xs) (c : Nat) : xs.countP (fun y => decide (c + 1 ≤ y.natAbs)) = (if ∃ y ∈ xs, y.natAbs = c + 1 then 1 else 0) + xs.countP (fun y => decide (c + 2 ≤ y.natAbs)) := by
  induction xs with
  | nil => simp
  | cons x xs ih =>
    unfold Apart2 at hA
    rw [List.pairwise_cons] at hA
    have i := ih hA.2
    rw [List.countP_cons, List.countP_cons, i]
    by_cases hx : x.natAbs = c + 1
    · have hno : ¬ ∃ y ∈ xs, y.natAbs = c + 1 := fun ⟨y, hy, e⟩ => by have := hA.1 y hy; omega
      rw [if_neg hno, if_pos (show decide (c + 1 ≤ x.natAbs) = true by simp; omega), if_neg (show ¬ decide (c + 2 ≤ x.natAbs) = true by simp; omega), if_pos ⟨x, by simp, hx⟩]
      clear i hno ih hA
      omega
    · have hiff : (∃ y ∈ x :: xs, y.natAbs = c + 1) ↔ ∃ y ∈ xs, y.natAbs = c + 1 :=
        ⟨fun ⟨y, hy, e⟩ => by
          rcases List.mem_cons.1 hy with rfl | hy
          · exact absurd e hx
          · exact ⟨y, hy, e⟩, fun ⟨y, hy, e⟩ => ⟨y, by simp [hy], e⟩⟩
      have hde : decide (c + 1 ≤ x.natAbs) = decide (c + 2 ≤ x.natAbs) := decide_eq_decide.2 (by clear i hiff ih hA; omega)
      rw [hde]
      by_cases he : ∃ y ∈ xs, y.natAbs = c + 1
      · rw [if_pos he, if_pos (hiff.2 he)]
        clear i he hiff ih hA
        omega
      · rw [if_neg he, if_neg (fun h => he (hiff.1 h))]
        clear i he hiff ih hA
        omega
theorem rowL_length {n : Nat} {xs : List Int} (hL : Letters n xs) (hA : Apart2 xs) (m : Nat) : ∀ c, n - c ≤ m → (rowL n xs c).length = xs.countP fun y => decide (c + 1 ≤ y.natAbs) := by
  have h0 : ∀ c, n ≤ c → xs.countP (fun y => decide (c + 1 ≤ y.natAbs)) = 0 := fun c hc => by
    rw [List.countP_eq_zero]
    intro y hy
    have := hL y hy
    simp
    omega
  induction m with
  | zero =>
    intro c hc
    rw [rowL_end xs (by omega), h0 c (by omega)]
    rfl
  | succ m ih =>
    intro c hc
    by_cases hcn : c < n
    · rw [cnt_step hA c]
      rcases rowL_cases hL hcn with ⟨y, hy, hya, e, _⟩ | ⟨hno, e⟩
      · rw [e, List.length_cons, ih (c + 2) (by omega), if_pos ⟨y, hy, hya⟩]
        have h2 := cnt_step hA (c + 1)
        rw [if_neg (fun ⟨z, hz, e⟩ => by have := apart_mem hA hz hy; rcases this with rfl | h | h <;> omega)] at h2
        have h3 : xs.countP (fun y => decide (c + 2 ≤ y.natAbs)) = 0 + xs.countP (fun y => decide (c + 2 + 1 ≤ y.natAbs)) := h2
        rw [h3, Nat.zero_add, Nat.add_comm]
      · rw [e, ih (c + 1) (by omega), if_neg (fun ⟨z, hz, e⟩ => hno z hz e), Nat.zero_add]
    · rw [rowL_end xs (by omega), h0 c (by omega)]
      rfl
theorem rowL_whole {n : Nat} {xs : List Int} (hL : Letters n xs) (hA : Apart2 xs) : (∀ y, y ∈ rowL n xs 0 ↔ y ∈ xs) ∧ Apart2 (rowL n xs 0) ∧ (rowL n xs 0).length = xs.length := by
  obtain ⟨h1, h2⟩ := rowL_facts hL hA n 0 (by omega)
  have h3 := rowL_length hL hA n 0 (by omega)
  refine ⟨fun y => ?_, h2, ?_⟩
  · rw [h1]
    exact ⟨fun h => h.1, fun h => ⟨h, by have := hL y h; omega⟩⟩
  · rw [h3, List.countP_eq_length]
    intro y hy
    have := hL y hy
    simp
    omega
/-- Such a row keeps all columns. -/
def OnlyPlain (ks : List Int) : Prop := ∀ k ∈ ks, k = 1 ∨ k = 8 ∨ k = 9
theorem rowFrom_plain {n : Nat} {xs : List Int} (hL : Letters n xs) (m : Nat) : ∀ c, n - c ≤ m → c ≤ n → OnlyPlain (rowFrom n xs c) ∧ takenS (rowFrom n xs c) = n - c := by
  induction m with
  | zero =>
    intro c hc hn
    rw [rowFrom_end xs (by omega)]
    exact ⟨fun k hk => by simp at hk, by simp [takenS]; omega⟩
  | succ m ih =>
    intro c hc hn
    by_cases hcn : c < n
    · by_cases h1 : (c : Int) + 1 ∈ xs
      · have h2 := hL _ h1
        obtain ⟨i1, i2⟩ := ih (c + 2) (by omega) (by omega)
        rw [rowFrom_8 hcn h1]
        refine ⟨fun k hk => ?_, ?_⟩
        · rcases List.mem_cons.1 hk with rfl | hk
          · simp
          · exact i1 k hk
        · rw [takenS, i2, show takenN 8 = 2 from rfl]; omega
      · by_cases h2 : -(c : Int) - 1 ∈ xs
        · have h3 := hL _ h2
          obtain ⟨i1, i2⟩ := ih (c + 2) (by omega) (by omega)
          rw [rowFrom_9 hcn h1 h2]
          refine ⟨fun k hk => ?_, ?_⟩
          · rcases List.mem_cons.1 hk with rfl | hk
            · simp
            · exact i1 k hk
          · rw [takenS, i2, show takenN 9 = 2 from rfl]; omega
        · obtain ⟨i1, i2⟩ := ih (c + 1) (by omega) (by omega)
          rw [rowFrom_1 hcn h1 h2]
          refine ⟨fun k hk => ?_, ?_⟩
          · rcases List.mem_cons.1 hk with rfl | hk
            · simp
            · exact i1 k hk
          · rw [takenS, i2, show takenN 1 = 1 from rfl]; omega
    · rw [rowFrom_end xs (by omega)]
      exact ⟨fun k hk => by simp at hk, by simp [takenS]; omega⟩
theorem plain_after {ks : List Int} (h : OnlyPlain ks) (m : Nat) (ht : takenS ks = m) : afterP ks (List.replicate m 1) = List.replicate m 1 ∧ okAfter ks (List.replicate m 1) = true ∧ changesP ks (List.replicate m 1) = List.replicate ks.length 0 := by
  induction ks generalizing m with
  | nil =>
    rw [takenS] at ht
    subst ht
    exact ⟨rfl, rfl, rfl⟩
  | cons k ks ih =>
    rw [takenS] at ht
    obtain ⟨q, hq⟩ : ∃ q, m = takenN k + q := ⟨m - takenN k, by omega⟩
    subst hq
    obtain ⟨i1, i2, i3⟩ := ih (fun x hx => h x (by simp [hx])) q (by omega)
    have hk : takenN k = madeN k ∧ stepMade k (List.replicate (takenN k + q) 1) = List.replicate (takenN k) 1 ∧ stepOk k (List.replicate (takenN k + q) 1) = true := by
      rcases h k (by simp) with rfl | rfl | rfl <;> exact ⟨rfl, rfl, rfl⟩
    have ed : (List.replicate (takenN k + q) (1 : Int)).drop (takenN k) = List.replicate q 1 := by rw [List.drop_replicate]; congr 1; omega
    have et : (List.replicate (takenN k + q) (1 : Int)).take (takenN k) = List.replicate (takenN k) 1 := by rw [List.take_replicate]; congr 1; omega
    refine ⟨?_, ?_, ?_⟩
    · rw [afterP, hk.2.1, ed, i1, List.replicate_append_replicate]
    · rw [okAfter, hk.2.2, ed, i2]; rfl
    · rw [changesP, changeI, hk.2.1, ed, et, i3, Int.sub_self]
      rfl
theorem limB_zeros {s : Int} (h : s ≤ 12) (m : Nat) : limB s (List.replicate m 0) = true := by
  induction m with
  | zero => rfl
  | succ m ih => rw [List.replicate_succ, limB, Int.add_zero, ih, decide_eq_true h]; rfl
theorem sumI_ones (m : Nat) : sumI (List.replicate m 1) = m := by
  induction m with
  | zero => rfl
  | succ m ih => rw [List.replicate_succ, sumI, ih]; omega
theorem plain_stitches {ks : List Int} (h : OnlyPlain ks) (hl : ks.length ≤ 16) : stitchesB ks = true := by
  unfold stitchesB
  rw [Bool.and_eq_true, List.all_eq_true, decide_eq_true_eq]
  refine ⟨fun k hk => ?_, hl⟩
  rcases h k hk with rfl | rfl | rfl <;> decide
theorem plain_row {ks : List Int} (h : OnlyPlain ks) {m : Nat} (ht : takenS ks = m) (hm : m ≤ 8) (hl : ks.length ≤ 16) {d car : Int} (hd : d = 1 ∨ d = -1) (hc : carrierB car = true) : rowOkB (List.replicate m 1) ⟨d, car, ks⟩ = true ∧ (stacksAfterP (List.replicate m 1) ks).1 = List.replicate m 1 := by
  have hs := plain_stitches h hl
  obtain ⟨a1, a2, a3⟩ := plain_after h m ht
  have hst : stacksB (List.replicate m 1) = true := by
    unfold stacksB
    rw [Bool.and_eq_true, List.all_eq_true, decide_eq_true_eq, List.length_replicate]
    refine ⟨fun x hx => ?_, hm⟩
    rw [(List.mem_replicate.1 hx).2]
    decide
  have hsa : stacksAfterP (List.replicate m 1) ks = (List.replicate m 1, 0) := by
    unfold stacksAfterP
    rw [hst, hs, if_pos (by rfl), if_pos (by rw [List.length_replicate]; exact ht), a1, a2, if_pos (by rw [List.length_replicate]; simpa using hm)]
  refine ⟨?_, by rw [hsa]⟩
  unfold rowOkB rowB dirB stepCode keepB
  rw [hsa, hc, a3, sumI_ones, ordL]
  simp only [Bool.and_eq_true, Bool.or_eq_true, beq_iff_eq, decide_eq_true_eq]
  refine ⟨⟨⟨⟨hd, trivial⟩, hs⟩, trivial⟩, ?_⟩
  split
  · rw [List.reverse_replicate]; exact limB_zeros (by omega) _
  · exact limB_zeros (by omega) _
theorem plain_rows {n : Nat} {gs : List (List Int)} (hg : ∀ g ∈ gs, Letters n g) (hn : n ≤ 8) {car : Int} (hc : carrierB car = true) (d : Int) (hd : d = 1 ∨ d = -1) : rowsOkB (List.replicate n 1) (rowsFrom n car gs d) = true := by
  induction gs generalizing d with
  | nil => rfl
  | cons g gs ih =>
    have hL := hg g (by simp)
    obtain ⟨p1, p2⟩ := rowFrom_plain hL n 0 (by omega) (by omega)
    have hl := rowFrom_length n g n 0 (by omega)
    obtain ⟨q1, q2⟩ := plain_row p1 (m := n) (by omega) hn (by omega) hd hc
    rw [rowsFrom, rowsOkB, q1, q2, ih (fun g' hg' => hg g' (by simp [hg'])) (-d) (by omega)]
    rfl
theorem plainB_rows {n : Nat} {gs : List (List Int)} (hg : ∀ g ∈ gs, Letters n g) (car d : Int) : plainB (rowsFrom n car gs d) = true := by
  induction gs generalizing d with
  | nil => rfl
  | cons g gs ih =>
    obtain ⟨p1, _⟩ := rowFrom_plain (hg g (by simp)) n 0 (by omega) (by omega)
    rw [rowsFrom, plainB, List.all_cons, ← plainB, ih (fun g' hg' => hg g' (by simp [hg'])) (-d), Bool.and_true]
    unfold plainRow
    rw [List.all_eq_true]
    intro k hk
    rcases p1 k hk with rfl | rfl | rfl <;> decide
theorem rowsWord_from (n : Nat) (car : Int) (gs : List (List Int)) (d : Int) : rowsWord (rowsFrom n car gs d) = gs.flatMap fun g => rowL n g 0 := by
  induction gs generalizing d with
  | nil => rfl
  | cons g gs ih =>
    have e := ih (-d)
    unfold rowsWord at e ⊢
    rw [rowsFrom, List.flatMap_cons, e, List.flatMap_cons]
    rfl
theorem flatRow_length {n : Nat} {gs : List (List Int)} (hg : ∀ g ∈ gs, Letters n g) (hA : ∀ g ∈ gs, Apart2 g) : (gs.flatMap fun g => rowL n g 0).length = gs.flatten.length := by
  induction gs with
  | nil => rfl
  | cons g gs ih =>
    rw [List.flatMap_cons, List.length_append, List.flatten_cons, List.length_append, ih (fun g' h => hg g' (by simp [h])) (fun g' h => hA g' (by simp [h])), (rowL_whole (hg g (by simp)) (hA g (by simp))).2.2]
theorem groups_letters {n : Nat} {xs : List Int} (h : Letters n xs) : ∀ g ∈ groupsOf xs, Letters n g := by
  have h2 := (groups_facts xs).2.1
  intro g hg x hx
  refine h x ?_
  rw [← h2]
  exact List.mem_flatten.2 ⟨g, hg, hx⟩
/-- The chart of a braid's letters is a valid cable, whose letters are the letters of the groups, from left to right. -/
theorem cable_of {n : Nat} {xs : List Int} {car : Int} (hL : Letters n xs) (hl : xs.length ≤ 40) (hp : (pack xs).length ≤ 8) (hn : 1 ≤ n ∧ n ≤ 8) (hc : carrierB car = true) :
    chartB n (rowsFrom n car (groupsOf xs) (-1)) = true ∧ plainB (rowsFrom n car (groupsOf xs) (-1)) = true ∧ cbCode n (rowsFrom n car (groupsOf xs) (-1)) = 0 ∧ cbX n (rowsFrom n car (groupsOf xs) (-1)) = ⟨n, (groupsOf xs).flatMap fun g => rowL n g 0⟩ ∧ ((groupsOf xs).flatMap fun g => rowL n g 0).length = xs.length := by
  obtain ⟨g1, g2, g3⟩ := groups_facts xs
  have hgl := groups_letters hL
  have hlen : (groupsOf xs).length ≤ 8 := by
    unfold groupsOf
    split
    · simp
    · exact hp
  have hc1 : chartB n (rowsFrom n car (groupsOf xs) (-1)) = true := by
    unfold chartB
    rw [rowsFrom_length, Int.toNat_natCast, plain_rows hgl hn.2 hc (-1) (.inr rfl)]
    simp only [Bool.and_true, Bool.and_eq_true]
    exact ⟨inR_iff.2 (by omega), inR_iff.2 (by omega)⟩
  have hc2 := plainB_rows hgl car (-1)
  have hw := rowsWord_from n car (groupsOf xs) (-1)
  have hwl := flatRow_length hgl g1
  rw [g2] at hwl
  have hc3 : cbCode n (rowsFrom n car (groupsOf xs) (-1)) = 0 := by
    unfold cbCode
    rw [if_pos hc1, if_pos hc2, hw, if_pos (by omega)]
  exact ⟨hc1, hc2, hc3, by rw [cbX, if_pos hc3, hw], hwl⟩

end Go.Proofs.YthjamohaeahipaaGreat
