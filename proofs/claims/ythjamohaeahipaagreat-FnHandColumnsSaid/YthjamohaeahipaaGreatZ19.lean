/- Steps of the proof, joined from several texts: HV HI HK HN. -/
import Derived.Test.YthjamohaeahipaaGreatZ16
import Derived.Deep.CutBlock
import Derived.Test.YthjamohaeahipaaGreatZ13
import Derived.Test.YthjamohaeahipaaGreatZ5

/- Knitting by hand, the program's side: make. -/
namespace Go.Proofs.YthjamohaeahipaaGreat
open Go Go.RowKit

section
variable {z : Option (Nat × Array Value)} {lo g : Nat} {d car : Int} {vk : Value} {w w' w1 : World} {s : HS}
/-- Where a stitch's columns stand. -/
theorem IHd.row (h : IHd z lo g d car vk w s) {i : Nat} {c : List Int} (hx : s.cells[i]? = some c) :
    ∃ gC cC A' c' curC, w.cell? ⟨g, 3, none⟩ = some (.slice (some ⟨gC, 0, none⟩) s.cells.length cC) ∧ Blk w gC 24 curC ∧ curC[i]? = some (.slice A' c.length c') ∧ Ints w A' c ∧ s.cells.length ≤ cC ∧ c.length ≤ c' := by
  obtain ⟨⟨AE, cE, AC, cC, hb, ho, hc⟩, hlo⟩ := h
  obtain ⟨cs, hc1, hc2, hcz⟩ := hc.ex
  obtain ⟨A', c', hcs, hrow⟩ := hc2.2.1 i c hx
  have hil : i < s.cells.length := (List.getElem?_eq_some_iff.1 hx).1
  obtain ⟨gC, rfl, hgC1, hgC2, hcell, _⟩ := hc1.cell (j := i) (by have := hc2.1; omega)
  obtain ⟨curC, hblkC, _, _⟩ := hc1.blkEx
  have e := hblkC.cell i
  rw [hcell, List.getElem?_eq_getElem (by have := hc2.1; omega)] at *
  rw [hcs] at e
  exact ⟨gC, cC, A', c', curC, hb.c5.2.2.2.1, hblkC, e.symm, hrow.ints, hc.two.cap, hrow.cap⟩
/-- A store into one size of a stitch whose place is known. -/
theorem IHd.at_ (h : IHd z lo g d car vk w s) {i k n : Nat} {c : List Int} {gC cC gR c' : Nat} {curC : Array Value} (q3 : w.cell? ⟨g, 3, none⟩ = some (.slice (some ⟨gC, 0, none⟩) n cC)) (hbC : Blk w gC 24 curC) (hcu : curC[i]? = some (.slice (some ⟨gR, 0, none⟩) c.length c')) (hx : s.cells[i]? = some c) {x : Int} (hk : c[k]? = some x) :
    w.cell? ⟨gR, k, none⟩ = some (.int .i64 x) ∧ w.frozen? ⟨gR, k, none⟩ = false ∧ Ints w (some ⟨gR, 0, none⟩) c ∧ (∃ curR, Blk w gR 2 curR) ∧
      ∀ v : Int, IHd z lo g d car vk (w.setCell ⟨gR, k, none⟩ (.int .i64 v)) ⟨s.evs, s.cells.set i (c.set k v)⟩ ∧ Below lo w (w.setCell ⟨gR, k, none⟩ (.int .i64 v)) ∧
        (w.setCell ⟨gR, k, none⟩ (.int .i64 v)).cell? ⟨g, 3, none⟩ = some (.slice (some ⟨gC, 0, none⟩) n cC) ∧ Blk (w.setCell ⟨gR, k, none⟩ (.int .i64 v)) gC 24 curC := by
  obtain ⟨gC1, cC1, gR1, c1, curC1, curR, e1, e2, e3, e4, e5, e6, e7, e8, e9, e10⟩ := h.setAt hx hk
  rw [q3] at e1
  injection e1 with e1
  injection e1 with e1 en ec
  injection e1 with e1
  injection e1 with e1
  subst e1
  rw [hbC.cell i, hcu] at e2
  injection e2 with e2
  injection e2 with e2 _ e2c
  injection e2 with e2
  injection e2 with e2
  subst e2
  obtain ⟨⟨AE, cE, AC, cC2, hb, _⟩, _⟩ := h
  refine ⟨e3, e4, e5, ⟨curR, e8⟩, fun v => ⟨(e10 v).1, (e10 v).2, ?_, hbC.far (p := ⟨gR, k, none⟩) (hbC.ne e8 (by decide)) _⟩⟩
  have h1 := (hb.far (p := ⟨gR, k, none⟩) (hb.ne e8 (by decide)) (.int .i64 v)).c5.2.2.2.1
  rw [h1, ← hb.c5.2.2.2.1]
  exact q3
end
theorem knitStep_take {d car bed : Int} {i t : Nat} {s : HS} {c : List Int} (hx : s.cells[i]? = some c) : (knitStep d car bed i t s).cells.take i = s.cells.take i := by
  unfold knitStep
  rw [hx]
  show (s.cells.set i _).take i = _
  rw [List.take_set_of_le (Nat.le_refl _)]

set_option maxHeartbeats 8000000 in
set_option maxRecDepth 10000 in
theorem impl_hmake_p {z : Option (Nat × Array Value)} {lo g m : Nat} {car : Int} {AK : Option Addr} {ck : Nat} {ks : List Int} {s : HS} {S : Int} {w : World} (h : IHd z lo g 1 car (.slice AK ks.length ck) w s) (hG : GoodC m s.cells S) (hS : S ≤ 100) (hm : m ≤ 16) {i : Nat} {c : List Int} (hx : s.cells[i]? = some c) {k : Int} (hks : Ints w AK ks) (hk : ks[i]? = some k) (hst : isStitchB k = true) (h1 : k ≠ 3 → 1 ≤ c.length) (hl : s.evs.length ≤ 90000) :
    Calls Tryz.prog 50 #[.pointer (some ⟨g, 0, none⟩), .int .i64 (i : Int)] w fun e w' =>
      e = .returned (.tuple #[]) ∧ IHd z lo g 1 car (.slice AK ks.length ck) w' (makeTo 1 car k i c s) ∧ Below lo w w' := by
  have him := hG.lt hx
  have hil : i < s.cells.length := by rw [hG.len]; exact him
  have hilk : i < ks.length := (List.getElem?_eq_some_iff.1 hk).1
  obtain ⟨b2, off2, k', rfl, hck, hk'⟩ := hks i hilk
  obtain rfl : k = k' := by rw [hk] at hk'; injection hk'
  obtain ⟨gC, cC, A', c', curC, q3, hbC, hcu, hown, hcC, hcc⟩ := h.row hx
  have hci := hbC.cell i
  rw [hcu] at hci
  obtain ⟨AC2, cC2, p0, _, p2, p3, hi2, _⟩ := h.read
  rw [q3] at p3
  injection p3 with p3
  injection p3 with p3 _ p3c
  subst p3 p3c
  obtain ⟨hnn, h4, hle, h0⟩ := hG.at_ hx
  have hT := hG.take i
  have HG := Lib.hid hG
  have HX := Lib.hid hx
  have H0 := Lib.hid h
  have HCU := Lib.hid hcu
  have HBC := Lib.hid hbC
  have HCL := Lib.hid hG.len
  have HI2 := Lib.hid hi2
  obtain ⟨P, hP⟩ : ∃ P, P = tot (s.cells.take i) := ⟨_, rfl⟩
  rw [← hP] at hT hle
  have HP := Lib.hid hP; clear hP
  have HST := Lib.hid hst
  have j1 : (0 : Int) ≤ (i : Int) := by omega
  have j2 : (i : Int) < (s.cells.length : Int) := by omega
  have j3 : (i : Int) < (ks.length : Int) := by omega
  have j4 : (i : Int) ≤ (cC : Int) := by omega
  have j5 : i ≤ cC := by omega
  clear hk hk' hx hG h hks hcu hbC hi2 hst
  go_enter Tryz.func50, Tryz.ntmps50
  go_wp2_with (fail)
  go_loopw [4, 19] (fun pv kv wr => ∃ j : Nat, j ≤ i ∧ kv = .int .i64 j ∧ pv = .int .i64 (tot (s.cells.take j)) ∧ w = wr) (fun _ kv _ => i - (intOf kv).toNat)
  case atStart => exact ⟨0, Nat.zero_le _, rfl, by simp [tot], rfl⟩
  case round =>
    obtain ⟨j, hj, rfl, rfl, rfl⟩ := hrel
    by_cases hji : j < i
    · have hjl : j < s.cells.length := by omega
      obtain ⟨b, off, A2, c2, cj, hA, hxj, hcj, hij, hlj⟩ := HI2.out j hjl
      injection hA with hA
      injection hA with hA1 hA2
      subst hA1 hA2
      rw [Nat.zero_add] at hcj
      obtain ⟨hnj, _, hlej, h0j⟩ := HG.out.at_ hxj
      have hTj := HG.out.take j
      have HS1 := Lib.hid (sum64_sumI hnj (by omega))
      have HSN := Lib.hid (tot_snoc hxj)
      clear hxj hnj
      have dk : decide ((j : Int) < (i : Int)) = true := decide_eq_true (by omega)
      have u1 : (0 : Int) ≤ (j : Int) := by omega
      have u2 : (j : Int) < (i : Int) := by omega
      have hw : IntKind.i64.wrap (tot (s.cells.take j) + sumI cj) = tot (s.cells.take j) + sumI cj := IntWalk.i64_in _ ⟨by omega, by omega⟩
      go_wp2_with (fail)
      refine (impl_sumOf A2 c2 cj w hij hlj).mono ?_; rintro e _ ⟨rfl, rfl⟩
      rw [HS1.out]
      go_wp2_with (fail)
      exact ⟨⟨j + 1, by omega, by go_num, by rw [HSN.out], by first | rfl | trivial⟩, by first | (simp [intOf]; done) | (simp [intOf]; omega)⟩
    · obtain rfl : j = i := by omega
      have dk : decide ((j : Int) < (j : Int)) = false := decide_eq_false (by omega)
      rw [← HP.out]
      have hsw : (k == 7) = true ∨ ((k == 7) = false ∧ (k == 3) = true) ∨ ((k == 7) = false ∧ (k == 3) = false ∧ (k == 6) = true) ∨ ((k == 7) = false ∧ (k == 3) = false ∧ (k == 6) = false ∧ (k == 4) = true) ∨ ((k == 7) = false ∧ (k == 3) = false ∧ (k == 6) = false ∧ (k == 4) = false ∧ (k == 5) = true) ∨ ((k == 7) = false ∧ (k == 3) = false ∧ (k == 6) = false ∧ (k == 4) = false ∧ (k == 5) = false) := by
        rcases stitch_cases HST.out with rfl | rfl | rfl | rfl | rfl | rfl | rfl | rfl | rfl | rfl | rfl <;> decide
      rcases hsw with e7 | ⟨e7, e3⟩ | ⟨e7, e3, e6⟩ | ⟨e7, e3, e6, e4⟩ | ⟨e7, e3, e6, e4, e5⟩ | ⟨e7, e3, e6, e4, e5⟩
      · -- a slip
        have hk7 : k = 7 := by simpa using e7
        have HM : Hid (makeTo 1 car k j c s = s) := Lib.hid (by rw [hk7]; unfold makeTo; simp)
        clear hk7
        go_wp2_with (fail)
        go_end0
        rw [HM.out]
        exact ⟨rfl, H0.out, Below.refl _ _⟩
      · -- over
        have HM : Hid (makeTo 1 car k j c s = ⟨s.evs ++ [evYarn 1 car 3 P 0 1], s.cells.set j [1]⟩) := Lib.hid (by rw [show k = 3 by simpa using e3]; unfold makeTo; simp [HP.out])
        have CA := Lib.hid (impl_hadd H0.out 3 P 0 1 (by omega))
        go_wp2_with (fail)
        refine CA.out.mono ?_; rintro e w2 ⟨rfl, h2, b2', _⟩
        have olit := (OwnC.lit (w := w2) (lo := w2.heap.size) (n := 1) 2 1 #[.int .i64 1] (Nat.le_refl _) (by decide) rfl).mono (Nat.le_refl _) (show w2.heap.size + 1 ≤ (w2.alloc (.cells #[.int .i64 1] 2)).heap.size by simp)
        obtain ⟨gC3, cC3, y1, ⟨v, y2⟩, y3, hs3, hb3⟩ := h2.setRow (i := j) hil ((Below.refl w2.heap.size w2).alloc (Nat.le_refl _) (.cells #[.int .i64 1] 2)) (xs := [1]) olit
        have HS3 := Lib.hid hs3; clear hs3
        have HB3 := Lib.hid hb3; clear hb3
        clear CA olit h2
        dsimp only at y1
        go_wp2_with (fail)
        go_end0
        rw [HM.out]
        exact ⟨rfl, HS3.out, b2'.trans HB3.out⟩
      · -- a tuck
        have hk6 : k = 6 := by simpa using e6
        have hc1 := h1 (by omega)
        obtain ⟨x, hy⟩ : ∃ x, c[0]? = some x := ⟨_, List.getElem?_eq_getElem (by omega)⟩
        have hxb := hnn.at_le hy
        have hget : c.getD 0 0 = x := by rw [List.getD_eq_getElem?_getD, hy]; rfl
        have HM : Hid (makeTo 1 car k j c s = ⟨s.evs ++ [evYarn 1 car 3 (P + x) 0 1], s.cells.set j (c.set 0 (x + 1))⟩) := Lib.hid (by subst hk6; unfold makeTo; rw [if_neg (by decide), if_pos rfl, hget, HP.out])
        obtain ⟨gC1, cC1, gR, c1, curC1, curR, f1, f2, f3, _, _, _, _, f8, _, _⟩ := H0.out.setAt HX.out hy
        rw [q3] at f1
        injection f1 with f1
        injection f1 with f1 _ f1c
        injection f1 with f1
        injection f1 with f1
        subst f1
        clear f1c
        rw [hci] at f2
        injection f2 with f2
        injection f2 with f2 _ f2c
        subst f2 f2c
        have CA := Lib.hid (impl_hadd H0.out 3 (P + x) 0 1 (by omega))
        have wT : IntKind.i64.wrap (P + x) = P + x := IntWalk.i64_in _ ⟨by omega, by omega⟩
        have wX : IntKind.i64.wrap (x + 1) = x + 1 := IntWalk.i64_in _ ⟨by omega, by omega⟩
        have HY := Lib.hid hy
        obtain ⟨n, hn⟩ : ∃ n, n = c.length := ⟨_, rfl⟩
        rw [← hn] at hci
        have HN := Lib.hid hn
        have n0 : (0 : Int) < (n : Int) := by omega
        have n1 : 0 < n := by omega
        clear hn hget hy hk6
        go_wp2_with (fail)
        refine CA.out.mono ?_; rintro e w2 ⟨rfl, h2, b2', hX2⟩
        have y3 := hX2.out.1 _ q3
        have yC := hX2.out.2 _ _ _ (by decide) (by decide) HBC.out
        obtain ⟨g1, g2, _, _, g5⟩ := h2.at_ y3 yC HCU.out HX.out HY.out
        have HSET := Lib.hid (g5 (x + 1)); clear g5 CA h2 hX2 yC
        go_wp2_with (fail)
        go_end0
        rw [HM.out]
        exact ⟨rfl, HSET.out.1, b2'.trans HSET.out.2.1⟩
      · -- two columns into one
        have HM : Hid (makeTo 1 car k j c s = ⟨s.evs ++ [evYarn 1 car 2 P (sumI c) 1], s.cells.set j [1]⟩) := Lib.hid (by rw [show k = 4 by simpa using e4]; unfold makeTo; simp [HP.out])
        have HS := Lib.hid (sum64_sumI hnn (by omega))
        have CA := Lib.hid (impl_hadd H0.out 2 P (sumI c) 1 (by omega))
        go_wp2_with (fail)
        refine (impl_sumOf A' c' c w hown (by omega)).mono ?_; rintro e _ ⟨rfl, rfl⟩
        rw [HS.out]
        go_wp2_with (fail)
        refine CA.out.mono ?_; rintro e w2 ⟨rfl, h2, b2', _⟩
        have olit := (OwnC.lit (w := w2) (lo := w2.heap.size) (n := 1) 2 1 #[.int .i64 1] (Nat.le_refl _) (by decide) rfl).mono (Nat.le_refl _) (show w2.heap.size + 1 ≤ (w2.alloc (.cells #[.int .i64 1] 2)).heap.size by simp)
        obtain ⟨gC3, cC3, y1, ⟨v, y2⟩, y3, hs3, hb3⟩ := h2.setRow (i := j) hil ((Below.refl w2.heap.size w2).alloc (Nat.le_refl _) (.cells #[.int .i64 1] 2)) (xs := [1]) olit
        have HS3 := Lib.hid hs3; clear hs3
        have HB3 := Lib.hid hb3; clear hb3
        clear CA olit h2
        dsimp only at y1
        go_wp2_with (fail)
        go_end0
        rw [HM.out]
        exact ⟨rfl, HS3.out, b2'.trans HB3.out⟩
      · -- two columns into one
        have HM : Hid (makeTo 1 car k j c s = ⟨s.evs ++ [evYarn 1 car 2 P (sumI c) 1], s.cells.set j [1]⟩) := Lib.hid (by rw [show k = 5 by simpa using e5]; unfold makeTo; simp [HP.out])
        have HS := Lib.hid (sum64_sumI hnn (by omega))
        have CA := Lib.hid (impl_hadd H0.out 2 P (sumI c) 1 (by omega))
        go_wp2_with (fail)
        refine (impl_sumOf A' c' c w hown (by omega)).mono ?_; rintro e _ ⟨rfl, rfl⟩
        rw [HS.out]
        go_wp2_with (fail)
        refine CA.out.mono ?_; rintro e w2 ⟨rfl, h2, b2', _⟩
        have olit := (OwnC.lit (w := w2) (lo := w2.heap.size) (n := 1) 2 1 #[.int .i64 1] (Nat.le_refl _) (by decide) rfl).mono (Nat.le_refl _) (show w2.heap.size + 1 ≤ (w2.alloc (.cells #[.int .i64 1] 2)).heap.size by simp)
        obtain ⟨gC3, cC3, y1, ⟨v, y2⟩, y3, hs3, hb3⟩ := h2.setRow (i := j) hil ((Below.refl w2.heap.size w2).alloc (Nat.le_refl _) (.cells #[.int .i64 1] 2)) (xs := [1]) olit
        have HS3 := Lib.hid hs3; clear hs3
        have HB3 := Lib.hid hb3; clear hb3
        clear CA olit h2
        dsimp only at y1
        go_wp2_with (fail)
        go_end0
        rw [HM.out]
        exact ⟨rfl, HS3.out, b2'.trans HB3.out⟩
      · -- the columns are knitted
        have hk3 : k ≠ 3 ∧ k ≠ 6 ∧ k ≠ 7 ∧ ¬ (k = 4 ∨ k = 5) := by
          refine ⟨?_, ?_, ?_, ?_⟩
          · simpa using e3
          · simpa using e6
          · simpa using e7
          · rintro (h | h)
            · simp [h] at e4
            · simp [h] at e5
        have hc1 := h1 hk3.1
        obtain ⟨bed, hbed⟩ : ∃ bed : Int, bed = if k = 2 then 2 else 1 := ⟨_, rfl⟩
        have HM : Hid (makeTo 1 car k j c s = knitN 1 car bed j c.length s) := Lib.hid (by unfold makeTo; rw [if_neg hk3.1, if_neg hk3.2.1, if_neg hk3.2.2.1, if_neg hk3.2.2.2, hbed])
        obtain ⟨x0, hy0⟩ : ∃ x, c[0]? = some x := ⟨_, List.getElem?_eq_getElem (by omega)⟩
        obtain ⟨gC1, cC1, gR, c1, curC1, curR, f1, f2, _, _, _, _, _, _, _, _⟩ := H0.out.setAt HX.out hy0
        rw [q3] at f1
        injection f1 with f1
        injection f1 with f1 _ f1c
        injection f1 with f1
        injection f1 with f1
        subst f1
        clear f1c
        rw [hci] at f2
        injection f2 with f2
        injection f2 with f2 _ f2c
        subst f2 f2c
        have HBED := Lib.hid hbed
        have hq3 := q3
        obtain ⟨n, hn⟩ : ∃ n, n = c.length := ⟨_, rfl⟩
        rw [← hn] at hci h4
        have HN := Lib.hid hn
        obtain ⟨L, hL⟩ : ∃ L, L = s.cells.length := ⟨_, rfl⟩
        have HLL := Lib.hid hL
        have hnc : n ≤ c' := by omega
        have HQ3 := Lib.hid q3
        clear hn hL hy0 hbed hk3 hq3 hown
        go_upto_if 45 with fail
        go_cut [9] (fun bv wx => bv = .int .i64 bed ∧ w = wx)
        case first =>
          by_cases hk2 : k = 2
          · have d2 : (k == 2) = true := by simp [hk2]
            have HB2 : Hid (bed = 2) := Lib.hid (by rw [HBED.out, if_pos hk2])
            clear hk2
            go_wp2_with (fail)
            go_meet
            exact ⟨by rw [HB2.out], rfl⟩
          · have d2 : (k == 2) = false := by simp [hk2]
            have HB2 : Hid (bed = 1) := Lib.hid (by rw [HBED.out, if_neg hk2])
            clear hk2
            go_wp2_with (fail)
            go_meet
            exact ⟨by rw [HB2.out], rfl⟩
        case rest =>
        obtain ⟨rfl, rfl⟩ := hcut
        go_wp2_with (fail)
        clear p0 p2 q3 hci
        go_loopw [48] (fun tv wr => ∃ (t : Nat) (st : HS) (ct : List Int) (S' : Int), t ≤ n ∧ tv = .int .i64 t ∧ Hid (knitN 1 car bed j t s = st) ∧ IHd z lo g 1 car (.slice (some ⟨b2, off2, none⟩) ks.length ck) wr st ∧ Hid (st.cells[j]? = some ct) ∧ Hid (ct.length = n) ∧ Hid (GoodC m st.cells S') ∧ S' ≤ 100 + (t : Int) ∧ st.evs.length ≤ 90000 + t ∧ Hid (st.cells.take j = s.cells.take j) ∧
          wr.cell? ⟨g, 3, none⟩ = some (.slice (some ⟨gC, 0, none⟩) s.cells.length cC) ∧ Blk wr gC 24 curC ∧ Below lo w wr) (fun tv _ => n - (intOf tv).toNat)
        case atStart => exact ⟨0, s, c, S, Nat.zero_le _, rfl, Lib.hid rfl, H0.out, HX, Lib.hid HN.out.symm, HG, by omega, by omega, Lib.hid rfl, HQ3.out, HBC.out, Below.refl _ _⟩
        case round =>
          obtain ⟨t, st, ct, S', ht, rfl, HK, hstt, HXt, HNt, HGt, hS', hev, HTK, hw3, hwC, hbr⟩ := hrel
          by_cases htn : t < n
          · have hgood := knitStep_good (d := 1) (car := car) (bed := bed) HGt.out HXt.out (t := t) (by rw [HNt.out]; exact htn)
            obtain ⟨kk, hkk⟩ : ∃ kk, kk = knitAt 1 n t := ⟨_, rfl⟩
            rw [HNt.out, knitAt_p] at hgood
            have hkn : t < n := htn
            have w2 := knitAt_n hkk htn h4
            try simp only [true_implies, forall_const] at w2
            clear hkk
            obtain ⟨g1, g2, ⟨S2, hS2, g3⟩, g4⟩ := hgood
            have HE := Lib.hid g1; have HX2 := Lib.hid g2; have HG2 := Lib.hid g3; have HL2 := Lib.hid g4
            clear g1 g2 g3 g4
            have hkc : t < ct.length := by rw [HNt.out]; exact hkn
            obtain ⟨x, hy⟩ : ∃ x, ct[t]? = some x := ⟨_, List.getElem?_eq_getElem hkc⟩
            obtain ⟨hnt, _, hlet, h0t⟩ := HGt.out.at_ HXt.out
            have hPk := hnt.part t
            rw [HTK.out, ← HP.out] at hlet
            have hcut : curC[j]? = some (.slice (some ⟨gR, 0, none⟩) ct.length c') := by rw [HNt.out, HN.out]; exact HCU.out
            obtain ⟨r1, r2, r3, ⟨curR2, r4⟩, _⟩ := hstt.at_ hw3 hwC hcut HXt.out hy
            have HCUT := Lib.hid hcut
            have HXY : Hid (ct.getD t 0 = x) := Lib.hid (by rw [List.getD_eq_getElem?_getD, hy]; rfl)
            have HY := Lib.hid hy; clear hy hcut
            have htl : (ct.take t).length = t := by rw [List.length_take]; omega
            have CS : Hid (∀ q, Calls Tryz.prog 20 #[.slice (some ⟨gR, 0, none⟩) t c'] (wr.drewN q) fun e w' => e = .returned (.int .i64 (sumI (ct.take t))) ∧ wr.drewN q = w') :=
              Lib.hid (fun q => by
                have := impl_sumOf (some ⟨gR, 0, none⟩) c' (ct.take t) (wr.drewN q) (r3.take t) (by omega)
                rw [htl, sum64_sumI (hnt.take t) (by omega)] at this
                exact this)
            have CA := Lib.hid (impl_hadd (hstt.drewN 1) 2 (P + sumI (ct.take t)) x bed (by omega))
            obtain ⟨_, _, p0, _, _, _, _, _⟩ := hstt.read
            have wT : IntKind.i64.wrap (P + sumI (ct.take t)) = P + sumI (ct.take t) := IntWalk.i64_in _ ⟨by omega, by omega⟩
            have w1 : IntKind.i64.wrap ((n : Int) - 1) = (n : Int) - 1 := IntWalk.i64_in _ ⟨by omega, by omega⟩
            have dk2 : decide ((t : Int) < (n : Int)) = true := decide_eq_true (by omega)
            have u3 : (0 : Int) ≤ (t : Int) := by omega
            have u4 : (t : Int) ≤ (c' : Int) := by omega
            have u5 : (t : Int) < (n : Int) := by omega
            have u6 : t ≤ c' := by omega
            have R4 := Lib.hid r4
            clear htl hkc hnt hstt r4
            go_upto_region 18 with fail
            (refine wp_region_pops 0 (S := (fun W' => W'.cell? ⟨gR, t, none⟩ = some (.int .i64 x))) (pre := ?_) (T := ?_) (n := ?_) (by kernel_rfl) (by kernel_rfl) ?_ ?_ ?_ ?_ (fun hHeld => ?_); rotate_left 3; (focus (simp only [pops]; rfl)); (focus (simp only [tailOf]; rfl)); (focus rfl); (focus (exact r1)))
            ((refine wpAnyH_take (i := 0) (v := ?_) rfl (by kernel_rfl) (by kernel_rfl) (by kernel_rfl) (fun _ _ _ h => h) (Or.inl ⟨by rfl, ?_⟩) (by assumption) ?_; rotate_left; (focus (intro W hSw; (try dsimp only at hSw); go_simp; try (with_reducible rfl)))); (try simp only [List.getElem_toArray, List.getElem_cons_zero, Act.put, List.setIfInBounds_toArray, List.set_cons_zero, List.set_cons_succ]); (refine wpAnyH_take (i := 1) (v := ?_) rfl (by kernel_rfl) (by kernel_rfl) (by kernel_rfl) (fun _ _ _ h => h) (Or.inl ⟨by rfl, ?_⟩) (by assumption) ?_; rotate_left; (focus (intro W hSw; (try dsimp only at hSw); go_simp; try (with_reducible rfl)))); (try simp only [List.getElem_toArray, List.getElem_cons_zero, List.getElem_cons_succ, Act.put, List.setIfInBounds_toArray, List.set_cons_zero, List.set_cons_succ]); (refine wpAnyH_take (i := 2) (v := ?_) rfl (by kernel_rfl) (by kernel_rfl) (by kernel_rfl) (fun _ _ _ h => h) (Or.inl ⟨by rfl, ?_⟩) (by assumption) ?_; rotate_left; (focus (intro W hSw; (try dsimp only at hSw); go_simp; try (with_reducible rfl)))); (try simp only [List.getElem_toArray, List.getElem_cons_zero, List.getElem_cons_succ, Act.put, List.setIfInBounds_toArray, List.set_cons_zero, List.set_cons_succ]); (refine wpAnyH_take (i := 3) (v := ?_) rfl (by kernel_rfl) (by kernel_rfl) (by kernel_rfl) (fun _ _ _ h => h) (Or.inl ⟨by rfl, ?_⟩) (by assumption) ?_; rotate_left; (focus (intro W hSw; (try dsimp only at hSw); go_simp; try (with_reducible rfl)))); (try simp only [List.getElem_toArray, List.getElem_cons_zero, List.getElem_cons_succ, Act.put, List.setIfInBounds_toArray, List.set_cons_zero, List.set_cons_succ]); (refine wpAnyH_take (i := 4) (v := ?_) rfl (by kernel_rfl) (by kernel_rfl) (by kernel_rfl) (fun _ _ _ h => h) (Or.inl ⟨by rfl, ?_⟩) (by assumption) ?_; rotate_left; (focus (intro W hSw; (try dsimp only at hSw); go_simp; try (with_reducible rfl)))); (try simp only [List.getElem_toArray, List.getElem_cons_zero, List.getElem_cons_succ, Act.put, List.setIfInBounds_toArray, List.set_cons_zero, List.set_cons_succ]); (refine wpAnyH_take (i := 7) (v := ?_) rfl (by kernel_rfl) (by kernel_rfl) (by kernel_rfl) (fun _ _ _ h => h) (Or.inl ⟨by rfl, ?_⟩) (by assumption) ?_; rotate_left; (focus (intro W hSw; (try dsimp only at hSw); go_simp; try (with_reducible rfl)))); (try simp only [List.getElem_toArray, List.getElem_cons_zero, List.getElem_cons_succ, Act.put, List.setIfInBounds_toArray, List.set_cons_zero, List.set_cons_succ]); (refine wpAnyH_take (i := 8) (v := ?_) rfl (by kernel_rfl) (by kernel_rfl) (by kernel_rfl) (fun _ _ _ h => h) (Or.inl ⟨by rfl, ?_⟩) (by assumption) ?_; rotate_left; (focus (intro W hSw; (try dsimp only at hSw); go_simp; try (with_reducible rfl)))); (try simp only [List.getElem_toArray, List.getElem_cons_zero, List.getElem_cons_succ, Act.put, List.setIfInBounds_toArray, List.set_cons_zero, List.set_cons_succ]); (refine wpAnyH_take (i := 9) (v := ?_) rfl (by kernel_rfl) (by kernel_rfl) (by kernel_rfl) (fun _ _ _ h => h) (Or.inl ⟨by rfl, ?_⟩) (by assumption) ?_; rotate_left; (focus (intro W hSw; (try dsimp only at hSw); go_simp; try (with_reducible rfl)))); (try simp only [List.getElem_toArray, List.getElem_cons_zero, List.getElem_cons_succ, Act.put, List.setIfInBounds_toArray, List.set_cons_zero, List.set_cons_succ]); (refine wpAnyH_take (i := 10) (v := ?_) rfl (by kernel_rfl) (by kernel_rfl) (by kernel_rfl) (fun _ _ _ h => h) (Or.inl ⟨by rfl, ?_⟩) (by assumption) ?_; rotate_left; (focus (intro W hSw; (try dsimp only at hSw); go_simp; try (with_reducible rfl)))); (try simp only [List.getElem_toArray, List.getElem_cons_zero, List.getElem_cons_succ, Act.put, List.setIfInBounds_toArray, List.set_cons_zero, List.set_cons_succ]); (refine wpAnyH_take (i := 11) (v := ?_) rfl (by kernel_rfl) (by kernel_rfl) (by kernel_rfl) (fun _ _ _ h => h) (Or.inl ⟨by rfl, ?_⟩) (by assumption) ?_; rotate_left; (focus (intro W hSw; (try dsimp only at hSw); go_simp; try (with_reducible rfl)))); (try simp only [List.getElem_toArray, List.getElem_cons_zero, List.getElem_cons_succ, Act.put, List.setIfInBounds_toArray, List.set_cons_zero, List.set_cons_succ]))
            (refine wpAnyH_ready (rs := [5]) (by kernel_rfl) (by simp) ?_; refine AllReadyH.cons rfl (fun K hK => ?_) AllReadyH.nil)
            go_simp
            refine (CS.out 1).mono ?_; rintro e _ ⟨rfl, rfl⟩
            refine hK.out _ _ r1 (fun hHeld => ?_)
            clear hK K
            (try simp only [List.getElem_toArray, List.getElem_cons_zero, List.getElem_cons_succ, Act.put, List.setIfInBounds_toArray, List.set_cons_zero, List.set_cons_succ])
            ((refine wpAnyH_take (i := 6) (v := ?_) rfl (by kernel_rfl) (by kernel_rfl) (by kernel_rfl) (fun _ _ _ h => h) (Or.inl ⟨by rfl, ?_⟩) (by assumption) ?_; rotate_left; (focus (intro W hSw; (try dsimp only at hSw); go_simp; try (with_reducible rfl)))); (try simp only [List.getElem_toArray, List.getElem_cons_zero, List.getElem_cons_succ, Act.put, List.setIfInBounds_toArray, List.set_cons_zero, List.set_cons_succ]))
            (refine wpAnyH_ready (rs := [12]) (by kernel_rfl) (by simp) ?_; refine AllReadyH.cons rfl (fun K hK => ?_) AllReadyH.nil)
            go_simp
            refine CA.out.mono ?_; rintro e wA ⟨rfl, hA, bA, hXA⟩
            refine hK.out _ _ (cell_blk R4.out (hXA.out.2 _ _ _ (by decide) (by decide) (R4.out.drewN 1)) t r1) (fun hHeld => ?_)
            clear hK K
            (try simp only [List.getElem_toArray, List.getElem_cons_zero, List.getElem_cons_succ, Act.put, List.setIfInBounds_toArray, List.set_cons_zero, List.set_cons_succ])
            (refine wpAnyH_done (by kernel_rfl) ?_ _; change wpList _ _ _ _ _ _)
            clear hHeld CS
            have hbA : Below lo wr wA := (below_drewN (Below.refl _ _) _).trans bA
            have yA3 := hXA.out.1 _ hw3
            have yAC := hXA.out.2 _ _ _ (by decide) (by decide) (hwC.drewN 1)
            obtain ⟨s1, s2, _, _, s5⟩ := hA.at_ yA3 yAC HCUT.out HXt.out HY.out
            have HSET := Lib.hid (s5 1)
            have HST2 : Hid (∀ w2, IHd z lo g 1 car (.slice (some ⟨b2, off2, none⟩) ks.length ck) w2 ⟨st.evs ++ [evYarn 1 car 2 (P + sumI (ct.take t)) x bed], st.cells.set j (ct.set t 1)⟩ → IHd z lo g 1 car (.slice (some ⟨b2, off2, none⟩) ks.length ck) w2 (knitN 1 car bed j (t + 1) s)) := Lib.hid (fun w2 hw => by
              rw [knitN, HK.out, HE.out, knitTo, HXY.out, HTK.out, ← HP.out]
              exact hw)
            have HSTL : Hid (knitN 1 car bed j (t + 1) s = knitStep 1 car bed j t st) := Lib.hid (by rw [knitN, HK.out])
            clear s5 hA hXA CA yA3 yAC r1 r2 r3 p0 bA
            go_wp2_with (fail)
            have hfin := HST2.out _ HSET.out.1
            refine ⟨⟨t + 1, _, ct.set t 1, S2, by omega, by go_num, Lib.hid rfl, hfin, ?_, ?_, ?_, by push_cast; omega, ?_, ?_, HSET.out.2.2.1, HSET.out.2.2.2, (hbr.trans (hbA.mono (Nat.le_refl _))).trans HSET.out.2.1⟩, by first | (simp [intOf]; done) | (simp [intOf]; omega)⟩
            · rw [HSTL.out]; exact Lib.hid HX2.out
            · exact Lib.hid (by rw [List.length_set]; exact HNt.out)
            · rw [HSTL.out]; exact Lib.hid HG2.out
            · rw [HSTL.out, HL2.out]; omega
            · rw [HSTL.out]; exact Lib.hid ((knitStep_take HXt.out).trans HTK.out)
          · obtain rfl : t = n := by omega
            have dk2 : decide ((t : Int) < (t : Int)) = false := decide_eq_false (by omega)
            go_wp2_with (fail)
            go_end0
            rw [HM.out, ← HN.out, HK.out]
            exact ⟨rfl, hstt, hbr⟩

set_option maxHeartbeats 8000000 in
set_option maxRecDepth 10000 in
theorem impl_hmake_n {z : Option (Nat × Array Value)} {lo g m : Nat} {car : Int} {AK : Option Addr} {ck : Nat} {ks : List Int} {s : HS} {S : Int} {w : World} (h : IHd z lo g (-1) car (.slice AK ks.length ck) w s) (hG : GoodC m s.cells S) (hS : S ≤ 100) (hm : m ≤ 16) {i : Nat} {c : List Int} (hx : s.cells[i]? = some c) {k : Int} (hks : Ints w AK ks) (hk : ks[i]? = some k) (hst : isStitchB k = true) (h1 : k ≠ 3 → 1 ≤ c.length) (hl : s.evs.length ≤ 90000) :
    Calls Tryz.prog 50 #[.pointer (some ⟨g, 0, none⟩), .int .i64 (i : Int)] w fun e w' =>
      e = .returned (.tuple #[]) ∧ IHd z lo g (-1) car (.slice AK ks.length ck) w' (makeTo (-1) car k i c s) ∧ Below lo w w' := by
  have him := hG.lt hx
  have hil : i < s.cells.length := by rw [hG.len]; exact him
  have hilk : i < ks.length := (List.getElem?_eq_some_iff.1 hk).1
  obtain ⟨b2, off2, k', rfl, hck, hk'⟩ := hks i hilk
  obtain rfl : k = k' := by rw [hk] at hk'; injection hk'
  obtain ⟨gC, cC, A', c', curC, q3, hbC, hcu, hown, hcC, hcc⟩ := h.row hx
  have hci := hbC.cell i
  rw [hcu] at hci
  obtain ⟨AC2, cC2, p0, _, p2, p3, hi2, _⟩ := h.read
  rw [q3] at p3
  injection p3 with p3
  injection p3 with p3 _ p3c
  subst p3 p3c
  obtain ⟨hnn, h4, hle, h0⟩ := hG.at_ hx
  have hT := hG.take i
  have HG := Lib.hid hG
  have HX := Lib.hid hx
  have H0 := Lib.hid h
  have HCU := Lib.hid hcu
  have HBC := Lib.hid hbC
  have HCL := Lib.hid hG.len
  have HI2 := Lib.hid hi2
  obtain ⟨P, hP⟩ : ∃ P, P = tot (s.cells.take i) := ⟨_, rfl⟩
  rw [← hP] at hT hle
  have HP := Lib.hid hP; clear hP
  have HST := Lib.hid hst
  have j1 : (0 : Int) ≤ (i : Int) := by omega
  have j2 : (i : Int) < (s.cells.length : Int) := by omega
  have j3 : (i : Int) < (ks.length : Int) := by omega
  have j4 : (i : Int) ≤ (cC : Int) := by omega
  have j5 : i ≤ cC := by omega
  clear hk hk' hx hG h hks hcu hbC hi2 hst
  go_enter Tryz.func50, Tryz.ntmps50
  go_wp2_with (fail)
  go_loopw [4, 19] (fun pv kv wr => ∃ j : Nat, j ≤ i ∧ kv = .int .i64 j ∧ pv = .int .i64 (tot (s.cells.take j)) ∧ w = wr) (fun _ kv _ => i - (intOf kv).toNat)
  case atStart => exact ⟨0, Nat.zero_le _, rfl, by simp [tot], rfl⟩
  case round =>
    obtain ⟨j, hj, rfl, rfl, rfl⟩ := hrel
    by_cases hji : j < i
    · have hjl : j < s.cells.length := by omega
      obtain ⟨b, off, A2, c2, cj, hA, hxj, hcj, hij, hlj⟩ := HI2.out j hjl
      injection hA with hA
      injection hA with hA1 hA2
      subst hA1 hA2
      rw [Nat.zero_add] at hcj
      obtain ⟨hnj, _, hlej, h0j⟩ := HG.out.at_ hxj
      have hTj := HG.out.take j
      have HS1 := Lib.hid (sum64_sumI hnj (by omega))
      have HSN := Lib.hid (tot_snoc hxj)
      clear hxj hnj
      have dk : decide ((j : Int) < (i : Int)) = true := decide_eq_true (by omega)
      have u1 : (0 : Int) ≤ (j : Int) := by omega
      have u2 : (j : Int) < (i : Int) := by omega
      have hw : IntKind.i64.wrap (tot (s.cells.take j) + sumI cj) = tot (s.cells.take j) + sumI cj := IntWalk.i64_in _ ⟨by omega, by omega⟩
      go_wp2_with (fail)
      refine (impl_sumOf A2 c2 cj w hij hlj).mono ?_; rintro e _ ⟨rfl, rfl⟩
      rw [HS1.out]
      go_wp2_with (fail)
      exact ⟨⟨j + 1, by omega, by go_num, by rw [HSN.out], by first | rfl | trivial⟩, by first | (simp [intOf]; done) | (simp [intOf]; omega)⟩
    · obtain rfl : j = i := by omega
      have dk : decide ((j : Int) < (j : Int)) = false := decide_eq_false (by omega)
      rw [← HP.out]
      have hsw : (k == 7) = true ∨ ((k == 7) = false ∧ (k == 3) = true) ∨ ((k == 7) = false ∧ (k == 3) = false ∧ (k == 6) = true) ∨ ((k == 7) = false ∧ (k == 3) = false ∧ (k == 6) = false ∧ (k == 4) = true) ∨ ((k == 7) = false ∧ (k == 3) = false ∧ (k == 6) = false ∧ (k == 4) = false ∧ (k == 5) = true) ∨ ((k == 7) = false ∧ (k == 3) = false ∧ (k == 6) = false ∧ (k == 4) = false ∧ (k == 5) = false) := by
        rcases stitch_cases HST.out with rfl | rfl | rfl | rfl | rfl | rfl | rfl | rfl | rfl | rfl | rfl <;> decide
      rcases hsw with e7 | ⟨e7, e3⟩ | ⟨e7, e3, e6⟩ | ⟨e7, e3, e6, e4⟩ | ⟨e7, e3, e6, e4, e5⟩ | ⟨e7, e3, e6, e4, e5⟩
      · -- a slip
        have hk7 : k = 7 := by simpa using e7
        have HM : Hid (makeTo (-1) car k j c s = s) := Lib.hid (by rw [hk7]; unfold makeTo; simp)
        clear hk7
        go_wp2_with (fail)
        go_end0
        rw [HM.out]
        exact ⟨rfl, H0.out, Below.refl _ _⟩
      · -- over
        have HM : Hid (makeTo (-1) car k j c s = ⟨s.evs ++ [evYarn (-1) car 3 P 0 1], s.cells.set j [1]⟩) := Lib.hid (by rw [show k = 3 by simpa using e3]; unfold makeTo; simp [HP.out])
        have CA := Lib.hid (impl_hadd H0.out 3 P 0 1 (by omega))
        go_wp2_with (fail)
        refine CA.out.mono ?_; rintro e w2 ⟨rfl, h2, b2', _⟩
        have olit := (OwnC.lit (w := w2) (lo := w2.heap.size) (n := 1) 2 1 #[.int .i64 1] (Nat.le_refl _) (by decide) rfl).mono (Nat.le_refl _) (show w2.heap.size + 1 ≤ (w2.alloc (.cells #[.int .i64 1] 2)).heap.size by simp)
        obtain ⟨gC3, cC3, y1, ⟨v, y2⟩, y3, hs3, hb3⟩ := h2.setRow (i := j) hil ((Below.refl w2.heap.size w2).alloc (Nat.le_refl _) (.cells #[.int .i64 1] 2)) (xs := [1]) olit
        have HS3 := Lib.hid hs3; clear hs3
        have HB3 := Lib.hid hb3; clear hb3
        clear CA olit h2
        dsimp only at y1
        go_wp2_with (fail)
        go_end0
        rw [HM.out]
        exact ⟨rfl, HS3.out, b2'.trans HB3.out⟩
      · -- a tuck
        have hk6 : k = 6 := by simpa using e6
        have hc1 := h1 (by omega)
        obtain ⟨x, hy⟩ : ∃ x, c[0]? = some x := ⟨_, List.getElem?_eq_getElem (by omega)⟩
        have hxb := hnn.at_le hy
        have hget : c.getD 0 0 = x := by rw [List.getD_eq_getElem?_getD, hy]; rfl
        have HM : Hid (makeTo (-1) car k j c s = ⟨s.evs ++ [evYarn (-1) car 3 (P + x) 0 1], s.cells.set j (c.set 0 (x + 1))⟩) := Lib.hid (by subst hk6; unfold makeTo; rw [if_neg (by decide), if_pos rfl, hget, HP.out])
        obtain ⟨gC1, cC1, gR, c1, curC1, curR, f1, f2, f3, _, _, _, _, f8, _, _⟩ := H0.out.setAt HX.out hy
        rw [q3] at f1
        injection f1 with f1
        injection f1 with f1 _ f1c
        injection f1 with f1
        injection f1 with f1
        subst f1
        clear f1c
        rw [hci] at f2
        injection f2 with f2
        injection f2 with f2 _ f2c
        subst f2 f2c
        have CA := Lib.hid (impl_hadd H0.out 3 (P + x) 0 1 (by omega))
        have wT : IntKind.i64.wrap (P + x) = P + x := IntWalk.i64_in _ ⟨by omega, by omega⟩
        have wX : IntKind.i64.wrap (x + 1) = x + 1 := IntWalk.i64_in _ ⟨by omega, by omega⟩
        have HY := Lib.hid hy
        obtain ⟨n, hn⟩ : ∃ n, n = c.length := ⟨_, rfl⟩
        rw [← hn] at hci
        have HN := Lib.hid hn
        have n0 : (0 : Int) < (n : Int) := by omega
        have n1 : 0 < n := by omega
        clear hn hget hy hk6
        go_wp2_with (fail)
        refine CA.out.mono ?_; rintro e w2 ⟨rfl, h2, b2', hX2⟩
        have y3 := hX2.out.1 _ q3
        have yC := hX2.out.2 _ _ _ (by decide) (by decide) HBC.out
        obtain ⟨g1, g2, _, _, g5⟩ := h2.at_ y3 yC HCU.out HX.out HY.out
        have HSET := Lib.hid (g5 (x + 1)); clear g5 CA h2 hX2 yC
        go_wp2_with (fail)
        go_end0
        rw [HM.out]
        exact ⟨rfl, HSET.out.1, b2'.trans HSET.out.2.1⟩
      · -- two columns into one
        have HM : Hid (makeTo (-1) car k j c s = ⟨s.evs ++ [evYarn (-1) car 2 P (sumI c) 1], s.cells.set j [1]⟩) := Lib.hid (by rw [show k = 4 by simpa using e4]; unfold makeTo; simp [HP.out])
        have HS := Lib.hid (sum64_sumI hnn (by omega))
        have CA := Lib.hid (impl_hadd H0.out 2 P (sumI c) 1 (by omega))
        go_wp2_with (fail)
        refine (impl_sumOf A' c' c w hown (by omega)).mono ?_; rintro e _ ⟨rfl, rfl⟩
        rw [HS.out]
        go_wp2_with (fail)
        refine CA.out.mono ?_; rintro e w2 ⟨rfl, h2, b2', _⟩
        have olit := (OwnC.lit (w := w2) (lo := w2.heap.size) (n := 1) 2 1 #[.int .i64 1] (Nat.le_refl _) (by decide) rfl).mono (Nat.le_refl _) (show w2.heap.size + 1 ≤ (w2.alloc (.cells #[.int .i64 1] 2)).heap.size by simp)
        obtain ⟨gC3, cC3, y1, ⟨v, y2⟩, y3, hs3, hb3⟩ := h2.setRow (i := j) hil ((Below.refl w2.heap.size w2).alloc (Nat.le_refl _) (.cells #[.int .i64 1] 2)) (xs := [1]) olit
        have HS3 := Lib.hid hs3; clear hs3
        have HB3 := Lib.hid hb3; clear hb3
        clear CA olit h2
        dsimp only at y1
        go_wp2_with (fail)
        go_end0
        rw [HM.out]
        exact ⟨rfl, HS3.out, b2'.trans HB3.out⟩
      · -- two columns into one
        have HM : Hid (makeTo (-1) car k j c s = ⟨s.evs ++ [evYarn (-1) car 2 P (sumI c) 1], s.cells.set j [1]⟩) := Lib.hid (by rw [show k = 5 by simpa using e5]; unfold makeTo; simp [HP.out])
        have HS := Lib.hid (sum64_sumI hnn (by omega))
        have CA := Lib.hid (impl_hadd H0.out 2 P (sumI c) 1 (by omega))
        go_wp2_with (fail)
        refine (impl_sumOf A' c' c w hown (by omega)).mono ?_; rintro e _ ⟨rfl, rfl⟩
        rw [HS.out]
        go_wp2_with (fail)
        refine CA.out.mono ?_; rintro e w2 ⟨rfl, h2, b2', _⟩
        have olit := (OwnC.lit (w := w2) (lo := w2.heap.size) (n := 1) 2 1 #[.int .i64 1] (Nat.le_refl _) (by decide) rfl).mono (Nat.le_refl _) (show w2.heap.size + 1 ≤ (w2.alloc (.cells #[.int .i64 1] 2)).heap.size by simp)
        obtain ⟨gC3, cC3, y1, ⟨v, y2⟩, y3, hs3, hb3⟩ := h2.setRow (i := j) hil ((Below.refl w2.heap.size w2).alloc (Nat.le_refl _) (.cells #[.int .i64 1] 2)) (xs := [1]) olit
        have HS3 := Lib.hid hs3; clear hs3
        have HB3 := Lib.hid hb3; clear hb3
        clear CA olit h2
        dsimp only at y1
        go_wp2_with (fail)
        go_end0
        rw [HM.out]
        exact ⟨rfl, HS3.out, b2'.trans HB3.out⟩
      · -- the columns are knitted
        have hk3 : k ≠ 3 ∧ k ≠ 6 ∧ k ≠ 7 ∧ ¬ (k = 4 ∨ k = 5) := by
          refine ⟨?_, ?_, ?_, ?_⟩
          · simpa using e3
          · simpa using e6
          · simpa using e7
          · rintro (h | h)
            · simp [h] at e4
            · simp [h] at e5
        have hc1 := h1 hk3.1
        obtain ⟨bed, hbed⟩ : ∃ bed : Int, bed = if k = 2 then 2 else 1 := ⟨_, rfl⟩
        have HM : Hid (makeTo (-1) car k j c s = knitN (-1) car bed j c.length s) := Lib.hid (by unfold makeTo; rw [if_neg hk3.1, if_neg hk3.2.1, if_neg hk3.2.2.1, if_neg hk3.2.2.2, hbed])
        obtain ⟨x0, hy0⟩ : ∃ x, c[0]? = some x := ⟨_, List.getElem?_eq_getElem (by omega)⟩
        obtain ⟨gC1, cC1, gR, c1, curC1, curR, f1, f2, _, _, _, _, _, _, _, _⟩ := H0.out.setAt HX.out hy0
        rw [q3] at f1
        injection f1 with f1
        injection f1 with f1 _ f1c
        injection f1 with f1
        injection f1 with f1
        subst f1
        clear f1c
        rw [hci] at f2
        injection f2 with f2
        injection f2 with f2 _ f2c
        subst f2 f2c
        have HBED := Lib.hid hbed
        have hq3 := q3
        obtain ⟨n, hn⟩ : ∃ n, n = c.length := ⟨_, rfl⟩
        rw [← hn] at hci h4
        have HN := Lib.hid hn
        obtain ⟨L, hL⟩ : ∃ L, L = s.cells.length := ⟨_, rfl⟩
        have HLL := Lib.hid hL
        have hnc : n ≤ c' := by omega
        have HQ3 := Lib.hid q3
        clear hn hL hy0 hbed hk3 hq3 hown
        go_upto_if 45 with fail
        go_cut [9] (fun bv wx => bv = .int .i64 bed ∧ w = wx)
        case first =>
          by_cases hk2 : k = 2
          · have d2 : (k == 2) = true := by simp [hk2]
            have HB2 : Hid (bed = 2) := Lib.hid (by rw [HBED.out, if_pos hk2])
            clear hk2
            go_wp2_with (fail)
            go_meet
            exact ⟨by rw [HB2.out], rfl⟩
          · have d2 : (k == 2) = false := by simp [hk2]
            have HB2 : Hid (bed = 1) := Lib.hid (by rw [HBED.out, if_neg hk2])
            clear hk2
            go_wp2_with (fail)
            go_meet
            exact ⟨by rw [HB2.out], rfl⟩
        case rest =>
        obtain ⟨rfl, rfl⟩ := hcut
        go_wp2_with (fail)
        clear p0 p2 q3 hci
        go_loopw [48] (fun tv wr => ∃ (t : Nat) (st : HS) (ct : List Int) (S' : Int), t ≤ n ∧ tv = .int .i64 t ∧ Hid (knitN (-1) car bed j t s = st) ∧ IHd z lo g (-1) car (.slice (some ⟨b2, off2, none⟩) ks.length ck) wr st ∧ Hid (st.cells[j]? = some ct) ∧ Hid (ct.length = n) ∧ Hid (GoodC m st.cells S') ∧ S' ≤ 100 + (t : Int) ∧ st.evs.length ≤ 90000 + t ∧ Hid (st.cells.take j = s.cells.take j) ∧
          wr.cell? ⟨g, 3, none⟩ = some (.slice (some ⟨gC, 0, none⟩) s.cells.length cC) ∧ Blk wr gC 24 curC ∧ Below lo w wr) (fun tv _ => n - (intOf tv).toNat)
        case atStart => exact ⟨0, s, c, S, Nat.zero_le _, rfl, Lib.hid rfl, H0.out, HX, Lib.hid HN.out.symm, HG, by omega, by omega, Lib.hid rfl, HQ3.out, HBC.out, Below.refl _ _⟩
        case round =>
          obtain ⟨t, st, ct, S', ht, rfl, HK, hstt, HXt, HNt, HGt, hS', hev, HTK, hw3, hwC, hbr⟩ := hrel
          by_cases htn : t < n
          · have hgood := knitStep_good (d := (-1)) (car := car) (bed := bed) HGt.out HXt.out (t := t) (by rw [HNt.out]; exact htn)
            obtain ⟨kk, hkk⟩ : ∃ kk, kk = knitAt (-1) n t := ⟨_, rfl⟩
            rw [HNt.out, ← hkk] at hgood
            have hkn : kk < n := (hkk ▸ knitAt_lt htn)
            have w2 := knitAt_n hkk htn h4
            try simp only [forall_const] at w2
            clear hkk
            obtain ⟨g1, g2, ⟨S2, hS2, g3⟩, g4⟩ := hgood
            have HE := Lib.hid g1; have HX2 := Lib.hid g2; have HG2 := Lib.hid g3; have HL2 := Lib.hid g4
            clear g1 g2 g3 g4
            have hkc : kk < ct.length := by rw [HNt.out]; exact hkn
            obtain ⟨x, hy⟩ : ∃ x, ct[kk]? = some x := ⟨_, List.getElem?_eq_getElem hkc⟩
            obtain ⟨hnt, _, hlet, h0t⟩ := HGt.out.at_ HXt.out
            have hPk := hnt.part kk
            rw [HTK.out, ← HP.out] at hlet
            have hcut : curC[j]? = some (.slice (some ⟨gR, 0, none⟩) ct.length c') := by rw [HNt.out, HN.out]; exact HCU.out
            obtain ⟨r1, r2, r3, ⟨curR2, r4⟩, _⟩ := hstt.at_ hw3 hwC hcut HXt.out hy
            have HCUT := Lib.hid hcut
            have HXY : Hid (ct.getD kk 0 = x) := Lib.hid (by rw [List.getD_eq_getElem?_getD, hy]; rfl)
            have HY := Lib.hid hy; clear hy hcut
            have htl : (ct.take kk).length = kk := by rw [List.length_take]; omega
            have CS : Hid (∀ q, Calls Tryz.prog 20 #[.slice (some ⟨gR, 0, none⟩) kk c'] (wr.drewN q) fun e w' => e = .returned (.int .i64 (sumI (ct.take kk))) ∧ wr.drewN q = w') :=
              Lib.hid (fun q => by
                have := impl_sumOf (some ⟨gR, 0, none⟩) c' (ct.take kk) (wr.drewN q) (r3.take kk) (by omega)
                rw [htl, sum64_sumI (hnt.take kk) (by omega)] at this
                exact this)
            have CA := Lib.hid (impl_hadd (hstt.drewN 1) 2 (P + sumI (ct.take kk)) x bed (by omega))
            obtain ⟨_, _, p0, _, _, _, _, _⟩ := hstt.read
            have wT : IntKind.i64.wrap (P + sumI (ct.take kk)) = P + sumI (ct.take kk) := IntWalk.i64_in _ ⟨by omega, by omega⟩
            have w1 : IntKind.i64.wrap ((n : Int) - 1) = (n : Int) - 1 := IntWalk.i64_in _ ⟨by omega, by omega⟩
            have dk2 : decide ((t : Int) < (n : Int)) = true := decide_eq_true (by omega)
            have u3 : (0 : Int) ≤ (kk : Int) := by omega
            have u4 : (kk : Int) ≤ (c' : Int) := by omega
            have u5 : (kk : Int) < (n : Int) := by omega
            have u6 : kk ≤ c' := by omega
            have R4 := Lib.hid r4
            clear htl hkc hnt hstt r4
            go_upto_region 18 with fail
            (refine wp_region_pops 0 (S := (fun W' => W'.cell? ⟨gR, kk, none⟩ = some (.int .i64 x))) (pre := ?_) (T := ?_) (n := ?_) (by kernel_rfl) (by kernel_rfl) ?_ ?_ ?_ ?_ (fun hHeld => ?_); rotate_left 3; (focus (simp only [pops]; rfl)); (focus (simp only [tailOf]; rfl)); (focus rfl); (focus (exact r1)))
            ((refine wpAnyH_take (i := 0) (v := ?_) rfl (by kernel_rfl) (by kernel_rfl) (by kernel_rfl) (fun _ _ _ h => h) (Or.inl ⟨by rfl, ?_⟩) (by assumption) ?_; rotate_left; (focus (intro W hSw; (try dsimp only at hSw); go_simp; try (with_reducible rfl)))); (try simp only [List.getElem_toArray, List.getElem_cons_zero, Act.put, List.setIfInBounds_toArray, List.set_cons_zero, List.set_cons_succ]); (refine wpAnyH_take (i := 1) (v := ?_) rfl (by kernel_rfl) (by kernel_rfl) (by kernel_rfl) (fun _ _ _ h => h) (Or.inl ⟨by rfl, ?_⟩) (by assumption) ?_; rotate_left; (focus (intro W hSw; (try dsimp only at hSw); go_simp; try (with_reducible rfl)))); (try simp only [List.getElem_toArray, List.getElem_cons_zero, List.getElem_cons_succ, Act.put, List.setIfInBounds_toArray, List.set_cons_zero, List.set_cons_succ]); (refine wpAnyH_take (i := 2) (v := ?_) rfl (by kernel_rfl) (by kernel_rfl) (by kernel_rfl) (fun _ _ _ h => h) (Or.inl ⟨by rfl, ?_⟩) (by assumption) ?_; rotate_left; (focus (intro W hSw; (try dsimp only at hSw); go_simp; try (with_reducible rfl)))); (try simp only [List.getElem_toArray, List.getElem_cons_zero, List.getElem_cons_succ, Act.put, List.setIfInBounds_toArray, List.set_cons_zero, List.set_cons_succ]); (refine wpAnyH_take (i := 3) (v := ?_) rfl (by kernel_rfl) (by kernel_rfl) (by kernel_rfl) (fun _ _ _ h => h) (Or.inl ⟨by rfl, ?_⟩) (by assumption) ?_; rotate_left; (focus (intro W hSw; (try dsimp only at hSw); go_simp; try (with_reducible rfl)))); (try simp only [List.getElem_toArray, List.getElem_cons_zero, List.getElem_cons_succ, Act.put, List.setIfInBounds_toArray, List.set_cons_zero, List.set_cons_succ]); (refine wpAnyH_take (i := 4) (v := ?_) rfl (by kernel_rfl) (by kernel_rfl) (by kernel_rfl) (fun _ _ _ h => h) (Or.inl ⟨by rfl, ?_⟩) (by assumption) ?_; rotate_left; (focus (intro W hSw; (try dsimp only at hSw); go_simp; try (with_reducible rfl)))); (try simp only [List.getElem_toArray, List.getElem_cons_zero, List.getElem_cons_succ, Act.put, List.setIfInBounds_toArray, List.set_cons_zero, List.set_cons_succ]); (refine wpAnyH_take (i := 7) (v := ?_) rfl (by kernel_rfl) (by kernel_rfl) (by kernel_rfl) (fun _ _ _ h => h) (Or.inl ⟨by rfl, ?_⟩) (by assumption) ?_; rotate_left; (focus (intro W hSw; (try dsimp only at hSw); go_simp; try (with_reducible rfl)))); (try simp only [List.getElem_toArray, List.getElem_cons_zero, List.getElem_cons_succ, Act.put, List.setIfInBounds_toArray, List.set_cons_zero, List.set_cons_succ]); (refine wpAnyH_take (i := 8) (v := ?_) rfl (by kernel_rfl) (by kernel_rfl) (by kernel_rfl) (fun _ _ _ h => h) (Or.inl ⟨by rfl, ?_⟩) (by assumption) ?_; rotate_left; (focus (intro W hSw; (try dsimp only at hSw); go_simp; try (with_reducible rfl)))); (try simp only [List.getElem_toArray, List.getElem_cons_zero, List.getElem_cons_succ, Act.put, List.setIfInBounds_toArray, List.set_cons_zero, List.set_cons_succ]); (refine wpAnyH_take (i := 9) (v := ?_) rfl (by kernel_rfl) (by kernel_rfl) (by kernel_rfl) (fun _ _ _ h => h) (Or.inl ⟨by rfl, ?_⟩) (by assumption) ?_; rotate_left; (focus (intro W hSw; (try dsimp only at hSw); go_simp; try (with_reducible rfl)))); (try simp only [List.getElem_toArray, List.getElem_cons_zero, List.getElem_cons_succ, Act.put, List.setIfInBounds_toArray, List.set_cons_zero, List.set_cons_succ]); (refine wpAnyH_take (i := 10) (v := ?_) rfl (by kernel_rfl) (by kernel_rfl) (by kernel_rfl) (fun _ _ _ h => h) (Or.inl ⟨by rfl, ?_⟩) (by assumption) ?_; rotate_left; (focus (intro W hSw; (try dsimp only at hSw); go_simp; try (with_reducible rfl)))); (try simp only [List.getElem_toArray, List.getElem_cons_zero, List.getElem_cons_succ, Act.put, List.setIfInBounds_toArray, List.set_cons_zero, List.set_cons_succ]); (refine wpAnyH_take (i := 11) (v := ?_) rfl (by kernel_rfl) (by kernel_rfl) (by kernel_rfl) (fun _ _ _ h => h) (Or.inl ⟨by rfl, ?_⟩) (by assumption) ?_; rotate_left; (focus (intro W hSw; (try dsimp only at hSw); go_simp; try (with_reducible rfl)))); (try simp only [List.getElem_toArray, List.getElem_cons_zero, List.getElem_cons_succ, Act.put, List.setIfInBounds_toArray, List.set_cons_zero, List.set_cons_succ]))
            (refine wpAnyH_ready (rs := [5]) (by kernel_rfl) (by simp) ?_; refine AllReadyH.cons rfl (fun K hK => ?_) AllReadyH.nil)
            go_simp
            refine (CS.out 1).mono ?_; rintro e _ ⟨rfl, rfl⟩
            refine hK.out _ _ r1 (fun hHeld => ?_)
            clear hK K
            (try simp only [List.getElem_toArray, List.getElem_cons_zero, List.getElem_cons_succ, Act.put, List.setIfInBounds_toArray, List.set_cons_zero, List.set_cons_succ])
            ((refine wpAnyH_take (i := 6) (v := ?_) rfl (by kernel_rfl) (by kernel_rfl) (by kernel_rfl) (fun _ _ _ h => h) (Or.inl ⟨by rfl, ?_⟩) (by assumption) ?_; rotate_left; (focus (intro W hSw; (try dsimp only at hSw); go_simp; try (with_reducible rfl)))); (try simp only [List.getElem_toArray, List.getElem_cons_zero, List.getElem_cons_succ, Act.put, List.setIfInBounds_toArray, List.set_cons_zero, List.set_cons_succ]))
            (refine wpAnyH_ready (rs := [12]) (by kernel_rfl) (by simp) ?_; refine AllReadyH.cons rfl (fun K hK => ?_) AllReadyH.nil)
            go_simp
            refine CA.out.mono ?_; rintro e wA ⟨rfl, hA, bA, hXA⟩
            refine hK.out _ _ (cell_blk R4.out (hXA.out.2 _ _ _ (by decide) (by decide) (R4.out.drewN 1)) kk r1) (fun hHeld => ?_)
            clear hK K
            (try simp only [List.getElem_toArray, List.getElem_cons_zero, List.getElem_cons_succ, Act.put, List.setIfInBounds_toArray, List.set_cons_zero, List.set_cons_succ])
            (refine wpAnyH_done (by kernel_rfl) ?_ _; change wpList _ _ _ _ _ _)
            clear hHeld CS
            have hbA : Below lo wr wA := (below_drewN (Below.refl _ _) _).trans bA
            have yA3 := hXA.out.1 _ hw3
            have yAC := hXA.out.2 _ _ _ (by decide) (by decide) (hwC.drewN 1)
            obtain ⟨s1, s2, _, _, s5⟩ := hA.at_ yA3 yAC HCUT.out HXt.out HY.out
            have HSET := Lib.hid (s5 1)
            have HST2 : Hid (∀ w2, IHd z lo g (-1) car (.slice (some ⟨b2, off2, none⟩) ks.length ck) w2 ⟨st.evs ++ [evYarn (-1) car 2 (P + sumI (ct.take kk)) x bed], st.cells.set j (ct.set kk 1)⟩ → IHd z lo g (-1) car (.slice (some ⟨b2, off2, none⟩) ks.length ck) w2 (knitN (-1) car bed j (t + 1) s)) := Lib.hid (fun w2 hw => by
              rw [knitN, HK.out, HE.out, knitTo, HXY.out, HTK.out, ← HP.out]
              exact hw)
            have HSTL : Hid (knitN (-1) car bed j (t + 1) s = knitStep (-1) car bed j t st) := Lib.hid (by rw [knitN, HK.out])
            clear s5 hA hXA CA yA3 yAC r1 r2 r3 p0 bA
            go_wp2_with (fail)
            have hfin := HST2.out _ HSET.out.1
            refine ⟨⟨t + 1, _, ct.set kk 1, S2, by omega, by go_num, Lib.hid rfl, hfin, ?_, ?_, ?_, by push_cast; omega, ?_, ?_, HSET.out.2.2.1, HSET.out.2.2.2, (hbr.trans (hbA.mono (Nat.le_refl _))).trans HSET.out.2.1⟩, by first | (simp [intOf]; done) | (simp [intOf]; omega)⟩
            · rw [HSTL.out]; exact Lib.hid HX2.out
            · exact Lib.hid (by rw [List.length_set]; exact HNt.out)
            · rw [HSTL.out]; exact Lib.hid HG2.out
            · rw [HSTL.out, HL2.out]; omega
            · rw [HSTL.out]; exact Lib.hid ((knitStep_take HXt.out).trans HTK.out)
          · obtain rfl : t = n := by omega
            have dk2 : decide ((t : Int) < (t : Int)) = false := decide_eq_false (by omega)
            go_wp2_with (fail)
            go_end0
            rw [HM.out, ← HN.out, HK.out]
            exact ⟨rfl, hstt, hbr⟩

end Go.Proofs.YthjamohaeahipaaGreat

/- Knitting by hand, the given side: the crossings of every stitch. -/
namespace Go.Proofs.YthjamohaeahipaaGreat
open Go Go.RowKit

end Go.Proofs.YthjamohaeahipaaGreat

/- Knitting by hand, the given side: a row. -/
namespace Go.Proofs.YthjamohaeahipaaGreat
open Go Go.RowKit

end Go.Proofs.YthjamohaeahipaaGreat

/- Knitting by hand: a row, the given side's HandRow. -/
namespace Go.Proofs.YthjamohaeahipaaGreat
open Go Go.RowKit

def hrOk (d r : Int) (ks st : List Int) : Bool := rowB d r ks && sizesB st
def hrCode (d r : Int) (ks st : List Int) : Int :=
  if hrOk d r ks st then (if (stacksAfterP st ks).2 = 0 then (if (handS d r ks st).isSome then 0 else 5) else (stacksAfterP st ks).2) else 1
def hrEvs (d r : Int) (ks st : List Int) : List EventD := if hrOk d r ks st && decide ((stacksAfterP st ks).2 = 0) then handEvs d r ks st else []
def hrAfter (d r : Int) (ks st : List Int) : List Int := if hrOk d r ks st && decide ((stacksAfterP st ks).2 = 0) then handAfter d r ks st else []
theorem hr_bad {d r : Int} {ks st : List Int} (h : hrOk d r ks st = false) : hrCode d r ks st = 1 ∧ hrEvs d r ks st = [] ∧ hrAfter d r ks st = [] := by
  unfold hrCode hrEvs hrAfter
  rw [h]
  exact ⟨rfl, rfl, rfl⟩
theorem hr_code {d r : Int} {ks st : List Int} (h : hrOk d r ks st = true) (h2 : (stacksAfterP st ks).2 ≠ 0) : hrCode d r ks st = (stacksAfterP st ks).2 ∧ hrEvs d r ks st = [] ∧ hrAfter d r ks st = [] := by
  unfold hrCode hrEvs hrAfter
  rw [h, if_pos rfl, if_neg h2, decide_eq_false h2]
  exact ⟨rfl, rfl, rfl⟩
theorem hr_go {d r : Int} {ks st : List Int} (h : hrOk d r ks st = true) (h2 : (stacksAfterP st ks).2 = 0) : hrCode d r ks st = (if (handS d r ks st).isSome then 0 else 5) ∧ hrEvs d r ks st = handEvs d r ks st ∧ hrAfter d r ks st = handAfter d r ks st := by
  unfold hrCode hrEvs hrAfter
  rw [h, if_pos rfl, if_pos h2, decide_eq_true h2]
  exact ⟨rfl, rfl, rfl⟩
theorem stacks_ok {st ks : List Int} (h : (stacksAfterP st ks).2 = 0) : takenS ks = st.length := by
  unfold stacksAfterP at h
  split at h
  · split at h
    · assumption
    · simp at h
  · simp at h

end Go.Proofs.YthjamohaeahipaaGreat
