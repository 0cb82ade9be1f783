/- Steps of the proof, joined from several texts: HW HX CE ZJ ZN. -/
import Derived.Test.YthjamohaeahipaaGreatZ18
import Derived.Test.YthjamohaeahipaaGreatZ19
import Derived.Test.YthjamohaeahipaaGreatZ6
import Derived.Test.YthjamohaeahipaaGreatZ9
import Derived.Test.YthjamohaeahipaaGreatZ10

/- Knitting by hand, the program's side: a row. -/
namespace Go.Proofs.YthjamohaeahipaaGreat
open Go Go.RowKit

theorem rowD_order {d r : Int} {ks : List Int} (h : rowB d r ks = true) : dirB d = true := by
  unfold rowB at h
  simp only [Bool.and_eq_true] at h
  exact h.1.1
theorem stacks_len {st ks : List Int} (h1 : stacksB st = true) (h2 : stitchesB ks = true) (h : takenS ks ≠ st.length) : (stacksAfterP st ks).2 = 10 := by
  unfold stacksAfterP
  rw [h1, h2]
  simp [h]

theorem impl_hmake {z : Option (Nat × Array Value)} {lo g m : Nat} {d car : Int} {AK : Option Addr} {ck : Nat} {ks : List Int} {s : HS} {S : Int} {w : World} (h : IHd z lo g d car (.slice AK ks.length ck) w s) (hG : GoodC m s.cells S) (hS : S ≤ 100) (hm : m ≤ 16) {i : Nat} {c : List Int} (hx : s.cells[i]? = some c) {k : Int} (hks : Ints w AK ks) (hk : ks[i]? = some k) (hst : isStitchB k = true) (h1 : k ≠ 3 → 1 ≤ c.length) (hl : s.evs.length ≤ 90000) (hd : d = 1 ∨ d = -1) :
    Calls Tryz.prog 50 #[.pointer (some ⟨g, 0, none⟩), .int .i64 (i : Int)] w fun e w' =>
      e = .returned (.tuple #[]) ∧ IHd z lo g d car (.slice AK ks.length ck) w' (makeTo d car k i c s) ∧ Below lo w w' := by
  rcases hd with rfl | rfl
  · exact impl_hmake_p h hG hS hm hx hks hk hst h1 hl
  · exact impl_hmake_n h hG hS hm hx hks hk hst h1 hl
/-- All columns, joined. -/
theorem hand_concat {m : Nat} {cs : List (List Int)} {S : Int} (hG : GoodC m cs S) (hm : m ≤ 16) {A : Option Addr} {c : Nat} {w : World} (h : Ints2 w A cs) {xs : List Int} (hx : cs.flatten = xs) :
    Calls Tryz.prog 51 #[.slice A m c] w fun e w' => ∃ A' c', e = .returned (.slice A' xs.length c') ∧ OwnI w' w.heap.size w'.heap.size A' c' xs ∧ Below w.heap.size w w' := by
  subst hx
  have hc := cells_cnt hG hm
  have := slices_Concat_int64_int64 (cs.map partOf) A c w h.slices (by rw [List.length_map, hG.len]; omega) (by rw [partsN_of]; omega)
  rw [List.length_map, hG.len, partsN_of, partsC_of, ← length_flatten] at this
  exact this
theorem tot_flatten (cs : List (List Int)) : sumI cs.flatten = tot cs := by
  induction cs with
  | nil => rfl
  | cons x r ih => rw [List.flatten_cons, sumI_append, tot, ih]
theorem flatten_nn {cs : List (List Int)} (h : ∀ c ∈ cs, NN c) : NN cs.flatten := by
  intro x hx
  obtain ⟨c, hc, hx⟩ := List.mem_flatten.1 hx
  exact h c hc x hx

set_option maxHeartbeats 4000000 in
set_option maxRecDepth 10000 in
theorem impl_knitRow (d r : Int) (ks st : List Int) (A B : Option Addr) (c c2 : Nat) (w : World) (h : Ints w A ks) (h' : Ints w B st) (hc0 : st.length ≤ c2) (hcm : c2 ≤ 9223372036854775807) (hn : (B = none ∧ c2 = 0) ∨ ∃ b off, B = some ⟨b, off, none⟩) (hv : rowB d r ks = true) (hs : sizesB st = true) :
    Calls Tryz.prog 24 #[.agg #[.int .i64 d, .int .i64 r, .slice A ks.length c], .slice B st.length c2] w fun e w' => ∃ A1 c1 A2 c2, e = .returned (.tuple #[.slice A1 (hrEvs d r ks st).length c1, .slice A2 (hrAfter d r ks st).length c2, .int .i64 (hrCode d r ks st)]) ∧
      OwnEvent w' w.heap.size w'.heap.size A1 c1 (hrEvs d r ks st) ∧ OwnI w' w.heap.size w'.heap.size A2 c2 (hrAfter d r ks st) ∧ Below w.heap.size w w' := by
  have HOK : Hid (hrOk d r ks st = true) := Lib.hid (by rw [hrOk, hv, hs]; rfl)
  obtain ⟨hd, _, hks, hl16⟩ := rowB_of hv
  have HDB := Lib.hid (rowD_order hv)
  have hsb : stacksB st = true := by
    have h1 := hs
    unfold sizesB at h1
    simp only [Bool.and_eq_true] at h1
    exact h1.1.2
  have hst8 : st.length ≤ 8 := by
    unfold stacksB at hsb
    simp only [Bool.and_eq_true, decide_eq_true_eq] at hsb
    exact hsb.2
  have HKS := Lib.hid hks
  have HSZ := Lib.hid hs
  have HM := Lib.hid (stitchesB_of hks).2
  obtain ⟨w1, hw1⟩ : ∃ w1, w1 = w.alloc (.cells #[.int .i64 d, .int .i64 r, .slice A ks.length c] 26) := ⟨_, rfl⟩
  have hb1 : Below w.heap.size w w1 := by rw [hw1]; (repeat (first | exact Below.refl _ _ | assumption | apply Below.drew | apply below_drewN | (refine Below.alloc ?_ (by first | omega | (simp; done) | (simp; omega)) _) | (refine Below.setCell ?_ (by first | omega | (simp; done) | (simp; omega)) _)))
  have ka : Blk w1 w.heap.size 26 #[.int .i64 d, .int .i64 r, .slice A ks.length c] := by rw [hw1]; exact Blk.new w _ _
  have HZ1 : Hid (w1.heap.size ≤ w.heap.size + 1) := Lib.hid (by rw [hw1]; simp)
  obtain ⟨k0, k1, k2⟩ := ka.c3
  by_cases ht : takenS ks = st.length
  · have ht' : ((takenS ks : Int) != (st.length : Int)) = false := by simp [ht]
    have HT := Lib.hid ht
    by_cases h0 : (stacksAfterP st ks).2 = 0
    · have HF := Lib.hid (hr_go HOK.out h0)
      have d0 : ((stacksAfterP st ks).2 != 0) = false := by simp [h0]
      have hNN : NN st := by
        intro x hx
        have h1 := hsb
        unfold stacksB at h1
        simp only [Bool.and_eq_true, List.all_eq_true] at h1
        have := inR_iff.1 (h1.1 x hx)
        omega
      have hS12 : sumI st ≤ 12 := by
        have h1 := hs
        unfold sizesB stacksB at h1
        simp only [Bool.and_eq_true, List.all_eq_true, decide_eq_true_eq] at h1
        have h2 : tinyB st := fun x hx => by have := inR_iff.1 (h1.1.2.1 x hx); omega
        have h3 := sumI_le h2
        have h4 := sum64_sumI hNN (by omega)
        omega
      have HMO := Lib.hid (MakeOk.start (crossN_ok hNN HM.out ht hS12 ks.length (Nat.le_refl _)) HM.out hl16 hS12)
      have HHS : Hid (handS d r ks st = makeN d r ks (orderP d ks.length) ks.length (crossN ks ks.length ⟨[], cutC ks st⟩)) := Lib.hid rfl
      have hOL := Lib.hid (orderP_length d ks.length)
      clear h0 ht hNN hsb hks hv hs
      go_enter Tryz.func24, Tryz.ntmps24
      go_wp2_with (fail)
      rw [← hw1]; clear hw1
      refine (impl_takenBy _ _ _ _ (h.below hb1) HKS.out).mono ?_; rintro e _ ⟨rfl, rfl⟩
      go_wp2_with (fail)
      refine (impl_StacksAfter st ks B c2 A c _ (h'.below hb1) (by omega) hc0 hcm hn (h.below hb1) (by omega)).mono ?_; rintro e w2 ⟨A9, c9, rfl, _, b2⟩
      have B2 : Below w.heap.size w w2 := hb1.trans (b2.mono hb1.size)
      have ka2 := ka.below b2 ka.lt
      obtain ⟨m0, m1, m2⟩ := ka2.c3
      have hz2 := B2.size
      obtain ⟨w3, hw3⟩ : ∃ w3, w3 = w2.alloc (.cells #[.int .i64 d, .int .i64 r, .slice A ks.length c, .slice none 0 0, .slice none 0 0] 73) := ⟨_, rfl⟩
      have hb3 : Below w2.heap.size w2 w3 := by rw [hw3]; (repeat (first | exact Below.refl _ _ | assumption | apply Below.drew | apply below_drewN | (refine Below.alloc ?_ (by first | omega | (simp; done) | (simp; omega)) _) | (refine Below.setCell ?_ (by first | omega | (simp; done) | (simp; omega)) _)))
      have hzw1 : w1.heap.size = w.heap.size + 1 := by have h1 := ka.lt; have h2 : w1.heap.size ≤ w.heap.size + 1 := HZ1.out; omega
      have hz12 := b2.size
      have hI3 : IHd none w1.heap.size w2.heap.size d r (.slice A ks.length c) w3 ⟨[], []⟩ := by
        refine ⟨⟨none, 0, none, 0, by rw [hw3]; exact Blk.new w2 _ _, OwnC.nil _ _ _ _ _, OwnIIz.none ⟨[], OwnC.nil _ _ _ _ _, ⟨rfl, fun k xs hx => by simp at hx, fun i j v v' g hi' => by simp at hi'⟩⟩⟩, hz12⟩
      have B3 : Below w.heap.size w w3 := B2.trans (hb3.mono hz2)
      have ka3 := ka2.below hb3 ka2.lt
      obtain ⟨g, hg⟩ : ∃ g, g = w2.heap.size := ⟨_, rfl⟩
      rw [← hg] at hI3
      have HB3 := Lib.hid hb3
      clear hb3
      go_upto_region 7 with fail
      rw [← hw3, ← hg]
      have HGE : Hid (g = w2.heap.size) := Lib.hid hg
      clear hw3 hg m0 m1 m2 k0 k1 k2
      go_wp2_with (fail)
      have HZW := Lib.hid hzw1
      have hgl : w.heap.size < w1.heap.size := by omega
      have hlw : w.heap.size ≤ w1.heap.size := by omega
      clear hzw1
      refine (impl_hbegin hI3 (fun w' hb => h.below (B3.trans (hb.mono hlw))) HKS.out (h'.below B3) HSZ.out HT.out).mono ?_; rintro e w4 ⟨rfl, h4, b4⟩
      have B4 : Below w.heap.size w w4 := B3.trans (b4.mono hlw)
      have ka4 := ka3.below b4 hgl
      generalize crossN ks ks.length ⟨[], cutC ks st⟩ = s0 at *
      obtain ⟨m0, m1, m2⟩ := ka4.c3
      have hz4 := B4.size
      go_wp2_with (fail)
      refine (impl_orderY d r A c ks _ (by omega) HDB.out).mono ?_; rintro e w5 ⟨AO, cO, rfl, o5, b5⟩
      have B5 : Below w.heap.size w w5 := B4.trans (b5.mono hz4)
      obtain ⟨z, hz1, hz2'⟩ : ∃ z, IHd z w1.heap.size g d r (.slice A ks.length c) w5 s0 ∧ ∀ w' s', IHd z w1.heap.size g d r (.slice A ks.length c) w' s' → Ints w' AO (orderP d ks.length) := by
        have o5' : OwnI w5 w4.heap.size w5.heap.size AO cO (orderP d ks.length) := by
          show OwnC _ _ _ _ _ _ _ _ _
          rw [hOL.out]
          exact o5
        have hi5 := o5'.ints
        rcases o5.form with ⟨h1, h2, _⟩ | ⟨q, cur, rfl, h3, h4', h5, _⟩
        · refine ⟨none, h4.below b5, fun w' s' _ k hk => ?_⟩
          rw [hOL.out] at hk
          omega
        · exact ⟨some (q, cur), h4.seal_ b5 h3 h5, fun w' s' hs' => hi5.blk h5 hs'.apart⟩
      clear h4 b4 o5 b5 B3 B4 m0 m1 m2 ka3 ka4 hI3
      go_wp2_with (fail)
      go_loopw [37] (fun iv ws => ∃ (n : Nat) (sn : HS), n ≤ ks.length ∧ iv = .int .i64 n ∧ Hid (makeN d r ks (orderP d ks.length) n s0 = some sn) ∧ IHd z w1.heap.size g d r (.slice A ks.length c) ws sn ∧ Hid (MakeOk ks n sn) ∧ Below w.heap.size w ws) (fun iv _ => ks.length - (intOf iv).toNat)
      case atStart => exact ⟨0, s0, Nat.zero_le _, rfl, Lib.hid rfl, hz1, HMO, B5⟩
      case round =>
        clear hz1 B5
        obtain ⟨n, sn, hnn, rfl, HN, hsn, HO, hbn⟩ := hrel
        by_cases hnl : n < ks.length
        · obtain ⟨b, off, x, rfl, hcx, hx⟩ := (hz2' wr sn hsn) n (by rw [hOL.out]; exact hnl)
          obtain ⟨q, rfl, hq⟩ := orderP_in hx
          obtain ⟨kd, hkd⟩ : ∃ kd, ks[q]? = some kd := ⟨_, List.getElem?_eq_getElem hq⟩
          have hkk := HM.out kd (List.mem_of_getElem? hkd)
          obtain ⟨cc, hc, h6, hms, ⟨S1, hS1, hG1⟩, hev1, hok⟩ := makeStep_ok HO.out d r hkd
          obtain ⟨S, hS, hG⟩ := HO.out.good
          have hev := HO.out.evs
          have CC := Lib.hid (impl_hmake hsn hG (by omega) hl16 hc (h.below hbn) hkd hkk h6 (by omega) hd)
          have HMS : Hid (makeN d r ks (orderP d ks.length) (n + 1) s0 = if 12 < tot (makeTo d r kd q cc sn).cells then none else some (makeTo d r kd q cc sn)) := Lib.hid (by
            have hgd : (orderP d ks.length).getD n 0 = (q : Int) := by rw [List.getD_eq_getElem?_getD, hx]; rfl
            rw [makeN, HN.out]
            show (if 12 < tot (makeStep d r ks ((orderP d ks.length).getD n 0).toNat sn).cells then none else some (makeStep d r ks ((orderP d ks.length).getD n 0).toNat sn)) = _
            rw [hgd, Int.toNat_natCast, hms])
          have HOK2 := Lib.hid hok
          have HG1 := Lib.hid hG1
          clear hms hok hG1 HN hev1 hx hc h6 hG
          generalize makeTo d r kd q cc sn = s2 at *
          have dk3 : decide ((n : Int) < (ks.length : Int)) = true := decide_eq_true (by omega)
          have u1 : (0 : Int) ≤ (n : Int) := by omega
          have u2 : (n : Int) < (ks.length : Int) := by omega
          have hzn := hsn.lt
          clear hsn
          go_wp2_with (fail)
          refine CC.out.mono ?_; rintro e w9 ⟨rfl, h9, b9⟩
          obtain ⟨AC9, cC9, _, _, _, p9, hi9, _⟩ := h9.read
          rw [HG1.out.len] at p9
          obtain ⟨FL, hFL⟩ : ∃ FL, s2.cells.flatten = FL := ⟨_, rfl⟩
          have CN := Lib.hid (hand_concat HG1.out hl16 (c := cC9) hi9 hFL)
          have hnnS : sum64 FL = tot s2.cells := by
            rw [← hFL]
            have h1 := flatten_nn (fun c hc => (HG1.out.nn c hc).1)
            have h2 := tot_flatten s2.cells
            rw [sum64_sumI h1 (by rw [h2, HG1.out.sum]; omega), h2]
          have HSUM := Lib.hid hnnS
          have hfl : FL.length ≤ 64 := by rw [← hFL, length_flatten]; exact cells_cnt HG1.out hl16
          have HNONE : Hid (12 < tot s2.cells → handS d r ks st = none) := Lib.hid (fun h12 => by rw [HHS.out]; exact makeN_none (n := n + 1) (by rw [HMS.out, if_pos h12]) ks.length (by omega))
          have B9 : Below w.heap.size w w9 := hbn.trans (b9.mono hlw)
          have hz9 := B9.size
          clear hi9 hnnS hFL
          by_cases h12 : 12 < tot s2.cells
          · have d12 : decide (12 < tot s2.cells) = true := decide_eq_true h12
            have HE := Lib.hid (hand_none (HNONE.out h12))
            have HC : Hid (hrCode d r ks st = 5) := Lib.hid (by rw [HF.out.1, HNONE.out h12]; rfl)
            clear h12
            go_wp2_with (fail)
            refine CN.out.mono ?_; rintro e w10 ⟨A10, c10, rfl, o10, b10⟩
            go_wp2_with (fail)
            refine (impl_sumOf A10 c10 _ w10 o10.ints (by omega)).mono ?_; rintro e _ ⟨rfl, rfl⟩
            rw [HSUM.out]
            go_wp2_with (fail)
            go_ret3
            exact ⟨none, 0, none, 0, by rw [HC.out, HF.out.2.1, HF.out.2.2, HE.out.1, HE.out.2]; rfl, by rw [HF.out.2.1, HE.out.1]; exact OwnC.nil _ _ _ _ _, by rw [HF.out.2.2, HE.out.2]; exact OwnC.nil _ _ _ _ _, B9.trans (b10.mono hz9)⟩
          · have d12 : decide (12 < tot s2.cells) = false := decide_eq_false h12
            have H12 : Hid (tot s2.cells ≤ 12) := Lib.hid (by omega)
            clear h12
            go_wp2_with (fail)
            refine CN.out.mono ?_; rintro e w10 ⟨A10, c10, rfl, o10, b10⟩
            go_wp2_with (fail)
            refine (impl_sumOf A10 c10 _ w10 o10.ints (by omega)).mono ?_; rintro e _ ⟨rfl, rfl⟩
            rw [HSUM.out]
            go_wp2_with (fail)
            exact ⟨⟨n + 1, s2, by omega, by go_num, Lib.hid (by rw [HMS.out, if_neg (by have := H12.out; omega)]), h9.below b10, Lib.hid (HOK2.out H12.out), B9.trans (b10.mono hz9)⟩, by first | (simp [intOf]; done) | (simp [intOf]; omega)⟩
        · obtain rfl : n = ks.length := by omega
          have dk3 : decide ((ks.length : Int) < (ks.length : Int)) = false := decide_eq_false (by omega)
          have hsome : handS d r ks st = some sn := by rw [HHS.out, HN.out]
          obtain ⟨FL, hFL⟩ : ∃ FL, sn.cells.flatten = FL := ⟨_, rfl⟩
          have HE := Lib.hid (hand_some hsome)
          have HFL := Lib.hid hFL
          have HC : Hid (hrCode d r ks st = 0) := Lib.hid (by rw [HF.out.1, hsome]; rfl)
          obtain ⟨S, hS, hG⟩ := HO.out.good
          obtain ⟨⟨AE, cE, AC, cC, hk9, ho9, hc9⟩, hlo9⟩ := hsn
          have hi9 := hc9.ints2
          have CN := Lib.hid (hand_concat hG hl16 (c := cC) (hi9.drewN 1) hFL)
          rw [hG.len] at hk9
          obtain ⟨_, _, _, v3, v4⟩ := hk9.c5
          clear hsome hG HO HN HHS hi9 hc9 hFL
          have hzn := hbn.size
          go_upto_region 15 with fail
          (refine wp_region_pops 0 (S := (fun W' => W'.cell? ⟨g, 3, none⟩ = some (.slice AC ks.length cC) ∧ W'.cell? ⟨g, 4, none⟩ = some (.slice AE sn.evs.length cE))) (pre := ?_) (T := ?_) (n := ?_) (by kernel_rfl) (by kernel_rfl) ?_ ?_ ?_ ?_ (fun hHeld => ?_); rotate_left 3; (focus (simp only [pops]; rfl)); (focus (simp only [tailOf]; rfl)); (focus rfl); (focus (exact ⟨v3, v4⟩)))
          ((refine wpAnyH_take (i := 0) (v := ?_) rfl (by kernel_rfl) (by kernel_rfl) (by kernel_rfl) (fun _ _ _ h => h) (Or.inl ⟨by rfl, ?_⟩) (by assumption) ?_; rotate_left; (focus (intro W hSw; (try dsimp only at hSw); go_simp; try (with_reducible rfl)))); (try simp only [List.getElem_toArray, List.getElem_cons_zero, Act.put, List.setIfInBounds_toArray, List.set_cons_zero, List.set_cons_succ]); (refine wpAnyH_take (i := 1) (v := ?_) rfl (by kernel_rfl) (by kernel_rfl) (by kernel_rfl) (fun _ _ _ h => h) (Or.inl ⟨by rfl, ?_⟩) (by assumption) ?_; rotate_left; (focus (intro W hSw; (try dsimp only at hSw); go_simp; try (with_reducible rfl)))); (try simp only [List.getElem_toArray, List.getElem_cons_zero, List.getElem_cons_succ, Act.put, List.setIfInBounds_toArray, List.set_cons_zero, List.set_cons_succ]); (refine wpAnyH_take (i := 2) (v := ?_) rfl (by kernel_rfl) (by kernel_rfl) (by kernel_rfl) (fun _ _ _ h => h) (Or.inl ⟨by rfl, ?_⟩) (by assumption) ?_; rotate_left; (focus (intro W hSw; (try dsimp only at hSw); go_simp; try (with_reducible rfl)))); (try simp only [List.getElem_toArray, List.getElem_cons_zero, List.getElem_cons_succ, Act.put, List.setIfInBounds_toArray, List.set_cons_zero, List.set_cons_succ]); (refine wpAnyH_take (i := 3) (v := ?_) rfl (by kernel_rfl) (by kernel_rfl) (by kernel_rfl) (fun _ _ _ h => h) (Or.inl ⟨by rfl, ?_⟩) (by assumption) ?_; rotate_left; (focus (intro W hSw; (try dsimp only at hSw); go_simp; try (with_reducible rfl)))); (try simp only [List.getElem_toArray, List.getElem_cons_zero, List.getElem_cons_succ, Act.put, List.setIfInBounds_toArray, List.set_cons_zero, List.set_cons_succ]); (refine wpAnyH_take (i := 4) (v := ?_) rfl (by kernel_rfl) (by kernel_rfl) (by kernel_rfl) (fun _ _ _ h => h) (Or.inl ⟨by rfl, ?_⟩) (by assumption) ?_; rotate_left; (focus (intro W hSw; (try dsimp only at hSw); go_simp; try (with_reducible rfl)))); (try simp only [List.getElem_toArray, List.getElem_cons_zero, List.getElem_cons_succ, Act.put, List.setIfInBounds_toArray, List.set_cons_zero, List.set_cons_succ]); (refine wpAnyH_take (i := 5) (v := ?_) rfl (by kernel_rfl) (by kernel_rfl) (by kernel_rfl) (fun _ _ _ h => h) (Or.inl ⟨by rfl, ?_⟩) (by assumption) ?_; rotate_left; (focus (intro W hSw; (try dsimp only at hSw); go_simp; try (with_reducible rfl)))); (try simp only [List.getElem_toArray, List.getElem_cons_zero, List.getElem_cons_succ, Act.put, List.setIfInBounds_toArray, List.set_cons_zero, List.set_cons_succ]); (refine wpAnyH_take (i := 6) (v := ?_) rfl (by kernel_rfl) (by kernel_rfl) (by kernel_rfl) (fun _ _ _ h => h) (Or.inl ⟨by rfl, ?_⟩) (by assumption) ?_; rotate_left; (focus (intro W hSw; (try dsimp only at hSw); go_simp; try (with_reducible rfl)))); (try simp only [List.getElem_toArray, List.getElem_cons_zero, List.getElem_cons_succ, Act.put, List.setIfInBounds_toArray, List.set_cons_zero, List.set_cons_succ]); (refine wpAnyH_take (i := 7) (v := ?_) rfl (by kernel_rfl) (by kernel_rfl) (by kernel_rfl) (fun _ _ _ h => h) (Or.inl ⟨by rfl, ?_⟩) (by assumption) ?_; rotate_left; (focus (intro W hSw; (try dsimp only at hSw); go_simp; try (with_reducible rfl)))); (try simp only [List.getElem_toArray, List.getElem_cons_zero, List.getElem_cons_succ, Act.put, List.setIfInBounds_toArray, List.set_cons_zero, List.set_cons_succ]))
          (refine wpAnyH_ready (rs := [8]) (by kernel_rfl) (by simp) ?_; refine AllReadyH.cons rfl (fun K hK => ?_) AllReadyH.nil)
          go_simp
          refine CN.out.mono ?_; rintro e w10 ⟨A10, c10, rfl, o10, b10⟩
          have hb10 : Below wr.heap.size wr w10 := (below_drewN (Below.refl _ _) 1).trans b10
          refine hK.out _ _ ⟨cells_below hb10 _ _ v3, cells_below hb10 _ _ v4⟩ (fun hHeld => ?_)
          clear hK K
          (try simp only [List.getElem_toArray, List.getElem_cons_zero, List.getElem_cons_succ, Act.put, List.setIfInBounds_toArray, List.set_cons_zero, List.set_cons_succ])
          ((refine wpAnyH_take (i := 9) (v := ?_) rfl (by kernel_rfl) (by kernel_rfl) (by kernel_rfl) (fun _ _ _ h => h) (Or.inl ⟨by rfl, ?_⟩) (by assumption) ?_; rotate_left; (focus (intro W hSw; (try dsimp only at hSw); go_simp; try (with_reducible rfl)))); (try simp only [List.getElem_toArray, List.getElem_cons_zero, List.getElem_cons_succ, Act.put, List.setIfInBounds_toArray, List.set_cons_zero, List.set_cons_succ]); (refine wpAnyH_take (i := 10) (v := ?_) rfl (by kernel_rfl) (by kernel_rfl) (by kernel_rfl) (fun _ _ _ h => h) (Or.inl ⟨by rfl, ?_⟩) (by assumption) ?_; rotate_left; (focus (intro W hSw; (try dsimp only at hSw); go_simp; try (with_reducible rfl)))); (try simp only [List.getElem_toArray, List.getElem_cons_zero, List.getElem_cons_succ, Act.put, List.setIfInBounds_toArray, List.set_cons_zero, List.set_cons_succ]); (refine wpAnyH_take (i := 11) (v := ?_) rfl (by kernel_rfl) (by kernel_rfl) (by kernel_rfl) (fun _ _ _ h => h) (Or.inl ⟨by rfl, ?_⟩) (by assumption) ?_; rotate_left; (focus (intro W hSw; (try dsimp only at hSw); go_simp; try (with_reducible rfl)))); (try simp only [List.getElem_toArray, List.getElem_cons_zero, List.getElem_cons_succ, Act.put, List.setIfInBounds_toArray, List.set_cons_zero, List.set_cons_succ]))
          (refine wpAnyH_done (by kernel_rfl) ?_ _; change wpList _ _ _ _ _ _)
          clear hHeld
          go_wp2_with (fail)
          go_ret3
          refine ⟨AE, cE, A10, c10, by rw [HC.out, HF.out.2.1, HF.out.2.2, HE.out.1, HE.out.2, HFL.out]; rfl, ?_, ?_, hbn.trans (hb10.mono hzn)⟩
          · rw [HF.out.2.1, HE.out.1]
            exact (OwnC.below ho9 hb10 (Nat.le_refl _)).mono hlw hb10.size
          · rw [HF.out.2.2, HE.out.2, HFL.out]
            exact OwnC.mono o10 hzn (Nat.le_refl _)
    · have HF := Lib.hid (hr_code HOK.out h0)
      have d0 : ((stacksAfterP st ks).2 != 0) = true := by simp [h0]
      clear h0
      go_enter Tryz.func24, Tryz.ntmps24
      go_wp2_with (fail)
      rw [← hw1]; clear hw1
      refine (impl_takenBy _ _ _ _ (h.below hb1) HKS.out).mono ?_; rintro e _ ⟨rfl, rfl⟩
      go_wp2_with (fail)
      refine (impl_StacksAfter st ks B c2 A c _ (h'.below hb1) (by omega) hc0 hcm hn (h.below hb1) (by omega)).mono ?_; rintro e w2 ⟨A9, c9, rfl, _, b2⟩
      have B2 : Below w.heap.size w w2 := hb1.trans (b2.mono hb1.size)
      go_wp2_with (fail)
      go_ret3
      exact ⟨none, 0, none, 0, by rw [HF.out.1, HF.out.2.1, HF.out.2.2]; rfl, by rw [HF.out.2.1]; exact OwnC.nil _ _ _ _ _, by rw [HF.out.2.2]; exact OwnC.nil _ _ _ _ _, B2⟩
  · have ht' : ((takenS ks : Int) != (st.length : Int)) = true := by simp; omega
    have hc10 := stacks_len hsb HKS.out ht
    have HF := Lib.hid (hr_code HOK.out (by rw [hc10]; decide))
    have HC10 := Lib.hid hc10
    clear hc10 ht
    go_enter Tryz.func24, Tryz.ntmps24
    go_wp2_with (fail)
    rw [← hw1]; clear hw1
    refine (impl_takenBy _ _ _ _ (h.below hb1) HKS.out).mono ?_; rintro e _ ⟨rfl, rfl⟩
    go_wp2_with (fail)
    go_ret3
    exact ⟨none, 0, none, 0, by rw [HF.out.1, HF.out.2.1, HF.out.2.2, HC10.out]; rfl, by rw [HF.out.2.1]; exact OwnC.nil _ _ _ _ _, by rw [HF.out.2.2]; exact OwnC.nil _ _ _ _ _, hb1⟩

set_option maxHeartbeats 1000000 in
theorem impl_HandRow (d r : Int) (ks st : List Int) (A B : Option Addr) (c c2 : Nat) (w : World) (h : Ints w A ks) (hl : ks.length ≤ 9223372036854775807) (h' : Ints w B st) (hl' : st.length ≤ 9223372036854775807) (hc0 : st.length ≤ c2) (hcm : c2 ≤ 9223372036854775807) (hn : (B = none ∧ c2 = 0) ∨ ∃ b off, B = some ⟨b, off, none⟩) :
    Calls Tryz.prog 10 #[.agg #[.int .i64 d, .int .i64 r, .slice A ks.length c], .slice B st.length c2] w fun e w' => ∃ A1 c1 A2 c2, e = .returned (.tuple #[.slice A1 (hrEvs d r ks st).length c1, .slice A2 (hrAfter d r ks st).length c2, .int .i64 (hrCode d r ks st)]) ∧
      OwnEvent w' w.heap.size w'.heap.size A1 c1 (hrEvs d r ks st) ∧ OwnI w' w.heap.size w'.heap.size A2 c2 (hrAfter d r ks st) ∧ Below w.heap.size w w' := by
  obtain ⟨w1, hw1⟩ : ∃ w1, w1 = w.alloc (.cells #[.int .i64 d, .int .i64 r, .slice A ks.length c] 26) := ⟨_, rfl⟩
  have hb1 : Below w.heap.size w w1 := by rw [hw1]; (repeat (first | exact Below.refl _ _ | assumption | apply Below.drew | apply below_drewN | (refine Below.alloc ?_ (by first | omega | (simp; done) | (simp; omega)) _) | (refine Below.setCell ?_ (by first | omega | (simp; done) | (simp; omega)) _)))
  have ka : Blk w1 w.heap.size 26 #[.int .i64 d, .int .i64 r, .slice A ks.length c] := by rw [hw1]; exact Blk.new w _ _
  obtain ⟨k0, k1, k2⟩ := ka.c3
  cases hv : rowB d r ks
  · have HF := Lib.hid (hr_bad (d := d) (r := r) (ks := ks) (st := st) (by rw [hrOk, hv]; rfl))
    go_enter Tryz.func10, Tryz.ntmps10
    go_wp2_with (fail)
    rw [← hw1]; clear hw1
    refine (impl_ValidRow d r A c ks _ (h.below hb1) hl).mono ?_; rintro e w2 ⟨rfl, b2⟩
    have hb2 : Below w.heap.size w w2 := hb1.trans (b2.mono hb1.size)
    rw [hv]
    go_wp2_with (fail)
    go_ret3
    exact ⟨none, 0, none, 0, by rw [HF.out.1, HF.out.2.1, HF.out.2.2]; rfl, by rw [HF.out.2.1]; exact OwnC.nil _ _ _ _ _, by rw [HF.out.2.2]; exact OwnC.nil _ _ _ _ _, hb2⟩
  · cases hs : sizesB st
    · have HF := Lib.hid (hr_bad (d := d) (r := r) (ks := ks) (st := st) (by rw [hrOk, hv, hs]; rfl))
      go_enter Tryz.func10, Tryz.ntmps10
      go_wp2_with (fail)
      rw [← hw1]; clear hw1
      refine (impl_ValidRow d r A c ks _ (h.below hb1) hl).mono ?_; rintro e w2 ⟨rfl, b2⟩
      have hb2 : Below w.heap.size w w2 := hb1.trans (b2.mono hb1.size)
      rw [hv]
      go_wp2_with (fail)
      refine (impl_ValidSizes B c2 st _ (h'.below hb2) hl').mono ?_; rintro e _ ⟨rfl, rfl⟩
      rw [hs]
      go_wp2_with (fail)
      go_ret3
      exact ⟨none, 0, none, 0, by rw [HF.out.1, HF.out.2.1, HF.out.2.2]; rfl, by rw [HF.out.2.1]; exact OwnC.nil _ _ _ _ _, by rw [HF.out.2.2]; exact OwnC.nil _ _ _ _ _, hb2⟩
    · have HV := Lib.hid hv; have HS := Lib.hid hs
      clear hv hs
      go_enter Tryz.func10, Tryz.ntmps10
      go_wp2_with (fail)
      rw [← hw1]; clear hw1
      refine (impl_ValidRow d r A c ks _ (h.below hb1) hl).mono ?_; rintro e w2 ⟨rfl, b2⟩
      have hb2 : Below w.heap.size w w2 := hb1.trans (b2.mono hb1.size)
      have ka2 := ka.below b2 ka.lt
      obtain ⟨m0, m1, m2⟩ := ka2.c3
      rw [HV.out]
      go_wp2_with (fail)
      refine (impl_ValidSizes B c2 st _ (h'.below hb2) hl').mono ?_; rintro e _ ⟨rfl, rfl⟩
      rw [HS.out]
      go_wp2_with (fail)
      refine (impl_knitRow d r ks st A B c c2 _ (h.below hb2) (h'.below hb2) hc0 hcm hn HV.out HS.out).mono ?_; rintro e w3 ⟨A1, c1, A2, c3, rfl, o1, o2, b3⟩
      have hz := hb2.size
      go_wp2_with (fail)
      go_ret3
      exact ⟨A1, c1, A2, c3, rfl, OwnC.mono o1 hz (Nat.le_refl _), OwnC.mono o2 hz (Nat.le_refl _), hb2.trans (b3.mono hz)⟩

end Go.Proofs.YthjamohaeahipaaGreat

/- Knitting by hand, plain: how long the results are. -/
namespace Go.Proofs.YthjamohaeahipaaGreat
open Go.RowKit

/-- Two owned parts of different types lie apart. -/
theorem ownT_apart {w : World} {lo hi n n' c c' : Nat} {e e' : TypeId} {sz sz' : Nat} {A A' : Option Addr} {cs cs' : List Value} (h : OwnC w lo hi e sz A n c cs) (h' : OwnC w lo hi e' sz' A' n' c' cs') (ht : e ≠ e') (hh : lo ≤ hi) :
    ∃ l r l' r', lo ≤ l ∧ l ≤ r ∧ r ≤ hi ∧ lo ≤ l' ∧ l' ≤ r' ∧ r' ≤ hi ∧ (r ≤ l' ∨ r' ≤ l) ∧ OwnC w l r e sz A n c cs ∧ OwnC w l' r' e' sz' A' n' c' cs' := by
  have tight : ∀ {e : TypeId} {sz n c : Nat} {g : Nat} {cs : List Value}, OwnC w lo hi e sz (some ⟨g, 0, none⟩) n c cs → OwnC w g (g + 1) e sz (some ⟨g, 0, none⟩) n c cs := fun {e sz n c g cs} k => by
    rcases k.form with ⟨h1, _⟩ | ⟨q, cur, h1, _, _, h2, h3, h4, h5, h6⟩
    · cases h1
    · injection h1 with h1
      injection h1 with h1
      subst h1
      exact ⟨⟨k.len, .inr ⟨g, c, cur, rfl, Nat.le_refl _, h2, h3, h4, h5, h6⟩⟩, fun a ha => by injection ha with ha; subst ha; exact Nat.lt_succ_self _⟩
  rcases h.form with ⟨rfl, rfl, rfl, rfl⟩ | ⟨q, cur, rfl, h1, h2, h3, _⟩
  · exact ⟨lo, lo, lo, hi, Nat.le_refl _, Nat.le_refl _, hh, Nat.le_refl _, hh, Nat.le_refl _, .inl (Nat.le_refl _), OwnC.nil _ _ _ _ _, h'⟩
  · rcases h'.form with ⟨rfl, rfl, rfl, rfl⟩ | ⟨q', cur', rfl, k1, k2, k3, _⟩
    · exact ⟨lo, hi, lo, lo, Nat.le_refl _, hh, Nat.le_refl _, Nat.le_refl _, Nat.le_refl _, hh, .inr (Nat.le_refl _), h, OwnC.nil _ _ _ _ _⟩
    · have hne : q ≠ q' := by
        rintro rfl
        rw [h3] at k3
        injection k3 with k3
        injection k3 with _ k3
        exact ht k3
      exact ⟨q, q + 1, q', q' + 1, h1, by omega, by omega, k1, by omega, by omega, by omega, tight h, tight h'⟩
theorem hr_size (d r : Int) (ks st : List Int) : (hrEvs d r ks st).length ≤ 4000 ∧ (hrAfter d r ks st).length ≤ 64 := by
  unfold hrEvs hrAfter
  split
  · rename_i h
    simp only [Bool.and_eq_true, decide_eq_true_eq] at h
    obtain ⟨h1, h2⟩ := h
    have ht := stacks_ok h2
    unfold hrOk at h1
    simp only [Bool.and_eq_true] at h1
    obtain ⟨hv, hs⟩ := h1
    obtain ⟨_, _, hks, hl16⟩ := rowB_of hv
    have hmem := (stitchesB_of hks).2
    have hNN : NN st := by
      intro x hx
      unfold sizesB stacksB at hs
      simp only [Bool.and_eq_true, List.all_eq_true] at hs
      have := inR_iff.1 (hs.1.2.1 x hx)
      omega
    have hS12 : sumI st ≤ 12 := by
      unfold sizesB stacksB at hs
      simp only [Bool.and_eq_true, List.all_eq_true, decide_eq_true_eq] at hs
      have h2 : tinyB st := fun x hx => by have := inR_iff.1 (hs.1.2.1 x hx); omega
      have h3 := sumI_le h2
      have h4 := sum64_sumI hNN (by omega)
      omega
    have hmo := MakeOk.start (crossN_ok hNN hmem ht hS12 ks.length (Nat.le_refl _)) hmem hl16 hS12
    cases hh : handS d r ks st with
    | none => rw [(hand_none hh).1, (hand_none hh).2]; simp
    | some s =>
      rw [(hand_some hh).1, (hand_some hh).2]
      have ho := makeN_ok (d := d) (car := r) hmo (Nat.le_refl _) (show makeN d r ks (orderP d ks.length) ks.length _ = some s from hh)
      obtain ⟨S, hS, hG⟩ := ho.good
      have := ho.evs
      rw [length_flatten]
      exact ⟨by omega, cells_cnt hG hl16⟩
  · simp
end Go.Proofs.YthjamohaeahipaaGreat

/- ChartOfBraid, the program's side. -/
namespace Go.Proofs.YthjamohaeahipaaGreat
open Go.RowKit

def cowCode (n : Int) (xs : List Int) (car : Int) : Int := if inR n 1 8 && carrierB car then (if (pack xs).length ≤ 8 ∧ xs.length ≤ 40 then 0 else 5) else 2
def cowX (n : Int) (xs : List Int) (car : Int) : ChX := if cowCode n xs car = 0 then ⟨n, rowsFrom n.toNat car (groupsOf xs) (-1)⟩ else ⟨0, []⟩
theorem cow_err {n : Int} {xs : List Int} {car k : Int} (e : cowCode n xs car = k) (hk : k ≠ 0) : cowX n xs car = ⟨0, []⟩ ∧ cowCode n xs car = k := ⟨by rw [cowX, if_neg (by rw [e]; exact hk)], e⟩
theorem cow_cob {n : Int} {xs : List Int} {car : Int} (h : braidB n xs = true) : cowCode n xs car = cobCode n xs car ∧ cowX n xs car = cobX n xs car := by
  have h4 := (braidB_of h).2.2.1
  have e : cowCode n xs car = cobCode n xs car := by
    unfold cowCode cobCode
    rw [h]
    simp [h4]
  exact ⟨e, by rw [cowX, cobX, e]⟩


end Go.Proofs.YthjamohaeahipaaGreat

/- Permutations: ChartOfPermutation, the program's side. -/
namespace Go.Proofs.YthjamohaeahipaaGreat
open Go Go.RowKit

def copCode (p : List Int) (car : Int) : Int := if permB p then cowCode p.length (permLetters p) car else 1
def copX (p : List Int) (car : Int) : ChX := if permB p then cowX p.length (permLetters p) car else ⟨0, []⟩
theorem cop_bad {p : List Int} {car : Int} (h : permB p = false) : copX p car = ⟨0, []⟩ ∧ copCode p car = 1 := by simp [copX, copCode, h]
theorem cop_good {p : List Int} {car : Int} (h : permB p = true) : copX p car = cowX p.length (permLetters p) car ∧ copCode p car = cowCode p.length (permLetters p) car := by simp [copX, copCode, h]
theorem permB_len {p : List Int} (h : permB p = true) : p.length ≤ 12 := by
  unfold permB at h
  simp only [Bool.and_eq_true, decide_eq_true_eq] at h
  exact h.1
theorem permLetters_small {p : List Int} (h : p.length ≤ 12) : smallB (permLetters p) ∧ (permLetters p).length ≤ 144 := by
  refine ⟨fun y hy => ?_, ?_⟩
  · rw [permLetters, List.mem_map] at hy
    obtain ⟨x, hx, rfl⟩ := hy
    have := permWord_mem p x hx
    omega
  · rw [permLetters_length]
    exact Nat.le_trans (permWord_length p) (Nat.le_trans (invs_le p) (Nat.mul_le_mul h h))

end Go.Proofs.YthjamohaeahipaaGreat

/- Permutations, plain: exchanges in another order; the letters of a permutation sort it; the permutation of a braid. -/
namespace Go.Proofs.YthjamohaeahipaaGreat
open Go.RowKit

/-- The exchanges of some letters, one after the other. -/
def swW (xs L : List Int) : List Int := xs.foldl (fun L x => swapL (x.natAbs - 1) L) L
theorem swW_cons (x : Int) (xs L : List Int) : swW (x :: xs) L = swW xs (swapL (x.natAbs - 1) L) := rfl
theorem swW_append (xs ys L : List Int) : swW (xs ++ ys) L = swW ys (swW xs L) := by simp [swW]
theorem swapL_length (k : Nat) (L : List Int) : (swapL k L).length = L.length := by simp [swapL]
theorem swW_length (xs L : List Int) : (swW xs L).length = L.length := by
  induction xs generalizing L with
  | nil => rfl
  | cons x xs ih => rw [swW_cons, ih, swapL_length]
theorem swapL_get {k : Nat} {L : List Int} (h : k + 1 < L.length) (i : Nat) : (swapL k L)[i]? = if i = k then L[k + 1]? else if i = k + 1 then L[k]? else L[i]? := by
  have e1 : L[k]? = some (L.getD k 0) := by rw [List.getD_eq_getElem?_getD, List.getElem?_eq_getElem (by omega)]; rfl
  have e2 : L[k + 1]? = some (L.getD (k + 1) 0) := by rw [List.getD_eq_getElem?_getD, List.getElem?_eq_getElem h]; rfl
  unfold swapL
  by_cases h1 : i = k
  · subst h1
    rw [if_pos rfl, List.getElem?_set_ne (by omega), List.getElem?_set_self (by omega), e2]
  · rw [if_neg h1]
    by_cases h2 : i = k + 1
    · subst h2
      rw [if_pos rfl, List.getElem?_set_self (by rw [List.length_set]; omega), e1]
    · rw [if_neg h2, List.getElem?_set_ne (by omega), List.getElem?_set_ne (by omega)]
theorem swapL_map {k : Nat} {M : List Int} (f : Int → Int) (h : k + 1 < M.length) : swapL k (M.map f) = (swapL k M).map f := by
  apply List.ext_getElem?
  intro i
  rw [swapL_get (by simpa using h)]
  simp only [List.getElem?_map]
  rw [swapL_get h]
  by_cases h1 : i = k
  · rw [if_pos h1, if_pos h1]
  · rw [if_neg h1, if_neg h1]
    by_cases h2 : i = k + 1
    · rw [if_pos h2, if_pos h2]
    · rw [if_neg h2, if_neg h2]
theorem swW_map {xs : List Int} {M : List Int} (f : Int → Int) (h : Letters M.length xs) : swW xs (M.map f) = (swW xs M).map f := by
  induction xs generalizing M with
  | nil => rfl
  | cons x xs ih =>
    have hx := h x (by simp)
    rw [swW_cons, swW_cons, swapL_map f (by omega), ih fun y hy => by rw [swapL_length]; exact h y (by simp [hy])]
theorem swW_apart {n : Nat} {g : List Int} (hA : Apart2 g) (hL : Letters n g) {L : List Int} (hn : L.length = n) (i : Nat) : (swW g L)[i]? = if ∃ y ∈ g, y.natAbs = i + 1 then L[i + 1]? else if ∃ y ∈ g, y.natAbs = i then L[i - 1]? else L[i]? := by
  induction g generalizing L with
  | nil => simp [swW]
  | cons x g ih =>
    have hx := hL x (by simp)
    unfold Apart2 at hA
    rw [List.pairwise_cons] at hA
    rw [swW_cons, ih hA.2 (fun y hy => hL y (by simp [hy])) (by rw [swapL_length]; exact hn)]
    have hk : x.natAbs - 1 + 1 < L.length := by omega
    by_cases h1 : ∃ y ∈ g, y.natAbs = i + 1
    · obtain ⟨y, hy, e⟩ := h1
      have ha := hA.1 y hy
      rw [if_pos ⟨y, hy, e⟩, swapL_get hk, if_neg (by omega), if_neg (by omega), if_pos ⟨y, by simp [hy], e⟩]
    · rw [if_neg h1]
      by_cases h2 : ∃ y ∈ g, y.natAbs = i
      · obtain ⟨y, hy, e⟩ := h2
        have ha := hA.1 y hy
        rw [if_pos ⟨y, hy, e⟩, swapL_get hk, if_neg (by omega), if_neg (by omega), if_neg (fun ⟨z, hz, e2⟩ => by
          rcases List.mem_cons.1 hz with ez | hz
          · rw [ez] at e2; omega
          · exact h1 ⟨z, hz, e2⟩), if_pos ⟨y, by simp [hy], e⟩]
      · rw [if_neg h2, swapL_get hk]
        by_cases h3 : x.natAbs = i + 1
        · rw [if_pos (show i = x.natAbs - 1 by omega), if_pos ⟨x, by simp, h3⟩]
          congr 1
          omega
        · rw [if_neg (show ¬ i = x.natAbs - 1 by omega)]
          have hno : ¬ ∃ y ∈ x :: g, y.natAbs = i + 1 := fun ⟨z, hz, e2⟩ => by
            rcases List.mem_cons.1 hz with ez | hz
            · rw [ez] at e2; exact h3 e2
            · exact h1 ⟨z, hz, e2⟩
          rw [if_neg hno]
          by_cases h4 : x.natAbs = i
          · rw [if_pos (show i = x.natAbs - 1 + 1 by omega), if_pos ⟨x, by simp, h4⟩]
            congr 1
            omega
          · rw [if_neg (show ¬ i = x.natAbs - 1 + 1 by omega)]
            have hno2 : ¬ ∃ y ∈ x :: g, y.natAbs = i := fun ⟨z, hz, e2⟩ => by
              rcases List.mem_cons.1 hz with ez | hz
              · rw [ez] at e2; exact h4 e2
              · exact h2 ⟨z, hz, e2⟩
            rw [if_neg hno2]
theorem swW_same {n : Nat} {g g' : List Int} (hA : Apart2 g) (hL : Letters n g) (hA' : Apart2 g') (h : ∀ y, y ∈ g' ↔ y ∈ g) {L : List Int} (hn : L.length = n) : swW g' L = swW g L := by
  have hL' : Letters n g' := fun y hy => hL y ((h y).1 hy)
  apply List.ext_getElem?
  intro i
  rw [swW_apart hA hL hn, swW_apart hA' hL' hn]
  simp only [h]
theorem swW_groups {n : Nat} {gs : List (List Int)} (hA : ∀ g ∈ gs, Apart2 g) (hL : ∀ g ∈ gs, Letters n g) {L : List Int} (hn : L.length = n) : swW (gs.flatMap fun g => rowL n g 0) L = swW gs.flatten L := by
  induction gs generalizing L with
  | nil => rfl
  | cons g gs ih =>
    obtain ⟨r1, r2, _⟩ := rowL_whole (hL g (by simp)) (hA g (by simp))
    rw [List.flatMap_cons, swW_append, List.flatten_cons, swW_append, swW_same (hA g (by simp)) (hL g (by simp)) r2 r1 hn]
    exact ih (fun g' h => hA g' (by simp [h])) (fun g' h => hL g' (by simp [h])) (by rw [swW_length]; exact hn)
/-- Sorted without repetition, and within bounds: the identity. -/
theorem sorted_id {q : List Int} {n : Nat} (hl : q.length = n) (hnd : q.Nodup) (hr : ∀ x ∈ q, 0 ≤ x ∧ x < (n : Int)) (hs : firstDes q = none) : q = iotaI n := by
  have step : ∀ (j : Nat) (a b : Int), q[j]? = some a → q[j + 1]? = some b → a < b := fun j a b ha hb => by
    have h1 := firstDes_before (fun k h => by rw [hs] at h; cases h) ha hb
    have h2 : a ≠ b := by
      rintro rfl
      have hj := (List.getElem?_eq_some_iff.1 hb).1
      have := (List.getElem?_inj (by omega) hnd (i := j) (j := j + 1)).1 (by rw [ha, hb])
      omega
    omega
  have lo : ∀ (j : Nat) (a : Int), q[j]? = some a → (j : Int) ≤ a := by
    intro j
    induction j with
    | zero => intro a ha; have := hr a (List.mem_of_getElem? ha); omega
    | succ j ih =>
      intro b hb
      have hj := (List.getElem?_eq_some_iff.1 hb).1
      have ha := List.getElem?_eq_getElem (l := q) (i := j) (by omega)
      have h1 := ih _ ha
      have h2 := step j _ b ha hb
      omega
  have hi : ∀ (t j : Nat) (a : Int), j + t + 1 = n → q[j]? = some a → a ≤ (j : Int) := by
    intro t
    induction t with
    | zero => intro j a hj ha; have := hr a (List.mem_of_getElem? ha); omega
    | succ t ih =>
      intro j a hj ha
      have hb := List.getElem?_eq_getElem (l := q) (i := j + 1) (by omega)
      have h1 := ih (j + 1) _ (by omega) hb
      have h2 := step j a _ ha hb
      omega
  apply List.ext_getElem?
  intro i
  unfold iotaI
  by_cases h : i < n
  · have ha := List.getElem?_eq_getElem (l := q) (i := i) (by omega)
    have h1 := lo i _ ha
    have h2 := hi (n - i - 1) i _ (by omega) ha
    rw [ha, List.getElem?_map, List.getElem?_range h]
    simp only [Option.map_some, Option.some.injEq]
    omega
  · rw [List.getElem?_eq_none (by omega), List.getElem?_eq_none (by simp; omega)]
theorem swapL_perm {k : Nat} {xs : List Int} {a b : Int} (ha : xs[k]? = some a) (hb : xs[k + 1]? = some b) : (swapL k xs).Perm xs := by
  rw [swapL_at ha hb]
  obtain ⟨pre, post, rfl, rfl, _⟩ := decomp ha hb
  rw [swapL_eq]
  exact List.Perm.append_left pre (List.Perm.swap a b post)
theorem invs_sorted {xs : List Int} (h : firstDes xs = none) : invs xs = 0 := by
  induction xs with
  | nil => rfl
  | cons a xs ih =>
    cases xs with
    | nil => rfl
    | cons b xs =>
      rw [firstDes] at h
      split at h
      · cases h
      · rename_i hab
        have h1 : firstDes (b :: xs) = none := by
          cases hf : firstDes (b :: xs) with
          | none => rfl
          | some k => rw [hf] at h; cases h
        have h2 := ih h1
        rw [invs, h2]
        have h3 : xs.countP (fun y => decide (y < b)) = 0 := by
          rw [invs] at h2
          omega
        rw [List.countP_eq_zero] at h3
        have h4 : (b :: xs).countP (fun y => decide (y < a)) = 0 := by
          rw [List.countP_eq_zero]
          intro y hy
          rcases List.mem_cons.1 hy with rfl | hy
          · simpa using hab
          · have := h3 y hy
            simp at this ⊢
            omega
        omega
/-- The letters sort the permutation; there is one for each inversion. -/
theorem permWord_sorts (m : Nat) : ∀ xs : List Int, invs xs = m → (permWord xs).length = m ∧ (swW ((permWord xs).map (· + 1)) xs).Perm xs ∧ firstDes (swW ((permWord xs).map (· + 1)) xs) = none := by
  induction m with
  | zero =>
    intro xs h
    cases hf : firstDes xs with
    | none =>
      rw [permWord_none hf]
      exact ⟨rfl, List.Perm.refl _, hf⟩
    | some k => rw [invs_step hf] at h; omega
  | succ m ih =>
    intro xs h
    cases hf : firstDes xs with
    | none => rw [invs_sorted hf] at h; omega
    | some k =>
      obtain ⟨a, b, ha, hb, _⟩ := firstDes_some hf
      obtain ⟨i1, i2, i3⟩ := ih (swapL k xs) (by rw [invs_step hf] at h; omega)
      have e : ((k : Int) + 1).natAbs - 1 = k := by omega
      rw [permWord_some hf, List.map_cons, swW_cons, e]
      exact ⟨by rw [List.length_cons, i1], i2.trans (swapL_perm ha hb), i3⟩
theorem permGo_of {n : Int} : ∀ {done xs : List Int}, permGo n done xs = true → done.Nodup → (done ++ xs).Nodup ∧ ∀ x ∈ xs, 0 ≤ x ∧ x < n
  | done, [], _, hd => ⟨by simpa using hd, fun x hx => by simp at hx⟩
  | done, x :: xs, h, hd => by
    rw [permGo] at h
    simp only [Bool.and_eq_true, Bool.not_eq_true', decide_eq_false_iff_not] at h
    obtain ⟨⟨h1, h2⟩, h3⟩ := h
    have h4 := inR_iff.1 h1
    have hd2 : (done ++ [x]).Nodup := by
      rw [List.nodup_append]
      refine ⟨hd, by simp, fun a ha b hb => ?_⟩
      rw [List.mem_singleton.1 hb]
      rintro rfl
      exact h2 ha
    obtain ⟨i1, i2⟩ := permGo_of h3 hd2
    refine ⟨by simpa using i1, fun y hy => ?_⟩
    rcases List.mem_cons.1 hy with rfl | hy
    · omega
    · exact i2 y hy
theorem permB_of {p : List Int} (h : permB p = true) : p.Nodup ∧ (∀ x ∈ p, 0 ≤ x ∧ x < (p.length : Int)) ∧ p.length ≤ 12 := by
  have h12 := permB_len h
  unfold permB at h
  simp only [Bool.and_eq_true] at h
  obtain ⟨h1, h2⟩ := permGo_of h.2 (by simp)
  exact ⟨by simpa using h1, h2, h12⟩
theorem perm_sorted {p : List Int} (h : permB p = true) : swW (permLetters p) p = iotaI p.length ∧ (permLetters p).length = invs p := by
  obtain ⟨h1, h2, _⟩ := permB_of h
  obtain ⟨e1, e2, e3⟩ := permWord_sorts (invs p) p rfl
  refine ⟨?_, by rw [permLetters_length, e1]⟩
  unfold permLetters
  refine sorted_id (by rw [swW_length]) (e2.nodup_iff.2 h1) (fun x hx => h2 x (e2.mem_iff.1 hx)) e3
/-- What is written at the places of a list: its inverse. -/
def invTo (at_ : List Int) (n : Nat) : Nat → List Int
  | 0 => List.replicate n 0
  | k + 1 => (invTo at_ n k).set (at_.getD k 0).toNat (k : Int)
theorem invTo_length (at_ : List Int) (n k : Nat) : (invTo at_ n k).length = n := by
  induction k with
  | zero => simp [invTo]
  | succ k ih => rw [invTo, List.length_set, ih]
theorem invTo_at {at_ : List Int} {n : Nat} (hl : at_.length = n) (hnd : at_.Nodup) (hr : ∀ x ∈ at_, 0 ≤ x ∧ x < (n : Int)) (k : Nat) : k ≤ n → ∀ (i : Nat) (a : Int), i < k → at_[i]? = some a → (invTo at_ n k)[a.toNat]? = some (i : Int) := by
  induction k with
  | zero => intro _ i a hi; omega
  | succ k ih =>
    intro hk i a hi ha
    have hx := List.getElem?_eq_getElem (l := at_) (i := k) (by omega)
    rw [invTo, getD_of hx]
    have hxr := hr _ (List.mem_of_getElem? hx)
    have har := hr _ (List.mem_of_getElem? ha)
    by_cases e : i = k
    · subst e
      rw [hx] at ha
      injection ha with ha
      rw [ha, List.getElem?_set_self (by rw [invTo_length]; omega)]
    · rw [List.getElem?_set_ne ?_, ih (by omega) i a (by omega) ha]
      intro e2
      have e3 : at_[k]'(by omega) = a := by omega
      have := (List.getElem?_inj (by omega) hnd (i := i) (j := k)).1 (by rw [ha, hx, e3])
      omega
/-- The permutation of a braid's letters. -/
def permOf (n : Nat) (xs : List Int) : List Int := invTo (swW xs (iotaI n)) n n
theorem iotaN_length (n : Nat) : (iotaI n).length = n := by simp [iotaI]
theorem swW_perm {xs L : List Int} (h : Letters L.length xs) : (swW xs L).Perm L := by
  induction xs generalizing L with
  | nil => exact List.Perm.refl _
  | cons x xs ih =>
    have hx := h x (by simp)
    rw [swW_cons]
    refine (ih fun y hy => by rw [swapL_length]; exact h y (by simp [hy])).trans ?_
    exact swapL_perm (List.getElem?_eq_getElem (by omega)) (List.getElem?_eq_getElem (by omega))
theorem iotaN_mem {n : Nat} {x : Int} : x ∈ iotaI n ↔ 0 ≤ x ∧ x < (n : Int) := by
  unfold iotaI
  rw [List.mem_map]
  constructor
  · rintro ⟨i, hi, rfl⟩
    have := List.mem_range.1 hi
    omega
  · rintro ⟨h1, h2⟩
    exact ⟨x.toNat, List.mem_range.2 (by omega), by omega⟩
theorem iotaN_at {n i : Nat} (h : i < n) : (iotaI n)[i]? = some (i : Int) := by
  unfold iotaI
  rw [List.getElem?_map, List.getElem?_range h]
  rfl
theorem iotaN_nodup (n : Nat) : (iotaI n).Nodup := by
  unfold iotaI List.Nodup
  rw [List.pairwise_map]
  exact (List.nodup_range (n := n)).imp fun h e => h (by omega)
theorem permOf_eq {p xs : List Int} {n : Nat} (hn : p.length = n) (hL : Letters n xs) (hp : p.Nodup) (hr : ∀ x ∈ p, 0 ≤ x ∧ x < (n : Int)) (hs : swW xs p = iotaI n) : permOf n xs = p := by
  have e1 : p = (iotaI n).map fun i => p.getD i.toNat 0 := by
    apply List.ext_getElem?
    intro i
    rw [List.getElem?_map]
    by_cases h : i < n
    · rw [iotaN_at h, List.getElem?_eq_getElem (by omega)]
      simp only [Option.map_some, Int.toNat_natCast]
      rw [getD_of (List.getElem?_eq_getElem (by omega))]
    · rw [List.getElem?_eq_none (by omega), List.getElem?_eq_none (by rw [iotaN_length]; omega)]
      rfl
  have hL' : Letters (iotaI n).length xs := by rw [iotaN_length]; exact hL
  have hperm := swW_perm hL'
  obtain ⟨at_, hat⟩ : ∃ at_, at_ = swW xs (iotaI n) := ⟨_, rfl⟩
  rw [← hat] at hperm
  have hal : at_.length = n := by rw [hperm.length_eq, iotaN_length]
  have hand : at_.Nodup := hperm.nodup_iff.2 (iotaN_nodup n)
  have har : ∀ x ∈ at_, 0 ≤ x ∧ x < (n : Int) := fun x hx => iotaN_mem.1 (hperm.mem_iff.1 hx)
  have hmap : at_.map (fun i => p.getD i.toNat 0) = iotaI n := by
    rw [hat, ← swW_map _ hL', ← e1, hs]
  unfold permOf
  rw [← hat]
  apply List.ext_getElem?
  intro v
  by_cases hv : v < n
  · have hpv := List.getElem?_eq_getElem (l := p) (i := v) (by omega)
    have hu := hr _ (List.mem_of_getElem? hpv)
    obtain ⟨u, hu2⟩ := Int.eq_ofNat_of_zero_le hu.1
    rw [hu2] at hu hpv
    have hau := List.getElem?_eq_getElem (l := at_) (i := u) (by omega)
    have hva := har _ (List.mem_of_getElem? hau)
    have h1 := congrArg (fun l => l[u]?) hmap
    simp only [List.getElem?_map] at h1
    rw [hau, iotaN_at (by omega)] at h1
    simp only [Option.map_some, Option.some.injEq] at h1
    have h2 : p[(at_[u]'(by omega)).toNat]? = some (u : Int) := by
      rw [List.getElem?_eq_getElem (by omega)]
      rw [getD_of (List.getElem?_eq_getElem (by omega))] at h1
      rw [h1]
    have h3 : (at_[u]'(by omega)).toNat = v := (List.getElem?_inj (by omega) hp).1 (by rw [h2, hpv])
    have h4 := invTo_at hal hand har n (Nat.le_refl _) u _ (by omega) hau
    rw [h3] at h4
    rw [h4, hpv]
  · rw [List.getElem?_eq_none (by rw [invTo_length]; omega), List.getElem?_eq_none (by omega)]
theorem letters_of_braid {n : Nat} {xs : List Int} (h : braidB n xs = true) : Letters n xs := by
  obtain ⟨_, _, _, h4⟩ := braidB_of h
  intro x hx
  have := h4 x hx
  omega
/-- The cable of a permutation. -/
theorem cable_perm {p : List Int} {car : Int} (h : copCode p car = 0) :
    ∃ W : List Int, copX p car = ⟨p.length, rowsFrom p.length car (groupsOf (permLetters p)) (-1)⟩ ∧ cbCode p.length (copX p car).xs = 0 ∧ cbX p.length (copX p car).xs = ⟨p.length, W⟩ ∧ permB p = true ∧ permOf p.length W = p ∧ (∀ y ∈ W, ¬ y < 0) ∧ W.length = invs p ∧ braidB p.length W = true := by
  have hp : permB p = true := by
    cases hp : permB p
    · simp [copCode, hp] at h
    · rfl
  unfold copCode at h
  rw [if_pos hp] at h
  have hr : (inR p.length 1 8 && carrierB car) = true := by
    cases hr : inR p.length 1 8 && carrierB car
    · rw [cowCode, if_neg (by rw [hr]; decide)] at h; simp at h
    · rfl
  unfold cowCode at h
  rw [if_pos hr] at h
  have hk : (pack (permLetters p)).length ≤ 8 ∧ (permLetters p).length ≤ 40 := by
    apply Classical.byContradiction
    intro hk
    rw [if_neg hk] at h
    simp at h
  rw [Bool.and_eq_true] at hr
  have hn := inR_iff.1 hr.1
  obtain ⟨hb, _⟩ := perm_braid (p := p) (by omega)
  have hL := letters_of_braid hb
  obtain ⟨c1, c2, c3, c4, c5⟩ := cable_of hL hk.2 hk.1 (by omega) hr.2
  have hX : copX p car = ⟨p.length, rowsFrom p.length car (groupsOf (permLetters p)) (-1)⟩ := by
    have e : cowCode p.length (permLetters p) car = 0 := by
      unfold cowCode
      rw [hr.1, hr.2, if_pos (show (true && true) = true from rfl), if_pos hk]
    rw [copX, if_pos hp, cowX, if_pos e]
    rfl
  obtain ⟨h1, h2, _⟩ := permB_of hp
  obtain ⟨s1, s2⟩ := perm_sorted hp
  obtain ⟨g1, g2, _⟩ := groups_facts (permLetters p)
  have gL := groups_letters hL
  obtain ⟨W, hW⟩ : ∃ W, W = (groupsOf (permLetters p)).flatMap fun g => rowL p.length g 0 := ⟨_, rfl⟩
  rw [← hW] at c4 c5
  have hmem : ∀ y ∈ W, y ∈ permLetters p := by
    intro y hy
    rw [hW, List.mem_flatMap] at hy
    obtain ⟨g, hg, hy⟩ := hy
    rw [← g2]
    exact List.mem_flatten.2 ⟨g, hg, ((rowL_whole (gL g hg) (g1 g hg)).1 y).1 hy⟩
  have hLW : Letters p.length W := fun y hy => hL y (hmem y hy)
  refine ⟨W, hX, by rw [hX]; exact c3, by rw [hX]; exact c4, hp, ?_, fun y hy => ?_, by rw [c5, s2], ?_⟩
  · refine permOf_eq rfl hLW h1 h2 ?_
    rw [hW, swW_groups g1 gL rfl, g2]
    exact s1
  · have := hmem y hy
    rw [permLetters, List.mem_map] at this
    obtain ⟨x, hx, rfl⟩ := this
    have := permWord_mem p x hx
    omega
  · unfold braidB lettersB
    simp only [Bool.and_eq_true, decide_eq_true_eq, List.all_eq_true]
    refine ⟨⟨inR_iff.2 (by omega), by omega⟩, fun y hy => ?_⟩
    have := hLW y hy
    unfold letterB
    rw [Bool.and_eq_true, decide_eq_true_eq, inR_iff]
    omega
theorem invs_snoc (xs : List Int) (y : Int) : invs (xs ++ [y]) = invs xs + xs.countP fun x => decide (y < x) := by
  induction xs with
  | nil => rfl
  | cons x xs ih =>
    rw [List.cons_append, invs, invs, ih, List.countP_append, List.countP_cons, List.countP_cons]
    simp
    omega

end Go.Proofs.YthjamohaeahipaaGreat
