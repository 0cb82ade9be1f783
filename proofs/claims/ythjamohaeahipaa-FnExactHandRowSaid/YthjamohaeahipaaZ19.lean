/- Steps of the proof, joined from several texts: HW HX. -/
import Derived.Test.YthjamohaeahipaaZ16
import Derived.Test.YthjamohaeahipaaZ17
import Derived.Test.YthjamohaeahipaaZ18

/- Knitting by hand, the program's side: a row. -/
namespace Go.Proofs.Ythjamohaeahipaa
open Go Go.RowKit

theorem rowD_order {d r : Int} {ks : List Int} (h : rowB d r ks = true) : dirB d = true := by
  unfold rowB at h
  simp only [Bool.and_eq_true] at h
  exact h.1.1
theorem stacks_len {st ks : List Int} (h1 : stacksB st = true) (h2 : stitchesB ks = true) (h : takenS ks ≠ st.length) : (stacksAfterP st ks).2 = 10 := by
  unfold stacksAfterP
  rw [h1, h2]
  simp [h]

theorem impl_hmake {z : Option (Nat × Array Value)} {lo g m : Nat} {d car : Int} {AK : Option Addr} {ck : Nat} {ks : List Int} {s : HS} {S : Int} {w : World} (h : IHd z lo g d car (.slice AK ks.length ck) w s) (hG : GoodC m s.cells S) (hS : S ≤ 100) (hm : m ≤ 16) {i : Nat} {c : List Int} (hx : s.cells[i]? = some c) {k : Int} (hks : Ints w AK ks) (hk : ks[i]? = some k) (hst : isStitchB k = true) (h1 : k ≠ 3 → 1 ≤ c.length) (hl : s.evs.length ≤ 90000) (hd : d = 1 ∨ d = -1) :
    Calls Try.prog 47 #[.pointer (some ⟨g, 0, none⟩), .int .i64 (i : Int)] w fun e w' =>
      e = .returned (.tuple #[]) ∧ IHd z lo g d car (.slice AK ks.length ck) w' (makeTo d car k i c s) ∧ Below lo w w' := by
  rcases hd with rfl | rfl
  · exact impl_hmake_p h hG hS hm hx hks hk hst h1 hl
  · exact impl_hmake_n h hG hS hm hx hks hk hst h1 hl
/-- All columns, joined. -/
theorem hand_concat {m : Nat} {cs : List (List Int)} {S : Int} (hG : GoodC m cs S) (hm : m ≤ 16) {A : Option Addr} {c : Nat} {w : World} (h : Ints2 w A cs) {xs : List Int} (hx : cs.flatten = xs) :
    Calls Try.prog 48 #[.slice A m c] w fun e w' => ∃ A' c', e = .returned (.slice A' xs.length c') ∧ OwnI w' w.heap.size w'.heap.size A' c' xs ∧ Below w.heap.size w w' := by
  subst hx
  have hc := cells_cnt hG hm
  have := slices_Concat_int64_int64 (cs.map partOf) A c w h.slices (by rw [List.length_map, hG.len]; omega) (by rw [partsN_of]; omega)
  rw [List.length_map, hG.len, partsN_of, partsC_of, ← length_flatten] at this
  exact this
theorem tot_flatten (cs : List (List Int)) : sumI cs.flatten = tot cs := by
  induction cs with
  | nil => rfl
  | cons x r ih => rw [List.flatten_cons, sumI_append, tot, ih]
theorem flatten_nn {cs : List (List Int)} (h : ∀ c ∈ cs, NN c) : NN cs.flatten := by
  intro x hx
  obtain ⟨c, hc, hx⟩ := List.mem_flatten.1 hx
  exact h c hc x hx

set_option maxHeartbeats 4000000 in
set_option maxRecDepth 10000 in
theorem impl_knitRow (d r : Int) (ks st : List Int) (A B : Option Addr) (c c2 : Nat) (w : World) (h : Ints w A ks) (h' : Ints w B st) (hc0 : st.length ≤ c2) (hcm : c2 ≤ 9223372036854775807) (hn : (B = none ∧ c2 = 0) ∨ ∃ b off, B = some ⟨b, off, none⟩) (hv : rowB d r ks = true) (hs : sizesB st = true) :
    Calls Try.prog 24 #[.agg #[.int .i64 d, .int .i64 r, .slice A ks.length c], .slice B st.length c2] w fun e w' => ∃ A1 c1 A2 c2, e = .returned (.tuple #[.slice A1 (hrEvs d r ks st).length c1, .slice A2 (hrAfter d r ks st).length c2, .int .i64 (hrCode d r ks st)]) ∧
      OwnEvent w' w.heap.size w'.heap.size A1 c1 (hrEvs d r ks st) ∧ OwnI w' w.heap.size w'.heap.size A2 c2 (hrAfter d r ks st) ∧ Below w.heap.size w w' := by
  have HOK : Hid (hrOk d r ks st = true) := Lib.hid (by rw [hrOk, hv, hs]; rfl)
  obtain ⟨hd, _, hks, hl16⟩ := rowB_of hv
  have HDB := Lib.hid (rowD_order hv)
  have hsb : stacksB st = true := by
    have h1 := hs
    unfold sizesB at h1
    simp only [Bool.and_eq_true] at h1
    exact h1.1.2
  have hst8 : st.length ≤ 8 := by
    unfold stacksB at hsb
    simp only [Bool.and_eq_true, decide_eq_true_eq] at hsb
    exact hsb.2
  have HKS := Lib.hid hks
  have HSZ := Lib.hid hs
  have HM := Lib.hid (stitchesB_of hks).2
  obtain ⟨w1, hw1⟩ : ∃ w1, w1 = w.alloc (.cells #[.int .i64 d, .int .i64 r, .slice A ks.length c] 29) := ⟨_, rfl⟩
  have hb1 : Below w.heap.size w w1 := by rw [hw1]; (repeat (first | exact Below.refl _ _ | assumption | apply Below.drew | apply below_drewN | (refine Below.alloc ?_ (by first | omega | (simp; done) | (simp; omega)) _) | (refine Below.setCell ?_ (by first | omega | (simp; done) | (simp; omega)) _)))
  have ka : Blk w1 w.heap.size 29 #[.int .i64 d, .int .i64 r, .slice A ks.length c] := by rw [hw1]; exact Blk.new w _ _
  have HZ1 : Hid (w1.heap.size ≤ w.heap.size + 1) := Lib.hid (by rw [hw1]; simp)
  obtain ⟨k0, k1, k2⟩ := ka.c3
  by_cases ht : takenS ks = st.length
  · have ht' : ((takenS ks : Int) != (st.length : Int)) = false := by simp [ht]
    have HT := Lib.hid ht
    by_cases h0 : (stacksAfterP st ks).2 = 0
    · have HF := Lib.hid (hr_go HOK.out h0)
      have d0 : ((stacksAfterP st ks).2 != 0) = false := by simp [h0]
      have hNN : NN st := by
        intro x hx
        have h1 := hsb
        unfold stacksB at h1
        simp only [Bool.and_eq_true, List.all_eq_true] at h1
        have := inR_iff.1 (h1.1 x hx)
        omega
      have hS12 : sumI st ≤ 12 := by
        have h1 := hs
        unfold sizesB stacksB at h1
        simp only [Bool.and_eq_true, List.all_eq_true, decide_eq_true_eq] at h1
        have h2 : tinyB st := fun x hx => by have := inR_iff.1 (h1.1.2.1 x hx); omega
        have h3 := sumI_le h2
        have h4 := sum64_sumI hNN (by omega)
        omega
      have HMO := Lib.hid (MakeOk.start (crossN_ok hNN HM.out ht hS12 ks.length (Nat.le_refl _)) HM.out hl16 hS12)
      have HHS : Hid (handS d r ks st = makeN d r ks (orderP d ks.length) ks.length (crossN ks ks.length ⟨[], cutC ks st⟩)) := Lib.hid rfl
      have hOL := Lib.hid (orderP_length d ks.length)
      clear h0 ht hNN hsb hks hv hs
      go_enter Try.func24, Try.ntmps24
      go_wp2_with (fail)
      rw [← hw1]; clear hw1
      refine (impl_takenBy _ _ _ _ (h.below hb1) HKS.out).mono ?_; rintro e _ ⟨rfl, rfl⟩
      go_wp2_with (fail)
      refine (impl_StacksAfter st ks B c2 A c _ (h'.below hb1) (by omega) hc0 hcm hn (h.below hb1) (by omega)).mono ?_; rintro e w2 ⟨A9, c9, rfl, _, b2⟩
      have B2 : Below w.heap.size w w2 := hb1.trans (b2.mono hb1.size)
      have ka2 := ka.below b2 ka.lt
      obtain ⟨m0, m1, m2⟩ := ka2.c3
      have hz2 := B2.size
      obtain ⟨w3, hw3⟩ : ∃ w3, w3 = w2.alloc (.cells #[.int .i64 d, .int .i64 r, .slice A ks.length c, .slice none 0 0, .slice none 0 0] 65) := ⟨_, rfl⟩
      have hb3 : Below w2.heap.size w2 w3 := by rw [hw3]; (repeat (first | exact Below.refl _ _ | assumption | apply Below.drew | apply below_drewN | (refine Below.alloc ?_ (by first | omega | (simp; done) | (simp; omega)) _) | (refine Below.setCell ?_ (by first | omega | (simp; done) | (simp; omega)) _)))
      have hzw1 : w1.heap.size = w.heap.size + 1 := by have h1 := ka.lt; have h2 : w1.heap.size ≤ w.heap.size + 1 := HZ1.out; omega
      have hz12 := b2.size
      have hI3 : IHd none w1.heap.size w2.heap.size d r (.slice A ks.length c) w3 ⟨[], []⟩ := by
        refine ⟨⟨none, 0, none, 0, by rw [hw3]; exact Blk.new w2 _ _, OwnC.nil _ _ _ _ _, OwnIIz.none ⟨[], OwnC.nil _ _ _ _ _, ⟨rfl, fun k xs hx => by simp at hx, fun i j v v' g hi' => by simp at hi'⟩⟩⟩, hz12⟩
      have B3 : Below w.heap.size w w3 := B2.trans (hb3.mono hz2)
      have ka3 := ka2.below hb3 ka2.lt
      obtain ⟨g, hg⟩ : ∃ g, g = w2.heap.size := ⟨_, rfl⟩
      rw [← hg] at hI3
      have HB3 := Lib.hid hb3
      clear hb3
      go_upto_region 7 with fail
      rw [← hw3, ← hg]
      have HGE : Hid (g = w2.heap.size) := Lib.hid hg
      clear hw3 hg m0 m1 m2 k0 k1 k2
      go_wp2_with (fail)
      have HZW := Lib.hid hzw1
      have hgl : w.heap.size < w1.heap.size := by omega
      have hlw : w.heap.size ≤ w1.heap.size := by omega
      clear hzw1
      refine (impl_hbegin hI3 (fun w' hb => h.below (B3.trans (hb.mono hlw))) HKS.out (h'.below B3) HSZ.out HT.out).mono ?_; rintro e w4 ⟨rfl, h4, b4⟩
      have B4 : Below w.heap.size w w4 := B3.trans (b4.mono hlw)
      have ka4 := ka3.below b4 hgl
      generalize crossN ks ks.length ⟨[], cutC ks st⟩ = s0 at *
      obtain ⟨m0, m1, m2⟩ := ka4.c3
      have hz4 := B4.size
      go_wp2_with (fail)
      refine (impl_orderY d r A c ks _ (by omega) HDB.out).mono ?_; rintro e w5 ⟨AO, cO, rfl, o5, b5⟩
      have B5 : Below w.heap.size w w5 := B4.trans (b5.mono hz4)
      obtain ⟨z, hz1, hz2'⟩ : ∃ z, IHd z w1.heap.size g d r (.slice A ks.length c) w5 s0 ∧ ∀ w' s', IHd z w1.heap.size g d r (.slice A ks.length c) w' s' → Ints w' AO (orderP d ks.length) := by
        have o5' : OwnI w5 w4.heap.size w5.heap.size AO cO (orderP d ks.length) := by
          show OwnC _ _ _ _ _ _ _ _ _
          rw [hOL.out]
          exact o5
        have hi5 := o5'.ints
        rcases o5.form with ⟨h1, h2, _⟩ | ⟨q, cur, rfl, h3, h4', h5, _⟩
        · refine ⟨none, h4.below b5, fun w' s' _ k hk => ?_⟩
          rw [hOL.out] at hk
          omega
        · exact ⟨some (q, cur), h4.seal_ b5 h3 h5, fun w' s' hs' => hi5.blk h5 hs'.apart⟩
      clear h4 b4 o5 b5 B3 B4 m0 m1 m2 ka3 ka4 hI3
      go_wp2_with (fail)
      go_loopw [37] (fun iv ws => ∃ (n : Nat) (sn : HS), n ≤ ks.length ∧ iv = .int .i64 n ∧ Hid (makeN d r ks (orderP d ks.length) n s0 = some sn) ∧ IHd z w1.heap.size g d r (.slice A ks.length c) ws sn ∧ Hid (MakeOk ks n sn) ∧ Below w.heap.size w ws) (fun iv _ => ks.length - (intOf iv).toNat)
      case atStart => exact ⟨0, s0, Nat.zero_le _, rfl, Lib.hid rfl, hz1, HMO, B5⟩
      case round =>
        clear hz1 B5
        obtain ⟨n, sn, hnn, rfl, HN, hsn, HO, hbn⟩ := hrel
        by_cases hnl : n < ks.length
        · obtain ⟨b, off, x, rfl, hcx, hx⟩ := (hz2' wr sn hsn) n (by rw [hOL.out]; exact hnl)
          obtain ⟨q, rfl, hq⟩ := orderP_in hx
          obtain ⟨kd, hkd⟩ : ∃ kd, ks[q]? = some kd := ⟨_, List.getElem?_eq_getElem hq⟩
          have hkk := HM.out kd (List.mem_of_getElem? hkd)
          obtain ⟨cc, hc, h6, hms, ⟨S1, hS1, hG1⟩, hev1, hok⟩ := makeStep_ok HO.out d r hkd
          obtain ⟨S, hS, hG⟩ := HO.out.good
          have hev := HO.out.evs
          have CC := Lib.hid (impl_hmake hsn hG (by omega) hl16 hc (h.below hbn) hkd hkk h6 (by omega) hd)
          have HMS : Hid (makeN d r ks (orderP d ks.length) (n + 1) s0 = if 12 < tot (makeTo d r kd q cc sn).cells then none else some (makeTo d r kd q cc sn)) := Lib.hid (by
            have hgd : (orderP d ks.length).getD n 0 = (q : Int) := by rw [List.getD_eq_getElem?_getD, hx]; rfl
            rw [makeN, HN.out]
            show (if 12 < tot (makeStep d r ks ((orderP d ks.length).getD n 0).toNat sn).cells then none else some (makeStep d r ks ((orderP d ks.length).getD n 0).toNat sn)) = _
            rw [hgd, Int.toNat_natCast, hms])
          have HOK2 := Lib.hid hok
          have HG1 := Lib.hid hG1
          clear hms hok hG1 HN hev1 hx hc h6 hG
          generalize makeTo d r kd q cc sn = s2 at *
          have dk3 : decide ((n : Int) < (ks.length : Int)) = true := decide_eq_true (by omega)
          have u1 : (0 : Int) ≤ (n : Int) := by omega
          have u2 : (n : Int) < (ks.length : Int) := by omega
          have hzn := hsn.lt
          clear hsn
          go_wp2_with (fail)
          refine CC.out.mono ?_; rintro e w9 ⟨rfl, h9, b9⟩
          obtain ⟨AC9, cC9, _, _, _, p9, hi9, _⟩ := h9.read
          rw [HG1.out.len] at p9
          obtain ⟨FL, hFL⟩ : ∃ FL, s2.cells.flatten = FL := ⟨_, rfl⟩
          have CN := Lib.hid (hand_concat HG1.out hl16 (c := cC9) hi9 hFL)
          have hnnS : sum64 FL = tot s2.cells := by
            rw [← hFL]
            have h1 := flatten_nn (fun c hc => (HG1.out.nn c hc).1)
            have h2 := tot_flatten s2.cells
            rw [sum64_sumI h1 (by rw [h2, HG1.out.sum]; omega), h2]
          have HSUM := Lib.hid hnnS
          have hfl : FL.length ≤ 64 := by rw [← hFL, length_flatten]; exact cells_cnt HG1.out hl16
          have HNONE : Hid (12 < tot s2.cells → handS d r ks st = none) := Lib.hid (fun h12 => by rw [HHS.out]; exact makeN_none (n := n + 1) (by rw [HMS.out, if_pos h12]) ks.length (by omega))
          have B9 : Below w.heap.size w w9 := hbn.trans (b9.mono hlw)
          have hz9 := B9.size
          clear hi9 hnnS hFL
          by_cases h12 : 12 < tot s2.cells
          · have d12 : decide (12 < tot s2.cells) = true := decide_eq_true h12
            have HE := Lib.hid (hand_none (HNONE.out h12))
            have HC : Hid (hrCode d r ks st = 5) := Lib.hid (by rw [HF.out.1, HNONE.out h12]; rfl)
            clear h12
            go_wp2_with (fail)
            refine CN.out.mono ?_; rintro e w10 ⟨A10, c10, rfl, o10, b10⟩
            go_wp2_with (fail)
            refine (impl_sumOf A10 c10 _ w10 o10.ints (by omega)).mono ?_; rintro e _ ⟨rfl, rfl⟩
            rw [HSUM.out]
            go_wp2_with (fail)
            go_ret3
            exact ⟨none, 0, none, 0, by rw [HC.out, HF.out.2.1, HF.out.2.2, HE.out.1, HE.out.2]; rfl, by rw [HF.out.2.1, HE.out.1]; exact OwnC.nil _ _ _ _ _, by rw [HF.out.2.2, HE.out.2]; exact OwnC.nil _ _ _ _ _, B9.trans (b10.mono hz9)⟩
          · have d12 : decide (12 < tot s2.cells) = false := decide_eq_false h12
            have H12 : Hid (tot s2.cells ≤ 12) := Lib.hid (by omega)
            clear h12
            go_wp2_with (fail)
            refine CN.out.mono ?_; rintro e w10 ⟨A10, c10, rfl, o10, b10⟩
            go_wp2_with (fail)
            refine (impl_sumOf A10 c10 _ w10 o10.ints (by omega)).mono ?_; rintro e _ ⟨rfl, rfl⟩
            rw [HSUM.out]
            go_wp2_with (fail)
            exact ⟨⟨n + 1, s2, by omega, by go_num, Lib.hid (by rw [HMS.out, if_neg (by have := H12.out; omega)]), h9.below b10, Lib.hid (HOK2.out H12.out), B9.trans (b10.mono hz9)⟩, by first | (simp [intOf]; done) | (simp [intOf]; omega)⟩
        · obtain rfl : n = ks.length := by omega
          have dk3 : decide ((ks.length : Int) < (ks.length : Int)) = false := decide_eq_false (by omega)
          have hsome : handS d r ks st = some sn := by rw [HHS.out, HN.out]
          obtain ⟨FL, hFL⟩ : ∃ FL, sn.cells.flatten = FL := ⟨_, rfl⟩
          have HE := Lib.hid (hand_some hsome)
          have HFL := Lib.hid hFL
          have HC : Hid (hrCode d r ks st = 0) := Lib.hid (by rw [HF.out.1, hsome]; rfl)
          obtain ⟨S, hS, hG⟩ := HO.out.good
          obtain ⟨⟨AE, cE, AC, cC, hk9, ho9, hc9⟩, hlo9⟩ := hsn
          have hi9 := hc9.ints2
          have CN := Lib.hid (hand_concat hG hl16 (c := cC) (hi9.drewN 1) hFL)
          rw [hG.len] at hk9
          obtain ⟨_, _, _, v3, v4⟩ := hk9.c5
          clear hsome hG HO HN HHS hi9 hc9 hFL
          have hzn := hbn.size
          go_upto_region 15 with fail
          (refine wp_region_pops 0 (S := (fun W' => W'.cell? ⟨g, 3, none⟩ = some (.slice AC ks.length cC) ∧ W'.cell? ⟨g, 4, none⟩ = some (.slice AE sn.evs.length cE))) (pre := ?_) (T := ?_) (n := ?_) (by kernel_rfl) (by kernel_rfl) ?_ ?_ ?_ ?_ (fun hHeld => ?_); rotate_left 3; (focus (simp only [pops]; rfl)); (focus (simp only [tailOf]; rfl)); (focus rfl); (focus (exact ⟨v3, v4⟩)))
          ((refine wpAnyH_take (i := 0) (v := ?_) rfl (by kernel_rfl) (by kernel_rfl) (by kernel_rfl) (fun _ _ _ h => h) (Or.inl ⟨by rfl, ?_⟩) (by assumption) ?_; rotate_left; (focus (intro W hSw; (try dsimp only at hSw); go_simp; try (with_reducible rfl)))); (try simp only [List.getElem_toArray, List.getElem_cons_zero, Act.put, List.setIfInBounds_toArray, List.set_cons_zero, List.set_cons_succ]); (refine wpAnyH_take (i := 1) (v := ?_) rfl (by kernel_rfl) (by kernel_rfl) (by kernel_rfl) (fun _ _ _ h => h) (Or.inl ⟨by rfl, ?_⟩) (by assumption) ?_; rotate_left; (focus (intro W hSw; (try dsimp only at hSw); go_simp; try (with_reducible rfl)))); (try simp only [List.getElem_toArray, List.getElem_cons_zero, List.getElem_cons_succ, Act.put, List.setIfInBounds_toArray, List.set_cons_zero, List.set_cons_succ]); (refine wpAnyH_take (i := 2) (v := ?_) rfl (by kernel_rfl) (by kernel_rfl) (by kernel_rfl) (fun _ _ _ h => h) (Or.inl ⟨by rfl, ?_⟩) (by assumption) ?_; rotate_left; (focus (intro W hSw; (try dsimp only at hSw); go_simp; try (with_reducible rfl)))); (try simp only [List.getElem_toArray, List.getElem_cons_zero, List.getElem_cons_succ, Act.put, List.setIfInBounds_toArray, List.set_cons_zero, List.set_cons_succ]); (refine wpAnyH_take (i := 3) (v := ?_) rfl (by kernel_rfl) (by kernel_rfl) (by kernel_rfl) (fun _ _ _ h => h) (Or.inl ⟨by rfl, ?_⟩) (by assumption) ?_; rotate_left; (focus (intro W hSw; (try dsimp only at hSw); go_simp; try (with_reducible rfl)))); (try simp only [List.getElem_toArray, List.getElem_cons_zero, List.getElem_cons_succ, Act.put, List.setIfInBounds_toArray, List.set_cons_zero, List.set_cons_succ]); (refine wpAnyH_take (i := 4) (v := ?_) rfl (by kernel_rfl) (by kernel_rfl) (by kernel_rfl) (fun _ _ _ h => h) (Or.inl ⟨by rfl, ?_⟩) (by assumption) ?_; rotate_left; (focus (intro W hSw; (try dsimp only at hSw); go_simp; try (with_reducible rfl)))); (try simp only [List.getElem_toArray, List.getElem_cons_zero, List.getElem_cons_succ, Act.put, List.setIfInBounds_toArray, List.set_cons_zero, List.set_cons_succ]); (refine wpAnyH_take (i := 5) (v := ?_) rfl (by kernel_rfl) (by kernel_rfl) (by kernel_rfl) (fun _ _ _ h => h) (Or.inl ⟨by rfl, ?_⟩) (by assumption) ?_; rotate_left; (focus (intro W hSw; (try dsimp only at hSw); go_simp; try (with_reducible rfl)))); (try simp only [List.getElem_toArray, List.getElem_cons_zero, List.getElem_cons_succ, Act.put, List.setIfInBounds_toArray, List.set_cons_zero, List.set_cons_succ]); (refine wpAnyH_take (i := 6) (v := ?_) rfl (by kernel_rfl) (by kernel_rfl) (by kernel_rfl) (fun _ _ _ h => h) (Or.inl ⟨by rfl, ?_⟩) (by assumption) ?_; rotate_left; (focus (intro W hSw; (try dsimp only at hSw); go_simp; try (with_reducible rfl)))); (try simp only [List.getElem_toArray, List.getElem_cons_zero, List.getElem_cons_succ, Act.put, List.setIfInBounds_toArray, List.set_cons_zero, List.set_cons_succ]); (refine wpAnyH_take (i := 7) (v := ?_) rfl (by kernel_rfl) (by kernel_rfl) (by kernel_rfl) (fun _ _ _ h => h) (Or.inl ⟨by rfl, ?_⟩) (by assumption) ?_; rotate_left; (focus (intro W hSw; (try dsimp only at hSw); go_simp; try (with_reducible rfl)))); (try simp only [List.getElem_toArray, List.getElem_cons_zero, List.getElem_cons_succ, Act.put, List.setIfInBounds_toArray, List.set_cons_zero, List.set_cons_succ]))
          (refine wpAnyH_ready (rs := [8]) (by kernel_rfl) (by simp) ?_; refine AllReadyH.cons rfl (fun K hK => ?_) AllReadyH.nil)
          go_simp
          refine CN.out.mono ?_; rintro e w10 ⟨A10, c10, rfl, o10, b10⟩
          have hb10 : Below wr.heap.size wr w10 := (below_drewN (Below.refl _ _) 1).trans b10
          refine hK.out _ _ ⟨cells_below hb10 _ _ v3, cells_below hb10 _ _ v4⟩ (fun hHeld => ?_)
          clear hK K
          (try simp only [List.getElem_toArray, List.getElem_cons_zero, List.getElem_cons_succ, Act.put, List.setIfInBounds_toArray, List.set_cons_zero, List.set_cons_succ])
          ((refine wpAnyH_take (i := 9) (v := ?_) rfl (by kernel_rfl) (by kernel_rfl) (by kernel_rfl) (fun _ _ _ h => h) (Or.inl ⟨by rfl, ?_⟩) (by assumption) ?_; rotate_left; (focus (intro W hSw; (try dsimp only at hSw); go_simp; try (with_reducible rfl)))); (try simp only [List.getElem_toArray, List.getElem_cons_zero, List.getElem_cons_succ, Act.put, List.setIfInBounds_toArray, List.set_cons_zero, List.set_cons_succ]); (refine wpAnyH_take (i := 10) (v := ?_) rfl (by kernel_rfl) (by kernel_rfl) (by kernel_rfl) (fun _ _ _ h => h) (Or.inl ⟨by rfl, ?_⟩) (by assumption) ?_; rotate_left; (focus (intro W hSw; (try dsimp only at hSw); go_simp; try (with_reducible rfl)))); (try simp only [List.getElem_toArray, List.getElem_cons_zero, List.getElem_cons_succ, Act.put, List.setIfInBounds_toArray, List.set_cons_zero, List.set_cons_succ]); (refine wpAnyH_take (i := 11) (v := ?_) rfl (by kernel_rfl) (by kernel_rfl) (by kernel_rfl) (fun _ _ _ h => h) (Or.inl ⟨by rfl, ?_⟩) (by assumption) ?_; rotate_left; (focus (intro W hSw; (try dsimp only at hSw); go_simp; try (with_reducible rfl)))); (try simp only [List.getElem_toArray, List.getElem_cons_zero, List.getElem_cons_succ, Act.put, List.setIfInBounds_toArray, List.set_cons_zero, List.set_cons_succ]))
          (refine wpAnyH_done (by kernel_rfl) ?_ _; change wpList _ _ _ _ _ _)
          clear hHeld
          go_wp2_with (fail)
          go_ret3
          refine ⟨AE, cE, A10, c10, by rw [HC.out, HF.out.2.1, HF.out.2.2, HE.out.1, HE.out.2, HFL.out]; rfl, ?_, ?_, hbn.trans (hb10.mono hzn)⟩
          · rw [HF.out.2.1, HE.out.1]
            exact (OwnC.below ho9 hb10 (Nat.le_refl _)).mono hlw hb10.size
          · rw [HF.out.2.2, HE.out.2, HFL.out]
            exact OwnC.mono o10 hzn (Nat.le_refl _)
    · have HF := Lib.hid (hr_code HOK.out h0)
      have d0 : ((stacksAfterP st ks).2 != 0) = true := by simp [h0]
      clear h0
      go_enter Try.func24, Try.ntmps24
      go_wp2_with (fail)
      rw [← hw1]; clear hw1
      refine (impl_takenBy _ _ _ _ (h.below hb1) HKS.out).mono ?_; rintro e _ ⟨rfl, rfl⟩
      go_wp2_with (fail)
      refine (impl_StacksAfter st ks B c2 A c _ (h'.below hb1) (by omega) hc0 hcm hn (h.below hb1) (by omega)).mono ?_; rintro e w2 ⟨A9, c9, rfl, _, b2⟩
      have B2 : Below w.heap.size w w2 := hb1.trans (b2.mono hb1.size)
      go_wp2_with (fail)
      go_ret3
      exact ⟨none, 0, none, 0, by rw [HF.out.1, HF.out.2.1, HF.out.2.2]; rfl, by rw [HF.out.2.1]; exact OwnC.nil _ _ _ _ _, by rw [HF.out.2.2]; exact OwnC.nil _ _ _ _ _, B2⟩
  · have ht' : ((takenS ks : Int) != (st.length : Int)) = true := by simp; omega
    have hc10 := stacks_len hsb HKS.out ht
    have HF := Lib.hid (hr_code HOK.out (by rw [hc10]; decide))
    have HC10 := Lib.hid hc10
    clear hc10 ht
    go_enter Try.func24, Try.ntmps24
    go_wp2_with (fail)
    rw [← hw1]; clear hw1
    refine (impl_takenBy _ _ _ _ (h.below hb1) HKS.out).mono ?_; rintro e _ ⟨rfl, rfl⟩
    go_wp2_with (fail)
    go_ret3
    exact ⟨none, 0, none, 0, by rw [HF.out.1, HF.out.2.1, HF.out.2.2, HC10.out]; rfl, by rw [HF.out.2.1]; exact OwnC.nil _ _ _ _ _, by rw [HF.out.2.2]; exact OwnC.nil _ _ _ _ _, hb1⟩

set_option maxHeartbeats 1000000 in
theorem impl_HandRow (d r : Int) (ks st : List Int) (A B : Option Addr) (c c2 : Nat) (w : World) (h : Ints w A ks) (hl : ks.length ≤ 9223372036854775807) (h' : Ints w B st) (hl' : st.length ≤ 9223372036854775807) (hc0 : st.length ≤ c2) (hcm : c2 ≤ 9223372036854775807) (hn : (B = none ∧ c2 = 0) ∨ ∃ b off, B = some ⟨b, off, none⟩) :
    Calls Try.prog 8 #[.agg #[.int .i64 d, .int .i64 r, .slice A ks.length c], .slice B st.length c2] w fun e w' => ∃ A1 c1 A2 c2, e = .returned (.tuple #[.slice A1 (hrEvs d r ks st).length c1, .slice A2 (hrAfter d r ks st).length c2, .int .i64 (hrCode d r ks st)]) ∧
      OwnEvent w' w.heap.size w'.heap.size A1 c1 (hrEvs d r ks st) ∧ OwnI w' w.heap.size w'.heap.size A2 c2 (hrAfter d r ks st) ∧ Below w.heap.size w w' := by
  obtain ⟨w1, hw1⟩ : ∃ w1, w1 = w.alloc (.cells #[.int .i64 d, .int .i64 r, .slice A ks.length c] 29) := ⟨_, rfl⟩
  have hb1 : Below w.heap.size w w1 := by rw [hw1]; (repeat (first | exact Below.refl _ _ | assumption | apply Below.drew | apply below_drewN | (refine Below.alloc ?_ (by first | omega | (simp; done) | (simp; omega)) _) | (refine Below.setCell ?_ (by first | omega | (simp; done) | (simp; omega)) _)))
  have ka : Blk w1 w.heap.size 29 #[.int .i64 d, .int .i64 r, .slice A ks.length c] := by rw [hw1]; exact Blk.new w _ _
  obtain ⟨k0, k1, k2⟩ := ka.c3
  cases hv : rowB d r ks
  · have HF := Lib.hid (hr_bad (d := d) (r := r) (ks := ks) (st := st) (by rw [hrOk, hv]; rfl))
    go_enter Try.func8, Try.ntmps8
    go_wp2_with (fail)
    rw [← hw1]; clear hw1
    refine (impl_ValidRow d r A c ks _ (h.below hb1) hl).mono ?_; rintro e w2 ⟨rfl, b2⟩
    have hb2 : Below w.heap.size w w2 := hb1.trans (b2.mono hb1.size)
    rw [hv]
    go_wp2_with (fail)
    go_ret3
    exact ⟨none, 0, none, 0, by rw [HF.out.1, HF.out.2.1, HF.out.2.2]; rfl, by rw [HF.out.2.1]; exact OwnC.nil _ _ _ _ _, by rw [HF.out.2.2]; exact OwnC.nil _ _ _ _ _, hb2⟩
  · cases hs : sizesB st
    · have HF := Lib.hid (hr_bad (d := d) (r := r) (ks := ks) (st := st) (by rw [hrOk, hv, hs]; rfl))
      go_enter Try.func8, Try.ntmps8
      go_wp2_with (fail)
      rw [← hw1]; clear hw1
      refine (impl_ValidRow d r A c ks _ (h.below hb1) hl).mono ?_; rintro e w2 ⟨rfl, b2⟩
      have hb2 : Below w.heap.size w w2 := hb1.trans (b2.mono hb1.size)
      rw [hv]
      go_wp2_with (fail)
      refine (impl_ValidSizes B c2 st _ (h'.below hb2) hl').mono ?_; rintro e _ ⟨rfl, rfl⟩
      rw [hs]
      go_wp2_with (fail)
      go_ret3
      exact ⟨none, 0, none, 0, by rw [HF.out.1, HF.out.2.1, HF.out.2.2]; rfl, by rw [HF.out.2.1]; exact OwnC.nil _ _ _ _ _, by rw [HF.out.2.2]; exact OwnC.nil _ _ _ _ _, hb2⟩
    · have HV := Lib.hid hv; have HS := Lib.hid hs
      clear hv hs
      go_enter Try.func8, Try.ntmps8
      go_wp2_with (fail)
      rw [← hw1]; clear hw1
      refine (impl_ValidRow d r A c ks _ (h.below hb1) hl).mono ?_; rintro e w2 ⟨rfl, b2⟩
      have hb2 : Below w.heap.size w w2 := hb1.trans (b2.mono hb1.size)
      have ka2 := ka.below b2 ka.lt
      obtain ⟨m0, m1, m2⟩ := ka2.c3
      rw [HV.out]
      go_wp2_with (fail)
      refine (impl_ValidSizes B c2 st _ (h'.below hb2) hl').mono ?_; rintro e _ ⟨rfl, rfl⟩
      rw [HS.out]
      go_wp2_with (fail)
      refine (impl_knitRow d r ks st A B c c2 _ (h.below hb2) (h'.below hb2) hc0 hcm hn HV.out HS.out).mono ?_; rintro e w3 ⟨A1, c1, A2, c3, rfl, o1, o2, b3⟩
      have hz := hb2.size
      go_wp2_with (fail)
      go_ret3
      exact ⟨A1, c1, A2, c3, rfl, OwnC.mono o1 hz (Nat.le_refl _), OwnC.mono o2 hz (Nat.le_refl _), hb2.trans (b3.mono hz)⟩

end Go.Proofs.Ythjamohaeahipaa

/- Knitting by hand, plain: how long the results are. -/
namespace Go.Proofs.Ythjamohaeahipaa
open Go.RowKit

/-- Two owned parts of different types lie apart. -/
theorem ownT_apart {w : World} {lo hi n n' c c' : Nat} {e e' : TypeId} {sz sz' : Nat} {A A' : Option Addr} {cs cs' : List Value} (h : OwnC w lo hi e sz A n c cs) (h' : OwnC w lo hi e' sz' A' n' c' cs') (ht : e ≠ e') (hh : lo ≤ hi) :
    ∃ l r l' r', lo ≤ l ∧ l ≤ r ∧ r ≤ hi ∧ lo ≤ l' ∧ l' ≤ r' ∧ r' ≤ hi ∧ (r ≤ l' ∨ r' ≤ l) ∧ OwnC w l r e sz A n c cs ∧ OwnC w l' r' e' sz' A' n' c' cs' := by
  have tight : ∀ {e : TypeId} {sz n c : Nat} {g : Nat} {cs : List Value}, OwnC w lo hi e sz (some ⟨g, 0, none⟩) n c cs → OwnC w g (g + 1) e sz (some ⟨g, 0, none⟩) n c cs := fun {e sz n c g cs} k => by
    rcases k.form with ⟨h1, _⟩ | ⟨q, cur, h1, _, _, h2, h3, h4, h5, h6⟩
    · cases h1
    · injection h1 with h1
      injection h1 with h1
      subst h1
      exact ⟨⟨k.len, .inr ⟨g, c, cur, rfl, Nat.le_refl _, h2, h3, h4, h5, h6⟩⟩, fun a ha => by injection ha with ha; subst ha; exact Nat.lt_succ_self _⟩
  rcases h.form with ⟨rfl, rfl, rfl, rfl⟩ | ⟨q, cur, rfl, h1, h2, h3, _⟩
  · exact ⟨lo, lo, lo, hi, Nat.le_refl _, Nat.le_refl _, hh, Nat.le_refl _, hh, Nat.le_refl _, .inl (Nat.le_refl _), OwnC.nil _ _ _ _ _, h'⟩
  · rcases h'.form with ⟨rfl, rfl, rfl, rfl⟩ | ⟨q', cur', rfl, k1, k2, k3, _⟩
    · exact ⟨lo, hi, lo, lo, Nat.le_refl _, hh, Nat.le_refl _, Nat.le_refl _, Nat.le_refl _, hh, .inr (Nat.le_refl _), h, OwnC.nil _ _ _ _ _⟩
    · have hne : q ≠ q' := by
        rintro rfl
        rw [h3] at k3
        injection k3 with k3
        injection k3 with _ k3
        exact ht k3
      exact ⟨q, q + 1, q', q' + 1, h1, by omega, by omega, k1, by omega, by omega, by omega, tight h, tight h'⟩
theorem hr_size (d r : Int) (ks st : List Int) : (hrEvs d r ks st).length ≤ 4000 ∧ (hrAfter d r ks st).length ≤ 64 := by
  unfold hrEvs hrAfter
  split
  · rename_i h
    simp only [Bool.and_eq_true, decide_eq_true_eq] at h
    obtain ⟨h1, h2⟩ := h
    have ht := stacks_ok h2
    unfold hrOk at h1
    simp only [Bool.and_eq_true] at h1
    obtain ⟨hv, hs⟩ := h1
    obtain ⟨_, _, hks, hl16⟩ := rowB_of hv
    have hmem := (stitchesB_of hks).2
    have hNN : NN st := by
      intro x hx
      unfold sizesB stacksB at hs
      simp only [Bool.and_eq_true, List.all_eq_true] at hs
      have := inR_iff.1 (hs.1.2.1 x hx)
      omega
    have hS12 : sumI st ≤ 12 := by
      unfold sizesB stacksB at hs
      simp only [Bool.and_eq_true, List.all_eq_true, decide_eq_true_eq] at hs
      have h2 : tinyB st := fun x hx => by have := inR_iff.1 (hs.1.2.1 x hx); omega
      have h3 := sumI_le h2
      have h4 := sum64_sumI hNN (by omega)
      omega
    have hmo := MakeOk.start (crossN_ok hNN hmem ht hS12 ks.length (Nat.le_refl _)) hmem hl16 hS12
    cases hh : handS d r ks st with
    | none => rw [(hand_none hh).1, (hand_none hh).2]; simp
    | some s =>
      rw [(hand_some hh).1, (hand_some hh).2]
      have ho := makeN_ok (d := d) (car := r) hmo (Nat.le_refl _) (show makeN d r ks (orderP d ks.length) ks.length _ = some s from hh)
      obtain ⟨S, hS, hG⟩ := ho.good
      have := ho.evs
      rw [length_flatten]
      exact ⟨by omega, cells_cnt hG hl16⟩
  · simp
end Go.Proofs.Ythjamohaeahipaa
