/- The law FnStitches walked. -/
import Derived.Test.YtifjdiiafofnpaaZ19
import Derived.Test.YtifjdiiafofnpaaZ16
namespace Go.Proofs.Ytifjdiiafofnpaa
open Go Go.RowKit

theorem stitch_mir {k : Int} (h : isStitchB k = true) : isStitchB (mirK k) = true ∧ mirK (mirK k) = k ∧ takenB (mirK k) = takenB k ∧ madeB (mirK k) = madeB k ∧ kindB (symB (mirK k).toNat) = mirK k := by
  obtain ⟨a, b, c, d⟩ := mirK_facts h
  refine ⟨a, b, by rw [takenB, takenB, if_pos a, if_pos h, c], by rw [madeB, madeB, if_pos a, if_pos h, d], ?_⟩
  have := inR_iff.1 a
  rw [kindB_found (k := (mirK k).toNat) (by omega) (by omega) rfl]
  omega
theorem mirS_step {ks : List Int} {i : Nat} {k : Int} (h : ks[i]? = some k) : mirS (ks.drop (i + 1)) ++ [mirK k] = mirS (ks.drop i) := by
  rw [drop_cons h, mirS_cons]

set_option maxHeartbeats 600000 in
set_option maxRecDepth 10000 in
theorem law_FnStitches (bs : List Int) (A : Option Addr) (c : Nat) (w : World) (h : Bytes w A bs) (_l : bs.length ≤ 9223372036854775807) :
    Calls Try.prog 7 #[.slice A bs.length c] w fun e w' => e = .returned (.bool true) ∧ Below w.heap.size w w' := by
  obtain ⟨iI, hi0, hu0, hu1, hu2⟩ := info_parts info_int64
  by_cases hlong : 3000 < bs.length
  · go_enter Try.func7, Try.ntmps7
    go_wp2_with (fail)
    refine (laws_a2Long A none bs.length c 0 0 w).mono ?_; rintro e _ ⟨rfl, rfl⟩
    rw [decide_eq_true hlong]
    go_wp2_with (fail)
    go_ret
    exact ⟨rfl, Below.refl _ _⟩
  · go_enter Try.func7, Try.ntmps7
    go_wp2_with (fail)
    refine (laws_a2Long A none bs.length c 0 0 w).mono ?_; rintro e _ ⟨rfl, rfl⟩
    rw [decide_eq_false hlong]
    go_wp2_with (fail)
    refine (spec_A2Stacks A c bs w h (by omega)).mono ?_
    rintro e w1 ⟨A1, c1, st, A2, c2, ks, rfl, o1, i2, hst, hs8, hks, htk, b1⟩
    obtain ⟨hk16, hkk⟩ := stitchesB_of hks
    have HST := Lib.hid hst; clear hst
    have HKK := Lib.hid hkk; clear hkk
    have HRS := Lib.hid (read_symT hks)
    have HKS := Lib.hid hks; clear hks
    have HTK := Lib.hid htk; clear htk
    have hsz : (symT ks).size ≤ 16 := by rw [symT_size]; exact hk16
    go_wp2_with (fail)
    refine (impl_StitchesText ks A2 c2 w1 i2 HKS.out).mono ?_; rintro e _ ⟨rfl, rfl⟩
    go_wp2_with (fail)
    refine (impl_ReadStitches (symT ks) w1 (by omega)).mono ?_; rintro e w2 ⟨A3, c3, rfl, o3, b2⟩
    rw [HRS.out.1, HRS.out.2]
    rw [HRS.out.2] at o3
    clear HRS hsz
    have i3 := OwnC.ints o3
    have o1' := OwnC.below o1 b2 (Nat.le_refl _)
    have HZ12 := Lib.hid b2.size
    have i2' := i2.below b2
    have B2 := b1.trans (b2.mono b1.size)
    clear o1 i2 o3 b1 b2
    go_wp2_with (fail)
    refine (laws_a2Same A3 A2 c3 c2 ks ks w2 i3 i2' (by omega) (by omega)).mono ?_; rintro e w3 ⟨rfl, q, rfl⟩
    rw [decide_eq_true rfl]
    go_wp2_with (fail)
    refine (impl_TakenBy ks A2 c2 _ (i2'.drewN q) HKS.out).mono ?_; rintro e _ ⟨rfl, rfl⟩
    rw [HTK.out]
    have hne : (((st.length : Nat) : Int) != (st.length : Int)) = false := by simp
    have j1 : IntKind.i64.wrap ((ks.length : Int) - 1) = (ks.length : Int) - 1 := IntWalk.i64_in _ ⟨by omega, by omega⟩
    have B3 := below_drewN B2 q
    have o14 := OwnC.drewN o1' q
    have HZ24 : Hid (w2.heap.size = (w2.drewN q).heap.size) := Lib.hid rfl
    have i24 := i2'.drewN q
    generalize w2.drewN q = w4 at *
    clear o1' i2' i3 B2
    go_wp2_with (fail)
    go_loopw [7, 8] (fun ov iv wr => ∃ (k : Nat) (A7 : Option Addr) (c7 : Nat), k ≤ ks.length ∧ iv = .int .i64 ((k : Int) - 1) ∧ ov = .slice A7 (ks.length - k) c7 ∧ OwnC wr w4.heap.size wr.heap.size 2 1 A7 (ks.length - k) c7 ((mirS (ks.drop k)).map (Value.int .i64)) ∧ Below w4.heap.size w4 wr) (fun _ iv _ => (intOf iv + 1).toNat)
    case atStart =>
      refine ⟨ks.length, some ⟨w4.heap.size, 0, none⟩, 0, Nat.le_refl _, rfl, by simp, ?_, by (repeat (first | exact Below.refl _ _ | assumption | apply Below.drew | apply below_drewN | (refine Below.alloc ?_ (by first | omega | (simp; done) | (simp; omega)) _) | (refine Below.setCell ?_ (by first | omega | (simp; done) | (simp; omega)) _)))⟩
      have := (OwnC.lit (w := w4) (lo := w4.heap.size) (n := 0) 2 1 #[] (Nat.le_refl _) (Nat.zero_le _) rfl).mono (Nat.le_refl _) (show w4.heap.size + 1 ≤ (w4.alloc (.cells #[] 2)).heap.size by simp)
      simpa [mirS] using this
    case round =>
      obtain ⟨k, A7, c7, hk, rfl, rfl, o7, hb⟩ := hrel
      have hzs := hb.size
      by_cases hk0 : 0 < k
      · obtain ⟨m, rfl⟩ : ∃ m, k = m + 1 := ⟨k - 1, by omega⟩
        have d0 : decide ((((m + 1 : Nat) : Int) - 1) ≥ 0) = true := decide_eq_true (by omega)
        have e1 : (((m + 1 : Nat) : Int) - 1) = (m : Int) := by omega
        rw [e1] at d0 ⊢
        clear e1
        obtain ⟨b, off, x, rfl, hc, hx⟩ := (i24.below hb) m (by omega)
        have hxs := HKK.out x (List.mem_of_getElem? hx)
        obtain ⟨f1, f2, f3, f4, f5⟩ := stitch_mir hxs
        have HX : Hid ((mirS (ks.drop m)).map (Value.int .i64) = (mirS (ks.drop (m + 1))).map (Value.int .i64) ++ [.int .i64 (mirK x)]) := Lib.hid (by rw [← mirS_step hx]; simp)
        have j2 : (0 : Int) ≤ (m : Int) := by omega
        have j3 : (m : Int) < (ks.length : Int) := by omega
        have j4 : IntKind.i64.wrap ((m : Int) - 1) = (m : Int) - 1 := IntWalk.i64_in _ ⟨by omega, by omega⟩
        have hn : ks.length - (m + 1) + 1 = ks.length - m := by omega
        have HN := Lib.hid hn; clear hn
        generalize hq : ks.length - (m + 1) = q at *
        have hq1 : q ≤ 16 := by omega
        have HQ := Lib.hid hq; clear hq
        clear hx
        go_upto_region 12 with (go_at_call 44; refine (impl_MirrorStitch x _).mono ?_; rintro e _ ⟨rfl, rfl⟩)
        have F1 := Lib.hid f1; clear f1
        have F2 := Lib.hid f2; clear f2
        have F3 := Lib.hid f3; clear f3
        have F4 := Lib.hid f4; clear f4
        have F5 := Lib.hid f5; clear f5
        have y1 := inR_iff.1 F1.out
        have c1 : ∀ W, Calls Try.prog 44 #[.int .i64 (mirK x)] W fun e w' => e = .returned (.int .i64 x) ∧ W = w' := fun W => by have := impl_MirrorStitch (mirK x) W; rwa [F2.out] at this
        have c2 : ∀ z W, (z = mirK x ∨ z = x) → Calls Try.prog 45 #[.int .i64 z] W fun e w' => e = .returned (.int .i64 (takenB x)) ∧ W = w' := fun z W hz => by
          have := impl_ColumnsTaken z W
          rcases hz with rfl | rfl
          · rwa [F3.out] at this
          · exact this
        have c4 : ∀ z W, (z = mirK x ∨ z = x) → Calls Try.prog 46 #[.int .i64 z] W fun e w' => e = .returned (.int .i64 (madeB x)) ∧ W = w' := fun z W hz => by
          have := impl_ColumnsMade z W
          rcases hz with rfl | rfl
          · rwa [F4.out] at this
          · exact this
        have c6 : ∀ W, Calls Try.prog 48 #[.int .i64 (mirK x)] W fun e w' => e = .returned (.string ⟨#[symB (mirK x).toNat]⟩) ∧ W = w' := fun W => impl_SymbolOf (mirK x) W F1.out
        have c7 : ∀ W, Calls Try.prog 47 #[.string ⟨#[symB (mirK x).toNat]⟩] W fun e w' => e = .returned (.int .i64 (mirK x)) ∧ W = w' := fun W => by have := impl_KindOf (symB (mirK x).toNat) W; rwa [F5.out] at this
        have C1 := Lib.hid c1; clear c1
        have C2 := Lib.hid c2; clear c2
        have C4 := Lib.hid c4; clear c4
        have C6 := Lib.hid c6; clear c6
        have C7 := Lib.hid c7; clear c7
        clear F1 F2 F3 F4 F5
        generalize (⟨#[symB (mirK x).toNat]⟩ : ByteArray) = sb at C6 C7
        generalize takenB x = tt at C2
        generalize madeB x = uu at C4
        generalize mirK x = y at *
        have n1 : (x != x) = false := by simp
        have n2 : (tt != tt) = false := by simp
        have n3 : (uu != uu) = false := by simp
        have n4 : (y != y) = false := by simp
        have hcb := hc
        go_quiet ((first | (go_at_call 44; exact quietS (C1.out _)) | (go_at_call 45; exact quietS (C2.out _ _ (by simp))) | (go_at_call 46; exact quietS (C4.out _ _ (by simp))) | (go_at_call 48; exact quietS (C6.out _)) | (go_at_call 47; exact quietS (C7.out _))))
        clear C1 C2 C4 C6 C7
        have o7n := OwnC.drewN o7 nq
        have hzn : w4.heap.size ≤ (wr.drewN nq).heap.size := hzs
        have hbn : Below w4.heap.size w4 (wr.drewN nq) := below_drewN hb nq
        generalize wr.drewN nq = wn at *
        clear o7 hb hzs hc hcb
        go_wp2_with (at_builtin; refine wpList_append1 wn [.int .i64 y] _ rfl (.tmp 89) (.tmp 91) _ rfl 2 iI _ 1 8 Try.underlying22 hi0 hu0 hu1 hu2 rfl (by decide) rfl o7n hzn 1 rfl rfl (by simp [Value.oneCell']) (by omega) (by decide) ?_; intro A8 c8 w8 ho8 hg8 hb8 hz8)
        refine ⟨⟨m, A8, c8, by omega, rfl, by rw [HN.out], by rw [← HN.out, HX.out]; exact ho8, hbn.trans hb8⟩, by simp [intOf]⟩
      · obtain rfl : k = 0 := by omega
        have d0 : decide ((((0 : Nat) : Int) - 1) ≥ 0) = false := by decide
        have hlm : (mirS ks).length = ks.length := mirS_length ks
        have o9 : OwnI wr w4.heap.size wr.heap.size A7 c7 (mirS ks) := by
          show OwnC _ _ _ _ _ _ _ _ _
          rw [hlm]
          simpa using o7
        have i9 : Ints wr A7 (mirS ks) := OwnC.ints o9
        have o1r := OwnC.below o14 hb (by have := HZ12.out; have := HZ24.out; omega)
        have hst8 : stacksB st = true := by
          unfold stacksB
          rw [Bool.and_eq_true, List.all_eq_true, decide_eq_true_eq]
          exact ⟨fun x hx => inR_iff.2 (by have := HST.out x hx; omega), hs8⟩
        obtain ⟨e1, e2⟩ := stacksAfter_mir (st := st) HKS.out HTK.out
        have HE1 := Lib.hid e1; clear e1
        have HE2 := Lib.hid e2; clear e2
        have HLM := Lib.hid hlm; clear hlm
        have HAL := Lib.hid (stacksAfterP_length st ks)
        have HB := Lib.hid (below_drewN B3 0)
        have Bw : Below w.heap.size w wr := B3.trans (hb.mono B3.size)
        clear o7 hzs o14 B3 HB
        have i2r := i24.below hb
        rw [show Value.slice A7 (ks.length - 0) c7 = Value.slice A7 (mirS ks).length c7 by rw [HLM.out, Nat.sub_zero]]
        go_wp2_with (fail)
        refine (impl_StacksAfter st ks A1 c1 A2 c2 wr (OwnC.ints o1r) (by omega) (OwnC.cap o1r) (OwnC.capmax o1r) (OwnC.nilc o1r) i2r (by omega)).mono ?_
        rintro e w6 ⟨A6, c6, rfl, o6, b6⟩
        have i96 := i9.below b6
        have o16 := OwnC.below o1r b6 (by have := hb.size; have := HZ12.out; have := HZ24.out; omega)
        have i26 := i2r.below b6
        have B6 : Below w.heap.size w w6 := Below.trans Bw (b6.mono Bw.size)
        have hmade : (stacksAfterP st ks).2 = 0 → ((stacksAfterP st ks).1.length : Int) = madeP ks := by
          intro h0
          obtain ⟨_, _, _, ea, _⟩ := stepCode_of (st := st) (ks := ks) (by unfold stepCode; exact decide_eq_true h0)
          rw [ea, afterP_len HKK.out, madeP, if_pos HKS.out]
        have HMADE := Lib.hid hmade; clear hmade
        have hal := HAL.out
        clear o1r i2r i9 Bw b6 i24 hb HAL
        generalize (stacksAfterP st ks).1 = sa at *
        generalize (stacksAfterP st ks).2 = cd at *
        have hsr : st.reverse.length ≤ 8 := by rw [List.length_reverse]; exact hs8
        go_wp2_with (fail)
        refine (laws_a2Back A1 c1 st w6 (OwnC.ints o16) (by omega)).mono ?_
        rintro e w7 ⟨A10, c10, rfl, o10, b7⟩
        have i97 := i96.below b7
        have i27 := i26.below b7
        have o67 := OwnC.below o6 b7 (Nat.le_refl _)
        have B7 : Below w.heap.size w w7 := Below.trans B6 (b7.mono B6.size)
        clear o16 i96 i26 o6 B6 b7
        have hml16 : (mirS ks).length ≤ 16 := by rw [HLM.out]; exact hk16
        generalize st.reverse = sr at *
        go_wp2_with (fail)
        refine (impl_StacksAfter sr (mirS ks) A10 c10 A7 c7 w7 (OwnC.ints o10) (by omega) (OwnC.cap o10) (OwnC.capmax o10) (OwnC.nilc o10) i97 (by omega)).mono ?_
        rintro e w8 ⟨A11, c11, rfl, o11, b8⟩
        rw [HE1.out, HE2.out]
        rw [HE1.out] at o11
        have i11 := OwnC.ints o11
        have i68 := (OwnC.ints o67).below b8
        have i28 := i27.below b8
        have B8 : Below w.heap.size w w8 := Below.trans B7 (b8.mono B7.size)
        clear o10 o67 i97 i27 o11 B7 b8
        have hrr : sa.reverse.length ≤ 64 := by rw [List.length_reverse]; omega
        have HRR : Hid (sa.reverse.reverse = sa) := Lib.hid (List.reverse_reverse sa)
        generalize sa.reverse = sar at *
        have hcc : (cd == cd) = true := by simp
        by_cases h0 : cd = 0
        · have hcb : (cd != 0) = false := by simp [h0]
          have HM := Lib.hid (HMADE.out h0)
          clear h0
          go_wp2_with (fail)
          refine (laws_a2Back A11 c11 sar w8 i11 (by omega)).mono ?_
          rintro e w9 ⟨A12, c12, rfl, o12, b9⟩
          rw [HRR.out] at o12 ⊢
          have B9 : Below w.heap.size w w9 := Below.trans B8 (b9.mono B8.size)
          have i69 := i68.below b9
          have i29 := i28.below b9
          go_wp2_with (fail)
          refine (laws_a2Same A6 A12 c6 c12 sa sa w9 i69 (OwnC.ints o12) (by omega) (by omega)).mono ?_; rintro e w10 ⟨rfl, q, rfl⟩
          rw [decide_eq_true rfl]
          go_wp2_with (fail)
          refine (impl_MadeBy A2 c2 ks _ (i29.drewN q) (by omega)).mono ?_; rintro e _ ⟨rfl, rfl⟩
          rw [← HM.out]
          have hll : ((sa.length : Int) == (sa.length : Int)) = true := by simp
          go_wp2_with (fail)
          go_ret
          exact ⟨rfl, below_drewN B9 q⟩
        · have hcb : (cd != 0) = true := by simpa using h0
          clear h0
          go_wp2_with (fail)
          refine (laws_a2Back A11 c11 sar w8 i11 (by omega)).mono ?_
          rintro e w9 ⟨A12, c12, rfl, o12, b9⟩
          rw [HRR.out] at o12 ⊢
          have B9 : Below w.heap.size w w9 := Below.trans B8 (b9.mono B8.size)
          have i69 := i68.below b9
          go_wp2_with (fail)
          refine (laws_a2Same A6 A12 c6 c12 sa sa w9 i69 (OwnC.ints o12) (by omega) (by omega)).mono ?_; rintro e w10 ⟨rfl, q, rfl⟩
          rw [decide_eq_true rfl]
          go_wp2_with (fail)
          go_ret
          exact ⟨rfl, below_drewN B9 q⟩

end Go.Proofs.Ytifjdiiafofnpaa
