/- The law FnHandColumns walked. -/
import Derived.Test.YthjamohaeahipaaGreatZ13
import Derived.Test.YthjamohaeahipaaGreatZ24
namespace Go.Proofs.YthjamohaeahipaaGreat
open Go Go.RowKit

set_option maxHeartbeats 4000000 in
set_option maxRecDepth 10000 in
theorem law_FnHandColumns (bs : List Int) (A : Option Addr) (c : Nat) (w : World) (h : Bytes w A bs) (_l : bs.length ≤ 9223372036854775807) :
    Calls Tryz.prog 3 #[.slice A bs.length c] w fun e w' => e = .returned (.bool true) ∧ Below w.heap.size w w' := by
  obtain ⟨iE, ie0, iz0, iz1, iz2⟩ := info_parts info_Event
  by_cases hlong : 1048576 < bs.length
  · go_enter Tryz.func3, Tryz.ntmps3
    go_wp2_with (fail)
    refine (laws_b10Long A bs.length c w).mono ?_; rintro e _ ⟨rfl, rfl⟩
    rw [decide_eq_true hlong]
    go_wp2_with (fail)
    go_ret
    exact ⟨rfl, Below.refl _ _⟩
  · go_enter Tryz.func3, Tryz.ntmps3
    go_wp2_with (fail)
    refine (laws_b10Long A bs.length c w).mono ?_; rintro e _ ⟨rfl, rfl⟩
    rw [decide_eq_false hlong]
    go_wp2_with (fail)
    refine (spec_DrawHandRow A c bs w h (by omega)).mono ?_
    rintro e w1 ⟨d, car, A1, c1, ks, A2, c2, st, rfl, o1, hk18, o2, hst1, hst7, b1⟩
    have hz1 := b1.size
    have i1 := OwnC.ints o1
    have i2 := OwnC.ints o2
    have hcap := OwnC.cap o2
    have hcm := OwnC.capmax o2
    have hnc := OwnC.nilc o2
    obtain ⟨w2, hw2⟩ : ∃ w2, w2 = w1.alloc (.cells #[.int .i64 d, .int .i64 car, .slice A1 ks.length c1] 26) := ⟨_, rfl⟩
    have b2 : Below w1.heap.size w1 w2 := by rw [hw2]; (repeat (first | exact Below.refl _ _ | assumption | apply Below.drew | apply below_drewN | (refine Below.alloc ?_ (by first | omega | (simp; done) | (simp; omega)) _) | (refine Below.setCell ?_ (by first | omega | (simp; done) | (simp; omega)) _)))
    have kr : Blk w2 w1.heap.size 26 #[.int .i64 d, .int .i64 car, .slice A1 ks.length c1] := by rw [hw2]; exact Blk.new w1 _ _
    have B2 : Below w.heap.size w w2 := b1.trans (b2.mono hz1)
    have i12 := i1.below b2
    have i22 := i2.below b2
    obtain ⟨gR, hgR⟩ : ∃ gR, gR = w1.heap.size := ⟨_, rfl⟩
    rw [← hgR] at kr
    go_upto_region 4 with fail
    rw [← hw2, ← hgR]
    clear hw2 hgR o1 o2 i1 i2 b1 b2
    cases hs : sizesB st
    · go_wp2_with (fail)
      refine (impl_ValidSizes A2 c2 st w2 i22 (by omega)).mono ?_; rintro e _ ⟨rfl, rfl⟩
      rw [hs]
      go_wp2_with (fail)
      refine (spec_ValidSizes A2 c2 st w2 i22 (by omega)).mono ?_; rintro e _ ⟨rfl, rfl⟩
      rw [hs]
      go_wp2_with (fail)
      go_ret
      exact ⟨rfl, B2⟩
    · obtain ⟨hNN, hone, hS0, hS12⟩ := sizes_nn hs
      have HS := Lib.hid hs
      have HNN := Lib.hid hNN
      have HOVER := Lib.hid (column_over hs)
      clear hs hNN hone
      go_wp2_with (fail)
      refine (impl_ValidSizes A2 c2 st w2 i22 (by omega)).mono ?_; rintro e _ ⟨rfl, rfl⟩
      rw [HS.out]
      go_wp2_with (fail)
      go_loopw [5, 6] (fun sv iv wr => ∃ i : Nat, i ≤ st.length ∧ iv = .int .i64 i ∧ sv = .int .i64 (sumI (st.take i)) ∧ w2 = wr) (fun _ iv _ => st.length - (intOf iv).toNat)
      case atStart => exact ⟨0, Nat.zero_le _, rfl, by simp [sumI], rfl⟩
      case round =>
        obtain ⟨i, hi, rfl, rfl, rfl⟩ := hrel
        by_cases hil : i < st.length
        · obtain ⟨b, off, x, rfl, hcx, hx⟩ := i22 i hil
          have hf := first_at HS.out hil
          have hpt := HNN.out.part i
          have hle := HNN.out.at_le hx
          have HF1 : Hid ((firstOfP st (i : Int)).1 = sumI (st.take i) ∧ (firstOfP st (i : Int)).2 = true) := Lib.hid (by rw [hf]; exact ⟨rfl, rfl⟩)
          have HCOL : Hid (∀ k : Nat, (k : Int) < x → columnAtP st (sumI (st.take i) + k) = ((i : Int), true)) := Lib.hid (fun k hk => column_at HS.out hx (by omega) hk)
          have HSUM : Hid (sumI (st.take (i + 1)) = sumI (st.take i) + x) := Lib.hid (sumI_snoc hx)
          have dk : decide ((i : Int) < (st.length : Int)) = true := decide_eq_true (by omega)
          have j1 : (0 : Int) ≤ (i : Int) := by omega
          have j2 : (i : Int) < (st.length : Int) := by omega
          have wS : IntKind.i64.wrap (sumI (st.take i) + x) = sumI (st.take i) + x := IntWalk.i64_in _ ⟨by omega, by omega⟩
          have wI : IntKind.i64.wrap ((i : Int) + 1) = ((i + 1 : Nat) : Int) := by rw [IntWalk.i64_in _ ⟨by omega, by omega⟩]; omega
          have I22 := Lib.hid i22
          clear hx hf
          generalize sumI (st.take i) = T at *
          go_wp2_with (fail)
          refine (impl_FirstOf _ c2 st (i : Int) w2 I22.out (by omega) hcap).mono ?_; rintro e _ ⟨rfl, rfl⟩
          rw [HF1.out.1, HF1.out.2]
          go_wp2_with (fail)
          go_loopw [9] (fun kv wr => ∃ k : Nat, (k : Int) ≤ x ∧ kv = .int .i64 k ∧ w2 = wr) (fun kv _ => x.toNat - (intOf kv).toNat)
          case atStart => exact ⟨0, by omega, rfl, rfl⟩
          case round =>
            obtain ⟨k, hk, rfl, rfl⟩ := hrel
            by_cases hkx : (k : Int) < x
            · have dk2 : decide ((k : Int) < x) = true := decide_eq_true hkx
              have hc := HCOL.out k hkx
              have HC : Hid ((columnAtP st (T + (k : Int))).1 = (i : Int) ∧ (columnAtP st (T + (k : Int))).2 = true) := Lib.hid (by rw [hc]; exact ⟨rfl, rfl⟩)
              have wT : IntKind.i64.wrap (T + (k : Int)) = T + (k : Int) := IntWalk.i64_in _ ⟨by omega, by omega⟩
              have wK : IntKind.i64.wrap ((k : Int) + 1) = ((k + 1 : Nat) : Int) := by rw [IntWalk.i64_in _ ⟨by omega, by omega⟩]; omega
              clear hc
              go_wp2_with (fail)
              refine (impl_ColumnAt _ c2 st (T + (k : Int)) w2 I22.out (by omega)).mono ?_; rintro e _ ⟨rfl, rfl⟩
              rw [HC.out.1, HC.out.2]
              go_wp2_with (fail)
              exact ⟨⟨k + 1, by omega, by go_num, by first | rfl | trivial⟩, by first | (simp [intOf]; done) | (simp [intOf]; omega)⟩
            · have hkx' : (k : Int) = x := by omega
              have dk2 : decide ((k : Int) < x) = false := decide_eq_false hkx
              clear hkx'
              go_wp2_with (fail)
              exact ⟨⟨i + 1, by omega, by go_num, by rw [HSUM.out], by first | rfl | trivial⟩, by first | (simp [intOf]; done) | (simp [intOf]; omega)⟩
        · obtain rfl : i = st.length := by omega
          have dk : decide ((st.length : Int) < (st.length : Int)) = false := decide_eq_false (by omega)
          have HTK : Hid (sumI (st.take st.length) = sumI st) := Lib.hid (by rw [List.take_of_length_le (Nat.le_refl _)])
          rw [HTK.out]
          have HC : Hid ((columnAtP st (sumI st)).2 = false) := Lib.hid (by rw [HOVER.out])
          clear dk
          go_wp2_with (fail)
          refine (impl_ColumnAt A2 c2 st (sumI st) w2 i22 (by omega)).mono ?_; rintro e _ ⟨rfl, rfl⟩
          rw [HC.out]
          generalize (columnAtP st (sumI st)).1 = cv
          obtain ⟨r0, r1, r2⟩ := kr.c3
          go_wp2_with (fail)
          refine (impl_HandRow d car ks st A1 A2 c1 c2 w2 i12 (by omega) i22 (by omega) hcap hcm hnc).mono ?_
          rintro e w3 ⟨A4, c4, A5, c5, rfl, o4, _, b3⟩
          have B3 : Below w.heap.size w w3 := B2.trans (b3.mono B2.size)
          have kr3 := kr.below b3 kr.lt
          have i13 := i12.below b3
          have i23 := i22.below b3
          have hE := (hr_size d car ks st).1
          clear r0 r1 r2 kr i12 i22 b3
          generalize (hrAfter d car ks st).length = la
          by_cases h0 : hrCode d car ks st = 0
          · have d0 : (hrCode d car ks st != 0) = false := by simp [h0]
            obtain ⟨r0, r1, r2⟩ := kr3.c3
            have H0 := Lib.hid h0; clear h0
            go_wp2_with (fail)
            refine (spec_RowBraid d car ks st A1 A2 c1 c2 w3 i13 (by omega) i23 (by omega)).mono ?_
            rintro e w4 ⟨A6, c6, rfl, o6, b4⟩
            have B4 : Below w.heap.size w w4 := B3.trans (b4.mono B3.size)
            have o44 := OwnC.events o4
            have i44 := o44.below b4
            have i64 := OwnC.ints o6
            obtain ⟨w5, hw5⟩ : ∃ w5, w5 = w4.alloc (.cells #[.int .i64 (rbX d car ks st).n, .slice A6 (rbX d car ks st).xs.length c6] 36) := ⟨_, rfl⟩
            have b5 : Below w4.heap.size w4 w5 := by rw [hw5]; (repeat (first | exact Below.refl _ _ | assumption | apply Below.drew | apply below_drewN | (refine Below.alloc ?_ (by first | omega | (simp; done) | (simp; omega)) _) | (refine Below.setCell ?_ (by first | omega | (simp; done) | (simp; omega)) _)))
            have kb : Blk w5 w4.heap.size 36 #[.int .i64 (rbX d car ks st).n, .slice A6 (rbX d car ks st).xs.length c6] := by rw [hw5]; exact Blk.new w4 _ _
            have B5 : Below w.heap.size w w5 := B4.trans (b5.mono B4.size)
            have i45 := i44.below b5
            have i65 := i64.below b5
            obtain ⟨gB, hgB⟩ : ∃ gB, gB = w4.heap.size := ⟨_, rfl⟩
            rw [← hgB] at kb
            by_cases hb0 : rbCode d car ks st = 0
            · obtain ⟨n, C, hn, hn12, honly, hvC, hC40, hXn, hbw, hbx, heq⟩ := hc_facts H0.out hb0
              have db : (rbCode d car ks st != 0) = false := by simp [hb0]
              rw [← hn] at hvC
              have HXN := Lib.hid hXn
              have HN := Lib.hid hn
              have HV := Lib.hid hvC
              have HBW := Lib.hid hbw
              have HBX := Lib.hid hbx
              have HEQ := Lib.hid heq
              have HONLY := Lib.hid honly
              clear hn hvC hbw hbx heq honly hXn
              go_upto_region 27 with fail
              rw [← hw5, ← hgB]
              clear hw5 hgB o4 o6 o44 i44 i64 b4 b5 kr3 i13 i23 r0 r1 r2 hb0
              generalize hrEvs d car ks st = E at *
              generalize (rbX d car ks st).xs = XS at *
              generalize (rbX d car ks st).n = Xn at *
              obtain ⟨wL, hwL⟩ : ∃ wL, wL = w5.alloc (.cells #[] 40) := ⟨_, rfl⟩
              have oL : OwnEvent wL w5.heap.size wL.heap.size (some ⟨w5.heap.size, 0, none⟩) 0 [] := by rw [hwL]; exact (OwnC.lit (w := w5) (lo := w5.heap.size) (n := 0) 40 6 #[] (Nat.le_refl _) (Nat.zero_le _) rfl).mono (Nat.le_refl _) (by simp)
              have bL : Below w5.heap.size w5 wL := by rw [hwL]; (repeat (first | exact Below.refl _ _ | assumption | apply Below.drew | apply below_drewN | (refine Below.alloc ?_ (by first | omega | (simp; done) | (simp; omega)) _) | (refine Below.setCell ?_ (by first | omega | (simp; done) | (simp; omega)) _)))
              go_upto_region 28 with fail
              rw [← hwL]
              clear hwL
              go_wp2_with (fail)
              go_loopw [19, 20] (fun ov iv wr => ∃ (i : Nat) (A7 : Option Addr) (c7 : Nat), i ≤ E.length ∧ iv = .int .i64 i ∧ ov = .slice A7 (crossOnly (E.take i)).length c7 ∧ OwnEvent wr w5.heap.size wr.heap.size A7 c7 (crossOnly (E.take i)) ∧ Below w5.heap.size w5 wr) (fun _ iv _ => E.length - (intOf iv).toNat)
              case atStart => exact ⟨0, _, 0, Nat.zero_le _, rfl, rfl, oL, bL⟩
              case round =>
                clear oL bL
                obtain ⟨i, A7, c7, hi, rfl, rfl, ho, hbr⟩ := hrel
                have hzr := hbr.size
                by_cases hil : i < E.length
                · obtain ⟨b, off, p, rfl, hp, q0, q1, q2, q3, q4, q5⟩ := (i45.below hbr) i hil
                  have hstep := crossOnly_step hp
                  have hLl := crossOnly_length (E.take i)
                  rw [List.length_take] at hLl
                  have dk : decide ((i : Int) < (E.length : Int)) = true := decide_eq_true (by omega)
                  have j1 : (0 : Int) ≤ (i : Int) := by omega
                  have j2 : (i : Int) < (E.length : Int) := by omega
                  by_cases hk : p.kind = 1
                  · have d1 : (p.kind == 1) = true := by simp [hk]
                    rw [if_pos hk] at hstep
                    have HSTEP := Lib.hid hstep
                    clear hstep hk hp
                    generalize crossOnly (E.take i) = L at *
                    go_wp2_with (at_builtin; refine wpList_append1 wr [.int .i64 p.kind, .int .i64 p.place, .int .i64 p.count, .int .i64 p.bed, .int .i64 p.carrier, .int .i64 p.dir] _ rfl (.tmp 125) (.tmp 130) _ rfl 40 iE _ 6 48 Tryz.underlying32 ie0 iz0 iz1 iz2 rfl (by decide) rfl ho hzr 1 rfl rfl (by simp [Value.oneCell']) (by omega) (by decide) ?_; intro A9 c9 w9 ho9 hg9 hb9 hz9)
                    refine ⟨⟨i + 1, A9, c9, by omega, by go_num, by rw [HSTEP.out, List.length_append]; rfl, ?_, hbr.trans hb9⟩, by first | (simp [intOf]; done) | (simp [intOf]; omega)⟩
                    rw [HSTEP.out]
                    show OwnC _ _ _ _ _ _ _ _ _
                    rw [List.length_append, cellsEvent_snoc]
                    exact ho9
                  · have d1 : (p.kind == 1) = false := by simp [hk]
                    rw [if_neg hk, List.append_nil] at hstep
                    have HSTEP := Lib.hid hstep
                    clear hstep hk hp
                    go_wp2_with (fail)
                    exact ⟨⟨i + 1, A7, c7, by omega, by go_num, by rw [HSTEP.out], by rw [HSTEP.out]; exact ho, hbr⟩, by first | (simp [intOf]; done) | (simp [intOf]; omega)⟩
                · obtain rfl : i = E.length := by omega
                  have dk : decide ((E.length : Int) < (E.length : Int)) = false := decide_eq_false (by omega)
                  have hall : crossOnly (E.take E.length) = C := by rw [List.take_of_length_le (Nat.le_refl _)]; exact HONLY.out
                  rw [hall] at ho ⊢
                  clear hall
                  have hev := OwnC.events ho
                  have Br : Below w.heap.size w wr := B5.trans (hbr.mono B5.size)
                  go_wp2_with (fail)
                  refine (spec_CrossingBraid (sumI st) ⟨hS0, hS12⟩ C A7 c7 wr hev hC40 HV.out).mono ?_
                  rintro e w7 ⟨A8, c8, rfl, o8, b7⟩
                  have o8' : OwnI w7 wr.heap.size w7.heap.size A8 c8 (C.map evL) := by show OwnC _ _ _ _ _ _ _ _ _; rw [List.length_map]; exact o8
                  have i8 := OwnC.ints o8'
                  have i67 := (i65.below hbr).below b7
                  have kb7 := (kb.below hbr kb.lt).below b7 (by have := kb.lt; omega)
                  have B7 : Below w.heap.size w w7 := Br.trans (b7.mono Br.size)
                  have hz7 := B7.size
                  obtain ⟨w8, hw8⟩ : ∃ w8, w8 = w7.alloc (.cells #[.int .i64 (sumI st), .slice A8 C.length c8] 36) := ⟨_, rfl⟩
                  have b8 : Below w7.heap.size w7 w8 := by rw [hw8]; (repeat (first | exact Below.refl _ _ | assumption | apply Below.drew | apply below_drewN | (refine Below.alloc ?_ (by first | omega | (simp; done) | (simp; omega)) _) | (refine Below.setCell ?_ (by first | omega | (simp; done) | (simp; omega)) _)))
                  have kx8 : Blk w8 w7.heap.size 36 #[.int .i64 (sumI st), .slice A8 C.length c8] := by rw [hw8]; exact Blk.new w7 _ _
                  have kb8 := kb7.below b8 kb7.lt
                  have B8 : Below w.heap.size w w8 := B7.trans (b8.mono hz7)
                  obtain ⟨gX, hgX⟩ : ∃ gX, gX = w7.heap.size := ⟨_, rfl⟩
                  rw [← hgX] at kx8
                  have CE : Hid (Calls Tryz.prog 13 #[.agg #[.int .i64 (sumI st), .slice A8 C.length c8], .agg #[.int .i64 Xn, .slice A6 XS.length c6]] w8 fun e w' => e = .returned (.bool true) ∧ Below w8.heap.size w8 w') := Lib.hid (by
                    have := spec_EqualBraids n (C.map evL) XS A8 A6 c8 c6 w8 (i8.below b8) (i67.below b8) HBW.out HBX.out
                    rw [HEQ.out, List.length_map] at this
                    rw [HXN.out, HN.out]
                    exact this)
                  go_upto_region 34 with fail
                  rw [← hw8, ← hgX]
                  clear hw8 hgX o8 o8' i8 i67 kb7 b7 b8 hev ho
                  obtain ⟨x0, x1⟩ := kx8.c2
                  obtain ⟨y0, y1⟩ := kb8.c2
                  have hz8 := B8.size
                  go_wp2_with (fail)
                  refine CE.out.mono ?_; rintro e w9 ⟨rfl, b9⟩
                  go_wp2_with (fail)
                  go_ret
                  exact ⟨rfl, B8.trans (b9.mono hz8)⟩
            · have db : (rbCode d car ks st != 0) = true := by simp [hb0]
              clear hb0
              go_upto_region 25 with fail
              rw [← hw5, ← hgB]
              clear hw5 hgB
              go_wp2_with (fail)
              go_ret
              exact ⟨rfl, B5⟩
          · have d0 : (hrCode d car ks st != 0) = true := by simp [h0]
            clear h0
            go_wp2_with (fail)
            go_ret
            exact ⟨rfl, B3⟩

end Go.Proofs.YthjamohaeahipaaGreat
