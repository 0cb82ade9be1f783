/- Steps of the proof, joined from several texts: HK HN. -/
import Derived.Test.YthjamohaeahipaaZ17
import Derived.Test.YthjamohaeahipaaZ12
import Derived.Test.YthjamohaeahipaaZ5

/- Knitting by hand, the given side: a row. -/
namespace Go.Proofs.Ythjamohaeahipaa
open Go Go.RowKit

set_option maxHeartbeats 4000000 in
set_option maxRecDepth 10000 in
theorem spec_l17Row {gr : Nat} {d car : Int} {AK : Option Addr} {ck : Nat} {ks : List Int} {AS : Option Addr} {cS : Nat} {st : List Int} (w : World) (hr : Blk w gr 29 #[.int .i64 d, .int .i64 car, .slice AK ks.length ck]) (hks : Ints w AK ks) (hst : stitchesB ks = true) (hd : d = 1 ∨ d = -1)
    (hs : Ints w AS st) (hsz : sizesB st = true) (ht : takenS ks = st.length) :
    Calls Try.prog 21 #[.pointer (some ⟨gr, 0, none⟩), .slice AS st.length cS] w fun e w' => ∃ A1 c1 A2 c2, e = .returned (.tuple #[.slice A1 (handEvs d car ks st).length c1, .slice A2 (handAfter d car ks st).length c2, .bool (handS d car ks st).isSome]) ∧
      OwnEvent w' w.heap.size w'.heap.size A1 c1 (handEvs d car ks st) ∧ OwnI w' w.heap.size w'.heap.size A2 c2 (handAfter d car ks st) ∧ Below w.heap.size w w' := by
  obtain ⟨hl16, hmem⟩ := stitchesB_of hst
  have HM := Lib.hid hmem; clear hmem
  have HT := Lib.hid ht; clear ht
  go_enter Try.func21, Try.ntmps21
  obtain ⟨w1, hw1⟩ : ∃ w1, w1 = (w.alloc (.cells #[] 49)).alloc (.cells #[.slice (some ⟨w.heap.size, 0, none⟩) 0 0, .slice none 0 0] 56) := ⟨_, rfl⟩
  obtain ⟨g, hg⟩ : ∃ g, g = w.heap.size + 1 := ⟨_, rfl⟩
  have hz1 : w1.heap.size = w.heap.size + 2 := by rw [hw1]; simp
  have K1 : Blk w1 g 56 #[.slice (some ⟨w.heap.size, 0, none⟩) 0 0, .slice none 0 0] := by
    have := Blk.new (w.alloc (.cells #[] 49)) 56 #[.slice (some ⟨w.heap.size, 0, none⟩) 0 0, .slice none 0 0]
    rw [World.size_alloc] at this
    rw [hw1, hg]
    exact this
  have E1 : OwnEvent w1 w.heap.size (w.heap.size + 1) (some ⟨w.heap.size, 0, none⟩) 0 [] := by
    rw [hw1]
    exact (OwnC.lit (w := w) (lo := w.heap.size) (n := 0) 49 6 #[] (Nat.le_refl _) (Nat.zero_le _) rfl).alloc _
  have b1 : Below w.heap.size w w1 := by rw [hw1]; (repeat (first | exact Below.refl _ _ | assumption | apply Below.drew | apply below_drewN | (refine Below.alloc ?_ (by first | omega | (simp; done) | (simp; omega)) _) | (refine Below.setCell ?_ (by first | omega | (simp; done) | (simp; omega)) _)))
  have hgl : g < w1.heap.size := by omega
  go_upto_region 2 with fail
  rw [← hw1, ← hg]
  have hr1 := hr.below b1 hr.lt
  have hks1 := hks.below b1
  have HS1 := Lib.hid (hs.below b1)
  have HZ1 := Lib.hid hz1
  have HGE := Lib.hid hg
  clear hw1 hz1 hg
  go_wp2_with (fail)
  refine (spec_l20Sources w1 hr1 hks1 hst).mono ?_; rintro e w2 ⟨A2, c2, rfl, o2, b2⟩
  have K2 := K1.below b2 hgl
  have E2 := OwnC.below E1 b2 (by have := HZ1.out; omega)
  have B2 : Below w.heap.size w w2 := b1.trans (b2.mono b1.size)
  have hz2 := b2.size
  clear K1 E1
  obtain ⟨i0, hi0, hz0, hz1', hz2'⟩ := info_parts info_int64
  obtain ⟨i1, ie0, iz0, iz1, iz2⟩ := info_parts info_ints
  have HSL := Lib.hid (srcs_length 0 ks)
  have HCT := Lib.hid (cutC_length ks st)
  have HSS := Lib.hid (hs.below B2)
  have hst12 : st.length ≤ 8 := by
    have h1 := hsz
    unfold sizesB stacksB at h1
    simp only [Bool.and_eq_true, decide_eq_true_eq] at h1
    exact h1.1.2.2
  have HS0 := Lib.hid hs
  have hNN : NN st := by
    intro x hx
    have h1 := hsz
    unfold sizesB stacksB at h1
    simp only [Bool.and_eq_true, List.all_eq_true] at h1
    have := inR_iff.1 (h1.1.2.1 x hx)
    omega
  have hS12 : sumI st ≤ 12 := by
    have h1 := hsz
    unfold sizesB stacksB at h1
    simp only [Bool.and_eq_true, List.all_eq_true, decide_eq_true_eq] at h1
    have h2 : tinyB st := fun x hx => by have := inR_iff.1 (h1.1.2.1 x hx); omega
    have h3 := sumI_le h2
    have h4 := sum64_sumI hNN (by omega)
    omega
  have HG0 := Lib.hid (cutC_good hNN HM.out HT.out)
  have HCR := Lib.hid (crossN_ok hNN HM.out HT.out hS12 ks.length (Nat.le_refl _))
  clear hNN
  clear hsz hs hst
  go_wp2_with (fail)
  go_loopw [9] (fun iv wr => ∃ (i : Nat) (AC : Option Addr) (cC : Nat) (cs : List Value), i ≤ ks.length ∧ iv = .int .i64 i ∧ Blk wr g 56 #[.slice (some ⟨w.heap.size, 0, none⟩) 0 0, .slice AC i cC] ∧ OwnC wr w2.heap.size wr.heap.size 22 1 AC i cC cs ∧ CellsII wr w2.heap.size wr.heap.size cs ((cutC ks st).take i) ∧ w2.grownBy wr (some g)) (fun iv _ => ks.length - (intOf iv).toNat)
  case atStart => exact ⟨0, none, 0, [], Nat.zero_le _, rfl, K2, OwnC.nil _ _ _ _ _, ⟨rfl, fun k xs hx => by simp at hx, fun i j v v' g hi' => by simp at hi'⟩, World.grownBy.refl _ _⟩
  case round =>
    clear K2
    obtain ⟨i, AC, cC, cs, hi, rfl, hk, ho, hci, hgr⟩ := hrel
    by_cases hil : i < ks.length
    · have o2r : OwnII wr w1.heap.size w2.heap.size A2 ks.length c2 (srcs 0 ks) := o2.keep fun k h1 h2 h3 => hgr.block k h3 (by intro e; injection e with e; omega)
      obtain ⟨b, off, A4, c4, sx, rfl, hx, hc, hsi, hxl⟩ := o2r.ints2 i (by rw [HSL.out]; exact hil)
      obtain ⟨kd, hkd⟩ : ∃ kd, ks[i]? = some kd := ⟨_, List.getElem?_eq_getElem hil⟩
      have hsa := srcs_at (a := 0) hkd
      rw [hx, Nat.zero_add] at hsa
      injection hsa with hsa
      subst hsa
      have hca := cutC_at (st := st) hkd
      have hkk := HM.out kd (List.mem_of_getElem? hkd)
      have hn4 : takenN kd ≤ 4 := by rcases stitch_cases hkk with rfl | rfl | rfl | rfl | rfl | rfl | rfl | rfl | rfl | rfl | rfl <;> decide
      have han : takenS (ks.take i) + takenN kd ≤ st.length := by
        have h1 : takenS (ks.take (i + 1)) = takenS (ks.take i) + takenN kd := by rw [take_snoc hkd, takenS_append]; simp [takenS]
        have h2 := takenS_append (ks.take (i + 1)) (ks.drop (i + 1))
        rw [List.take_append_drop, HT.out] at h2
        omega
      have HCA : Hid ((cutC ks st).take (i + 1) = (cutC ks st).take i ++ [(st.drop (takenS (ks.take i))).take (takenN kd)]) := Lib.hid (take_snoc hca)
      generalize takenS (ks.take i) = a at *
      generalize takenN kd = n at *
      have hsl : (cntFrom a n).length = n := cntFrom_length a n
      rw [hsl] at hc
      have HSI := Lib.hid hsi
      clear hkd hx hca hkk hsi hsl hxl o2r
      have hwz := hk.lt
      have j1 : (0 : Int) ≤ (i : Int) := by omega
      have j2 : (i : Int) < (ks.length : Int) := by omega
      obtain ⟨wq, hwq⟩ : ∃ wq, wq = wr.alloc (.cells #[] 2) := ⟨_, rfl⟩
      have oq : OwnC wq wr.heap.size wq.heap.size 2 1 (some ⟨wr.heap.size, 0, none⟩) 0 0 [] := by rw [hwq]; exact (OwnC.lit (w := wr) (lo := wr.heap.size) (n := 0) 2 1 #[] (Nat.le_refl _) (Nat.zero_le _) rfl).mono (Nat.le_refl _) (by simp)
      have bq : Below wr.heap.size wr wq := by rw [hwq]; (repeat (first | exact Below.refl _ _ | assumption | apply Below.drew | apply below_drewN | (refine Below.alloc ?_ (by first | omega | (simp; done) | (simp; omega)) _) | (refine Below.setCell ?_ (by first | omega | (simp; done) | (simp; omega)) _)))
      have dk : decide ((i : Int) < (ks.length : Int)) = true := decide_eq_true (by omega)
      have hwz2 := B2.size
      have hge := HGE.out
      have bwr : Below w.heap.size w wr := B2.trans ⟨hgr.os, hgr.tape, hgr.output, hgr.size, fun k hk => hgr.block k (by omega) (fun e => by injection e with e; omega)⟩
      have hSr := HS0.out.below bwr
      clear hge
      go_upto_region 7 with fail
      rw [← hwq]
      clear hwq
      go_wp2_with (fail)
      obtain ⟨wA, rfl⟩ : ∃ wA : World, wA = wr := ⟨_, rfl⟩
      go_loopw [10, 11] (fun cv kv ws => ∃ (t : Nat) (A3 : Option Addr) (c3 : Nat), t ≤ n ∧ kv = .int .i64 t ∧ cv = .slice A3 t c3 ∧ OwnC ws wA.heap.size ws.heap.size 2 1 A3 t c3 (((st.drop a).take t).map (Value.int .i64)) ∧ Below wA.heap.size wA ws) (fun _ kv _ => n - (intOf kv).toNat)
      case atStart => exact ⟨0, some ⟨wA.heap.size, 0, none⟩, 0, Nat.zero_le _, rfl, rfl, by simpa using oq, bq⟩
      case round =>
        obtain ⟨t, A3, c3, ht, rfl, rfl, ho3, hbs⟩ := hrel
        have hcs := cells_below hbs _ _ hc
        by_cases htn : t < n
        · obtain ⟨b4, off4, y, rfl, hcy, hy⟩ := HSI.out t (by rw [cntFrom_length]; exact htn)
          have e := cntFrom_at (a := a) htn
          rw [hy] at e
          injection e with e
          subst e
          obtain ⟨q, hq⟩ : ∃ q, q = a + t := ⟨_, rfl⟩
          rw [← hq] at hcy
          obtain ⟨b5, off5, x, rfl, hcx, hxx⟩ := hSr q (by omega)
          have HN : Hid (((st.drop a).take (t + 1)).map (Value.int .i64) = ((st.drop a).take t).map (Value.int .i64) ++ [.int .i64 x]) := Lib.hid (by
            have h1 : (st.drop a)[t]? = some x := by rw [List.getElem?_drop, ← hq]; exact hxx
            rw [take_snoc h1, List.map_append]
            rfl)
          have hcy2 := cells_below hbs _ _ hcy
          have hcx2 := cells_below hbs _ _ hcx
          have dk2 : decide ((t : Int) < (n : Int)) = true := decide_eq_true (by omega)
          have k0 : (0 : Int) ≤ (t : Int) := by omega
          have k1 : (t : Int) < (n : Int) := by omega
          have k2 : (0 : Int) ≤ (q : Int) := by omega
          have k3 : (q : Int) < (st.length : Int) := by omega
          have hzs := hbs.size
          clear hy hq hxx hcy hcx
          go_wp2_with (at_builtin; refine wpList_append1 wr [.int .i64 x] _ rfl (.tmp 38) (.tmp 49) _ rfl 2 i0 _ 1 8 Try.underlying22 hi0 hz0 hz1' hz2' rfl (by decide) rfl ho3 hzs 1 rfl rfl (by simp [Value.oneCell']) (by omega) (by decide) ?_; intro A5 c5 w5 ho5 hg5 hb5 hz5)
          exact ⟨⟨t + 1, A5, c5, by omega, by go_num, rfl, by rw [HN.out]; exact ho5, hbs.trans hb5⟩, by first | (simp [intOf]; done) | (simp [intOf]; omega)⟩
        · obtain rfl : t = n := by omega
          have dk2 : decide ((t : Int) < (t : Int)) = false := decide_eq_false (by omega)
          have hkA := hk.below hbs hwz
          have hoA := OwnC.below ho hbs (Nat.le_refl _)
          have hciA : CellsII wr w2.heap.size wA.heap.size cs ((cutC ks st).take i) := hci.keep fun q _ h2 _ => hbs.block q h2
          have hzs := hbs.size
          have hnl : ((st.drop a).take t).length = t := by rw [List.length_take, List.length_drop]; omega
          have ox : OwnI wr wA.heap.size wr.heap.size A3 c3 ((st.drop a).take t) := by
            show OwnC _ _ _ _ _ _ _ _ _
            rw [hnl]
            exact ho3
          have hw2A := hgr.size
          have HNL := Lib.hid hnl; clear hnl
          obtain ⟨v0, v1⟩ := hkA.c2
          go_wp2_with (at_builtin; refine wpList_append1 wr [.slice A3 t c3] _ rfl (.tmp 55) (.tmp 57) _ rfl 22 i1 _ 1 24 Try.underlying54 ie0 iz0 iz1 iz2 rfl (by decide) rfl hoA (by omega) 1 rfl rfl (by simp [Value.oneCell']) (by omega) (by decide) ?_; intro A6 c6 w6 ho6 hg6 hb6 hz6; have hk6 := (hkA.alloc (.cells #[.slice A3 t c3] 22)).grownT (hoA.alloc (.cells #[.slice A3 t c3] 22)) (by decide) hg6; have x0 := hk6.c2.1; have x1 := hk6.c2.2; have x2 := hk6.frozen 1)
          have hg6' : (wr.alloc (.cells #[.slice A3 ((st.drop a).take t).length c3] 22)).grownBy w6 (Value.slice AC i cC).ownBlock := by rw [HNL.out]; exact hg6
          have hcl : ((cutC ks st).take i).length = i := by rw [List.length_take, HCT.out]; omega
          obtain ⟨_, hN⟩ := stacks_step hoA hciA ox hw2A hzs hg6' hz6
          rw [HNL.out, ← HCA.out] at hN
          have h1 : w2.grownBy wr (some g) := ⟨hbs.os.trans hgr.os, hbs.tape.trans hgr.tape, hbs.output.trans hgr.output, Nat.le_trans hgr.size hzs, fun q hq hne => (hbs.block q (by omega)).trans (hgr.block q hq hne)⟩
          have h2 : w2.grownBy w6 (some g) := ⟨hg6.os.trans h1.os, hg6.tape.trans h1.tape, hg6.output.trans h1.output, by omega, fun q hq hne => ((hg6.block q (by simp; omega) (fun e => by have := hoA.own.lt q e.symm; omega)).trans (Below.heap_alloc wr _ q (by omega))).trans (h1.block q hq hne)⟩
          have h3 : w2.grownBy (w6.setCell ⟨g, 1, none⟩ (.slice A6 (i + 1) c6)) (some g) := ⟨h2.os, h2.tape, h2.output, by simpa using h2.size, fun q hq hne => (Below.heap_setCell w6 ⟨g, 1, none⟩ _ q (fun e => hne (by rw [e]))).trans (h2.block q hq hne)⟩
          exact ⟨⟨i + 1, A6, c6, _, by omega, by go_num, hk6.set21 _, (OwnC.farT ho6 hk6 (by decide) 1 _).mono (Nat.le_refl _) (by simp), (hN.farT hk6 (by decide) 1 _).mono (Nat.le_refl _) (by simp), h3⟩, by first | (simp [intOf]; done) | (simp [intOf]; omega)⟩
    · obtain rfl : i = ks.length := by omega
      have dk : decide ((ks.length : Int) < (ks.length : Int)) = false := decide_eq_false (by omega)
      have hge := HGE.out
      have H3 : SHd none w.heap.size g wr ⟨[], cutC ks st⟩ := by
        refine ⟨⟨some ⟨w.heap.size, 0, none⟩, 0, AC, cC, ?_, ?_, ?_⟩, by omega⟩
        · dsimp only; rw [HCT.out]; exact hk
        · refine OwnC.mono (OwnC.keep E2 fun k h1 h2 h3 => hgr.block k h3 (fun e => by injection e with e; omega)) (Nat.le_refl _) ?_
          have := hk.lt
          omega
        · dsimp only
          rw [HCT.out]
          have h1 := B2.size
          rw [List.take_of_length_le (by rw [HCT.out]; exact Nat.le_refl _)] at hci
          exact OwnIIz.none ⟨cs, ho.mono h1 (Nat.le_refl _), hci.mono h1 (Nat.le_refl _)⟩
      have hwz2 := B2.size
      have B3 : Below w.heap.size w wr := B2.trans ⟨hgr.os, hgr.tape, hgr.output, hgr.size, fun k hk => hgr.block k (by omega) (fun e => by injection e with e; omega)⟩
      obtain ⟨v0, v1⟩ := hk.c2
      go_wp2_with (fail)
      clear v0 v1 hk ho hci hgr hge
      go_loopw [12] (fun iv ws => ∃ (i : Nat), i ≤ ks.length ∧ iv = .int .i64 i ∧ SHd none w.heap.size g ws (crossN ks i ⟨[], cutC ks st⟩) ∧ Hid (GoodC ks.length (crossN ks i ⟨[], cutC ks st⟩).cells (sumI st) ∧ (crossN ks i ⟨[], cutC ks st⟩).evs.length ≤ 144 * i ∧ ∀ j, i ≤ j → (crossN ks i ⟨[], cutC ks st⟩).cells[j]? = (cutC ks st)[j]?) ∧ Below w.heap.size w ws) (fun iv _ => ks.length - (intOf iv).toNat)
      case atStart => exact ⟨0, Nat.zero_le _, rfl, H3, Lib.hid ⟨HG0.out, by simp [crossN], fun _ _ => rfl⟩, B3⟩
      case round =>
        clear H3 B3
        obtain ⟨i, hi, rfl, hS, HI, hbr⟩ := hrel
        obtain ⟨AC3, cC3, p1, _⟩ := hS.read
        rw [HI.out.1.len] at p1
        by_cases hil : i < ks.length
        · obtain ⟨b, off, kd, rfl, hcy, hkd⟩ := (hks.below hbr) i hil
          have hkk := HM.out kd (List.mem_of_getElem? hkd)
          have hx := HI.out.2.2 i (Nat.le_refl _)
          rw [cutC_at hkd] at hx
          have han : takenS (ks.take i) + takenN kd ≤ st.length := by
            have h1 : takenS (ks.take (i + 1)) = takenS (ks.take i) + takenN kd := by rw [take_snoc hkd, takenS_append]; simp [takenS]
            have h2 := takenS_append (ks.take (i + 1)) (ks.drop (i + 1))
            rw [List.take_append_drop, HT.out] at h2
            omega
          have hev := HI.out.2.1
          have CC := Lib.hid (spec_cross hS HI.out.1 (by omega) hl16 hx hkk (by rw [List.length_take, List.length_drop]; omega) (by omega))
          obtain ⟨g1, g2, g3, _, g5⟩ := crossTo_good HI.out.1 hS12 hx kd
          have hgd : ks.getD i 0 = kd := by rw [List.getD_eq_getElem?_getD, hkd]; rfl
          have HE : Hid (crossN ks (i + 1) ⟨[], cutC ks st⟩ = crossTo kd i ((st.drop (takenS (ks.take i))).take (takenN kd)) (crossN ks i ⟨[], cutC ks st⟩)) := Lib.hid (by rw [crossN, hgd, g1])
          have HG2 := Lib.hid g2; have HG3 := Lib.hid g3; have HG5 := Lib.hid g5
          have r2r := ((hr.below hbr hr.lt).c3).2.2
          have dk2 : decide ((i : Int) < (ks.length : Int)) = true := decide_eq_true (by omega)
          have k1 : (0 : Int) ≤ (i : Int) := by omega
          have k2 : (i : Int) < (ks.length : Int) := by omega
          clear hkd hx hkk han g1 g2 g3 g5 hgd hS
          go_wp2_with (fail)
          refine CC.out.mono ?_; rintro e w9 ⟨rfl, h9, b9⟩
          go_wp2_with (fail)
          refine ⟨⟨i + 1, by omega, by go_num, by rw [HE.out]; exact h9, Lib.hid ?_, hbr.trans b9⟩, by first | (simp [intOf]; done) | (simp [intOf]; omega)⟩
          rw [HE.out]
          refine ⟨HG2.out, by have := HG3.out; omega, fun j hj => ?_⟩
          rw [HG5.out j (by omega)]
          exact HI.out.2.2 j (by omega)
        · obtain rfl : i = ks.length := by omega
          have dk2 : decide ((ks.length : Int) < (ks.length : Int)) = false := decide_eq_false (by omega)
          clear HI
          have HMO := Lib.hid (MakeOk.start HCR.out HM.out hl16 hS12)
          have HHS : Hid (handS d car ks st = makeN d car ks (orderP d ks.length) ks.length (crossN ks ks.length ⟨[], cutC ks st⟩)) := Lib.hid rfl
          clear HCR HG0
          generalize crossN ks ks.length ⟨[], cutC ks st⟩ = s0 at *
          obtain ⟨rr0, _, rr2⟩ := (hr.below hbr hr.lt).c3
          have hOL := Lib.hid (orderP_length d ks.length)
          go_wp2_with (fail)
          refine (spec_l17Order gr 0 d car AK ck ks _ (by omega) rr0 rr2).mono ?_; rintro e w5 ⟨AO, cO, rfl, o5, b5⟩
          have B5 : Below w.heap.size w w5 := hbr.trans (b5.mono hbr.size)
          obtain ⟨z, hz1, hz2⟩ : ∃ z, SHd z w.heap.size g w5 s0 ∧ ∀ w' s', SHd z w.heap.size g w' s' → Ints w' AO (orderP d ks.length) := by
            have o5' : OwnI w5 wr.heap.size w5.heap.size AO cO (orderP d ks.length) := by
              show OwnC _ _ _ _ _ _ _ _ _
              rw [hOL.out]
              exact o5
            have hi5 := o5'.ints
            rcases o5.form with ⟨h1, h2, _⟩ | ⟨q, cur, rfl, h3, h4, h5, _⟩
            · refine ⟨none, hS.below b5, fun w' s' _ k hk => ?_⟩
              rw [hOL.out] at hk
              omega
            · exact ⟨some (q, cur), hS.seal_ b5 h3 h5, fun w' s' hs' => hi5.blk h5 hs'.apart⟩
          clear hS hbr o5 b5 rr0 rr2 p1
          go_wp2_with (fail)
          go_loopw [14] (fun iv ws => ∃ (n : Nat) (sn : HS), n ≤ ks.length ∧ iv = .int .i64 n ∧ Hid (makeN d car ks (orderP d ks.length) n s0 = some sn) ∧ SHd z w.heap.size g ws sn ∧ Hid (MakeOk ks n sn) ∧ Below w.heap.size w ws) (fun iv _ => ks.length - (intOf iv).toNat)
          case atStart => exact ⟨0, s0, Nat.zero_le _, rfl, Lib.hid rfl, hz1, HMO, B5⟩
          case round =>
            clear hz1 B5
            obtain ⟨n, sn, hn, rfl, HN, hsn, HO, hbn⟩ := hrel
            by_cases hnl : n < ks.length
            · obtain ⟨b, off, x, rfl, hcx, hx⟩ := (hz2 wr sn hsn) n (by rw [hOL.out]; exact hnl)
              obtain ⟨q, rfl, hq⟩ := orderP_in hx
              obtain ⟨kd, hkd⟩ : ∃ kd, ks[q]? = some kd := ⟨_, List.getElem?_eq_getElem hq⟩
              have hkk := HM.out kd (List.mem_of_getElem? hkd)
              obtain ⟨c, hc, h6, hms, ⟨S1, hS1, hG1⟩, hev1, hok⟩ := makeStep_ok HO.out d car hkd
              obtain ⟨S, hS, hG⟩ := HO.out.good
              have hev := HO.out.evs
              have CC := Lib.hid (spec_stitch hsn hG (by omega) hl16 hc (hr.below hbn hr.lt) (hks.below hbn) hkd hkk (fun h => h6 (by omega)) hr.lt hd (by omega))
              have HMS : Hid (makeN d car ks (orderP d ks.length) (n + 1) s0 = if 12 < tot (makeTo d car kd q c sn).cells then none else some (makeTo d car kd q c sn)) := Lib.hid (by
                have hgd : (orderP d ks.length).getD n 0 = (q : Int) := by rw [List.getD_eq_getElem?_getD, hx]; rfl
                rw [makeN, HN.out]
                show (if 12 < tot (makeStep d car ks ((orderP d ks.length).getD n 0).toNat sn).cells then none else some (makeStep d car ks ((orderP d ks.length).getD n 0).toNat sn)) = _
                rw [hgd, Int.toNat_natCast, hms])
              have HOK := Lib.hid hok
              have HG1 := Lib.hid hG1
              have HN0 := HN
              clear hms hok hG1 HN hev1 hx hc h6 hG
              generalize makeTo d car kd q c sn = s2 at *
              have dk3 : decide ((n : Int) < (ks.length : Int)) = true := decide_eq_true (by omega)
              have k1 : (0 : Int) ≤ (n : Int) := by omega
              have k2 : (n : Int) < (ks.length : Int) := by omega
              clear hsn
              go_wp2_with (fail)
              refine CC.out.mono ?_; rintro e w9 ⟨rfl, h9, b9⟩
              obtain ⟨AC9, cC9, p9, _⟩ := h9.read
              rw [HG1.out.len] at p9
              have CB := Lib.hid (spec_before h9 HG1.out (by omega) hl16 ks.length (Nat.le_refl _))
              rw [List.take_of_length_le (by rw [HG1.out.len]; exact Nat.le_refl _)] at CB
              by_cases h12 : 12 < tot s2.cells
              · have d12 : decide (12 < tot s2.cells) = true := decide_eq_true h12
                have HE := hand_none (d := d) (car := car) (ks := ks) (st := st) (by rw [HHS.out]; exact makeN_none (n := n + 1) (by rw [HMS.out, if_pos h12]) ks.length (by omega))
                have HNN : Hid (handS d car ks st = none) := Lib.hid (by rw [HHS.out]; exact makeN_none (n := n + 1) (by rw [HMS.out, if_pos h12]) ks.length (by omega))
                obtain ⟨HE1, HE2⟩ := HE
                have HE1 := Lib.hid HE1; have HE2 := Lib.hid HE2
                go_wp2_with (fail)
                refine CB.out.mono ?_; rintro e _ ⟨rfl, rfl⟩
                go_wp2_with (fail)
                go_ret3
                exact ⟨none, 0, none, 0, by rw [HE1.out, HE2.out, HNN.out]; rfl, by rw [HE1.out]; exact OwnC.nil _ _ _ _ _, by rw [HE2.out]; exact OwnC.nil _ _ _ _ _, hbn.trans b9⟩
              · have d12 : decide (12 < tot s2.cells) = false := decide_eq_false h12
                go_wp2_with (fail)
                refine CB.out.mono ?_; rintro e _ ⟨rfl, rfl⟩
                go_wp2_with (fail)
                exact ⟨⟨n + 1, s2, by omega, by go_num, Lib.hid (by rw [HMS.out, if_neg (by omega)]), h9, Lib.hid (HOK.out (by omega)), hbn.trans b9⟩, by first | (simp [intOf]; done) | (simp [intOf]; omega)⟩
            · obtain rfl : n = ks.length := by omega
              have dk3 : decide ((ks.length : Int) < (ks.length : Int)) = false := decide_eq_false (by omega)
              obtain ⟨HE1, HE2⟩ := hand_some (show handS d car ks st = some sn by rw [HHS.out, HN.out])
              have HSM : Hid (handS d car ks st = some sn) := Lib.hid (by rw [HHS.out, HN.out])
              have HE1 := Lib.hid HE1; have HE2 := Lib.hid HE2
              obtain ⟨S, hS, hG⟩ := HO.out.good
              have hcnt := cells_cnt hG hl16
              have HGL := Lib.hid hG.len
              obtain ⟨⟨AE, cE, AC, cC, hk9, ho9, hc9⟩, _⟩ := hsn
              have hi2 := hc9.ints2
              rw [HGL.out] at hk9
              obtain ⟨v0, v1⟩ := hk9.c2
              have o0 : OwnC (wr.alloc (.cells #[] 2)) wr.heap.size (wr.alloc (.cells #[] 2)).heap.size 2 1 (some ⟨wr.heap.size, 0, none⟩) 0 0 [] := (OwnC.lit (w := wr) (lo := wr.heap.size) (n := 0) 2 1 #[] (Nat.le_refl _) (Nat.zero_le _) rfl).mono (Nat.le_refl _) (by simp)
              have b0 : Below wr.heap.size wr (wr.alloc (.cells #[] 2)) := by (repeat (first | exact Below.refl _ _ | assumption | apply Below.drew | apply below_drewN | (refine Below.alloc ?_ (by first | omega | (simp; done) | (simp; omega)) _) | (refine Below.setCell ?_ (by first | omega | (simp; done) | (simp; omega)) _)))
              clear hG HO HN HHS hz2
              go_wp2_with (fail)
              obtain ⟨wA, rfl⟩ : ∃ wA : World, wA = wr := ⟨_, rfl⟩
              go_loopw [15, 16] (fun ov iv ws => ∃ (i : Nat) (A3 : Option Addr) (c3 : Nat), i ≤ ks.length ∧ iv = .int .i64 i ∧ ov = .slice A3 (cntII (sn.cells.take i)) c3 ∧ OwnC ws wA.heap.size ws.heap.size 2 1 A3 (cntII (sn.cells.take i)) c3 ((sn.cells.take i).flatten.map (Value.int .i64)) ∧ Below wA.heap.size wA ws) (fun _ iv _ => ks.length - (intOf iv).toNat)
              case atStart => exact ⟨0, some ⟨wA.heap.size, 0, none⟩, 0, Nat.zero_le _, rfl, rfl, o0, b0⟩
              case round =>
                clear o0 b0
                obtain ⟨i, A3, c3, hi, rfl, rfl, ho3, hbs⟩ := hrel
                have x1 := cells_below hbs _ _ v1
                have hzs := hbs.size
                by_cases hil : i < ks.length
                · obtain ⟨b, off, A4, c4, cx, rfl, hx, hc, hci, hcl⟩ := (hi2.below hbs) i (by rw [HGL.out]; exact hil)
                  have hle := cntII_at hx
                  have HN2 : Hid (cntII (sn.cells.take (i + 1)) = cntII (sn.cells.take i) + cx.length) := Lib.hid (cntII_snoc hx)
                  have HF : Hid ((sn.cells.take (i + 1)).flatten.map (Value.int .i64) = (sn.cells.take i).flatten.map (Value.int .i64) ++ cx.map (Value.int .i64)) := Lib.hid (by rw [take_snoc hx, List.flatten_append, List.map_append]; simp)
                  clear hx
                  generalize cntII (sn.cells.take i) = m at *
                  generalize (sn.cells.take i).flatten.map (Value.int .i64) = L at *
                  have dk4 : decide ((i : Int) < (ks.length : Int)) = true := decide_eq_true (by omega)
                  have k1 : (0 : Int) ≤ (i : Int) := by omega
                  have k2 : (i : Int) < (ks.length : Int) := by omega
                  go_wp2_with (at_builtin; refine wpList_appendC wr rfl (.tmp 113) (.tmp 120) _ rfl 2 i0 _ 1 8 Try.underlying22 hi0 hz0 hz1' hz2' rfl (by decide) rfl ho3 hzs A4 cx.length c4 (cx.map (Value.int .i64)) rfl (by simp) hci.newsM (fun u hu => by obtain ⟨y, _, rfl⟩ := List.mem_map.1 hu; rfl) (by unfold maxLen; omega) (by omega) ?_; intro A5 c5 w5 ho5 hg5 hb5)
                  exact ⟨⟨i + 1, A5, c5, by omega, by go_num, by rw [HN2.out], by rw [HN2.out, HF.out]; exact ho5, hbs.trans hb5⟩, by first | (simp [intOf]; done) | (simp [intOf]; omega)⟩
                · obtain rfl : i = ks.length := by omega
                  have dk4 : decide ((ks.length : Int) < (ks.length : Int)) = false := decide_eq_false (by omega)
                  have x0 := cells_below hbs _ _ v0
                  have hTK := Lib.hid (List.take_of_length_le (l := sn.cells) (i := ks.length) (by rw [HGL.out]; exact Nat.le_refl _))
                  rw [hTK.out] at ho3
                  go_wp2_with (fail)
                  go_ret3
                  have hwn := hbn.size
                  refine ⟨AE, cE, A3, c3, ?_, ?_, ?_, ?_⟩
                  · rw [HE1.out, HE2.out, HSM.out, length_flatten, hTK.out]; rfl
                  · rw [HE1.out]; exact (OwnC.below ho9 hbs (Nat.le_refl _)).mono (Nat.le_refl _) hzs
                  · rw [HE2.out]
                    show OwnC _ _ _ _ _ _ _ _ _
                    rw [length_flatten]
                    exact ho3.mono hwn (Nat.le_refl _)
                  · exact hbn.trans (hbs.mono hwn)

end Go.Proofs.Ythjamohaeahipaa

/- Knitting by hand: a row, the given side's HandRow. -/
namespace Go.Proofs.Ythjamohaeahipaa
open Go Go.RowKit

def hrOk (d r : Int) (ks st : List Int) : Bool := rowB d r ks && sizesB st
def hrCode (d r : Int) (ks st : List Int) : Int :=
  if hrOk d r ks st then (if (stacksAfterP st ks).2 = 0 then (if (handS d r ks st).isSome then 0 else 5) else (stacksAfterP st ks).2) else 1
def hrEvs (d r : Int) (ks st : List Int) : List EventD := if hrOk d r ks st && decide ((stacksAfterP st ks).2 = 0) then handEvs d r ks st else []
def hrAfter (d r : Int) (ks st : List Int) : List Int := if hrOk d r ks st && decide ((stacksAfterP st ks).2 = 0) then handAfter d r ks st else []
theorem hr_bad {d r : Int} {ks st : List Int} (h : hrOk d r ks st = false) : hrCode d r ks st = 1 ∧ hrEvs d r ks st = [] ∧ hrAfter d r ks st = [] := by
  unfold hrCode hrEvs hrAfter
  rw [h]
  exact ⟨rfl, rfl, rfl⟩
theorem hr_code {d r : Int} {ks st : List Int} (h : hrOk d r ks st = true) (h2 : (stacksAfterP st ks).2 ≠ 0) : hrCode d r ks st = (stacksAfterP st ks).2 ∧ hrEvs d r ks st = [] ∧ hrAfter d r ks st = [] := by
  unfold hrCode hrEvs hrAfter
  rw [h, if_pos rfl, if_neg h2, decide_eq_false h2]
  exact ⟨rfl, rfl, rfl⟩
theorem hr_go {d r : Int} {ks st : List Int} (h : hrOk d r ks st = true) (h2 : (stacksAfterP st ks).2 = 0) : hrCode d r ks st = (if (handS d r ks st).isSome then 0 else 5) ∧ hrEvs d r ks st = handEvs d r ks st ∧ hrAfter d r ks st = handAfter d r ks st := by
  unfold hrCode hrEvs hrAfter
  rw [h, if_pos rfl, if_pos h2, decide_eq_true h2]
  exact ⟨rfl, rfl, rfl⟩
theorem stacks_ok {st ks : List Int} (h : (stacksAfterP st ks).2 = 0) : takenS ks = st.length := by
  unfold stacksAfterP at h
  split at h
  · split at h
    · assumption
    · simp at h
  · simp at h

set_option maxHeartbeats 1000000 in
theorem spec_HandRow (d r : Int) (ks st : List Int) (A B : Option Addr) (c c2 : Nat) (w : World) (h : Ints w A ks) (hl : ks.length ≤ 9223372036854775807) (h' : Ints w B st) (hl' : st.length ≤ 9223372036854775807) :
    Calls Try.prog 5 #[.agg #[.int .i64 d, .int .i64 r, .slice A ks.length c], .slice B st.length c2] w fun e w' => ∃ A1 c1 A2 c2, e = .returned (.tuple #[.slice A1 (hrEvs d r ks st).length c1, .slice A2 (hrAfter d r ks st).length c2, .int .i64 (hrCode d r ks st)]) ∧
      OwnEvent w' w.heap.size w'.heap.size A1 c1 (hrEvs d r ks st) ∧ OwnI w' w.heap.size w'.heap.size A2 c2 (hrAfter d r ks st) ∧ Below w.heap.size w w' := by
  obtain ⟨w1, hw1⟩ : ∃ w1, w1 = w.alloc (.cells #[.int .i64 d, .int .i64 r, .slice A ks.length c] 29) := ⟨_, rfl⟩
  have hb1 : Below w.heap.size w w1 := by rw [hw1]; (repeat (first | exact Below.refl _ _ | assumption | apply Below.drew | apply below_drewN | (refine Below.alloc ?_ (by first | omega | (simp; done) | (simp; omega)) _) | (refine Below.setCell ?_ (by first | omega | (simp; done) | (simp; omega)) _)))
  have ka : Blk w1 w.heap.size 29 #[.int .i64 d, .int .i64 r, .slice A ks.length c] := by rw [hw1]; exact Blk.new w _ _
  cases hv : rowB d r ks
  · have HF := Lib.hid (hr_bad (d := d) (r := r) (ks := ks) (st := st) (by rw [hrOk, hv]; rfl))
    go_enter Try.func5, Try.ntmps5
    go_wp2_with (fail)
    rw [← hw1]; clear hw1
    refine (spec_l15Row _ _ d r A c ks _ (h.below hb1) hl ka.c3.1 ka.c3.2.1 ka.c3.2.2).mono ?_; rintro e _ ⟨rfl, rfl⟩
    rw [hv]
    go_wp2_with (fail)
    go_ret3
    exact ⟨none, 0, none, 0, by rw [HF.out.1, HF.out.2.1, HF.out.2.2]; rfl, by rw [HF.out.2.1]; exact OwnC.nil _ _ _ _ _, by rw [HF.out.2.2]; exact OwnC.nil _ _ _ _ _, hb1⟩
  · cases hs : sizesB st
    · have HF := Lib.hid (hr_bad (d := d) (r := r) (ks := ks) (st := st) (by rw [hrOk, hv, hs]; rfl))
      go_enter Try.func5, Try.ntmps5
      go_wp2_with (fail)
      rw [← hw1]; clear hw1
      refine (spec_l15Row _ _ d r A c ks _ (h.below hb1) hl ka.c3.1 ka.c3.2.1 ka.c3.2.2).mono ?_; rintro e _ ⟨rfl, rfl⟩
      rw [hv]
      go_wp2_with (fail)
      refine (spec_l17Ok B c2 st _ (h'.below hb1) hl').mono ?_; rintro e _ ⟨rfl, rfl⟩
      rw [hs]
      go_wp2_with (fail)
      go_ret3
      exact ⟨none, 0, none, 0, by rw [HF.out.1, HF.out.2.1, HF.out.2.2]; rfl, by rw [HF.out.2.1]; exact OwnC.nil _ _ _ _ _, by rw [HF.out.2.2]; exact OwnC.nil _ _ _ _ _, hb1⟩
    · have HOK : Hid (hrOk d r ks st = true) := Lib.hid (by rw [hrOk, hv, hs]; rfl)
      have HV := Lib.hid hv; have HS := Lib.hid hs
      obtain ⟨hd, _, hks, _⟩ := rowB_of hv
      have HKS := Lib.hid hks
      clear hv hs hks
      by_cases h0 : (stacksAfterP st ks).2 = 0
      · have HF := Lib.hid (hr_go HOK.out h0)
        have HT := Lib.hid (stacks_ok h0)
        have d0 : ((stacksAfterP st ks).2 != 0) = false := by simp [h0]
        clear h0
        go_enter Try.func5, Try.ntmps5
        go_wp2_with (fail)
        rw [← hw1]; clear hw1
        refine (spec_l15Row _ _ d r A c ks _ (h.below hb1) hl ka.c3.1 ka.c3.2.1 ka.c3.2.2).mono ?_; rintro e _ ⟨rfl, rfl⟩
        rw [HV.out]
        go_wp2_with (fail)
        refine (spec_l17Ok B c2 st _ (h'.below hb1) hl').mono ?_; rintro e _ ⟨rfl, rfl⟩
        rw [HS.out]
        obtain ⟨_, _, r2⟩ := ka.c3
        go_wp2_with (fail)
        refine (spec_StacksAfter st ks B c2 A c _ (h'.below hb1) hl' (h.below hb1) hl).mono ?_; rintro e w2 ⟨A9, c9, rfl, _, b2⟩
        have B2 : Below w.heap.size w w2 := hb1.trans (b2.mono hb1.size)
        have ka2 := ka.below b2 ka.lt
        go_wp2_with (fail)
        refine (spec_l17Row (cS := c2) w2 ka2 (h.below B2) HKS.out hd (h'.below B2) HS.out HT.out).mono ?_; rintro e w3 ⟨A1, c1, A2, c3, rfl, o1, o2, b3⟩
        have B3 : Below w.heap.size w w3 := B2.trans (b3.mono B2.size)
        cases hsm : (handS d r ks st).isSome
        · have HE := Lib.hid (hand_none (d := d) (car := r) (ks := ks) (st := st) (by simpa using hsm))
          have HC : Hid (hrCode d r ks st = 5) := Lib.hid (by rw [HF.out.1, hsm]; rfl)
          go_wp2_with (fail)
          go_ret3
          exact ⟨none, 0, none, 0, by rw [HC.out, HF.out.2.1, HF.out.2.2, HE.out.1, HE.out.2]; rfl, by rw [HF.out.2.1, HE.out.1]; exact OwnC.nil _ _ _ _ _, by rw [HF.out.2.2, HE.out.2]; exact OwnC.nil _ _ _ _ _, B3⟩
        · have HC : Hid (hrCode d r ks st = 0) := Lib.hid (by rw [HF.out.1, hsm]; rfl)
          go_wp2_with (fail)
          go_ret3
          have hz := B2.size
          exact ⟨A1, c1, A2, c3, by rw [HC.out, HF.out.2.1, HF.out.2.2]; rfl, by rw [HF.out.2.1]; exact OwnC.mono o1 hz (Nat.le_refl _), by rw [HF.out.2.2]; exact OwnC.mono o2 hz (Nat.le_refl _), B3⟩
      · have HF := Lib.hid (hr_code HOK.out h0)
        have d0 : ((stacksAfterP st ks).2 != 0) = true := by simp [h0]
        clear h0
        go_enter Try.func5, Try.ntmps5
        go_wp2_with (fail)
        rw [← hw1]; clear hw1
        refine (spec_l15Row _ _ d r A c ks _ (h.below hb1) hl ka.c3.1 ka.c3.2.1 ka.c3.2.2).mono ?_; rintro e _ ⟨rfl, rfl⟩
        rw [HV.out]
        go_wp2_with (fail)
        refine (spec_l17Ok B c2 st _ (h'.below hb1) hl').mono ?_; rintro e _ ⟨rfl, rfl⟩
        rw [HS.out]
        obtain ⟨_, _, r2⟩ := ka.c3
        go_wp2_with (fail)
        refine (spec_StacksAfter st ks B c2 A c _ (h'.below hb1) hl' (h.below hb1) hl).mono ?_; rintro e w2 ⟨A9, c9, rfl, _, b2⟩
        have B2 : Below w.heap.size w w2 := hb1.trans (b2.mono hb1.size)
        go_wp2_with (fail)
        go_ret3
        exact ⟨none, 0, none, 0, by rw [HF.out.1, HF.out.2.1, HF.out.2.2]; rfl, by rw [HF.out.2.1]; exact OwnC.nil _ _ _ _ _, by rw [HF.out.2.2]; exact OwnC.nil _ _ _ _ _, B2⟩

end Go.Proofs.Ythjamohaeahipaa
