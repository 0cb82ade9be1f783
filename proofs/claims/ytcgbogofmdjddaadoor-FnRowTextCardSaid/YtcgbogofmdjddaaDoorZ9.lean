/- Steps of the proof, joined from several texts: EC ED DG DJ. -/
import Derived.Test.YtcgbogofmdjddaaDoorZ8
import Derived.Test.YtcgbogofmdjddaaDoorZ7

/- ExpandPieces, the given side. -/
namespace Go.Proofs.YtcgbogofmdjddaaDoor
open Go Go.RowKit

theorem ex_1 {ps : List PieceD} {cols : Int} (h : piecesB ps = false) : exRes ps cols = [] ∧ exCode ps cols = 1 := ex_err (by simp [exCode, h]) (by decide)
theorem ex_2 {ps : List PieceD} {cols : Int} (h : piecesB ps = true) (hc : inR cols 1 8 = false) : exRes ps cols = [] ∧ exCode ps cols = 2 := ex_err (by simp [exCode, h, hc]) (by decide)
theorem ex_10 {ps : List PieceD} {cols : Int} (h : piecesB ps = true) (hc : inR cols 1 8 = true) (he : ¬ needOf ps + timesOf ps cols * eachOf ps = cols) : exRes ps cols = [] ∧ exCode ps cols = 10 := ex_err (by simp [exCode, h, hc, he]) (by decide)
theorem ex_5 {ps : List PieceD} {cols : Int} (h : piecesB ps = true) (hc : inR cols 1 8 = true) (he : needOf ps + timesOf ps cols * eachOf ps = cols) (hs : ¬ sumP true ps 0 + timesOf ps cols * sumP true (openPart ps) 0 ≤ 16) : exRes ps cols = [] ∧ exCode ps cols = 5 := ex_err (by rw [exCode, if_pos h, if_pos hc, if_pos he, if_neg hs]) (by decide)
theorem ex_0 {ps : List PieceD} {cols : Int} (h : piecesB ps = true) (hc : inR cols 1 8 = true) (he : needOf ps + timesOf ps cols * eachOf ps = cols) (hs : sumP true ps 0 + timesOf ps cols * sumP true (openPart ps) 0 ≤ 16) : exRes ps cols = expP (timesOf ps cols) ps ∧ exCode ps cols = 0 := ex_ok (by rw [exCode, if_pos h, if_pos hc, if_pos he, if_pos hs])

set_option maxHeartbeats 4000000 in
theorem spec_ExpandPieces (ps : List PieceD) (cols : Int) (A : Option Addr) (c : Nat) (w : World) (h : Pieces w A ps) (hl : ps.length ≤ 9223372036854775807) (hc : ps.length ≤ c) (hcm : c ≤ 9223372036854775807) :
    Calls Tryd.prog 69 #[.slice A ps.length c, .int .i64 cols] w fun e w' => ∃ A' c', e = .returned (.tuple #[.slice A' (exRes ps cols).length c', .int .i64 (exCode ps cols)]) ∧ OwnI w' w.heap.size w'.heap.size A' c' (exRes ps cols) ∧ Below w.heap.size w w' := by
  cases hv : piecesB ps
  · have HF := Lib.hid (ex_1 (cols := cols) hv)
    go_enter Tryd.func69, Tryd.ntmps69
    go_wp2_with (fail)
    refine (spec_l16Ok _ _ _ _ h hl).mono ?_; rintro e w2 ⟨rfl, b2⟩
    rw [hv]
    go_wp2_with (fail)
    go_ret2
    rw [HF.out.1, HF.out.2]
    exact ⟨none, 0, rfl, OwnC.nil _ _ _ _ _, b2⟩
  · cases hcb : inR cols 1 8
    · have HF := Lib.hid (ex_2 hv hcb)
      go_enter Tryd.func69, Tryd.ntmps69
      go_wp2_with (fail)
      refine (spec_l16Ok _ _ _ _ h hl).mono ?_; rintro e w2 ⟨rfl, b2⟩
      rw [hv]
      clear hv
      go_wp2_with (go_at_call 39; refine (spec_l00In _ _ _ _).mono ?_; rintro e _ ⟨rfl, rfl⟩; rw [hcb])
      go_ret2
      rw [HF.out.1, HF.out.2]
      exact ⟨none, 0, rfl, OwnC.nil _ _ _ _ _, b2⟩
    · obtain ⟨h24, _, hg⟩ := piecesB_good hv
      obtain ⟨d, hd⟩ := openPart_good ps.length ps (Nat.le_refl _) hg
      have hpl := openPart_length ps
      obtain ⟨⟨n0, n1⟩, ⟨e0, e1⟩⟩ := sums_small hv false
      obtain ⟨⟨s0, s1⟩, ⟨o0, o1⟩⟩ := sums_small hv true
      obtain ⟨q1, q8⟩ := inR_iff.1 hcb
      have HV := Lib.hid hv
      have HCB := Lib.hid hcb
      have HG := Lib.hid hg; clear hg
      have HD := Lib.hid hd; clear hd
      have HT8 := Lib.hid (expT_range (each := eachOf ps) (show 0 ≤ needOf ps from n0) q8)
      have HN : Hid (needOf ps = sumP false ps 0) := Lib.hid rfl
      have HE : Hid (eachOf ps = sumP false (openPart ps) 0) := Lib.hid rfl
      have HTM : Hid (timesOf ps cols = expT (needOf ps) cols (eachOf ps)) := Lib.hid rfl
      go_enter Tryd.func69, Tryd.ntmps69
      go_wp2_with (fail)
      refine (spec_l16Ok _ _ _ _ h hl).mono ?_; rintro e w2 ⟨rfl, b2⟩
      rw [hv]
      clear hv
      go_wp2_with (go_at_call 39; refine (spec_l00In _ _ _ _).mono ?_; rintro e _ ⟨rfl, rfl⟩; rw [hcb])
      clear hcb
      refine (spec_l16Open _ _ _ _ (by omega) hc hcm (h.below b2) HG.out).mono ?_; rintro e _ ⟨⟨A', c', ok, rfl, hp, hc1, hc2⟩, rfl⟩
      go_wp2_with (fail)
      refine (spec_l16Sum false ps.length ps A c 0 _ (Nat.le_refl _) (by omega) hc hcm (h.below b2) HG.out).mono ?_; rintro e w3 ⟨rfl, b3⟩
      have hb3 : Below w.heap.size w w3 := b2.trans (b3.mono b2.size)
      have hp3 := hp.below b3
      have z3 := hb3.size
      obtain ⟨need, hneed⟩ : ∃ x, x = sumP false ps 0 := ⟨_, rfl⟩
      rw [← hneed] at n0 n1 HN ⊢
      have hR : IntKind.i64.wrap (cols - need) = cols - need := IntWalk.i64_in _ ⟨by omega, by omega⟩
      clear hneed
      go_wp2_with (fail)
      refine (spec_l16Sum false (openPart ps).length (openPart ps) A' c' d _ (Nat.le_refl _) (by omega) hc1 hc2 hp3 HD.out).mono ?_; rintro e w4 ⟨rfl, b4⟩
      have hb4 : Below w.heap.size w w4 := hb3.trans (b4.mono z3)
      have hp4 := hp3.below b4
      have z4 := hb4.size
      have hps4 := h.below hb4
      obtain ⟨each, heach⟩ : ∃ x, x = sumP false (openPart ps) 0 := ⟨_, rfl⟩
      rw [← heach] at e0 e1 HE ⊢
      clear heach b2 b3 b4 hp hp3 hR
      obtain ⟨R, hR⟩ : ∃ R, R = cols - need := ⟨_, rfl⟩
      have HR := Lib.hid hR
      have R0 : -100000000 ≤ R ∧ R ≤ 100000000 := by omega
      obtain ⟨R1, R2⟩ := R0
      rw [← hR]
      have HST : Hid (∀ W, Below w.heap.size w W → Calls Tryd.prog 103 #[.slice A ps.length c, .bool true] W fun e w' => e = .returned (.int .i64 (sumP true ps 0)) ∧ Below W.heap.size W w') := Lib.hid (fun W hW => spec_l16Sum true ps.length ps A c 0 W (Nat.le_refl _) (by omega) hc hcm (h.below hW) HG.out)
      have HSO : Hid (∀ W, Below w4.heap.size w4 W → Calls Tryd.prog 103 #[.slice A' (openPart ps).length c', .bool true] W fun e w' => e = .returned (.int .i64 (sumP true (openPart ps) 0)) ∧ Below W.heap.size W w') := Lib.hid (fun W hW => spec_l16Sum true (openPart ps).length (openPart ps) A' c' d W (Nat.le_refl _) (by omega) hc1 hc2 (hp4.below hW) HD.out)
      have HEX : Hid (∀ W, Below w.heap.size w W → Calls Tryd.prog 104 #[.slice A ps.length c, .int .i64 (timesOf ps cols)] W fun e w' => ∃ A' c', e = .returned (.slice A' (expP (timesOf ps cols) ps).length c') ∧ OwnI w' W.heap.size w'.heap.size A' c' (expP (timesOf ps cols) ps) ∧ Below W.heap.size W w') := Lib.hid (fun W hW => spec_l16Expand _ (by have := HT8.out; rw [← HTM.out] at this; omega) ps.length ps A c 0 W (Nat.le_refl _) (by omega) hc hcm (h.below hW) HG.out)
      have HF10 := Lib.hid (fun he => ex_10 (ps := ps) (cols := cols) HV.out HCB.out he)
      have HF5 := Lib.hid (fun he hs => ex_5 (ps := ps) (cols := cols) HV.out HCB.out he hs)
      have HF0 := Lib.hid (fun he hs => ex_0 (ps := ps) (cols := cols) HV.out HCB.out he hs)
      have HT := HT8.out
      rw [← HTM.out] at HT
      rw [HN.out, HE.out] at HTM HF10 HF5 HF0
      obtain ⟨T, hT⟩ : ∃ T, T = timesOf ps cols := ⟨_, rfl⟩
      rw [← hT] at HEX HF10 HF5 HF0 HTM HT
      have HTT := Lib.hid hT; clear hT HT8
      obtain ⟨T0, T8⟩ := HT
      clear hps4 hp4
      generalize sumP true ps 0 = st at s0 s1 HST HF5 HF0
      generalize sumP true (openPart ps) 0 = os at o0 o1 HSO HF5 HF0
      have HTV : Hid (T = if 0 < R ∧ 0 < each then R.tdiv each else 0) := Lib.hid (by
        rw [HTM.out, expT, hR]
        by_cases hn : need < cols
        · by_cases he : 0 < each
          · rw [if_pos ⟨hn, he⟩, if_pos ⟨by omega, he⟩]
          · rw [if_neg (fun x => he x.2), if_neg (fun x => he x.2)]
        · rw [if_neg (fun x => hn x.1), if_neg (fun x => hn (by omega))])
      have HEQ : Hid (need + T * each = cols ↔ T * each = R) := Lib.hid (by rw [hR]; omega)
      clear hR
      have m0 := Int.mul_nonneg T0 e0
      have m1 := Int.mul_le_mul T8 e1 e0 (by omega)
      have x0 := Int.mul_nonneg T0 o0
      have x1 := Int.mul_le_mul T8 o1 o0 (by omega)
      have HM : Hid (IntKind.i64.wrap (T * each) = T * each) := Lib.hid (IntWalk.i64_in _ ⟨by omega, by omega⟩)
      have HX : Hid (IntKind.i64.wrap (T * os) = T * os) := Lib.hid (IntWalk.i64_in _ ⟨by omega, by omega⟩)
      have HY : Hid (IntKind.i64.wrap (st + T * os) = st + T * os) := Lib.hid (IntWalk.i64_in _ ⟨by omega, by omega⟩)
      generalize hme : T * each = me at m0 m1 HM HEQ HF10 HF5 HF0
      generalize hmo : T * os = mo at x0 x1 HX HY HF5 HF0
      have HME := Lib.hid hme; clear hme
      have HMO := Lib.hid hmo; clear hmo
      go_upto_region 9 with fail
      go_cut [33] (fun bv wx => bv = .bool (decide (0 < R ∧ 0 < each)) ∧ w4 = wx)
      case first =>
        by_cases hr : 0 < R
        · have HB : Hid (decide (0 < R ∧ 0 < each) = decide (0 < each)) := Lib.hid (by rw [decide_eq_decide]; omega)
          go_wp2_with (fail)
          go_meet
          exact ⟨bool_eq HB.out.symm, rfl⟩
        · have HB : Hid (decide (0 < R ∧ 0 < each) = false) := Lib.hid (decide_eq_false (by omega))
          go_wp2_with (fail)
          go_meet
          exact ⟨bool_eq HB.out.symm, rfl⟩
      case rest =>
      obtain ⟨rfl, rfl⟩ := hcut
      go_upto_if 33 with fail
      go_cut [10] (fun tv wx => tv = .int .i64 T ∧ w4 = wx)
      case first =>
        by_cases hr : 0 < R
        · by_cases he : 0 < each
          · have HV2 : Hid (R.tdiv each = T) := Lib.hid (by rw [HTV.out, if_pos ⟨hr, he⟩])
            have hq : IntKind.i64.wrap (R.tdiv each) = T := by rw [HV2.out]; exact IntWalk.i64_in _ ⟨by omega, by omega⟩
            have hne : ¬ each = 0 := by omega
            have hbt : decide (0 < R ∧ 0 < each) = true := decide_eq_true ⟨hr, he⟩
            go_wp2_with (fail)
            go_meet
            exact ⟨by first | rfl | rw [HV2.out], rfl⟩
          · have HV2 : Hid (T = 0) := Lib.hid (by rw [HTV.out, if_neg (fun x => he x.2)])
            have hbt : decide (0 < R ∧ 0 < each) = false := decide_eq_false (fun x => he x.2)
            go_wp2_with (fail)
            go_meet
            exact ⟨by rw [HV2.out], rfl⟩
        · have HV2 : Hid (T = 0) := Lib.hid (by rw [HTV.out, if_neg (fun x => hr x.1)])
          have hbt : decide (0 < R ∧ 0 < each) = false := decide_eq_false (fun x => hr x.1)
          go_wp2_with (fail)
          go_meet
          exact ⟨by rw [HV2.out], rfl⟩
      case rest =>
      obtain ⟨rfl, rfl⟩ := hcut
      have hM : IntKind.i64.wrap (T * each) = me := by rw [HME.out]; exact HM.out
      have hX : IntKind.i64.wrap (T * os) = mo := by rw [HMO.out]; exact HX.out
      have hY := HY.out
      by_cases hme : me = R
      · have hmb : (me != R) = false := by simp [hme]
        have HEQ2 := Lib.hid (HEQ.out.2 hme)
        clear hme
        by_cases hs : st + mo ≤ 16
        · have hsb : decide ((16 : Int) < st + mo) = false := decide_eq_false (by omega)
          have HF := Lib.hid (HF0.out HEQ2.out (by omega))
          clear hs
          go_wp2_with (fail)
          refine (HST.out _ hb4).mono ?_; rintro e w5 ⟨rfl, b5⟩
          have hb5 : Below w.heap.size w w5 := hb4.trans (b5.mono z4)
          have z5 := hb5.size
          go_wp2_with (fail)
          refine (HSO.out _ b5).mono ?_; rintro e w6 ⟨rfl, b6⟩
          have hb6 : Below w.heap.size w w6 := hb5.trans (b6.mono z5)
          have z6 := hb6.size
          go_wp2_with (fail)
          refine (HEX.out _ hb6).mono ?_; rintro e w7 ⟨A7, c7, rfl, o7, b7⟩
          have hb7 : Below w.heap.size w w7 := hb6.trans (b7.mono z6)
          go_wp2_with (fail)
          go_ret2
          rw [HF.out.1, HF.out.2]
          exact ⟨A7, c7, rfl, OwnC.mono o7 z6 (Nat.le_refl _), hb7⟩
        · have hsb : decide ((16 : Int) < st + mo) = true := decide_eq_true (by omega)
          have HF := Lib.hid (HF5.out HEQ2.out (by omega))
          clear hs
          go_wp2_with (fail)
          refine (HST.out _ hb4).mono ?_; rintro e w5 ⟨rfl, b5⟩
          have hb5 : Below w.heap.size w w5 := hb4.trans (b5.mono z4)
          have z5 := hb5.size
          go_wp2_with (fail)
          refine (HSO.out _ b5).mono ?_; rintro e w6 ⟨rfl, b6⟩
          have hb6 : Below w.heap.size w w6 := hb5.trans (b6.mono z5)
          go_wp2_with (fail)
          go_ret2
          rw [HF.out.1, HF.out.2]
          exact ⟨none, 0, rfl, OwnC.nil _ _ _ _ _, hb6⟩
      · have hmb : (me != R) = true := by simp [hme]
        have HF := Lib.hid (HF10.out (fun x => hme (HEQ.out.1 x)))
        clear hme
        go_wp2_with (fail)
        go_ret2
        rw [HF.out.1, HF.out.2]
        exact ⟨none, 0, rfl, OwnC.nil _ _ _ _ _, hb4⟩

end Go.Proofs.YtcgbogofmdjddaaDoor

/- ExpandPieces, the program's side. -/
namespace Go.Proofs.YtcgbogofmdjddaaDoor
open Go Go.RowKit

/-- What the closure works on: the box with the number of times, the box with the stitches until now. -/
structure ES (w : World) (g gO lo : Nat) (o : Int) (A : Option Addr) (c : Nat) (out : List Int) : Prop where
  bT : Blk w g 2 #[.int .i64 o]
  bO : Blk w gO 35 #[.slice A out.length c]
  ow : OwnI w lo w.heap.size A c out
  ord : g < lo ∧ lo ≤ gO
theorem ES.alloc {w : World} {g gO lo : Nat} {o : Int} {A : Option Addr} {c : Nat} {out : List Int} (h : ES w g gO lo o A c out) (x : Obj) : ES (w.alloc x) g gO lo o A c out :=
  ⟨h.bT.alloc x, h.bO.alloc x, (OwnC.alloc h.ow x).mono (Nat.le_refl _) (by simp), h.ord⟩
theorem ES.below {w w' : World} {g gO lo : Nat} {o : Int} {A : Option Addr} {c : Nat} {out : List Int} (h : ES w g gO lo o A c out) (hb : Below w.heap.size w w') : ES w' g gO lo o A c out :=
  ⟨h.bT.below hb h.bT.lt, h.bO.below hb h.bO.lt, (OwnC.below h.ow hb (Nat.le_refl _)).mono (Nat.le_refl _) hb.size, h.ord⟩
set_option maxHeartbeats 2000000 in
theorem expd_plain (p : PieceD) (A' : Option Addr) (n c' g gO lo : Nat) (o : Int) (A : Option Addr) (c : Nat) (out : List Int) (w : World) (hs : ES w g gO lo o A c out) (hk : p.kind ≠ 12) (ht : 1 ≤ p.times ∧ p.times ≤ 16) (hl : out.length ≤ 100000000) :
    Calls Tryd.prog 101 #[.agg #[.int .i64 p.kind, .int .i64 p.times, .int .i64 p.len], .slice A' n c', .pointer (some ⟨g, 0, none⟩), .pointer (some ⟨gO, 0, none⟩)] w fun e w' =>
      e = .returned (.tuple #[]) ∧ (∃ A2 c2, ES w' g gO lo o A2 c2 (out ++ rep p.times [p.kind])) ∧ Below lo w w' := by
  obtain ⟨iI, hi0, hu0, hu1, hu2⟩ := info_parts info_int64
  have t1 : (35 : TypeId) ≠ 2 := by decide
  have t2 : (45 : TypeId) ≠ 2 := by decide
  have hk' : (p.kind == 12) = false := by simp [hk]
  have ht' : (p.times == 0) = false := by simp; omega
  obtain ⟨hgl, hlg⟩ := hs.ord
  have hlO := hs.bO.lt
  obtain ⟨T, hT⟩ := Int.eq_ofNat_of_zero_le (show 0 ≤ p.times by omega)
  have hT16 : T ≤ 16 := by omega
  have HT := Lib.hid hT
  have kp := Blk.new w 45 #[.int .i64 p.kind, .int .i64 p.times, .int .i64 p.len]
  have hsA := hs.alloc (.cells #[.int .i64 p.kind, .int .i64 p.times, .int .i64 p.len] 45)
  have hbA : Below lo w (w.alloc (.cells #[.int .i64 p.kind, .int .i64 p.times, .int .i64 p.len] 45)) := (Below.refl _ _).alloc (by omega) _
  obtain ⟨u0, u1, u2⟩ := kp.c3
  obtain ⟨gP, hgP⟩ : ∃ gP, gP = w.heap.size := ⟨_, rfl⟩
  rw [← hgP] at kp u0 u1 u2 hlO
  have hgPO : gP ≠ gO := by omega
  clear hk hT ht
  go_enter Tryd.func101, Tryd.ntmps101
  go_wp2_with (fail)
  rw [← hgP]
  clear hgP
  go_loopw [13] (fun iv wr => ∃ (q : Nat) (A5 : Option Addr) (c5 : Nat), q ≤ T ∧ iv = .int .i64 (q : Int) ∧ ES wr g gO lo o A5 c5 (out ++ rep (q : Int) ([p.kind])) ∧ Blk wr gP 45 #[.int .i64 p.kind, .int .i64 p.times, .int .i64 p.len] ∧ Below lo w wr) (fun iv _ => T - (intOf iv).toNat)
  case atStart => exact ⟨0, A, c, Nat.zero_le _, rfl, by simpa [rep] using hsA, kp, hbA⟩
  case round =>
    clear hsA kp hbA u0 u1 u2 hs
    obtain ⟨q, A5, c5, hq, rfl, hsq, kpq, hbq⟩ := hrel
    have hlq := hsq.bO.lt
    obtain ⟨u0, u1, u2⟩ := kpq.c3
    have b0 := hsq.bO.c1
    by_cases hqT : q < T
    · have d1 : decide ((q : Int) < p.times) = true := decide_eq_true (by rw [HT.out]; omega)
      have HR : Hid (rep ((q : Int) + 1) ([p.kind]) = rep (q : Int) ([p.kind]) ++ ([p.kind])) := Lib.hid (rep_snoc q ([p.kind]))
      have hlen : (out ++ rep (q : Int) ([p.kind])).length ≤ 600000000 := by
        rw [List.length_append, rep_length, Int.toNat_natCast]
        have h1 := Nat.mul_le_mul (show q ≤ 15 by omega) (show ([p.kind]).length ≤ 30000000 by simp)
        omega
      have w12 : IntKind.i64.wrap ((q : Int) + 1) = (q : Int) + 1 := IntWalk.i64_in _ ⟨by omega, by omega⟩
      have HA2 : Hid ((((out ++ rep (q : Int) ([p.kind])).map (Value.int .i64)) ++ (([p.kind]).map (Value.int .i64))) = ((out ++ rep ((q : Int) + 1) ([p.kind])).map (Value.int .i64))) := Lib.hid (by rw [HR.out, ← List.map_append, List.append_assoc])
      have HA3 : Hid ((out ++ rep ((q : Int) + 1) ([p.kind])).length = (out ++ rep (q : Int) ([p.kind])).length + ([p.kind]).length) := Lib.hid (by rw [HR.out, ← List.append_assoc, List.length_append])
      generalize hOQ : out ++ rep (q : Int) ([p.kind]) = oq at hsq hlen HA2 HA3 b0
      generalize hON : out ++ rep ((q : Int) + 1) ([p.kind]) = on at HA2 HA3
      have HON : Hid (out ++ rep (((q + 1 : Nat)) : Int) ([p.kind]) = on) := Lib.hid (by rw [← hON]; push_cast; rfl)
      clear hOQ hON HR
      have HKB : Hid (∀ w8, (wr.alloc (.cells #[.int .i64 p.kind] 2)).grownBy w8 (Value.slice A5 oq.length c5).ownBlock → Blk w8 gO 35 #[.slice A5 oq.length c5]) := Lib.hid (fun w8 hg => (hsq.bO.alloc _).grownT (hsq.ow.alloc (.cells #[.int .i64 p.kind] 2)) t1 hg)
      go_wp2_with (at_builtin; refine wpList_append1 wr [.int .i64 p.kind] _ rfl (.tmp 22) (.tmp 25) _ rfl 2 iI _ 1 8 Tryd.underlying35 hi0 hu0 hu1 hu2 rfl (by decide) rfl hsq.ow (by omega) 1 rfl rfl (by simp [Value.oneCell']) (by omega) (by decide) ?_; intro A9 c9 w8 ho8 hg8 hb8 hz8; have kb8 := HKB.out w8 hg8; have x0' := kb8.c1; have x1' := kb8.frozen 0)
      have kb8 := HKB.out w8 hg8
      have kp8 := (kpq.alloc (.cells #[.int .i64 p.kind] 2)).grownT (hsq.ow.alloc (.cells #[.int .i64 p.kind] 2)) t2 hg8
      have bT8 := hsq.bT.below hb8 hgl
      refine ⟨⟨q + 1, A9, c9, by omega, by first | go_num | (push_cast; go_num), ?_, kp8.far hgPO _, ?_⟩, by first | (simp [intOf]; done) | (simp [intOf]; omega)⟩
      · rw [HON.out]
        refine ⟨bT8.far (by show g ≠ gO; omega) _, ?_, ?_, ⟨hgl, hlg⟩⟩
        · rw [HA3.out]; simpa using kb8.set1 _
        · show OwnC _ _ _ _ _ _ _ _ _
          rw [HA3.out, ← HA2.out]
          exact (OwnC.farT ho8 kb8 t1 0 _).mono (Nat.le_refl _) (by simp)
      · exact (hbq.trans hb8).setCell (by show lo ≤ gO; omega) _
    · obtain rfl : q = T := by omega
      have d1 : decide ((q : Int) < p.times) = false := decide_eq_false (by rw [HT.out]; omega)
      rw [← HT.out] at hsq
      go_wp2_with (fail)
      go_end0
      exact ⟨rfl, ⟨A5, c5, hsq⟩, hbq⟩
set_option maxHeartbeats 4000000 in
theorem expd_group (p : PieceD) (A' : Option Addr) (n c' g gO lo : Nat) (o : Int) (A : Option Addr) (c : Nat) (out part : List Int) (w : World) (hs : ES w g gO lo o A c out) (hk : p.kind = 12) (ht : 0 ≤ p.times ∧ p.times ≤ 16) (ho : 0 ≤ o ∧ o ≤ 16) (hl : out.length ≤ 100000000) (hpl : part.length ≤ 30000000)
    (HM : Hid (∀ W, Below lo w W → Calls Tryd.prog 67 #[.slice A' n c', .int .i64 0] W fun e w' => ∃ A5 c5, e = .returned (.slice A5 part.length c5) ∧ OwnI w' W.heap.size w'.heap.size A5 c5 part ∧ Below W.heap.size W w')) :
    Calls Tryd.prog 101 #[.agg #[.int .i64 p.kind, .int .i64 p.times, .int .i64 p.len], .slice A' n c', .pointer (some ⟨g, 0, none⟩), .pointer (some ⟨gO, 0, none⟩)] w fun e w' =>
      e = .returned (.tuple #[]) ∧ (∃ A2 c2, ES w' g gO lo o A2 c2 (out ++ rep (if p.times = 0 then o else p.times) part)) ∧ Below lo w w' := by
  obtain ⟨iI, hi0, hu0, hu1, hu2⟩ := info_parts info_int64
  have t1 : (35 : TypeId) ≠ 2 := by decide
  have t2 : (45 : TypeId) ≠ 2 := by decide
  have hk' : (p.kind == 12) = true := by simp [hk]
  obtain ⟨hgl, hlg⟩ := hs.ord
  obtain ⟨ho0, ho16⟩ := ho
  obtain ⟨ht0, ht16⟩ := ht
  have hlO := hs.bO.lt
  have kp := Blk.new w 45 #[.int .i64 p.kind, .int .i64 p.times, .int .i64 p.len]
  have hsA := hs.alloc (.cells #[.int .i64 p.kind, .int .i64 p.times, .int .i64 p.len] 45)
  have hbA : Below lo w (w.alloc (.cells #[.int .i64 p.kind, .int .i64 p.times, .int .i64 p.len] 45)) := (Below.refl _ _).alloc (by omega) _
  obtain ⟨u0, u1, u2⟩ := kp.c3
  have v0 := hsA.bT.c1
  obtain ⟨gP, hgP⟩ : ∃ gP, gP = w.heap.size := ⟨_, rfl⟩
  rw [← hgP] at kp u0 u1 u2 hlO
  have hgPO : gP ≠ gO := by omega
  clear hk
  by_cases htz : p.times = 0
  · rw [if_pos htz]
    have ht' : (p.times == 0) = true := by simp [htz]
    obtain ⟨T, hT⟩ := Int.eq_ofNat_of_zero_le ho0
    have hT16 : T ≤ 16 := by omega
    have HT := Lib.hid hT
    clear hT htz ht0 ht16
    go_enter Tryd.func101, Tryd.ntmps101
    go_wp2_with (fail)
    rw [← hgP]
    clear hgP
    go_loopw [13] (fun iv wr => ∃ (q : Nat) (A5 : Option Addr) (c5 : Nat), q ≤ T ∧ iv = .int .i64 (q : Int) ∧ ES wr g gO lo o A5 c5 (out ++ rep (q : Int) (part)) ∧ Blk wr gP 45 #[.int .i64 p.kind, .int .i64 p.times, .int .i64 p.len] ∧ Below lo w wr) (fun iv _ => T - (intOf iv).toNat)
    case atStart => exact ⟨0, A, c, Nat.zero_le _, rfl, by simpa [rep] using hsA, kp, hbA⟩
    case round =>
      clear hsA kp hbA u0 u1 u2 hs
      obtain ⟨q, A5, c5, hq, rfl, hsq, kpq, hbq⟩ := hrel
      have hlq := hsq.bO.lt
      obtain ⟨u0, u1, u2⟩ := kpq.c3
      have b0 := hsq.bO.c1
      by_cases hqT : q < T
      · have d1 : decide ((q : Int) < o) = true := decide_eq_true (by rw [HT.out]; omega)
        have HR : Hid (rep ((q : Int) + 1) (part) = rep (q : Int) (part) ++ (part)) := Lib.hid (rep_snoc q (part))
        have hlen : (out ++ rep (q : Int) (part)).length ≤ 600000000 := by
          rw [List.length_append, rep_length, Int.toNat_natCast]
          have h1 := Nat.mul_le_mul (show q ≤ 15 by omega) (show (part).length ≤ 30000000 by exact hpl)
          omega
        have w12 : IntKind.i64.wrap ((q : Int) + 1) = (q : Int) + 1 := IntWalk.i64_in _ ⟨by omega, by omega⟩
        have HA2 : Hid ((((out ++ rep (q : Int) (part)).map (Value.int .i64)) ++ ((part).map (Value.int .i64))) = ((out ++ rep ((q : Int) + 1) (part)).map (Value.int .i64))) := Lib.hid (by rw [HR.out, ← List.map_append, List.append_assoc])
        have HA3 : Hid ((out ++ rep ((q : Int) + 1) (part)).length = (out ++ rep (q : Int) (part)).length + (part).length) := Lib.hid (by rw [HR.out, ← List.append_assoc, List.length_append])
        generalize hOQ : out ++ rep (q : Int) (part) = oq at hsq hlen HA2 HA3 b0
        generalize hON : out ++ rep ((q : Int) + 1) (part) = on at HA2 HA3
        have HON : Hid (out ++ rep (((q + 1 : Nat)) : Int) (part) = on) := Lib.hid (by rw [← hON]; push_cast; rfl)
        clear hOQ hON HR
        go_wp2_with (fail)
        (refine wp_region_pops 2 (S := (fun W' => W'.cell? ⟨gO, 0, none⟩ = some (.slice A5 oq.length c5))) (pre := ?_) (T := ?_) (n := ?_) (by kernel_rfl) (by kernel_rfl) ?_ ?_ ?_ ?_ (fun hHeld => ?_); rotate_left 3; (focus (simp only [pops, List.pop_toArray, List.dropLast_cons_cons, List.dropLast_singleton]; rfl)); (focus (simp only [tailOf, List.pop_toArray, List.dropLast_cons_cons, List.dropLast_singleton, List.back?_toArray, List.getLast?_cons_cons, List.getLast?_singleton, Option.toList_some, List.nil_append, List.cons_append]; rfl)); (focus rfl); (focus (exact b0)))
        ((refine wpAnyH_take (i := 0) (v := ?_) rfl (by kernel_rfl) (by kernel_rfl) (by kernel_rfl) (fun _ _ _ h => h) (Or.inl ⟨by rfl, ?_⟩) (by assumption) ?_; rotate_left; (focus (intro W hSw; (try dsimp only at hSw); go_simp; try (with_reducible rfl)))); (try simp only [List.getElem_toArray, List.getElem_cons_zero, Act.put, List.setIfInBounds_toArray, List.set_cons_zero, List.set_cons_succ]); (refine wpAnyH_take (i := 1) (v := ?_) rfl (by kernel_rfl) (by kernel_rfl) (by kernel_rfl) (fun _ _ _ h => h) (Or.inl ⟨by rfl, ?_⟩) (by assumption) ?_; rotate_left; (focus (intro W hSw; (try dsimp only at hSw); go_simp; try (with_reducible rfl)))); (try simp only [List.getElem_toArray, List.getElem_cons_zero, List.getElem_cons_succ, Act.put, List.setIfInBounds_toArray, List.set_cons_zero, List.set_cons_succ]))
        (refine wpAnyH_ready (rs := [2]) (by kernel_rfl) (by simp) ?_; refine AllReadyH.cons rfl (fun K hK => ?_) AllReadyH.nil)
        go_simp
        refine (HM.out _ (Below.drew hbq)).mono ?_; rintro e w7 ⟨A7, c7, rfl, o7', b7'⟩
        have b7 := undrew b7'
        have o7 : OwnI w7 wr.heap.size w7.heap.size A7 c7 part := o7'
        have hz7 := b7.size
        have hs7 := hsq.below b7
        have kp7 := kpq.below b7 kpq.lt
        refine hK.out _ _ hs7.bO.c1 (fun hHeld => ?_)
        clear hK K b7' o7'
        (try simp only [List.getElem_toArray, List.getElem_cons_zero, List.getElem_cons_succ, Act.put, List.setIfInBounds_toArray, List.set_cons_zero, List.set_cons_succ])
        (refine wpAnyH_done (by kernel_rfl) ?_ _; change wpList _ _ _ _ _ _)
        clear hHeld b0 u0 u1 u2
        have ow7 := OwnC.below hsq.ow b7 (Nat.le_refl _)
        have HKB : Hid (∀ w8, w7.grownBy w8 (Value.slice A5 oq.length c5).ownBlock → Blk w8 gO 35 #[.slice A5 oq.length c5]) := Lib.hid (fun w8 hg => hs7.bO.grownT hs7.ow t1 hg)
        go_wp2_with (at_builtin; refine wpList_appendC w7 rfl (.tmp 18) (.tmp 20) _ rfl 2 iI _ 1 8 Tryd.underlying35 hi0 hu0 hu1 hu2 rfl (by decide) rfl hs7.ow (by omega) A7 part.length c7 (part.map (Value.int .i64)) rfl (by simp) o7.news (ints_one _) (by unfold maxLen; omega) (by omega) ?_; intro A9 c9 w8 ho8 hg8 hb8; have kb8 := HKB.out w8 hg8; have x0' := kb8.c1; have x1' := kb8.frozen 0)
        have kb8 := HKB.out w8 hg8
        have kp8 := kp7.grownT hs7.ow t2 hg8
        have bT8 := hs7.bT.below hb8 hgl
        have hz8 := hg8.size
        refine ⟨⟨q + 1, A9, c9, by omega, by first | go_num | (push_cast; go_num), ?_, kp8.far hgPO _, ?_⟩, by first | (simp [intOf]; done) | (simp [intOf]; omega)⟩
        · rw [HON.out]
          refine ⟨bT8.far (by show g ≠ gO; omega) _, ?_, ?_, ⟨hgl, hlg⟩⟩
          · rw [HA3.out]; simpa using kb8.set1 _
          · show OwnC _ _ _ _ _ _ _ _ _
            rw [HA3.out, ← HA2.out]
            exact (OwnC.farT ho8 kb8 t1 0 _).mono (Nat.le_refl _) (by simp)
        · exact ((hbq.trans (b7.mono (by omega))).trans hb8).setCell (by show lo ≤ gO; omega) _
      · obtain rfl : q = T := by omega
        have d1 : decide ((q : Int) < o) = false := decide_eq_false (by rw [HT.out]; omega)
        rw [← HT.out] at hsq
        go_wp2_with (fail)
        go_end0
        exact ⟨rfl, ⟨A5, c5, hsq⟩, hbq⟩
  · rw [if_neg htz]
    have ht' : (p.times == 0) = false := by simp [htz]
    obtain ⟨T, hT⟩ := Int.eq_ofNat_of_zero_le ht0
    have hT16 : T ≤ 16 := by omega
    have HT := Lib.hid hT
    clear hT htz ht0 ht16
    go_enter Tryd.func101, Tryd.ntmps101
    go_wp2_with (fail)
    rw [← hgP]
    clear hgP
    go_loopw [13] (fun iv wr => ∃ (q : Nat) (A5 : Option Addr) (c5 : Nat), q ≤ T ∧ iv = .int .i64 (q : Int) ∧ ES wr g gO lo o A5 c5 (out ++ rep (q : Int) (part)) ∧ Blk wr gP 45 #[.int .i64 p.kind, .int .i64 p.times, .int .i64 p.len] ∧ Below lo w wr) (fun iv _ => T - (intOf iv).toNat)
    case atStart => exact ⟨0, A, c, Nat.zero_le _, rfl, by simpa [rep] using hsA, kp, hbA⟩
    case round =>
      clear hsA kp hbA u0 u1 u2 hs
      obtain ⟨q, A5, c5, hq, rfl, hsq, kpq, hbq⟩ := hrel
      have hlq := hsq.bO.lt
      obtain ⟨u0, u1, u2⟩ := kpq.c3
      have b0 := hsq.bO.c1
      by_cases hqT : q < T
      · have d1 : decide ((q : Int) < p.times) = true := decide_eq_true (by rw [HT.out]; omega)
        have HR : Hid (rep ((q : Int) + 1) (part) = rep (q : Int) (part) ++ (part)) := Lib.hid (rep_snoc q (part))
        have hlen : (out ++ rep (q : Int) (part)).length ≤ 600000000 := by
          rw [List.length_append, rep_length, Int.toNat_natCast]
          have h1 := Nat.mul_le_mul (show q ≤ 15 by omega) (show (part).length ≤ 30000000 by exact hpl)
          omega
        have w12 : IntKind.i64.wrap ((q : Int) + 1) = (q : Int) + 1 := IntWalk.i64_in _ ⟨by omega, by omega⟩
        have HA2 : Hid ((((out ++ rep (q : Int) (part)).map (Value.int .i64)) ++ ((part).map (Value.int .i64))) = ((out ++ rep ((q : Int) + 1) (part)).map (Value.int .i64))) := Lib.hid (by rw [HR.out, ← List.map_append, List.append_assoc])
        have HA3 : Hid ((out ++ rep ((q : Int) + 1) (part)).length = (out ++ rep (q : Int) (part)).length + (part).length) := Lib.hid (by rw [HR.out, ← List.append_assoc, List.length_append])
        generalize hOQ : out ++ rep (q : Int) (part) = oq at hsq hlen HA2 HA3 b0
        generalize hON : out ++ rep ((q : Int) + 1) (part) = on at HA2 HA3
        have HON : Hid (out ++ rep (((q + 1 : Nat)) : Int) (part) = on) := Lib.hid (by rw [← hON]; push_cast; rfl)
        clear hOQ hON HR
        go_wp2_with (fail)
        (refine wp_region_pops 2 (S := (fun W' => W'.cell? ⟨gO, 0, none⟩ = some (.slice A5 oq.length c5))) (pre := ?_) (T := ?_) (n := ?_) (by kernel_rfl) (by kernel_rfl) ?_ ?_ ?_ ?_ (fun hHeld => ?_); rotate_left 3; (focus (simp only [pops, List.pop_toArray, List.dropLast_cons_cons, List.dropLast_singleton]; rfl)); (focus (simp only [tailOf, List.pop_toArray, List.dropLast_cons_cons, List.dropLast_singleton, List.back?_toArray, List.getLast?_cons_cons, List.getLast?_singleton, Option.toList_some, List.nil_append, List.cons_append]; rfl)); (focus rfl); (focus (exact b0)))
        ((refine wpAnyH_take (i := 0) (v := ?_) rfl (by kernel_rfl) (by kernel_rfl) (by kernel_rfl) (fun _ _ _ h => h) (Or.inl ⟨by rfl, ?_⟩) (by assumption) ?_; rotate_left; (focus (intro W hSw; (try dsimp only at hSw); go_simp; try (with_reducible rfl)))); (try simp only [List.getElem_toArray, List.getElem_cons_zero, Act.put, List.setIfInBounds_toArray, List.set_cons_zero, List.set_cons_succ]); (refine wpAnyH_take (i := 1) (v := ?_) rfl (by kernel_rfl) (by kernel_rfl) (by kernel_rfl) (fun _ _ _ h => h) (Or.inl ⟨by rfl, ?_⟩) (by assumption) ?_; rotate_left; (focus (intro W hSw; (try dsimp only at hSw); go_simp; try (with_reducible rfl)))); (try simp only [List.getElem_toArray, List.getElem_cons_zero, List.getElem_cons_succ, Act.put, List.setIfInBounds_toArray, List.set_cons_zero, List.set_cons_succ]))
        (refine wpAnyH_ready (rs := [2]) (by kernel_rfl) (by simp) ?_; refine AllReadyH.cons rfl (fun K hK => ?_) AllReadyH.nil)
        go_simp
        refine (HM.out _ (Below.drew hbq)).mono ?_; rintro e w7 ⟨A7, c7, rfl, o7', b7'⟩
        have b7 := undrew b7'
        have o7 : OwnI w7 wr.heap.size w7.heap.size A7 c7 part := o7'
        have hz7 := b7.size
        have hs7 := hsq.below b7
        have kp7 := kpq.below b7 kpq.lt
        refine hK.out _ _ hs7.bO.c1 (fun hHeld => ?_)
        clear hK K b7' o7'
        (try simp only [List.getElem_toArray, List.getElem_cons_zero, List.getElem_cons_succ, Act.put, List.setIfInBounds_toArray, List.set_cons_zero, List.set_cons_succ])
        (refine wpAnyH_done (by kernel_rfl) ?_ _; change wpList _ _ _ _ _ _)
        clear hHeld b0 u0 u1 u2
        have ow7 := OwnC.below hsq.ow b7 (Nat.le_refl _)
        have HKB : Hid (∀ w8, w7.grownBy w8 (Value.slice A5 oq.length c5).ownBlock → Blk w8 gO 35 #[.slice A5 oq.length c5]) := Lib.hid (fun w8 hg => hs7.bO.grownT hs7.ow t1 hg)
        go_wp2_with (at_builtin; refine wpList_appendC w7 rfl (.tmp 18) (.tmp 20) _ rfl 2 iI _ 1 8 Tryd.underlying35 hi0 hu0 hu1 hu2 rfl (by decide) rfl hs7.ow (by omega) A7 part.length c7 (part.map (Value.int .i64)) rfl (by simp) o7.news (ints_one _) (by unfold maxLen; omega) (by omega) ?_; intro A9 c9 w8 ho8 hg8 hb8; have kb8 := HKB.out w8 hg8; have x0' := kb8.c1; have x1' := kb8.frozen 0)
        have kb8 := HKB.out w8 hg8
        have kp8 := kp7.grownT hs7.ow t2 hg8
        have bT8 := hs7.bT.below hb8 hgl
        have hz8 := hg8.size
        refine ⟨⟨q + 1, A9, c9, by omega, by first | go_num | (push_cast; go_num), ?_, kp8.far hgPO _, ?_⟩, by first | (simp [intOf]; done) | (simp [intOf]; omega)⟩
        · rw [HON.out]
          refine ⟨bT8.far (by show g ≠ gO; omega) _, ?_, ?_, ⟨hgl, hlg⟩⟩
          · rw [HA3.out]; simpa using kb8.set1 _
          · show OwnC _ _ _ _ _ _ _ _ _
            rw [HA3.out, ← HA2.out]
            exact (OwnC.farT ho8 kb8 t1 0 _).mono (Nat.le_refl _) (by simp)
        · exact ((hbq.trans (b7.mono (by omega))).trans hb8).setCell (by show lo ≤ gO; omega) _
      · obtain rfl : q = T := by omega
        have d1 : decide ((q : Int) < p.times) = false := decide_eq_false (by rw [HT.out]; omega)
        rw [← HT.out] at hsq
        go_wp2_with (fail)
        go_end0
        exact ⟨rfl, ⟨A5, c5, hsq⟩, hbq⟩

end Go.Proofs.YtcgbogofmdjddaaDoor

/- Texts of pieces: the program's side. -/
namespace Go.Proofs.YtcgbogofmdjddaaDoor
open Go Go.RowKit

theorem impl_timesText (none : Int) (t : Nat) (ht : t ≤ 16) (w : World) : Calls Tryd.prog 89 #[.int .i64 (t : Int), .int .i64 none] w fun e w' => e = .returned (.string (tmT none t)) ∧ w = w' := by
  by_cases h : (t : Int) = none
  · have hb : ((t : Int) == none) = true := by simp [h]
    have HF : Hid (tmT none t = ⟨#[]⟩) := Lib.hid (by rw [tmT, if_pos h])
    clear h
    go_enter Tryd.func89, Tryd.ntmps89
    go_wp2_with (fail)
    go_ret
    exact ⟨by rw [HF.out]; rfl, rfl⟩
  · have hb : ((t : Int) == none) = false := by simpa using h
    have HF : Hid (tmT none t = decT t) := Lib.hid (by rw [tmT, if_neg h, Int.toNat_natCast])
    clear h
    go_enter Tryd.func89, Tryd.ntmps89
    go_wp2_with (fail)
    refine (impl_Decimal t ht _).mono ?_; rintro e _ ⟨rfl, rfl⟩
    go_wp2_with (fail)
    go_ret
    exact ⟨by rw [HF.out]; rfl, rfl⟩

theorem info_string : (Tryd.prog.info? 9).map (fun i => (i.zero, i.size, i.bytes)) = some (some (.string ⟨#[]⟩), 1, 16) := by kernel_rfl
/-- The box with the texts until now. -/
structure TS (w : World) (gO lo : Nat) (A : Option Addr) (c : Nat) (xs : List ByteArray) : Prop where
  bO : Blk w gO 58 #[.slice A xs.length c]
  ow : OwnC w lo w.heap.size 9 1 A xs.length c (xs.map Value.string)
  ord : lo ≤ gO
theorem TS.alloc {w : World} {gO lo : Nat} {A : Option Addr} {c : Nat} {xs : List ByteArray} (h : TS w gO lo A c xs) (x : Obj) : TS (w.alloc x) gO lo A c xs :=
  ⟨h.bO.alloc x, (OwnC.alloc h.ow x).mono (Nat.le_refl _) (by simp), h.ord⟩
theorem TS.below {w w' : World} {gO lo : Nat} {A : Option Addr} {c : Nat} {xs : List ByteArray} (h : TS w gO lo A c xs) (hb : Below w.heap.size w w') : TS w' gO lo A c xs :=
  ⟨h.bO.below hb h.bO.lt, (OwnC.below h.ow hb (Nat.le_refl _)).mono (Nat.le_refl _) hb.size, h.ord⟩
theorem TS.drew {w : World} {gO lo : Nat} {A : Option Addr} {c : Nat} {xs : List ByteArray} (h : TS w gO lo A c xs) : TS (World.drew w) gO lo A c xs :=
  ⟨h.bO, OwnC.drew1 h.ow, h.ord⟩
/-- The end of the closure: one text behind the others. -/
theorem TS.push {w w8 : World} {gO lo : Nat} {A A9 : Option Addr} {c c9 : Nat} {xs : List ByteArray} {x : ByteArray} (h : TS w gO lo A c xs)
    (ho8 : OwnC w8 lo w8.heap.size 9 1 A9 (xs.length + 1) c9 (xs.map Value.string ++ [.string x])) (kb8 : Blk w8 gO 58 #[.slice A xs.length c]) (hb8 : Below lo w w8) :
    TS (w8.setCell ⟨gO, 0, none⟩ (.slice A9 (xs.length + 1) c9)) gO lo A9 c9 (xs ++ [x]) ∧ Below lo w (w8.setCell ⟨gO, 0, none⟩ (.slice A9 (xs.length + 1) c9)) := by
  have t1 : (58 : TypeId) ≠ 9 := by decide
  have e : (xs ++ [x]).length = xs.length + 1 := by simp
  refine ⟨⟨?_, ?_, h.ord⟩, hb8.setCell (by show lo ≤ gO; exact h.ord) _⟩
  · rw [e]; simpa using kb8.set1 _
  · rw [e, List.map_append]
    exact (OwnC.farT ho8 kb8 t1 0 _).mono (Nat.le_refl _) (by simp)
set_option maxHeartbeats 4000000 in
set_option maxRecDepth 10000 in
theorem ptx_plain (p : PieceD) (A' : Option Addr) (n c' gO lo : Nat) (A : Option Addr) (c : Nat) (xs : List ByteArray) (w : World) (hs : TS w gO lo A c xs) (hk : p.kind ≠ 12) (hst : isStitchB p.kind = true) (ht : 1 ≤ p.times ∧ p.times ≤ 16) (hl : xs.length ≤ 800) :
    Calls Tryd.prog 88 #[.agg #[.int .i64 p.kind, .int .i64 p.times, .int .i64 p.len], .slice A' n c', .pointer (some ⟨gO, 0, none⟩)] w fun e w' =>
      e = .returned (.tuple #[]) ∧ (∃ A2 c2, TS w' gO lo A2 c2 (xs ++ [oneT p])) ∧ Below lo w w' := by
  obtain ⟨iS, hi0, hu0, hu1, hu2⟩ := info_parts info_string
  have t1 : (58 : TypeId) ≠ 9 := by decide
  have hk' : (p.kind == 12) = false := by simp [hk]
  have hlg := hs.ord
  have hlO := hs.bO.lt
  obtain ⟨T, hT⟩ := Int.eq_ofNat_of_zero_le (show 0 ≤ p.times by omega)
  have hT16 : T ≤ 16 := by omega
  have HOE : Hid (oneT p = ⟨#[symB p.kind.toNat]⟩ ++ tmT 1 T) := Lib.hid (by rw [oneT, hT])
  have c1 := fun W => impl_SymbolOf p.kind W hst
  have c2 := fun W => impl_timesText 1 T hT16 W
  have C1 := Lib.hid c1; clear c1
  have C2 := Lib.hid c2; clear c2
  rw [hT]
  obtain ⟨w1, hw1⟩ : ∃ w1, w1 = w.alloc (.cells #[.int .i64 p.kind, .int .i64 (T : Int), .int .i64 p.len] 45) := ⟨_, rfl⟩
  obtain ⟨gP, hgP⟩ : ∃ gP, gP = w.heap.size := ⟨_, rfl⟩
  have kp : Blk w1 gP 45 #[.int .i64 p.kind, .int .i64 (T : Int), .int .i64 p.len] := by rw [hw1, hgP]; exact Blk.new _ _ _
  have hs1 : TS w1 gO lo A c xs := by rw [hw1]; exact hs.alloc _
  have hb1 : Below lo w w1 := by rw [hw1]; exact (Below.refl _ _).alloc (by omega) _
  clear hk hT ht
  go_enter Tryd.func88, Tryd.ntmps88
  go_upto_region 1 with fail
  rw [← hw1, ← hgP]
  clear hw1 hgP
  obtain ⟨q0, q1, q2⟩ := kp.c3
  have b0 := hs1.bO.c1
  go_wp2_with (fail)
  (refine wp_region_pops 2 (S := (fun W' => W'.cell? ⟨gO, 0, none⟩ = some (.slice A xs.length c) ∧ W'.cell? ⟨gP, 0, none⟩ = some (.int .i64 p.kind) ∧ W'.cell? ⟨gP, 1, none⟩ = some (.int .i64 (T : Int)))) (pre := ?_) (T := ?_) (n := ?_) (by kernel_rfl) (by kernel_rfl) ?_ ?_ ?_ ?_ (fun hHeld => ?_); rotate_left 3; (focus (simp only [pops, List.pop_toArray, List.dropLast_cons_cons, List.dropLast_singleton]; rfl)); (focus (simp only [tailOf, List.pop_toArray, List.dropLast_cons_cons, List.dropLast_singleton, List.back?_toArray, List.getLast?_cons_cons, List.getLast?_singleton, Option.toList_some, List.nil_append, List.cons_append]; rfl)); (focus rfl); (focus (exact ⟨b0, q0, q1⟩)))
  ((refine wpAnyH_take (i := 0) (v := ?_) rfl (by kernel_rfl) (by kernel_rfl) (by kernel_rfl) (fun _ _ _ h => h) (Or.inl ⟨by rfl, ?_⟩) (by assumption) ?_; rotate_left; (focus (intro W hSw; (try dsimp only at hSw); go_simp; try (with_reducible rfl)))); (try simp only [List.getElem_toArray, List.getElem_cons_zero, Act.put, List.setIfInBounds_toArray, List.set_cons_zero, List.set_cons_succ]); (refine wpAnyH_take (i := 1) (v := ?_) rfl (by kernel_rfl) (by kernel_rfl) (by kernel_rfl) (fun _ _ _ h => h) (Or.inl ⟨by rfl, ?_⟩) (by assumption) ?_; rotate_left; (focus (intro W hSw; (try dsimp only at hSw); go_simp; try (with_reducible rfl)))); (try simp only [List.getElem_toArray, List.getElem_cons_zero, List.getElem_cons_succ, Act.put, List.setIfInBounds_toArray, List.set_cons_zero, List.set_cons_succ]); (refine wpAnyH_take (i := 2) (v := ?_) rfl (by kernel_rfl) (by kernel_rfl) (by kernel_rfl) (fun _ _ _ h => h) (Or.inl ⟨by rfl, ?_⟩) (by assumption) ?_; rotate_left; (focus (intro W hSw; (try dsimp only at hSw); go_simp; try (with_reducible rfl)))); (try simp only [List.getElem_toArray, List.getElem_cons_zero, List.getElem_cons_succ, Act.put, List.setIfInBounds_toArray, List.set_cons_zero, List.set_cons_succ]); (refine wpAnyH_take (i := 4) (v := ?_) rfl (by kernel_rfl) (by kernel_rfl) (by kernel_rfl) (fun _ _ _ h => h) (Or.inl ⟨by rfl, ?_⟩) (by assumption) ?_; rotate_left; (focus (intro W hSw; (try dsimp only at hSw); go_simp; try (with_reducible rfl)))); (try simp only [List.getElem_toArray, List.getElem_cons_zero, List.getElem_cons_succ, Act.put, List.setIfInBounds_toArray, List.set_cons_zero, List.set_cons_succ]); (refine wpAnyH_take (i := 5) (v := ?_) rfl (by kernel_rfl) (by kernel_rfl) (by kernel_rfl) (fun _ _ _ h => h) (Or.inl ⟨by rfl, ?_⟩) (by assumption) ?_; rotate_left; (focus (intro W hSw; (try dsimp only at hSw); go_simp; try (with_reducible rfl)))); (try simp only [List.getElem_toArray, List.getElem_cons_zero, List.getElem_cons_succ, Act.put, List.setIfInBounds_toArray, List.set_cons_zero, List.set_cons_succ]))
  (refine wpAnyH_ready (rs := [3]) (by kernel_rfl) (by simp) ?_; refine AllReadyH.cons rfl (fun K hK => ?_) AllReadyH.nil)
  go_simp
  refine (C1.out _).mono ?_; rintro e w5 ⟨rfl, rfl⟩
  refine hK.out _ _ ⟨b0, q0, q1⟩ (fun hHeld => ?_)
  clear hK K
  (try simp only [List.getElem_toArray, List.getElem_cons_zero, List.getElem_cons_succ, Act.put, List.setIfInBounds_toArray, List.set_cons_zero, List.set_cons_succ])
  (refine wpAnyH_ready (rs := [6]) (by kernel_rfl) (by simp) ?_; refine AllReadyH.cons rfl (fun K hK => ?_) AllReadyH.nil)
  go_simp
  refine (C2.out _).mono ?_; rintro e w5 ⟨rfl, rfl⟩
  refine hK.out _ _ ⟨b0, q0, q1⟩ (fun hHeld => ?_)
  clear hK K
  (try simp only [List.getElem_toArray, List.getElem_cons_zero, List.getElem_cons_succ, Act.put, List.setIfInBounds_toArray, List.set_cons_zero, List.set_cons_succ])
  have hz1 := tmT_size 1 T
  generalize tmT 1 T = tt at *
  ((refine wpAnyH_take (i := 7) (v := ?_) rfl (by kernel_rfl) (by kernel_rfl) (by kernel_rfl) (fun _ _ _ h => h) (Or.inl ⟨by rfl, ?_⟩) (by assumption) ?_; rotate_left; (focus (intro W hSw; (try dsimp only at hSw); go_simp; (try rw [if_neg (by first | omega | (simp only [ByteArray.size_append]; omega))]); try (with_reducible rfl)))); (try simp only [List.getElem_toArray, List.getElem_cons_zero, List.getElem_cons_succ, Act.put, List.setIfInBounds_toArray, List.set_cons_zero, List.set_cons_succ]))
  rw [← HOE.out]
  generalize hxe : oneT p = x at *
  have HXE := Lib.hid hxe; clear hxe
  (refine wpAnyH_ready (rs := [8]) (by kernel_rfl) (by simp) ?_; refine AllReadyH.cons rfl (fun K hK => ?_) AllReadyH.nil)
  go_simp
  have kpx := kp.alloc (.cells #[.string x] 9)
  refine hK.out _ _ ⟨(hs1.bO.alloc _).c1, kpx.c3.1, kpx.c3.2.1⟩ (fun hHeld => ?_)
  clear hK K
  (try simp only [List.getElem_toArray, List.getElem_cons_zero, List.getElem_cons_succ, Act.put, List.setIfInBounds_toArray, List.set_cons_zero, List.set_cons_succ])
  (refine wpAnyH_done (by kernel_rfl) ?_ _; change wpList _ _ _ _ _ _)
  clear hHeld C1 C2
  have hlz : lo ≤ (World.drew w1).heap.size := Nat.le_trans hs1.ord (Nat.le_of_lt hs1.bO.lt)
  have HKB : Hid (∀ w8, ((World.drew w1).alloc (.cells #[.string x] 9)).grownBy w8 (Value.slice A xs.length c).ownBlock → Blk w8 gO 58 #[.slice A xs.length c]) := Lib.hid (fun w8 hg => (hs1.drew.bO.alloc _).grownT (hs1.drew.ow.alloc (.cells #[.string x] 9)) t1 hg)
  go_wp2_with (at_builtin; (change wpList _ _ _ _ _ ((World.drew w1).alloc (.cells #[.string x] 9))); refine wpList_append1 (World.drew w1) [.string x] _ rfl (.tmp 19) (.tmp 27) _ rfl 9 iS _ 1 16 Tryd.underlying58 hi0 hu0 hu1 hu2 rfl (by decide) rfl hs1.drew.ow hlz 1 rfl rfl (by simp [Value.oneCell']) (by omega) (by decide) ?_; intro A9 c9 w8 ho8 hg8 hb8 hz8; have kb8 := HKB.out w8 hg8; have x0' := kb8.c1; have x1' := kb8.frozen 0)
  go_end0
  have kb8 := HKB.out w8 hg8
  obtain ⟨r1, r2⟩ := TS.push hs1.drew ho8 kb8 hb8
  rw [← HXE.out] at r1
  exact ⟨rfl, ⟨A9, c9, r1⟩, (Below.drew hb1).trans r2⟩

set_option maxHeartbeats 4000000 in
set_option maxRecDepth 10000 in
theorem ptx_group (p : PieceD) (it : ByteArray) (A' : Option Addr) (n c' gO lo : Nat) (A : Option Addr) (c : Nat) (xs : List ByteArray) (w : World) (hs : TS w gO lo A c xs) (hk : p.kind = 12) (ht : 0 ≤ p.times ∧ p.times ≤ 16) (hl : xs.length ≤ 800) (hit : it.size ≤ 800)
    (HM : Hid (∀ W, Below lo w W → Calls Tryd.prog 53 #[.slice A' n c'] W fun e w' => e = .returned (.string it) ∧ Below W.heap.size W w')) :
    Calls Tryd.prog 88 #[.agg #[.int .i64 p.kind, .int .i64 p.times, .int .i64 p.len], .slice A' n c', .pointer (some ⟨gO, 0, none⟩)] w fun e w' =>
      e = .returned (.tuple #[]) ∧ (∃ A2 c2, TS w' gO lo A2 c2 (xs ++ [grpT p it])) ∧ Below lo w w' := by
  obtain ⟨iS, hi0, hu0, hu1, hu2⟩ := info_parts info_string
  have t1 : (58 : TypeId) ≠ 9 := by decide
  have hk' : (p.kind == 12) = true := by simp [hk]
  have hlg := hs.ord
  have hlO := hs.bO.lt
  obtain ⟨T, hT⟩ := Int.eq_ofNat_of_zero_le (show 0 ≤ p.times by omega)
  have hT16 : T ≤ 16 := by omega
  have HOE : Hid (grpT p it = (((⟨#[40]⟩ : ByteArray) ++ it) ++ ⟨#[41, 42]⟩) ++ tmT 0 T) := Lib.hid (by rw [grpT, hT])
  have c2 := fun W => impl_timesText 0 T hT16 W
  have C2 := Lib.hid c2; clear c2
  rw [hT]
  obtain ⟨w1, hw1⟩ : ∃ w1, w1 = w.alloc (.cells #[.int .i64 p.kind, .int .i64 (T : Int), .int .i64 p.len] 45) := ⟨_, rfl⟩
  obtain ⟨gP, hgP⟩ : ∃ gP, gP = w.heap.size := ⟨_, rfl⟩
  have kp : Blk w1 gP 45 #[.int .i64 p.kind, .int .i64 (T : Int), .int .i64 p.len] := by rw [hw1, hgP]; exact Blk.new _ _ _
  have hs1 : TS w1 gO lo A c xs := by rw [hw1]; exact hs.alloc _
  have hb1 : Below lo w w1 := by rw [hw1]; exact (Below.refl _ _).alloc (by omega) _
  clear hk hT ht
  go_enter Tryd.func88, Tryd.ntmps88
  go_upto_region 1 with fail
  rw [← hw1, ← hgP]
  clear hw1 hgP
  obtain ⟨q0, q1, q2⟩ := kp.c3
  have b0 := hs1.bO.c1
  go_wp2_with (fail)
  (refine wp_region_pops 2 (S := (fun W' => W'.cell? ⟨gO, 0, none⟩ = some (.slice A xs.length c) ∧ W'.cell? ⟨gP, 1, none⟩ = some (.int .i64 (T : Int)))) (pre := ?_) (T := ?_) (n := ?_) (by kernel_rfl) (by kernel_rfl) ?_ ?_ ?_ ?_ (fun hHeld => ?_); rotate_left 3; (focus (simp only [pops, List.pop_toArray, List.dropLast_cons_cons, List.dropLast_singleton]; rfl)); (focus (simp only [tailOf, List.pop_toArray, List.dropLast_cons_cons, List.dropLast_singleton, List.back?_toArray, List.getLast?_cons_cons, List.getLast?_singleton, Option.toList_some, List.nil_append, List.cons_append]; rfl)); (focus rfl); (focus (exact ⟨b0, q1⟩)))
  ((refine wpAnyH_take (i := 0) (v := ?_) rfl (by kernel_rfl) (by kernel_rfl) (by kernel_rfl) (fun _ _ _ h => h) (Or.inl ⟨by rfl, ?_⟩) (by assumption) ?_; rotate_left; (focus (intro W hSw; (try dsimp only at hSw); go_simp; try (with_reducible rfl)))); (try simp only [List.getElem_toArray, List.getElem_cons_zero, Act.put, List.setIfInBounds_toArray, List.set_cons_zero, List.set_cons_succ]); (refine wpAnyH_take (i := 1) (v := ?_) rfl (by kernel_rfl) (by kernel_rfl) (by kernel_rfl) (fun _ _ _ h => h) (Or.inl ⟨by rfl, ?_⟩) (by assumption) ?_; rotate_left; (focus (intro W hSw; (try dsimp only at hSw); go_simp; try (with_reducible rfl)))); (try simp only [List.getElem_toArray, List.getElem_cons_zero, List.getElem_cons_succ, Act.put, List.setIfInBounds_toArray, List.set_cons_zero, List.set_cons_succ]); (refine wpAnyH_take (i := 5) (v := ?_) rfl (by kernel_rfl) (by kernel_rfl) (by kernel_rfl) (fun _ _ _ h => h) (Or.inl ⟨by rfl, ?_⟩) (by assumption) ?_; rotate_left; (focus (intro W hSw; (try dsimp only at hSw); go_simp; try (with_reducible rfl)))); (try simp only [List.getElem_toArray, List.getElem_cons_zero, List.getElem_cons_succ, Act.put, List.setIfInBounds_toArray, List.set_cons_zero, List.set_cons_succ]); (refine wpAnyH_take (i := 6) (v := ?_) rfl (by kernel_rfl) (by kernel_rfl) (by kernel_rfl) (fun _ _ _ h => h) (Or.inl ⟨by rfl, ?_⟩) (by assumption) ?_; rotate_left; (focus (intro W hSw; (try dsimp only at hSw); go_simp; try (with_reducible rfl)))); (try simp only [List.getElem_toArray, List.getElem_cons_zero, List.getElem_cons_succ, Act.put, List.setIfInBounds_toArray, List.set_cons_zero, List.set_cons_succ]))
  (refine wpAnyH_ready (rs := [2]) (by kernel_rfl) (by simp) ?_; refine AllReadyH.cons rfl (fun K hK => ?_) AllReadyH.nil)
  go_simp
  refine (HM.out _ (Below.drew hb1)).mono ?_; rintro e w5 ⟨rfl, b5'⟩
  have b5 : Below w1.heap.size w1 w5 := undrew b5'
  have hs5 := hs1.below b5
  have kp5 := kp.below b5 kp.lt
  refine hK.out _ _ ⟨hs5.bO.c1, kp5.c3.2.1⟩ (fun hHeld => ?_)
  clear hK K b5'
  have hb5 : Below lo w w5 := hb1.trans (b5.mono (Nat.le_trans hs1.ord (Nat.le_of_lt hs1.bO.lt)))
  (try simp only [List.getElem_toArray, List.getElem_cons_zero, List.getElem_cons_succ, Act.put, List.setIfInBounds_toArray, List.set_cons_zero, List.set_cons_succ])
  ((refine wpAnyH_take (i := 3) (v := ?_) rfl (by kernel_rfl) (by kernel_rfl) (by kernel_rfl) (fun _ _ _ h => h) (Or.inl ⟨by rfl, ?_⟩) (by assumption) ?_; rotate_left; (focus (intro W hSw; (try dsimp only at hSw); go_simp; (try rw [if_neg (by first | omega | (simp only [ByteArray.size_append]; omega))]); try (with_reducible rfl)))); (try simp only [List.getElem_toArray, List.getElem_cons_zero, List.getElem_cons_succ, Act.put, List.setIfInBounds_toArray, List.set_cons_zero, List.set_cons_succ]); (refine wpAnyH_take (i := 4) (v := ?_) rfl (by kernel_rfl) (by kernel_rfl) (by kernel_rfl) (fun _ _ _ h => h) (Or.inl ⟨by rfl, ?_⟩) (by assumption) ?_; rotate_left; (focus (intro W hSw; (try dsimp only at hSw); go_simp; (try rw [if_neg (by first | omega | (simp only [ByteArray.size_append]; omega))]); try (with_reducible rfl)))); (try simp only [List.getElem_toArray, List.getElem_cons_zero, List.getElem_cons_succ, Act.put, List.setIfInBounds_toArray, List.set_cons_zero, List.set_cons_succ]))
  (refine wpAnyH_ready (rs := [7]) (by kernel_rfl) (by simp) ?_; refine AllReadyH.cons rfl (fun K hK => ?_) AllReadyH.nil)
  go_simp
  refine (C2.out _).mono ?_; rintro e w6 ⟨rfl, rfl⟩
  refine hK.out _ _ ⟨hs5.bO.c1, kp5.c3.2.1⟩ (fun hHeld => ?_)
  clear hK K
  (try simp only [List.getElem_toArray, List.getElem_cons_zero, List.getElem_cons_succ, Act.put, List.setIfInBounds_toArray, List.set_cons_zero, List.set_cons_succ])
  have hz1 := tmT_size 0 T
  generalize tmT 0 T = tt at *
  ((refine wpAnyH_take (i := 8) (v := ?_) rfl (by kernel_rfl) (by kernel_rfl) (by kernel_rfl) (fun _ _ _ h => h) (Or.inl ⟨by rfl, ?_⟩) (by assumption) ?_; rotate_left; (focus (intro W hSw; (try dsimp only at hSw); go_simp; (try rw [if_neg (by first | omega | (simp only [ByteArray.size_append]; omega))]); try (with_reducible rfl)))); (try simp only [List.getElem_toArray, List.getElem_cons_zero, List.getElem_cons_succ, Act.put, List.setIfInBounds_toArray, List.set_cons_zero, List.set_cons_succ]))
  rw [← HOE.out]
  generalize hxe : grpT p it = x at *
  have HXE := Lib.hid hxe; clear hxe
  (refine wpAnyH_ready (rs := [9]) (by kernel_rfl) (by simp) ?_; refine AllReadyH.cons rfl (fun K hK => ?_) AllReadyH.nil)
  go_simp
  have kpx := kp5.alloc (.cells #[.string x] 9)
  refine hK.out _ _ ⟨(hs5.bO.alloc _).c1, kpx.c3.2.1⟩ (fun hHeld => ?_)
  clear hK K
  (try simp only [List.getElem_toArray, List.getElem_cons_zero, List.getElem_cons_succ, Act.put, List.setIfInBounds_toArray, List.set_cons_zero, List.set_cons_succ])
  (refine wpAnyH_done (by kernel_rfl) ?_ _; change wpList _ _ _ _ _ _)
  clear hHeld C2
  have hlz : lo ≤ w5.heap.size := Nat.le_trans hs5.ord (Nat.le_of_lt hs5.bO.lt)
  have HKB : Hid (∀ w8, (w5.alloc (.cells #[.string x] 9)).grownBy w8 (Value.slice A xs.length c).ownBlock → Blk w8 gO 58 #[.slice A xs.length c]) := Lib.hid (fun w8 hg => (hs5.bO.alloc _).grownT (hs5.ow.alloc (.cells #[.string x] 9)) t1 hg)
  go_wp2_with (at_builtin; refine wpList_append1 w5 [.string x] _ rfl (.tmp 8) (.tmp 17) _ rfl 9 iS _ 1 16 Tryd.underlying58 hi0 hu0 hu1 hu2 rfl (by decide) rfl hs5.ow hlz 1 rfl rfl (by simp [Value.oneCell']) (by omega) (by decide) ?_; intro A9 c9 w8 ho8 hg8 hb8 hz8; have kb8 := HKB.out w8 hg8; have x0' := kb8.c1; have x1' := kb8.frozen 0)
  go_end0
  have kb8 := HKB.out w8 hg8
  obtain ⟨r1, r2⟩ := TS.push hs5 ho8 kb8 hb8
  rw [← HXE.out] at r1
  exact ⟨rfl, ⟨A9, c9, r1⟩, hb5.trans r2⟩

end Go.Proofs.YtcgbogofmdjddaaDoor

/- Lines of a text: the given side. -/
namespace Go.Proofs.YtcgbogofmdjddaaDoor
open Go Go.RowKit

/-- The lines ahead of an index, and where the line at it begins. -/
def lnAt (s : ByteArray) : Nat → List ByteArray × Nat
  | 0 => ([], 0)
  | i + 1 => if s.data[i]? = some 10 then ((lnAt s i).1 ++ [s.extract (lnAt s i).2 i], i + 1) else lnAt s i
def linesP (s : ByteArray) : List ByteArray := (lnAt s s.size).1
def linesOk (s : ByteArray) : Bool := ((lnAt s s.size).2 : Int) == (s.size : Int)
theorem lnAt_le (s : ByteArray) (i : Nat) : (lnAt s i).2 ≤ i ∧ (lnAt s i).1.length ≤ i := by
  induction i with
  | zero => exact ⟨Nat.le_refl _, Nat.le_refl _⟩
  | succ i ih =>
    rw [lnAt]
    split
    · refine ⟨Nat.le_refl _, ?_⟩
      rw [List.length_append]
      simp only [List.length_cons, List.length_nil]
      omega
    · omega
theorem lnAt_hit {s : ByteArray} {i : Nat} (h : i < s.size) (hb : s.data[i]'h = 10) : lnAt s (i + 1) = ((lnAt s i).1 ++ [s.extract (lnAt s i).2 i], i + 1) := by
  rw [lnAt, if_pos (by rw [Array.getElem?_eq_getElem h, hb])]
theorem lnAt_miss {s : ByteArray} {i : Nat} (h : i < s.size) (hb : s.data[i]'h ≠ 10) : lnAt s (i + 1) = lnAt s i := by
  rw [lnAt, if_neg (by rw [Array.getElem?_eq_getElem h]; intro e; injection e with e; exact hb e)]

set_option maxHeartbeats 1000000 in
set_option maxRecDepth 10000 in
theorem spec_l15Lines (s : ByteArray) (w : World) (hl : s.size ≤ 1000000000) :
    Calls Tryd.prog 38 #[.string s] w fun e w' => ∃ A' c', e = .returned (.tuple #[.slice A' (linesP s).length c', .bool (linesOk s)]) ∧ OwnC w' w.heap.size w'.heap.size 9 1 A' (linesP s).length c' ((linesP s).map Value.string) ∧ Below w.heap.size w w' := by
  obtain ⟨iS, hi0, hz0, hz1, hz2⟩ := info_parts info_string
  go_enter Tryd.func38, Tryd.ntmps38
  go_wp2_with (fail)
  go_loopw [4, 5, 6] (fun ov fv iv wr => ∃ (i f : Nat) (A' : Option Addr) (c' : Nat) (out : List ByteArray), i ≤ s.size ∧ f ≤ i ∧ iv = .int .i64 i ∧ fv = .int .i64 f ∧ ov = .slice A' out.length c' ∧ OwnC wr w.heap.size wr.heap.size 9 1 A' out.length c' (out.map Value.string) ∧ Below w.heap.size w wr ∧ Hid (lnAt s i = (out, f)) ∧ out.length ≤ i) (fun _ _ iv _ => s.size - (intOf iv).toNat)
  case atStart =>
    exact ⟨0, 0, some ⟨w.heap.size, 0, none⟩, 0, [], Nat.zero_le _, Nat.le_refl _, rfl, rfl, rfl, (OwnC.lit _ 1 #[] (Nat.le_refl _) (Nat.zero_le _) rfl).mono (Nat.le_refl _) (by simp), by (repeat (first | exact Below.refl _ _ | assumption | apply Below.drew | apply below_drewN | (refine Below.alloc ?_ (by first | omega | (simp; done) | (simp; omega)) _) | (refine Below.setCell ?_ (by first | omega | (simp; done) | (simp; omega)) _))), Lib.hid rfl, by simp⟩
  case round =>
    obtain ⟨i, f, A', c', out, hi, hf, rfl, rfl, rfl, ho, hb, HO, hol⟩ := hrel
    have hzs := hb.size
    by_cases hlt : i < s.size
    · by_cases hb10 : s.data[i]'hlt = 10
      · have HN := Lib.hid (lnAt_hit hlt hb10)
        rw [HO.out] at HN
        have hb1 : (((s[i]'hlt).toNat : Int) == 10) = true := by
          rw [show s[i]'hlt = 10 from hb10]; rfl
        obtain ⟨x, hx⟩ : ∃ x, x = s.extract f i := ⟨_, rfl⟩
        have HX := Lib.hid hx
        replace hx := hx.symm
        have f1 : (0 : Int) ≤ (f : Int) := by omega
        have f2 : (f : Int) ≤ (i : Int) := by omega
        have f3 : (i : Int) ≤ (s.size : Int) := by omega
        clear hb10
        go_wp2_with (at_builtin; refine wpList_append1 wr [.string x] _ rfl (.tmp 18) (.tmp 23) _ rfl 9 iS _ 1 16 Tryd.underlying58 hi0 hz0 hz1 hz2 rfl (by decide) rfl ho hzs 1 rfl rfl (by simp [Value.oneCell']) (by omega) (by decide) ?_; intro A2 c2 w2 ho2 hg2 hb2 hz2')
        go_roundw
        case rel =>
          refine ⟨i + 1, i + 1, A2, c2, out ++ [s.extract f i], by omega, Nat.le_refl _, by go_num, by go_num, by simp, ?_, hb.trans hb2, Lib.hid HN.out, by simp; omega⟩
          rw [← HX.out]
          show OwnC _ _ _ _ _ _ _ _ _
          rw [List.map_append, List.length_append]
          exact ho2
        case measure => simp [intOf]; omega
      · have HN := Lib.hid (lnAt_miss hlt hb10)
        rw [HO.out] at HN
        have hb1 : (((s[i]'hlt).toNat : Int) == 10) = false := by
          have hq : s[i]'hlt ≠ 10 := hb10
          rw [beq_eq_false_iff_ne]
          intro e
          apply hq
          apply UInt8.toNat_inj.1
          have e2 : (10 : UInt8).toNat = 10 := rfl
          rw [e2]
          omega
        clear hb10
        go_wp2_with (fail)
        go_roundw
        case rel => exact ⟨i + 1, f, A', c', out, by omega, by omega, by go_num, rfl, rfl, ho, hb, Lib.hid HN.out, by omega⟩
        case measure => simp [intOf]; omega
    · obtain rfl : i = s.size := by omega
      have HF : Hid (linesP s = out ∧ linesOk s = ((f : Int) == (s.size : Int))) := Lib.hid (by rw [linesP, linesOk, HO.out]; exact ⟨rfl, rfl⟩)
      go_wp2_with (fail)
      go_ret2
      rw [HF.out.1, HF.out.2]
      exact ⟨_, _, rfl, ho, hb⟩

end Go.Proofs.YtcgbogofmdjddaaDoor
