/- Steps of the proof, joined from several texts: GF GG GH. -/
import Derived.Test.YtnjgmhdmjaijgaaGreatDoorZ16
import Derived.Test.YtnjgmhdmjaijgaaGreatDoorZ12
import Derived.Test.YtnjgmhdmjaijgaaGreatDoorZ15

/- The draws: a row that fits. -/
namespace Go.Proofs.YtnjgmhdmjaijgaaGreatDoor
open Go Go.RowKit

theorem ones_plain (m : Nat) : OnlyPlain (List.replicate m 1) ∧ takenS (List.replicate m 1) = m := by
  induction m with
  | zero => exact ⟨fun k hk => by simp at hk, rfl⟩
  | succ m ih =>
    rw [List.replicate_succ]
    refine ⟨fun k hk => ?_, ?_⟩
    · rcases List.mem_cons.1 hk with rfl | hk
      · exact .inl rfl
      · exact ih.1 k hk
    · rw [takenS, ih.2, show takenN 1 = 1 from rfl]; omega
/-- Knitting all columns never makes more loops. -/
theorem knit_after {st : List Int} (h : ∀ x ∈ st, 1 ≤ x) : afterP (List.replicate st.length 1) st = List.replicate st.length 1 ∧ okAfter (List.replicate st.length 1) st = true ∧ changesP (List.replicate st.length 1) st = st.map fun x => 1 - x := by
  induction st with
  | nil => exact ⟨rfl, rfl, rfl⟩
  | cons x st ih =>
    obtain ⟨i1, i2, i3⟩ := ih fun y hy => h y (by simp [hy])
    have hd : (x :: st).drop (takenN 1) = st := rfl
    have e1 : stepMade 1 (x :: st) = [1] := rfl
    have e2 : stepOk 1 (x :: st) = true := rfl
    refine ⟨?_, ?_, ?_⟩
    · rw [List.length_cons, List.replicate_succ, afterP, e1, hd, i1]; rfl
    · rw [List.length_cons, List.replicate_succ, okAfter, e2, hd, i2]; rfl
    · rw [List.length_cons, List.replicate_succ, changesP, hd, i3, List.map_cons, changeI, e1]
      congr 1
      show sumI [1] - sumI [x] = 1 - x
      simp [sumI]
theorem limB_down {s : Int} {cs : List Int} (hs : s ≤ 12) (h : ∀ c ∈ cs, c ≤ 0) : limB s cs = true := by
  induction cs generalizing s with
  | nil => rfl
  | cons c cs ih =>
    have hc := h c (by simp)
    rw [limB, decide_eq_true (show s + c ≤ 12 by omega), ih (by omega) fun x hx => h x (by simp [hx])]
    rfl
theorem knit_row {st : List Int} (hst : stacksB st = true) (hs : sumI st ≤ 12) {d car : Int} (hd : d = 1 ∨ d = -1) (hc : carrierB car = true) : rowOkB st ⟨d, car, List.replicate st.length 1⟩ = true ∧ afterP (List.replicate st.length 1) st = List.replicate st.length 1 := by
  obtain ⟨h8, hr⟩ := stacksB_of hst
  obtain ⟨p1, p2⟩ := ones_plain st.length
  obtain ⟨k1, k2, k3⟩ := knit_after fun x hx => (inR_iff.1 (hr x hx)).1
  have hk := plain_stitches p1 (by rw [List.length_replicate]; omega)
  have hsa : stacksAfterP st (List.replicate st.length 1) = (List.replicate st.length 1, 0) := by
    unfold stacksAfterP
    rw [hst, hk, if_pos (by rfl), if_pos p2, k1, k2, if_pos (by rw [List.length_replicate]; simpa using h8)]
  refine ⟨?_, k1⟩
  unfold rowOkB rowB dirB stepCode keepB
  rw [hsa, hc, k3, ordL]
  simp only [Bool.and_eq_true, Bool.or_eq_true, beq_iff_eq, decide_eq_true_eq]
  have hneg : ∀ c ∈ st.map (fun x => 1 - x), c ≤ 0 := by
    intro c hcm
    rw [List.mem_map] at hcm
    obtain ⟨x, hx, rfl⟩ := hcm
    have := (inR_iff.1 (hr x hx)).1
    omega
  refine ⟨⟨⟨⟨hd, trivial⟩, hk⟩, trivial⟩, ?_⟩
  split
  · exact limB_down hs fun c hc => hneg c (List.mem_reverse.1 hc)
  · exact limB_down hs hneg
theorem row_of_tests {st ks : List Int} {d car : Int} (hd : d = 1 ∨ d = -1) (hc : carrierB car = true) (h1 : (stacksAfterP st ks).2 = 0) (h2 : keepB d st ks = true) (hk : stitchesB ks = true) : rowOkB st ⟨d, car, ks⟩ = true := by
  unfold rowOkB rowB dirB stepCode
  rw [h2, hc, hk]
  simp only [Bool.and_eq_true, Bool.or_eq_true, beq_iff_eq, decide_eq_true_eq]
  exact ⟨⟨⟨⟨hd, trivial⟩, trivial⟩, h1⟩, trivial⟩
theorem Ints.grownO {w w' : World} {g : Nat} {A : Option Addr} {xs : List Int} (h : Ints w A xs) (hg : w.grownBy w' (some g)) (hA : ∀ a, A = some a → a.block ≠ g) : Ints w' A xs := h.grownG hg hA

set_option maxHeartbeats 8000000 in
set_option maxRecDepth 10000 in
theorem spec_l15DrawRow (st : List Int) (dd car : Int) (A : Option Addr) (c : Nat) (w : World) (g : Nat) (AB : Option Addr) (cB : Nat) (bs : List Int) (b : Nat) (hsv : Sv w g AB cB bs b) (hb : b ≤ 288230376151711744) (h : Ints w A st) (hAg : ∀ a, A = some a → a.block ≠ g) (hst : stacksB st = true) (hsum : sumI st ≤ 12) (hd : dd = 1 ∨ dd = -1) (hc : carrierB car = true) :
    Calls Tryz.prog 58 #[.pointer (some ⟨g, 0, none⟩), .slice A st.length c, .int .i64 dd, .int .i64 car] w fun e w' => ∃ (A1 : Option Addr) (c1 : Nat) (ks : List Int) (A2 : Option Addr) (c2 : Nat), e = .returned (.tuple #[.agg #[.int .i64 dd, .int .i64 car, .slice A1 ks.length c1], .slice A2 (afterP ks st).length c2]) ∧ rowOkB st ⟨dd, car, ks⟩ = true ∧ OwnI w' w.heap.size w'.heap.size A1 c1 ks ∧ OwnI w' w.heap.size w'.heap.size A2 c2 (afterP ks st) ∧ Sv w' g AB cB bs (b + 13510798882111488) ∧ w.grownBy w' (some g) := by
  obtain ⟨iI, hi0, hu0, hu1, hu2⟩ := info_parts info_int64
  have t1 : (91 : TypeId) ≠ 2 := by decide
  have t2 : (42 : TypeId) ≠ 2 := by decide
  have h8 := (stacksB_of hst).1
  have HST := Lib.hid hst; clear hst
  have HD := Lib.hid hd; clear hd
  have HC := Lib.hid hc; clear hc
  have HS := Lib.hid hsum; clear hsum
  have HA := Lib.hid hAg; clear hAg
  have hgw := hsv.lt
  obtain ⟨w1, hw1⟩ : ∃ w1, w1 = (w.alloc (.cells #[.int .i64 0, .int .i64 0, .slice none 0 0] 42)).alloc (.cells #[.int .i64 dd, .int .i64 car, .slice none 0 0] 42) := ⟨_, rfl⟩
  have kz1 : Blk w1 w.heap.size 42 #[.int .i64 0, .int .i64 0, .slice none 0 0] := by rw [hw1]; exact (Blk.new w _ _).alloc _
  have kx1 : Blk w1 (w.heap.size + 1) 42 #[.int .i64 dd, .int .i64 car, .slice none 0 0] := by rw [hw1]; simpa using Blk.new (w.alloc (.cells #[.int .i64 0, .int .i64 0, .slice none 0 0] 42)) 42 #[.int .i64 dd, .int .i64 car, .slice none 0 0]
  have hg1 : w.grownBy w1 (some g) := by rw [hw1]; exact (World.grownBy_alloc _ _ _).trans (World.grownBy_alloc _ _ _)
  have hs1 : Sv w1 g AB cB bs b := by rw [hw1]; exact (hsv.alloc _).alloc _
  obtain ⟨gR, hgR⟩ : ∃ gR, gR = w.heap.size + 1 := ⟨_, rfl⟩
  rw [← hgR] at kx1
  have hzR : w.heap.size < gR := by omega
  go_enter Tryz.func58, Tryz.ntmps58
  go_upto_region 2 with fail
  rw [← hw1, ← hgR]
  clear hw1 hgR
  go_wp2_with (fail)
  go_loopw [11] (fun kv wr => ∃ (k : Nat) (V : Value), k ≤ 3 ∧ kv = .int .i64 k ∧ Blk wr w.heap.size 42 #[.int .i64 0, .int .i64 0, .slice none 0 0] ∧ Blk wr gR 42 #[.int .i64 dd, .int .i64 car, V] ∧ Sv wr g AB cB bs (b + k * 4503599627370496) ∧ w.grownBy wr (some g)) (fun kv _ => 3 - (intOf kv).toNat)
  case atStart => exact ⟨0, _, Nat.zero_le _, rfl, kz1, kx1, by simpa using hs1, hg1⟩
  case round =>
    clear kz1 kx1 hs1 hg1
    obtain ⟨k, V, hk, rfl, kz, kx, hs, hgr⟩ := hrel
    have hzr := hgr.size
    have hgz := kz.lt
    have hgx := kx.lt
    by_cases hk3 : k < 3
    · have d3 : decide ((k : Int) < 3) = true := decide_eq_true (by omega)
      have hi := h.grownG hgr HA.out
      have s0 := kx.c3
      go_upto_region 6 with fail
      go_wp2_with (fail)
      refine (sv_draw14 st.length h8 hs (by omega)).mono ?_
      rintro e w2 ⟨A4, c4, ks, rfl, o4, hks, htk, hs4, hg4⟩
      have hz4 := hg4.size
      have kz4 := kz.grownG hg4 (by omega)
      have kx4 := kx.grownG hg4 (by omega)
      have hgw4 := hgr.trans hg4
      have s4 := kx4.c3
      have f4 := kx4.frozen 2
      clear s0 kz kx hs hg4 hi
      obtain ⟨w3, hw3⟩ : ∃ w3, w3 = w2.setCell ⟨gR, 2, none⟩ (.slice A4 ks.length c4) := ⟨_, rfl⟩
      have kx3 : Blk w3 gR 42 #[.int .i64 dd, .int .i64 car, .slice A4 ks.length c4] := by rw [hw3]; exact kx4.set32 _
      have kz3 : Blk w3 w.heap.size 42 #[.int .i64 0, .int .i64 0, .slice none 0 0] := by rw [hw3]; exact kz4.far (by show w.heap.size ≠ gR; omega) _
      have hgw3 : w.grownBy w3 (some g) := by rw [hw3]; exact gb_set hgw4 (by show w.heap.size ≤ gR; omega) _
      have hs3 : Sv w3 g AB cB bs (b + (k + 1) * 4503599627370496) := by
        have e : Sv w3 g AB cB bs (b + k * 4503599627370496 + 4503599627370496) := by
          rw [hw3]
          exact hs4.store (by omega) _
        exact e.mono (by omega)
      have o3 : OwnI w3 wr.heap.size w2.heap.size A4 c4 ks := by rw [hw3]; exact OwnC.farT o4 kx4 t2 2 _
      have hz3 : w2.heap.size = w3.heap.size := by rw [hw3]; simp
      have hi3 : Ints w3 A st := h.grownG hgw3 HA.out
      have hi4 : Ints w3 A4 ks := OwnC.ints o3
      have s3 := kx3.c3
      go_upto_region 7 with fail
      rw [← hw3]
      clear hw3 kx4 kz4 hs4 o4 hgw4 s4 f4
      have hk16 := (stitchesB_of hks).1
      refine (spec_StacksAfter st ks A c A4 c4 w3 hi3 (by omega) hi4 (by omega)).mono ?_
      rintro e w5 ⟨A5, c5, rfl, o5, b5⟩
      have hz5 := b5.size
      have kx5 := kx3.below b5 kx3.lt
      have kz5 := kz3.below b5 kz3.lt
      have hs5 := hs3.below b5
      have hgw5 := gb_bel hgw3 b5
      have o35 : OwnI w5 wr.heap.size w2.heap.size A4 c4 ks := OwnC.below o3 b5 (by omega)
      have hi5 : Ints w5 A st := hi3.below b5
      have hi45 : Ints w5 A4 ks := hi4.below b5
      clear kx3 kz3 hs3 hgw3 o3 hi3 hi4 s3 b5
      have s5 := kx5.c3
      by_cases hcode : (stacksAfterP st ks).2 = 0
      · obtain ⟨_, _, _, e1, _⟩ := stepCode_of (st := st) (ks := ks) (by unfold stepCode; exact decide_eq_true hcode)
        rw [e1] at o5 ⊢
        rw [hcode]
        have HCODE := Lib.hid hcode; clear hcode
        have HKS := Lib.hid hks; clear hks
        have HE1 := Lib.hid e1; clear e1
        have HTK := Lib.hid htk; clear htk
        go_wp2_with (fail)
        refine (spec_l15Thin dd HD.out st ks A A5 A4 c c5 c4 gR 0 w5 hi5 (OwnC.ints o5) hi45 s5.1 s5.2.2 HST.out HKS.out HTK.out).mono ?_
        rintro e w6 ⟨rfl, b6⟩
        have hz6 := b6.size
        have kx6 := kx5.below b6 kx5.lt
        have kz6 := kz5.below b6 kz5.lt
        have hs6 := hs5.below b6
        have hgw6 := gb_bel hgw5 b6
        have o36 : OwnI w6 wr.heap.size w2.heap.size A4 c4 ks := OwnC.below o35 b6 (by omega)
        have o56 : OwnI w6 w3.heap.size w5.heap.size A5 c5 (afterP ks st) := OwnC.below o5 b6 (by omega)
        clear kx5 kz5 hs5 hgw5 o35 o5 hi5 hi45 s5 b6
        have s6 := kx6.c3
        cases hkp : keepB dd st ks
        · go_wp2_with (fail)
          exact ⟨⟨k + 1, _, by omega, by go_num, kz6, kx6, hs6, hgw6⟩, by simp [intOf]; omega⟩
        · have hrow := row_of_tests HD.out HC.out HCODE.out hkp HKS.out
          have HROW := Lib.hid hrow; clear hrow
          have g0 := kz6.frozen 0
          have g1 := kz6.frozen 1
          have g2 := kz6.frozen 2
          obtain ⟨y0, y1, y2⟩ := kz6.c3
          go_wp2_with (fail)
          have k1 := kz6.set30 (.int .i64 dd)
          have k2 := k1.set31 (.int .i64 car)
          have k3 := k2.set32 (.slice A4 ks.length c4)
          obtain ⟨r0, r1, r2⟩ := k3.c3
          refine bodyPost_ret (v := .tuple #[.agg #[.int .i64 dd, .int .i64 car, .slice A4 ks.length c4], .slice A5 (afterP ks st).length c5]) (by simp [results, Tryz.results58, go_sem, r0, r1, r2]) rfl ⟨A4, c4, ks, A5, c5, rfl, HROW.out, ?_, ?_, ?_, ?_⟩
          · exact (((OwnC.farT o36 kz6 t2 0 _).farT k1 t2 1 _).farT k2 t2 2 _).mono (by omega) (by simp; omega)
          · exact (((OwnC.farT o56 kz6 t2 0 _).farT k1 t2 1 _).farT k2 t2 2 _).mono (by omega) (by simp; omega)
          · exact (((hs6.store (by omega) _).store (by omega) _).store (by omega) _).mono (by omega)
          · exact gb_set (gb_set (gb_set hgw6 (Nat.le_refl _) _) (Nat.le_refl _) _) (Nat.le_refl _) _
      · have hcb : ((stacksAfterP st ks).2 == 0) = false := by simpa using hcode
        clear hcode
        generalize (stacksAfterP st ks).2 = cd at hcb ⊢
        generalize (stacksAfterP st ks).1 = sa at o5 ⊢
        go_wp2_with (fail)
        exact ⟨⟨k + 1, _, by omega, by go_num, kz5, kx5, hs5, hgw5⟩, by simp [intOf]; omega⟩
    · have d3 : decide ((k : Int) < 3) = false := decide_eq_false (by omega)
      have s0 := kx.c3
      have HKN := Lib.hid (knit_row HST.out HS.out HD.out HC.out)
      generalize hm : st.length = m at *
      have HM := Lib.hid hm; clear hm
      obtain ⟨lo, hlo⟩ : ∃ lo, lo = wr.heap.size := ⟨_, rfl⟩
      obtain ⟨wE, hwE⟩ : ∃ wE, wE = (wr.setCell ⟨gR, 2, none⟩ (.slice (some ⟨wr.heap.size, 0, none⟩) 0 0)).alloc (.cells #[] 2) := ⟨_, rfl⟩
      have kxE : Blk wE gR 42 #[.int .i64 dd, .int .i64 car, .slice (some ⟨wr.heap.size, 0, none⟩) 0 0] := by rw [hwE]; exact (kx.set32 _).alloc _
      have kzE : Blk wE w.heap.size 42 #[.int .i64 0, .int .i64 0, .slice none 0 0] := by rw [hwE]; exact (kz.far (by show w.heap.size ≠ gR; omega) _).alloc _
      have hsE : Sv wE g AB cB bs (b + 13510798882111488) := by rw [hwE]; exact ((hs.store (by omega) _).alloc _).mono (by omega)
      have hgE : w.grownBy wE (some g) := by rw [hwE]; exact gb_al (gb_set hgr (by show w.heap.size ≤ gR; omega) _) _
      have oE : OwnC wE lo (wr.heap.size + 1) 2 1 (some ⟨wr.heap.size, 0, none⟩) 0 0 ((List.replicate 0 (1 : Int)).map (Value.int .i64)) := by
        rw [hwE]
        have := OwnC.lit (w := wr.setCell ⟨gR, 2, none⟩ (.slice (some ⟨wr.heap.size, 0, none⟩) 0 0)) (lo := lo) (n := 0) 2 1 #[] (by simp; omega) (Nat.zero_le _) rfl
        simpa using this
      have hzE : wE.heap.size = wr.heap.size + 1 := by rw [hwE]; simp
      have oF := (OwnC.lit (w := wE) (lo := lo) (n := 0) 2 1 #[] (by omega) (Nat.zero_le _) rfl)
      have ap0 : Apart (some ⟨wr.heap.size, 0, none⟩) (some ⟨wE.heap.size, 0, none⟩) := by
        intro a b ha hb e
        injection ha with ha
        injection hb with hb
        subst ha hb
        have e' : wr.heap.size = wE.heap.size := e
        omega
      have f0 := kx.frozen 2
      have HZE := Lib.hid hzE; clear hzE
      go_upto_region 10 with fail
      rw [← hwE]
      clear hwE kz kx hs hgr s0 f0
      go_wp2_with (fail)
      go_loopw [14, 48] (fun av iv wq => ∃ (i : Nat) (A3 : Option Addr) (c3 : Nat) (A7 : Option Addr) (c7 : Nat), i ≤ m ∧ iv = .int .i64 i ∧ av = .slice A7 i c7 ∧ Blk wq w.heap.size 42 #[.int .i64 0, .int .i64 0, .slice none 0 0] ∧ Blk wq gR 42 #[.int .i64 dd, .int .i64 car, .slice A3 i c3] ∧ OwnC wq lo wq.heap.size 2 1 A3 i c3 ((List.replicate i (1 : Int)).map (Value.int .i64)) ∧ OwnC wq lo wq.heap.size 2 1 A7 i c7 ((List.replicate i (1 : Int)).map (Value.int .i64)) ∧ Apart A3 A7 ∧ Sv wq g AB cB bs (b + 13510798882111488) ∧ w.grownBy wq (some g) ∧ lo ≤ wq.heap.size) (fun _ iv _ => m - (intOf iv).toNat)
      case atStart => exact ⟨0, _, 0, _, 0, Nat.zero_le _, rfl, rfl, kzE.alloc _, kxE.alloc _, (oE.alloc _).mono (Nat.le_refl _) (by have := HZE.out; simp; omega), oF.mono (Nat.le_refl _) (by simp), ap0, hsE.alloc _, gb_al hgE _, by have := HZE.out; simp; omega⟩
      case round =>
        clear kzE kxE oE oF ap0 hsE hgE HZE
        obtain ⟨i, A3, c3, A7, c7, hi, rfl, rfl, kz, kx, o3, o7, hap, hs, hgr, hlq⟩ := hrel
        have hgx := kx.lt
        by_cases him : i < m
        · have dm : decide ((i : Int) < (m : Int)) = true := decide_eq_true (by omega)
          have s2 := kx.c3.2.2
          have f2 := kx.frozen 2
          have HW8 : Hid (lo ≤ wr.heap.size + 1) := Lib.hid (by omega)
          have hlit : ∀ (W : World) (j : Nat) (u : Value), ([.int .i64 1] : List Value)[j]? = some u → ∃ b off, (some ⟨W.heap.size, 0, none⟩ : Option Addr) = some ⟨b, off, none⟩ ∧ (W.alloc (.cells #[.int .i64 1] 2)).cell? ⟨b, off + j, none⟩ = some u := by
            intro W j u hj
            refine ⟨W.heap.size, 0, rfl, ?_⟩
            rw [Nat.zero_add, (Blk.new W 2 #[.int .i64 1]).cell j]
            simpa using hj
          have HLT := Lib.hid hlit; clear hlit
          go_upto_region 14 with (at_builtin; refine wpList_appendC_at (wr.alloc (.cells #[.int .i64 1] 2)) rfl (.tmp 51) (.tmp 52) _ rfl 2 iI _ 1 8 Tryz.underlying34 hi0 hu0 hu1 hu2 rfl (by decide) rfl (o3.alloc _) (by simp; exact HW8.out) (some ⟨wr.heap.size, 0, none⟩) 1 1 [.int .i64 1] rfl rfl (HLT.out wr) (by simp [Value.oneCell']) (by unfold maxLen; omega) (by omega) ?_; intro A4 c4 w4 o4 hg4 hb4 hat4; have kx4 := (kx.alloc (.cells #[.int .i64 1] 2)).grownT (OwnC.alloc o3 (.cells #[.int .i64 1] 2)) t2 hg4; have v4 := kx4.c3.2.2; have f4 := kx4.frozen 2)
          have hz4 : wr.heap.size + 1 ≤ w4.heap.size := by have := hg4.size; simpa using this
          have kz4 := (kz.alloc (.cells #[.int .i64 1] 2)).grownT (OwnC.alloc o3 (.cells #[.int .i64 1] 2)) t2 hg4
          have o74 : OwnC w4 lo wr.heap.size 2 1 A7 i c7 ((List.replicate i (1 : Int)).map (Value.int .i64)) := hap.kept (OwnC.alloc o7 (.cells #[.int .i64 1] 2)) (by simp) hg4
          have hap4 : Apart A4 A7 := hap.next (OwnC.alloc o7 (.cells #[.int .i64 1] 2)) (by simp) hat4
          have hrow3 : ∀ q, (Value.slice A3 i c3).ownBlock = some q → lo ≤ q := by
            intro q hq
            rcases OwnC.form o3 with ⟨rfl, _⟩ | ⟨g3, _, rfl, h1, _⟩
            · cases hq
            · injection hq with hq
              exact hq ▸ h1
          have hs4 : Sv w4 g AB cB bs (b + 13510798882111488) := (hs.alloc (.cells #[.int .i64 1] 2)).grown hg4 (fun q hq => by have := hrow3 q hq; omega)
          have hgr4 : w.grownBy w4 (some g) := gb_app (gb_al hgr (.cells #[.int .i64 1] 2)) hg4 (fun q hq => by have := hrow3 q hq; omega)
          have o44 : OwnC w4 lo w4.heap.size 2 1 A4 (i + 1) c4 ((List.replicate (i + 1) (1 : Int)).map (Value.int .i64)) := by
            rw [List.replicate_succ', List.map_append]; exact o4
          clear kx kz o3 o7 hap hs hgr s2 f2 hg4 hb4 hat4 o4 hrow3
          obtain ⟨w5, hw5⟩ : ∃ w5, w5 = w4.setCell ⟨gR, 2, none⟩ (.slice A4 (i + 1) c4) := ⟨_, rfl⟩
          have kx5 : Blk w5 gR 42 #[.int .i64 dd, .int .i64 car, .slice A4 (i + 1) c4] := by rw [hw5]; exact kx4.set32 _
          have kz5 : Blk w5 w.heap.size 42 #[.int .i64 0, .int .i64 0, .slice none 0 0] := by rw [hw5]; exact kz4.far (by show w.heap.size ≠ gR; omega) _
          have o45 : OwnC w5 lo w4.heap.size 2 1 A4 (i + 1) c4 ((List.replicate (i + 1) (1 : Int)).map (Value.int .i64)) := by rw [hw5]; exact o44.farT kx4 t2 2 _
          have o75 : OwnC w5 lo wr.heap.size 2 1 A7 i c7 ((List.replicate i (1 : Int)).map (Value.int .i64)) := by rw [hw5]; exact o74.farT kx4 t2 2 _
          have hs5 : Sv w5 g AB cB bs (b + 13510798882111488) := by rw [hw5]; exact hs4.store (by omega) _
          have hgr5 : w.grownBy w5 (some g) := by rw [hw5]; exact gb_set hgr4 (by show w.heap.size ≤ gR; omega) _
          have HZ5 : Hid (w5.heap.size = w4.heap.size) := Lib.hid (by rw [hw5]; simp)
          rw [← hw5]
          clear hw5 kx4 kz4 o44 o74 hs4 hgr4 v4 f4
          have hap5 : Apart A7 A4 := fun a b ha hb e => hap4 b a hb ha e.symm
          have HW9 : Hid (lo ≤ w5.heap.size + 1) := Lib.hid (by have := HZ5.out; omega)
          go_upto_region 15 with (at_builtin; refine wpList_appendC_at (w5.alloc (.cells #[.int .i64 1] 2)) rfl (.tmp 55) (.tmp 56) _ rfl 2 iI _ 1 8 Tryz.underlying34 hi0 hu0 hu1 hu2 rfl (by decide) rfl (o75.alloc _) (by simp; exact HW9.out) (some ⟨w5.heap.size, 0, none⟩) 1 1 [.int .i64 1] rfl rfl (HLT.out w5) (by simp [Value.oneCell']) (by unfold maxLen; omega) (by omega) ?_; intro A6 c6 w6 o6 hg6 hb6 hat6)
          have hz6 : w5.heap.size + 1 ≤ w6.heap.size := by have := hg6.size; simpa using this
          have hz45 := HZ5.out
          have kz6 := (kz5.alloc (.cells #[.int .i64 1] 2)).grownT (OwnC.alloc o75 (.cells #[.int .i64 1] 2)) t2 hg6
          have kx6 := (kx5.alloc (.cells #[.int .i64 1] 2)).grownT (OwnC.alloc o75 (.cells #[.int .i64 1] 2)) t2 hg6
          have o46 : OwnC w6 lo w4.heap.size 2 1 A4 (i + 1) c4 ((List.replicate (i + 1) (1 : Int)).map (Value.int .i64)) := hap5.kept (OwnC.alloc o45 (.cells #[.int .i64 1] 2)) (by simp; omega) hg6
          have hap6 : Apart A6 A4 := hap5.next (OwnC.alloc o45 (.cells #[.int .i64 1] 2)) (by simp; omega) hat6
          have hrow7 : ∀ q, (Value.slice A7 i c7).ownBlock = some q → lo ≤ q := by
            intro q hq
            rcases OwnC.form o75 with ⟨rfl, _⟩ | ⟨g3, _, rfl, h1, _⟩
            · cases hq
            · injection hq with hq
              exact hq ▸ h1
          have hs6 : Sv w6 g AB cB bs (b + 13510798882111488) := (hs5.alloc (.cells #[.int .i64 1] 2)).grown hg6 (fun q hq => by have := hrow7 q hq; omega)
          have hgr6 : w.grownBy w6 (some g) := gb_app (gb_al hgr5 (.cells #[.int .i64 1] 2)) hg6 (fun q hq => by have := hrow7 q hq; omega)
          have o66 : OwnC w6 lo w6.heap.size 2 1 A6 (i + 1) c6 ((List.replicate (i + 1) (1 : Int)).map (Value.int .i64)) := by
            rw [List.replicate_succ', List.map_append]; exact o6
          clear kx5 kz5 o45 o75 hs5 hgr5 hz45 hg6 hb6 hat6 o6 hrow7
          go_wp2_with (fail)
          refine ⟨⟨i + 1, A4, c4, A6, c6, by omega, by go_num, rfl, kz6, kx6, o46.mono (Nat.le_refl _) (by have := HZ5.out; omega), o66, fun a b ha hb e => hap6 b a hb ha e.symm, hs6, hgr6, by have := HZ5.out; omega⟩, by simp [intOf]; omega⟩
        · obtain rfl : i = m := by omega
          have dm : decide ((i : Int) < (i : Int)) = false := decide_eq_false (by omega)
          have s2 := kx.c3
          obtain ⟨y0, y1, y2⟩ := kz.c3
          have g0 := kz.frozen 0
          have g1 := kz.frozen 1
          have g2 := kz.frozen 2
          go_wp2_with (fail)
          have k1 := kz.set30 (.int .i64 dd)
          have k2 := k1.set31 (.int .i64 car)
          have k3 := k2.set32 (.slice A3 i c3)
          obtain ⟨r0, r1, r2⟩ := k3.c3
          have hlr : (List.replicate i (1 : Int)).length = i := List.length_replicate
          refine bodyPost_ret (v := .tuple #[.agg #[.int .i64 dd, .int .i64 car, .slice A3 (List.replicate i (1 : Int)).length c3], .slice A7 (afterP (List.replicate i 1) st).length c7]) (by rw [HKN.out.2, hlr]; simp [results, Tryz.results58, go_sem, r0, r1, r2]) rfl ⟨A3, c3, _, A7, c7, rfl, HKN.out.1, ?_, ?_, ?_, ?_⟩
          · show OwnC _ _ _ _ _ _ _ _ _
            rw [hlr]
            exact (((OwnC.farT o3 kz t2 0 _).farT k1 t2 1 _).farT k2 t2 2 _).mono (by omega) (by simp)
          · show OwnC _ _ _ _ _ _ _ _ _
            rw [HKN.out.2, hlr]
            exact (((OwnC.farT o7 kz t2 0 _).farT k1 t2 1 _).farT k2 t2 2 _).mono (by omega) (by simp)
          · exact ((hs.store (by omega) _).store (by omega) _).store (by omega) _
          · exact gb_set (gb_set (gb_set hgr (Nat.le_refl _) _) (Nat.le_refl _) _) (Nat.le_refl _) _

end Go.Proofs.YtnjgmhdmjaijgaaGreatDoor

/- The draws: a valid chart. -/
namespace Go.Proofs.YtnjgmhdmjaijgaaGreatDoor
open Go Go.RowKit

def endSt : List Int → List RowD → List Int
  | st, [] => st
  | st, r :: rs => endSt (stacksAfterP st r.s).1 rs
theorem rowsOk_snoc {st : List Int} {rs : List RowD} {r : RowD} (h : rowsOkB st rs = true) (hr : rowOkB (endSt st rs) r = true) : rowsOkB st (rs ++ [r]) = true := by
  induction rs generalizing st with
  | nil => simp only [List.nil_append, rowsOkB, Bool.and_true]; exact hr
  | cons q rs ih =>
    rw [rowsOkB, Bool.and_eq_true] at h
    rw [List.cons_append, rowsOkB, h.1, ih h.2 hr]
    rfl
theorem endSt_snoc (st : List Int) (rs : List RowD) (r : RowD) : endSt st (rs ++ [r]) = (stacksAfterP (endSt st rs) r.s).1 := by
  induction rs generalizing st with
  | nil => rfl
  | cons q rs ih => rw [List.cons_append, endSt, ih, endSt]
theorem changes_sum {ks : List Int} (hs : ∀ k ∈ ks, isStitchB k = true) {st : List Int} (h : takenS ks = st.length) : sumI (afterP ks st) = sumI st + sumI (changesP ks st) := by
  induction ks generalizing st with
  | nil =>
    rw [takenS] at h
    rw [List.length_eq_zero_iff.1 h.symm]
    rfl
  | cons k ks ih =>
    rw [takenS] at h
    have i := ih (fun q hq => hs q (by simp [hq])) (st := st.drop (takenN k)) (by rw [List.length_drop]; omega)
    have e : sumI st = sumI (st.take (takenN k)) + sumI (st.drop (takenN k)) := by rw [← sumI_append, List.take_append_drop]
    rw [afterP, sumI_append, i, changesP, sumI, changeI]
    omega
theorem limB_sum {s : Int} {cs : List Int} (h : limB s cs = true) (hne : cs ≠ []) : s + sumI cs ≤ 12 := by
  induction cs generalizing s with
  | nil => exact absurd rfl hne
  | cons c cs ih =>
    rw [limB, Bool.and_eq_true] at h
    have h1 := of_decide_eq_true h.1
    rw [sumI]
    by_cases hc : cs = []
    · subst hc; rw [sumI]; omega
    · have := ih h.2 hc; omega
theorem row_next {st : List Int} {r : RowD} (h : rowOkB st r = true) (hp : 1 ≤ st.length) : (stacksAfterP st r.s).1 = afterP r.s st ∧ stacksB (afterP r.s st) = true ∧ 1 ≤ (afterP r.s st).length ∧ sumI (afterP r.s st) ≤ 12 := by
  unfold rowOkB at h
  simp only [Bool.and_eq_true] at h
  obtain ⟨⟨h1, h2⟩, h3⟩ := h
  obtain ⟨_, hk, ht, ha, hb⟩ := stepCode_of h2
  have hs := (stitchesB_of hk).2
  have hne : r.s ≠ [] := by
    intro e
    rw [e, takenS] at ht
    omega
  refine ⟨ha, hb, ?_, ?_⟩
  · rw [afterP_len hs]
    cases hr : r.s with
    | nil => exact absurd hr hne
    | cons k ks =>
      have := (takenN_le k (hs k (by rw [hr]; simp))).2.2
      rw [madeS]
      omega
  · rw [changes_sum hs ht]
    unfold keepB at h3
    have h4 := limB_sum h3 (by
      intro e
      have := congrArg List.length e
      rw [ordL_length, changesP_length] at this
      exact hne (List.length_eq_zero_iff.1 this))
    have e5 : sumI (ordL r.d (changesP r.s st)) = sumI (changesP r.s st) := by
      unfold ordL
      split
      · rw [sumI_rev']
      · rfl
    omega
where
  sumI_rev' (xs : List Int) : sumI xs.reverse = sumI xs := by
    induction xs with
    | nil => rfl
    | cons x r ih => rw [List.reverse_cons, sumI_append, ih]; simp only [sumI]; omega
theorem ones_ok {n : Nat} (h : n ≤ 8) : stacksB (List.replicate n 1) = true ∧ sumI (List.replicate n 1) ≤ 12 := by
  refine ⟨?_, by rw [sumI_ones]; omega⟩
  unfold stacksB
  rw [Bool.and_eq_true, List.all_eq_true, decide_eq_true_eq, List.length_replicate]
  refine ⟨fun x hx => ?_, h⟩
  rw [(List.mem_replicate.1 hx).2]
  decide

theorem GrowInv.grownG {n : Int} {hB lo k g : Nat} {w w' : World} {done : List RowD} (h : GrowInv n hB lo w k done) (hg : w.grownBy w' (some g)) (hlt : g < hB) : GrowInv n hB lo w' k done := by
  obtain ⟨h1, h2, h3, A', c', cs, hk, ho, hc⟩ := h
  have hz := hg.size
  exact ⟨h1, h2, by omega, A', c', cs, hk.grownG hg (by omega), (OwnC.grownG ho hg (.inl (by omega))).mono (Nat.le_refl _) hz, (hc.keep fun q q1 q2 q3 => hg.block q q3 (fun e => by injection e with e; omega)).mono (Nat.le_refl _) hz⟩

set_option maxHeartbeats 8000000 in
set_option maxRecDepth 10000 in
theorem spec_l15Draw (w : World) (g : Nat) (AB : Option Addr) (cB : Nat) (bs : List Int) (b : Nat) (hsv : Sv w g AB cB bs b) (hb : b ≤ 144115188075855872) :
    Calls Tryz.prog 31 #[.pointer (some ⟨g, 0, none⟩), .int .i64 8, .int .i64 4] w fun e w' => ∃ (n : Int) (rs : List RowD) (A' : Option Addr) (c' : Nat), e = .returned (.agg #[.int .i64 n, .slice A' rs.length c']) ∧ chartB n rs = true ∧ rs.length ≤ 4 ∧ OwnRows w' w.heap.size w'.heap.size A' rs.length c' rs ∧ Sv w' g AB cB bs (b + 144115188075855872) ∧ w.grownBy w' (some g) := by
  obtain ⟨iI, hi0, hu0, hu1, hu2⟩ := info_parts info_int64
  obtain ⟨iR, hj0, hy0, hy1, hy2⟩ := info_parts info_Row
  have t1 : (24 : TypeId) ≠ 2 := by decide
  have t2 : (24 : TypeId) ≠ 42 := by decide
  have hgw := hsv.lt
  obtain ⟨w1, hw1⟩ : ∃ w1, w1 = w.alloc (.cells #[.int .i64 0, .slice none 0 0] 24) := ⟨_, rfl⟩
  have kz1 : Blk w1 w.heap.size 24 #[.int .i64 0, .slice none 0 0] := by rw [hw1]; exact Blk.new w _ _
  have hg1 : w.grownBy w1 (some g) := by rw [hw1]; exact World.grownBy_alloc _ _ _
  have hs1 : Sv w1 g AB cB bs b := by rw [hw1]; exact hsv.alloc _
  have HZ1 : Hid (w1.heap.size = w.heap.size + 1) := Lib.hid (by rw [hw1]; simp)
  go_enter Tryz.func31, Tryz.ntmps31
  go_upto_region 1 with fail
  rw [← hw1]
  clear hw1
  go_wp2_with (fail)
  refine (sv_pick 8 (by decide) hs1 (by omega)).mono ?_
  rintro e w2 ⟨x, rfl, hx0, hx8, hs2, hg2, hz2⟩
  have kz2 := kz1.grownG hg2 (by omega)
  have hgw2 := hg1.trans hg2
  have HZ2 : Hid (w2.heap.size = w.heap.size + 1) := Lib.hid (by rw [hz2]; exact HZ1.out)
  clear kz1 hg1 hs1 hg2 hz2 HZ1
  obtain ⟨n, hn⟩ : ∃ n : Nat, 1 + x = (n : Int) := ⟨(1 + x).toNat, by omega⟩
  have hn1 : 1 ≤ n ∧ n ≤ 8 := by omega
  have hwn : IntKind.i64.wrap (1 + x) = (n : Int) := by rw [hn]; exact IntWalk.i64_in _ ⟨by omega, by omega⟩
  clear hn hx0 hx8
  obtain ⟨w3, hw3⟩ : ∃ w3, w3 = (w2.alloc (.cells #[.int .i64 (n : Int), .slice none 0 0] 24)).alloc (.cells #[] 2) := ⟨_, rfl⟩
  have kz3 : Blk w3 w.heap.size 24 #[.int .i64 0, .slice none 0 0] := by rw [hw3]; exact (kz2.alloc _).alloc _
  obtain ⟨gC, hgC⟩ : ∃ gC, gC = w2.heap.size := ⟨_, rfl⟩
  have hzC : w.heap.size < gC := by have := HZ2.out; omega
  have kx3 : Blk w3 gC 24 #[.int .i64 (n : Int), .slice none 0 0] := by rw [hw3, hgC]; exact (Blk.new w2 _ _).alloc _
  have hgw3 : w.grownBy w3 (some g) := by rw [hw3]; exact gb_al (gb_al hgw2 _) _
  have hs3 : Sv w3 g AB cB bs (b + 1) := by rw [hw3]; exact (hs2.alloc _).alloc _
  have o3 : OwnC w3 (gC + 1) w3.heap.size 2 1 (some ⟨gC + 1, 0, none⟩) 0 0 ((List.replicate 0 (1 : Int)).map (Value.int .i64)) := by
    rw [hw3, hgC]
    have := OwnC.lit (w := w2.alloc (.cells #[.int .i64 (n : Int), .slice none 0 0] 24)) (lo := w2.heap.size + 1) (n := 0) 2 1 #[] (by simp) (Nat.zero_le _) rfl
    simpa using this
  have hz3 : gC + 1 < w3.heap.size := by rw [hw3, hgC]; simp
  go_upto_region 3 with fail
  rw [← hw3, ← hgC]
  clear hw3 hgC kz2 hgw2 hs2 HZ2
  go_loopw [8] (fun sv wr => ∃ (i : Nat) (A3 : Option Addr) (c3 : Nat), i ≤ n ∧ sv = .slice A3 i c3 ∧ Blk wr w.heap.size 24 #[.int .i64 0, .slice none 0 0] ∧ Blk wr gC 24 #[.int .i64 (n : Int), .slice none 0 0] ∧ OwnC wr (gC + 1) wr.heap.size 2 1 A3 i c3 ((List.replicate i (1 : Int)).map (Value.int .i64)) ∧ Sv wr g AB cB bs (b + 1) ∧ w.grownBy wr (some g) ∧ gC + 1 ≤ wr.heap.size) (fun sv _ => n - lenOV sv)
  case atStart => exact ⟨0, _, 0, Nat.zero_le _, rfl, kz3, kx3, o3, hs3, hgw3, by omega⟩
  case round =>
    clear kz3 kx3 o3 hs3 hgw3 hz3
    obtain ⟨i, A3, c3, hi, rfl, kz, kx, o3, hs, hgr, hlq⟩ := hrel
    have s0 := kx.c2
    by_cases hin : i < n
    · have dn : decide ((i : Int) < (n : Int)) = true := decide_eq_true (by omega)
      have HW8 : Hid (gC + 1 ≤ wr.heap.size) := Lib.hid hlq
      go_wp2_with (at_builtin; refine wpList_append1 wr [.int .i64 1] _ rfl (.tmp 25) (.tmp 26) _ rfl 2 iI _ 1 8 Tryz.underlying34 hi0 hu0 hu1 hu2 rfl (by decide) rfl o3 HW8.out 1 rfl rfl (by simp [Value.oneCell']) (by omega) (by decide) ?_; intro A4 c4 w4 o4 hg4 hb4 hz4)
      have kz4 := (kz.alloc (.cells #[.int .i64 1] 2)).grownT (OwnC.alloc o3 (.cells #[.int .i64 1] 2)) t1 hg4
      have kx4 := (kx.alloc (.cells #[.int .i64 1] 2)).grownT (OwnC.alloc o3 (.cells #[.int .i64 1] 2)) t1 hg4
      have hs4 : Sv w4 g AB cB bs (b + 1) := hs.keep fun q hq => hb4.block q (by omega)
      have hgr4 : w.grownBy w4 (some g) := ⟨hb4.os.trans hgr.os, hb4.tape.trans hgr.tape, hb4.output.trans hgr.output, Nat.le_trans hgr.size hb4.size, fun q hq hne => (hb4.block q (by omega)).trans (hgr.block q hq hne)⟩
      refine ⟨⟨i + 1, A4, c4, by omega, rfl, kz4, kx4, by rw [List.replicate_succ', List.map_append]; exact o4, hs4, hgr4, by omega⟩, by simp [lenOV]; omega⟩
    · obtain rfl : i = n := by omega
      have dn : decide ((i : Int) < (i : Int)) = false := decide_eq_false (by omega)
      go_upto_region 6 with fail
      clear s0
      go_upto_if 29 with (go_at_call 57; refine (sv_one 6 (by decide) hs (by omega)).mono ?_; rintro e w5 ⟨x5, rfl, hs5, hg5, hz5⟩)
      have kz5 := kz.grownG hg5 (by omega)
      have kx5 := kx.grownG hg5 (by omega)
      have o5 := OwnC.grownG o3 hg5 (.inl (by omega))
      have hgr5 := hgr.trans hg5
      rw [← hz5] at o5
      have hlq5 : gC + 1 ≤ w5.heap.size := by omega
      clear kz kx o3 hs hgr hg5 hz5 hlq
      go_cut [9] (fun dv wx => (dv = .int .i64 1 ∨ dv = .int .i64 (-1)) ∧ w5 = wx)
      case first =>
        cases x5
        · go_wp2_with (fail)
          go_meet
          exact ⟨.inr rfl, rfl⟩
        · go_wp2_with (fail)
          go_meet
          exact ⟨.inl rfl, rfl⟩
      case rest =>
      obtain ⟨hdv, rfl⟩ := hcut
      obtain ⟨d0, hd0, hd1⟩ : ∃ d0 : Int, u9 = .int .i64 d0 ∧ (d0 = 1 ∨ d0 = -1) := by
        rcases hdv with e | e
        · exact ⟨1, e, .inl rfl⟩
        · exact ⟨-1, e, .inr rfl⟩
      subst hd0
      clear hdv
      go_wp2_with (fail)
      refine (sv_pick 4 (by decide) hs5 (by omega)).mono ?_
      rintro e w6 ⟨x, rfl, hx0, hx4, hs6, hg6, hz6⟩
      have kz6 := kz5.grownG hg6 (by omega)
      have kx6 := kx5.grownG hg6 (by omega)
      have o6 := OwnC.grownG o5 hg6 (.inl (by omega))
      have hgr6 := hgr5.trans hg6
      rw [← hz6] at o6
      have hlq6 : gC + 1 ≤ w6.heap.size := by omega
      clear kz5 kx5 o5 hs5 hgr5 hg6 hz6 hlq5
      obtain ⟨m, hm⟩ : ∃ m : Nat, 1 + x = (m : Int) := ⟨(1 + x).toNat, by omega⟩
      have hm1 : 1 ≤ m ∧ m ≤ 4 := by omega
      have hwm : IntKind.i64.wrap (1 + x) = (m : Int) := by rw [hm]; exact IntWalk.i64_in _ ⟨by omega, by omega⟩
      clear hm hx0 hx4
      obtain ⟨ok1, ok2⟩ := ones_ok hn1.2
      have HO1 := Lib.hid ok1; clear ok1
      have HO2 := Lib.hid ok2; clear ok2
      have hlr : (List.replicate i (1 : Int)).length = i := List.length_replicate
      have HLR := Lib.hid hlr; clear hlr
      have hG : GrowInv i gC (gC + 1) w6 0 [] := ⟨rfl, by omega, hlq6, none, 0, [], kx6, OwnC.nil _ _ _ _ _, CellsRows.nil⟩
      go_wp2_with (fail)
      go_loopw [8, 9, 10] (fun sv dv kv wr => ∃ (A3 : Option Addr) (c3 : Nat) (st : List Int) (d : Int) (k : Nat) (done : List RowD), sv = .slice A3 st.length c3 ∧ dv = .int .i64 d ∧ kv = .int .i64 k ∧ (d = 1 ∨ d = -1) ∧ done.length + k = m ∧ Blk wr w.heap.size 24 #[.int .i64 0, .slice none 0 0] ∧ GrowInv i gC (gC + 1) wr done.length done ∧ OwnI wr (gC + 1) wr.heap.size A3 c3 st ∧ Hid (rowsOkB (List.replicate i 1) done = true) ∧ Hid (endSt (List.replicate i 1) done = st) ∧ Hid (stacksB st = true) ∧ 1 ≤ st.length ∧ Hid (sumI st ≤ 12) ∧ Sv wr g AB cB bs (b + 3 + done.length * 18014398509481984) ∧ w.grownBy wr (some g)) (fun _ _ kv _ => (intOf kv).toNat)
      case atStart =>
        exact ⟨A3, c3, List.replicate i 1, d0, m, [], by rw [HLR.out], rfl, rfl, hd1, by simp, kz6, hG, (show OwnC _ _ _ _ _ _ _ _ _ by rw [HLR.out]; exact o6), Lib.hid rfl, Lib.hid rfl, HO1, by rw [HLR.out]; omega, HO2, hs6.mono (by omega), hgr6⟩
      case round =>
        clear kz6 kx6 o6 hs6 hgr6 hlq6 hG HO1 HO2 HLR hd1
        obtain ⟨A3, c3, st, d, k, done, rfl, rfl, rfl, hd, hdk, kz, hG, o3, HRO, HEN, HST, hst1, HSM, hs, hgr⟩ := hrel
        have hlq : gC + 1 ≤ wr.heap.size := hG.2.2.1
        by_cases hk0 : 0 < k
        · have dk : decide ((0 : Int) < (k : Int)) = true := decide_eq_true (by omega)
          have hdl : done.length ≤ 3 := by omega
          go_upto_region 12 with fail
          go_upto_if 39 with (go_at_call 57; refine (sv_one 12 (by decide) hs (by omega)).mono ?_; rintro e w7 ⟨x7, rfl, hs7, hg7, hz7⟩)
          go_cut [11] (fun cv wx => ∃ car : Int, cv = .int .i64 car ∧ carrierB car = true ∧ Sv wx g AB cB bs (b + 3 + done.length * 18014398509481984 + 2) ∧ wr.grownBy wx (some g) ∧ wx.heap.size = wr.heap.size)
          case first =>
            cases x7
            · go_wp2_with (fail)
              go_meet
              exact ⟨1, rfl, by decide, hs7.mono (by omega), hg7, hz7⟩
            · go_wp2_with (fail)
              refine (sv_pick 4 (by decide) hs7 (by omega)).mono ?_
              rintro e w8 ⟨y, rfl, hy0', hy4, hs8, hg8, hz8⟩
              have hwy : IntKind.i64.wrap (1 + y) = 1 + y := IntWalk.i64_in _ ⟨by omega, by omega⟩
              go_wp2_with (fail)
              go_meet
              exact ⟨1 + y, rfl, inR_iff.2 (by omega), hs8.mono (by omega), hg7.trans hg8, by omega⟩
          case rest =>
          clear hs7 hg7 hz7
          obtain ⟨car, rfl, hcar, hs7, hg7, hz7⟩ := hcut
          have kz7 := kz.grownG hg7 (by omega)
          have hG7 := hG.grownG hg7 (by omega)
          have o7 := OwnC.grownG o3 hg7 (.inl (by omega))
          have hgr7 := hgr.trans hg7
          have hA3 : ∀ a, A3 = some a → a.block ≠ g := by
            intro a ha
            rcases OwnC.form o3 with ⟨e, _⟩ | ⟨q, _, e, h1, _⟩
            · rw [e] at ha; cases ha
            · rw [e] at ha
              injection ha with ha
              subst ha
              show q ≠ g
              omega
          clear kz hG o3 hs hgr
          obtain ⟨hW, hhW⟩ : ∃ hW, hW = wc.heap.size := ⟨_, rfl⟩
          go_wp2_with (fail)
          refine (spec_l15DrawRow st d car A3 c3 wc g AB cB bs _ hs7 (by omega) (OwnC.ints o7) hA3 HST.out HSM.out hd hcar).mono ?_
          rintro e w8 ⟨A1, c1, ks, A2, c2, rfl, hrow, o81, o82, hs8, hg8⟩
          have hz8 := hg8.size
          obtain ⟨q1, q2, q3, q4⟩ := row_next hrow hst1
          have HROW := Lib.hid hrow; clear hrow
          have HQ1 := Lib.hid q1; clear q1
          have HQ2 := Lib.hid q2; clear q2
          have HQ4 := Lib.hid q4; clear q4
          have kz8 := kz7.grownG hg8 (by omega)
          have hgr8 := hgr7.trans hg8
          rw [← hhW] at o81 o82 hz8
          obtain ⟨_, hlt8, hlo8, A', c', cs, kb7, ho7, hcr7⟩ := hG7
          have kb8 := kb7.grownG hg8 (by omega)
          have ho8 : OwnC w8 (gC + 1) hW 42 3 A' done.length c' cs := by rw [hhW]; exact OwnC.grownG ho7 hg8 (.inl (by omega))
          have hcr8 : CellsRows w8 (gC + 1) hW cs done := by rw [hhW]; exact hcr7.keep fun q h1 h2 h3 => hg8.block q h3 (fun e => by injection e with e; omega)
          clear kz7 o7 hs7 hgr7 hA3 kb7 ho7 hcr7 hg8
          obtain ⟨w9, hw9⟩ : ∃ w9, w9 = w8.alloc (.cells #[.int .i64 d, .int .i64 car, .slice A1 ks.length c1] 42) := ⟨_, rfl⟩
          have kr9 : Blk w9 w8.heap.size 42 #[.int .i64 d, .int .i64 car, .slice A1 ks.length c1] := by rw [hw9]; exact Blk.new w8 _ _
          have kz9 : Blk w9 w.heap.size 24 #[.int .i64 0, .slice none 0 0] := by rw [hw9]; exact kz8.alloc _
          have kb9 : Blk w9 gC 24 #[.int .i64 (i : Int), .slice A' done.length c'] := by rw [hw9]; exact kb8.alloc _
          have ho9 : OwnC w9 (gC + 1) hW 42 3 A' done.length c' cs := by rw [hw9]; exact ho8.alloc _
          have hcr9 : CellsRows w9 (gC + 1) hW cs done := by rw [hw9]; exact hcr8.keep fun q _ _ h3 => Below.heap_alloc w8 _ q h3
          have o91 : OwnI w9 hW w9.heap.size A1 c1 ks := by rw [hw9]; exact (OwnC.alloc o81 _).mono (Nat.le_refl _) (by simp)
          have o92 : OwnI w9 hW w9.heap.size A2 c2 (afterP ks st) := by rw [hw9]; exact (OwnC.alloc o82 _).mono (Nat.le_refl _) (by simp)
          have hs9 : Sv w9 g AB cB bs (b + 3 + done.length * 18014398509481984 + 2 + 13510798882111488) := by rw [hw9]; exact hs8.alloc _
          have hgr9 : w.grownBy w9 (some g) := by rw [hw9]; exact gb_al hgr8 _
          have HZ9 : Hid (w9.heap.size = w8.heap.size + 1) := Lib.hid (by rw [hw9]; simp)
          obtain ⟨gr, hgr0⟩ : ∃ gr, gr = w8.heap.size := ⟨_, rfl⟩
          go_upto_region 15 with fail
          rw [← hw9, ← hgr0]
          have HZW : Hid (gC + 1 ≤ hW ∧ hW ≤ w9.heap.size) := Lib.hid (by have := HZ9.out; omega)
          rw [← hgr0] at kr9 HZ9
          clear hw9 hgr0 kz8 kb8 ho8 hcr8 o81 o82 hs8 hgr8 hhW
          have v0 := kr9.c3
          have v1 := kb9.c2
          have t3 : (2 : TypeId) ≠ 42 := by decide
          go_upto_region 16 with (at_builtin; refine wpList_append1 w9 [.int .i64 d, .int .i64 car, .slice A1 ks.length c1] _ rfl (.tmp 52) (.tmp 54) _ rfl 42 iR _ 3 40 Tryz.underlying22 hj0 hy0 hy1 hy2 rfl (by decide) rfl ho9 (by have := HZW.out; omega) 1 rfl rfl (by simp [Value.oneCell']) (by omega) (by decide) ?_; intro A5 c5 w5 ho5 hg5 hb5 hz5; have kb5 := (kb9.alloc (.cells #[.int .i64 d, .int .i64 car, .slice A1 ks.length c1] 42)).grownT (OwnC.alloc ho9 (.cells #[.int .i64 d, .int .i64 car, .slice A1 ks.length c1] 42)) t2 hg5; have v5 := kb5.c2.2; have f5 := kb5.frozen 1)
          have hG6 := GrowInv.step ⟨d, car, ks⟩ rfl hlt8 HZW.out.1 HZW.out.2 kb9 ho9 hcr9 o91 ho5 hg5 hz5
          have kz5 := (kz9.alloc (.cells #[.int .i64 d, .int .i64 car, .slice A1 ks.length c1] 42)).grownT (OwnC.alloc ho9 (.cells #[.int .i64 d, .int .i64 car, .slice A1 ks.length c1] 42)) t2 hg5
          have o5 : OwnI w5 hW w9.heap.size A2 c2 (afterP ks st) := OwnC.grownT (OwnC.alloc o92 (.cells #[.int .i64 d, .int .i64 car, .slice A1 ks.length c1] 42)) (OwnC.alloc ho9 (.cells #[.int .i64 d, .int .i64 car, .slice A1 ks.length c1] 42)) t3 hg5
          have hs5 : Sv w5 g AB cB bs (b + 3 + done.length * 18014398509481984 + 2 + 13510798882111488) := hs9.keep fun q hq => hb5.block q (by omega)
          have hgr5 : w.grownBy w5 (some g) := ⟨hb5.os.trans hgr9.os, hb5.tape.trans hgr9.tape, hb5.output.trans hgr9.output, Nat.le_trans hgr9.size hb5.size, fun q hq hne => (hb5.block q (by omega)).trans (hgr9.block q hq hne)⟩
          obtain ⟨w6, hw6⟩ : ∃ w6, w6 = w5.setCell ⟨gC, 1, none⟩ (.slice A5 (done.length + 1) c5) := ⟨_, rfl⟩
          rw [← hw6] at hG6
          have kz6 : Blk w6 w.heap.size 24 #[.int .i64 0, .slice none 0 0] := by rw [hw6]; exact kz5.far (by show w.heap.size ≠ gC; omega) _
          have o6 : OwnI w6 hW w9.heap.size A2 c2 (afterP ks st) := by rw [hw6]; exact OwnC.farT o5 kb5 t1 1 _
          have hs6 : Sv w6 g AB cB bs (b + 3 + done.length * 18014398509481984 + 2 + 13510798882111488) := by rw [hw6]; exact hs5.store (by omega) _
          have hgr6 : w.grownBy w6 (some g) := by rw [hw6]; exact gb_set hgr5 (by show w.heap.size ≤ gC; omega) _
          have HZ6 : Hid (w9.heap.size < w6.heap.size) := Lib.hid (by rw [hw6]; simpa using hz5)
          rw [← hw6]
          clear hw6 kz5 o5 hs5 hgr5 kb5 v5 f5 hg5 hb5 hz5 ho5 kz9 kb9 ho9 hcr9 o91 o92 hs9 hgr9 v0 v1 kr9
          have HRO6 : Hid (rowsOkB (List.replicate i 1) (done ++ [⟨d, car, ks⟩]) = true) := Lib.hid (rowsOk_snoc HRO.out (by rw [HEN.out]; exact HROW.out))
          have HEN6 : Hid (endSt (List.replicate i 1) (done ++ [⟨d, car, ks⟩]) = afterP ks st) := Lib.hid (by rw [endSt_snoc, HEN.out]; exact HQ1.out)
          have q3' : 1 ≤ (afterP ks st).length := q3
          clear q3
          have HQ2' : Hid (stacksB (afterP ks st) = true) := HQ2
          have HQ4' : Hid (sumI (afterP ks st) ≤ 12) := HQ4
          clear HQ2 HQ4 HQ1 HROW HRO HEN HST HSM
          generalize afterP ks st = st2 at *
          have hdl2 : (done ++ [(⟨d, car, ks⟩ : RowD)]).length = done.length + 1 := by simp
          have HDL2 := Lib.hid hdl2; clear hdl2
          generalize done ++ [(⟨d, car, ks⟩ : RowD)] = done2 at *
          have e1 : (k : Int) - 1 = ((k - 1 : Nat) : Int) := by omega
          have wk : IntKind.i64.wrap ((k : Int) - 1) = ((k - 1 : Nat) : Int) := by rw [e1]; exact IntWalk.i64_in _ ⟨by omega, by omega⟩
          have wd : IntKind.i64.wrap (-d) = -d := IntWalk.i64_in _ ⟨by omega, by omega⟩
          clear e1
          go_wp2_with (fail)
          refine (sv_one 12 (by decide) hs6 (by omega)).mono ?_
          rintro e w7 ⟨x7, rfl, hs7, hg7, hz7⟩
          have kz7 := kz6.grownG hg7 (by omega)
          have hG7 := hG6.grownG hg7 (by omega)
          have o7 := OwnC.grownG o6 hg7 (.inl (by have := HZW.out; omega))
          have hgr7 := hgr6.trans hg7
          have HF : Hid (gC + 1 ≤ hW ∧ w9.heap.size ≤ w7.heap.size) := Lib.hid ⟨HZW.out.1, by have := HZ6.out; omega⟩
          have HB : Hid (b + 3 + done.length * 18014398509481984 + 2 + 13510798882111488 + 1 ≤ b + 3 + done2.length * 18014398509481984) := Lib.hid (by rw [HDL2.out]; omega)
          clear kz6 hG6 o6 hgr6 hs6 hg7 hz7
          have o7' : OwnI w7 (gC + 1) w7.heap.size A2 c2 st2 := OwnC.mono o7 HF.out.1 HF.out.2
          have hG8 : GrowInv i gC (gC + 1) w7 done2.length done2 := by rw [HDL2.out]; exact hG7
          cases x7
          · go_wp2_with (fail)
            exact ⟨⟨A2, c2, st2, -d, k - 1, done2, rfl, rfl, rfl, by omega, by rw [HDL2.out]; omega, kz7, hG8, o7', HRO6, HEN6, HQ2', q3', HQ4', hs7.mono HB.out, hgr7⟩, by simp [intOf]; omega⟩
          · go_wp2_with (fail)
            exact ⟨⟨A2, c2, st2, d, k - 1, done2, rfl, rfl, rfl, hd, by rw [HDL2.out]; omega, kz7, hG8, o7', HRO6, HEN6, HQ2', q3', HQ4', hs7.mono HB.out, hgr7⟩, by simp [intOf]; omega⟩
        · obtain rfl : k = 0 := by omega
          obtain ⟨A7, c7, kc, oo⟩ := GrowInv.rows hG
          have hch : chartB (i : Int) done = true := by
            unfold chartB
            rw [Int.toNat_natCast, HRO.out]
            simp only [Bool.and_true, Bool.and_eq_true]
            exact ⟨inR_iff.2 (by omega), inR_iff.2 (by omega)⟩
          have HCH := Lib.hid hch; clear hch
          obtain ⟨p0, p1⟩ := kc.c2
          obtain ⟨y0, y1⟩ := kz.c2
          have g0 := kz.frozen 0
          have g1 := kz.frozen 1
          go_wp2_with (fail)
          have k1 := kz.set20 (.int .i64 (i : Int))
          have k2 := k1.set21 (.slice A7 done.length c7)
          obtain ⟨r0, r1⟩ := k2.c2
          refine bodyPost_ret (v := .agg #[.int .i64 (i : Int), .slice A7 done.length c7]) (by simp [results, Tryz.results31, go_sem, r0, r1]) rfl ⟨(i : Int), done, A7, c7, rfl, HCH.out, by omega, ?_, ?_, ?_⟩
          · exact ((oo.farT kz t1 t2 0 _).farT k1 t1 t2 1 _).mono (by omega) (by simp)
          · exact ((hs.store (by omega) _).store (by omega) _).mono (by omega)
          · exact gb_set (gb_set hgr (Nat.le_refl _) _) (Nat.le_refl _) _

set_option maxHeartbeats 1000000 in
theorem spec_A2Chart (A : Option Addr) (c : Nat) (bs : List Int) (w : World) (hby : Bytes w A bs) (hl : bs.length ≤ 1099511627776) :
    Calls Tryz.prog 11 #[.slice A bs.length c] w fun e w' => ∃ (n : Int) (rs : List RowD) (A' : Option Addr) (c' : Nat), e = .returned (.agg #[.int .i64 n, .slice A' rs.length c']) ∧ chartB n rs = true ∧ rs.length ≤ 4 ∧ OwnRows w' w.heap.size w'.heap.size A' rs.length c' rs ∧ Below w.heap.size w w' := by
  have t1 : (24 : TypeId) ≠ 2 := by decide
  have t2 : (24 : TypeId) ≠ 42 := by decide
  have hb1 : Below w.heap.size w (w.alloc (.cells #[.int .i64 0, .slice none 0 0] 24)) := by (repeat (first | exact Below.refl _ _ | assumption | apply Below.drew | apply below_drewN | (refine Below.alloc ?_ (by first | omega | (simp; done) | (simp; omega)) _) | (refine Below.setCell ?_ (by first | omega | (simp; done) | (simp; omega)) _)))
  have kz := Blk.new w 24 #[.int .i64 0, .slice none 0 0]
  go_enter Tryz.func11, Tryz.ntmps11
  go_wp2_with (fail)
  refine (spec_l00From A c bs _ (hby.of_cells (cells_below hb1)) hl).mono ?_
  rintro e w2 ⟨rfl, hs2, b2, hz2⟩
  have hb2 : Below w.heap.size w w2 := hb1.trans (b2.mono (by simp))
  have kz2 := kz.below b2 (by simp)
  have hz1 : (w.alloc (.cells #[.int .i64 0, .slice none 0 0] 24)).heap.size = w.heap.size + 1 := by simp
  rw [hz1] at hs2 hz2 ⊢
  have HZ2 := Lib.hid hz2; clear hz2
  clear kz hb1 b2 hz1
  go_wp2_with (fail)
  refine (spec_l15Draw w2 (w.heap.size + 1) A c bs 0 hs2 (by decide)).mono ?_
  rintro e w3 ⟨n, rs, A3, c3, rfl, hch, hl4, o3, hs3, hg3⟩
  have kz3 := kz2.grownG hg3 (by omega)
  have hb3 : Below w.heap.size w w3 := hb2.trans (gb_below hg3 (by omega) (by have := HZ2.out; omega))
  have HZ3 := Lib.hid (show w2.heap.size ≤ w3.heap.size from hg3.size)
  obtain ⟨y0, y1⟩ := kz3.c2
  have g0 := kz3.frozen 0
  have g1 := kz3.frozen 1
  go_wp2_with (fail)
  have k1 := kz3.set20 (.int .i64 n)
  have k2 := k1.set21 (.slice A3 rs.length c3)
  obtain ⟨r0, r1⟩ := k2.c2
  refine bodyPost_ret (v := .agg #[.int .i64 n, .slice A3 rs.length c3]) (by simp [results, Tryz.results11, go_sem, r0, r1]) rfl ⟨n, rs, A3, c3, rfl, hch, hl4, ?_, ?_⟩
  · exact ((o3.farT kz3 t1 t2 0 _).farT k1 t1 t2 1 _).mono (by have := HZ2.out; omega) (by simp)
  · (repeat (first | exact Below.refl _ _ | assumption | apply Below.drew | apply below_drewN | (refine Below.alloc ?_ (by first | omega | (simp; done) | (simp; omega)) _) | (refine Below.setCell ?_ (by first | omega | (simp; done) | (simp; omega)) _)))

end Go.Proofs.YtnjgmhdmjaijgaaGreatDoor

/- The laws over draws: what they compare with. -/
namespace Go.Proofs.YtnjgmhdmjaijgaaGreatDoor
open Go Go.RowKit

theorem laws_a2Long (A B : Option Addr) (n c m d : Nat) (w : World) : Calls Tryz.prog 10 #[.slice A n c, .slice B m d] w fun e w' => e = .returned (.bool (decide (3000 < n) || decide (3000 < m))) ∧ w = w' := by
  by_cases h1 : 3000 < n
  · have d1 : decide ((n : Int) > 3000) = true := decide_eq_true (by omega)
    go_enter Tryz.func10, Tryz.ntmps10
    go_wp2_with (fail)
    go_ret
    exact ⟨by simp [h1], rfl⟩
  · have d1 : decide ((n : Int) > 3000) = false := decide_eq_false (by omega)
    go_enter Tryz.func10, Tryz.ntmps10
    go_wp2_with (fail)
    go_ret
    refine ⟨ret_bool ?_, rfl⟩
    rw [decide_eq_false h1, Bool.false_or]
    exact decide_eq_decide.2 (by omega)

end Go.Proofs.YtnjgmhdmjaijgaaGreatDoor
