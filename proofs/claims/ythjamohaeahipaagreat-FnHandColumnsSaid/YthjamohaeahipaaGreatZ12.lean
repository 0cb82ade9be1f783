/- Steps of the proof, joined from several texts: NA NB FE Y. -/
import Derived.Test.YthjamohaeahipaaGreatZ11
import Derived.Deep.DeepCutAuto
import Derived.Test.YthjamohaeahipaaGreatZ1
import Derived.Test.YthjamohaeahipaaGreatZ3

/- The draws: a row for any columns; stitches, seldom none; sizes. -/
namespace Go.Proofs.YthjamohaeahipaaGreat
open Go Go.RowKit

theorem stacks_valid {st ks : List Int} (h : (stacksAfterP st ks).2 = 0) : stacksB st = true := by
  unfold stacksAfterP at h
  split at h
  · rename_i h1
    rw [Bool.and_eq_true] at h1
    exact h1.1
  · simp at h

set_option maxHeartbeats 8000000 in
set_option maxRecDepth 10000 in
theorem spec_l15DrawRowW (st : List Int) (dd car : Int) (A : Option Addr) (c : Nat) (w : World) (g : Nat) (AB : Option Addr) (cB : Nat) (bs : List Int) (b : Nat) (hsv : Sv w g AB cB bs b) (hb : b ≤ 288230376151711744) (h : Ints w A st) (hAg : ∀ a, A = some a → a.block ≠ g) (h8 : st.length ≤ 8) (hd : dd = 1 ∨ dd = -1) (hc : carrierB car = true) :
    Calls Tryz.prog 18 #[.pointer (some ⟨g, 0, none⟩), .slice A st.length c, .int .i64 dd, .int .i64 car] w fun e w' => ∃ (A1 : Option Addr) (c1 : Nat) (ks : List Int) (A2 : Option Addr) (n2 c2 : Nat), e = .returned (.tuple #[.agg #[.int .i64 dd, .int .i64 car, .slice A1 ks.length c1], .slice A2 n2 c2]) ∧ ks.length ≤ 16 ∧ OwnI w' w.heap.size w'.heap.size A1 c1 ks ∧ Sv w' g AB cB bs (b + 13510798882111488) ∧ w.grownBy w' (some g) := by
  obtain ⟨iI, hi0, hu0, hu1, hu2⟩ := info_parts info_int64
  have t1 : (64 : TypeId) ≠ 2 := by decide
  have t2 : (26 : TypeId) ≠ 2 := by decide
  have HD := Lib.hid hd; clear hd
  have HC := Lib.hid hc; clear hc
  have HA := Lib.hid hAg; clear hAg
  have hgw := hsv.lt
  obtain ⟨w1, hw1⟩ : ∃ w1, w1 = (w.alloc (.cells #[.int .i64 0, .int .i64 0, .slice none 0 0] 26)).alloc (.cells #[.int .i64 dd, .int .i64 car, .slice none 0 0] 26) := ⟨_, rfl⟩
  have kz1 : Blk w1 w.heap.size 26 #[.int .i64 0, .int .i64 0, .slice none 0 0] := by rw [hw1]; exact (Blk.new w _ _).alloc _
  have kx1 : Blk w1 (w.heap.size + 1) 26 #[.int .i64 dd, .int .i64 car, .slice none 0 0] := by rw [hw1]; simpa using Blk.new (w.alloc (.cells #[.int .i64 0, .int .i64 0, .slice none 0 0] 26)) 26 #[.int .i64 dd, .int .i64 car, .slice none 0 0]
  have hg1 : w.grownBy w1 (some g) := by rw [hw1]; exact (World.grownBy_alloc _ _ _).trans (World.grownBy_alloc _ _ _)
  have hs1 : Sv w1 g AB cB bs b := by rw [hw1]; exact (hsv.alloc _).alloc _
  obtain ⟨gR, hgR⟩ : ∃ gR, gR = w.heap.size + 1 := ⟨_, rfl⟩
  rw [← hgR] at kx1
  have hzR : w.heap.size < gR := by omega
  go_enter Tryz.func18, Tryz.ntmps18
  go_upto_region 2 with fail
  rw [← hw1, ← hgR]
  clear hw1 hgR
  go_wp2_with (fail)
  go_loopw [11] (fun kv wr => ∃ (k : Nat) (V : Value), k ≤ 3 ∧ kv = .int .i64 k ∧ Blk wr w.heap.size 26 #[.int .i64 0, .int .i64 0, .slice none 0 0] ∧ Blk wr gR 26 #[.int .i64 dd, .int .i64 car, V] ∧ Sv wr g AB cB bs (b + k * 4503599627370496) ∧ w.grownBy wr (some g)) (fun kv _ => 3 - (intOf kv).toNat)
  case atStart => exact ⟨0, _, Nat.zero_le _, rfl, kz1, kx1, by simpa using hs1, hg1⟩
  case round =>
    clear kz1 kx1 hs1 hg1
    obtain ⟨k, V, hk, rfl, kz, kx, hs, hgr⟩ := hrel
    have hzr := hgr.size
    have hgz := kz.lt
    have hgx := kx.lt
    by_cases hk3 : k < 3
    · have d3 : decide ((k : Int) < 3) = true := decide_eq_true (by omega)
      have hi := h.grownG hgr HA.out
      have s0 := kx.c3
      go_upto_region 6 with fail
      go_wp2_with (fail)
      refine (sv_draw14 st.length h8 hs (by omega)).mono ?_
      rintro e w2 ⟨A4, c4, ks, rfl, o4, hks, htk, hs4, hg4⟩
      have hz4 := hg4.size
      have kz4 := kz.grownG hg4 (by omega)
      have kx4 := kx.grownG hg4 (by omega)
      have hgw4 := hgr.trans hg4
      have s4 := kx4.c3
      have f4 := kx4.frozen 2
      clear s0 kz kx hs hg4 hi
      obtain ⟨w3, hw3⟩ : ∃ w3, w3 = w2.setCell ⟨gR, 2, none⟩ (.slice A4 ks.length c4) := ⟨_, rfl⟩
      have kx3 : Blk w3 gR 26 #[.int .i64 dd, .int .i64 car, .slice A4 ks.length c4] := by rw [hw3]; exact kx4.set32 _
      have kz3 : Blk w3 w.heap.size 26 #[.int .i64 0, .int .i64 0, .slice none 0 0] := by rw [hw3]; exact kz4.far (by show w.heap.size ≠ gR; omega) _
      have hgw3 : w.grownBy w3 (some g) := by rw [hw3]; exact gb_set hgw4 (by show w.heap.size ≤ gR; omega) _
      have hs3 : Sv w3 g AB cB bs (b + (k + 1) * 4503599627370496) := by
        have e : Sv w3 g AB cB bs (b + k * 4503599627370496 + 4503599627370496) := by
          rw [hw3]
          exact hs4.store (by omega) _
        exact e.mono (by omega)
      have o3 : OwnI w3 wr.heap.size w2.heap.size A4 c4 ks := by rw [hw3]; exact OwnC.farT o4 kx4 t2 2 _
      have hz3 : w2.heap.size = w3.heap.size := by rw [hw3]; simp
      have hi3 : Ints w3 A st := h.grownG hgw3 HA.out
      have hi4 : Ints w3 A4 ks := OwnC.ints o3
      have s3 := kx3.c3
      go_upto_region 7 with fail
      rw [← hw3]
      clear hw3 kx4 kz4 hs4 o4 hgw4 s4 f4
      have hk16 := (stitchesB_of hks).1
      refine (spec_StacksAfter st ks A c A4 c4 w3 hi3 (by omega) hi4 (by omega)).mono ?_
      rintro e w5 ⟨A5, c5, rfl, o5, b5⟩
      have hz5 := b5.size
      have kx5 := kx3.below b5 kx3.lt
      have kz5 := kz3.below b5 kz3.lt
      have hs5 := hs3.below b5
      have hgw5 := gb_bel hgw3 b5
      have o35 : OwnI w5 wr.heap.size w2.heap.size A4 c4 ks := OwnC.below o3 b5 (by omega)
      have hi5 : Ints w5 A st := hi3.below b5
      have hi45 : Ints w5 A4 ks := hi4.below b5
      clear kx3 kz3 hs3 hgw3 o3 hi3 hi4 s3 b5
      have s5 := kx5.c3
      by_cases hcode : (stacksAfterP st ks).2 = 0
      · obtain ⟨_, _, _, e1, _⟩ := stepCode_of (st := st) (ks := ks) (by unfold stepCode; exact decide_eq_true hcode)
        rw [e1] at o5 ⊢
        rw [hcode]
        have HST := Lib.hid (stacks_valid hcode)
        have HCODE := Lib.hid hcode; clear hcode
        have HKS := Lib.hid hks; clear hks
        have HE1 := Lib.hid e1; clear e1
        have HTK := Lib.hid htk; clear htk
        go_wp2_with (fail)
        refine (spec_l15Thin dd HD.out st ks A A5 A4 c c5 c4 gR 0 w5 hi5 (OwnC.ints o5) hi45 s5.1 s5.2.2 HST.out HKS.out HTK.out).mono ?_
        rintro e w6 ⟨rfl, b6⟩
        have hz6 := b6.size
        have kx6 := kx5.below b6 kx5.lt
        have kz6 := kz5.below b6 kz5.lt
        have hs6 := hs5.below b6
        have hgw6 := gb_bel hgw5 b6
        have o36 : OwnI w6 wr.heap.size w2.heap.size A4 c4 ks := OwnC.below o35 b6 (by omega)
        have o56 : OwnI w6 w3.heap.size w5.heap.size A5 c5 (afterP ks st) := OwnC.below o5 b6 (by omega)
        clear kx5 kz5 hs5 hgw5 o35 o5 hi5 hi45 s5 b6
        have s6 := kx6.c3
        cases hkp : keepB dd st ks
        · go_wp2_with (fail)
          exact ⟨⟨k + 1, _, by omega, by go_num, kz6, kx6, hs6, hgw6⟩, by simp [intOf]; omega⟩
        · have hk16' := (stitchesB_of HKS.out).1
          have g0 := kz6.frozen 0
          have g1 := kz6.frozen 1
          have g2 := kz6.frozen 2
          obtain ⟨y0, y1, y2⟩ := kz6.c3
          go_wp2_with (fail)
          have k1 := kz6.set30 (.int .i64 dd)
          have k2 := k1.set31 (.int .i64 car)
          have k3 := k2.set32 (.slice A4 ks.length c4)
          obtain ⟨r0, r1, r2⟩ := k3.c3
          refine bodyPost_ret (v := .tuple #[.agg #[.int .i64 dd, .int .i64 car, .slice A4 ks.length c4], .slice A5 (afterP ks st).length c5]) (by simp [results, Tryz.results18, go_sem, r0, r1, r2]) rfl ⟨A4, c4, ks, A5, _, c5, rfl, hk16', ?_, ?_, ?_⟩
          · exact (((OwnC.farT o36 kz6 t2 0 _).farT k1 t2 1 _).farT k2 t2 2 _).mono (by omega) (by simp; omega)
          · exact (((hs6.store (by omega) _).store (by omega) _).store (by omega) _).mono (by omega)
          · exact gb_set (gb_set (gb_set hgw6 (Nat.le_refl _) _) (Nat.le_refl _) _) (Nat.le_refl _) _
      · have hcb : ((stacksAfterP st ks).2 == 0) = false := by simpa using hcode
        clear hcode
        generalize (stacksAfterP st ks).2 = cd at hcb ⊢
        generalize (stacksAfterP st ks).1 = sa at o5 ⊢
        go_wp2_with (fail)
        exact ⟨⟨k + 1, _, by omega, by go_num, kz5, kx5, hs5, hgw5⟩, by simp [intOf]; omega⟩
    · have d3 : decide ((k : Int) < 3) = false := decide_eq_false (by omega)
      have s0 := kx.c3
      generalize hm : st.length = m at *
      have HM := Lib.hid hm; clear hm
      obtain ⟨lo, hlo⟩ : ∃ lo, lo = wr.heap.size := ⟨_, rfl⟩
      obtain ⟨wE, hwE⟩ : ∃ wE, wE = (wr.setCell ⟨gR, 2, none⟩ (.slice (some ⟨wr.heap.size, 0, none⟩) 0 0)).alloc (.cells #[] 2) := ⟨_, rfl⟩
      have kxE : Blk wE gR 26 #[.int .i64 dd, .int .i64 car, .slice (some ⟨wr.heap.size, 0, none⟩) 0 0] := by rw [hwE]; exact (kx.set32 _).alloc _
      have kzE : Blk wE w.heap.size 26 #[.int .i64 0, .int .i64 0, .slice none 0 0] := by rw [hwE]; exact (kz.far (by show w.heap.size ≠ gR; omega) _).alloc _
      have hsE : Sv wE g AB cB bs (b + 13510798882111488) := by rw [hwE]; exact ((hs.store (by omega) _).alloc _).mono (by omega)
      have hgE : w.grownBy wE (some g) := by rw [hwE]; exact gb_al (gb_set hgr (by show w.heap.size ≤ gR; omega) _) _
      have oE : OwnC wE lo (wr.heap.size + 1) 2 1 (some ⟨wr.heap.size, 0, none⟩) 0 0 ((List.replicate 0 (1 : Int)).map (Value.int .i64)) := by
        rw [hwE]
        have := OwnC.lit (w := wr.setCell ⟨gR, 2, none⟩ (.slice (some ⟨wr.heap.size, 0, none⟩) 0 0)) (lo := lo) (n := 0) 2 1 #[] (by simp; omega) (Nat.zero_le _) rfl
        simpa using this
      have hzE : wE.heap.size = wr.heap.size + 1 := by rw [hwE]; simp
      have oF := (OwnC.lit (w := wE) (lo := lo) (n := 0) 2 1 #[] (by omega) (Nat.zero_le _) rfl)
      have ap0 : Apart (some ⟨wr.heap.size, 0, none⟩) (some ⟨wE.heap.size, 0, none⟩) := by
        intro a b ha hb e
        injection ha with ha
        injection hb with hb
        subst ha hb
        have e' : wr.heap.size = wE.heap.size := e
        omega
      have f0 := kx.frozen 2
      have HZE := Lib.hid hzE; clear hzE
      go_upto_region 10 with fail
      rw [← hwE]
      clear hwE kz kx hs hgr s0 f0
      go_wp2_with (fail)
      go_loopw [14, 48] (fun av iv wq => ∃ (i : Nat) (A3 : Option Addr) (c3 : Nat) (A7 : Option Addr) (c7 : Nat), i ≤ m ∧ iv = .int .i64 i ∧ av = .slice A7 i c7 ∧ Blk wq w.heap.size 26 #[.int .i64 0, .int .i64 0, .slice none 0 0] ∧ Blk wq gR 26 #[.int .i64 dd, .int .i64 car, .slice A3 i c3] ∧ OwnC wq lo wq.heap.size 2 1 A3 i c3 ((List.replicate i (1 : Int)).map (Value.int .i64)) ∧ OwnC wq lo wq.heap.size 2 1 A7 i c7 ((List.replicate i (1 : Int)).map (Value.int .i64)) ∧ Apart A3 A7 ∧ Sv wq g AB cB bs (b + 13510798882111488) ∧ w.grownBy wq (some g) ∧ lo ≤ wq.heap.size) (fun _ iv _ => m - (intOf iv).toNat)
      case atStart => exact ⟨0, _, 0, _, 0, Nat.zero_le _, rfl, rfl, kzE.alloc _, kxE.alloc _, (oE.alloc _).mono (Nat.le_refl _) (by have := HZE.out; simp; omega), oF.mono (Nat.le_refl _) (by simp), ap0, hsE.alloc _, gb_al hgE _, by have := HZE.out; simp; omega⟩
      case round =>
        clear kzE kxE oE oF ap0 hsE hgE HZE
        obtain ⟨i, A3, c3, A7, c7, hi, rfl, rfl, kz, kx, o3, o7, hap, hs, hgr, hlq⟩ := hrel
        have hgx := kx.lt
        by_cases him : i < m
        · have dm : decide ((i : Int) < (m : Int)) = true := decide_eq_true (by omega)
          have s2 := kx.c3.2.2
          have f2 := kx.frozen 2
          have HW8 : Hid (lo ≤ wr.heap.size + 1) := Lib.hid (by omega)
          have hlit : ∀ (W : World) (j : Nat) (u : Value), ([.int .i64 1] : List Value)[j]? = some u → ∃ b off, (some ⟨W.heap.size, 0, none⟩ : Option Addr) = some ⟨b, off, none⟩ ∧ (W.alloc (.cells #[.int .i64 1] 2)).cell? ⟨b, off + j, none⟩ = some u := by
            intro W j u hj
            refine ⟨W.heap.size, 0, rfl, ?_⟩
            rw [Nat.zero_add, (Blk.new W 2 #[.int .i64 1]).cell j]
            simpa using hj
          have HLT := Lib.hid hlit; clear hlit
          go_upto_region 14 with (at_builtin; refine wpList_appendC_at (wr.alloc (.cells #[.int .i64 1] 2)) rfl (.tmp 51) (.tmp 52) _ rfl 2 iI _ 1 8 Tryz.underlying24 hi0 hu0 hu1 hu2 rfl (by decide) rfl (o3.alloc _) (by simp; exact HW8.out) (some ⟨wr.heap.size, 0, none⟩) 1 1 [.int .i64 1] rfl rfl (HLT.out wr) (by simp [Value.oneCell']) (by unfold maxLen; omega) (by omega) ?_; intro A4 c4 w4 o4 hg4 hb4 hat4; have kx4 := (kx.alloc (.cells #[.int .i64 1] 2)).grownT (OwnC.alloc o3 (.cells #[.int .i64 1] 2)) t2 hg4; have v4 := kx4.c3.2.2; have f4 := kx4.frozen 2)
          have hz4 : wr.heap.size + 1 ≤ w4.heap.size := by have := hg4.size; simpa using this
          have kz4 := (kz.alloc (.cells #[.int .i64 1] 2)).grownT (OwnC.alloc o3 (.cells #[.int .i64 1] 2)) t2 hg4
          have o74 : OwnC w4 lo wr.heap.size 2 1 A7 i c7 ((List.replicate i (1 : Int)).map (Value.int .i64)) := hap.kept (OwnC.alloc o7 (.cells #[.int .i64 1] 2)) (by simp) hg4
          have hap4 : Apart A4 A7 := hap.next (OwnC.alloc o7 (.cells #[.int .i64 1] 2)) (by simp) hat4
          have hrow3 : ∀ q, (Value.slice A3 i c3).ownBlock = some q → lo ≤ q := by
            intro q hq
            rcases OwnC.form o3 with ⟨rfl, _⟩ | ⟨g3, _, rfl, h1, _⟩
            · cases hq
            · injection hq with hq
              exact hq ▸ h1
          have hs4 : Sv w4 g AB cB bs (b + 13510798882111488) := (hs.alloc (.cells #[.int .i64 1] 2)).grown hg4 (fun q hq => by have := hrow3 q hq; omega)
          have hgr4 : w.grownBy w4 (some g) := gb_app (gb_al hgr (.cells #[.int .i64 1] 2)) hg4 (fun q hq => by have := hrow3 q hq; omega)
          have o44 : OwnC w4 lo w4.heap.size 2 1 A4 (i + 1) c4 ((List.replicate (i + 1) (1 : Int)).map (Value.int .i64)) := by
            rw [List.replicate_succ', List.map_append]; exact o4
          clear kx kz o3 o7 hap hs hgr s2 f2 hg4 hb4 hat4 o4 hrow3
          obtain ⟨w5, hw5⟩ : ∃ w5, w5 = w4.setCell ⟨gR, 2, none⟩ (.slice A4 (i + 1) c4) := ⟨_, rfl⟩
          have kx5 : Blk w5 gR 26 #[.int .i64 dd, .int .i64 car, .slice A4 (i + 1) c4] := by rw [hw5]; exact kx4.set32 _
          have kz5 : Blk w5 w.heap.size 26 #[.int .i64 0, .int .i64 0, .slice none 0 0] := by rw [hw5]; exact kz4.far (by show w.heap.size ≠ gR; omega) _
          have o45 : OwnC w5 lo w4.heap.size 2 1 A4 (i + 1) c4 ((List.replicate (i + 1) (1 : Int)).map (Value.int .i64)) := by rw [hw5]; exact o44.farT kx4 t2 2 _
          have o75 : OwnC w5 lo wr.heap.size 2 1 A7 i c7 ((List.replicate i (1 : Int)).map (Value.int .i64)) := by rw [hw5]; exact o74.farT kx4 t2 2 _
          have hs5 : Sv w5 g AB cB bs (b + 13510798882111488) := by rw [hw5]; exact hs4.store (by omega) _
          have hgr5 : w.grownBy w5 (some g) := by rw [hw5]; exact gb_set hgr4 (by show w.heap.size ≤ gR; omega) _
          have HZ5 : Hid (w5.heap.size = w4.heap.size) := Lib.hid (by rw [hw5]; simp)
          rw [← hw5]
          clear hw5 kx4 kz4 o44 o74 hs4 hgr4 v4 f4
          have hap5 : Apart A7 A4 := fun a b ha hb e => hap4 b a hb ha e.symm
          have HW9 : Hid (lo ≤ w5.heap.size + 1) := Lib.hid (by have := HZ5.out; omega)
          go_upto_region 15 with (at_builtin; refine wpList_appendC_at (w5.alloc (.cells #[.int .i64 1] 2)) rfl (.tmp 55) (.tmp 56) _ rfl 2 iI _ 1 8 Tryz.underlying24 hi0 hu0 hu1 hu2 rfl (by decide) rfl (o75.alloc _) (by simp; exact HW9.out) (some ⟨w5.heap.size, 0, none⟩) 1 1 [.int .i64 1] rfl rfl (HLT.out w5) (by simp [Value.oneCell']) (by unfold maxLen; omega) (by omega) ?_; intro A6 c6 w6 o6 hg6 hb6 hat6)
          have hz6 : w5.heap.size + 1 ≤ w6.heap.size := by have := hg6.size; simpa using this
          have hz45 := HZ5.out
          have kz6 := (kz5.alloc (.cells #[.int .i64 1] 2)).grownT (OwnC.alloc o75 (.cells #[.int .i64 1] 2)) t2 hg6
          have kx6 := (kx5.alloc (.cells #[.int .i64 1] 2)).grownT (OwnC.alloc o75 (.cells #[.int .i64 1] 2)) t2 hg6
          have o46 : OwnC w6 lo w4.heap.size 2 1 A4 (i + 1) c4 ((List.replicate (i + 1) (1 : Int)).map (Value.int .i64)) := hap5.kept (OwnC.alloc o45 (.cells #[.int .i64 1] 2)) (by simp; omega) hg6
          have hap6 : Apart A6 A4 := hap5.next (OwnC.alloc o45 (.cells #[.int .i64 1] 2)) (by simp; omega) hat6
          have hrow7 : ∀ q, (Value.slice A7 i c7).ownBlock = some q → lo ≤ q := by
            intro q hq
            rcases OwnC.form o75 with ⟨rfl, _⟩ | ⟨g3, _, rfl, h1, _⟩
            · cases hq
            · injection hq with hq
              exact hq ▸ h1
          have hs6 : Sv w6 g AB cB bs (b + 13510798882111488) := (hs5.alloc (.cells #[.int .i64 1] 2)).grown hg6 (fun q hq => by have := hrow7 q hq; omega)
          have hgr6 : w.grownBy w6 (some g) := gb_app (gb_al hgr5 (.cells #[.int .i64 1] 2)) hg6 (fun q hq => by have := hrow7 q hq; omega)
          have o66 : OwnC w6 lo w6.heap.size 2 1 A6 (i + 1) c6 ((List.replicate (i + 1) (1 : Int)).map (Value.int .i64)) := by
            rw [List.replicate_succ', List.map_append]; exact o6
          clear kx5 kz5 o45 o75 hs5 hgr5 hz45 hg6 hb6 hat6 o6 hrow7
          go_wp2_with (fail)
          refine ⟨⟨i + 1, A4, c4, A6, c6, by omega, by go_num, rfl, kz6, kx6, o46.mono (Nat.le_refl _) (by have := HZ5.out; omega), o66, fun a b ha hb e => hap6 b a hb ha e.symm, hs6, hgr6, by have := HZ5.out; omega⟩, by simp [intOf]; omega⟩
        · obtain rfl : i = m := by omega
          have dm : decide ((i : Int) < (i : Int)) = false := decide_eq_false (by omega)
          have s2 := kx.c3
          obtain ⟨y0, y1, y2⟩ := kz.c3
          have g0 := kz.frozen 0
          have g1 := kz.frozen 1
          have g2 := kz.frozen 2
          go_wp2_with (fail)
          have k1 := kz.set30 (.int .i64 dd)
          have k2 := k1.set31 (.int .i64 car)
          have k3 := k2.set32 (.slice A3 i c3)
          obtain ⟨r0, r1, r2⟩ := k3.c3
          have hlr : (List.replicate i (1 : Int)).length = i := List.length_replicate
          refine bodyPost_ret (v := .tuple #[.agg #[.int .i64 dd, .int .i64 car, .slice A3 (List.replicate i (1 : Int)).length c3], .slice A7 i c7]) (by rw [hlr]; simp [results, Tryz.results18, go_sem, r0, r1, r2]) rfl ⟨A3, c3, _, A7, _, c7, rfl, by rw [hlr]; omega, ?_, ?_, ?_⟩
          · show OwnC _ _ _ _ _ _ _ _ _
            rw [hlr]
            exact (((OwnC.farT o3 kz t2 0 _).farT k1 t2 1 _).farT k2 t2 2 _).mono (by omega) (by simp)
          · exact ((hs.store (by omega) _).store (by omega) _).store (by omega) _
          · exact gb_set (gb_set (gb_set hgr (Nat.le_refl _) _) (Nat.le_refl _) _) (Nat.le_refl _) _

end Go.Proofs.YthjamohaeahipaaGreat

/- The draws: sizes; stitches, seldom none; a row knitted by hand. -/
namespace Go.Proofs.YthjamohaeahipaaGreat
open Go Go.RowKit

theorem OwnC.takeN {w : World} {lo hi n c : Nat} {e : TypeId} {A : Option Addr} {cs : List Value} (h : OwnC w lo hi e 1 A n c cs) {k : Nat} (hk : k ≤ n) : OwnC w lo hi e 1 A k c (cs.take k) := by
  rcases h.form with ⟨rfl, rfl, rfl, rfl⟩ | ⟨g, cur, rfl, h1, h2, h3, h4, h5, h6, h7⟩
  · obtain rfl : k = 0 := by omega
    exact OwnC.nil _ _ _ _ _
  · refine ⟨⟨?_, .inr ⟨g, c, cur, rfl, h1, h3, by omega, h5, h6, ?_⟩⟩, fun a ha => by injection ha with ha; subst ha; exact h2⟩
    · have := h.len
      rw [List.length_take]
      omega
    · rw [← h7, List.take_take]
      congr 1
      omega

set_option maxHeartbeats 2000000 in
set_option maxRecDepth 10000 in
theorem spec_l17DrawSizes (w : World) (g : Nat) (AB : Option Addr) (cB : Nat) (bs : List Int) (b : Nat) (hsv : Sv w g AB cB bs b) (hb : b ≤ 1152921504606000000) :
    Calls Tryz.prog 15 #[.pointer (some ⟨g, 0, none⟩)] w fun e w' => ∃ (A' : Option Addr) (c' : Nat) (st : List Int), e = .returned (.slice A' st.length c') ∧ OwnI w' w.heap.size w'.heap.size A' c' st ∧ 1 ≤ st.length ∧ st.length ≤ 7 ∧ Sv w' g AB cB bs (b + 10) ∧ w.grownBy w' (some g) := by
  obtain ⟨iI, hi0, hu0, hu1, hu2⟩ := info_parts info_int64
  have hgw := hsv.lt
  have o1 := (OwnC.lit (w := w) (lo := w.heap.size) (n := 0) 2 1 #[] (Nat.le_refl _) (Nat.zero_le _) rfl).mono (Nat.le_refl _) (show w.heap.size + 1 ≤ (w.alloc (.cells #[] 2)).heap.size by simp)
  obtain ⟨w1, hw1⟩ : ∃ w1, w1 = w.alloc (.cells #[] 2) := ⟨_, rfl⟩
  rw [← hw1] at o1
  have hs1 : Sv w1 g AB cB bs b := by rw [hw1]; exact hsv.alloc _
  have hg1 : w.grownBy w1 (some g) := by rw [hw1]; exact World.grownBy_alloc _ _ _
  go_enter Tryz.func15, Tryz.ntmps15
  go_upto_region 2 with fail
  rw [← hw1]
  clear hw1
  go_wp2_with (fail)
  refine (sv_pick 6 (by decide) hs1 (by omega)).mono ?_
  rintro e w2 ⟨x, rfl, hx0, hx8, hs2, hg2, hz2⟩
  have hgr2 := hg1.trans hg2
  have o2 := OwnC.grownG o1 hg2 (.inl (by omega))
  rw [← hz2] at o2
  clear o1 hs1 hg1 hg2 hz2
  obtain ⟨m, hm⟩ : ∃ m : Nat, 1 + x = (m : Int) := ⟨(1 + x).toNat, by omega⟩
  have hm1 : 1 ≤ m ∧ m ≤ 6 := by omega
  have hwm : IntKind.i64.wrap (1 + x) = (m : Int) := by rw [hm]; exact IntWalk.i64_in _ ⟨by omega, by omega⟩
  clear hm hx0 hx8
  go_wp2_with (fail)
  go_loopw [3, 4] (fun sv kv wr => ∃ (A3 : Option Addr) (c3 : Nat) (st : List Int) (k : Nat), sv = .slice A3 st.length c3 ∧ kv = .int .i64 (k : Int) ∧ st.length + k = m ∧ OwnI wr w.heap.size wr.heap.size A3 c3 st ∧ Sv wr g AB cB bs (b + 1 + st.length) ∧ w.grownBy wr (some g)) (fun _ kv _ => (intOf kv).toNat)
  case atStart => exact ⟨_, 0, [], m, rfl, rfl, by simp, o2, by simpa using hs2, hgr2⟩
  case round =>
    clear o2 hs2 hgr2
    obtain ⟨A3, c3, st, k, rfl, rfl, hsk, o3, hs, hgr⟩ := hrel
    have hzr := hgr.size
    by_cases hk0 : 0 < k
    · have dk : decide ((k : Int) > 0) = true := decide_eq_true (by omega)
      have hst8 : st.length ≤ 8 := by omega
      obtain ⟨wL, hwL⟩ : ∃ wL, wL = wr.alloc (.cells #[.int .i64 1, .int .i64 1, .int .i64 1, .int .i64 2, .int .i64 2, .int .i64 3] 2) := ⟨_, rfl⟩
      have hIL : Ints wL (some ⟨wr.heap.size, 0, none⟩) [1, 1, 1, 2, 2, 3] := by
        rw [hwL]
        exact OwnC.ints (lo := wr.heap.size) (hi := wr.heap.size + 1) (OwnC.lit (w := wr) (lo := wr.heap.size) (n := 6) 2 1 #[.int .i64 1, .int .i64 1, .int .i64 1, .int .i64 2, .int .i64 2, .int .i64 3] (Nat.le_refl _) (by decide) rfl)
      have hsL : Sv wL g AB cB bs (b + 1 + st.length) := by rw [hwL]; exact hs.alloc _
      have hgL : w.grownBy wL (some g) := by rw [hwL]; exact gb_al hgr _
      have oL : OwnI wL w.heap.size wr.heap.size A3 c3 st := by rw [hwL]; exact OwnC.alloc o3 _
      have hzL : wr.heap.size ≤ wL.heap.size := by rw [hwL]; simp
      go_wp2_with (fail)
      rw [← hwL]
      refine (sv_among [1, 1, 1, 2, 2, 3] (some ⟨wr.heap.size, 0, none⟩) 6 (by decide) hsL (by omega) hIL (fun a ha => by injection ha with ha; subst ha; show wr.heap.size ≠ g; omega)).mono ?_
      rintro e w4 ⟨y, rfl, hy, hs4, hg4, hz4⟩
      have hgr4 := hgL.trans hg4
      have o4 := OwnC.grownG oL hg4 (.inl (by omega))
      have hz5 : wr.heap.size ≤ w4.heap.size := by omega
      clear hwL hIL hsL hgL oL hzL hg4 hz4 o3 hs hgr hzr hy
      have hzw := hgr4.size
      have e1 : (k : Int) - 1 = ((k - 1 : Nat) : Int) := by omega
      have wk : IntKind.i64.wrap ((k : Int) - 1) = ((k - 1 : Nat) : Int) := by rw [e1]; exact IntWalk.i64_in _ ⟨by omega, by omega⟩
      clear e1
      go_wp2_with (at_builtin; refine wpList_append1 w4 [.int .i64 y] _ rfl (.tmp 13) (.tmp 17) _ rfl 2 iI _ 1 8 Tryz.underlying24 hi0 hu0 hu1 hu2 rfl (by decide) rfl o4 hzw 1 rfl rfl (by simp [Value.oneCell']) (by omega) (by decide) ?_; intro A9 c9 w8 ho8 hg8 hb8 hz8)
      refine ⟨⟨A9, c9, st ++ [y], k - 1, by simp, rfl, by simp; omega, ?_, ?_, ?_⟩, by simp [intOf]; omega⟩
      · show OwnC _ _ _ _ _ _ _ _ _
        rw [List.map_append, List.length_append]
        exact ho8
      · have h1 : Sv w8 g AB cB bs (b + 1 + st.length + 1) := hs4.keep fun q hq => hb8.block q (by omega)
        exact h1.mono (by simp; omega)
      · exact ⟨hb8.os.trans hgr4.os, hb8.tape.trans hgr4.tape, hb8.output.trans hgr4.output, Nat.le_trans hgr4.size hb8.size, fun q hq hne => (hb8.block q (by omega)).trans (hgr4.block q hq hne)⟩
    · have dk : decide ((k : Int) > 0) = false := decide_eq_false (by omega)
      have hlm : st.length = m := by omega
      have HLM := Lib.hid hlm; clear hlm
      go_wp2_with (fail)
      refine (sv_one 16 (by decide) hs (by omega)).mono ?_
      rintro e w4 ⟨z, rfl, hs4, hg4, hz4⟩
      have hgr4 := hgr.trans hg4
      have o4 := OwnC.grownG o3 hg4 (.inl (by omega))
      have HZ4 := Lib.hid hz4
      clear hz4 o3 hs hgr hg4
      cases z
      · go_wp2_with (fail)
        go_ret
        have := HLM.out
        exact ⟨A3, c3, st, rfl, OwnC.mono o4 (Nat.le_refl _) (by have := HZ4.out; omega), by omega, by omega, hs4.mono (by omega), hgr4⟩
      · obtain ⟨wL, hwL⟩ : ∃ wL, wL = w4.alloc (.cells #[.int .i64 0, .int .i64 4, .int .i64 5, .int .i64 (-1)] 2) := ⟨_, rfl⟩
        have hIL : Ints wL (some ⟨w4.heap.size, 0, none⟩) [0, 4, 5, -1] := by
          rw [hwL]
          exact OwnC.ints (lo := w4.heap.size) (hi := w4.heap.size + 1) (OwnC.lit (w := w4) (lo := w4.heap.size) (n := 4) 2 1 #[.int .i64 0, .int .i64 4, .int .i64 5, .int .i64 (-1)] (Nat.le_refl _) (by decide) rfl)
        have hsL : Sv wL g AB cB bs (b + 1 + st.length + 1) := by rw [hwL]; exact hs4.alloc _
        have hgL : w.grownBy wL (some g) := by rw [hwL]; exact gb_al hgr4 _
        have oL : OwnI wL w.heap.size wr.heap.size A3 c3 st := by rw [hwL]; exact OwnC.alloc o4 _
        have hzL : w4.heap.size ≤ wL.heap.size := by rw [hwL]; simp
        have hzw4 := hgr4.size
        go_wp2_with (fail)
        rw [← hwL]
        refine (sv_among [0, 4, 5, -1] (some ⟨w4.heap.size, 0, none⟩) 4 (by decide) hsL (by omega) hIL (fun a ha => by injection ha with ha; subst ha; show w4.heap.size ≠ g; omega)).mono ?_
        rintro e w5 ⟨y, rfl, hy, hs5, hg5, hz5⟩
        have hgr5 := hgL.trans hg5
        have o5 := OwnC.grownG oL hg5 (.inl (by omega))
        have HZ5 : Hid (wr.heap.size ≤ w5.heap.size) := Lib.hid (by have := HZ4.out; omega)
        clear hwL hIL hsL hgL oL hzL hg5 hz5 o4 hs4 hgr4 hzr hy hzw4
        have hzw := hgr5.size
        have hst8 : st.length ≤ 8 := by have := HLM.out; omega
        go_wp2_with (at_builtin; refine wpList_append1 w5 [.int .i64 y] _ rfl (.tmp 21) (.tmp 25) _ rfl 2 iI _ 1 8 Tryz.underlying24 hi0 hu0 hu1 hu2 rfl (by decide) rfl o5 hzw 1 rfl rfl (by simp [Value.oneCell']) (by omega) (by decide) ?_; intro A9 c9 w8 ho8 hg8 hb8 hz8)
        go_ret
        have hlm := HLM.out
        refine ⟨A9, c9, st ++ [y], by simp, ?_, by simp, by simp; omega, ?_, ?_⟩
        · show OwnC _ _ _ _ _ _ _ _ _
          rw [List.map_append, List.length_append]
          exact ho8
        · have h1 : Sv w8 g AB cB bs (b + 1 + st.length + 1 + 1) := hs5.keep fun q hq => hb8.block q (by omega)
          exact h1.mono (by omega)
        · exact ⟨hb8.os.trans hgr5.os, hb8.tape.trans hgr5.tape, hb8.output.trans hgr5.output, Nat.le_trans hgr5.size hb8.size, fun q hq hne => (hb8.block q (by omega)).trans (hgr5.block q hq hne)⟩

set_option maxHeartbeats 2000000 in
set_option maxRecDepth 10000 in
theorem spec_l14Bent (m : Nat) (hm : m ≤ 8) (w : World) (g : Nat) (AB : Option Addr) (cB : Nat) (bs : List Int) (b : Nat) (hsv : Sv w g AB cB bs b) (hb : b ≤ 288230376151711744) :
    Calls Tryz.prog 17 #[.pointer (some ⟨g, 0, none⟩), .int .i64 (m : Int)] w fun e w' => ∃ (A' : Option Addr) (c' : Nat) (out : List Int), e = .returned (.slice A' out.length c') ∧ OwnI w' w.heap.size w'.heap.size A' c' out ∧ out.length ≤ 18 ∧ Sv w' g AB cB bs (b + 4503599627370500) ∧ w.grownBy w' (some g) := by
  obtain ⟨iI, hi0, hu0, hu1, hu2⟩ := info_parts info_int64
  have hgw := hsv.lt
  go_enter Tryz.func17, Tryz.ntmps17
  go_wp2_with (fail)
  refine (sv_draw14 m hm hsv (by omega)).mono ?_
  rintro e w2 ⟨A2, c2, ks, rfl, o2, hks, _, hs2, hg2⟩
  have hl16 := (stitchesB_of hks).1
  clear hks
  have hz2 := hg2.size
  go_wp2_with (fail)
  refine (sv_pick 14 (by decide) hs2 (by omega)).mono ?_
  rintro e w3 ⟨x, rfl, hx0, _, hs3, hg3, hz3⟩
  have hgr3 := hg2.trans hg3
  have o3 : OwnI w3 w.heap.size w2.heap.size A2 c2 ks := OwnC.grownG o2 hg3 (.inl (by omega))
  have HZ3 := Lib.hid hz3
  clear o2 hs2 hg2 hg3 hz3
  by_cases h0 : x = 0
  · have d0 : (x == 0) = true := by simp [h0]
    clear h0
    go_wp2_with (fail)
    refine (sv_pick 14 (by decide) hs3 (by omega)).mono ?_
    rintro e w4 ⟨y, rfl, hy0, hy1, hs4, hg4, hz4⟩
    have hgr4 := hgr3.trans hg4
    have o4 : OwnI w4 w.heap.size w2.heap.size A2 c2 ks := OwnC.grownG o3 hg4 (.inl (by omega))
    have HZ4 := Lib.hid hz4
    clear hz4
    have hzw := hgr4.size
    have wy : IntKind.i64.wrap (y - 1) = y - 1 := IntWalk.i64_in _ ⟨by omega, by omega⟩
    go_wp2_with (at_builtin; refine wpList_append1 w4 [.int .i64 (y - 1)] _ rfl (.tmp 13) (.tmp 17) _ rfl 2 iI _ 1 8 Tryz.underlying24 hi0 hu0 hu1 hu2 rfl (by decide) rfl o4 hzw 1 rfl rfl (by simp [Value.oneCell']) (by omega) (by decide) ?_; intro A9 c9 w8 ho8 hg8 hb8 hz8)
    go_ret
    refine ⟨A9, c9, ks ++ [y - 1], by simp, ?_, by simp; omega, ?_, ?_⟩
    · show OwnC _ _ _ _ _ _ _ _ _
      rw [List.map_append, List.length_append]
      exact ho8
    · have h1 : Sv w8 g AB cB bs (b + 4503599627370496 + 1 + 1) := hs4.keep fun q hq => hb8.block q (by have := HZ3.out; have := HZ4.out; omega)
      exact h1.mono (by omega)
    · exact ⟨hb8.os.trans hgr4.os, hb8.tape.trans hgr4.tape, hb8.output.trans hgr4.output, Nat.le_trans hgr4.size hb8.size, fun q hq hne => (hb8.block q (by omega)).trans (hgr4.block q hq hne)⟩
  · have d0 : (x == 0) = false := by simpa using h0
    have hzw := hgr3.size
    by_cases h1 : x = 1
    · have d1 : (x == 1) = true := by simp [h1]
      clear h0 h1
      have hlit : ∀ (j : Nat) (u : Value), ([.int .i64 1, .int .i64 1] : List Value)[j]? = some u → ∃ b off, (some ⟨w3.heap.size, 0, none⟩ : Option Addr) = some ⟨b, off, none⟩ ∧ (w3.alloc (.cells #[.int .i64 1, .int .i64 1] 2)).cell? ⟨b, off + j, none⟩ = some u := by
        intro j u hj
        refine ⟨w3.heap.size, 0, rfl, ?_⟩
        rw [Nat.zero_add, (Blk.new w3 2 #[.int .i64 1, .int .i64 1]).cell j]
        simpa using hj
      have HLT := Lib.hid hlit; clear hlit
      go_wp2_with (at_builtin; refine wpList_appendC (w3.alloc (.cells #[.int .i64 1, .int .i64 1] 2)) rfl (.tmp 21) (.tmp 22) _ rfl 2 iI _ 1 8 Tryz.underlying24 hi0 hu0 hu1 hu2 rfl (by decide) rfl (OwnC.alloc o3 _) (by simp; omega) (some ⟨w3.heap.size, 0, none⟩) 2 2 [.int .i64 1, .int .i64 1] rfl rfl HLT.out (by simp [Value.oneCell']) (by unfold maxLen; omega) (by omega) ?_; intro A9 c9 w8 ho8 hg8 hb8)
      go_ret
      have hb8' : Below w.heap.size w3 w8 := Below.trans ((Below.refl _ _).alloc hzw _) hb8
      have hrow : ∀ q, (Value.slice A2 ks.length c2).ownBlock = some q → w.heap.size ≤ q := by
        intro q hq
        rcases OwnC.form o3 with ⟨rfl, _⟩ | ⟨g3, _, rfl, h1, _⟩
        · cases hq
        · injection hq with hq
          exact hq ▸ h1
      refine ⟨A9, c9, ks ++ [1, 1], by simp, ?_, by simp; omega, ?_, ?_⟩
      · show OwnC _ _ _ _ _ _ _ _ _
        rw [List.map_append, List.length_append]
        exact ho8
      · have h1 : Sv w8 g AB cB bs (b + 4503599627370496 + 1) := hs3.keep fun q hq => hb8'.block q (by omega)
        exact h1.mono (by omega)
      · exact ⟨hb8'.os.trans hgr3.os, hb8'.tape.trans hgr3.tape, hb8'.output.trans hgr3.output, Nat.le_trans hgr3.size hb8'.size, fun q hq hne => (hb8'.block q (by omega)).trans (hgr3.block q hq hne)⟩
    · have d1 : (x == 1) = false := by simpa using h1
      by_cases h2 : x = 2
      · have d2 : (x == 2) = true := by simp [h2]
        clear h0 h1 h2
        go_wp2_with (fail)
        go_loopw [5] (fun ov wr => ∃ (A3 : Option Addr) (c3 : Nat) (st : List Int), ov = .slice A3 st.length c3 ∧ st.length ≤ 17 ∧ OwnI wr w.heap.size wr.heap.size A3 c3 st ∧ Sv wr g AB cB bs (b + 4503599627370496 + 1) ∧ w.grownBy wr (some g)) (fun ov _ => 17 - lenOV ov)
        case atStart => exact ⟨A2, c2, ks, rfl, by omega, OwnC.mono o3 (Nat.le_refl _) (by have := HZ3.out; omega), hs3, hgr3⟩
        case round =>
          clear o3 hs3 hgr3 hzw
          obtain ⟨A3, c3, st, rfl, hl, o3, hs, hgr⟩ := hrel
          have hzw := hgr.size
          by_cases hl17 : st.length ≤ 16
          · have dl : decide ((st.length : Int) ≤ 16) = true := decide_eq_true (by omega)
            go_wp2_with (at_builtin; refine wpList_append1 wr [.int .i64 3] _ rfl (.tmp 29) (.tmp 30) _ rfl 2 iI _ 1 8 Tryz.underlying24 hi0 hu0 hu1 hu2 rfl (by decide) rfl o3 hzw 1 rfl rfl (by simp [Value.oneCell']) (by omega) (by decide) ?_; intro A9 c9 w8 ho8 hg8 hb8 hz8)
            refine ⟨⟨A9, c9, st ++ [3], by simp, by simp; omega, ?_, ?_, ?_⟩, by simp [lenOV]; omega⟩
            · show OwnC _ _ _ _ _ _ _ _ _
              rw [List.map_append, List.length_append]
              exact ho8
            · exact hs.keep fun q hq => hb8.block q (by omega)
            · exact ⟨hb8.os.trans hgr.os, hb8.tape.trans hgr.tape, hb8.output.trans hgr.output, Nat.le_trans hgr.size hb8.size, fun q hq hne => (hb8.block q (by omega)).trans (hgr.block q hq hne)⟩
          · have dl : decide ((st.length : Int) ≤ 16) = false := decide_eq_false (by omega)
            have hcap := OwnC.cap o3
            go_wp2_with (fail)
            refine (sv_pick 2 (by decide) hs (by omega)).mono ?_
            rintro e w4 ⟨y, rfl, hy0, hy1, hs4, hg4, hz4⟩
            have hgr4 := hgr.trans hg4
            have o4 : OwnI w4 w.heap.size wr.heap.size A3 c3 st := OwnC.grownG o3 hg4 (.inl (by omega))
            have HZ4 := Lib.hid hz4
            clear hz4 o3 hs hgr hg4
            obtain ⟨n, hn⟩ : ∃ n : Nat, 16 + y = (n : Int) := ⟨(16 + y).toNat, by omega⟩
            have wn : IntKind.i64.wrap (16 + y) = (n : Int) := by rw [hn]; exact IntWalk.i64_in _ ⟨by omega, by omega⟩
            have hn17 : n ≤ st.length := by omega
            have hn0 : 16 ≤ n := by omega
            clear hn hy0 hy1
            have u1 : (0 : Int) ≤ (n : Int) := by omega
            have u2 : (n : Int) ≤ (c3 : Int) := by omega
            have u3 : n ≤ c3 := by omega
            have hno : ∃ b off, A3 = some ⟨b, off, none⟩ := by
              rcases OwnC.form o4 with ⟨_, h1, _⟩ | ⟨q, _, h1, _⟩
              · omega
              · exact ⟨q, 0, h1⟩
            obtain ⟨b3, off3, rfl⟩ := hno
            go_wp2_with (fail)
            go_ret
            have o5 := OwnC.takeN o4 hn17
            have hlt : (st.take n).length = n := by rw [List.length_take]; omega
            refine ⟨_, _, st.take n, by rw [hlt]; rfl, ?_, by omega, hs4.mono (by omega), hgr4⟩
            show OwnC _ _ _ _ _ _ _ _ _
            rw [hlt, List.map_take]
            exact o5.mono (Nat.le_refl _) (by have := HZ4.out; omega)
      · have d2 : (x == 2) = false := by simpa using h2
        go_wp2_with (fail)
        go_ret
        exact ⟨A2, c2, ks, rfl, OwnC.mono o3 (Nat.le_refl _) (by have := HZ3.out; omega), by omega, hs3.mono (by omega), hgr3⟩

end Go.Proofs.YthjamohaeahipaaGreat

/- Slices of Event: how they are read and owned, and the helpers of the laws on them. -/
namespace Go.Proofs.YthjamohaeahipaaGreat
open Go.RowKit

structure EventD where
  kind : Int
  place : Int
  count : Int
  bed : Int
  carrier : Int
  dir : Int
instance : DecidableEq EventD := fun a b => decidable_of_iff (a.kind = b.kind ∧ a.place = b.place ∧ a.count = b.count ∧ a.bed = b.bed ∧ a.carrier = b.carrier ∧ a.dir = b.dir) ⟨fun h => by cases a; cases b; simp_all, fun h => by simp [h]⟩
def cellsEvent : List EventD → List Value
  | [] => []
  | p :: ps => .int .i64 p.kind :: .int .i64 p.place :: .int .i64 p.count :: .int .i64 p.bed :: .int .i64 p.carrier :: .int .i64 p.dir :: cellsEvent ps

theorem cellsEvent_length (ps : List EventD) : (cellsEvent ps).length = ps.length * 6 := by
  induction ps with
  | nil => rfl
  | cons p ps ih => simp [cellsEvent, ih]; omega
theorem cellsEvent_snoc (ps : List EventD) (p : EventD) : cellsEvent (ps ++ [p]) = cellsEvent ps ++ [.int .i64 p.kind, .int .i64 p.place, .int .i64 p.count, .int .i64 p.bed, .int .i64 p.carrier, .int .i64 p.dir] := by
  induction ps with
  | nil => rfl
  | cons q ps ih => simp [cellsEvent, ih]
theorem cellsEvent_at {ps : List EventD} {i : Nat} {p : EventD} (h : ps[i]? = some p) : (cellsEvent ps)[i * 6]? = some (.int .i64 p.kind) ∧ (cellsEvent ps)[i * 6 + 1]? = some (.int .i64 p.place) ∧ (cellsEvent ps)[i * 6 + 2]? = some (.int .i64 p.count) ∧ (cellsEvent ps)[i * 6 + 3]? = some (.int .i64 p.bed) ∧ (cellsEvent ps)[i * 6 + 4]? = some (.int .i64 p.carrier) ∧ (cellsEvent ps)[i * 6 + 5]? = some (.int .i64 p.dir) := by
  induction ps generalizing i with
  | nil => simp at h
  | cons q ps ih =>
    cases i with
    | zero =>
      simp at h
      subst h
      simp [cellsEvent]
    | succ i =>
      have := ih (i := i) (by simpa using h)
      simp only [Nat.succ_mul, cellsEvent]
      simpa [Nat.add_right_comm] using this
def Events (w : World) (A : Option Addr) (ps : List EventD) : Prop :=
  ∀ k, k < ps.length → ∃ b off p, A = some ⟨b, off, none⟩ ∧ ps[k]? = some p ∧ w.cell? ⟨b, off + k * 6, none⟩ = some (.int .i64 p.kind) ∧ w.cell? ⟨b, off + k * 6 + 1, none⟩ = some (.int .i64 p.place) ∧ w.cell? ⟨b, off + k * 6 + 2, none⟩ = some (.int .i64 p.count) ∧ w.cell? ⟨b, off + k * 6 + 3, none⟩ = some (.int .i64 p.bed) ∧ w.cell? ⟨b, off + k * 6 + 4, none⟩ = some (.int .i64 p.carrier) ∧ w.cell? ⟨b, off + k * 6 + 5, none⟩ = some (.int .i64 p.dir)
theorem Events.of_cells {w w' : World} {A : Option Addr} {ps : List EventD} (h : Events w A ps) (hk : ∀ a v, w.cell? a = some v → w'.cell? a = some v) : Events w' A ps :=
  fun k hk' => by
    obtain ⟨b, off, p, hA, hp, h0, h1, h2, h3, h4, h5⟩ := h k hk'
    exact ⟨b, off, p, hA, hp, hk _ _ h0, hk _ _ h1, hk _ _ h2, hk _ _ h3, hk _ _ h4, hk _ _ h5⟩
theorem Events.below {w w' : World} {A : Option Addr} {ps : List EventD} (h : Events w A ps) (hb : Below w.heap.size w w') : Events w' A ps := h.of_cells (cells_below hb)
theorem Events.drewN {w : World} {A : Option Addr} {ps : List EventD} (h : Events w A ps) (n : Nat) : Events (w.drewN n) A ps := h
theorem Events.nil {w : World} {A : Option Addr} : Events w A [] := fun k hk => by simp at hk

/-- A slice of Event that is the call's own. -/
abbrev OwnEvent (w : World) (lo hi : Nat) (A : Option Addr) (c : Nat) (ps : List EventD) : Prop := OwnC w lo hi 40 6 A ps.length c (cellsEvent ps)
theorem OwnC.events {w : World} {lo hi n : Nat} {A : Option Addr} {c : Nat} {ps : List EventD} (h : OwnC w lo hi 40 6 A n c (cellsEvent ps)) : Events w A ps := by
  intro k hk
  have hp : ps[k]? = some ps[k] := List.getElem?_eq_getElem hk
  obtain ⟨e0, e1, e2, e3, e4, e5⟩ := cellsEvent_at hp
  have hl := cellsEvent_length ps
  have hk3 : k * 6 + 5 < ps.length * 6 := by omega
  obtain ⟨g0, hA0, _, _, c0, _⟩ := h.cell (j := k * 6) (by omega)
  rw [List.getElem?_eq_getElem (by omega)] at e0
  injection e0 with e0
  rw [e0] at c0
  subst hA0
  obtain ⟨g1, hA1, _, _, c1, _⟩ := h.cell (j := k * 6 + 1) (by omega)
  rw [List.getElem?_eq_getElem (by omega)] at e1
  injection e1 with e1
  rw [e1] at c1
  injection hA1 with hA1
  injection hA1 with hA1
  subst hA1
  obtain ⟨g2, hA2, _, _, c2, _⟩ := h.cell (j := k * 6 + 2) (by omega)
  rw [List.getElem?_eq_getElem (by omega)] at e2
  injection e2 with e2
  rw [e2] at c2
  injection hA2 with hA2
  injection hA2 with hA2
  subst hA2
  obtain ⟨g3, hA3, _, _, c3, _⟩ := h.cell (j := k * 6 + 3) (by omega)
  rw [List.getElem?_eq_getElem (by omega)] at e3
  injection e3 with e3
  rw [e3] at c3
  injection hA3 with hA3
  injection hA3 with hA3
  subst hA3
  obtain ⟨g4, hA4, _, _, c4, _⟩ := h.cell (j := k * 6 + 4) (by omega)
  rw [List.getElem?_eq_getElem (by omega)] at e4
  injection e4 with e4
  rw [e4] at c4
  injection hA4 with hA4
  injection hA4 with hA4
  subst hA4
  obtain ⟨g5, hA5, _, _, c5, _⟩ := h.cell (j := k * 6 + 5) (by omega)
  rw [List.getElem?_eq_getElem (by omega)] at e5
  injection e5 with e5
  rw [e5] at c5
  injection hA5 with hA5
  injection hA5 with hA5
  subst hA5
  exact ⟨g0, 0, ps[k], rfl, hp, by simpa using c0, by simpa using c1, by simpa using c2, by simpa using c3, by simpa using c4, by simpa using c5⟩
theorem info_Event : (Tryz.prog.info? 40).map (fun i => (i.zero, i.size, i.bytes)) = some (some (.agg #[.int .i64 0, .int .i64 0, .int .i64 0, .int .i64 0, .int .i64 0, .int .i64 0]), 6, 48) := by kernel_rfl

def marksEvent (k : Int) (m : Nat) : List EventD := (List.range m).map fun (i : Nat) => ⟨k + 6 * i, k + 6 * i + 1, k + 6 * i + 2, k + 6 * i + 3, k + 6 * i + 4, k + 6 * i + 5⟩
theorem marksEvent_length (k : Int) (m : Nat) : (marksEvent k m).length = m := by simp [marksEvent]
theorem marksEvent_snoc (k : Int) (m : Nat) : marksEvent k (m + 1) = marksEvent k m ++ [⟨k + 6 * m, k + 6 * m + 1, k + 6 * m + 2, k + 6 * m + 3, k + 6 * m + 4, k + 6 * m + 5⟩] := by simp [marksEvent, List.range_succ]
theorem marksEvent_at {k : Int} {m i : Nat} {p : EventD} (h : (marksEvent k m)[i]? = some p) : p = ⟨k + 6 * i, k + 6 * i + 1, k + 6 * i + 2, k + 6 * i + 3, k + 6 * i + 4, k + 6 * i + 5⟩ := by
  simp only [marksEvent, List.getElem?_map, Option.map_eq_some_iff] at h
  obtain ⟨j, hj, rfl⟩ := h
  obtain ⟨hl, he⟩ := List.getElem?_eq_some_iff.1 hj
  simp at he
  subst he
  rfl


end Go.Proofs.YthjamohaeahipaaGreat

/- The order of the yarn. -/
namespace Go.Proofs.YthjamohaeahipaaGreat
open Go.RowKit

def idI (n : Nat) : List Int := (List.range n).map fun (i : Nat) => (i : Int)
theorem idI_length (n : Nat) : (idI n).length = n := by simp [idI]
theorem idI_at {n k : Nat} (h : k < n) : (idI n)[k]? = some (k : Int) := by simp [idI, List.getElem?_range h]
theorem idI_snoc (n : Nat) : idI (n + 1) = idI n ++ [(n : Int)] := by simp [idI, List.range_succ]
def orderP (d : Int) (n : Nat) : List Int := if d = 1 then idI n else (idI n).reverse
theorem orderP_length (d : Int) (n : Nat) : (orderP d n).length = n := by unfold orderP; split <;> simp [idI_length]
theorem orderP_at1 {n k : Nat} (h : k < n) : (orderP 1 n)[k]? = some (k : Int) := idI_at h
theorem orderP_at2 {d : Int} {n k : Nat} (hd : d ≠ 1) (h : k < n) : (orderP d n)[k]? = some ((n : Int) - 1 - k) := by
  unfold orderP
  rw [if_neg hd, List.getElem?_reverse (by rw [idI_length]; exact h), idI_length, idI_at (by omega)]
  congr 1
  omega
def yarnP (d r : Int) (xs : List Int) : List Int := if rowB d r xs then orderP d xs.length else []
theorem yarnP_length (d r : Int) (xs : List Int) : (yarnP d r xs).length ≤ 16 := by
  unfold yarnP
  split
  · rename_i h
    rw [orderP_length]
    unfold rowB stitchesB at h
    simp at h
    omega
  · simp

set_option maxHeartbeats 1000000 in
theorem impl_identityY (n : Nat) (w : World) (hl : n ≤ 1000000) :
    Calls Tryz.prog 75 #[.int .i64 n] w fun e w' => ∃ A' c', e = .returned (.slice A' n c') ∧ OwnC w' w.heap.size w'.heap.size 2 1 A' n c' ((idI n).map (Value.int .i64)) ∧ Below w.heap.size w w' := by
  obtain ⟨i0, hi0, hz0, hz1, hz2⟩ := info_parts info_int64
  go_enter Tryz.func75, Tryz.ntmps75
  go_wp2_with (refine wpList_make_full _ rfl (.tmp 5) (.tmp 5) _ rfl w.heap.size 2 i0 _ 1 Tryz.underlying24 hi0 hz0 hz1 .i64 .i64 _ _ n rfl rfl rfl rfl (by rw [hz2]; omega) (by unfold maxLen; omega) (Nat.le_refl _) ?_; intro w1 hown hg)
  have hb1 : Below w.heap.size w w1 := (Below.refl _ _).grown hg (Nat.le_refl _) (by simp)
  go_loopw [9] (fun i wr => ∃ (k : Nat) (cs : List Value), k ≤ n ∧ i = .int .i64 k ∧ OwnC wr w.heap.size wr.heap.size 2 1 (some ⟨w.heap.size, 0, none⟩) n n cs ∧ cs.take k = (idI k).map (Value.int .i64) ∧ Below w.heap.size w wr) (fun i _ => n - (intOf i).toNat)
  case atStart => exact ⟨0, _, Nat.zero_le _, rfl, OwnC.of_own hown (Nat.le_refl _), by simp [idI], hb1⟩
  case round =>
    clear hown hg hb1
    obtain ⟨k, cs, hk, rfl, ho, htk, hb⟩ := hrel
    have hcl : cs.length = n * 1 := ho.len
    have HT := Lib.hid htk; clear htk
    have HC := Lib.hid hcl; clear hcl
    by_cases hlt : k < n
    · obtain ⟨_, hA0, _, _, q0, f0⟩ := ho.cell (j := k) (by rw [HC.out]; omega)
      injection hA0 with hA0
      injection hA0 with hA0
      subst hA0
      go_wp2_with (fail)
      go_roundw
      case rel =>
        refine ⟨k + 1, cs.set k (.int .i64 k), by omega, by go_num, ((ho.store _).1).mono (Nat.le_refl _) (by simp), ?_, by (repeat (first | exact Below.refl _ _ | assumption | apply Below.drew | apply below_drewN | (refine Below.alloc ?_ (by first | omega | (simp; done) | (simp; omega)) _) | (refine Below.setCell ?_ (by first | omega | (simp; done) | (simp; omega)) _)))⟩
        rw [take_set_succ _ _ _ (by rw [HC.out]; omega), HT.out, idI_snoc]
        simp
      case measure => simp [intOf]; omega
    · go_wp2_with (fail)
      go_ret
      have : k = n := by omega
      subst this
      have e : cs = (idI k).map (Value.int .i64) := by
        have := HT.out
        rwa [take_all (by rw [HC.out]; omega)] at this
      subst e
      exact ⟨_, _, rfl, ho, hb⟩

theorem swap_at {xs ds : List Int} {i : Nat} (hl : ds.length = xs.length) (h : ∀ k, k < xs.length → ds[k]? = if k < i ∨ xs.length - i ≤ k then xs.reverse[k]? else xs[k]?) (hi : 2 * i + 1 < xs.length) {x y : Int}
    (hx : ds[i]? = some x) (hy : ds[xs.length - 1 - i]? = some y) :
    ∀ k, k < xs.length → ((ds.set i y).set (xs.length - 1 - i) x)[k]? = if k < i + 1 ∨ xs.length - (i + 1) ≤ k then xs.reverse[k]? else xs[k]? := by
  intro k hk
  have ex := h i (by omega)
  rw [if_neg (by omega), hx] at ex
  have ey := h (xs.length - 1 - i) (by omega)
  rw [if_neg (by omega), hy] at ey
  by_cases h1 : k = xs.length - 1 - i
  · subst h1
    rw [List.getElem?_set_self (by simp; omega), if_pos (by omega), List.getElem?_reverse (by omega), ex]
    congr 1
    omega
  · by_cases h2 : k = i
    · subst h2
      rw [List.getElem?_set_ne (by omega), List.getElem?_set_self (by omega), if_pos (by omega), List.getElem?_reverse (by omega), ey]
    · rw [List.getElem?_set_ne (by omega), List.getElem?_set_ne (by omega), h k hk]
      by_cases h3 : k < i ∨ xs.length - i ≤ k
      · rw [if_pos h3, if_pos (by omega)]
      · rw [if_neg h3, if_neg (by omega)]
theorem swap_end {xs ds : List Int} {i : Nat} (hl : ds.length = xs.length) (h : ∀ k, k < xs.length → ds[k]? = if k < i ∨ xs.length - i ≤ k then xs.reverse[k]? else xs[k]?) (hi : xs.length ≤ 2 * i + 1) : ds = xs.reverse := by
  apply List.ext_getElem?
  intro k
  by_cases hk : k < xs.length
  · rw [h k hk]
    split
    · rfl
    · rw [List.getElem?_reverse hk]
      congr 1
      omega
  · rw [List.getElem?_eq_none (by omega), List.getElem?_eq_none (by simp; omega)]

set_option maxHeartbeats 1000000 in
theorem slices_ReverseY (A : Option Addr) (c : Nat) (xs : List Int) (lo hi : Nat) (w : World) (h : OwnI w lo hi A c xs) (hl : xs.length ≤ 1000000) :
    Calls Tryz.prog 76 #[.slice A xs.length c] w fun e w' => e = .returned (.tuple #[]) ∧ OwnC w' lo hi 2 1 A xs.length c (xs.reverse.map (Value.int .i64)) ∧ Upd lo hi w w' := by
  go_enter Tryz.func76, Tryz.ntmps76
  go_wp2_with (fail)
  go_loopw [2, 3] (fun iv jv wr => ∃ (i : Nat) (ds : List Int), 2 * i ≤ xs.length + 1 ∧ iv = .int .i64 i ∧ jv = .int .i64 ((xs.length : Int) - 1 - i) ∧ OwnC wr lo hi 2 1 A xs.length c (ds.map (Value.int .i64)) ∧ ds.length = xs.length ∧ (∀ k, k < xs.length → ds[k]? = if k < i ∨ xs.length - i ≤ k then xs.reverse[k]? else xs[k]?) ∧ Upd lo hi w wr) (fun iv _ _ => xs.length - (intOf iv).toNat)
  case atStart => exact ⟨0, xs, by omega, rfl, by simp, h, rfl, fun k hk => by rw [if_neg (by omega)], Upd.refl _ _ _⟩
  case round =>
    clear h
    obtain ⟨i, ds, hi2, rfl, rfl, ho, hdl, hds, hu⟩ := hrel
    have HD := Lib.hid hdl; clear hdl
    have HS := Lib.hid hds; clear hds
    by_cases hlt : (i : Int) < (xs.length : Int) - 1 - i
    · obtain ⟨j, hj⟩ : ∃ j : Nat, j = xs.length - 1 - i := ⟨_, rfl⟩
      have hjn : (xs.length : Int) - 1 - i = (j : Int) := by omega
      have hxi : ds[i]? = some (ds[i]'(by rw [HD.out]; omega)) := List.getElem?_eq_getElem _
      have hyj : ds[j]? = some (ds[j]'(by rw [HD.out]; omega)) := List.getElem?_eq_getElem _
      generalize (ds[i]'(by rw [HD.out]; omega)) = x at hxi
      generalize (ds[j]'(by rw [HD.out]; omega)) = y at hyj
      obtain ⟨g, rfl, hg1, hg2, q0, f0⟩ := ho.cell (j := i) (by simp [HD.out]; omega)
      obtain ⟨_, hA, _, _, q1, f1⟩ := ho.cell (j := j) (by simp [HD.out]; omega)
      injection hA with hA
      injection hA with hA
      subst hA
      have e0 : (ds.map (Value.int .i64))[i]? = some (.int .i64 x) := by simp [hxi]
      have e1 : (ds.map (Value.int .i64))[j]? = some (.int .i64 y) := by simp [hyj]
      rw [List.getElem?_eq_getElem (by simp [HD.out]; omega)] at e0 e1
      injection e0 with e0
      injection e1 with e1
      rw [e0] at q0
      rw [e1] at q1
      clear e0 e1
      have HX := Lib.hid hxi; clear hxi
      have HY := Lib.hid hyj; clear hyj
      have HJ := Lib.hid hj; clear hj
      rw [hjn]
      have HJN := Lib.hid hjn; clear hjn
      have hij : i < j := by have := HJ.out; omega
      have hjl : j < xs.length := by have := HJ.out; omega
      go_wp2_with (fail)
      go_region
      go_wp2_with (fail)
      refine ⟨⟨i + 1, (ds.set i y).set j x, by omega, by go_num, int_eq (by have := HJN.out; omega), ?_, by simp [HD.out], ?_, ?_⟩, by simp [intOf]; omega⟩
      · have h2 := ((ho.store (j := i) (.int .i64 y)).1.store (j := j) (.int .i64 x)).1
        rw [List.map_set, List.map_set]
        exact h2.drewN 1
      · have hJ := HJ.out
        have hY := HY.out
        rw [hJ] at hY ⊢
        exact swap_at HD.out HS.out (by omega) HX.out hY
      · exact Upd.drewN ((hu.setCell hg1 hg2 _).setCell hg1 hg2 _) 1
    · go_wp2_with (fail)
      go_end0
      have e := swap_end HD.out HS.out (by omega)
      subst e
      exact ⟨rfl, by rw [← List.map_reverse]; exact ho, hu⟩

set_option maxHeartbeats 1000000 in
theorem impl_orderY (d r : Int) (A : Option Addr) (c : Nat) (xs : List Int) (w : World) (hl : xs.length ≤ 1000000) (hd : dirB d = true) :
    Calls Tryz.prog 49 #[.agg #[.int .i64 d, .int .i64 r, .slice A xs.length c]] w fun e w' => ∃ A' c', e = .returned (.slice A' xs.length c') ∧ OwnC w' w.heap.size w'.heap.size 2 1 A' xs.length c' ((orderP d xs.length).map (Value.int .i64)) ∧ Below w.heap.size w w' := by
  by_cases h1 : d = 1
  · subst h1
    go_enter Tryz.func49, Tryz.ntmps49
    go_wp2_with (fail)
    refine (impl_identityY xs.length _ hl).mono ?_; rintro e w1 ⟨A1, c1, rfl, o1, b1⟩
    simp only [World.size_alloc] at o1 b1
    obtain ⟨hc, hf⟩ := bcell b1
    have B1 : Below w.heap.size w w1 := Below.trans (by (repeat (first | exact Below.refl _ _ | assumption | apply Below.drew | apply below_drewN | (refine Below.alloc ?_ (by first | omega | (simp; done) | (simp; omega)) _) | (refine Below.setCell ?_ (by first | omega | (simp; done) | (simp; omega)) _)))) (b1.mono (by first | omega | (simp; done) | (simp; omega)))
    go_wp2_with (fail)
    go_ret
    exact ⟨_, _, rfl, o1.mono (by omega) (Nat.le_refl _), B1⟩
  · have h2 : d = -1 := by simp [dirB] at hd; omega
    subst h2
    have hn : (idI xs.length).length = xs.length := idI_length _
    go_enter Tryz.func49, Tryz.ntmps49
    go_wp2_with (fail)
    refine (impl_identityY xs.length _ hl).mono ?_; rintro e w1 ⟨A1, c1, rfl, o1, b1⟩
    simp only [World.size_alloc] at o1 b1
    obtain ⟨hc, hf⟩ := bcell b1
    have B1 : Below w.heap.size w w1 := Below.trans (by (repeat (first | exact Below.refl _ _ | assumption | apply Below.drew | apply below_drewN | (refine Below.alloc ?_ (by first | omega | (simp; done) | (simp; omega)) _) | (refine Below.setCell ?_ (by first | omega | (simp; done) | (simp; omega)) _)))) (b1.mono (by first | omega | (simp; done) | (simp; omega)))
    have z1 := b1.size
    simp only [World.size_alloc] at z1
    have hrev := slices_ReverseY A1 c1 (idI xs.length) (w.heap.size + 1) w1.heap.size w1 (by show OwnC _ _ _ _ _ _ _ _ _; rw [hn]; exact o1) (by rw [hn]; exact hl)
    rw [hn] at hrev
    have HR := Lib.hid hrev; clear hrev hn
    go_wp2_with (fail)
    refine HR.out.mono ?_; rintro e w2 ⟨rfl, o2, u2⟩
    have B2 : Below w.heap.size w w2 := B1.trans ((u2.below (by omega)).mono (by omega))
    have z2 := u2.size
    go_wp2_with (fail)
    go_ret
    exact ⟨_, _, rfl, o2.mono (by omega) (by omega), B2⟩


end Go.Proofs.YthjamohaeahipaaGreat
