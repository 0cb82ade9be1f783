/- Steps of the proof, joined from several texts: FC FD GC GD GE. -/
import Derived.Test.YtnjgmhdmjaijgaaZ10
import Derived.Test.YtnjgmhdmjaijgaaZ11
import Derived.Test.YtnjgmhdmjaijgaaZ9
import Derived.Test.YtnjgmhdmjaijgaaZ3
import Derived.Deep.DeepCutAuto

/- Charts of colour charts with caught floats: the program's side. -/
namespace Go.Proofs.Ytnjgmhdmjaijgaa
open Go Go.RowKit

set_option maxHeartbeats 8000000 in
set_option maxRecDepth 10000 in
theorem impl_colouredM (M : Int) (hM : 1 ≤ M ∧ M ≤ 8) (n : Int) (xss : List (List Int)) (A : Option Addr) (c : Nat) (w : World) (h : Ints2 w A xss) (hv : coloursB n xss = true) :
    Calls Try.prog 42 #[.agg #[.int .i64 n, .slice A xss.length c], .int .i64 M] w fun e w' => ∃ A' c', e = .returned (.agg #[.int .i64 n, .slice A' (catRows (M + 1) xss).length c']) ∧ OwnRows w' w.heap.size w'.heap.size A' (catRows (M + 1) xss).length c' (catRows (M + 1) xss) ∧ Below w.heap.size w w' := by
  have t1 : (57 : TypeId) ≠ 2 := by decide
  have t2 : (57 : TypeId) ≠ 29 := by decide
  have t4 : (106 : TypeId) ≠ 29 := by decide
  have t5 : (29 : TypeId) ≠ 2 := by decide
  have t6 : (106 : TypeId) ≠ 2 := by decide
  have t7 : (2 : TypeId) ≠ 29 := by decide
  obtain ⟨i0, hi0, hz0, hz1, hz2⟩ := info_parts info_int64
  obtain ⟨iR, hi1, hy0, hy1, hy2⟩ := info_parts info_Row
  obtain ⟨hn1, hn8, hx8, hrow⟩ := colours_small hv
  have HROW := Lib.hid hrow; clear hrow
  have HL32 := Lib.hid (catRows_small (m := M + 1) hv)
  have HV := Lib.hid hv; clear hv
  obtain ⟨w1, hw1⟩ : ∃ w1, w1 = (((w.alloc (.cells #[.int .i64 n, .slice A xss.length c] 43)).alloc (.cells #[.int .i64 0, .slice none 0 0] 57)).alloc (.cells #[.int .i64 n, .slice none 0 0] 57)).alloc (.cells #[.int .i64 0, .int .i64 0, .int .i64 0, .int .i64 0, .int .i64 0] 106) := ⟨_, rfl⟩
  have hb1 : Below w.heap.size w w1 := by rw [hw1]; (repeat (first | exact Below.refl _ _ | assumption | apply Below.drew | apply below_drewN | (refine Below.alloc ?_ (by first | omega | (simp; done) | (simp; omega)) _) | (refine Below.setCell ?_ (by first | omega | (simp; done) | (simp; omega)) _)))
  have ka1 : Blk w1 w.heap.size 43 #[.int .i64 n, .slice A xss.length c] := by rw [hw1]; exact (((Blk.new w _ _).alloc _).alloc _).alloc _
  obtain ⟨hZ, hhZ⟩ : ∃ hZ, hZ = w.heap.size + 1 := ⟨_, rfl⟩
  obtain ⟨hB, hhB⟩ : ∃ hB, hB = w.heap.size + 1 + 1 := ⟨_, rfl⟩
  obtain ⟨hN, hhN⟩ : ∃ hN, hN = w.heap.size + 1 + 1 + 1 := ⟨_, rfl⟩
  have kz1 : Blk w1 hZ 57 #[.int .i64 0, .slice none 0 0] := by
    rw [hw1, hhZ]
    exact ((by simpa using Blk.new (w.alloc (.cells #[.int .i64 n, .slice A xss.length c] 43)) 57 #[.int .i64 0, .slice none 0 0] : Blk _ (w.heap.size + 1) _ _).alloc _).alloc _
  have kx1 : Blk w1 hB 57 #[.int .i64 n, .slice none 0 0] := by
    rw [hw1, hhB]
    exact (by simpa using Blk.new ((w.alloc (.cells #[.int .i64 n, .slice A xss.length c] 43)).alloc (.cells #[.int .i64 0, .slice none 0 0] 57)) 57 #[.int .i64 n, .slice none 0 0] : Blk _ (w.heap.size + 1 + 1) _ _).alloc _
  have kn1 : Blk w1 hN 106 (nextC [0, 0, 0, 0]).toArray := by
    rw [hw1, hhN]
    simpa [nextC] using Blk.new (((w.alloc (.cells #[.int .i64 n, .slice A xss.length c] 43)).alloc (.cells #[.int .i64 0, .slice none 0 0] 57)).alloc (.cells #[.int .i64 n, .slice none 0 0] 57)) 106 #[.int .i64 0, .int .i64 0, .int .i64 0, .int .i64 0, .int .i64 0]
  have hz4 : w.heap.size < hZ ∧ hZ < hB ∧ hB < hN := by omega
  obtain ⟨hzZ, hzB, hzN⟩ := hz4
  have hzn1 := kn1.lt
  obtain ⟨a0, a1⟩ := ka1.c2
  go_enter Try.func42, Try.ntmps42
  go_upto_region 3 with fail
  rw [← hw1, ← hhN, ← hhB, ← hhZ]
  clear hw1 hhZ hhB hhN
  go_wp2_with (fail)
  refine (impl_floats n A c xss _ (h.below hb1) HV.out).mono ?_; rintro e w3 ⟨A3, c3, rfl, o3, b3⟩
  have hz3 := b3.size
  have kz3 := kz1.below b3 (by omega)
  have kx3 := kx1.below b3 (by omega)
  have kn3 := kn1.below b3 hzn1
  have ka3 := ka1.below b3 (by omega)
  have hbw3 : Below w.heap.size w w3 := hb1.trans (b3.mono (by omega))
  obtain ⟨a0', a1'⟩ := ka3.c2
  obtain ⟨gF, hgF⟩ : ∃ gF, gF = w1.heap.size := ⟨_, rfl⟩
  have HFN : Hid ((fAll xss xss.length).length ≤ 1000000) := Lib.hid (by have := fAll_small HV.out (Nat.le_refl xss.length); omega)
  rw [← hgF] at o3 hzn1 hz3
  have HFOK := Lib.hid (fun f (hf : f ∈ fAll xss xss.length) => float_ok HV.out hf)
  have hfs0 : ∃ fs, fs = fAll xss xss.length := ⟨_, rfl⟩
  obtain ⟨fs, hfs0⟩ := hfs0
  rw [← hfs0] at o3 HFN HFOK ⊢
  have HFS0 := Lib.hid hfs0; clear hfs0
  obtain ⟨lo, hlo0⟩ : ∃ lo, lo = w3.heap.size := ⟨_, rfl⟩
  have HLO : lo ≤ w3.heap.size := by omega
  rw [← hlo0] at o3 hz3
  clear hlo0 hgF ka1 ka3 kz1 kx1 kn1 hb1 b3 a0 a1
  have LS : CInv n hZ hB hN gF lo A3 c3 fs w3 (colAllM (M + 1) fs xss 0) := ⟨kz3, kn3, o3, rfl, by omega, HLO, none, 0, [], kx3, OwnC.nil _ _ _ _ _, CellsRows.nil⟩
  clear kz3 kn3 kx3 o3

  go_wp2_with (fail)
  clear a0' a1'
  go_loopw [26] (fun iv wr => ∃ i : Nat, i ≤ xss.length ∧ iv = .int .i64 i ∧ CInv n hZ hB hN gF lo A3 c3 fs wr (colAllM (M + 1) fs xss i) ∧ Below w.heap.size w wr) (fun iv _ => xss.length - (intOf iv).toNat)
  case atStart => exact ⟨0, Nat.zero_le _, rfl, LS, hbw3⟩
  case round =>
    clear LS hbw3
    obtain ⟨i, hi, rfl, hinv, hb⟩ := hrel
    by_cases hil : i < xss.length
    · obtain ⟨b, off, A7, c7, row, rfl, hx, hc, hir, hrl⟩ := h i hil
      have hr8 : row.length ≤ 8 := by have := HROW.out row (List.mem_of_getElem? hx); omega
      have HX := Lib.hid (colAllM_succ (m := M + 1) (fs := fs) hx); have HROWN := Lib.hid (HROW.out row (List.mem_of_getElem? hx)); have HXI := Lib.hid hx; clear hx
      have HOK := Lib.hid (ColOk.allM (M + 1) fs xss i hi)
      generalize colAllM (M + 1) fs xss i = st0 at hinv HX HOK
      have q2 := cells_below hb _ _ hc
      have j1 : (0 : Int) ≤ (i : Int) := by omega
      have j2 : (i : Int) < (xss.length : Int) := by omega
      go_wp2_with (fail)
      go_loopw [10] (fun kv ws => ∃ m : Nat, m ≤ 4 ∧ kv = .int .i64 ((m : Int) + 1) ∧ CInv n hZ hB hN gF lo A3 c3 fs ws (colToM (M + 1) fs i row st0 m) ∧ Below w.heap.size w ws) (fun kv _ => 5 - (intOf kv).toNat)
      case atStart => exact ⟨0, Nat.zero_le _, rfl, hinv, hb⟩
      case round =>
        clear hinv hb q2
        obtain ⟨m, hm4, rfl, hinv, hb⟩ := hrel
        by_cases hml : m < 4
        · have d4 : decide ((m : Int) + 1 ≤ 4) = true := decide_eq_true (by omega)
          have hokm := (HOK.out.toM hm4 : ColOk (colToM (M + 1) fs i row st0 m) (4 * i + m))
          obtain ⟨x, hxm, hx3⟩ := hokm.at hml
          have hsz := hokm.size
          have HOK4 := hokm.len
          have HS := (Lib.hid rfl : Hid (colToM (M + 1) fs i row st0 (m + 1) = colStepM (tuckRow i ((m : Int) + 1) (M + 1) fs row) row (colToM (M + 1) fs i row st0 m) m))
          clear hokm
          generalize colToM (M + 1) fs i row st0 m = st at hinv hxm hsz HS HOK4
          have hirs : Ints wr A7 row := hir.below hb
          cases hmem : decide (((m : Int) + 1) ∈ row)
          · have HS2 : Hid (colToM (M + 1) fs i row st0 (m + 1) = st) := Lib.hid (by rw [HS.out, colStepM_no (of_decide_eq_false hmem)])
            go_wp2_with (go_at_call 76; refine (slices_Contains A7 c7 row _ _ hirs (by omega)).mono ?_; rintro e _ ⟨rfl, rfl⟩; rw [hmem])
            refine ⟨⟨m + 1, by omega, by go_num, by rw [HS2.out]; exact hinv, hb⟩, by first | (simp [intOf]; done) | (simp [intOf]; omega)⟩
          · obtain ⟨kz, kn, ofl, hdl, hlt, hlo, A', c', cs, kb, ho, hcr⟩ := hinv
            have P : CParts n hZ hB hN gF lo wr.heap.size A3 c3 fs wr (nextC st.ds) st.rows.length A' c' cs st.rows := ⟨kz, kn, ofl, kb, ho, hcr, Nat.le_refl _, by omega⟩
            have qn : wr.cell? ⟨hN, m + 1, none⟩ = some (.int .i64 (-x)) := by rw [kn.cell, List.getElem?_toArray, nextC_at hxm]
            have qf := kn.frozen (m + 1)
            have hnl : m + 1 < (nextC st.ds).length := (List.getElem?_eq_some_iff.1 (nextC_at hxm)).1
            clear kz kn ofl ho hcr
            have i2 : IntKind.i64.wrap ((m : Int) + 1) = (m : Int) + 1 := IntWalk.i64_in _ ⟨by omega, by omega⟩
            have i3 : (0 : Int) ≤ (m : Int) + 1 := by omega
            have i4 : (m : Int) + 1 < 5 := by omega
            have i5 : ((m : Int) + 1).toNat = m + 1 := by omega
            have s0 := kb.c2
            clear kb
            have HMB := Lib.hid (of_decide_eq_true hmem)
            obtain ⟨d, hd⟩ : ∃ d, d = dirOf x st.rows.length := ⟨_, rfl⟩
            have HDD : d = 1 ∨ d = -1 := by rw [hd]; exact dirOf_val _ hx3
            have HS2 : Hid (colToM (M + 1) fs i row st0 (m + 1) = ⟨st.ds.set m d, st.rows ++ [⟨d, (m : Int) + 1, tuckRow i ((m : Int) + 1) (M + 1) fs row⟩]⟩) := Lib.hid (by rw [HS.out, colStepM_yes HMB.out hxm, hd])
            have HD := Lib.hid hd; clear hd HS
            obtain ⟨s1, s2⟩ := s0
            go_upto_if 42 with (go_at_call 76; refine (slices_Contains A7 c7 row _ _ hirs (by omega)).mono ?_; rintro e _ ⟨rfl, rfl⟩; rw [hmem])
            go_cut [] (fun wx => ∃ nl, CParts n hZ hB hN gF lo wr.heap.size A3 c3 fs wx nl st.rows.length A' c' cs st.rows ∧ nl[m + 1]? = some (.int .i64 d) ∧ nl.set (m + 1) (.int .i64 (-d)) = nextC (st.ds.set m d) ∧ Below w.heap.size w wx)
            case first =>
              by_cases hx0 : x = 0
              · have hxb : (-x == 0) = true := by simp [hx0]
                by_cases hL0 : st.rows.length = 0
                · have hLb : ((st.rows.length : Int) == 0) = true := by simp [hL0]
                  have HDV : Hid (d = -1) := Lib.hid (by rw [HD.out]; simp [dirOf, hx0, hL0])
                  have PF := (P.touch (m + 1) (.int .i64 1)).touch (m + 1) (.int .i64 (-1))
                  have HPF := Lib.hid PF; clear PF P
                  go_wp2_with (fail)
                  go_meet
                  rw [HDV.out]
                  refine ⟨_, HPF.out, by rw [List.getElem?_set_self (by simpa using hnl)], ?_, (hb.setCell (by show w.heap.size ≤ hN; omega) _).setCell (by show w.heap.size ≤ hN; omega) _⟩
                  simp only [List.set_set]
                  exact nextC_set _ _ _
                · have hLb : ((st.rows.length : Int) == 0) = false := by simp [hL0]
                  have HDV : Hid (d = 1) := Lib.hid (by rw [HD.out]; simp [dirOf, hx0, hL0])
                  have HPF := Lib.hid (P.touch (m + 1) (.int .i64 1)); clear P
                  go_wp2_with (fail)
                  go_meet
                  rw [HDV.out]
                  refine ⟨_, HPF.out, by rw [List.getElem?_set_self hnl], ?_, hb.setCell (by show w.heap.size ≤ hN; omega) _⟩
                  simp only [List.set_set]
                  exact nextC_set _ _ _
              · have hxb : (-x == 0) = false := by simp [hx0]
                have HDV : Hid (d = -x) := Lib.hid (by rw [HD.out]; simp [dirOf, hx0])
                have HPF := Lib.hid P; clear P
                go_wp2_with (fail)
                go_meet
                rw [HDV.out]
                exact ⟨_, HPF.out, nextC_at hxm, nextC_set _ _ _, hb⟩
            case rest =>
            obtain ⟨nl, PS, hnd, hNL, hbS⟩ := hcut
            have HNL := Lib.hid hNL; clear hNL P qf hirs hb s1 s2 qn hnl
            have hqS : wc.cell? ⟨hN, m + 1, none⟩ = some (.int .i64 d) := by rw [PS.kn.cell, List.getElem?_toArray, hnd]
            obtain ⟨hW, hhW⟩ : ∃ hW, hW = wr.heap.size := ⟨_, rfl⟩
            rw [← hhW] at PS hlo
            clear hhW
            have hWS := PS.hle
            have hqf := PS.kn.frozen (m + 1)
            have i6 : IntKind.i64.wrap (-d) = -d := IntWalk.i64_in _ ⟨by omega, by omega⟩
            have hqA := cell_alloc hqS (.cells #[.int .i64 d, .int .i64 ((m : Int) + 1), .slice none 0 0] 29)
            have hfA := (PS.below ((Below.refl _ _).alloc (Nat.le_refl _) (.cells #[.int .i64 d, .int .i64 ((m : Int) + 1), .slice none 0 0] 29)) hWS).kn.frozen (m + 1)
            go_upto_region 17 with fail
            obtain ⟨wX, hwX⟩ : ∃ wX, wX = (wc.alloc (.cells #[.int .i64 d, .int .i64 ((m : Int) + 1), .slice none 0 0] 29)).setCell ⟨hN, m + 1, none⟩ (.int .i64 (-d)) := ⟨_, rfl⟩
            obtain ⟨hR, hhR⟩ : ∃ hR, hR = wc.heap.size := ⟨_, rfl⟩
            obtain ⟨o1, o2, o3', o4, o5⟩ := PS.ord
            have PX : CParts n hZ hB hN gF lo hW A3 c3 fs wX (nextC (st.ds.set m d)) st.rows.length A' c' cs st.rows := by rw [hwX, ← HNL.out]; exact (PS.below ((Below.refl _ _).alloc (Nat.le_refl _) _) hWS).touch _ _
            have krX : Blk wX hR 29 #[.int .i64 d, .int .i64 ((m : Int) + 1), .slice none 0 0] := by rw [hwX, hhR]; exact (Blk.new wc _ _).far (by show wc.heap.size ≠ hN; omega) _
            have hbX : Below w.heap.size w wX := by rw [hwX]; exact (hbS.alloc (by omega) _).setCell (by show w.heap.size ≤ hN; omega) _
            have hRW : hW ≤ hR := by omega
            rw [← hwX, ← hhR]
            clear hwX hhR PS hqS hqf hbS HNL i6 hqA hfA
            have hzX := krX.lt
            generalize hLL : st.rows.length = L at *
            have HLL := Lib.hid hLL; clear hLL
            go_wp2_with (fail)
            go_loopw [64] (fun jv wq => ∃ (j : Nat) (A5 : Option Addr) (c5 : Nat), j ≤ row.length ∧ jv = .int .i64 j ∧ Blk wq hR 29 #[.int .i64 d, .int .i64 ((m : Int) + 1), .slice A5 j c5] ∧ OwnC wq (hR + 1) wq.heap.size 2 1 A5 j c5 ((knitRow (row.take j) ((m : Int) + 1)).map (Value.int .i64)) ∧ Below hR wX wq) (fun jv _ => row.length - (intOf jv).toNat)
            case atStart => exact ⟨0, none, 0, Nat.zero_le _, rfl, krX, OwnC.nil _ _ _ _ _, Below.refl _ _⟩
            case round =>
              clear krX
              obtain ⟨j, A5, c5, hj, rfl, kr, ho, hq⟩ := hrel
              have hzq := kr.lt
              by_cases hjl : j < row.length
              · obtain ⟨b2, off2, y, rfl, hcy, hy⟩ := (hir.below (hbX.trans (hq.mono (by omega)))) j hjl
                have j3 : (0 : Int) ≤ (j : Int) := by omega
                have j4 : (j : Int) < (row.length : Int) := by omega
                obtain ⟨z0, z1, z2⟩ := kr.c3
                by_cases hyk : y = (m : Int) + 1
                · have HK : Hid (knitRow (row.take (j + 1)) ((m : Int) + 1) = knitRow (row.take j) ((m : Int) + 1) ++ [1]) := Lib.hid (by rw [knitRow_snoc hy, if_pos hyk])
                  have hyk' : (y == (m : Int) + 1) = true := by simp [hyk]
                  clear hy hyk
                  go_wp2_with (at_builtin; refine wpList_append1 wr [.int .i64 1] _ rfl (.tmp 72) (.tmp 73) _ rfl 2 i0 _ 1 8 Try.underlying22 hi0 hz0 hz1 hz2 rfl (by decide) rfl ho (by omega) 1 rfl rfl (by simp [Value.oneCell']) (by omega) (by decide) ?_; intro A6 c6 w6 ho6 hg6 hb6 hz6; have kr6 := (kr.alloc (.cells #[.int .i64 1] 2)).grownT (ho.alloc (.cells #[.int .i64 1] 2)) t5 hg6; obtain ⟨y0', y1', y2'⟩ := kr6.c3; have y3' := kr6.frozen 2)
                  have kr6 := (kr.alloc (.cells #[.int .i64 1] 2)).grownT (ho.alloc (.cells #[.int .i64 1] 2)) t5 hg6
                  refine ⟨⟨j + 1, A6, c6, by omega, by go_num, by simpa using kr6.setAt 2 (.slice A6 (j + 1) c6), ?_, Below.setCell (hq.trans (hb6.mono (by omega))) (Nat.le_refl _) _⟩, by first | (simp [intOf]; done) | (simp [intOf]; omega)⟩
                  rw [HK.out, List.map_append]
                  exact (ho6.farT kr6 t5 2 _).mono (Nat.le_refl _) (by simp)
                · have HK : Hid (knitRow (row.take (j + 1)) ((m : Int) + 1) = knitRow (row.take j) ((m : Int) + 1) ++ [7]) := Lib.hid (by rw [knitRow_snoc hy, if_neg hyk])
                  have hyk' : (y == (m : Int) + 1) = false := by simp [hyk]
                  clear hy hyk
                  go_wp2_with (at_builtin; refine wpList_append1 wr [.int .i64 7] _ rfl (.tmp 77) (.tmp 78) _ rfl 2 i0 _ 1 8 Try.underlying22 hi0 hz0 hz1 hz2 rfl (by decide) rfl ho (by omega) 1 rfl rfl (by simp [Value.oneCell']) (by omega) (by decide) ?_; intro A6 c6 w6 ho6 hg6 hb6 hz6; have kr6 := (kr.alloc (.cells #[.int .i64 7] 2)).grownT (ho.alloc (.cells #[.int .i64 7] 2)) t5 hg6; obtain ⟨y0', y1', y2'⟩ := kr6.c3; have y3' := kr6.frozen 2)
                  have kr6 := (kr.alloc (.cells #[.int .i64 7] 2)).grownT (ho.alloc (.cells #[.int .i64 7] 2)) t5 hg6
                  refine ⟨⟨j + 1, A6, c6, by omega, by go_num, by simpa using kr6.setAt 2 (.slice A6 (j + 1) c6), ?_, Below.setCell (hq.trans (hb6.mono (by omega))) (Nat.le_refl _) _⟩, by first | (simp [intOf]; done) | (simp [intOf]; omega)⟩
                  rw [HK.out, List.map_append]
                  exact (ho6.farT kr6 t5 2 _).mono (Nat.le_refl _) (by simp)
              · obtain rfl : j = row.length := by omega
                rw [take_all (Nat.le_refl _)] at ho
                obtain ⟨hS, hhS⟩ : ∃ hS, hS = wr.heap.size := ⟨_, rfl⟩
                rw [← hhS] at ho
                have hS0 : hS ≤ wr.heap.size := by omega
                have hRS : hR < hS := by omega
                rw [show knitRow row ((m : Int) + 1) = tuckRow i ((m : Int) + 1) (M + 1) (fs.take 0) row by rw [List.take_zero, tuckRow_nil]] at ho
                clear hhS
                have hfn := HFN.out
                have dM1 : decide (M > 0) = true := decide_eq_true (by omega)
                have wM : IntKind.i64.wrap (M + 1) = M + 1 := IntWalk.i64_in _ ⟨by omega, by omega⟩
                go_wp2_with (fail)
                go_loopw [84] (fun jv wt => ∃ j : Nat, j ≤ fs.length ∧ jv = .int .i64 j ∧ Blk wt hR 29 #[.int .i64 d, .int .i64 ((m : Int) + 1), .slice A5 row.length c5] ∧ OwnC wt (hR + 1) hS 2 1 A5 row.length c5 ((tuckRow i ((m : Int) + 1) (M + 1) (fs.take j) row).map (Value.int .i64)) ∧ Below hR wX wt ∧ hS ≤ wt.heap.size) (fun jv _ => fs.length - (intOf jv).toNat)
                case atStart => exact ⟨0, Nat.zero_le _, rfl, kr, ho, hq, hS0⟩
                case round =>
                  clear kr ho hq hS0 hzq
                  obtain ⟨j, hj, rfl, kr, ho, hq, hS0⟩ := hrel
                  have hzq := kr.lt
                  by_cases hjl : j < fs.length
                  · obtain ⟨b2, off2, p, rfl, hp, e0, e1, e2, e3⟩ := (PX.below hq hRW).of.floats j hjl
                    have j3 : (0 : Int) ≤ (j : Int) := by omega
                    have j4 : (j : Int) < (fs.length : Int) := by omega
                    have hpok := HFOK.out p (List.mem_of_getElem? hp)
                    have HP := Lib.hid hp; clear hp
                    obtain ⟨r1, r2, r3, r4⟩ := p
                    simp only at e0 e1 e2 e3 hpok
                    cases hb1 : (r1 == (i : Int))
                    · have HSK : Hid (tuckRow i ((m : Int) + 1) (M + 1) (fs.take (j + 1)) row = tuckRow i ((m : Int) + 1) (M + 1) (fs.take j) row) := Lib.hid (tuckRow_skip HP.out (fun hh => by have := hh.1; simp at hb1; exact hb1 this) row)
                      clear hpok
                      go_wp2_with (fail)
                      refine ⟨⟨j + 1, by omega, by go_num, kr.alloc _, by rw [HSK.out]; exact OwnC.alloc ho _, hq.alloc (by omega) _, by simp; omega⟩, by first | (simp [intOf]; done) | (simp [intOf]; omega)⟩
                    · cases hb2 : (r2 == (m : Int) + 1)
                      · have HSK : Hid (tuckRow i ((m : Int) + 1) (M + 1) (fs.take (j + 1)) row = tuckRow i ((m : Int) + 1) (M + 1) (fs.take j) row) := Lib.hid (tuckRow_skip HP.out (fun hh => by have := hh.2; simp at hb2; exact hb2 this) row)
                        clear hpok
                        go_wp2_with (fail)
                        refine ⟨⟨j + 1, by omega, by go_num, kr.alloc _, by rw [HSK.out]; exact OwnC.alloc ho _, hq.alloc (by omega) _, by simp; omega⟩, by first | (simp [intOf]; done) | (simp [intOf]; omega)⟩
                      · obtain ⟨jf, ps, pe, _, _, hrj, hst, hen, hpq, hpn, hp8, hjx, _, _, _⟩ := hpok
                        subst hst hen hrj
                        have hji : (jf : Int) = (i : Int) := by simpa using hb1
                        obtain rfl : jf = i := by omega
                        clear hji
                        clear hjx
                        have hper : pe < row.length := by have := HROWN.out; omega
                        have HR2 : Hid (r2 = (m : Int) + 1) := Lib.hid (by simpa using hb2)
                        have w1 : IntKind.i64.wrap ((ps : Int) + M) = (ps : Int) + M := IntWalk.i64_in _ ⟨by omega, by omega⟩
                        have w2 : IntKind.i64.wrap ((ps : Int) + M + 1) = (ps : Int) + M + 1 := IntWalk.i64_in _ ⟨by omega, by omega⟩
                        obtain ⟨a0', ha0⟩ : ∃ a0' : Nat, (a0' : Int) = (ps : Int) + M + 1 := ⟨((ps : Int) + M + 1).toNat, by omega⟩
                        obtain ⟨g5, hA5, hg5, hg5', _, _⟩ := OwnC.cell ho (j := 0) (by rw [List.length_map, tuckRow_length]; omega)
                        subst hA5
                        rw [← tuckTo_start (f := ⟨(jf : Int), r2, (ps : Int), (pe : Int)⟩) (p := ps) (a := a0') ⟨by omega, by omega⟩ rfl (by omega)] at ho
                        have kf : Blk (wr.alloc (.cells #[.int .i64 (jf : Int), .int .i64 r2, .int .i64 (ps : Int), .int .i64 (pe : Int)] 52)) wr.heap.size 52 #[.int .i64 (jf : Int), .int .i64 r2, .int .i64 (ps : Int), .int .i64 (pe : Int)] := Blk.new wr _ _
                        have kr1 := kr.alloc (.cells #[.int .i64 (jf : Int), .int .i64 r2, .int .i64 (ps : Int), .int .i64 (pe : Int)] 52)
                        have ho1 := OwnC.alloc ho (.cells #[.int .i64 (jf : Int), .int .i64 r2, .int .i64 (ps : Int), .int .i64 (pe : Int)] 52)
                        have hq1 := hq.alloc (o := (.cells #[.int .i64 (jf : Int), .int .i64 r2, .int .i64 (ps : Int), .int .i64 (pe : Int)] 52)) (by omega)
                        obtain ⟨gf, hgf⟩ : ∃ gf, gf = wr.heap.size := ⟨_, rfl⟩
                        obtain ⟨wF, hwF⟩ : ∃ wF, wF = wr.alloc (.cells #[.int .i64 (jf : Int), .int .i64 r2, .int .i64 (ps : Int), .int .i64 (pe : Int)] 52) := ⟨_, rfl⟩
                        go_upto_region 29 with fail
                        rw [← hwF, ← hgf]
                        rw [← hwF, ← hgf] at kf
                        rw [← hwF] at kr1 ho1 hq1
                        have hSF : hS ≤ wF.heap.size := by rw [hwF]; simp; omega
                        have hgfS : hS ≤ gf := by omega
                        clear hwF hgf kr ho hq hS0 e0 e1 e2 e3 w1 w2 hb1 hb2 hzq
                        go_loopw [16] (fun av ws => ∃ a : Nat, av = .int .i64 (a : Int) ∧ Hid ((M + 1) ∣ (a : Int) - (ps : Int)) ∧ (ps < a ∧ a ≤ 30) ∧ Blk ws gf 52 #[.int .i64 (jf : Int), .int .i64 r2, .int .i64 (ps : Int), .int .i64 (pe : Int)] ∧ Blk ws hR 29 #[.int .i64 d, .int .i64 ((m : Int) + 1), .slice (some ⟨g5, 0, none⟩) row.length c5] ∧ OwnC ws (hR + 1) hS 2 1 (some ⟨g5, 0, none⟩) row.length c5 ((tuckTo jf ((m : Int) + 1) (M + 1) (fs.take j) row ⟨(jf : Int), r2, (ps : Int), (pe : Int)⟩ a).map (Value.int .i64)) ∧ Below hR wX ws ∧ hS ≤ ws.heap.size) (fun av _ => 40 - (intOf av).toNat)
                        case atStart => exact ⟨a0', congrArg (Value.int .i64) ha0.symm, Lib.hid ⟨1, by omega⟩, by omega, kf, kr1, ho1, hq1, hSF⟩
                        case round =>
                          clear kf kr1 ho1 hq1 hSF ha0
                          obtain ⟨a, rfl, HDV, ⟨hpa, ha30⟩, kf, kr, ho, hq, hS0⟩ := hrel
                          have f3 : wr.cell? ⟨gf, 3, none⟩ = some (.int .i64 (pe : Int)) := kf.cell 3
                          by_cases hape : a < pe
                          · have da : decide ((a : Int) < (pe : Int)) = true := decide_eq_true (by omega)
                            obtain ⟨z0, z1, z2⟩ := kr.c3
                            obtain ⟨g6, hA6, _, _, hc5, hf5⟩ := OwnC.cell ho (j := a) (by rw [List.length_map, tuckTo_length]; omega)
                            injection hA6 with hA6
                            injection hA6 with hA6 _
                            subst hA6
                            have j5 : (0 : Int) ≤ (a : Int) := by omega
                            have j6 : (a : Int) < (row.length : Int) := by omega
                            have wA : IntKind.i64.wrap ((a : Int) + (M + 1)) = (a : Int) + (M + 1) := IntWalk.i64_in _ ⟨by omega, by omega⟩
                            obtain ⟨b', hb'⟩ : ∃ b' : Nat, (b' : Int) = (a : Int) + (M + 1) := ⟨((a : Int) + (M + 1)).toNat, by omega⟩
                            have HB' := Lib.hid hb'; clear hb'
                            go_wp2_with (fail)
                            have hb' := HB'.out
                            refine ⟨⟨b', congrArg (Value.int .i64) hb'.symm, Lib.hid ?_, by omega, kf.far (p := ⟨g5, a, none⟩) (by show gf ≠ g5; omega) _, kr.far (p := ⟨g5, a, none⟩) (by show hR ≠ g5; omega) _, ?_, hq.setCell (by show hR ≤ g5; omega) _, by simpa using hS0⟩, by simp [intOf]; omega⟩
                            · rw [show (b' : Int) - (ps : Int) = ((a : Int) - (ps : Int)) + (M + 1) by omega]
                              exact Int.dvd_add HDV.out (Int.dvd_refl _)
                            · rw [tuckTo_step (i := (jf : Int)) (c := (m : Int) + 1) (f := ⟨(jf : Int), r2, (ps : Int), (pe : Int)⟩) (p := ps) (a := a) ⟨by omega, by omega⟩ rfl rfl HR2.out HDV.out hpa (by show (a : Int) < (pe : Int); omega) (by omega), List.map_set]
                              exact (OwnC.store ho _).1
                          · have da : decide ((a : Int) < (pe : Int)) = false := decide_eq_false (by omega)
                            have HTE := Lib.hid (tuckTo_end (i := jf) (c := (m : Int) + 1) (m := M + 1) (row := row) HP.out (a := a) (by show (pe : Int) ≤ (a : Int); omega))
                            go_wp2_with (fail)
                            refine ⟨⟨j + 1, by omega, by go_num, kr, by rw [← HTE.out]; exact ho, hq, hS0⟩, by first | (simp [intOf]; done) | (simp [intOf]; omega)⟩
                  · obtain rfl : j = fs.length := by omega
                    rw [take_all (Nat.le_refl _)] at ho
                    have PT := PX.below hq hRW
                    have krT := kr
                    have hoT := ho.mono (Nat.le_refl _) hS0
                    have hbT : Below w.heap.size w wr := hbX.trans (hq.mono (by omega))
                    clear PX kr ho hq hbX
                    obtain ⟨z0, z1, z2⟩ := krT.c3
                    obtain ⟨s1, s2⟩ := PT.kb.c2
                    have hzT := krT.lt
                    have HKL := Lib.hid (tuckRow_length i ((m : Int) + 1) (M + 1) fs row)
                    have o4 : OwnI wr hW wr.heap.size A5 c5 (tuckRow i ((m : Int) + 1) (M + 1) fs row) := by show OwnC _ _ _ _ _ _ _ _ _; rw [HKL.out]; exact hoT.mono (by omega) (Nat.le_refl _)
                    have HKX : Hid (∀ w8, (wr.alloc (.cells #[.int .i64 d, .int .i64 ((m : Int) + 1), .slice A5 row.length c5] 29)).grownBy w8 (Value.slice A' L c').ownBlock → Blk w8 hB 57 #[.int .i64 n, .slice A' L c']) := Lib.hid (fun w8 hg => (PT.kb.alloc _).grownT (PT.ho.alloc (.cells #[.int .i64 d, .int .i64 ((m : Int) + 1), .slice A5 row.length c5] 29)) t2 hg)
                    have hoP := PT.ho
                    go_wp2_with (at_builtin; refine wpList_append1 wr [.int .i64 d, .int .i64 ((m : Int) + 1), .slice A5 row.length c5] _ rfl (.tmp 121) (.tmp 123) _ rfl 29 iR _ 3 40 Try.underlying55 hi1 hy0 hy1 hy2 rfl (by decide) rfl hoP (by omega) 1 rfl rfl (by simp [Value.oneCell']) (by omega) (by decide) ?_; intro A9 c9 w8 ho8 hg8 hb8 hz8; have kb8 := HKX.out w8 hg8; obtain ⟨x0', x1'⟩ := kb8.c2; have x2' := kb8.frozen 1)
                    have kb8 := HKX.out w8 hg8
                    have kz8 := (PT.kz.alloc (.cells #[.int .i64 d, .int .i64 ((m : Int) + 1), .slice A5 row.length c5] 29)).grownT (hoP.alloc (.cells #[.int .i64 d, .int .i64 ((m : Int) + 1), .slice A5 row.length c5] 29)) t2 hg8
                    have kn8 := (PT.kn.alloc (.cells #[.int .i64 d, .int .i64 ((m : Int) + 1), .slice A5 row.length c5] 29)).grownT (hoP.alloc (.cells #[.int .i64 d, .int .i64 ((m : Int) + 1), .slice A5 row.length c5] 29)) t4 hg8
                    have of8 := PT.of.below hb8 (Nat.le_refl _)
                    have hb8' : Below w.heap.size w w8 := hbT.trans (hb8.mono (by omega))
                    rw [← HKL.out] at hg8 ho8
                    have gi' := GrowInv.step ⟨d, (m : Int) + 1, tuckRow i ((m : Int) + 1) (M + 1) fs row⟩ HLL.out hlt hlo PT.hle PT.kb hoP PT.hcr o4 ho8 hg8 hz8
                    refine ⟨⟨m + 1, by omega, by go_num, ?_, hb8'.setCell (by show w.heap.size ≤ hB; omega) _⟩, by first | (simp [intOf]; done) | (simp [intOf]; omega)⟩
                    rw [HS2.out]
                    refine ⟨kz8.far (by show hZ ≠ hB; omega) _, kn8.far (by show hN ≠ hB; omega) _, of8.far (.inl (by show hB < gF; omega)) _, ?_⟩
                    show GrowInv n hB lo _ (st.rows ++ [_]).length (st.rows ++ [_])
                    rw [List.length_append, HLL.out]
                    exact gi'
        · obtain rfl : m = 4 := by omega
          have d4 : decide (((4 : Nat) : Int) + 1 ≤ 4) = false := by decide
          go_wp2_with (fail)
          refine ⟨⟨i + 1, by omega, by go_num, by rw [HX.out]; exact hinv, hb⟩, by first | (simp [intOf]; done) | (simp [intOf]; omega)⟩
    · obtain rfl : i = xss.length := by omega
      obtain ⟨kz, _, _, gi⟩ := hinv
      obtain ⟨A8, c8, kc, oo⟩ := gi.rows
      have hlo := gi.2.2.1
      have hlt := gi.2.1
      clear gi
      have HCR : Hid (catRows (M + 1) xss = (colAllM (M + 1) fs xss xss.length).rows) := Lib.hid (by rw [HFS0.out]; rfl)
      rw [← HCR.out] at kc oo
      obtain ⟨rs, hrs⟩ : ∃ rs, rs = catRows (M + 1) xss := ⟨_, rfl⟩
      rw [← hrs] at kc oo
      have HRS := Lib.hid hrs; clear hrs HCR HL32
      obtain ⟨p0, p1⟩ := kc.c2
      have hzr := kc.lt
      obtain ⟨r0, r1⟩ := kz.c2
      have g0 := kz.frozen 0
      have g1 := kz.frozen 1
      go_wp2_with (fail)
      refine bodyPost_ret (v := .agg #[.int .i64 n, .slice A8 (catRows (M + 1) xss).length c8]) (by rw [← HRS.out]; simp [results, Try.results42, go_sem, r0, r1]) rfl ⟨A8, c8, rfl, ?_, ?_⟩
      · rw [← HRS.out]
        have k1 := kz.set20 (.int .i64 n)
        exact ((oo.farT kz t1 t2 0 _).farT k1 t1 t2 1 _).mono (by omega) (by simp)
      · (repeat (first | exact Below.refl _ _ | assumption | apply Below.drew | apply below_drewN | (refine Below.alloc ?_ (by first | omega | (simp; done) | (simp; omega)) _) | (refine Below.setCell ?_ (by first | omega | (simp; done) | (simp; omega)) _)))

end Go.Proofs.Ytnjgmhdmjaijgaa

/- CatchFloats, the program's function. -/
namespace Go.Proofs.Ytnjgmhdmjaijgaa
open Go Go.RowKit

def catX (n m : Int) (xss : List (List Int)) : ChX := if chartB n (catRows m xss) then ⟨n, catRows m xss⟩ else ⟨0, []⟩
theorem cat_full2 {n m : Int} {xss : List (List Int)} (h : chartB n (catRows m xss) = false) : catX n m xss = ⟨0, []⟩ ∧ catCode n m xss = 5 := by simp [catX, catCode, h]
theorem cat_ok {n m : Int} {xss : List (List Int)} (h : chartB n (catRows m xss) = true) : catX n m xss = ⟨n, catRows m xss⟩ ∧ catCode n m xss = 0 := by simp [catX, catCode, h]

set_option maxHeartbeats 2000000 in
theorem impl_CatchFloats (M : Int) (hM : 1 ≤ M ∧ M ≤ 8) (n : Int) (xss : List (List Int)) (A : Option Addr) (c : Nat) (w : World) (h : Ints2 w A xss) (hl : xss.length ≤ 9223372036854775807) (hv : coloursB n xss = true) :
    Calls Try.prog 25 #[.agg #[.int .i64 n, .slice A xss.length c], .int .i64 M] w fun e w' => ∃ A' c', e = .returned (.tuple #[.agg #[.int .i64 (catX n (M + 1) xss).n, .slice A' (catX n (M + 1) xss).xs.length c'], .int .i64 (catCode n (M + 1) xss)]) ∧ OwnRows w' w.heap.size w'.heap.size A' (catX n (M + 1) xss).xs.length c' (catX n (M + 1) xss).xs ∧ Below w.heap.size w w' := by
  have t1 : (57 : TypeId) ≠ 2 := by decide
  have t2 : (57 : TypeId) ≠ 29 := by decide
  have hin : inR M 1 8 = true := inR_iff.2 (by omega)
  have hb1 : Below w.heap.size w ((w.alloc (.cells #[.int .i64 n, .slice A xss.length c] 43)).alloc (.cells #[.int .i64 0, .slice none 0 0] 57)) := by (repeat (first | exact Below.refl _ _ | assumption | apply Below.drew | apply below_drewN | (refine Below.alloc ?_ (by first | omega | (simp; done) | (simp; omega)) _) | (refine Below.setCell ?_ (by first | omega | (simp; done) | (simp; omega)) _)))
  have ka := (Blk.new w 43 #[.int .i64 n, .slice A xss.length c]).alloc (.cells #[.int .i64 0, .slice none 0 0] 57)
  have kz : Blk ((w.alloc (.cells #[.int .i64 n, .slice A xss.length c] 43)).alloc (.cells #[.int .i64 0, .slice none 0 0] 57)) (w.heap.size + 1) 57 #[.int .i64 0, .slice none 0 0] := by simpa using Blk.new (w.alloc (.cells #[.int .i64 n, .slice A xss.length c] 43)) 57 #[.int .i64 0, .slice none 0 0]
  have HV := Lib.hid hv
  have HL32 := Lib.hid (catRows_small (m := M + 1) hv)
  go_enter Try.func25, Try.ntmps25
  go_wp2_with (fail)
  refine (impl_ValidColours n xss A c _ (h.below hb1) hl).mono ?_; rintro e w2 ⟨rfl, b2⟩
  have hb2 : Below w.heap.size w w2 := hb1.trans (b2.mono (by simp only [World.size_alloc]; omega))
  have kz2 := kz.below b2 (by simp)
  have ka2 := ka.below b2 (by simp; omega)
  have hz2 := kz2.lt
  obtain ⟨a0, a1⟩ := ka2.c2
  rw [hv]
  clear hv b2
  go_wp2_with (go_at_call 43; refine (impl_within _ _ _ _).mono ?_; rintro e _ ⟨rfl, rfl⟩; rw [hin])
  refine (impl_colouredM M hM n xss A c _ (h.below hb2) HV.out).mono ?_; rintro e w3 ⟨A3, c3, rfl, o3, b3⟩
  clear a0 a1
  have hb3 : Below w.heap.size w w3 := hb2.trans (b3.mono (by omega))
  have kz3 := kz2.below b3 hz2
  have hz3 := b3.size
  have hL32 := HL32.out
  obtain ⟨rs, hrs⟩ : ∃ rs, rs = catRows (M + 1) xss := ⟨_, rfl⟩
  rw [← hrs] at o3 hL32 ⊢
  have HRS := Lib.hid hrs; clear hrs HL32
  cases hcb : chartB n rs
  · have HF := Lib.hid (cat_full2 (n := n) (m := M + 1) (xss := xss) (by rw [← HRS.out]; exact hcb))
    go_wp2_with (fail)
    refine (impl_ifChart n rs A3 c3 _ o3.rowsR (by omega)).mono ?_; rintro e w4 ⟨rfl, b4⟩
    have hb4 : Below w.heap.size w w4 := hb3.trans (b4.mono (by omega))
    have kz4 := kz3.below b4 (by omega)
    obtain ⟨r0, r1⟩ := kz4.c2
    have g0 := kz4.frozen 0
    have g1 := kz4.frozen 1
    simp only [hcb, if_false, Bool.false_eq_true]
    go_wp2_with (fail)
    refine bodyPost_ret (v := .tuple #[.agg #[.int .i64 (catX n (M + 1) xss).n, .slice none (catX n (M + 1) xss).xs.length 0], .int .i64 (catCode n (M + 1) xss)]) (by rw [HF.out.1, HF.out.2]; simp [results, Try.results25, go_sem, r0, r1]) rfl ⟨none, 0, rfl, ?_, ?_⟩
    · rw [HF.out.1]; exact OwnRows.nil _ _ _
    · (repeat (first | exact Below.refl _ _ | assumption | apply Below.drew | apply below_drewN | (refine Below.alloc ?_ (by first | omega | (simp; done) | (simp; omega)) _) | (refine Below.setCell ?_ (by first | omega | (simp; done) | (simp; omega)) _)))
  · have HF : Hid (catX n (M + 1) xss = ⟨n, rs⟩ ∧ catCode n (M + 1) xss = 0) := Lib.hid (by have := cat_ok (n := n) (m := M + 1) (xss := xss) (by rw [← HRS.out]; exact hcb); rwa [← HRS.out] at this)
    go_wp2_with (fail)
    refine (impl_ifChart n rs A3 c3 _ o3.rowsR (by omega)).mono ?_; rintro e w4 ⟨rfl, b4⟩
    have hb4 : Below w.heap.size w w4 := hb3.trans (b4.mono (by omega))
    have kz4 := kz3.below b4 (by omega)
    have o4 := o3.below b4 (Nat.le_refl _)
    have hz4 := b4.size
    obtain ⟨r0, r1⟩ := kz4.c2
    have g0 := kz4.frozen 0
    have g1 := kz4.frozen 1
    simp only [hcb, if_true]
    go_wp2_with (fail)
    refine bodyPost_ret (v := .tuple #[.agg #[.int .i64 (catX n (M + 1) xss).n, .slice A3 (catX n (M + 1) xss).xs.length c3], .int .i64 (catCode n (M + 1) xss)]) (by rw [HF.out.1, HF.out.2]; simp [results, Try.results25, go_sem, r0, r1]) rfl ⟨A3, c3, rfl, ?_, ?_⟩
    · rw [HF.out.1]
      have k1 := kz4.set20 (.int .i64 n)
      exact ((o4.farT kz4 t1 t2 0 _).farT k1 t1 t2 1 _).mono (by omega) (by simp; omega)
    · (repeat (first | exact Below.refl _ _ | assumption | apply Below.drew | apply below_drewN | (refine Below.alloc ?_ (by first | omega | (simp; done) | (simp; omega)) _) | (refine Below.setCell ?_ (by first | omega | (simp; done) | (simp; omega)) _)))

end Go.Proofs.Ytnjgmhdmjaijgaa

/- The draws: how long the source may stay. -/
namespace Go.Proofs.Ytnjgmhdmjaijgaa
open Go Go.RowKit

theorem least {P : Nat → Prop} (n : Nat) (h : P n) : ∃ m, m ≤ n ∧ P m ∧ ∀ k, k < m → ¬ P k := by
  induction n using Nat.strongRecOn with
  | ind n ih =>
    by_cases hk : ∃ k, k < n ∧ P k
    · obtain ⟨k, hk, hp⟩ := hk
      obtain ⟨m, hm, h1, h2⟩ := ih k hk hp
      exact ⟨m, by omega, h1, h2⟩
    · exact ⟨n, Nat.le_refl _, h, fun k hk' hp => hk ⟨k, hk', hp⟩⟩
theorem steps_ex (s : Nat) : ∃ m : Nat, m ≤ 2 ^ 40 ∧ byteOf (iterN lcg m (lcg s)) % 14 ≠ 5 ∧ ∀ k, k < m → ¬ byteOf (iterN lcg k (lcg s)) % 14 ≠ 5 := by
  obtain ⟨n, hn, h⟩ := leaves (lcg s)
  obtain ⟨m, hm, h1, h2⟩ := least (P := fun n => byteOf (iterN lcg n (lcg s)) % 14 ≠ 5) n h
  exact ⟨m, Nat.le_trans hm hn, h1, h2⟩
/-- How many numbers are drawn, from a seed, until one is not the fifth of fourteen. -/
noncomputable def stepsOf (s : Nat) : Nat := Classical.choose (steps_ex s)
theorem stepsOf_spec (s : Nat) : stepsOf s ≤ 1099511627776 ∧ byteOf (iterN lcg (stepsOf s) (lcg s)) % 14 ≠ 5 ∧ ∀ k, k < stepsOf s → byteOf (iterN lcg k (lcg s)) % 14 = 5 := by
  have h := Classical.choose_spec (steps_ex s)
  exact ⟨Nat.le_trans h.1 (Nat.le_of_eq pow_40), h.2.1, fun k hk => by have := h.2.2 k hk; omega⟩
theorem stepsOf_next {s : Nat} (h : byteOf (lcg s) % 14 = 5) : stepsOf (lcg s) < stepsOf s := by
  obtain ⟨_, h1, h2⟩ := stepsOf_spec s
  obtain ⟨_, h3, h4⟩ := stepsOf_spec (lcg s)
  have h0 : stepsOf s ≠ 0 := by
    intro e
    rw [e, iterN_zero] at h1
    exact h1 h
  obtain ⟨m, hm⟩ : ∃ m, stepsOf s = m + 1 := ⟨stepsOf s - 1, by omega⟩
  rw [hm, iterN_succ] at h1
  rw [hm]
  by_cases hlt : m < stepsOf (lcg s)
  · exact absurd (h4 m hlt) h1
  · omega
/-- What is left to draw: bytes of the code, then steps of the seed. -/
noncomputable def lowOf (len p s : Nat) : Nat := if p < len then (len - p) + 2199023255552 else stepsOf s
theorem lowOf_le (len p s : Nat) : lowOf len p s ≤ len + 2199023255552 := by
  unfold lowOf
  have := (stepsOf_spec s).1
  split <;> omega
theorem lowOf_any {len p s : Nat} {s' : Nat} : lowOf len (p + 1) s' ≤ lowOf len p s + 1099511627776 := by
  unfold lowOf
  have := (stepsOf_spec s').1
  split <;> split <;> omega
theorem lowOf_stay {len p s : Nat} {x : Int} {s' : Nat} (h : Next len p s x s') (h5 : x % 14 = 5) : lowOf len (p + 1) s' < lowOf len p s := by
  unfold lowOf
  have h1 := (stepsOf_spec s').1
  by_cases hp : p < len
  · clear h h5
    rw [if_pos hp]
    generalize stepsOf s' = y at h1 ⊢
    split <;> omega
  · have e := h.2.2 (by omega)
    have e1 := e.1
    have e2 := e.2
    rw [e1] at e2 ⊢
    clear e h e1 h1
    have h2 : byteOf (lcg s) % 14 = 5 := by
      generalize byteOf (lcg s) = y at e2 ⊢
      omega
    have h3 := stepsOf_next h2
    rw [if_neg hp, if_neg (by omega)]
    exact h3

end Go.Proofs.Ytnjgmhdmjaijgaa

/- The draws: stitches that take some columns. -/
namespace Go.Proofs.Ytnjgmhdmjaijgaa
open Go Go.RowKit

theorem nextW_grown (w : World) (g p s' n : Nat) : w.grownBy (nextW w g p s' n) (some g) :=
  ⟨rfl, rfl, rfl, by simp [nextW], fun k _ hk => nextW_far (fun e => hk (by rw [e]))⟩
/-- The bytes that are read lie in an earlier block. -/
def FarB (A : Option Addr) (bs : List Int) (g : Nat) : Prop := 0 < bs.length → ∀ a, A = some a → a.block < g
theorem Bytes.grown {w w' : World} {A : Option Addr} {bs : List Int} {g : Nat} (h : Bytes w A bs) (hg : w.grownBy w' (some g)) (hA : FarB A bs g) : Bytes w' A bs :=
  fun k hk' => by
    obtain ⟨b, off, x, hA', hx, hc, h0⟩ := h k hk'
    refine ⟨b, off, x, hA', hx, hg.cell hc ?_, h0⟩
    intro e
    injection e with e
    exact Nat.ne_of_lt (hA (by omega) _ hA') e
def drawL : List Int := [1, 1, 1, 2, 2, 3, 4, 5, 6, 7, 8, 9, 10, 11]
theorem draw_kind {x y : Int} (h : drawL[(x % 14).toNat]? = some y) : isStitchB y = true ∧ (y = 3 → x % 14 = 5) := by
  obtain ⟨k, hk⟩ := Int.eq_ofNat_of_zero_le (Int.emod_nonneg x (show (14 : Int) ≠ 0 by decide))
  have hlt := Int.emod_lt_of_pos x (show (0 : Int) < 14 by decide)
  rw [hk] at h hlt ⊢
  rw [Int.toNat_natCast] at h
  rcases (by omega : k = 0 ∨ k = 1 ∨ k = 2 ∨ k = 3 ∨ k = 4 ∨ k = 5 ∨ k = 6 ∨ k = 7 ∨ k = 8 ∨ k = 9 ∨ k = 10 ∨ k = 11 ∨ k = 12 ∨ k = 13) with e | e | e | e | e | e | e | e | e | e | e | e | e | e
  all_goals
    subst e
    simp [drawL] at h
    subst h
    decide
def numVg : Option Value → Nat
  | some (.int _ x) => x.toNat
  | _ => 0
def lenOV : Value → Nat
  | .slice _ n _ => n
  | _ => 0
/-- What the loop over draws uses up. -/
noncomputable def potW (len g : Nat) (ov lv : Value) (w : World) : Nat := ((intOf lv).toNat * 17 + (16 - lenOV ov)) * 4398046511104 + lowOf len (numVg (w.cell? ⟨g, 1, none⟩)) (numVg (w.cell? ⟨g, 2, none⟩))
theorem potW_eq {w : World} {g n c p s len : Nat} {A A' : Option Addr} {m c' l : Nat} (h : Src w g A n c p s) : potW len g (.slice A' m c') (.int .i64 (l : Int)) w = (l * 17 + (16 - m)) * 4398046511104 + lowOf len p s := by
  unfold potW
  rw [h.c3.2.1, h.c3.2.2]
  simp [numVg, lenOV, intOf]
theorem taken_cases {k : Int} (h : isStitchB k = true) : ∃ t u : Nat, takenB k = (t : Int) ∧ madeB k = (u : Int) ∧ ((k = 3 ∧ t = 0 ∧ u = 1) ∨ (k ≠ 3 ∧ 1 ≤ t ∧ u ≤ t)) := by
  rcases stitch_cases h with rfl | rfl | rfl | rfl | rfl | rfl | rfl | rfl | rfl | rfl | rfl
  · exact ⟨1, 1, by decide, by decide, by decide⟩
  · exact ⟨1, 1, by decide, by decide, by decide⟩
  · exact ⟨0, 1, by decide, by decide, by decide⟩
  · exact ⟨2, 1, by decide, by decide, by decide⟩
  · exact ⟨2, 1, by decide, by decide, by decide⟩
  · exact ⟨1, 1, by decide, by decide, by decide⟩
  · exact ⟨1, 1, by decide, by decide, by decide⟩
  · exact ⟨2, 2, by decide, by decide, by decide⟩
  · exact ⟨2, 2, by decide, by decide, by decide⟩
  · exact ⟨4, 4, by decide, by decide, by decide⟩
  · exact ⟨4, 4, by decide, by decide, by decide⟩


end Go.Proofs.Ytnjgmhdmjaijgaa

/- The draws: the source as one word, and what its methods give. -/
namespace Go.Proofs.Ytnjgmhdmjaijgaa
open Go Go.RowKit

/-- The source at block g reads these bytes; it has given at most b numbers. -/
structure Sv (w : World) (g : Nat) (A : Option Addr) (c : Nat) (bs : List Int) (b : Nat) : Prop where
  ex : ∃ p s, Src w g A bs.length c p s ∧ s < 18446744073709551616 ∧ p ≤ b
  bytes : Bytes w A bs
  far : FarB A bs g
  len : bs.length ≤ 1099511627776
section
variable {w w' : World} {g : Nat} {A : Option Addr} {c : Nat} {bs : List Int} {b b' : Nat}
theorem Sv.mono (h : Sv w g A c bs b) (hb : b ≤ b') : Sv w g A c bs b' := by
  obtain ⟨p, s, h1, h2, h3⟩ := h.ex
  exact ⟨⟨p, s, h1, h2, Nat.le_trans h3 hb⟩, h.bytes, h.far, h.len⟩
theorem Sv.lt (h : Sv w g A c bs b) : g < w.heap.size := by obtain ⟨p, s, h1, _⟩ := h.ex; exact h1.lt
theorem Sv.below (h : Sv w g A c bs b) (hb : Below w.heap.size w w') : Sv w' g A c bs b := by
  obtain ⟨p, s, h1, h2, h3⟩ := h.ex
  exact ⟨⟨p, s, h1.below hb h1.lt, h2, h3⟩, h.bytes.of_cells (cells_below hb), h.far, h.len⟩
theorem Sv.alloc (h : Sv w g A c bs b) (o : Obj) : Sv (w.alloc o) g A c bs b := h.below ((Below.refl _ _).alloc (Nat.le_refl _) o)
theorem Sv.drewN (h : Sv w g A c bs b) (n : Nat) : Sv (w.drewN n) g A c bs b := h.below (below_drewN (Below.refl _ _) n)
/-- A world in which the blocks up to the source's are as they were. -/
theorem Sv.keep (h : Sv w g A c bs b) (hk : ∀ q, q ≤ g → w'.heap[q]? = w.heap[q]?) : Sv w' g A c bs b := by
  obtain ⟨p, s, q1, q2, q3⟩ := h.ex
  refine ⟨⟨p, s, (hk g (Nat.le_refl g)).trans q1, q2, q3⟩, fun k hk' => ?_, h.far, h.len⟩
  obtain ⟨b, off, x, hA, hx, hc, h0⟩ := h.bytes k hk'
  have hlt : b < g := h.far (by omega) _ hA
  refine ⟨b, off, x, hA, hx, ?_, h0⟩
  rw [← hc]
  unfold World.cell?
  rw [hk b (by omega)]
theorem Sv.store (h : Sv w g A c bs b) {q j : Nat} (hq : g < q) (u : Value) : Sv (w.setCell ⟨q, j, none⟩ u) g A c bs b :=
  h.keep fun k hk => Below.heap_setCell w _ u k (by show k ≠ q; omega)
theorem Sv.grown {row : Option Nat} (h : Sv w g A c bs b) (hg : w.grownBy w' row) (h1 : ∀ q, row = some q → g < q) : Sv w' g A c bs b :=
  h.keep fun k hk => hg.block k (by have := h.lt; omega) fun e => by have := h1 k e.symm; omega
theorem Sv.next {n p s' : Nat} (h : Sv w g A c bs b) {s : Nat} (hs : Src w g A bs.length c p s) (hp : p ≤ b) (hs' : s' < 18446744073709551616) : Sv (nextW w g p s' n) g A c bs (b + 1) ∧ w.grownBy (nextW w g p s' n) (some g) ∧ (nextW w g p s' n).heap.size = w.heap.size :=
  ⟨⟨⟨p + 1, s', nextW_src hs, hs', by omega⟩, h.bytes.grown (nextW_grown w g p s' n) h.far, h.far, h.len⟩, nextW_grown w g p s' n, by simp [nextW]⟩
theorem OwnC.grownG {lo hi n cc : Nat} {e : TypeId} {sz : Nat} {B : Option Addr} {cs : List Value} (h : OwnC w lo hi e sz B n cc cs) (hg : w.grownBy w' (some g)) (hlo : g < lo ∨ hi ≤ g) : OwnC w' lo hi e sz B n cc cs :=
  h.keep fun k h1 h2 h3 => hg.block k h3 (fun e => by injection e with e; omega)
theorem Blk.grownG {g2 : Nat} {t : TypeId} {cs : Array Value} (h : Blk w g2 t cs) (hg : w.grownBy w' (some g)) (hne : g2 ≠ g) : Blk w' g2 t cs :=
  (hg.block g2 h.lt (fun e => by injection e with e; exact hne e)).trans h
theorem Ints.grownG {B : Option Addr} {xs : List Int} (h : Ints w B xs) (hg : w.grownBy w' (some g)) (hB : ∀ a, B = some a → a.block ≠ g) : Ints w' B xs :=
  fun k hk => by
    obtain ⟨b, off, x, hA, hc, hx⟩ := h k hk
    exact ⟨b, off, x, hA, hg.cell hc (fun e => by injection e with e; exact hB _ hA e), hx⟩
end
theorem below_grownG {w w' : World} {g : Nat} (h : Below w.heap.size w w') : w.grownBy w' (some g) := ⟨h.os, h.tape, h.output, h.size, fun k hk _ => h.block k hk⟩
theorem gb_below {w w' : World} {g B : Nat} (h : w.grownBy w' (some g)) (hB : B ≤ g) (hw : B ≤ w.heap.size) : Below B w w' :=
  ⟨h.os, h.tape, h.output, h.size, fun k hk => h.block k (by omega) (fun e => by injection e with e; omega)⟩

theorem gb_set {w w1 : World} {g : Nat} (h : w.grownBy w1 (some g)) {p : Addr} (hp : w.heap.size ≤ p.block) (u : Value) : w.grownBy (w1.setCell p u) (some g) :=
  ⟨h.os, h.tape, h.output, by simpa using h.size, fun q hq hne => (Below.heap_setCell w1 p u q (by omega)).trans (h.block q hq hne)⟩
theorem gb_app {w w1 w2 : World} {g : Nat} {row : Option Nat} (h : w.grownBy w1 (some g)) (hg : w1.grownBy w2 row) (hr : ∀ q, row = some q → w.heap.size ≤ q) : w.grownBy w2 (some g) :=
  ⟨hg.os.trans h.os, hg.tape.trans h.tape, hg.output.trans h.output, Nat.le_trans h.size hg.size, fun q hq hne => (hg.block q (Nat.lt_of_lt_of_le hq h.size) (fun e => by have := hr q e.symm; omega)).trans (h.block q hq hne)⟩
theorem gb_al {w w1 : World} {g : Nat} (h : w.grownBy w1 (some g)) (o : Obj) : w.grownBy (w1.alloc o) (some g) := h.trans (World.grownBy_alloc _ _ _)
theorem gb_bel {w w1 w2 : World} {g : Nat} (h : w.grownBy w1 (some g)) (b : Below w1.heap.size w1 w2) : w.grownBy w2 (some g) := h.trans (below_grownG b)

/-- Rows (29) outside the source's block. -/
theorem OwnRows.grownG {w w' : World} {g : Nat} {lo hi n cc : Nat} {B : Option Addr} {rs : List RowD} (h : OwnRows w lo hi B n cc rs) (hg : w.grownBy w' (some g)) (hlo : g < lo ∨ hi ≤ g) : OwnRows w' lo hi B n cc rs :=
  h.keep fun k h1 h2 h3 => hg.block k h3 (fun e => by injection e with e; omega)
theorem sv_pick (m : Int) (hm : m ≤ 200) {w : World} {g : Nat} {A : Option Addr} {c : Nat} {bs : List Int} {b : Nat} (h : Sv w g A c bs b) (hb : b ≤ 1152921504606846000) :
    Calls Try.prog 67 #[.pointer (some ⟨g, 0, none⟩), .int .i64 m] w fun e w' => ∃ x : Int, e = .returned (.int .i64 x) ∧ 0 ≤ x ∧ (x < m ∨ x = 0) ∧ Sv w' g A c bs (b + 1) ∧ w.grownBy w' (some g) ∧ w'.heap.size = w.heap.size := by
  by_cases h1 : m ≤ 1
  · have d1 : decide (m ≤ 1) = true := decide_eq_true h1
    go_enter Try.func67, Try.ntmps67
    go_wp2_with (fail)
    go_ret
    exact ⟨0, rfl, by decide, .inr rfl, h.mono (by omega), ⟨rfl, rfl, rfl, Nat.le_refl _, fun _ _ _ => rfl⟩, rfl⟩
  · obtain ⟨p, s, q1, q2, q3⟩ := h.ex
    refine (spec_pick m g A c p s bs w q1 h.bytes (by omega) q2 ⟨by omega, hm⟩).mono ?_
    rintro e w2 ⟨x, s', n, rfl, hx, rfl⟩
    obtain ⟨k1, k2, k3⟩ := h.next q1 (n := n) q3 hx.2.1
    exact ⟨_, rfl, Int.emod_nonneg x (by omega), .inl (Int.emod_lt_of_pos x (by omega)), k1, k2, k3⟩

theorem sv_one (m : Int) (hm : 2 ≤ m ∧ m ≤ 200) {w : World} {g : Nat} {A : Option Addr} {c : Nat} {bs : List Int} {b : Nat} (h : Sv w g A c bs b) (hb : b ≤ 1152921504606846000) :
    Calls Try.prog 69 #[.pointer (some ⟨g, 0, none⟩), .int .i64 m] w fun e w' => ∃ x : Bool, e = .returned (.bool x) ∧ Sv w' g A c bs (b + 1) ∧ w.grownBy w' (some g) ∧ w'.heap.size = w.heap.size := by
  obtain ⟨p, s, q1, q2, q3⟩ := h.ex
  refine (spec_one m g A c p s bs w q1 h.bytes (by omega) q2 hm).mono ?_
  rintro e w2 ⟨y, x, s', n, rfl, hx, rfl⟩
  obtain ⟨k1, k2, k3⟩ := h.next q1 (n := n) q3 hx.2.1
  exact ⟨_, rfl, k1, k2, k3⟩

theorem sv_among (l : List Int) (L : Option Addr) (d : Nat) (hl : 2 ≤ l.length ∧ l.length ≤ 200) {w : World} {g : Nat} {A : Option Addr} {c : Nat} {bs : List Int} {b : Nat} (h : Sv w g A c bs b) (hb : b ≤ 1152921504606846000) (hL : Ints w L l) (hLg : ∀ a, L = some a → a.block ≠ g) :
    Calls Try.prog 68 #[.pointer (some ⟨g, 0, none⟩), .slice L l.length d] w fun e w' => ∃ y : Int, e = .returned (.int .i64 y) ∧ y ∈ l ∧ Sv w' g A c bs (b + 1) ∧ w.grownBy w' (some g) ∧ w'.heap.size = w.heap.size := by
  obtain ⟨p, s, q1, q2, q3⟩ := h.ex
  refine (spec_among l L d g A c p s bs w q1 h.bytes (by omega) q2 hL hLg hl).mono ?_
  rintro e w2 ⟨x, y, s', n, rfl, hy, hx, rfl⟩
  obtain ⟨k1, k2, k3⟩ := h.next q1 (n := n) q3 hx.2.1
  exact ⟨_, rfl, List.mem_of_getElem? hy, k1, k2, k3⟩

theorem spec_l00From (A : Option Addr) (c : Nat) (bs : List Int) (w : World) (hby : Bytes w A bs) (hl : bs.length ≤ 1099511627776) :
    Calls Try.prog 36 #[.slice A bs.length c] w fun e w' => e = .returned (.pointer (some ⟨w.heap.size, 0, none⟩)) ∧ Sv w' w.heap.size A c bs 0 ∧ Below w.heap.size w w' ∧ w'.heap.size = w.heap.size + 1 := by
  have kb := Blk.new w 102 #[.slice A bs.length c, .int .i64 0, .int .u64 0]
  go_enter Try.func36, Try.ntmps36
  go_wp2_with (fail)
  go_ret
  have hb : Below w.heap.size w (w.alloc (.cells #[.slice A bs.length c, .int .i64 0, .int .u64 0] 102)) := by (repeat (first | exact Below.refl _ _ | assumption | apply Below.drew | apply below_drewN | (refine Below.alloc ?_ (by first | omega | (simp; done) | (simp; omega)) _) | (refine Below.setCell ?_ (by first | omega | (simp; done) | (simp; omega)) _)))
  refine ⟨rfl, ⟨⟨0, 0, kb, by decide, Nat.le_refl _⟩, hby.of_cells (cells_below hb), fun h0 a ha => ?_, hl⟩, hb, by simp⟩
  obtain ⟨b, off, x, hA, _, hc, _⟩ := hby 0 h0
  have h2 := cell_lt hc
  rw [ha] at hA
  injection hA with hA
  subst hA
  exact h2

end Go.Proofs.Ytnjgmhdmjaijgaa
