/- Steps of the proof, joined from several texts: JD SL SN SO JB. -/
import Derived.Test.YtnjgmhdmjaijgaaGreatDoorZ12
import Derived.Test.YtnjgmhdmjaijgaaGreatDoorZ10
import Derived.Deep.DeepCutAuto
import Derived.Shelf.Strings.Prefix
import Derived.Test.YtnjgmhdmjaijgaaGreatDoorZ1
import Derived.Shelf.Strconv.Itoa4
import Derived.Shelf.Strconv.ParseIntPublic10
import Derived.Shelf.Strconv.ErrVarParseInt
import Derived.Test.YtnjgmhdmjaijgaaGreatDoorZ3
import Derived.Lib.AppendIntMem
import Derived.Lib.SmallJoins

/- Reading of charts, the given side. -/
namespace Go.Proofs.YtnjgmhdmjaijgaaGreatDoor
open Go Go.RowKit

theorem rdS_big {s : ByteArray} (h : 208 < s.size) : rdS s = none := by rw [rdS, if_pos h]
theorem rdS_notok {s : ByteArray} (h : linesOk s = false) : rdS s = none := by
  unfold rdS
  by_cases hz : 208 < s.size
  · rw [if_pos hz]
  · rw [if_neg hz, if_pos h]
theorem rdS_nil {s : ByteArray} (h : linesP s = []) : rdS s = none := by
  unfold rdS
  split
  · rfl
  · split
    · rfl
    · rw [h]
theorem rdS_head {s h : ByteArray} {ls : List ByteArray} (hl : linesP s = h :: ls) (hn : ¬ (h.size = 7 ∧ h.data.toList.take 6 = preL)) : rdS s = none := by
  unfold rdS
  split
  · rfl
  · split
    · rfl
    · rw [hl]
      simp only
      rw [if_neg hn]
theorem rdS_row {s h : ByteArray} {ls : List ByteArray} (hl : linesP s = h :: ls) (hn : optAll rowS ls = none) : rdS s = none := by
  unfold rdS
  split
  · rfl
  · split
    · rfl
    · rw [hl]
      simp only
      split
      · rw [hn]
      · rfl
theorem rdS_end {s h : ByteArray} {ls : List ByteArray} {rs : List RowD} (hz : ¬ 208 < s.size) (hok : linesOk s = true) (hl : linesP s = h :: ls) (hh : h.size = 7 ∧ h.data.toList.take 6 = preL) (hn : optAll rowS ls = some rs) : rdS s = if chText (digS (byteAt h 6)) rs = s then some (digS (byteAt h 6), rs) else none := by
  unfold rdS
  rw [if_neg hz, if_neg (by rw [hok]; decide), hl]
  simp only
  rw [if_pos hh, hn]
theorem pre_ext {h : ByteArray} (h7 : h.size = 7) : h.extract 0 6 = ⟨#[99, 104, 97, 114, 116, 32]⟩ ↔ h.data.toList.take 6 = preL := by
  have e := ext_list h 0 6 (by omega)
  simp only [List.drop_zero, Nat.sub_zero] at e
  rw [← e]
  constructor
  · intro hh; rw [hh]; rfl
  · intro hh
    exact ByteArray.ext (Array.toList_inj.1 (by rw [hh]; rfl))
theorem byteAt_get {h : ByteArray} {i : Nat} (hi : i < h.size) : byteAt h i = h[i]'hi := by
  unfold byteAt
  rw [Array.getElem?_toList, Array.getElem?_eq_getElem hi]
  rfl
theorem rowS_short {l : ByteArray} (h : l.size < 4) : rowS l = none := by rw [rowS, if_pos h]
theorem rowS_bad {l : ByteArray} (h : readOk (l.extract 4 l.size) = false) : rowS l = none := by
  unfold rowS
  split
  · rfl
  · rw [h]; rfl
theorem rowS_good {l : ByteArray} (h4 : ¬ l.size < 4) (h : readOk (l.extract 4 l.size) = true) : rowS l = some ⟨if byteAt l 0 = 60 then -1 else 1, digS (byteAt l 2), readP (l.extract 4 l.size)⟩ := by rw [rowS, if_neg h4, if_pos h]

theorem byte_is60 {b : UInt8} : ((b.toNat : Int) == 60) = decide (b = 60) := by
  by_cases h : b = 60
  · rw [decide_eq_true h, h]; rfl
  · rw [decide_eq_false h, beq_eq_false_iff_ne]
    intro e
    apply h
    apply UInt8.toNat_inj.1
    have e2 : (60 : UInt8).toNat = 60 := rfl
    rw [e2]
    omega

set_option maxHeartbeats 8000000 in
set_option maxRecDepth 10000 in
theorem spec_ReadChart (s : ByteArray) (w : World) (hl : s.size ≤ 1000000000) :
    Calls Tryz.prog 5 #[.string s] w fun e w' => ∃ A' c', e = .returned (.tuple #[.agg #[.int .i64 (rdN s), .slice A' (rdR s).length c'], .bool (rdOk s)]) ∧ OwnRows w' w.heap.size w'.heap.size A' (rdR s).length c' (rdR s) ∧ Below w.heap.size w w' := by
  have kz := Blk.new w 24 #[.int .i64 0, .slice none 0 0]
  have hb1 : Below w.heap.size w (w.alloc (.cells #[.int .i64 0, .slice none 0 0] 24)) := by (repeat (first | exact Below.refl _ _ | assumption | apply Below.drew | apply below_drewN | (refine Below.alloc ?_ (by first | omega | (simp; done) | (simp; omega)) _) | (refine Below.setCell ?_ (by first | omega | (simp; done) | (simp; omega)) _)))
  have t1 : (24 : TypeId) ≠ 2 := by decide
  have t2 : (24 : TypeId) ≠ 42 := by decide
  obtain ⟨iR, hi1, hy0, hy1, hy2⟩ := info_parts info_Row
  by_cases hbig : 208 < s.size
  · have db : decide ((s.size : Int) > 208) = true := decide_eq_true (by omega)
    have HBIG := Lib.hid hbig; clear hbig
    go_enter Tryz.func5, Tryz.ntmps5
    have HF := Lib.hid (rd_none' (rdS_big HBIG.out))
    have g0 := kz.frozen 0
    have g1 := kz.frozen 1
    obtain ⟨r0, r1⟩ := kz.c2
    go_wp2_with (fail)
    refine bodyPost_ret (v := .tuple #[.agg #[.int .i64 (rdN s), .slice none (rdR s).length 0], .bool (rdOk s)]) (by rw [HF.out.1, HF.out.2.1, HF.out.2.2]; simp [results, Tryz.results5, go_sem, r0, r1]) rfl ⟨none, 0, rfl, ?_, ?_⟩
    · rw [HF.out.2.1]; exact OwnRows.nil _ _ _
    · have hbb := hb1
      (repeat (first | exact Below.refl _ _ | assumption | apply Below.drew | apply below_drewN | (refine Below.alloc ?_ (by first | omega | (simp; done) | (simp; omega)) _) | (refine Below.setCell ?_ (by first | omega | (simp; done) | (simp; omega)) _)))
  · have db : decide ((s.size : Int) > 208) = false := decide_eq_false (by omega)
    go_enter Tryz.func5, Tryz.ntmps5
    go_wp2_with (fail)
    refine (spec_l15Lines s _ hl).mono ?_; rintro e w2 ⟨A2, c2, rfl, o2, b2⟩
    have hb2 : Below w.heap.size w w2 := hb1.trans (b2.mono (by simp))
    have kz2 := kz.below b2 (by simp)
    clear kz hb1 b2
    cases hok : linesOk s
    · have HF := Lib.hid (rd_none' (rdS_notok hok))
      have g0 := kz2.frozen 0
      have g1 := kz2.frozen 1
      obtain ⟨r0, r1⟩ := kz2.c2
      go_wp2_with (fail)
      refine bodyPost_ret (v := .tuple #[.agg #[.int .i64 (rdN s), .slice none (rdR s).length 0], .bool (rdOk s)]) (by rw [HF.out.1, HF.out.2.1, HF.out.2.2]; simp [results, Tryz.results5, go_sem, r0, r1]) rfl ⟨none, 0, rfl, ?_, ?_⟩
      · rw [HF.out.2.1]; exact OwnRows.nil _ _ _
      · have hbb := hb2
        (repeat (first | exact Below.refl _ _ | assumption | apply Below.drew | apply below_drewN | (refine Below.alloc ?_ (by first | omega | (simp; done) | (simp; omega)) _) | (refine Below.setCell ?_ (by first | omega | (simp; done) | (simp; omega)) _)))
    · have hlsz := lnAt_sizes s s.size
      have HLS : Hid (∀ l ∈ linesP s, l.size ≤ 1000000000) := Lib.hid (fun l h => Nat.le_trans (hlsz l h) hl)
      clear hlsz
      cases hL : linesP s with
      | nil =>
        rw [hL] at o2
        have HF := Lib.hid (rd_none' (rdS_nil hL))
        have g0 := kz2.frozen 0
        have g1 := kz2.frozen 1
        obtain ⟨r0, r1⟩ := kz2.c2
        go_wp2_with (fail)
        refine bodyPost_ret (v := .tuple #[.agg #[.int .i64 (rdN s), .slice none (rdR s).length 0], .bool (rdOk s)]) (by rw [HF.out.1, HF.out.2.1, HF.out.2.2]; simp [results, Tryz.results5, go_sem, r0, r1]) rfl ⟨none, 0, rfl, ?_, ?_⟩
        · rw [HF.out.2.1]; exact OwnRows.nil _ _ _
        · have hbb := hb2
          (repeat (first | exact Below.refl _ _ | assumption | apply Below.drew | apply below_drewN | (refine Below.alloc ?_ (by first | omega | (simp; done) | (simp; omega)) _) | (refine Below.setCell ?_ (by first | omega | (simp; done) | (simp; omega)) _)))
      | cons h ls =>
        have HEND := Lib.hid (fun rs hh hn => rdS_end (s := s) (rs := rs) hbig hok hL hh hn)
        have HROW := Lib.hid (fun hn => rdS_row (s := s) hL hn)
        have HHEAD := Lib.hid (fun hn => rdS_head (s := s) hL hn)
        rw [hL] at o2 HLS
        have hLL : ((h :: ls).length : Int) ≤ 1000000001 := by
          have h1 := (lnAt_le s s.size).2
          rw [linesP] at hL
          rw [hL] at h1
          omega
        clear hok hL hbig
        have hlc : ∀ k l, (h :: ls)[k]? = some l → ∃ b off, A2 = some ⟨b, off, none⟩ ∧ w2.cell? ⟨b, off + k, none⟩ = some (.string l) := fun k l hk => o2.news k (.string l) (by rw [List.getElem?_map, hk]; rfl)
        obtain ⟨b, off, rfl, hc00⟩ := hlc 0 h rfl
        have hc0 : w2.cell? ⟨b, off, none⟩ = some (.string h) := hc00
        have HLC : Hid (∀ k l, ls[k]? = some l → w2.cell? ⟨b, off + (k + 1), none⟩ = some (.string l)) := Lib.hid (fun k l hk => by
          obtain ⟨b', off', hA, hc⟩ := hlc (k + 1) l (by simpa using hk)
          injection hA with hA
          injection hA with hA1 hA2
          subst hA1 hA2
          exact hc)
        have HLSZ : Hid (∀ l ∈ ls, l.size ≤ 1000000000) := Lib.hid (fun l hl => HLS.out l (by simp [hl]))
        have hhs := HLS.out h (by simp)
        clear hlc hc00 o2 HLS
        have hll1 : ((h :: ls).length : Int) = (ls.length : Int) + 1 := by simp
        obtain ⟨N, hN⟩ : ∃ N, N = (h :: ls).length := ⟨_, rfl⟩
        rw [← hN] at hLL hll1 ⊢
        have HNE : Hid (N = ls.length + 1) := Lib.hid (by rw [hN]; rfl)
        clear hN
        have e0 : ((N : Int) == 0) = false := by rw [beq_eq_false_iff_ne]; omega
        have i0 : (0 : Int) < (N : Int) := by omega
        clear hll1
        by_cases h7 : h.size = 7
        · have d7 : ((h.size : Int) != 7) = false := by rw [h7]; decide
          have s6 : (6 : Int) ≤ (h.size : Int) := by omega
          by_cases hpre : h.extract 0 6 = ⟨#[99, 104, 97, 114, 116, 32]⟩
          · have HH : Hid (h.size = 7 ∧ h.data.toList.take 6 = preL) := Lib.hid ⟨h7, (pre_ext h7).1 hpre⟩
            have hb6 : byteAt h 6 = h[6]'(by omega) := byteAt_get (by omega)
            have HDG := Lib.hid (fun W => spec_l15Digit (h[6]'(by omega)) W)
            rw [← hb6] at HDG
            obtain ⟨cn, hcn⟩ : ∃ cn, cn = digS (byteAt h 6) := ⟨_, rfl⟩
            rw [← hcn] at HDG HEND
            have hbb : (h[6]'(by omega)).toNat = (byteAt h 6).toNat := by rw [hb6]
            have i6 : (6 : Int) < (h.size : Int) := by omega
            clear hcn hb6
            have hh7 : (h[6]'(by omega) : UInt8) = byteAt h 6 := (byteAt_get (by omega)).symm
            obtain ⟨w3, hw3⟩ : ∃ w3, w3 = w2.alloc (.cells #[.int .i64 cn, .slice none 0 0] 24) := ⟨_, rfl⟩
            obtain ⟨gC, hgC⟩ : ∃ gC, gC = w2.heap.size := ⟨_, rfl⟩
            have kx3 : Blk w3 gC 24 #[.int .i64 cn, .slice none 0 0] := by rw [hw3, hgC]; exact Blk.new w2 _ _
            have kz3 : Blk w3 w.heap.size 24 #[.int .i64 0, .slice none 0 0] := by rw [hw3]; exact kz2.alloc _
            have hzC : w.heap.size < gC := by rw [hgC]; exact kz2.lt
            have hbc3 : Below gC w2 w3 := by rw [hw3, hgC]; exact (Below.refl _ _).alloc (Nat.le_refl _) _
            have HCB : Hid (∀ W, Below gC w2 W → Below w2.heap.size w2 W) := Lib.hid (fun W hW => by rw [← hgC]; exact hW)
            have HCW : Hid (∀ W, Below gC w2 W → Below w.heap.size w W) := Lib.hid (fun W hW => hb2.trans (hW.mono (by omega)))
            go_upto_region 6 with fail
            have hlx := kx3.lt
            have hG3 : GrowInv cn gC (gC + 1) w3 0 [] := ⟨rfl, by omega, by omega, none, 0, [], kx3, OwnC.nil _ _ _ _ _, CellsRows.nil⟩
            go_upto_region 8 with (go_at_call 20; refine (HDG.out _).mono ?_; rintro e _ ⟨rfl, rfl⟩)
            rw [← hw3, ← hgC]
            clear hw3 hgC kz2 kx3 hc0 hbb hpre
            go_loopw [7] (fun iv wr => ∃ (k : Nat) (done : List RowD), k ≤ ls.length ∧ iv = .int .i64 ((k : Int) + 1) ∧ Blk wr w.heap.size 24 #[.int .i64 0, .slice none 0 0] ∧ GrowInv cn gC (gC + 1) wr k done ∧ Hid (optAll rowS (ls.take k) = some done) ∧ Below gC w2 wr) (fun iv _ => ls.length + 1 - (intOf iv).toNat)
            case atStart => exact ⟨0, [], Nat.zero_le _, rfl, kz3, hG3, Lib.hid rfl, hbc3⟩
            case round =>
              clear kz3 hG3 hbc3 hlx
              obtain ⟨k, done, hk, rfl, kz, hG, HDONE, hbc⟩ := hrel
              obtain ⟨hdl, hlt, hlo, A', c', cs, kb, ho, hcr⟩ := hG
              by_cases hkl : k < ls.length
              · have hx : ls[k]? = some (ls[k]'hkl) := List.getElem?_eq_getElem _
                obtain ⟨l, hle⟩ : ∃ l, l = ls[k]'hkl := ⟨_, rfl⟩
                rw [← hle] at hx
                clear hle
                have hcl := cells_below (HCB.out _ hbc) _ _ (HLC.out k l hx)
                have hls := HLSZ.out l (List.mem_of_getElem? hx)
                have HX := Lib.hid hx; clear hx
                have dk : decide ((k : Int) + 1 < (N : Int)) = true := decide_eq_true (by have := HNE.out; omega)
                have j1 : (0 : Int) ≤ (k : Int) + 1 := by omega
                have j2 : (k : Int) + 1 < (N : Int) := by have := HNE.out; omega
                have j3 : ((k : Int) + 1).toNat = k + 1 := by omega
                have hNb : (N : Int) ≤ 1000000001 := hLL
                by_cases h4 : l.size < 4
                · have d4 : decide ((l.size : Int) < 4) = true := decide_eq_true (by omega)
                  have HR : Hid (rdS s = none) := Lib.hid (HROW.out (optAll_none (List.mem_of_getElem? HX.out) (rowS_short h4)))
                  clear h4
                  have HF := Lib.hid (rd_none' (HR.out))
                  have g0 := kz.frozen 0
                  have g1 := kz.frozen 1
                  obtain ⟨r0, r1⟩ := kz.c2
                  go_wp2_with (fail)
                  refine bodyPost_ret (v := .tuple #[.agg #[.int .i64 (rdN s), .slice none (rdR s).length 0], .bool (rdOk s)]) (by rw [HF.out.1, HF.out.2.1, HF.out.2.2]; simp [results, Tryz.results5, go_sem, r0, r1]) rfl ⟨none, 0, rfl, ?_, ?_⟩
                  · rw [HF.out.2.1]; exact OwnRows.nil _ _ _
                  · have hbb := HCW.out _ hbc
                    (repeat (first | exact Below.refl _ _ | assumption | apply Below.drew | apply below_drewN | (refine Below.alloc ?_ (by first | omega | (simp; done) | (simp; omega)) _) | (refine Below.setCell ?_ (by first | omega | (simp; done) | (simp; omega)) _)))
                · have d4 : decide ((l.size : Int) < 4) = false := decide_eq_false (by omega)
                  have s4 : (4 : Int) ≤ (l.size : Int) := by omega
                  have hes : (l.extract 4 l.size).size ≤ 9223372036854775807 := by rw [ByteArray.size_extract]; omega
                  obtain ⟨hW, hhW⟩ : ∃ hW, hW = wr.heap.size := ⟨_, rfl⟩
                  have HRD := Lib.hid (spec_ReadStitches (l.extract 4 l.size) wr hes)
                  have HGD := Lib.hid (rowS_good h4)
                  have HBD := Lib.hid (rowS_bad (l := l))
                  have HRL := Lib.hid (readP_length (l.extract 4 l.size))
                  obtain ⟨tx, htx⟩ : ∃ tx, tx = l.extract 4 l.size := ⟨_, rfl⟩
                  rw [← htx] at HRD HGD HBD HRL
                  have HTX := Lib.hid htx; clear htx
                  go_upto_region 13 with fail
                  go_upto_region 14 with (go_at_call 21; rw [← HTX.out]; refine HRD.out.mono ?_; rintro e w5 ⟨A5, c5, rfl, o5, b5⟩)
                  have kz5 := kz.below b5 kz.lt
                  have kb5 := kb.below b5 kb.lt
                  have hbc5 : Below gC w2 w5 := hbc.trans (b5.mono (by omega))
                  have hz5 := b5.size
                  have ho5 : OwnC w5 (gC + 1) hW 42 3 A' k c' cs := by rw [hhW]; exact ho.below b5 (Nat.le_refl _)
                  have hcr5 : CellsRows w5 (gC + 1) hW cs done := by rw [hhW]; exact hcr.keep fun q _ h2 _ => b5.block q (by omega)
                  rw [← hhW] at o5 hlo hz5
                  clear kz kb ho hcr hbc b5 HRD hhW
                  cases hro : readOk tx
                  · have HR : Hid (rdS s = none) := Lib.hid (HROW.out (optAll_none (List.mem_of_getElem? HX.out) (HBD.out hro)))
                    have HF := Lib.hid (rd_none' (HR.out))
                    have g0 := kz5.frozen 0
                    have g1 := kz5.frozen 1
                    obtain ⟨r0, r1⟩ := kz5.c2
                    go_wp2_with (fail)
                    refine bodyPost_ret (v := .tuple #[.agg #[.int .i64 (rdN s), .slice none (rdR s).length 0], .bool (rdOk s)]) (by rw [HF.out.1, HF.out.2.1, HF.out.2.2]; simp [results, Tryz.results5, go_sem, r0, r1]) rfl ⟨none, 0, rfl, ?_, ?_⟩
                    · rw [HF.out.2.1]; exact OwnRows.nil _ _ _
                    · have hbb := HCW.out _ hbc5
                      (repeat (first | exact Below.refl _ _ | assumption | apply Below.drew | apply below_drewN | (refine Below.alloc ?_ (by first | omega | (simp; done) | (simp; omega)) _) | (refine Below.setCell ?_ (by first | omega | (simp; done) | (simp; omega)) _)))
                  · have hgd := HGD.out hro
                    have hxl := HRL.out
                    generalize readP tx = xs at *
                    have hcr0 : digS (byteAt l 2) = digS (l[2]'(by omega)) := by rw [byteAt_get (show 2 < l.size by omega)]
                    rw [hcr0] at hgd
                    clear hcr0
                    have hb0b : (l[0]'(by omega) : UInt8) = byteAt l 0 := (byteAt_get (by omega)).symm
                    have hq1 : (((byteAt l 0).toNat : Int) == 60) = decide (byteAt l 0 = 60) := byte_is60
                    obtain ⟨d, hd⟩ : ∃ d : Int, d = if byteAt l 0 = 60 then -1 else 1 := ⟨_, rfl⟩
                    rw [← hd] at hgd
                    have HGD2 := Lib.hid hgd
                    have hd2 : d = if decide (byteAt l 0 = 60) = true then -1 else 1 := by rw [hd]; simp
                    obtain ⟨w6, hw6⟩ : ∃ w6, w6 = w5.alloc (.cells #[.int .i64 1, .int .i64 (digS (l[2]'(by omega))), .slice A5 xs.length c5] 42) := ⟨_, rfl⟩
                    obtain ⟨gr, hgr⟩ : ∃ gr, gr = w5.heap.size := ⟨_, rfl⟩
                    have kr6 : Blk w6 gr 42 #[.int .i64 1, .int .i64 (digS (l[2]'(by omega))), .slice A5 xs.length c5] := by rw [hw6, hgr]; exact Blk.new w5 _ _
                    have kz6 : Blk w6 w.heap.size 24 #[.int .i64 0, .slice none 0 0] := by rw [hw6]; exact kz5.alloc _
                    have kb6 : Blk w6 gC 24 #[.int .i64 cn, .slice A' k c'] := by rw [hw6]; exact kb5.alloc _
                    have ho6 : OwnC w6 (gC + 1) hW 42 3 A' k c' cs := by rw [hw6]; exact ho5.alloc _
                    have hcr6 : CellsRows w6 (gC + 1) hW cs done := by rw [hw6]; exact hcr5.keep fun q _ _ h3 => Below.heap_alloc w5 _ q h3
                    have o6 : OwnI w6 hW gr A5 c5 xs := by rw [hw6, hgr]; exact OwnC.alloc o5 _
                    have hbc6 : Below gC w2 w6 := by rw [hw6]; exact Below.alloc hbc5 (by omega) _
                    have hWr : hW ≤ gr := by rw [hgr]; exact hz5
                    clear hgd hro HGD HBD HRL
                    go_upto_region 17 with (go_at_call 20; refine (spec_l15Digit _ _).mono ?_; rintro e _ ⟨rfl, rfl⟩)
                    rw [← hw6, ← hgr]
                    clear hw6 hgr kz5 kb5 ho5 hcr5 o5 hbc5 hd
                    generalize digS (l[2]'(by omega)) = cr at *
                    go_upto_if 79 with fail
                    (try rw [hb0b]); (try rw [hq1])
                    clear hq1 hb0b
                    generalize decide (byteAt l 0 = 60) = bq at *
                    go_cut [] (fun wx => Blk wx gr 42 #[.int .i64 d, .int .i64 cr, .slice A5 xs.length c5] ∧ Blk wx w.heap.size 24 #[.int .i64 0, .slice none 0 0] ∧ Blk wx gC 24 #[.int .i64 cn, .slice A' k c'] ∧ OwnC wx (gC + 1) hW 42 3 A' k c' cs ∧ CellsRows wx (gC + 1) hW cs done ∧ OwnI wx hW gr A5 c5 xs ∧ Below gC w2 wx)
                    case first =>
                      have fr := kr6.frozen 0
                      obtain ⟨z0, z1, z2⟩ := kr6.c3
                      cases bq
                      · have HD : Hid (d = 1) := Lib.hid (by rw [hd2]; rfl)
                        clear hd2
                        go_wp2_with (fail)
                        go_meet
                        rw [HD.out]
                        exact ⟨kr6, kz6, kb6, ho6, hcr6, o6, hbc6⟩
                      · have HD : Hid (d = -1) := Lib.hid (by rw [hd2]; rfl)
                        clear hd2
                        go_wp2_with (fail)
                        go_meet
                        rw [HD.out]
                        exact ⟨kr6.set30 _, kz6.far (p := ⟨gr, 0, none⟩) (by show w.heap.size ≠ gr; omega) _, kb6.far (p := ⟨gr, 0, none⟩) (by show gC ≠ gr; omega) _, ho6.far (p := ⟨gr, 0, none⟩) (.inr (by show hW ≤ gr; omega)) _, hcr6.keep (fun q h1 h2 _ => Below.heap_setCell w6 _ _ q (by show q ≠ gr; omega)), OwnC.far o6 (p := ⟨gr, 0, none⟩) (.inr (Nat.le_refl _)) _, hbc6.setCell (by show gC ≤ gr; omega) _⟩
                    case rest =>
                    clear kr6 kz6 kb6 ho6 hcr6 o6 hbc6 hd2
                    obtain ⟨kr, kz, kb, ho, hcr, o4, hbc⟩ := hcut
                    have hrl := kr.lt
                    obtain ⟨z0, z1, z2⟩ := kr.c3
                    obtain ⟨s0, s1⟩ := kb.c2
                    have hWc : hW ≤ wc.heap.size := by omega
                    have o4' : OwnI wc hW wc.heap.size A5 c5 xs := OwnC.mono o4 (Nat.le_refl _) (by omega)
                    have HSNOC : Hid (optAll rowS (ls.take (k + 1)) = some (done ++ [⟨d, cr, xs⟩])) := Lib.hid (by rw [take_snoc HX.out]; exact optAll_snoc HDONE.out HGD2.out)
                    have hk9 : k ≤ 1000000001 := by have := HNE.out; omega
                    have hlo2 : gC + 1 ≤ wc.heap.size := by omega
                    go_wp2_with (at_builtin; refine wpList_append1 wc [.int .i64 d, .int .i64 cr, .slice A5 xs.length c5] _ rfl (.tmp 82) (.tmp 84) _ rfl 42 iR _ 3 40 Tryz.underlying22 hi1 hy0 hy1 hy2 rfl (by decide) rfl ho hlo2 1 rfl rfl (by simp [Value.oneCell']) (by omega) (by decide) ?_; intro A9 c9 w8 ho8 hg8 hb8 hz8; have kb8 := (kb.alloc (.cells #[.int .i64 d, .int .i64 cr, .slice A5 xs.length c5] 42)).grownT (ho.alloc (.cells #[.int .i64 d, .int .i64 cr, .slice A5 xs.length c5] 42)) t2 hg8; obtain ⟨x0', x1'⟩ := kb8.c2; have f1 := kb8.frozen 1)
                    have kz8 := (kz.alloc (.cells #[.int .i64 d, .int .i64 cr, .slice A5 xs.length c5] 42)).grownT (ho.alloc (.cells #[.int .i64 d, .int .i64 cr, .slice A5 xs.length c5] 42)) t2 hg8
                    have gi' := GrowInv.step ⟨d, cr, xs⟩ hdl hlt hlo hWc kb ho hcr o4' ho8 hg8 hz8
                    refine ⟨⟨k + 1, done ++ [⟨d, cr, xs⟩], by omega, by go_num, kz8.far (p := ⟨gC, 1, none⟩) (by show w.heap.size ≠ gC; omega) _, gi', HSNOC, ?_⟩, by first | (simp [intOf]; done) | (simp [intOf]; omega)⟩
                    exact (hbc.trans (hb8.mono (by omega))).setCell (by show gC ≤ gC; omega) _
              · obtain rfl : k = ls.length := by omega
                have dk : decide ((ls.length : Int) + 1 < (N : Int)) = false := decide_eq_false (by have := HNE.out; omega)
                have HDN : Hid (optAll rowS ls = some done) := Lib.hid (by have := HDONE.out; rwa [take_all (Nat.le_refl _)] at this)
                have HE := Lib.hid (HEND.out done HH.out HDN.out)
                have oo : OwnRows wr (gC + 1) wr.heap.size A' ls.length c' done := ⟨cs, ho, hcr⟩
                rw [← hdl] at oo kb
                have hdn : done.length ≤ 1000000001 := by have := HNE.out; omega
                obtain ⟨s0, s1⟩ := kb.c2
                have hbw := HCW.out _ hbc
                clear HDN HDONE ho hcr hbc
                have HDL := Lib.hid hdl; clear hdl
                go_wp2_with (fail)
                refine (spec_ChartText cn done A' c' wr oo.rowsR (by omega)).mono ?_; rintro e w9 ⟨rfl, b9⟩
                have kz9 := kz.below b9 kz.lt
                have kb9 := kb.below b9 kb.lt
                have o9 := oo.below b9 (Nat.le_refl _)
                have hb9 : Below w.heap.size w w9 := hbw.trans (b9.mono hbw.size)
                have hz9 := b9.size
                clear kz kb oo hbw b9 s0 s1
                obtain ⟨T, hT⟩ : ∃ T, T = chText cn done := ⟨_, rfl⟩
                rw [← hT]
                rw [← hT] at HE
                clear hT
                by_cases hTs : T = s
                · have hbs : (T.toList == s.toList) = true := by rw [hTs]; simp
                  have HF := Lib.hid (rd_some' (show rdS s = some (cn, done) by rw [HE.out, if_pos hTs]))
                  clear hTs
                  have g0 := kz9.frozen 0
                  have g1 := kz9.frozen 1
                  obtain ⟨y0, y1⟩ := kz9.c2
                  obtain ⟨s0, s1⟩ := kb9.c2
                  have k1 := kz9.set20 (.int .i64 cn)
                  have k2 := k1.set21 (.slice A' done.length c')
                  have HO : Hid (OwnRows ((w9.setCell ⟨w.heap.size, 0, none⟩ (.int .i64 cn)).setCell ⟨w.heap.size, 1, none⟩ (.slice A' done.length c')) w.heap.size ((w9.setCell ⟨w.heap.size, 0, none⟩ (.int .i64 cn)).setCell ⟨w.heap.size, 1, none⟩ (.slice A' done.length c')).heap.size A' done.length c' done) := Lib.hid (((o9.farT kz9 t1 t2 0 _).farT k1 t1 t2 1 _).mono (by omega) (by simp; omega))
                  have HBB : Hid (Below w.heap.size w ((w9.setCell ⟨w.heap.size, 0, none⟩ (.int .i64 cn)).setCell ⟨w.heap.size, 1, none⟩ (.slice A' done.length c'))) := Lib.hid ((hb9.setCell (Nat.le_refl _) _).setCell (Nat.le_refl _) _)
                  obtain ⟨v0, v1⟩ := k2.c2
                  have HV0 := Lib.hid v0; have HV1 := Lib.hid v1
                  clear v0 v1 k1 k2 o9 hb9
                  go_wp2_with (fail)
                  have r0 := HV0.out
                  have r1 := HV1.out
                  refine bodyPost_ret (v := .tuple #[.agg #[.int .i64 cn, .slice A' done.length c'], .bool true]) (by simp [results, Tryz.results5, go_sem, r0, r1]) rfl ⟨A', c', by rw [HF.out.1, HF.out.2.1, HF.out.2.2], by rw [HF.out.2.1]; exact HO.out, HBB.out⟩
                · have hbs : (T.toList == s.toList) = false := by
                    rw [beq_eq_false_iff_ne]
                    intro e
                    rw [ByteArray.toList_eq, ByteArray.toList_eq] at e
                    exact hTs (ByteArray.ext (Array.toList_inj.1 e))
                  have HR : Hid (rdS s = none) := Lib.hid (by rw [HE.out, if_neg hTs])
                  clear hTs
                  obtain ⟨s0, s1⟩ := kb9.c2
                  have HF := Lib.hid (rd_none' (HR.out))
                  have g0 := kz9.frozen 0
                  have g1 := kz9.frozen 1
                  obtain ⟨r0, r1⟩ := kz9.c2
                  go_wp2_with (fail)
                  refine bodyPost_ret (v := .tuple #[.agg #[.int .i64 (rdN s), .slice none (rdR s).length 0], .bool (rdOk s)]) (by rw [HF.out.1, HF.out.2.1, HF.out.2.2]; simp [results, Tryz.results5, go_sem, r0, r1]) rfl ⟨none, 0, rfl, ?_, ?_⟩
                  · rw [HF.out.2.1]; exact OwnRows.nil _ _ _
                  · have hbb := hb9
                    (repeat (first | exact Below.refl _ _ | assumption | apply Below.drew | apply below_drewN | (refine Below.alloc ?_ (by first | omega | (simp; done) | (simp; omega)) _) | (refine Below.setCell ?_ (by first | omega | (simp; done) | (simp; omega)) _)))
          · have HH : Hid (¬ (h.size = 7 ∧ h.data.toList.take 6 = preL)) := Lib.hid (fun hh => hpre ((pre_ext h7).2 hh.2))
            have hpe : ((h.extract 0 6).toList == [99, 104, 97, 114, 116, 32]) = false := by
              rw [beq_eq_false_iff_ne]
              intro e
              rw [ByteArray.toList_eq] at e
              exact hpre (ByteArray.ext (Array.toList_inj.1 (by rw [e])))
            clear hpre h7
            have HF := Lib.hid (rd_none' (HHEAD.out HH.out))
            have g0 := kz2.frozen 0
            have g1 := kz2.frozen 1
            obtain ⟨r0, r1⟩ := kz2.c2
            go_wp2_with (fail)
            refine bodyPost_ret (v := .tuple #[.agg #[.int .i64 (rdN s), .slice none (rdR s).length 0], .bool (rdOk s)]) (by rw [HF.out.1, HF.out.2.1, HF.out.2.2]; simp [results, Tryz.results5, go_sem, r0, r1]) rfl ⟨none, 0, rfl, ?_, ?_⟩
            · rw [HF.out.2.1]; exact OwnRows.nil _ _ _
            · have hbb := hb2
              (repeat (first | exact Below.refl _ _ | assumption | apply Below.drew | apply below_drewN | (refine Below.alloc ?_ (by first | omega | (simp; done) | (simp; omega)) _) | (refine Below.setCell ?_ (by first | omega | (simp; done) | (simp; omega)) _)))
        · have d7 : ((h.size : Int) != 7) = true := by simp; omega
          have HH : Hid (¬ (h.size = 7 ∧ h.data.toList.take 6 = preL)) := Lib.hid (fun hh => h7 hh.1)
          clear h7
          have HF := Lib.hid (rd_none' (HHEAD.out HH.out))
          have g0 := kz2.frozen 0
          have g1 := kz2.frozen 1
          obtain ⟨r0, r1⟩ := kz2.c2
          go_wp2_with (fail)
          refine bodyPost_ret (v := .tuple #[.agg #[.int .i64 (rdN s), .slice none (rdR s).length 0], .bool (rdOk s)]) (by rw [HF.out.1, HF.out.2.1, HF.out.2.2]; simp [results, Tryz.results5, go_sem, r0, r1]) rfl ⟨none, 0, rfl, ?_, ?_⟩
          · rw [HF.out.2.1]; exact OwnRows.nil _ _ _
          · have hbb := hb2
            (repeat (first | exact Below.refl _ _ | assumption | apply Below.drew | apply below_drewN | (refine Below.alloc ?_ (by first | omega | (simp; done) | (simp; omega)) _) | (refine Below.setCell ?_ (by first | omega | (simp; done) | (simp; omega)) _)))

end Go.Proofs.YtnjgmhdmjaijgaaGreatDoor

/- Contracts of the library, laid. -/
namespace Go.Proofs.YtnjgmhdmjaijgaaGreatDoor
open Go Go.RowKit

def shelf_lays101_ren : Go.Shelf.Ren := ⟨fun | 101 => 25 | 208 => 49 | 206 => 80 | n => n, fun | 9 => 9 | 4 => 4 | 3 => 3 | n => n, fun | n => n⟩
theorem shelf_lays101 : Go.Proofs.Lays.n101 Tryz.prog shelf_lays101_ren := {
  mixed := by kernel_rfl
  f101 := Tryz.func25.trans (congrArg some (by kernel_rfl))
  f206 := Tryz.func80.trans (congrArg some (by kernel_rfl))
  f208 := Tryz.func49.trans (congrArg some (by kernel_rfl))
  t3 := Tryz.underlying3
  a3 := Tryz.isAgg3
  z3 := Tryz.sizeOf3
  v3 := Tryz.zeroValue3
  t4 := Tryz.underlying4
  a4 := Tryz.isAgg4
  z4 := Tryz.sizeOf4
  v4 := Tryz.zeroValue4
  t9 := Tryz.underlying9
  a9 := Tryz.isAgg9
  z9 := Tryz.sizeOf9
  v9 := Tryz.zeroValue9 }
theorem shelf_strings_TrimPrefix (s p : ByteArray) (w : World) :
    Calls Tryz.prog 25 #[.string s, .string p] w fun e w' => e = .returned (.string ⟨(Lib.trimPrefix s.data.toList p.data.toList).toArray⟩) ∧ w' = w := Any.strings_TrimPrefix shelf_lays101 s p w

end Go.Proofs.YtnjgmhdmjaijgaaGreatDoor

/- Contracts of the library, laid. -/
namespace Go.Proofs.YtnjgmhdmjaijgaaGreatDoor
open Go Go.RowKit

def shelf_laysM173_ren : Go.Shelf.Ren := ⟨fun | 173 => 79 | 246 => 111 | 283 => 135 | 284 => 136 | 285 => 137 | 286 => 138 | 129 => 143 | 317 => 142 | 318 => 144 | 319 => 145 | 320 => 146 | 337 => 147 | 338 => 148 | n => n, fun | 2 => 2 | 3 => 3 | 9 => 9 | 4 => 4 | 171 => 143 | 0 => 0 | 53 => 89 | 37 => 30 | 5 => 5 | 173 => 146 | 212 => 158 | 51 => 129 | 20 => 20 | 213 => 159 | 46 => 110 | 232 => 163 | 233 => 164 | n => n, fun | 17 => 5 | 18 => 6 | 19 => 7 | n => n⟩
theorem shelf_laysM173 : Go.Proofs.LaysM.n173 Tryz.prog shelf_laysM173_ren := {
  mixed := by kernel_rfl
  f129 := Tryz.func143.trans (congrArg some (by kernel_rfl))
  f173 := Tryz.func79.trans (congrArg some (by kernel_rfl))
  f246 := Tryz.func111.trans (congrArg some (by kernel_rfl))
  f283 := Tryz.func135.trans (congrArg some (by kernel_rfl))
  f284 := Tryz.func136.trans (congrArg some (by kernel_rfl))
  f285 := Tryz.func137.trans (congrArg some (by kernel_rfl))
  f286 := Tryz.func138.trans (congrArg some (by kernel_rfl))
  f317 := Tryz.func142.trans (congrArg some (by kernel_rfl))
  f318 := Tryz.func144.trans (congrArg some (by kernel_rfl))
  f319 := Tryz.func145.trans (congrArg some (by kernel_rfl))
  f320 := Tryz.func146.trans (congrArg some (by kernel_rfl))
  f337 := Tryz.func147.trans (congrArg some (by kernel_rfl))
  f338 := Tryz.func148.trans (congrArg some (by kernel_rfl))
  t0 := Tryz.underlying0
  a0 := Tryz.isAgg0
  z0 := Tryz.sizeOf0
  v0 := Tryz.zeroValue0
  t2 := Tryz.underlying2
  a2 := Tryz.isAgg2
  z2 := Tryz.sizeOf2
  v2 := Tryz.zeroValue2
  t3 := Tryz.underlying3
  a3 := Tryz.isAgg3
  z3 := Tryz.sizeOf3
  v3 := Tryz.zeroValue3
  t4 := Tryz.underlying4
  a4 := Tryz.isAgg4
  z4 := Tryz.sizeOf4
  v4 := Tryz.zeroValue4
  t5 := Tryz.underlying5
  a5 := Tryz.isAgg5
  z5 := Tryz.sizeOf5
  v5 := Tryz.zeroValue5
  t9 := Tryz.underlying9
  a9 := Tryz.isAgg9
  z9 := Tryz.sizeOf9
  v9 := Tryz.zeroValue9
  t20 := Tryz.underlying20
  a20 := Tryz.isAgg20
  z20 := Tryz.sizeOf20
  v20 := Tryz.zeroValue20
  t37 := Tryz.underlying30
  a37 := Tryz.isAgg30
  z37 := Tryz.sizeOf30
  v37 := Tryz.zeroValue30
  t46 := Tryz.underlying110
  a46 := Tryz.isAgg110
  z46 := Tryz.sizeOf110
  v46 := Tryz.zeroValue110
  t51 := Tryz.underlying129
  a51 := Tryz.isAgg129
  z51 := Tryz.sizeOf129
  v51 := Tryz.zeroValue129
  t53 := Tryz.underlying89
  a53 := Tryz.isAgg89
  z53 := Tryz.sizeOf89
  v53 := Tryz.zeroValue89
  t171 := Tryz.underlying143
  a171 := Tryz.isAgg143
  z171 := Tryz.sizeOf143
  v171 := Tryz.zeroValue143
  t173 := Tryz.underlying146
  a173 := Tryz.isAgg146
  z173 := Tryz.sizeOf146
  v173 := Tryz.zeroValue146
  t212 := Tryz.underlying158
  a212 := Tryz.isAgg158
  z212 := Tryz.sizeOf158
  v212 := Tryz.zeroValue158
  t213 := Tryz.underlying159
  a213 := Tryz.isAgg159
  z213 := Tryz.sizeOf159
  t232 := Tryz.underlying163
  a232 := Tryz.isAgg163
  z232 := Tryz.sizeOf163
  v232 := Tryz.zeroValue163
  t233 := Tryz.underlying164
  a233 := Tryz.isAgg164
  z233 := Tryz.sizeOf164
  v233 := Tryz.zeroValue164
  g17 := by kernel_rfl
  g18 := by kernel_rfl
  g19 := by kernel_rfl
  i0 := by kernel_rfl
  i2 := by kernel_rfl
  i3 := by kernel_rfl
  i4 := by kernel_rfl
  i5 := by kernel_rfl
  i9 := by kernel_rfl
  i20 := by kernel_rfl
  i37 := by kernel_rfl
  i46 := by kernel_rfl
  i51 := by kernel_rfl
  i53 := by kernel_rfl
  i171 := by kernel_rfl
  i173 := by kernel_rfl
  i212 := by kernel_rfl
  i232 := by kernel_rfl
  i233 := by kernel_rfl
  m17 := by kernel_rfl
  m18 := by kernel_rfl
  m19 := by kernel_rfl }
theorem shelf_strconv_FormatInt_10 (n : Int) (h0 : -9223372036854775808 ≤ n) (h1 : n ≤ 9223372036854775807) (w : World) (htab : Lib.TabIs Tryz.prog w "internal/strconv.uint64pow10" .u64 Lib.pow10Tab) :
    Calls Tryz.prog 79 #[.int .i64 n, .int .i64 10] w fun e w' => e = .returned (.string ⟨(Lib.itoa n).toArray⟩) ∧ ∃ k os, w' = Sort.grow (w.drewN k) os := Any.strconv_FormatInt_10 shelf_laysM173 n h0 h1 w htab

end Go.Proofs.YtnjgmhdmjaijgaaGreatDoor

/- Contracts of the library, laid. -/
namespace Go.Proofs.YtnjgmhdmjaijgaaGreatDoor
open Go Go.RowKit

abbrev SO_cell : Addr := ⟨1, 0, none⟩
def shelf_laysC174_ren : Go.Shelf.Ren := ⟨fun | 174 => 47 | 247 => 77 | 245 => 78 | 287 => 106 | 279 => 107 | 280 => 108 | 281 => 109 | 282 => 110 | 321 => 130 | 322 => 131 | 316 => 132 | 171 => 134 | 205 => 133 | 243 => 141 | 246 => 111 | 283 => 135 | 284 => 136 | 285 => 137 | 286 => 138 | 129 => 143 | 317 => 142 | 318 => 144 | 319 => 145 | 320 => 146 | 337 => 147 | 338 => 148 | n => n, fun | 9 => 9 | 3 => 3 | 2 => 2 | 75 => 80 | 85 => 81 | 4 => 4 | 167 => 122 | 5 => 5 | 53 => 89 | 175 => 123 | 46 => 110 | 168 => 125 | 37 => 30 | 0 => 0 | 210 => 140 | 21 => 21 | 127 => 153 | 145 => 156 | 143 => 154 | 171 => 143 | 173 => 146 | 212 => 158 | 51 => 129 | 20 => 20 | 213 => 159 | 232 => 163 | 233 => 164 | 80 => 116 | n => n, fun | 15 => 1 | 16 => 2 | 17 => 5 | 18 => 6 | 19 => 7 | n => n⟩
theorem shelf_laysC174 : Go.Proofs.LaysC.n174 Tryz.prog shelf_laysC174_ren := {
  mixed := by kernel_rfl
  f129 := Tryz.func143.trans (congrArg some (by kernel_rfl))
  f171 := Tryz.func134.trans (congrArg some (by kernel_rfl))
  f174 := Tryz.func47.trans (congrArg some (by kernel_rfl))
  f205 := Tryz.func133.trans (congrArg some (by kernel_rfl))
  f243 := Tryz.func141.trans (congrArg some (by kernel_rfl))
  f245 := Tryz.func78.trans (congrArg some (by kernel_rfl))
  f246 := Tryz.func111.trans (congrArg some (by kernel_rfl))
  f247 := Tryz.func77.trans (congrArg some (by kernel_rfl))
  f279 := Tryz.func107.trans (congrArg some (by kernel_rfl))
  f280 := Tryz.func108.trans (congrArg some (by kernel_rfl))
  f281 := Tryz.func109.trans (congrArg some (by kernel_rfl))
  f282 := Tryz.func110.trans (congrArg some (by kernel_rfl))
  f283 := Tryz.func135.trans (congrArg some (by kernel_rfl))
  f284 := Tryz.func136.trans (congrArg some (by kernel_rfl))
  f285 := Tryz.func137.trans (congrArg some (by kernel_rfl))
  f286 := Tryz.func138.trans (congrArg some (by kernel_rfl))
  f287 := Tryz.func106.trans (congrArg some (by kernel_rfl))
  f316 := Tryz.func132.trans (congrArg some (by kernel_rfl))
  f317 := Tryz.func142.trans (congrArg some (by kernel_rfl))
  f318 := Tryz.func144.trans (congrArg some (by kernel_rfl))
  f319 := Tryz.func145.trans (congrArg some (by kernel_rfl))
  f320 := Tryz.func146.trans (congrArg some (by kernel_rfl))
  f321 := Tryz.func130.trans (congrArg some (by kernel_rfl))
  f322 := Tryz.func131.trans (congrArg some (by kernel_rfl))
  f337 := Tryz.func147.trans (congrArg some (by kernel_rfl))
  f338 := Tryz.func148.trans (congrArg some (by kernel_rfl))
  t0 := Tryz.underlying0
  a0 := Tryz.isAgg0
  z0 := Tryz.sizeOf0
  v0 := Tryz.zeroValue0
  t2 := Tryz.underlying2
  a2 := Tryz.isAgg2
  z2 := Tryz.sizeOf2
  v2 := Tryz.zeroValue2
  t3 := Tryz.underlying3
  a3 := Tryz.isAgg3
  z3 := Tryz.sizeOf3
  v3 := Tryz.zeroValue3
  t4 := Tryz.underlying4
  a4 := Tryz.isAgg4
  z4 := Tryz.sizeOf4
  v4 := Tryz.zeroValue4
  t5 := Tryz.underlying5
  a5 := Tryz.isAgg5
  z5 := Tryz.sizeOf5
  v5 := Tryz.zeroValue5
  t9 := Tryz.underlying9
  a9 := Tryz.isAgg9
  z9 := Tryz.sizeOf9
  v9 := Tryz.zeroValue9
  t20 := Tryz.underlying20
  a20 := Tryz.isAgg20
  z20 := Tryz.sizeOf20
  v20 := Tryz.zeroValue20
  t21 := Tryz.underlying21
  a21 := Tryz.isAgg21
  z21 := Tryz.sizeOf21
  v21 := Tryz.zeroValue21
  t37 := Tryz.underlying30
  a37 := Tryz.isAgg30
  z37 := Tryz.sizeOf30
  v37 := Tryz.zeroValue30
  t46 := Tryz.underlying110
  a46 := Tryz.isAgg110
  z46 := Tryz.sizeOf110
  v46 := Tryz.zeroValue110
  t51 := Tryz.underlying129
  a51 := Tryz.isAgg129
  z51 := Tryz.sizeOf129
  v51 := Tryz.zeroValue129
  t53 := Tryz.underlying89
  a53 := Tryz.isAgg89
  z53 := Tryz.sizeOf89
  v53 := Tryz.zeroValue89
  t75 := Tryz.underlying80
  a75 := Tryz.isAgg80
  z75 := Tryz.sizeOf80
  v75 := Tryz.zeroValue80
  t85 := Tryz.underlying81
  a85 := Tryz.isAgg81
  z85 := Tryz.sizeOf81
  v85 := Tryz.zeroValue81
  t127 := Tryz.underlying153
  a127 := Tryz.isAgg153
  z127 := Tryz.sizeOf153
  v127 := Tryz.zeroValue153
  t143 := Tryz.underlying154
  a143 := Tryz.isAgg154
  z143 := Tryz.sizeOf154
  v143 := Tryz.zeroValue154
  t145 := Tryz.underlying156
  a145 := Tryz.isAgg156
  z145 := Tryz.sizeOf156
  v145 := Tryz.zeroValue156
  t167 := Tryz.underlying122
  a167 := Tryz.isAgg122
  z167 := Tryz.sizeOf122
  v167 := Tryz.zeroValue122
  t168 := Tryz.underlying125
  a168 := Tryz.isAgg125
  z168 := Tryz.sizeOf125
  v168 := Tryz.zeroValue125
  t171 := Tryz.underlying143
  a171 := Tryz.isAgg143
  z171 := Tryz.sizeOf143
  v171 := Tryz.zeroValue143
  t173 := Tryz.underlying146
  a173 := Tryz.isAgg146
  z173 := Tryz.sizeOf146
  v173 := Tryz.zeroValue146
  t175 := Tryz.underlying123
  a175 := Tryz.isAgg123
  z175 := Tryz.sizeOf123
  v175 := Tryz.zeroValue123
  t210 := Tryz.underlying140
  a210 := Tryz.isAgg140
  z210 := Tryz.sizeOf140
  v210 := Tryz.zeroValue140
  t212 := Tryz.underlying158
  a212 := Tryz.isAgg158
  z212 := Tryz.sizeOf158
  v212 := Tryz.zeroValue158
  t213 := Tryz.underlying159
  a213 := Tryz.isAgg159
  z213 := Tryz.sizeOf159
  t232 := Tryz.underlying163
  a232 := Tryz.isAgg163
  z232 := Tryz.sizeOf163
  v232 := Tryz.zeroValue163
  t233 := Tryz.underlying164
  a233 := Tryz.isAgg164
  z233 := Tryz.sizeOf164
  v233 := Tryz.zeroValue164
  g15 := by kernel_rfl
  g16 := by kernel_rfl
  g17 := by kernel_rfl
  g18 := by kernel_rfl
  g19 := by kernel_rfl
  t80 := Tryz.underlying116
  a80 := Tryz.isAgg116
  z80 := Tryz.sizeOf116
  v80 := Tryz.zeroValue116
  i0 := by kernel_rfl
  i2 := by kernel_rfl
  i3 := by kernel_rfl
  i4 := by kernel_rfl
  i5 := by kernel_rfl
  i9 := by kernel_rfl
  i20 := by kernel_rfl
  i21 := by kernel_rfl
  i37 := by kernel_rfl
  i46 := by kernel_rfl
  i51 := by kernel_rfl
  i53 := by kernel_rfl
  i75 := by kernel_rfl
  i80 := by kernel_rfl
  i85 := by kernel_rfl
  i127 := by kernel_rfl
  i143 := by kernel_rfl
  i145 := by kernel_rfl
  i167 := by kernel_rfl
  i168 := by kernel_rfl
  i171 := by kernel_rfl
  i173 := by kernel_rfl
  i175 := by kernel_rfl
  i210 := by kernel_rfl
  i212 := by kernel_rfl
  i232 := by kernel_rfl
  i233 := by kernel_rfl
  m15 := by kernel_rfl
  m16 := by kernel_rfl
  m17 := by kernel_rfl
  m18 := by kernel_rfl
  m19 := by kernel_rfl
  c0 := by kernel_rfl
  c2 := by kernel_rfl
  c3 := by kernel_rfl
  c4 := by kernel_rfl
  c5 := by kernel_rfl
  c9 := by kernel_rfl
  c20 := by kernel_rfl
  c21 := by kernel_rfl
  c37 := by kernel_rfl
  c46 := by kernel_rfl
  c51 := by kernel_rfl
  c53 := by kernel_rfl
  c75 := by kernel_rfl
  c80 := by kernel_rfl
  c85 := by kernel_rfl
  c127 := by kernel_rfl
  c143 := by kernel_rfl
  c145 := by kernel_rfl
  c167 := by kernel_rfl
  c168 := by kernel_rfl
  c171 := by kernel_rfl
  c173 := by kernel_rfl
  c175 := by kernel_rfl
  c210 := by kernel_rfl
  c212 := by kernel_rfl
  c213 := by kernel_rfl
  c232 := by kernel_rfl
  c233 := by kernel_rfl }

end Go.Proofs.YtnjgmhdmjaijgaaGreatDoor

/- Reading of charts, the program's side: numbers and rows. -/
namespace Go.Proofs.YtnjgmhdmjaijgaaGreatDoor
open Go Go.RowKit

/-- What the library's variables hold. -/
structure Lw (w : World) : Prop where
  sp : ∃ m, w.cell? SK_cell = some (.int .i64 m)
  es : ∃ tp p, w.var? Tryz.prog "strconv.ErrSyntax" = some #[.iface tp p]
  er : ∃ tp p, w.var? Tryz.prog "strconv.ErrRange" = some #[.iface tp p]
  tab : Lib.TabIs Tryz.prog w "internal/strconv.uint64pow10" .u64 Lib.pow10Tab
theorem var_below {P : Program} {w w' : World} {n : String} {cs : Array Value} (h : w.var? P n = some cs) (hb : Below w.heap.size w w') : w'.var? P n = some cs := by
  unfold World.var? at h ⊢
  cases hg : P.globalNamed n with
  | none => rw [hg] at h; simp at h
  | some g =>
    rw [hg] at h
    simp only [Option.bind_some] at h ⊢
    cases hh : w.heap[g]? with
    | none => rw [hh] at h; simp at h
    | some o =>
      have hlt : g < w.heap.size := (Array.getElem?_eq_some_iff.1 hh).1
      rw [hb.block g hlt]
      exact h
theorem Lw.below {w w' : World} (h : Lw w) (hb : Below w.heap.size w w') : Lw w' := by
  obtain ⟨⟨m, h1⟩, ⟨t1, p1, h2⟩, ⟨t2, p2, h3⟩, h4⟩ := h
  exact ⟨⟨m, cells_below hb _ _ h1⟩, ⟨t1, p1, var_below h2 hb⟩, ⟨t2, p2, var_below h3 hb⟩, var_below h4 hb⟩

theorem ba_toList {a b : ByteArray} (h : a.toList = b.toList) : a = b := by
  rw [ByteArray.toList_eq, ByteArray.toList_eq] at h
  exact ByteArray.ext (Array.toList_inj.1 h)

theorem impl_DecimalG (v : Int) (h0 : -999999999 ≤ v) (h1 : v ≤ 999999999) (w : World) (hL : Lw w) : Calls Tryz.prog 48 #[.int .i64 v] w fun e w' => e = .returned (.string ⟨(Lib.itoa v).toArray⟩) ∧ Below w.heap.size w w' := by
  go_enter Tryz.func48, Tryz.ntmps48
  go_wp2_with (fail)
  refine (shelf_strconv_FormatInt_10 v (by omega) (by omega) w hL.tab).mono ?_; rintro e _ ⟨rfl, k, os, rfl⟩
  have hb : Below w.heap.size w (Sort.grow (w.drewN k) os) := Lib.below_grow _ w (Nat.le_refl _) k os
  go_wp2_with (fail)
  go_ret
  exact ⟨rfl, hb⟩
theorem parse_ok (s : ByteArray) (hs : s.size ≤ 1000000000) (v : Int) (h : Lib.parseIntB 64 s.data.toList = .ok v) (w : World) :
    Calls Tryz.prog 47 #[.string s, .int .i64 10, .int .i64 64] w fun e w' => e = .returned (.tuple #[.int .i64 v, .nilIface]) ∧ Below w.heap.size w w' :=
  (Any.strconv_ParseInt_10_at64_ok shelf_laysC174 s (by omega) v h w).mono (by
    rintro e w' ⟨rfl, rfl | ⟨t, rfl⟩⟩
    · exact ⟨rfl, Below.refl _ _⟩
    · exact ⟨rfl, Joins.below_bytesWorld _ _ _ _ (Nat.le_refl _)⟩)
theorem parse_bad (s : ByteArray) (hs : s.size ≤ 1000000000) (h : ∀ v, Lib.parseIntB 64 s.data.toList ≠ .ok v) (w : World) (hL : Lw w) :
    Calls Tryz.prog 47 #[.string s, .int .i64 10, .int .i64 64] w fun e w' => ∃ (z : Int) (t : TypeId) (q : Value), e = .returned (.tuple #[.int .i64 z, .iface t q]) ∧ Below w.heap.size w w' := by
  obtain ⟨t1, p1, h2⟩ := hL.es
  obtain ⟨t2, p2, h3⟩ := hL.er
  cases hp : Lib.parseIntB 64 s.data.toList
  · exact absurd hp (h _)
  · exact (Any.strconv_ParseInt_10_at64_syntax_var shelf_laysC174 s (by omega) hp t1 p1 w h2).mono (by
      rintro e w' ⟨g, rfl, _, _, hb⟩
      exact ⟨_, _, _, rfl, hb⟩)
  · exact (Any.strconv_ParseInt_10_at64_range_var shelf_laysC174 s (by omega) hp t2 p2 w h3).mono (by
      rintro e w' ⟨g, rfl, _, _, hb⟩
      exact ⟨_, _, _, rfl, hb⟩)
set_option maxHeartbeats 2000000 in
theorem impl_ReadDecimal (s : ByteArray) (w : World) (hs : s.size ≤ 1000000000) (hL : Lw w) :
    Calls Tryz.prog 24 #[.string s] w fun e w' => e = .returned (.tuple #[.int .i64 (rdDec s).1, .bool (rdDec s).2]) ∧ Below w.heap.size w w' := by
  by_cases hok : ∃ v, Lib.parseIntB 64 s.data.toList = .ok v
  · obtain ⟨v, hv⟩ := hok
    have hr : rdDec s = if (-999999999 ≤ v ∧ v ≤ 999999999) ∧ Lib.itoa v = s.data.toList then (v, true) else (0, false) := by
      unfold rdDec
      rw [hv]
    have HR := Lib.hid hr; clear hr
    go_enter Tryz.func24, Tryz.ntmps24
    go_wp2_with (fail)
    refine (parse_ok s hs v hv w).mono ?_; rintro e w1 ⟨rfl, b1⟩
    have hL1 := hL.below b1
    clear hv
    by_cases h9 : v > 999999999
    · have d9 : decide (v > 999999999) = true := decide_eq_true h9
      have HF : Hid (rdDec s = (0, false)) := Lib.hid (by rw [HR.out, if_neg (by omega)])
      go_wp2_with (fail)
      go_ret2
      rw [HF.out]
      exact ⟨rfl, b1⟩
    · have d9 : decide (v > 999999999) = false := decide_eq_false h9
      by_cases h0 : v < -999999999
      · have d0 : decide (v < -999999999) = true := decide_eq_true h0
        have HF : Hid (rdDec s = (0, false)) := Lib.hid (by rw [HR.out, if_neg (by omega)])
        go_wp2_with (fail)
        go_ret2
        rw [HF.out]
        exact ⟨rfl, b1⟩
      · have d0 : decide (v < -999999999) = false := decide_eq_false h0
        have hdec := impl_DecimalG v (by omega) (by omega) w1 hL1
        obtain ⟨T, hT⟩ : ∃ T : ByteArray, T = ⟨(Lib.itoa v).toArray⟩ := ⟨_, rfl⟩
        rw [← hT] at hdec
        have HDEC := Lib.hid hdec; clear hdec
        have heq : T = s ↔ Lib.itoa v = s.data.toList := by
          rw [hT]
          constructor
          · intro e; rw [← e]
          · intro e
            apply ByteArray.ext
            apply Array.toList_inj.1
            simpa using e
        have HEQ := Lib.hid heq; clear heq hT
        by_cases hTs : T = s
        · have HF : Hid (rdDec s = (v, true)) := Lib.hid (by rw [HR.out, if_pos ⟨⟨by omega, by omega⟩, HEQ.out.1 hTs⟩])
          have hbs : (T.toList == s.toList) = true := by rw [hTs]; simp
          clear hTs
          go_wp2_with (fail)
          refine HDEC.out.mono ?_; rintro e w2 ⟨rfl, b2⟩
          go_wp2_with (fail)
          go_ret2
          rw [HF.out]
          exact ⟨rfl, b1.trans (b2.mono b1.size)⟩
        · have HF : Hid (rdDec s = (0, false)) := Lib.hid (by rw [HR.out, if_neg (fun hh => hTs (HEQ.out.2 hh.2))])
          have hbs : (T.toList == s.toList) = false := by rw [beq_eq_false_iff_ne]; exact fun e => hTs (ba_toList e)
          clear hTs
          go_wp2_with (fail)
          refine HDEC.out.mono ?_; rintro e w2 ⟨rfl, b2⟩
          go_wp2_with (fail)
          go_ret2
          rw [HF.out]
          exact ⟨rfl, b1.trans (b2.mono b1.size)⟩
  · have hr : rdDec s = (0, false) := by
      unfold rdDec
      split
      · rename_i v hv; exact absurd ⟨v, hv⟩ hok
      · rfl
    have HR := Lib.hid hr; clear hr
    go_enter Tryz.func24, Tryz.ntmps24
    go_wp2_with (fail)
    refine (parse_bad s hs (fun v hv => hok ⟨v, hv⟩) w hL).mono ?_; rintro e w1 ⟨z, t, q, rfl, b1⟩
    go_wp2_with (fail)
    go_ret2
    rw [HR.out]
    exact ⟨rfl, b1⟩

end Go.Proofs.YtnjgmhdmjaijgaaGreatDoor
