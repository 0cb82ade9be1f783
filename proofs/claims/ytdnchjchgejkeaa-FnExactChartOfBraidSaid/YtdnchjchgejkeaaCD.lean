/- ChartOfBraid, the given side. -/
import Derived.Test.YtdnchjchgejkeaaCB
namespace Go.Proofs.Ytdnchjchgejkeaa
open Go.RowKit

set_option maxHeartbeats 4000000 in
set_option maxRecDepth 10000 in
theorem spec_ChartOfBraid (n : Int) (xs : List Int) (car : Int) (A : Option Addr) (c : Nat) (w : World) (h : Ints w A xs) (hl : xs.length ≤ 9223372036854775807) :
    Calls Try.prog 72 #[.agg #[.int .i64 n, .slice A xs.length c], .int .i64 car] w fun e w' => ∃ A' c', e = .returned (.tuple #[.agg #[.int .i64 (cobX n xs car).n, .slice A' (cobX n xs car).xs.length c'], .int .i64 (cobCode n xs car)]) ∧ OwnRows w' w.heap.size w'.heap.size A' (cobX n xs car).xs.length c' (cobX n xs car).xs ∧ Below w.heap.size w w' := by
  have t1 : (95 : TypeId) ≠ 2 := by decide
  have t2 : (95 : TypeId) ≠ 44 := by decide
  have hb1 : Below w.heap.size w ((w.alloc (.cells #[.int .i64 n, .slice A xs.length c] 36)).alloc (.cells #[.int .i64 0, .slice none 0 0] 95)) := by (repeat (first | exact Below.refl _ _ | assumption | apply Below.drew | apply below_drewN | (refine Below.alloc ?_ (by first | omega | (simp; done) | (simp; omega)) _) | (refine Below.setCell ?_ (by first | omega | (simp; done) | (simp; omega)) _)))
  have ka := (Blk.new w 36 #[.int .i64 n, .slice A xs.length c]).alloc (.cells #[.int .i64 0, .slice none 0 0] 95)
  have kz : Blk ((w.alloc (.cells #[.int .i64 n, .slice A xs.length c] 36)).alloc (.cells #[.int .i64 0, .slice none 0 0] 95)) (w.heap.size + 1) 95 #[.int .i64 0, .slice none 0 0] := by simpa using Blk.new (w.alloc (.cells #[.int .i64 n, .slice A xs.length c] 36)) 95 #[.int .i64 0, .slice none 0 0]
  cases hv : braidB n xs
  · have HF : Hid (cobX n xs car = ⟨0, []⟩ ∧ cobCode n xs car = 1) := Lib.hid (cob_err (by simp [cobCode, hv]) (by decide))
    go_enter Try.func72, Try.ntmps72
    go_wp2_with (fail)
    refine (spec_l03Ok _ _ n A c xs _ (h.below hb1) hl ka.c2.1 ka.c2.2).mono ?_; rintro e w2 ⟨rfl, hdr⟩
    have b2 : Below w.heap.size w w2 := by obtain ⟨q, rfl⟩ := hdr; exact below_drewN hb1 q
    have ka2 : Blk w2 w.heap.size 36 #[.int .i64 n, .slice A xs.length c] := by obtain ⟨q, rfl⟩ := hdr; exact ka.drewN q
    have kz2 : Blk w2 (w.heap.size + 1) 95 #[.int .i64 0, .slice none 0 0] := by obtain ⟨q, rfl⟩ := hdr; exact kz.drewN q
    have hz : w2.heap.size = w.heap.size + 2 := by obtain ⟨q, rfl⟩ := hdr; simp
    have HZ := Lib.hid hz; clear hz hdr ka kz hb1
    obtain ⟨q0, q1⟩ := ka2.c2
    obtain ⟨r0, r1⟩ := kz2.c2
    have g0 := kz2.frozen 0
    have g1 := kz2.frozen 1
    rw [hv]
    go_wp2_with (fail)
    refine bodyPost_ret (v := .tuple #[.agg #[.int .i64 (cobX n xs car).n, .slice none (cobX n xs car).xs.length 0], .int .i64 (cobCode n xs car)]) (by rw [HF.out.1, HF.out.2]; simp [results, Try.results72, go_sem, r0, r1]) rfl ⟨none, 0, rfl, ?_, ?_⟩
    · rw [HF.out.1]; exact OwnRows.nil _ _ _
    · (repeat (first | exact Below.refl _ _ | assumption | apply Below.drew | apply below_drewN | (refine Below.alloc ?_ (by first | omega | (simp; done) | (simp; omega)) _) | (refine Below.setCell ?_ (by first | omega | (simp; done) | (simp; omega)) _)))
  · cases hn : inR n 1 8
    · have HF : Hid (cobX n xs car = ⟨0, []⟩ ∧ cobCode n xs car = 2) := Lib.hid (cob_err (by simp [cobCode, hv, hn]) (by decide))
      go_enter Try.func72, Try.ntmps72
      go_wp2_with (fail)
      refine (spec_l03Ok _ _ n A c xs _ (h.below hb1) hl ka.c2.1 ka.c2.2).mono ?_; rintro e w2 ⟨rfl, hdr⟩
      have b2 : Below w.heap.size w w2 := by obtain ⟨q, rfl⟩ := hdr; exact below_drewN hb1 q
      have ka2 : Blk w2 w.heap.size 36 #[.int .i64 n, .slice A xs.length c] := by obtain ⟨q, rfl⟩ := hdr; exact ka.drewN q
      have kz2 : Blk w2 (w.heap.size + 1) 95 #[.int .i64 0, .slice none 0 0] := by obtain ⟨q, rfl⟩ := hdr; exact kz.drewN q
      have hz : w2.heap.size = w.heap.size + 2 := by obtain ⟨q, rfl⟩ := hdr; simp
      have HZ := Lib.hid hz; clear hz hdr ka kz hb1
      obtain ⟨q0, q1⟩ := ka2.c2
      obtain ⟨r0, r1⟩ := kz2.c2
      have g0 := kz2.frozen 0
      have g1 := kz2.frozen 1
      rw [hv]
      go_wp2_with (first | (go_at_call 86; refine (spec_l00In _ _ _ _).mono ?_; rintro e _ ⟨rfl, rfl⟩) | (go_at_call 88; refine (spec_l07Yarn _ _).mono ?_; rintro e _ ⟨rfl, rfl⟩))
      refine bodyPost_ret (v := .tuple #[.agg #[.int .i64 (cobX n xs car).n, .slice none (cobX n xs car).xs.length 0], .int .i64 (cobCode n xs car)]) (by rw [HF.out.1, HF.out.2]; simp [results, Try.results72, go_sem, r0, r1]) rfl ⟨none, 0, rfl, ?_, ?_⟩
      · rw [HF.out.1]; exact OwnRows.nil _ _ _
      · (repeat (first | exact Below.refl _ _ | assumption | apply Below.drew | apply below_drewN | (refine Below.alloc ?_ (by first | omega | (simp; done) | (simp; omega)) _) | (refine Below.setCell ?_ (by first | omega | (simp; done) | (simp; omega)) _)))
    · cases hc : carrierB car
      · have HF : Hid (cobX n xs car = ⟨0, []⟩ ∧ cobCode n xs car = 2) := Lib.hid (cob_err (by simp [cobCode, hv, hn, hc]) (by decide))
        go_enter Try.func72, Try.ntmps72
        go_wp2_with (fail)
        refine (spec_l03Ok _ _ n A c xs _ (h.below hb1) hl ka.c2.1 ka.c2.2).mono ?_; rintro e w2 ⟨rfl, hdr⟩
        have b2 : Below w.heap.size w w2 := by obtain ⟨q, rfl⟩ := hdr; exact below_drewN hb1 q
        have ka2 : Blk w2 w.heap.size 36 #[.int .i64 n, .slice A xs.length c] := by obtain ⟨q, rfl⟩ := hdr; exact ka.drewN q
        have kz2 : Blk w2 (w.heap.size + 1) 95 #[.int .i64 0, .slice none 0 0] := by obtain ⟨q, rfl⟩ := hdr; exact kz.drewN q
        have hz : w2.heap.size = w.heap.size + 2 := by obtain ⟨q, rfl⟩ := hdr; simp
        have HZ := Lib.hid hz; clear hz hdr ka kz hb1
        obtain ⟨q0, q1⟩ := ka2.c2
        obtain ⟨r0, r1⟩ := kz2.c2
        have g0 := kz2.frozen 0
        have g1 := kz2.frozen 1
        rw [hv]
        go_wp2_with (first | (go_at_call 86; refine (spec_l00In _ _ _ _).mono ?_; rintro e _ ⟨rfl, rfl⟩) | (go_at_call 88; refine (spec_l07Yarn _ _).mono ?_; rintro e _ ⟨rfl, rfl⟩))
        refine bodyPost_ret (v := .tuple #[.agg #[.int .i64 (cobX n xs car).n, .slice none (cobX n xs car).xs.length 0], .int .i64 (cobCode n xs car)]) (by rw [HF.out.1, HF.out.2]; simp [results, Try.results72, go_sem, r0, r1]) rfl ⟨none, 0, rfl, ?_, ?_⟩
        · rw [HF.out.1]; exact OwnRows.nil _ _ _
        · (repeat (first | exact Below.refl _ _ | assumption | apply Below.drew | apply below_drewN | (refine Below.alloc ?_ (by first | omega | (simp; done) | (simp; omega)) _) | (refine Below.setCell ?_ (by first | omega | (simp; done) | (simp; omega)) _)))
      · have hn18 := inR_iff.1 hn
        have hv4 := (braidB_of hv).2.2.1
        have HS : Hid (smallB xs) := Lib.hid (smallB_of hv)
        have hp40 : (pack xs).length ≤ 40 := by have := pack_size xs; omega
        go_enter Try.func72, Try.ntmps72
        go_wp2_with (fail)
        refine (spec_l03Ok _ _ n A c xs _ (h.below hb1) hl ka.c2.1 ka.c2.2).mono ?_; rintro e w2 ⟨rfl, hdr⟩
        have b2 : Below w.heap.size w w2 := by obtain ⟨q, rfl⟩ := hdr; exact below_drewN hb1 q
        have ka2 : Blk w2 w.heap.size 36 #[.int .i64 n, .slice A xs.length c] := by obtain ⟨q, rfl⟩ := hdr; exact ka.drewN q
        have kz2 : Blk w2 (w.heap.size + 1) 95 #[.int .i64 0, .slice none 0 0] := by obtain ⟨q, rfl⟩ := hdr; exact kz.drewN q
        have hz : w2.heap.size = w.heap.size + 2 := by obtain ⟨q, rfl⟩ := hdr; simp
        have HZ := Lib.hid hz; clear hz hdr ka kz hb1
        obtain ⟨q0, q1⟩ := ka2.c2
        obtain ⟨r0, r1⟩ := kz2.c2
        have g0 := kz2.frozen 0
        have g1 := kz2.frozen 1
        rw [hv]
        go_wp2_with (first | (go_at_call 86; refine (spec_l00In _ _ _ _).mono ?_; rintro e _ ⟨rfl, rfl⟩) | (go_at_call 88; refine (spec_l07Yarn _ _).mono ?_; rintro e _ ⟨rfl, rfl⟩))
        refine (spec_l18Pack A c xs _ (h.below b2) (by omega) HS.out).mono ?_; rintro e w3 ⟨A3, c3, rfl, o3, b3⟩
        clear q0 q1 r0 r1 g0 g1
        have hz2 : w2.heap.size ≤ w3.heap.size := b3.size
        have hz0 : w.heap.size + 1 < w2.heap.size := by have := HZ.out; omega
        have ka3 := ka2.below b3 (by omega)
        have kz3 := kz2.below b3 (by omega)
        have hb3 : Below w.heap.size w w3 := b2.trans (b3.mono (by omega))
        have HI3 := Lib.hid o3.ints2
        by_cases h8 : (pack xs).length ≤ 8
        · have HC : Hid (cobCode n xs car = 0) := Lib.hid (by simp [cobCode, hv, hn, hc, h8])
          have HF : Hid (cobX n xs car = ⟨n, rowsFrom n.toNat car (groupsOf xs) (-1)⟩) := Lib.hid (by rw [cobX, if_pos HC.out])
          obtain ⟨m, rfl⟩ := Int.eq_ofNat_of_zero_le (show (0 : Int) ≤ n by omega)
          obtain ⟨q0, q1⟩ := ka3.c2
          by_cases h0 : pack xs = []
          · have HG : Hid (groupsOf xs = [[]]) := Lib.hid (by rw [groupsOf, if_pos h0])
            have e0 : (pack xs).length = 0 := by rw [h0]; rfl
            obtain ⟨i0, hi0, hy0, hy1, hy2⟩ := info_parts info_Row
            obtain ⟨i1, hi1, hz10, hz11, hz12⟩ := info_parts info_ints
            obtain ⟨cs3, oc3, _⟩ := o3.ex
            rw [e0] at oc3 ⊢
            have hcs3 : cs3 = [] := by have := oc3.len; simpa using this
            subst hcs3
            have hzz : w2.heap.size ≤ w3.heap.size + 1 := by omega
            go_wp2_with (at_builtin; refine wpList_append1q (w3.alloc (.cells #[] 2)) (w3.heap.size + 1) (by simp) [.slice (some ⟨w3.heap.size, 0, none⟩) 0 0] _ rfl (.tmp 29) (.tmp 31) _ rfl 29 i1 _ 1 24 Try.underlying33 hi1 hz10 hz11 hz12 rfl (by decide) rfl (oc3.alloc _) (by simp; omega) 1 rfl rfl (by simp [Value.oneCell']) (by omega) (by decide) ?_; intro A6 c6 wB ho6 hg6 hb6 hz6; have kaB : Blk wB w.heap.size 36 #[.int .i64 m, .slice A xs.length c] := (ka3.alloc _).below hb6 (by omega); obtain ⟨q0', q1'⟩ := kaB.c2)
            have kaB : Blk wB w.heap.size 36 #[.int .i64 m, .slice A xs.length c] := (ka3.alloc _).below hb6 (by omega)
            have kzB : Blk wB (w.heap.size + 1) 95 #[.int .i64 0, .slice none 0 0] := (kz3.alloc _).below hb6 (by omega)
            have hzB : w.heap.size + 1 < wB.heap.size := kzB.lt
            have HBB : Below w.heap.size w wB := (hb3.alloc (by omega) _).trans (hb6.mono (by omega))
            have HIB : Hid (Ints2 wB A6 [[]]) := Lib.hid (by
              intro k hk
              obtain rfl : k = 0 := by simpa using hk
              obtain ⟨b, rfl, _, _, hc0, _⟩ := ho6.cell (j := 0) (by simp)
              exact ⟨b, 0, some ⟨w3.heap.size, 0, none⟩, 0, [], rfl, rfl, by simpa using hc0, Ints.nil, by simp⟩)
            clear q0 q1
            obtain ⟨p0, p1⟩ := (kaB.alloc (.cells #[.int .i64 m, .slice none 0 0] 95)).c2
            go_loopw [8, 9] (fun dv iv wr => ∃ (k : Nat) (d : Int) (done : List RowD), k ≤ 1 ∧ dv = .int .i64 d ∧ iv = .int .i64 k ∧ (d = -1 ∨ d = 1) ∧ Hid (rowsFrom m car ([[]]) (-1) = done ++ rowsFrom m car (([[]]).drop k) d) ∧ ChartInv m wB.heap.size wB wr k done) (fun _ iv _ => 1 - (intOf iv).toNat)
            case atStart => exact ⟨0, -1, [], Nat.zero_le _, rfl, rfl, .inl rfl, Lib.hid rfl, ChartInv.start _ _⟩
            case round =>
              clear p0 p1
              obtain ⟨k, d, done, hk, rfl, rfl, hd, HD, hinv⟩ := hrel
              obtain ⟨hdl, hb, hlt, A', c', cs, kb, ho, hcr⟩ := hinv
              have kar := kaB.below hb (by omega)
              have kzr := kzB.below hb (by omega)
              obtain ⟨q0, q1⟩ := kar.c2
              obtain ⟨s0, s1⟩ := kb.c2
              by_cases hkl : k < 1
              · obtain ⟨b, off, A2, c2, g, rfl, hx, hc2, hi, hgl⟩ := (HIB.out.below hb) k hkl
                have HX := Lib.hid hx; clear hx
                have hg40 : g.length ≤ 9223372036854775807 := by omega
                have j1 : (0 : Int) ≤ (k : Int) := by omega
                have j2 : (k : Int) < ((1 : Nat) : Int) := by omega
                have j4 : IntKind.i64.wrap (-d) = -d := IntWalk.i64_in _ (by omega)
                have j5 : IntKind.i64.wrap ((k : Int) + 1) = (k : Int) + 1 := IntWalk.i64_in _ (by omega)
                go_wp2_with (fail)
                go_region_law (first | (go_simp; go_at_call 91; refine (spec_l18Row m g d car A2 c2 _ (Ints.drew1 hi) hg40 (by omega)).mono ?_; rintro e w4 ⟨A4, c4, rfl, o4', b4'⟩; have b4 := undrew b4'; have u1 := (kb.below b4 hlt).c2.2; have u2 := cell_alloc u1 (.cells #[.int .i64 d, .int .i64 car, .slice A4 (rowFrom m g 0).length c4] 44)) | (refine step_append1 [.int .i64 d, .int .i64 car, .slice A4 (rowFrom m g 0).length c4] _ rfl (.tmp 47) (.tmp 57) _ rfl 44 i0 _ 3 40 Try.underlying93 hi0 hy0 hy1 hy2 rfl (by decide) (by simp [Act.eval, Act.put]) (ho.below b4 (Nat.le_refl _)) (by have := b4.size; omega) 1 (by simp [Act.eval, Act.put]) rfl (by simp [Value.oneCell']) (by omega) (by decide) ?_; intro A5 c5 w5 ho5 hg5 hb5 hz5; have kb5 := ((kb.below b4 hlt).alloc (.cells #[.int .i64 d, .int .i64 car, .slice A4 (rowFrom m g 0).length c4] 44)).grownT ((ho.below b4 (Nat.le_refl _)).alloc (.cells #[.int .i64 d, .int .i64 car, .slice A4 (rowFrom m g 0).length c4] 44)) t2 hg5; obtain ⟨v0, v1⟩ := kb5.c2; have v2 := kb5.frozen 1))
                all_goals go_wp2_with (fail)
                all_goals
                  have hinv' := ChartInv.step ⟨d, car, rowFrom m g 0⟩ hdl hb hlt kb ho hcr b4 o4' ho5 hg5 hb5 hz5
                  refine ⟨⟨k + 1, -d, done ++ [⟨d, car, rowFrom m g 0⟩], by omega, rfl, by go_num, by omega, Lib.hid (by rw [HD.out, rowsFrom_drop HX.out, List.append_assoc]; rfl), hinv'⟩, by simp [intOf]; omega⟩
              · obtain rfl : k = 1 := by omega
                have hfin : cobX m xs car = ⟨m, done⟩ := by
                  have h9 := HD.out
                  rw [drop_all (by simp), rowsFrom, List.append_nil] at h9
                  rw [HF.out, HG.out, Int.toNat_natCast, h9]
                have HFN := Lib.hid hfin; clear hfin
                obtain ⟨A7, c7, kc, oo⟩ := ChartInv.rows ⟨hdl, hb, hlt, A', c', cs, kb, ho, hcr⟩
                obtain ⟨p0, p1⟩ := kc.c2
                obtain ⟨r0, r1⟩ := kzr.c2
                have g0 := kzr.frozen 0
                have g1 := kzr.frozen 1
                have hbw : Below w.heap.size w wr := HBB.trans (hb.mono (by omega))
                clear s0 s1
                have HDL := Lib.hid hdl; clear hdl
                go_wp2_with (fail)
                refine bodyPost_ret (v := .tuple #[.agg #[.int .i64 (cobX m xs car).n, .slice A7 (cobX m xs car).xs.length c7], .int .i64 (cobCode m xs car)]) (by rw [HFN.out, HC.out]; simp [results, Try.results72, go_sem, r0, r1, HDL.out]) rfl ⟨A7, c7, rfl, ?_, ?_⟩
                · rw [HFN.out]
                  have k1 := kzr.set20 (.int .i64 m)
                  show OwnRows _ _ _ _ done.length _ done
                  rw [HDL.out]
                  exact ((oo.farT kzr t1 t2 0 _).farT k1 t1 t2 1 _).mono (by omega) (by simp)
                · (repeat (first | exact Below.refl _ _ | assumption | apply Below.drew | apply below_drewN | (refine Below.alloc ?_ (by first | omega | (simp; done) | (simp; omega)) _) | (refine Below.setCell ?_ (by first | omega | (simp; done) | (simp; omega)) _)))
          · have HG : Hid (groupsOf xs = pack xs) := Lib.hid (by rw [groupsOf, if_neg h0])
            obtain ⟨i0, hi0, hy0, hy1, hy2⟩ := info_parts info_Row
            have hpos : 0 < (pack xs).length := List.length_pos_iff.2 h0
            have e1 : ((((pack xs).length : Nat) : Int) == 0) = false := beq_eq_false_iff_ne.2 (by omega)
            have e2 : decide ((((pack xs).length : Nat) : Int) > 8) = false := decide_eq_false (by omega)
            clear h0
            generalize hgs : pack xs = gs at *
            have HGS := Lib.hid hgs; clear hgs
            go_wp2_with (fail)
            have kaB := ka3
            have kzB := kz3
            have hzB : w.heap.size + 1 < w3.heap.size := kzB.lt
            have HBB := hb3
            have HIB := HI3
            obtain ⟨p0, p1⟩ := (kaB.alloc (.cells #[.int .i64 m, .slice none 0 0] 95)).c2
            go_loopw [8, 9] (fun dv iv wr => ∃ (k : Nat) (d : Int) (done : List RowD), k ≤ gs.length ∧ dv = .int .i64 d ∧ iv = .int .i64 k ∧ (d = -1 ∨ d = 1) ∧ Hid (rowsFrom m car (gs) (-1) = done ++ rowsFrom m car ((gs).drop k) d) ∧ ChartInv m w3.heap.size w3 wr k done) (fun _ iv _ => gs.length - (intOf iv).toNat)
            case atStart => exact ⟨0, -1, [], Nat.zero_le _, rfl, rfl, .inl rfl, Lib.hid rfl, ChartInv.start _ _⟩
            case round =>
              clear p0 p1
              obtain ⟨k, d, done, hk, rfl, rfl, hd, HD, hinv⟩ := hrel
              obtain ⟨hdl, hb, hlt, A', c', cs, kb, ho, hcr⟩ := hinv
              have kar := kaB.below hb (by omega)
              have kzr := kzB.below hb (by omega)
              obtain ⟨q0, q1⟩ := kar.c2
              obtain ⟨s0, s1⟩ := kb.c2
              by_cases hkl : k < gs.length
              · obtain ⟨b, off, A2, c2, g, rfl, hx, hc2, hi, hgl⟩ := (HIB.out.below hb) k hkl
                have HX := Lib.hid hx; clear hx
                have hg40 : g.length ≤ 9223372036854775807 := by omega
                have j1 : (0 : Int) ≤ (k : Int) := by omega
                have j2 : (k : Int) < ((gs.length : Nat) : Int) := by omega
                have j4 : IntKind.i64.wrap (-d) = -d := IntWalk.i64_in _ (by omega)
                have j5 : IntKind.i64.wrap ((k : Int) + 1) = (k : Int) + 1 := IntWalk.i64_in _ (by omega)
                go_wp2_with (fail)
                go_region_law (first | (go_simp; go_at_call 91; refine (spec_l18Row m g d car A2 c2 _ (Ints.drew1 hi) hg40 (by omega)).mono ?_; rintro e w4 ⟨A4, c4, rfl, o4', b4'⟩; have b4 := undrew b4'; have u1 := (kb.below b4 hlt).c2.2; have u2 := cell_alloc u1 (.cells #[.int .i64 d, .int .i64 car, .slice A4 (rowFrom m g 0).length c4] 44)) | (refine step_append1 [.int .i64 d, .int .i64 car, .slice A4 (rowFrom m g 0).length c4] _ rfl (.tmp 47) (.tmp 57) _ rfl 44 i0 _ 3 40 Try.underlying93 hi0 hy0 hy1 hy2 rfl (by decide) (by simp [Act.eval, Act.put]) (ho.below b4 (Nat.le_refl _)) (by have := b4.size; omega) 1 (by simp [Act.eval, Act.put]) rfl (by simp [Value.oneCell']) (by omega) (by decide) ?_; intro A5 c5 w5 ho5 hg5 hb5 hz5; have kb5 := ((kb.below b4 hlt).alloc (.cells #[.int .i64 d, .int .i64 car, .slice A4 (rowFrom m g 0).length c4] 44)).grownT ((ho.below b4 (Nat.le_refl _)).alloc (.cells #[.int .i64 d, .int .i64 car, .slice A4 (rowFrom m g 0).length c4] 44)) t2 hg5; obtain ⟨v0, v1⟩ := kb5.c2; have v2 := kb5.frozen 1))
                all_goals go_wp2_with (fail)
                all_goals
                  have hinv' := ChartInv.step ⟨d, car, rowFrom m g 0⟩ hdl hb hlt kb ho hcr b4 o4' ho5 hg5 hb5 hz5
                  refine ⟨⟨k + 1, -d, done ++ [⟨d, car, rowFrom m g 0⟩], by omega, rfl, by go_num, by omega, Lib.hid (by rw [HD.out, rowsFrom_drop HX.out, List.append_assoc]; rfl), hinv'⟩, by simp [intOf]; omega⟩
              · obtain rfl : k = gs.length := by omega
                have hfin : cobX m xs car = ⟨m, done⟩ := by
                  have h9 := HD.out
                  rw [drop_all (by simp), rowsFrom, List.append_nil] at h9
                  rw [HF.out, HG.out, Int.toNat_natCast, h9]
                have HFN := Lib.hid hfin; clear hfin
                obtain ⟨A7, c7, kc, oo⟩ := ChartInv.rows ⟨hdl, hb, hlt, A', c', cs, kb, ho, hcr⟩
                obtain ⟨p0, p1⟩ := kc.c2
                obtain ⟨r0, r1⟩ := kzr.c2
                have g0 := kzr.frozen 0
                have g1 := kzr.frozen 1
                have hbw : Below w.heap.size w wr := HBB.trans (hb.mono (by omega))
                clear s0 s1
                have HDL := Lib.hid hdl; clear hdl
                go_wp2_with (fail)
                refine bodyPost_ret (v := .tuple #[.agg #[.int .i64 (cobX m xs car).n, .slice A7 (cobX m xs car).xs.length c7], .int .i64 (cobCode m xs car)]) (by rw [HFN.out, HC.out]; simp [results, Try.results72, go_sem, r0, r1, HDL.out]) rfl ⟨A7, c7, rfl, ?_, ?_⟩
                · rw [HFN.out]
                  have k1 := kzr.set20 (.int .i64 m)
                  show OwnRows _ _ _ _ done.length _ done
                  rw [HDL.out]
                  exact ((oo.farT kzr t1 t2 0 _).farT k1 t1 t2 1 _).mono (by omega) (by simp)
                · (repeat (first | exact Below.refl _ _ | assumption | apply Below.drew | apply below_drewN | (refine Below.alloc ?_ (by first | omega | (simp; done) | (simp; omega)) _) | (refine Below.setCell ?_ (by first | omega | (simp; done) | (simp; omega)) _)))
        · have HF : Hid (cobX n xs car = ⟨0, []⟩ ∧ cobCode n xs car = 5) := Lib.hid (cob_err (by simp [cobCode, hv, hn, hc, h8]) (by decide))
          have e1 : ((((pack xs).length : Nat) : Int) == 0) = false := beq_eq_false_iff_ne.2 (by omega)
          have e2 : decide ((((pack xs).length : Nat) : Int) > 8) = true := decide_eq_true (by omega)
          obtain ⟨r0, r1⟩ := kz3.c2
          have g0 := kz3.frozen 0
          have g1 := kz3.frozen 1
          go_wp2_with (fail)
          refine bodyPost_ret (v := .tuple #[.agg #[.int .i64 (cobX n xs car).n, .slice none (cobX n xs car).xs.length 0], .int .i64 (cobCode n xs car)]) (by rw [HF.out.1, HF.out.2]; simp [results, Try.results72, go_sem, r0, r1]) rfl ⟨none, 0, rfl, ?_, ?_⟩
          · rw [HF.out.1]; exact OwnRows.nil _ _ _
          · (repeat (first | exact Below.refl _ _ | assumption | apply Below.drew | apply below_drewN | (refine Below.alloc ?_ (by first | omega | (simp; done) | (simp; omega)) _) | (refine Below.setCell ?_ (by first | omega | (simp; done) | (simp; omega)) _)))

end Go.Proofs.Ytdnchjchgejkeaa
