/- ChartOfBraid, the program's side. -/
import Derived.Test.YtdnchjchgejkeaaCB
namespace Go.Proofs.Ytdnchjchgejkeaa
open Go.RowKit

def cowCode (n : Int) (xs : List Int) (car : Int) : Int := if inR n 1 8 && carrierB car then (if (pack xs).length ≤ 8 ∧ xs.length ≤ 40 then 0 else 5) else 2
def cowX (n : Int) (xs : List Int) (car : Int) : ChX := if cowCode n xs car = 0 then ⟨n, rowsFrom n.toNat car (groupsOf xs) (-1)⟩ else ⟨0, []⟩
theorem cow_err {n : Int} {xs : List Int} {car k : Int} (e : cowCode n xs car = k) (hk : k ≠ 0) : cowX n xs car = ⟨0, []⟩ ∧ cowCode n xs car = k := ⟨by rw [cowX, if_neg (by rw [e]; exact hk)], e⟩
theorem cow_cob {n : Int} {xs : List Int} {car : Int} (h : braidB n xs = true) : cowCode n xs car = cobCode n xs car ∧ cowX n xs car = cobX n xs car := by
  have h4 := (braidB_of h).2.2.1
  have e : cowCode n xs car = cobCode n xs car := by
    unfold cowCode cobCode
    rw [h]
    simp [h4]
  exact ⟨e, by rw [cowX, cobX, e]⟩

set_option maxHeartbeats 4000000 in
set_option maxRecDepth 10000 in
theorem impl_chartOfWord (n : Int) (xs : List Int) (car : Int) (A : Option Addr) (c : Nat) (w : World) (h : Ints w A xs) (hl : xs.length ≤ 1000) (hsm : smallB xs) :
    Calls Try.prog 135 #[.int .i64 n, .slice A xs.length c, .int .i64 car] w fun e w' => ∃ A' c', e = .returned (.tuple #[.agg #[.int .i64 (cowX n xs car).n, .slice A' (cowX n xs car).xs.length c'], .int .i64 (cowCode n xs car)]) ∧ OwnRows w' w.heap.size w'.heap.size A' (cowX n xs car).xs.length c' (cowX n xs car).xs ∧ Below w.heap.size w w' := by
  have t1 : (95 : TypeId) ≠ 2 := by decide
  have t2 : (95 : TypeId) ≠ 44 := by decide
  have hb1 : Below w.heap.size w (w.alloc (.cells #[.int .i64 0, .slice none 0 0] 95)) := by (repeat (first | exact Below.refl _ _ | assumption | apply Below.drew | apply below_drewN | (refine Below.alloc ?_ (by first | omega | (simp; done) | (simp; omega)) _) | (refine Below.setCell ?_ (by first | omega | (simp; done) | (simp; omega)) _)))
  have kz := Blk.new w 95 #[.int .i64 0, .slice none 0 0]
  cases hn : inR n 1 8
  · have HF : Hid (cowX n xs car = ⟨0, []⟩ ∧ cowCode n xs car = 2) := Lib.hid (cow_err (by simp [cowCode, hn]) (by decide))
    go_enter Try.func135, Try.ntmps135
    go_wp2_with (first | (go_at_call 92; refine (impl_within _ _ _ _).mono ?_; rintro e _ ⟨rfl, rfl⟩) | (go_at_call 94; refine (impl_isCarrier _ _).mono ?_; rintro e _ ⟨rfl, rfl⟩))
    refine bodyPost_ret (v := .tuple #[.agg #[.int .i64 (cowX n xs car).n, .slice none (cowX n xs car).xs.length 0], .int .i64 (cowCode n xs car)]) (by rw [HF.out.1, HF.out.2]; simp [results, Try.results135, go_sem]) rfl ⟨none, 0, rfl, ?_, ?_⟩
    · rw [HF.out.1]; exact OwnRows.nil _ _ _
    · (repeat (first | exact Below.refl _ _ | assumption | apply Below.drew | apply below_drewN | (refine Below.alloc ?_ (by first | omega | (simp; done) | (simp; omega)) _) | (refine Below.setCell ?_ (by first | omega | (simp; done) | (simp; omega)) _)))
  · cases hc : carrierB car
    · have HF : Hid (cowX n xs car = ⟨0, []⟩ ∧ cowCode n xs car = 2) := Lib.hid (cow_err (by simp [cowCode, hn, hc]) (by decide))
      go_enter Try.func135, Try.ntmps135
      go_wp2_with (first | (go_at_call 92; refine (impl_within _ _ _ _).mono ?_; rintro e _ ⟨rfl, rfl⟩) | (go_at_call 94; refine (impl_isCarrier _ _).mono ?_; rintro e _ ⟨rfl, rfl⟩))
      refine bodyPost_ret (v := .tuple #[.agg #[.int .i64 (cowX n xs car).n, .slice none (cowX n xs car).xs.length 0], .int .i64 (cowCode n xs car)]) (by rw [HF.out.1, HF.out.2]; simp [results, Try.results135, go_sem]) rfl ⟨none, 0, rfl, ?_, ?_⟩
      · rw [HF.out.1]; exact OwnRows.nil _ _ _
      · (repeat (first | exact Below.refl _ _ | assumption | apply Below.drew | apply below_drewN | (refine Below.alloc ?_ (by first | omega | (simp; done) | (simp; omega)) _) | (refine Below.setCell ?_ (by first | omega | (simp; done) | (simp; omega)) _)))
    · have hn18 := inR_iff.1 hn
      have HS : Hid (smallB xs) := Lib.hid hsm
      have hpk : (pack xs).length ≤ 1000 := by have := pack_size xs; omega
      go_enter Try.func135, Try.ntmps135
      go_wp2_with (first | (go_at_call 92; refine (impl_within _ _ _ _).mono ?_; rintro e _ ⟨rfl, rfl⟩) | (go_at_call 94; refine (impl_isCarrier _ _).mono ?_; rintro e _ ⟨rfl, rfl⟩))
      refine (impl_packed A c xs _ (h.below hb1) (by omega) HS.out).mono ?_; rintro e w3 ⟨A3, c3, rfl, o3, b3⟩
      have hz3 : w.heap.size + 1 ≤ w3.heap.size := by have := b3.size; simpa using this
      have kz3 : Blk w3 w.heap.size 95 #[.int .i64 0, .slice none 0 0] := kz.below b3 (by simp)
      have hb3 : Below w.heap.size w w3 := hb1.trans (b3.mono (by simp))
      have HI3 := Lib.hid o3.ints2
      clear kz hb1
      by_cases h8 : (pack xs).length ≤ 8
      · by_cases h4 : xs.length ≤ 40
        · have HC : Hid (cowCode n xs car = 0) := Lib.hid (by simp [cowCode, hn, hc, h8, h4])
          have HF : Hid (cowX n xs car = ⟨n, rowsFrom n.toNat car (groupsOf xs) (-1)⟩) := Lib.hid (by rw [cowX, if_pos HC.out])
          obtain ⟨m, rfl⟩ := Int.eq_ofNat_of_zero_le (show (0 : Int) ≤ n by omega)
          have e4 : decide ((xs.length : Int) > 40) = false := decide_eq_false (by omega)
          by_cases h0 : pack xs = []
          · have HG : Hid (groupsOf xs = [[]]) := Lib.hid (by rw [groupsOf, if_pos h0])
            have e0 : (pack xs).length = 0 := by rw [h0]; rfl
            obtain ⟨i0, hi0, hy0, hy1, hy2⟩ := info_parts info_Row
            rw [e0]
            go_wp2_with (fail)
            have kzB : Blk (w3.alloc (.cells #[.slice none 0 0] 29)) w.heap.size 95 #[.int .i64 0, .slice none 0 0] := kz3.alloc _
            have hzB : w.heap.size < (w3.alloc (.cells #[.slice none 0 0] 29)).heap.size := kzB.lt
            have HBB : Below w.heap.size w (w3.alloc (.cells #[.slice none 0 0] 29)) := hb3.alloc (by omega) _
            have hsz3 : (w3.alloc (.cells #[.slice none 0 0] 29)).heap.size = w3.heap.size + 1 := by simp
            have HIB : Hid (Ints2 (w3.alloc (.cells #[.slice none 0 0] 29)) (some ⟨w3.heap.size, 0, none⟩) [[]]) := Lib.hid (by
              intro k hk
              obtain rfl : k = 0 := by simpa using hk
              exact ⟨w3.heap.size, 0, none, 0, [], rfl, rfl, (Blk.new w3 29 #[.slice none 0 0]).c1, Ints.nil, by simp⟩)
            have HS3 := Lib.hid hsz3; clear hsz3
            obtain ⟨wB, hwB⟩ : ∃ wB, wB = w3.alloc (.cells #[.slice none 0 0] 29) := ⟨_, rfl⟩
            rw [← hwB] at kzB hzB HBB HIB HS3 ⊢
            try rw [← HS3.out]
            clear hwB
            generalize hA6 : (some ⟨w3.heap.size, 0, none⟩ : Option Addr) = A6 at HIB ⊢
            clear hA6
            obtain ⟨p0, p1⟩ := (Blk.new wB 95 #[.int .i64 m, .slice none 0 0]).c2
            go_loopw [10, 41] (fun dv iv wr => ∃ (k : Nat) (d : Int) (done : List RowD), k ≤ 1 ∧ dv = .int .i64 d ∧ iv = .int .i64 k ∧ (d = -1 ∨ d = 1) ∧ Hid (rowsFrom m car ([[]]) (-1) = done ++ rowsFrom m car (([[]]).drop k) d) ∧ ChartInv m (wB).heap.size (wB) wr k done) (fun _ iv _ => 1 - (intOf iv).toNat)
            case atStart => exact ⟨0, -1, [], Nat.zero_le _, rfl, rfl, .inl rfl, Lib.hid rfl, ChartInv.start _ _⟩
            case round =>
              clear p0 p1
              obtain ⟨k, d, done, hk, rfl, rfl, hd, HD, hinv⟩ := hrel
              obtain ⟨hdl, hb, hlt, A', c', cs, kb, ho, hcr⟩ := hinv
              have kzr := kzB.below hb (by omega)
              obtain ⟨s0, s1⟩ := kb.c2
              by_cases hkl : k < 1
              · obtain ⟨b, off, A2, c2, g, rfl, hx, hc2, hi, hgl⟩ := (HIB.out.below hb) k hkl
                have HX := Lib.hid hx; clear hx
                have hg40 : g.length ≤ 9223372036854775807 := by omega
                have j1 : (0 : Int) ≤ (k : Int) := by omega
                have j2 : (k : Int) < ((1 : Nat) : Int) := by omega
                have j4 : IntKind.i64.wrap (-d) = -d := IntWalk.i64_in _ (by omega)
                have j5 : IntKind.i64.wrap ((k : Int) + 1) = (k : Int) + 1 := IntWalk.i64_in _ (by omega)
                go_wp2_with (fail)
                go_region_law (first | (go_simp; go_at_call 99; refine (impl_rowOfLetters m g d car A2 c2 _ (Ints.drew1 hi) hg40 (by omega)).mono ?_; rintro e w4 ⟨A4, c4, rfl, o4', b4'⟩; have b4 := undrew b4'; have u1 := (kb.below b4 hlt).c2.2; have u2 := cell_alloc u1 (.cells #[.int .i64 d, .int .i64 car, .slice A4 (rowFrom m g 0).length c4] 44)) | (refine step_append1 [.int .i64 d, .int .i64 car, .slice A4 (rowFrom m g 0).length c4] _ rfl (.tmp 46) (.tmp 52) _ rfl 44 i0 _ 3 40 Try.underlying93 hi0 hy0 hy1 hy2 rfl (by decide) (by simp [Act.eval]) (ho.below b4 (Nat.le_refl _)) (by have := b4.size; omega) 1 (by simp [Act.eval]) rfl (by simp [Value.oneCell']) (by omega) (by decide) ?_; intro A5 c5 w5 ho5 hg5 hb5 hz5; have kb5 := ((kb.below b4 hlt).alloc (.cells #[.int .i64 d, .int .i64 car, .slice A4 (rowFrom m g 0).length c4] 44)).grownT ((ho.below b4 (Nat.le_refl _)).alloc (.cells #[.int .i64 d, .int .i64 car, .slice A4 (rowFrom m g 0).length c4] 44)) t2 hg5; obtain ⟨v0, v1⟩ := kb5.c2; have v2 := kb5.frozen 1))
                all_goals go_wp2_with (fail)
                all_goals
                  have hinv' := ChartInv.step ⟨d, car, rowFrom m g 0⟩ hdl hb hlt kb ho hcr b4 o4' ho5 hg5 hb5 hz5
                  refine ⟨⟨k + 1, -d, done ++ [⟨d, car, rowFrom m g 0⟩], by omega, rfl, by go_num, by omega, Lib.hid (by rw [HD.out, rowsFrom_drop HX.out, List.append_assoc]; rfl), hinv'⟩, by simp [intOf]; omega⟩
              · obtain rfl : k = 1 := by omega
                have hfin : cowX m xs car = ⟨m, done⟩ := by
                  have h9 := HD.out
                  rw [drop_all (by simp), rowsFrom, List.append_nil] at h9
                  rw [HF.out, HG.out, Int.toNat_natCast, h9]
                have HFN := Lib.hid hfin; clear hfin
                obtain ⟨A7, c7, kc, oo⟩ := ChartInv.rows ⟨hdl, hb, hlt, A', c', cs, kb, ho, hcr⟩
                obtain ⟨p0, p1⟩ := kc.c2
                obtain ⟨r0, r1⟩ := kzr.c2
                have g0 := kzr.frozen 0
                have g1 := kzr.frozen 1
                have hbw : Below w.heap.size w wr := HBB.trans (hb.mono (by omega))
                clear s0 s1
                have HDL := Lib.hid hdl; clear hdl
                go_wp2_with (fail)
                refine bodyPost_ret (v := .tuple #[.agg #[.int .i64 (cowX m xs car).n, .slice A7 (cowX m xs car).xs.length c7], .int .i64 (cowCode m xs car)]) (by rw [HFN.out, HC.out]; simp [results, Try.results135, go_sem, r0, r1, HDL.out]) rfl ⟨A7, c7, rfl, ?_, ?_⟩
                · rw [HFN.out]
                  have k1 := kzr.set20 (.int .i64 m)
                  show OwnRows _ _ _ _ done.length _ done
                  rw [HDL.out]
                  exact ((oo.farT kzr t1 t2 0 _).farT k1 t1 t2 1 _).mono (by omega) (by simp)
                · (repeat (first | exact Below.refl _ _ | assumption | apply Below.drew | apply below_drewN | (refine Below.alloc ?_ (by first | omega | (simp; done) | (simp; omega)) _) | (refine Below.setCell ?_ (by first | omega | (simp; done) | (simp; omega)) _)))
          · have HG : Hid (groupsOf xs = pack xs) := Lib.hid (by rw [groupsOf, if_neg h0])
            obtain ⟨i0, hi0, hy0, hy1, hy2⟩ := info_parts info_Row
            have hpos : 0 < (pack xs).length := List.length_pos_iff.2 h0
            have e1 : ((((pack xs).length : Nat) : Int) == 0) = false := beq_eq_false_iff_ne.2 (by omega)
            have e2 : decide ((((pack xs).length : Nat) : Int) > 8) = false := decide_eq_false (by omega)
            clear h0
            generalize hgs : pack xs = gs at *
            have HGS := Lib.hid hgs; clear hgs
            go_wp2_with (fail)
            have kzB := kz3
            have hzB : w.heap.size < w3.heap.size := kzB.lt
            have HBB := hb3
            have HIB := HI3
            obtain ⟨p0, p1⟩ := (Blk.new w3 95 #[.int .i64 m, .slice none 0 0]).c2
            go_loopw [10, 41] (fun dv iv wr => ∃ (k : Nat) (d : Int) (done : List RowD), k ≤ gs.length ∧ dv = .int .i64 d ∧ iv = .int .i64 k ∧ (d = -1 ∨ d = 1) ∧ Hid (rowsFrom m car (gs) (-1) = done ++ rowsFrom m car ((gs).drop k) d) ∧ ChartInv m (w3).heap.size (w3) wr k done) (fun _ iv _ => gs.length - (intOf iv).toNat)
            case atStart => exact ⟨0, -1, [], Nat.zero_le _, rfl, rfl, .inl rfl, Lib.hid rfl, ChartInv.start _ _⟩
            case round =>
              clear p0 p1
              obtain ⟨k, d, done, hk, rfl, rfl, hd, HD, hinv⟩ := hrel
              obtain ⟨hdl, hb, hlt, A', c', cs, kb, ho, hcr⟩ := hinv
              have kzr := kzB.below hb (by omega)
              obtain ⟨s0, s1⟩ := kb.c2
              by_cases hkl : k < gs.length
              · obtain ⟨b, off, A2, c2, g, rfl, hx, hc2, hi, hgl⟩ := (HIB.out.below hb) k hkl
                have HX := Lib.hid hx; clear hx
                have hg40 : g.length ≤ 9223372036854775807 := by omega
                have j1 : (0 : Int) ≤ (k : Int) := by omega
                have j2 : (k : Int) < ((gs.length : Nat) : Int) := by omega
                have j4 : IntKind.i64.wrap (-d) = -d := IntWalk.i64_in _ (by omega)
                have j5 : IntKind.i64.wrap ((k : Int) + 1) = (k : Int) + 1 := IntWalk.i64_in _ (by omega)
                go_wp2_with (fail)
                go_region_law (first | (go_simp; go_at_call 99; refine (impl_rowOfLetters m g d car A2 c2 _ (Ints.drew1 hi) hg40 (by omega)).mono ?_; rintro e w4 ⟨A4, c4, rfl, o4', b4'⟩; have b4 := undrew b4'; have u1 := (kb.below b4 hlt).c2.2; have u2 := cell_alloc u1 (.cells #[.int .i64 d, .int .i64 car, .slice A4 (rowFrom m g 0).length c4] 44)) | (refine step_append1 [.int .i64 d, .int .i64 car, .slice A4 (rowFrom m g 0).length c4] _ rfl (.tmp 46) (.tmp 52) _ rfl 44 i0 _ 3 40 Try.underlying93 hi0 hy0 hy1 hy2 rfl (by decide) (by simp [Act.eval]) (ho.below b4 (Nat.le_refl _)) (by have := b4.size; omega) 1 (by simp [Act.eval]) rfl (by simp [Value.oneCell']) (by omega) (by decide) ?_; intro A5 c5 w5 ho5 hg5 hb5 hz5; have kb5 := ((kb.below b4 hlt).alloc (.cells #[.int .i64 d, .int .i64 car, .slice A4 (rowFrom m g 0).length c4] 44)).grownT ((ho.below b4 (Nat.le_refl _)).alloc (.cells #[.int .i64 d, .int .i64 car, .slice A4 (rowFrom m g 0).length c4] 44)) t2 hg5; obtain ⟨v0, v1⟩ := kb5.c2; have v2 := kb5.frozen 1))
                all_goals go_wp2_with (fail)
                all_goals
                  have hinv' := ChartInv.step ⟨d, car, rowFrom m g 0⟩ hdl hb hlt kb ho hcr b4 o4' ho5 hg5 hb5 hz5
                  refine ⟨⟨k + 1, -d, done ++ [⟨d, car, rowFrom m g 0⟩], by omega, rfl, by go_num, by omega, Lib.hid (by rw [HD.out, rowsFrom_drop HX.out, List.append_assoc]; rfl), hinv'⟩, by simp [intOf]; omega⟩
              · obtain rfl : k = gs.length := by omega
                have hfin : cowX m xs car = ⟨m, done⟩ := by
                  have h9 := HD.out
                  rw [drop_all (by simp), rowsFrom, List.append_nil] at h9
                  rw [HF.out, HG.out, Int.toNat_natCast, h9]
                have HFN := Lib.hid hfin; clear hfin
                obtain ⟨A7, c7, kc, oo⟩ := ChartInv.rows ⟨hdl, hb, hlt, A', c', cs, kb, ho, hcr⟩
                obtain ⟨p0, p1⟩ := kc.c2
                obtain ⟨r0, r1⟩ := kzr.c2
                have g0 := kzr.frozen 0
                have g1 := kzr.frozen 1
                have hbw : Below w.heap.size w wr := HBB.trans (hb.mono (by omega))
                clear s0 s1
                have HDL := Lib.hid hdl; clear hdl
                go_wp2_with (fail)
                refine bodyPost_ret (v := .tuple #[.agg #[.int .i64 (cowX m xs car).n, .slice A7 (cowX m xs car).xs.length c7], .int .i64 (cowCode m xs car)]) (by rw [HFN.out, HC.out]; simp [results, Try.results135, go_sem, r0, r1, HDL.out]) rfl ⟨A7, c7, rfl, ?_, ?_⟩
                · rw [HFN.out]
                  have k1 := kzr.set20 (.int .i64 m)
                  show OwnRows _ _ _ _ done.length _ done
                  rw [HDL.out]
                  exact ((oo.farT kzr t1 t2 0 _).farT k1 t1 t2 1 _).mono (by omega) (by simp)
                · (repeat (first | exact Below.refl _ _ | assumption | apply Below.drew | apply below_drewN | (refine Below.alloc ?_ (by first | omega | (simp; done) | (simp; omega)) _) | (refine Below.setCell ?_ (by first | omega | (simp; done) | (simp; omega)) _)))
        · have HF : Hid (cowX n xs car = ⟨0, []⟩ ∧ cowCode n xs car = 5) := Lib.hid (cow_err (by simp [cowCode, hn, hc, h4]) (by decide))
          have e1 : decide ((xs.length : Int) > 40) = true := decide_eq_true (by omega)
          have e2 : decide ((((pack xs).length : Nat) : Int) > 8) = false := decide_eq_false (by omega)
          obtain ⟨r0, r1⟩ := kz3.c2
          have g0 := kz3.frozen 0
          have g1 := kz3.frozen 1
          go_wp2_with (fail)
          refine bodyPost_ret (v := .tuple #[.agg #[.int .i64 (cowX n xs car).n, .slice none (cowX n xs car).xs.length 0], .int .i64 (cowCode n xs car)]) (by rw [HF.out.1, HF.out.2]; simp [results, Try.results135, go_sem, r0, r1]) rfl ⟨none, 0, rfl, ?_, ?_⟩
          · rw [HF.out.1]; exact OwnRows.nil _ _ _
          · (repeat (first | exact Below.refl _ _ | assumption | apply Below.drew | apply below_drewN | (refine Below.alloc ?_ (by first | omega | (simp; done) | (simp; omega)) _) | (refine Below.setCell ?_ (by first | omega | (simp; done) | (simp; omega)) _)))
      · have HF : Hid (cowX n xs car = ⟨0, []⟩ ∧ cowCode n xs car = 5) := Lib.hid (cow_err (by simp [cowCode, hn, hc, h8]) (by decide))
        have e2 : decide ((((pack xs).length : Nat) : Int) > 8) = true := decide_eq_true (by omega)
        obtain ⟨r0, r1⟩ := kz3.c2
        have g0 := kz3.frozen 0
        have g1 := kz3.frozen 1
        go_wp2_with (fail)
        refine bodyPost_ret (v := .tuple #[.agg #[.int .i64 (cowX n xs car).n, .slice none (cowX n xs car).xs.length 0], .int .i64 (cowCode n xs car)]) (by rw [HF.out.1, HF.out.2]; simp [results, Try.results135, go_sem, r0, r1]) rfl ⟨none, 0, rfl, ?_, ?_⟩
        · rw [HF.out.1]; exact OwnRows.nil _ _ _
        · (repeat (first | exact Below.refl _ _ | assumption | apply Below.drew | apply below_drewN | (refine Below.alloc ?_ (by first | omega | (simp; done) | (simp; omega)) _) | (refine Below.setCell ?_ (by first | omega | (simp; done) | (simp; omega)) _)))

set_option maxHeartbeats 2000000 in
set_option maxRecDepth 10000 in
theorem impl_ChartOfBraid (n : Int) (xs : List Int) (car : Int) (A : Option Addr) (c : Nat) (w : World) (h : Ints w A xs) (hl : xs.length ≤ 9223372036854775807) :
    Calls Try.prog 73 #[.agg #[.int .i64 n, .slice A xs.length c], .int .i64 car] w fun e w' => ∃ A' c', e = .returned (.tuple #[.agg #[.int .i64 (cobX n xs car).n, .slice A' (cobX n xs car).xs.length c'], .int .i64 (cobCode n xs car)]) ∧ OwnRows w' w.heap.size w'.heap.size A' (cobX n xs car).xs.length c' (cobX n xs car).xs ∧ Below w.heap.size w w' := by
  have t1 : (95 : TypeId) ≠ 2 := by decide
  have t2 : (95 : TypeId) ≠ 44 := by decide
  have hb1 : Below w.heap.size w ((w.alloc (.cells #[.int .i64 n, .slice A xs.length c] 36)).alloc (.cells #[.int .i64 0, .slice none 0 0] 95)) := by (repeat (first | exact Below.refl _ _ | assumption | apply Below.drew | apply below_drewN | (refine Below.alloc ?_ (by first | omega | (simp; done) | (simp; omega)) _) | (refine Below.setCell ?_ (by first | omega | (simp; done) | (simp; omega)) _)))
  have ka := (Blk.new w 36 #[.int .i64 n, .slice A xs.length c]).alloc (.cells #[.int .i64 0, .slice none 0 0] 95)
  have kz : Blk ((w.alloc (.cells #[.int .i64 n, .slice A xs.length c] 36)).alloc (.cells #[.int .i64 0, .slice none 0 0] 95)) (w.heap.size + 1) 95 #[.int .i64 0, .slice none 0 0] := by simpa using Blk.new (w.alloc (.cells #[.int .i64 n, .slice A xs.length c] 36)) 95 #[.int .i64 0, .slice none 0 0]
  have HV0 : ∀ b, braidB n xs = b → Hid (braidB n xs = b) := fun _ h => Lib.hid h
  go_enter Try.func73, Try.ntmps73
  go_wp2_with (fail)
  refine (impl_ValidBraid n xs A c _ (h.below hb1) hl).mono ?_; rintro e w2 ⟨rfl, b2'⟩
  have z2 := b2'.size
  simp only [World.size_alloc] at z2
  have ka2 := ka.below b2' (by simp; omega)
  have kz2 := kz.below b2' (by simp)
  have b2 : Below w.heap.size w w2 := hb1.trans (b2'.mono (by simp only [World.size_alloc]; omega))
  clear b2' ka kz hb1
  obtain ⟨q0, q1⟩ := ka2.c2
  obtain ⟨r0, r1⟩ := kz2.c2
  have g0 := kz2.frozen 0
  have g1 := kz2.frozen 1
  cases hv : braidB n xs
  · have HF : Hid (cobX n xs car = ⟨0, []⟩ ∧ cobCode n xs car = 1) := Lib.hid (cob_err (by simp [cobCode, hv]) (by decide))
    go_wp2_with (fail)
    refine bodyPost_ret (v := .tuple #[.agg #[.int .i64 (cobX n xs car).n, .slice none (cobX n xs car).xs.length 0], .int .i64 (cobCode n xs car)]) (by rw [HF.out.1, HF.out.2]; simp [results, Try.results73, go_sem, r0, r1]) rfl ⟨none, 0, rfl, ?_, ?_⟩
    · rw [HF.out.1]; exact OwnRows.nil _ _ _
    · (repeat (first | exact Below.refl _ _ | assumption | apply Below.drew | apply below_drewN | (refine Below.alloc ?_ (by first | omega | (simp; done) | (simp; omega)) _) | (refine Below.setCell ?_ (by first | omega | (simp; done) | (simp; omega)) _)))
  · have HF : Hid (cowCode n xs car = cobCode n xs car ∧ cowX n xs car = cobX n xs car) := Lib.hid (cow_cob hv)
    have hv4 := (braidB_of hv).2.2.1
    have HS : Hid (smallB xs) := Lib.hid (smallB_of hv)
    clear r0 r1 g0 g1
    go_wp2_with (fail)
    refine (impl_chartOfWord n xs car A c _ (h.below b2) (by omega) HS.out).mono ?_; rintro e w3 ⟨A3, c3, rfl, o3, b3⟩
    rw [HF.out.1, HF.out.2] at *
    have kz3 := kz2.below b3 (by omega)
    have z3 := b3.size
    have hb3 : Below w.heap.size w w3 := b2.trans (b3.mono (by omega))
    obtain ⟨r0, r1⟩ := kz3.c2
    have g0 := kz3.frozen 0
    have g1 := kz3.frozen 1
    go_wp2_with (fail)
    refine bodyPost_ret (v := .tuple #[.agg #[.int .i64 (cobX n xs car).n, .slice A3 (cobX n xs car).xs.length c3], .int .i64 (cobCode n xs car)]) (by simp [results, Try.results73, go_sem, r0, r1]) rfl ⟨A3, c3, rfl, ?_, ?_⟩
    · have k1 := kz3.set20 (.int .i64 (cobX n xs car).n)
      exact ((o3.farT kz3 t1 t2 0 _).farT k1 t1 t2 1 _).mono (by omega) (by simp)
    · (repeat (first | exact Below.refl _ _ | assumption | apply Below.drew | apply below_drewN | (refine Below.alloc ?_ (by first | omega | (simp; done) | (simp; omega)) _) | (refine Below.setCell ?_ (by first | omega | (simp; done) | (simp; omega)) _)))

end Go.Proofs.Ytdnchjchgejkeaa
