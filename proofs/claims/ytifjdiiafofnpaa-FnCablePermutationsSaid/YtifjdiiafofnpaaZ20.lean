/- Steps of the proof, joined from several texts: CE ZJ ZN YC. -/
import Derived.Test.YtifjdiiafofnpaaZ7
import Derived.Test.YtifjdiiafofnpaaZ13
import Derived.Test.YtifjdiiafofnpaaZ14
import Derived.Test.YtifjdiiafofnpaaZ8
import Derived.Test.YtifjdiiafofnpaaZ10
import Derived.Test.YtifjdiiafofnpaaZ12
import Derived.Test.YtifjdiiafofnpaaZ11

/- ChartOfBraid, the program's side. -/
namespace Go.Proofs.Ytifjdiiafofnpaa
open Go.RowKit

def cowCode (n : Int) (xs : List Int) (car : Int) : Int := if inR n 1 8 && carrierB car then (if (pack xs).length ≤ 8 ∧ xs.length ≤ 40 then 0 else 5) else 2
def cowX (n : Int) (xs : List Int) (car : Int) : ChX := if cowCode n xs car = 0 then ⟨n, rowsFrom n.toNat car (groupsOf xs) (-1)⟩ else ⟨0, []⟩
theorem cow_err {n : Int} {xs : List Int} {car k : Int} (e : cowCode n xs car = k) (hk : k ≠ 0) : cowX n xs car = ⟨0, []⟩ ∧ cowCode n xs car = k := ⟨by rw [cowX, if_neg (by rw [e]; exact hk)], e⟩
theorem cow_cob {n : Int} {xs : List Int} {car : Int} (h : braidB n xs = true) : cowCode n xs car = cobCode n xs car ∧ cowX n xs car = cobX n xs car := by
  have h4 := (braidB_of h).2.2.1
  have e : cowCode n xs car = cobCode n xs car := by
    unfold cowCode cobCode
    rw [h]
    simp [h4]
  exact ⟨e, by rw [cowX, cobX, e]⟩

set_option maxHeartbeats 4000000 in
set_option maxRecDepth 10000 in
theorem impl_chartOfWord (n : Int) (xs : List Int) (car : Int) (A : Option Addr) (c : Nat) (w : World) (h : Ints w A xs) (hl : xs.length ≤ 1000) (hsm : smallB xs) :
    Calls Try.prog 86 #[.int .i64 n, .slice A xs.length c, .int .i64 car] w fun e w' => ∃ A' c', e = .returned (.tuple #[.agg #[.int .i64 (cowX n xs car).n, .slice A' (cowX n xs car).xs.length c'], .int .i64 (cowCode n xs car)]) ∧ OwnRows w' w.heap.size w'.heap.size A' (cowX n xs car).xs.length c' (cowX n xs car).xs ∧ Below w.heap.size w w' := by
  have t1 : (43 : TypeId) ≠ 2 := by decide
  have t2 : (43 : TypeId) ≠ 29 := by decide
  have hb1 : Below w.heap.size w (w.alloc (.cells #[.int .i64 0, .slice none 0 0] 43)) := by (repeat (first | exact Below.refl _ _ | assumption | apply Below.drew | apply below_drewN | (refine Below.alloc ?_ (by first | omega | (simp; done) | (simp; omega)) _) | (refine Below.setCell ?_ (by first | omega | (simp; done) | (simp; omega)) _)))
  have kz := Blk.new w 43 #[.int .i64 0, .slice none 0 0]
  cases hn : inR n 1 8
  · have HF : Hid (cowX n xs car = ⟨0, []⟩ ∧ cowCode n xs car = 2) := Lib.hid (cow_err (by simp [cowCode, hn]) (by decide))
    go_enter Try.func86, Try.ntmps86
    go_wp2_with (first | (go_at_call 70; refine (impl_within _ _ _ _).mono ?_; rintro e _ ⟨rfl, rfl⟩) | (go_at_call 122; refine (impl_isCarrier _ _).mono ?_; rintro e _ ⟨rfl, rfl⟩))
    refine bodyPost_ret (v := .tuple #[.agg #[.int .i64 (cowX n xs car).n, .slice none (cowX n xs car).xs.length 0], .int .i64 (cowCode n xs car)]) (by rw [HF.out.1, HF.out.2]; simp [results, Try.results86, go_sem]) rfl ⟨none, 0, rfl, ?_, ?_⟩
    · rw [HF.out.1]; exact OwnRows.nil _ _ _
    · (repeat (first | exact Below.refl _ _ | assumption | apply Below.drew | apply below_drewN | (refine Below.alloc ?_ (by first | omega | (simp; done) | (simp; omega)) _) | (refine Below.setCell ?_ (by first | omega | (simp; done) | (simp; omega)) _)))
  · cases hc : carrierB car
    · have HF : Hid (cowX n xs car = ⟨0, []⟩ ∧ cowCode n xs car = 2) := Lib.hid (cow_err (by simp [cowCode, hn, hc]) (by decide))
      go_enter Try.func86, Try.ntmps86
      go_wp2_with (first | (go_at_call 70; refine (impl_within _ _ _ _).mono ?_; rintro e _ ⟨rfl, rfl⟩) | (go_at_call 122; refine (impl_isCarrier _ _).mono ?_; rintro e _ ⟨rfl, rfl⟩))
      refine bodyPost_ret (v := .tuple #[.agg #[.int .i64 (cowX n xs car).n, .slice none (cowX n xs car).xs.length 0], .int .i64 (cowCode n xs car)]) (by rw [HF.out.1, HF.out.2]; simp [results, Try.results86, go_sem]) rfl ⟨none, 0, rfl, ?_, ?_⟩
      · rw [HF.out.1]; exact OwnRows.nil _ _ _
      · (repeat (first | exact Below.refl _ _ | assumption | apply Below.drew | apply below_drewN | (refine Below.alloc ?_ (by first | omega | (simp; done) | (simp; omega)) _) | (refine Below.setCell ?_ (by first | omega | (simp; done) | (simp; omega)) _)))
    · have hn18 := inR_iff.1 hn
      have HS : Hid (smallB xs) := Lib.hid hsm
      have hpk : (pack xs).length ≤ 1000 := by have := pack_size xs; omega
      go_enter Try.func86, Try.ntmps86
      go_wp2_with (first | (go_at_call 70; refine (impl_within _ _ _ _).mono ?_; rintro e _ ⟨rfl, rfl⟩) | (go_at_call 122; refine (impl_isCarrier _ _).mono ?_; rintro e _ ⟨rfl, rfl⟩))
      refine (impl_packed A c xs _ (h.below hb1) (by omega) HS.out).mono ?_; rintro e w3 ⟨A3, c3, rfl, o3, b3⟩
      have hz3 : w.heap.size + 1 ≤ w3.heap.size := by have := b3.size; simpa using this
      have kz3 : Blk w3 w.heap.size 43 #[.int .i64 0, .slice none 0 0] := kz.below b3 (by simp)
      have hb3 : Below w.heap.size w w3 := hb1.trans (b3.mono (by simp))
      have HI3 := Lib.hid o3.ints2
      clear kz hb1
      by_cases h8 : (pack xs).length ≤ 8
      · by_cases h4 : xs.length ≤ 40
        · have HC : Hid (cowCode n xs car = 0) := Lib.hid (by simp [cowCode, hn, hc, h8, h4])
          have HF : Hid (cowX n xs car = ⟨n, rowsFrom n.toNat car (groupsOf xs) (-1)⟩) := Lib.hid (by rw [cowX, if_pos HC.out])
          obtain ⟨m, rfl⟩ := Int.eq_ofNat_of_zero_le (show (0 : Int) ≤ n by omega)
          have e4 : decide ((xs.length : Int) > 40) = false := decide_eq_false (by omega)
          by_cases h0 : pack xs = []
          · have HG : Hid (groupsOf xs = [[]]) := Lib.hid (by rw [groupsOf, if_pos h0])
            have e0 : (pack xs).length = 0 := by rw [h0]; rfl
            obtain ⟨i0, hi0, hy0, hy1, hy2⟩ := info_parts info_Row
            rw [e0]
            go_wp2_with (fail)
            have kzB : Blk (w3.alloc (.cells #[.slice none 0 0] 22)) w.heap.size 43 #[.int .i64 0, .slice none 0 0] := kz3.alloc _
            have hzB : w.heap.size < (w3.alloc (.cells #[.slice none 0 0] 22)).heap.size := kzB.lt
            have HBB : Below w.heap.size w (w3.alloc (.cells #[.slice none 0 0] 22)) := hb3.alloc (by omega) _
            have hsz3 : (w3.alloc (.cells #[.slice none 0 0] 22)).heap.size = w3.heap.size + 1 := by simp
            have HIB : Hid (Ints2 (w3.alloc (.cells #[.slice none 0 0] 22)) (some ⟨w3.heap.size, 0, none⟩) [[]]) := Lib.hid (by
              intro k hk
              obtain rfl : k = 0 := by simpa using hk
              exact ⟨w3.heap.size, 0, none, 0, [], rfl, rfl, (Blk.new w3 22 #[.slice none 0 0]).c1, Ints.nil, by simp⟩)
            have HS3 := Lib.hid hsz3; clear hsz3
            obtain ⟨wB, hwB⟩ : ∃ wB, wB = w3.alloc (.cells #[.slice none 0 0] 22) := ⟨_, rfl⟩
            rw [← hwB] at kzB hzB HBB HIB HS3 ⊢
            try rw [← HS3.out]
            clear hwB
            generalize hA6 : (some ⟨w3.heap.size, 0, none⟩ : Option Addr) = A6 at HIB ⊢
            clear hA6
            obtain ⟨p0, p1⟩ := (Blk.new wB 43 #[.int .i64 m, .slice none 0 0]).c2
            go_loopw [10, 41] (fun dv iv wr => ∃ (k : Nat) (d : Int) (done : List RowD), k ≤ 1 ∧ dv = .int .i64 d ∧ iv = .int .i64 k ∧ (d = -1 ∨ d = 1) ∧ Hid (rowsFrom m car ([[]]) (-1) = done ++ rowsFrom m car (([[]]).drop k) d) ∧ ChartInv m (wB).heap.size (wB) wr k done) (fun _ iv _ => 1 - (intOf iv).toNat)
            case atStart => exact ⟨0, -1, [], Nat.zero_le _, rfl, rfl, .inl rfl, Lib.hid rfl, ChartInv.start _ _⟩
            case round =>
              clear p0 p1
              obtain ⟨k, d, done, hk, rfl, rfl, hd, HD, hinv⟩ := hrel
              obtain ⟨hdl, hb, hlt, A', c', cs, kb, ho, hcr⟩ := hinv
              have kzr := kzB.below hb (by omega)
              obtain ⟨s0, s1⟩ := kb.c2
              by_cases hkl : k < 1
              · obtain ⟨b, off, A2, c2, g, rfl, hx, hc2, hi, hgl⟩ := (HIB.out.below hb) k hkl
                have HX := Lib.hid hx; clear hx
                have hg40 : g.length ≤ 9223372036854775807 := by omega
                have j1 : (0 : Int) ≤ (k : Int) := by omega
                have j2 : (k : Int) < ((1 : Nat) : Int) := by omega
                have j4 : IntKind.i64.wrap (-d) = -d := IntWalk.i64_in _ (by omega)
                have j5 : IntKind.i64.wrap ((k : Int) + 1) = (k : Int) + 1 := IntWalk.i64_in _ (by omega)
                go_wp2_with (fail)
                go_region_law (first | (go_simp; go_at_call 136; refine (impl_rowOfLetters m g d car A2 c2 _ (Ints.drew1 hi) hg40 (by omega)).mono ?_; rintro e w4 ⟨A4, c4, rfl, o4', b4'⟩; have b4 := undrew b4'; have u1 := (kb.below b4 hlt).c2.2; have u2 := cell_alloc u1 (.cells #[.int .i64 d, .int .i64 car, .slice A4 (rowFrom m g 0).length c4] 29)) | (refine step_append1 [.int .i64 d, .int .i64 car, .slice A4 (rowFrom m g 0).length c4] _ rfl (.tmp 46) (.tmp 52) _ rfl 29 i0 _ 3 40 Try.underlying41 hi0 hy0 hy1 hy2 rfl (by decide) (by simp [Act.eval]) (ho.below b4 (Nat.le_refl _)) (by have := b4.size; omega) 1 (by simp [Act.eval]) rfl (by simp [Value.oneCell']) (by omega) (by decide) ?_; intro A5 c5 w5 ho5 hg5 hb5 hz5; have kb5 := ((kb.below b4 hlt).alloc (.cells #[.int .i64 d, .int .i64 car, .slice A4 (rowFrom m g 0).length c4] 29)).grownT ((ho.below b4 (Nat.le_refl _)).alloc (.cells #[.int .i64 d, .int .i64 car, .slice A4 (rowFrom m g 0).length c4] 29)) t2 hg5; obtain ⟨v0, v1⟩ := kb5.c2; have v2 := kb5.frozen 1))
                all_goals go_wp2_with (fail)
                all_goals
                  have hinv' := ChartInv.step ⟨d, car, rowFrom m g 0⟩ hdl hb hlt kb ho hcr b4 o4' ho5 hg5 hb5 hz5
                  refine ⟨⟨k + 1, -d, done ++ [⟨d, car, rowFrom m g 0⟩], by omega, rfl, by go_num, by omega, Lib.hid (by rw [HD.out, rowsFrom_drop HX.out, List.append_assoc]; rfl), hinv'⟩, by simp [intOf]; omega⟩
              · obtain rfl : k = 1 := by omega
                have hfin : cowX m xs car = ⟨m, done⟩ := by
                  have h9 := HD.out
                  rw [drop_all (by simp), rowsFrom, List.append_nil] at h9
                  rw [HF.out, HG.out, Int.toNat_natCast, h9]
                have HFN := Lib.hid hfin; clear hfin
                obtain ⟨A7, c7, kc, oo⟩ := ChartInv.rows ⟨hdl, hb, hlt, A', c', cs, kb, ho, hcr⟩
                obtain ⟨p0, p1⟩ := kc.c2
                obtain ⟨r0, r1⟩ := kzr.c2
                have g0 := kzr.frozen 0
                have g1 := kzr.frozen 1
                have hbw : Below w.heap.size w wr := HBB.trans (hb.mono (by omega))
                clear s0 s1
                have HDL := Lib.hid hdl; clear hdl
                go_wp2_with (fail)
                refine bodyPost_ret (v := .tuple #[.agg #[.int .i64 (cowX m xs car).n, .slice A7 (cowX m xs car).xs.length c7], .int .i64 (cowCode m xs car)]) (by rw [HFN.out, HC.out]; simp [results, Try.results86, go_sem, r0, r1, HDL.out]) rfl ⟨A7, c7, rfl, ?_, ?_⟩
                · rw [HFN.out]
                  have k1 := kzr.set20 (.int .i64 m)
                  show OwnRows _ _ _ _ done.length _ done
                  rw [HDL.out]
                  exact ((oo.farT kzr t1 t2 0 _).farT k1 t1 t2 1 _).mono (by omega) (by simp)
                · (repeat (first | exact Below.refl _ _ | assumption | apply Below.drew | apply below_drewN | (refine Below.alloc ?_ (by first | omega | (simp; done) | (simp; omega)) _) | (refine Below.setCell ?_ (by first | omega | (simp; done) | (simp; omega)) _)))
          · have HG : Hid (groupsOf xs = pack xs) := Lib.hid (by rw [groupsOf, if_neg h0])
            obtain ⟨i0, hi0, hy0, hy1, hy2⟩ := info_parts info_Row
            have hpos : 0 < (pack xs).length := List.length_pos_iff.2 h0
            have e1 : ((((pack xs).length : Nat) : Int) == 0) = false := beq_eq_false_iff_ne.2 (by omega)
            have e2 : decide ((((pack xs).length : Nat) : Int) > 8) = false := decide_eq_false (by omega)
            clear h0
            generalize hgs : pack xs = gs at *
            have HGS := Lib.hid hgs; clear hgs
            go_wp2_with (fail)
            have kzB := kz3
            have hzB : w.heap.size < w3.heap.size := kzB.lt
            have HBB := hb3
            have HIB := HI3
            obtain ⟨p0, p1⟩ := (Blk.new w3 43 #[.int .i64 m, .slice none 0 0]).c2
            go_loopw [10, 41] (fun dv iv wr => ∃ (k : Nat) (d : Int) (done : List RowD), k ≤ gs.length ∧ dv = .int .i64 d ∧ iv = .int .i64 k ∧ (d = -1 ∨ d = 1) ∧ Hid (rowsFrom m car (gs) (-1) = done ++ rowsFrom m car ((gs).drop k) d) ∧ ChartInv m (w3).heap.size (w3) wr k done) (fun _ iv _ => gs.length - (intOf iv).toNat)
            case atStart => exact ⟨0, -1, [], Nat.zero_le _, rfl, rfl, .inl rfl, Lib.hid rfl, ChartInv.start _ _⟩
            case round =>
              clear p0 p1
              obtain ⟨k, d, done, hk, rfl, rfl, hd, HD, hinv⟩ := hrel
              obtain ⟨hdl, hb, hlt, A', c', cs, kb, ho, hcr⟩ := hinv
              have kzr := kzB.below hb (by omega)
              obtain ⟨s0, s1⟩ := kb.c2
              by_cases hkl : k < gs.length
              · obtain ⟨b, off, A2, c2, g, rfl, hx, hc2, hi, hgl⟩ := (HIB.out.below hb) k hkl
                have HX := Lib.hid hx; clear hx
                have hg40 : g.length ≤ 9223372036854775807 := by omega
                have j1 : (0 : Int) ≤ (k : Int) := by omega
                have j2 : (k : Int) < ((gs.length : Nat) : Int) := by omega
                have j4 : IntKind.i64.wrap (-d) = -d := IntWalk.i64_in _ (by omega)
                have j5 : IntKind.i64.wrap ((k : Int) + 1) = (k : Int) + 1 := IntWalk.i64_in _ (by omega)
                go_wp2_with (fail)
                go_region_law (first | (go_simp; go_at_call 136; refine (impl_rowOfLetters m g d car A2 c2 _ (Ints.drew1 hi) hg40 (by omega)).mono ?_; rintro e w4 ⟨A4, c4, rfl, o4', b4'⟩; have b4 := undrew b4'; have u1 := (kb.below b4 hlt).c2.2; have u2 := cell_alloc u1 (.cells #[.int .i64 d, .int .i64 car, .slice A4 (rowFrom m g 0).length c4] 29)) | (refine step_append1 [.int .i64 d, .int .i64 car, .slice A4 (rowFrom m g 0).length c4] _ rfl (.tmp 46) (.tmp 52) _ rfl 29 i0 _ 3 40 Try.underlying41 hi0 hy0 hy1 hy2 rfl (by decide) (by simp [Act.eval]) (ho.below b4 (Nat.le_refl _)) (by have := b4.size; omega) 1 (by simp [Act.eval]) rfl (by simp [Value.oneCell']) (by omega) (by decide) ?_; intro A5 c5 w5 ho5 hg5 hb5 hz5; have kb5 := ((kb.below b4 hlt).alloc (.cells #[.int .i64 d, .int .i64 car, .slice A4 (rowFrom m g 0).length c4] 29)).grownT ((ho.below b4 (Nat.le_refl _)).alloc (.cells #[.int .i64 d, .int .i64 car, .slice A4 (rowFrom m g 0).length c4] 29)) t2 hg5; obtain ⟨v0, v1⟩ := kb5.c2; have v2 := kb5.frozen 1))
                all_goals go_wp2_with (fail)
                all_goals
                  have hinv' := ChartInv.step ⟨d, car, rowFrom m g 0⟩ hdl hb hlt kb ho hcr b4 o4' ho5 hg5 hb5 hz5
                  refine ⟨⟨k + 1, -d, done ++ [⟨d, car, rowFrom m g 0⟩], by omega, rfl, by go_num, by omega, Lib.hid (by rw [HD.out, rowsFrom_drop HX.out, List.append_assoc]; rfl), hinv'⟩, by simp [intOf]; omega⟩
              · obtain rfl : k = gs.length := by omega
                have hfin : cowX m xs car = ⟨m, done⟩ := by
                  have h9 := HD.out
                  rw [drop_all (by simp), rowsFrom, List.append_nil] at h9
                  rw [HF.out, HG.out, Int.toNat_natCast, h9]
                have HFN := Lib.hid hfin; clear hfin
                obtain ⟨A7, c7, kc, oo⟩ := ChartInv.rows ⟨hdl, hb, hlt, A', c', cs, kb, ho, hcr⟩
                obtain ⟨p0, p1⟩ := kc.c2
                obtain ⟨r0, r1⟩ := kzr.c2
                have g0 := kzr.frozen 0
                have g1 := kzr.frozen 1
                have hbw : Below w.heap.size w wr := HBB.trans (hb.mono (by omega))
                clear s0 s1
                have HDL := Lib.hid hdl; clear hdl
                go_wp2_with (fail)
                refine bodyPost_ret (v := .tuple #[.agg #[.int .i64 (cowX m xs car).n, .slice A7 (cowX m xs car).xs.length c7], .int .i64 (cowCode m xs car)]) (by rw [HFN.out, HC.out]; simp [results, Try.results86, go_sem, r0, r1, HDL.out]) rfl ⟨A7, c7, rfl, ?_, ?_⟩
                · rw [HFN.out]
                  have k1 := kzr.set20 (.int .i64 m)
                  show OwnRows _ _ _ _ done.length _ done
                  rw [HDL.out]
                  exact ((oo.farT kzr t1 t2 0 _).farT k1 t1 t2 1 _).mono (by omega) (by simp)
                · (repeat (first | exact Below.refl _ _ | assumption | apply Below.drew | apply below_drewN | (refine Below.alloc ?_ (by first | omega | (simp; done) | (simp; omega)) _) | (refine Below.setCell ?_ (by first | omega | (simp; done) | (simp; omega)) _)))
        · have HF : Hid (cowX n xs car = ⟨0, []⟩ ∧ cowCode n xs car = 5) := Lib.hid (cow_err (by simp [cowCode, hn, hc, h4]) (by decide))
          have e1 : decide ((xs.length : Int) > 40) = true := decide_eq_true (by omega)
          have e2 : decide ((((pack xs).length : Nat) : Int) > 8) = false := decide_eq_false (by omega)
          obtain ⟨r0, r1⟩ := kz3.c2
          have g0 := kz3.frozen 0
          have g1 := kz3.frozen 1
          go_wp2_with (fail)
          refine bodyPost_ret (v := .tuple #[.agg #[.int .i64 (cowX n xs car).n, .slice none (cowX n xs car).xs.length 0], .int .i64 (cowCode n xs car)]) (by rw [HF.out.1, HF.out.2]; simp [results, Try.results86, go_sem, r0, r1]) rfl ⟨none, 0, rfl, ?_, ?_⟩
          · rw [HF.out.1]; exact OwnRows.nil _ _ _
          · (repeat (first | exact Below.refl _ _ | assumption | apply Below.drew | apply below_drewN | (refine Below.alloc ?_ (by first | omega | (simp; done) | (simp; omega)) _) | (refine Below.setCell ?_ (by first | omega | (simp; done) | (simp; omega)) _)))
      · have HF : Hid (cowX n xs car = ⟨0, []⟩ ∧ cowCode n xs car = 5) := Lib.hid (cow_err (by simp [cowCode, hn, hc, h8]) (by decide))
        have e2 : decide ((((pack xs).length : Nat) : Int) > 8) = true := decide_eq_true (by omega)
        obtain ⟨r0, r1⟩ := kz3.c2
        have g0 := kz3.frozen 0
        have g1 := kz3.frozen 1
        go_wp2_with (fail)
        refine bodyPost_ret (v := .tuple #[.agg #[.int .i64 (cowX n xs car).n, .slice none (cowX n xs car).xs.length 0], .int .i64 (cowCode n xs car)]) (by rw [HF.out.1, HF.out.2]; simp [results, Try.results86, go_sem, r0, r1]) rfl ⟨none, 0, rfl, ?_, ?_⟩
        · rw [HF.out.1]; exact OwnRows.nil _ _ _
        · (repeat (first | exact Below.refl _ _ | assumption | apply Below.drew | apply below_drewN | (refine Below.alloc ?_ (by first | omega | (simp; done) | (simp; omega)) _) | (refine Below.setCell ?_ (by first | omega | (simp; done) | (simp; omega)) _)))


end Go.Proofs.Ytifjdiiafofnpaa

/- Permutations: ChartOfPermutation, the program's side. -/
namespace Go.Proofs.Ytifjdiiafofnpaa
open Go Go.RowKit

def copCode (p : List Int) (car : Int) : Int := if permB p then cowCode p.length (permLetters p) car else 1
def copX (p : List Int) (car : Int) : ChX := if permB p then cowX p.length (permLetters p) car else ⟨0, []⟩
theorem cop_bad {p : List Int} {car : Int} (h : permB p = false) : copX p car = ⟨0, []⟩ ∧ copCode p car = 1 := by simp [copX, copCode, h]
theorem cop_good {p : List Int} {car : Int} (h : permB p = true) : copX p car = cowX p.length (permLetters p) car ∧ copCode p car = cowCode p.length (permLetters p) car := by simp [copX, copCode, h]
theorem permB_len {p : List Int} (h : permB p = true) : p.length ≤ 12 := by
  unfold permB at h
  simp only [Bool.and_eq_true, decide_eq_true_eq] at h
  exact h.1
theorem permLetters_small {p : List Int} (h : p.length ≤ 12) : smallB (permLetters p) ∧ (permLetters p).length ≤ 144 := by
  refine ⟨fun y hy => ?_, ?_⟩
  · rw [permLetters, List.mem_map] at hy
    obtain ⟨x, hx, rfl⟩ := hy
    have := permWord_mem p x hx
    omega
  · rw [permLetters_length]
    exact Nat.le_trans (permWord_length p) (Nat.le_trans (invs_le p) (Nat.mul_le_mul h h))

set_option maxHeartbeats 2000000 in
theorem impl_ChartOfPermutation (p : List Int) (car : Int) (A : Option Addr) (c : Nat) (w : World) (h : Ints w A p) (hl : p.length ≤ 9223372036854775807) :
    Calls Try.prog 35 #[.slice A p.length c, .int .i64 car] w fun e w' => ∃ A' c', e = .returned (.tuple #[.agg #[.int .i64 (copX p car).n, .slice A' (copX p car).xs.length c'], .int .i64 (copCode p car)]) ∧ OwnRows w' w.heap.size w'.heap.size A' (copX p car).xs.length c' (copX p car).xs ∧ Below w.heap.size w w' := by
  have t1 : (43 : TypeId) ≠ 2 := by decide
  have t2 : (43 : TypeId) ≠ 29 := by decide
  have hb1 : Below w.heap.size w (w.alloc (.cells #[.int .i64 0, .slice none 0 0] 43)) := by (repeat (first | exact Below.refl _ _ | assumption | apply Below.drew | apply below_drewN | (refine Below.alloc ?_ (by first | omega | (simp; done) | (simp; omega)) _) | (refine Below.setCell ?_ (by first | omega | (simp; done) | (simp; omega)) _)))
  have kz := Blk.new w 43 #[.int .i64 0, .slice none 0 0]
  cases hv : permB p
  · have HF := Lib.hid (cop_bad (car := car) hv)
    go_enter Try.func35, Try.ntmps35
    go_wp2_with (fail)
    refine (impl_ValidPermutation p A c _ (h.below hb1) hl).mono ?_; rintro e w2 ⟨rfl, b2⟩
    have hb2 : Below w.heap.size w w2 := hb1.trans (b2.mono (by simp))
    have kz2 := kz.below b2 (by simp)
    obtain ⟨r0, r1⟩ := kz2.c2
    have g0 := kz2.frozen 0
    have g1 := kz2.frozen 1
    rw [hv]
    go_wp2_with (fail)
    refine bodyPost_ret (v := .tuple #[.agg #[.int .i64 (copX p car).n, .slice none (copX p car).xs.length 0], .int .i64 (copCode p car)]) (by rw [HF.out.1, HF.out.2]; simp [results, Try.results35, go_sem, r0, r1]) rfl ⟨none, 0, rfl, ?_, ?_⟩
    · rw [HF.out.1]; exact OwnRows.nil _ _ _
    · (repeat (first | exact Below.refl _ _ | assumption | apply Below.drew | apply below_drewN | (refine Below.alloc ?_ (by first | omega | (simp; done) | (simp; omega)) _) | (refine Below.setCell ?_ (by first | omega | (simp; done) | (simp; omega)) _)))
  · have HF := Lib.hid (cop_good (car := car) hv)
    have h12 := permB_len hv
    obtain ⟨hsm, h144⟩ := permLetters_small h12
    have HSM := Lib.hid hsm; clear hsm
    go_enter Try.func35, Try.ntmps35
    go_wp2_with (fail)
    refine (impl_ValidPermutation p A c _ (h.below hb1) hl).mono ?_; rintro e w2 ⟨rfl, b2⟩
    have hb2 : Below w.heap.size w w2 := hb1.trans (b2.mono (by simp))
    have kz2 := kz.below b2 (by simp)
    have hz2 : w.heap.size < w2.heap.size := kz2.lt
    rw [hv]
    clear hv b2
    go_wp2_with (fail)
    refine (impl_permutationLetters p A c _ (h.below hb2) h12).mono ?_; rintro e w3 ⟨A3, c3, rfl, o3, b3⟩
    have hb3 : Below w.heap.size w w3 := hb2.trans (b3.mono (by omega))
    have kz3 := kz2.below b3 (by omega)
    have hz3 := b3.size
    generalize permLetters p = ws at o3 HSM h144 HF ⊢
    go_wp2_with (fail)
    refine (impl_chartOfWord p.length ws car A3 c3 _ (OwnC.ints o3) (by omega) HSM.out).mono ?_; rintro e w4 ⟨A4, c4, rfl, o4, b4⟩
    have hb4 : Below w.heap.size w w4 := hb3.trans (b4.mono (by omega))
    have kz4 := kz3.below b4 (by omega)
    have hz4 := b4.size
    obtain ⟨r0, r1⟩ := kz4.c2
    have g0 := kz4.frozen 0
    have g1 := kz4.frozen 1
    generalize cowX p.length ws car = X at o4 HF ⊢
    generalize cowCode p.length ws car = Y at HF ⊢
    go_wp2_with (fail)
    refine bodyPost_ret (v := .tuple #[.agg #[.int .i64 (copX p car).n, .slice A4 (copX p car).xs.length c4], .int .i64 (copCode p car)]) (by rw [HF.out.1, HF.out.2]; simp [results, Try.results35, go_sem, r0, r1]) rfl ⟨A4, c4, rfl, ?_, ?_⟩
    · rw [HF.out.1]
      have k1 := kz4.set20 (.int .i64 X.n)
      exact ((o4.farT kz4 t1 t2 0 _).farT k1 t1 t2 1 _).mono (by omega) (by simp)
    · (repeat (first | exact Below.refl _ _ | assumption | apply Below.drew | apply below_drewN | (refine Below.alloc ?_ (by first | omega | (simp; done) | (simp; omega)) _) | (refine Below.setCell ?_ (by first | omega | (simp; done) | (simp; omega)) _)))

end Go.Proofs.Ytifjdiiafofnpaa

/- Permutations, plain: exchanges in another order; the letters of a permutation sort it; the permutation of a braid. -/
namespace Go.Proofs.Ytifjdiiafofnpaa
open Go.RowKit

/-- The exchanges of some letters, one after the other. -/
def swW (xs L : List Int) : List Int := xs.foldl (fun L x => swapL (x.natAbs - 1) L) L
theorem swW_cons (x : Int) (xs L : List Int) : swW (x :: xs) L = swW xs (swapL (x.natAbs - 1) L) := rfl
theorem swW_append (xs ys L : List Int) : swW (xs ++ ys) L = swW ys (swW xs L) := by simp [swW]
theorem swapL_length (k : Nat) (L : List Int) : (swapL k L).length = L.length := by simp [swapL]
theorem swW_length (xs L : List Int) : (swW xs L).length = L.length := by
  induction xs generalizing L with
  | nil => rfl
  | cons x xs ih => rw [swW_cons, ih, swapL_length]
theorem swapL_get {k : Nat} {L : List Int} (h : k + 1 < L.length) (i : Nat) : (swapL k L)[i]? = if i = k then L[k + 1]? else if i = k + 1 then L[k]? else L[i]? := by
  have e1 : L[k]? = some (L.getD k 0) := by rw [List.getD_eq_getElem?_getD, List.getElem?_eq_getElem (by omega)]; rfl
  have e2 : L[k + 1]? = some (L.getD (k + 1) 0) := by rw [List.getD_eq_getElem?_getD, List.getElem?_eq_getElem h]; rfl
  unfold swapL
  by_cases h1 : i = k
  · subst h1
    rw [if_pos rfl, List.getElem?_set_ne (by omega), List.getElem?_set_self (by omega), e2]
  · rw [if_neg h1]
    by_cases h2 : i = k + 1
    · subst h2
      rw [if_pos rfl, List.getElem?_set_self (by rw [List.length_set]; omega), e1]
    · rw [if_neg h2, List.getElem?_set_ne (by omega), List.getElem?_set_ne (by omega)]
theorem swapL_map {k : Nat} {M : List Int} (f : Int → Int) (h : k + 1 < M.length) : swapL k (M.map f) = (swapL k M).map f := by
  apply List.ext_getElem?
  intro i
  rw [swapL_get (by simpa using h)]
  simp only [List.getElem?_map]
  rw [swapL_get h]
  by_cases h1 : i = k
  · rw [if_pos h1, if_pos h1]
  · rw [if_neg h1, if_neg h1]
    by_cases h2 : i = k + 1
    · rw [if_pos h2, if_pos h2]
    · rw [if_neg h2, if_neg h2]
theorem swW_map {xs : List Int} {M : List Int} (f : Int → Int) (h : Letters M.length xs) : swW xs (M.map f) = (swW xs M).map f := by
  induction xs generalizing M with
  | nil => rfl
  | cons x xs ih =>
    have hx := h x (by simp)
    rw [swW_cons, swW_cons, swapL_map f (by omega), ih fun y hy => by rw [swapL_length]; exact h y (by simp [hy])]
theorem swW_apart {n : Nat} {g : List Int} (hA : Apart2 g) (hL : Letters n g) {L : List Int} (hn : L.length = n) (i : Nat) : (swW g L)[i]? = if ∃ y ∈ g, y.natAbs = i + 1 then L[i + 1]? else if ∃ y ∈ g, y.natAbs = i then L[i - 1]? else L[i]? := by
  induction g generalizing L with
  | nil => simp [swW]
  | cons x g ih =>
    have hx := hL x (by simp)
    unfold Apart2 at hA
    rw [List.pairwise_cons] at hA
    rw [swW_cons, ih hA.2 (fun y hy => hL y (by simp [hy])) (by rw [swapL_length]; exact hn)]
    have hk : x.natAbs - 1 + 1 < L.length := by omega
    by_cases h1 : ∃ y ∈ g, y.natAbs = i + 1
    · obtain ⟨y, hy, e⟩ := h1
      have ha := hA.1 y hy
      rw [if_pos ⟨y, hy, e⟩, swapL_get hk, if_neg (by omega), if_neg (by omega), if_pos ⟨y, by simp [hy], e⟩]
    · rw [if_neg h1]
      by_cases h2 : ∃ y ∈ g, y.natAbs = i
      · obtain ⟨y, hy, e⟩ := h2
        have ha := hA.1 y hy
        rw [if_pos ⟨y, hy, e⟩, swapL_get hk, if_neg (by omega), if_neg (by omega), if_neg (fun ⟨z, hz, e2⟩ => by
          rcases List.mem_cons.1 hz with ez | hz
          · rw [ez] at e2; omega
          · exact h1 ⟨z, hz, e2⟩), if_pos ⟨y, by simp [hy], e⟩]
      · rw [if_neg h2, swapL_get hk]
        by_cases h3 : x.natAbs = i + 1
        · rw [if_pos (show i = x.natAbs - 1 by omega), if_pos ⟨x, by simp, h3⟩]
          congr 1
          omega
        · rw [if_neg (show ¬ i = x.natAbs - 1 by omega)]
          have hno : ¬ ∃ y ∈ x :: g, y.natAbs = i + 1 := fun ⟨z, hz, e2⟩ => by
            rcases List.mem_cons.1 hz with ez | hz
            · rw [ez] at e2; exact h3 e2
            · exact h1 ⟨z, hz, e2⟩
          rw [if_neg hno]
          by_cases h4 : x.natAbs = i
          · rw [if_pos (show i = x.natAbs - 1 + 1 by omega), if_pos ⟨x, by simp, h4⟩]
            congr 1
            omega
          · rw [if_neg (show ¬ i = x.natAbs - 1 + 1 by omega)]
            have hno2 : ¬ ∃ y ∈ x :: g, y.natAbs = i := fun ⟨z, hz, e2⟩ => by
              rcases List.mem_cons.1 hz with ez | hz
              · rw [ez] at e2; exact h4 e2
              · exact h2 ⟨z, hz, e2⟩
            rw [if_neg hno2]
theorem swW_same {n : Nat} {g g' : List Int} (hA : Apart2 g) (hL : Letters n g) (hA' : Apart2 g') (h : ∀ y, y ∈ g' ↔ y ∈ g) {L : List Int} (hn : L.length = n) : swW g' L = swW g L := by
  have hL' : Letters n g' := fun y hy => hL y ((h y).1 hy)
  apply List.ext_getElem?
  intro i
  rw [swW_apart hA hL hn, swW_apart hA' hL' hn]
  simp only [h]
theorem swW_groups {n : Nat} {gs : List (List Int)} (hA : ∀ g ∈ gs, Apart2 g) (hL : ∀ g ∈ gs, Letters n g) {L : List Int} (hn : L.length = n) : swW (gs.flatMap fun g => rowL n g 0) L = swW gs.flatten L := by
  induction gs generalizing L with
  | nil => rfl
  | cons g gs ih =>
    obtain ⟨r1, r2, _⟩ := rowL_whole (hL g (by simp)) (hA g (by simp))
    rw [List.flatMap_cons, swW_append, List.flatten_cons, swW_append, swW_same (hA g (by simp)) (hL g (by simp)) r2 r1 hn]
    exact ih (fun g' h => hA g' (by simp [h])) (fun g' h => hL g' (by simp [h])) (by rw [swW_length]; exact hn)
/-- Sorted without repetition, and within bounds: the identity. -/
theorem sorted_id {q : List Int} {n : Nat} (hl : q.length = n) (hnd : q.Nodup) (hr : ∀ x ∈ q, 0 ≤ x ∧ x < (n : Int)) (hs : firstDes q = none) : q = iotaI n := by
  have step : ∀ (j : Nat) (a b : Int), q[j]? = some a → q[j + 1]? = some b → a < b := fun j a b ha hb => by
    have h1 := firstDes_before (fun k h => by rw [hs] at h; cases h) ha hb
    have h2 : a ≠ b := by
      rintro rfl
      have hj := (List.getElem?_eq_some_iff.1 hb).1
      have := (List.getElem?_inj (by omega) hnd (i := j) (j := j + 1)).1 (by rw [ha, hb])
      omega
    omega
  have lo : ∀ (j : Nat) (a : Int), q[j]? = some a → (j : Int) ≤ a := by
    intro j
    induction j with
    | zero => intro a ha; have := hr a (List.mem_of_getElem? ha); omega
    | succ j ih =>
      intro b hb
      have hj := (List.getElem?_eq_some_iff.1 hb).1
      have ha := List.getElem?_eq_getElem (l := q) (i := j) (by omega)
      have h1 := ih _ ha
      have h2 := step j _ b ha hb
      omega
  have hi : ∀ (t j : Nat) (a : Int), j + t + 1 = n → q[j]? = some a → a ≤ (j : Int) := by
    intro t
    induction t with
    | zero => intro j a hj ha; have := hr a (List.mem_of_getElem? ha); omega
    | succ t ih =>
      intro j a hj ha
      have hb := List.getElem?_eq_getElem (l := q) (i := j + 1) (by omega)
      have h1 := ih (j + 1) _ (by omega) hb
      have h2 := step j a _ ha hb
      omega
  apply List.ext_getElem?
  intro i
  unfold iotaI
  by_cases h : i < n
  · have ha := List.getElem?_eq_getElem (l := q) (i := i) (by omega)
    have h1 := lo i _ ha
    have h2 := hi (n - i - 1) i _ (by omega) ha
    rw [ha, List.getElem?_map, List.getElem?_range h]
    simp only [Option.map_some, Option.some.injEq]
    omega
  · rw [List.getElem?_eq_none (by omega), List.getElem?_eq_none (by simp; omega)]
theorem swapL_perm {k : Nat} {xs : List Int} {a b : Int} (ha : xs[k]? = some a) (hb : xs[k + 1]? = some b) : (swapL k xs).Perm xs := by
  rw [swapL_at ha hb]
  obtain ⟨pre, post, rfl, rfl, _⟩ := decomp ha hb
  rw [swapL_eq]
  exact List.Perm.append_left pre (List.Perm.swap a b post)
theorem invs_sorted {xs : List Int} (h : firstDes xs = none) : invs xs = 0 := by
  induction xs with
  | nil => rfl
  | cons a xs ih =>
    cases xs with
    | nil => rfl
    | cons b xs =>
      rw [firstDes] at h
      split at h
      · cases h
      · rename_i hab
        have h1 : firstDes (b :: xs) = none := by
          cases hf : firstDes (b :: xs) with
          | none => rfl
          | some k => rw [hf] at h; cases h
        have h2 := ih h1
        rw [invs, h2]
        have h3 : xs.countP (fun y => decide (y < b)) = 0 := by
          rw [invs] at h2
          omega
        rw [List.countP_eq_zero] at h3
        have h4 : (b :: xs).countP (fun y => decide (y < a)) = 0 := by
          rw [List.countP_eq_zero]
          intro y hy
          rcases List.mem_cons.1 hy with rfl | hy
          · simpa using hab
          · have := h3 y hy
            simp at this ⊢
            omega
        omega
/-- The letters sort the permutation; there is one for each inversion. -/
theorem permWord_sorts (m : Nat) : ∀ xs : List Int, invs xs = m → (permWord xs).length = m ∧ (swW ((permWord xs).map (· + 1)) xs).Perm xs ∧ firstDes (swW ((permWord xs).map (· + 1)) xs) = none := by
  induction m with
  | zero =>
    intro xs h
    cases hf : firstDes xs with
    | none =>
      rw [permWord_none hf]
      exact ⟨rfl, List.Perm.refl _, hf⟩
    | some k => rw [invs_step hf] at h; omega
  | succ m ih =>
    intro xs h
    cases hf : firstDes xs with
    | none => rw [invs_sorted hf] at h; omega
    | some k =>
      obtain ⟨a, b, ha, hb, _⟩ := firstDes_some hf
      obtain ⟨i1, i2, i3⟩ := ih (swapL k xs) (by rw [invs_step hf] at h; omega)
      have e : ((k : Int) + 1).natAbs - 1 = k := by omega
      rw [permWord_some hf, List.map_cons, swW_cons, e]
      exact ⟨by rw [List.length_cons, i1], i2.trans (swapL_perm ha hb), i3⟩
theorem permGo_of {n : Int} : ∀ {done xs : List Int}, permGo n done xs = true → done.Nodup → (done ++ xs).Nodup ∧ ∀ x ∈ xs, 0 ≤ x ∧ x < n
  | done, [], _, hd => ⟨by simpa using hd, fun x hx => by simp at hx⟩
  | done, x :: xs, h, hd => by
    rw [permGo] at h
    simp only [Bool.and_eq_true, Bool.not_eq_true', decide_eq_false_iff_not] at h
    obtain ⟨⟨h1, h2⟩, h3⟩ := h
    have h4 := inR_iff.1 h1
    have hd2 : (done ++ [x]).Nodup := by
      rw [List.nodup_append]
      refine ⟨hd, by simp, fun a ha b hb => ?_⟩
      rw [List.mem_singleton.1 hb]
      rintro rfl
      exact h2 ha
    obtain ⟨i1, i2⟩ := permGo_of h3 hd2
    refine ⟨by simpa using i1, fun y hy => ?_⟩
    rcases List.mem_cons.1 hy with rfl | hy
    · omega
    · exact i2 y hy
theorem permB_of {p : List Int} (h : permB p = true) : p.Nodup ∧ (∀ x ∈ p, 0 ≤ x ∧ x < (p.length : Int)) ∧ p.length ≤ 12 := by
  have h12 := permB_len h
  unfold permB at h
  simp only [Bool.and_eq_true] at h
  obtain ⟨h1, h2⟩ := permGo_of h.2 (by simp)
  exact ⟨by simpa using h1, h2, h12⟩
theorem perm_sorted {p : List Int} (h : permB p = true) : swW (permLetters p) p = iotaI p.length ∧ (permLetters p).length = invs p := by
  obtain ⟨h1, h2, _⟩ := permB_of h
  obtain ⟨e1, e2, e3⟩ := permWord_sorts (invs p) p rfl
  refine ⟨?_, by rw [permLetters_length, e1]⟩
  unfold permLetters
  refine sorted_id (by rw [swW_length]) (e2.nodup_iff.2 h1) (fun x hx => h2 x (e2.mem_iff.1 hx)) e3
/-- What is written at the places of a list: its inverse. -/
def invTo (at_ : List Int) (n : Nat) : Nat → List Int
  | 0 => List.replicate n 0
  | k + 1 => (invTo at_ n k).set (at_.getD k 0).toNat (k : Int)
theorem invTo_length (at_ : List Int) (n k : Nat) : (invTo at_ n k).length = n := by
  induction k with
  | zero => simp [invTo]
  | succ k ih => rw [invTo, List.length_set, ih]
theorem invTo_at {at_ : List Int} {n : Nat} (hl : at_.length = n) (hnd : at_.Nodup) (hr : ∀ x ∈ at_, 0 ≤ x ∧ x < (n : Int)) (k : Nat) : k ≤ n → ∀ (i : Nat) (a : Int), i < k → at_[i]? = some a → (invTo at_ n k)[a.toNat]? = some (i : Int) := by
  induction k with
  | zero => intro _ i a hi; omega
  | succ k ih =>
    intro hk i a hi ha
    have hx := List.getElem?_eq_getElem (l := at_) (i := k) (by omega)
    rw [invTo, getD_of hx]
    have hxr := hr _ (List.mem_of_getElem? hx)
    have har := hr _ (List.mem_of_getElem? ha)
    by_cases e : i = k
    · subst e
      rw [hx] at ha
      injection ha with ha
      rw [ha, List.getElem?_set_self (by rw [invTo_length]; omega)]
    · rw [List.getElem?_set_ne ?_, ih (by omega) i a (by omega) ha]
      intro e2
      have e3 : at_[k]'(by omega) = a := by omega
      have := (List.getElem?_inj (by omega) hnd (i := i) (j := k)).1 (by rw [ha, hx, e3])
      omega
/-- The permutation of a braid's letters. -/
def permOf (n : Nat) (xs : List Int) : List Int := invTo (swW xs (iotaI n)) n n
theorem iotaN_length (n : Nat) : (iotaI n).length = n := by simp [iotaI]
theorem swW_perm {xs L : List Int} (h : Letters L.length xs) : (swW xs L).Perm L := by
  induction xs generalizing L with
  | nil => exact List.Perm.refl _
  | cons x xs ih =>
    have hx := h x (by simp)
    rw [swW_cons]
    refine (ih fun y hy => by rw [swapL_length]; exact h y (by simp [hy])).trans ?_
    exact swapL_perm (List.getElem?_eq_getElem (by omega)) (List.getElem?_eq_getElem (by omega))
theorem iotaN_mem {n : Nat} {x : Int} : x ∈ iotaI n ↔ 0 ≤ x ∧ x < (n : Int) := by
  unfold iotaI
  rw [List.mem_map]
  constructor
  · rintro ⟨i, hi, rfl⟩
    have := List.mem_range.1 hi
    omega
  · rintro ⟨h1, h2⟩
    exact ⟨x.toNat, List.mem_range.2 (by omega), by omega⟩
theorem iotaN_at {n i : Nat} (h : i < n) : (iotaI n)[i]? = some (i : Int) := by
  unfold iotaI
  rw [List.getElem?_map, List.getElem?_range h]
  rfl
theorem iotaN_nodup (n : Nat) : (iotaI n).Nodup := by
  unfold iotaI List.Nodup
  rw [List.pairwise_map]
  exact (List.nodup_range (n := n)).imp fun h e => h (by omega)
theorem permOf_eq {p xs : List Int} {n : Nat} (hn : p.length = n) (hL : Letters n xs) (hp : p.Nodup) (hr : ∀ x ∈ p, 0 ≤ x ∧ x < (n : Int)) (hs : swW xs p = iotaI n) : permOf n xs = p := by
  have e1 : p = (iotaI n).map fun i => p.getD i.toNat 0 := by
    apply List.ext_getElem?
    intro i
    rw [List.getElem?_map]
    by_cases h : i < n
    · rw [iotaN_at h, List.getElem?_eq_getElem (by omega)]
      simp only [Option.map_some, Int.toNat_natCast]
      rw [getD_of (List.getElem?_eq_getElem (by omega))]
    · rw [List.getElem?_eq_none (by omega), List.getElem?_eq_none (by rw [iotaN_length]; omega)]
      rfl
  have hL' : Letters (iotaI n).length xs := by rw [iotaN_length]; exact hL
  have hperm := swW_perm hL'
  obtain ⟨at_, hat⟩ : ∃ at_, at_ = swW xs (iotaI n) := ⟨_, rfl⟩
  rw [← hat] at hperm
  have hal : at_.length = n := by rw [hperm.length_eq, iotaN_length]
  have hand : at_.Nodup := hperm.nodup_iff.2 (iotaN_nodup n)
  have har : ∀ x ∈ at_, 0 ≤ x ∧ x < (n : Int) := fun x hx => iotaN_mem.1 (hperm.mem_iff.1 hx)
  have hmap : at_.map (fun i => p.getD i.toNat 0) = iotaI n := by
    rw [hat, ← swW_map _ hL', ← e1, hs]
  unfold permOf
  rw [← hat]
  apply List.ext_getElem?
  intro v
  by_cases hv : v < n
  · have hpv := List.getElem?_eq_getElem (l := p) (i := v) (by omega)
    have hu := hr _ (List.mem_of_getElem? hpv)
    obtain ⟨u, hu2⟩ := Int.eq_ofNat_of_zero_le hu.1
    rw [hu2] at hu hpv
    have hau := List.getElem?_eq_getElem (l := at_) (i := u) (by omega)
    have hva := har _ (List.mem_of_getElem? hau)
    have h1 := congrArg (fun l => l[u]?) hmap
    simp only [List.getElem?_map] at h1
    rw [hau, iotaN_at (by omega)] at h1
    simp only [Option.map_some, Option.some.injEq] at h1
    have h2 : p[(at_[u]'(by omega)).toNat]? = some (u : Int) := by
      rw [List.getElem?_eq_getElem (by omega)]
      rw [getD_of (List.getElem?_eq_getElem (by omega))] at h1
      rw [h1]
    have h3 : (at_[u]'(by omega)).toNat = v := (List.getElem?_inj (by omega) hp).1 (by rw [h2, hpv])
    have h4 := invTo_at hal hand har n (Nat.le_refl _) u _ (by omega) hau
    rw [h3] at h4
    rw [h4, hpv]
  · rw [List.getElem?_eq_none (by rw [invTo_length]; omega), List.getElem?_eq_none (by omega)]
theorem letters_of_braid {n : Nat} {xs : List Int} (h : braidB n xs = true) : Letters n xs := by
  obtain ⟨_, _, _, h4⟩ := braidB_of h
  intro x hx
  have := h4 x hx
  omega
/-- The cable of a permutation. -/
theorem cable_perm {p : List Int} {car : Int} (h : copCode p car = 0) :
    ∃ W : List Int, copX p car = ⟨p.length, rowsFrom p.length car (groupsOf (permLetters p)) (-1)⟩ ∧ cbCode p.length (copX p car).xs = 0 ∧ cbX p.length (copX p car).xs = ⟨p.length, W⟩ ∧ permB p = true ∧ permOf p.length W = p ∧ (∀ y ∈ W, ¬ y < 0) ∧ W.length = invs p ∧ braidB p.length W = true := by
  have hp : permB p = true := by
    cases hp : permB p
    · simp [copCode, hp] at h
    · rfl
  unfold copCode at h
  rw [if_pos hp] at h
  have hr : (inR p.length 1 8 && carrierB car) = true := by
    cases hr : inR p.length 1 8 && carrierB car
    · rw [cowCode, if_neg (by rw [hr]; decide)] at h; simp at h
    · rfl
  unfold cowCode at h
  rw [if_pos hr] at h
  have hk : (pack (permLetters p)).length ≤ 8 ∧ (permLetters p).length ≤ 40 := by
    apply Classical.byContradiction
    intro hk
    rw [if_neg hk] at h
    simp at h
  rw [Bool.and_eq_true] at hr
  have hn := inR_iff.1 hr.1
  obtain ⟨hb, _⟩ := perm_braid (p := p) (by omega)
  have hL := letters_of_braid hb
  obtain ⟨c1, c2, c3, c4, c5⟩ := cable_of hL hk.2 hk.1 (by omega) hr.2
  have hX : copX p car = ⟨p.length, rowsFrom p.length car (groupsOf (permLetters p)) (-1)⟩ := by
    have e : cowCode p.length (permLetters p) car = 0 := by
      unfold cowCode
      rw [hr.1, hr.2, if_pos (show (true && true) = true from rfl), if_pos hk]
    rw [copX, if_pos hp, cowX, if_pos e]
    rfl
  obtain ⟨h1, h2, _⟩ := permB_of hp
  obtain ⟨s1, s2⟩ := perm_sorted hp
  obtain ⟨g1, g2, _⟩ := groups_facts (permLetters p)
  have gL := groups_letters hL
  obtain ⟨W, hW⟩ : ∃ W, W = (groupsOf (permLetters p)).flatMap fun g => rowL p.length g 0 := ⟨_, rfl⟩
  rw [← hW] at c4 c5
  have hmem : ∀ y ∈ W, y ∈ permLetters p := by
    intro y hy
    rw [hW, List.mem_flatMap] at hy
    obtain ⟨g, hg, hy⟩ := hy
    rw [← g2]
    exact List.mem_flatten.2 ⟨g, hg, ((rowL_whole (gL g hg) (g1 g hg)).1 y).1 hy⟩
  have hLW : Letters p.length W := fun y hy => hL y (hmem y hy)
  refine ⟨W, hX, by rw [hX]; exact c3, by rw [hX]; exact c4, hp, ?_, fun y hy => ?_, by rw [c5, s2], ?_⟩
  · refine permOf_eq rfl hLW h1 h2 ?_
    rw [hW, swW_groups g1 gL rfl, g2]
    exact s1
  · have := hmem y hy
    rw [permLetters, List.mem_map] at this
    obtain ⟨x, hx, rfl⟩ := this
    have := permWord_mem p x hx
    omega
  · unfold braidB lettersB
    simp only [Bool.and_eq_true, decide_eq_true_eq, List.all_eq_true]
    refine ⟨⟨inR_iff.2 (by omega), by omega⟩, fun y hy => ?_⟩
    have := hLW y hy
    unfold letterB
    rw [Bool.and_eq_true, decide_eq_true_eq, inR_iff]
    omega
theorem invs_snoc (xs : List Int) (y : Int) : invs (xs ++ [y]) = invs xs + xs.countP fun x => decide (y < x) := by
  induction xs with
  | nil => rfl
  | cons x xs ih =>
    rw [List.cons_append, invs, invs, ih, List.countP_append, List.countP_cons, List.countP_cons]
    simp
    omega

end Go.Proofs.Ytifjdiiafofnpaa

/- Doubled braids: the given side's word. -/
namespace Go.Proofs.Ytifjdiiafofnpaa
open Go Go.RowKit

end Go.Proofs.Ytifjdiiafofnpaa
