/- Steps of the proof, joined from several texts: CE ZJ CD ZK. -/
import Derived.Test.YtnilglkiojigjaaZ9
import Derived.Test.YtnilglkiojigjaaZ15

/- ChartOfBraid, the program's side. -/
namespace Go.Proofs.Ytnilglkiojigjaa
open Go.RowKit

def cowCode (n : Int) (xs : List Int) (car : Int) : Int := if inR n 1 8 && carrierB car then (if (pack xs).length ≤ 8 ∧ xs.length ≤ 40 then 0 else 5) else 2
def cowX (n : Int) (xs : List Int) (car : Int) : ChX := if cowCode n xs car = 0 then ⟨n, rowsFrom n.toNat car (groupsOf xs) (-1)⟩ else ⟨0, []⟩
theorem cow_err {n : Int} {xs : List Int} {car k : Int} (e : cowCode n xs car = k) (hk : k ≠ 0) : cowX n xs car = ⟨0, []⟩ ∧ cowCode n xs car = k := ⟨by rw [cowX, if_neg (by rw [e]; exact hk)], e⟩
theorem cow_cob {n : Int} {xs : List Int} {car : Int} (h : braidB n xs = true) : cowCode n xs car = cobCode n xs car ∧ cowX n xs car = cobX n xs car := by
  have h4 := (braidB_of h).2.2.1
  have e : cowCode n xs car = cobCode n xs car := by
    unfold cowCode cobCode
    rw [h]
    simp [h4]
  exact ⟨e, by rw [cowX, cobX, e]⟩

set_option maxHeartbeats 4000000 in
set_option maxRecDepth 10000 in
theorem impl_chartOfWord (n : Int) (xs : List Int) (car : Int) (A : Option Addr) (c : Nat) (w : World) (h : Ints w A xs) (hl : xs.length ≤ 1000) (hsm : smallB xs) :
    Calls Try.prog 68 #[.int .i64 n, .slice A xs.length c, .int .i64 car] w fun e w' => ∃ A' c', e = .returned (.tuple #[.agg #[.int .i64 (cowX n xs car).n, .slice A' (cowX n xs car).xs.length c'], .int .i64 (cowCode n xs car)]) ∧ OwnRows w' w.heap.size w'.heap.size A' (cowX n xs car).xs.length c' (cowX n xs car).xs ∧ Below w.heap.size w w' := by
  have t1 : (25 : TypeId) ≠ 2 := by decide
  have t2 : (25 : TypeId) ≠ 66 := by decide
  have hb1 : Below w.heap.size w (w.alloc (.cells #[.int .i64 0, .slice none 0 0] 25)) := by (repeat (first | exact Below.refl _ _ | assumption | apply Below.drew | apply below_drewN | (refine Below.alloc ?_ (by first | omega | (simp; done) | (simp; omega)) _) | (refine Below.setCell ?_ (by first | omega | (simp; done) | (simp; omega)) _)))
  have kz := Blk.new w 25 #[.int .i64 0, .slice none 0 0]
  cases hn : inR n 1 8
  · have HF : Hid (cowX n xs car = ⟨0, []⟩ ∧ cowCode n xs car = 2) := Lib.hid (cow_err (by simp [cowCode, hn]) (by decide))
    go_enter Try.func68, Try.ntmps68
    go_wp2_with (first | (go_at_call 83; refine (impl_within _ _ _ _).mono ?_; rintro e _ ⟨rfl, rfl⟩) | (go_at_call 129; refine (impl_isCarrier _ _).mono ?_; rintro e _ ⟨rfl, rfl⟩))
    refine bodyPost_ret (v := .tuple #[.agg #[.int .i64 (cowX n xs car).n, .slice none (cowX n xs car).xs.length 0], .int .i64 (cowCode n xs car)]) (by rw [HF.out.1, HF.out.2]; simp [results, Try.results68, go_sem]) rfl ⟨none, 0, rfl, ?_, ?_⟩
    · rw [HF.out.1]; exact OwnRows.nil _ _ _
    · (repeat (first | exact Below.refl _ _ | assumption | apply Below.drew | apply below_drewN | (refine Below.alloc ?_ (by first | omega | (simp; done) | (simp; omega)) _) | (refine Below.setCell ?_ (by first | omega | (simp; done) | (simp; omega)) _)))
  · cases hc : carrierB car
    · have HF : Hid (cowX n xs car = ⟨0, []⟩ ∧ cowCode n xs car = 2) := Lib.hid (cow_err (by simp [cowCode, hn, hc]) (by decide))
      go_enter Try.func68, Try.ntmps68
      go_wp2_with (first | (go_at_call 83; refine (impl_within _ _ _ _).mono ?_; rintro e _ ⟨rfl, rfl⟩) | (go_at_call 129; refine (impl_isCarrier _ _).mono ?_; rintro e _ ⟨rfl, rfl⟩))
      refine bodyPost_ret (v := .tuple #[.agg #[.int .i64 (cowX n xs car).n, .slice none (cowX n xs car).xs.length 0], .int .i64 (cowCode n xs car)]) (by rw [HF.out.1, HF.out.2]; simp [results, Try.results68, go_sem]) rfl ⟨none, 0, rfl, ?_, ?_⟩
      · rw [HF.out.1]; exact OwnRows.nil _ _ _
      · (repeat (first | exact Below.refl _ _ | assumption | apply Below.drew | apply below_drewN | (refine Below.alloc ?_ (by first | omega | (simp; done) | (simp; omega)) _) | (refine Below.setCell ?_ (by first | omega | (simp; done) | (simp; omega)) _)))
    · have hn18 := inR_iff.1 hn
      have HS : Hid (smallB xs) := Lib.hid hsm
      have hpk : (pack xs).length ≤ 1000 := by have := pack_size xs; omega
      go_enter Try.func68, Try.ntmps68
      go_wp2_with (first | (go_at_call 83; refine (impl_within _ _ _ _).mono ?_; rintro e _ ⟨rfl, rfl⟩) | (go_at_call 129; refine (impl_isCarrier _ _).mono ?_; rintro e _ ⟨rfl, rfl⟩))
      refine (impl_packed A c xs _ (h.below hb1) (by omega) HS.out).mono ?_; rintro e w3 ⟨A3, c3, rfl, o3, b3⟩
      have hz3 : w.heap.size + 1 ≤ w3.heap.size := by have := b3.size; simpa using this
      have kz3 : Blk w3 w.heap.size 25 #[.int .i64 0, .slice none 0 0] := kz.below b3 (by simp)
      have hb3 : Below w.heap.size w w3 := hb1.trans (b3.mono (by simp))
      have HI3 := Lib.hid o3.ints2
      clear kz hb1
      by_cases h8 : (pack xs).length ≤ 8
      · by_cases h4 : xs.length ≤ 40
        · have HC : Hid (cowCode n xs car = 0) := Lib.hid (by simp [cowCode, hn, hc, h8, h4])
          have HF : Hid (cowX n xs car = ⟨n, rowsFrom n.toNat car (groupsOf xs) (-1)⟩) := Lib.hid (by rw [cowX, if_pos HC.out])
          obtain ⟨m, rfl⟩ := Int.eq_ofNat_of_zero_le (show (0 : Int) ≤ n by omega)
          have e4 : decide ((xs.length : Int) > 40) = false := decide_eq_false (by omega)
          by_cases h0 : pack xs = []
          · have HG : Hid (groupsOf xs = [[]]) := Lib.hid (by rw [groupsOf, if_pos h0])
            have e0 : (pack xs).length = 0 := by rw [h0]; rfl
            obtain ⟨i0, hi0, hy0, hy1, hy2⟩ := info_parts info_Row
            rw [e0]
            go_wp2_with (fail)
            have kzB : Blk (w3.alloc (.cells #[.slice none 0 0] 22)) w.heap.size 25 #[.int .i64 0, .slice none 0 0] := kz3.alloc _
            have hzB : w.heap.size < (w3.alloc (.cells #[.slice none 0 0] 22)).heap.size := kzB.lt
            have HBB : Below w.heap.size w (w3.alloc (.cells #[.slice none 0 0] 22)) := hb3.alloc (by omega) _
            have hsz3 : (w3.alloc (.cells #[.slice none 0 0] 22)).heap.size = w3.heap.size + 1 := by simp
            have HIB : Hid (Ints2 (w3.alloc (.cells #[.slice none 0 0] 22)) (some ⟨w3.heap.size, 0, none⟩) [[]]) := Lib.hid (by
              intro k hk
              obtain rfl : k = 0 := by simpa using hk
              exact ⟨w3.heap.size, 0, none, 0, [], rfl, rfl, (Blk.new w3 22 #[.slice none 0 0]).c1, Ints.nil, by simp⟩)
            have HS3 := Lib.hid hsz3; clear hsz3
            obtain ⟨wB, hwB⟩ : ∃ wB, wB = w3.alloc (.cells #[.slice none 0 0] 22) := ⟨_, rfl⟩
            rw [← hwB] at kzB hzB HBB HIB HS3 ⊢
            try rw [← HS3.out]
            clear hwB
            generalize hA6 : (some ⟨w3.heap.size, 0, none⟩ : Option Addr) = A6 at HIB ⊢
            clear hA6
            obtain ⟨p0, p1⟩ := (Blk.new wB 25 #[.int .i64 m, .slice none 0 0]).c2
            go_loopw [10, 41] (fun dv iv wr => ∃ (k : Nat) (d : Int) (done : List RowD), k ≤ 1 ∧ dv = .int .i64 d ∧ iv = .int .i64 k ∧ (d = -1 ∨ d = 1) ∧ Hid (rowsFrom m car ([[]]) (-1) = done ++ rowsFrom m car (([[]]).drop k) d) ∧ ChartInv m (wB).heap.size (wB) wr k done) (fun _ iv _ => 1 - (intOf iv).toNat)
            case atStart => exact ⟨0, -1, [], Nat.zero_le _, rfl, rfl, .inl rfl, Lib.hid rfl, ChartInv.start _ _⟩
            case round =>
              clear p0 p1
              obtain ⟨k, d, done, hk, rfl, rfl, hd, HD, hinv⟩ := hrel
              obtain ⟨hdl, hb, hlt, A', c', cs, kb, ho, hcr⟩ := hinv
              have kzr := kzB.below hb (by omega)
              obtain ⟨s0, s1⟩ := kb.c2
              by_cases hkl : k < 1
              · obtain ⟨b, off, A2, c2, g, rfl, hx, hc2, hi, hgl⟩ := (HIB.out.below hb) k hkl
                have HX := Lib.hid hx; clear hx
                have hg40 : g.length ≤ 9223372036854775807 := by omega
                have j1 : (0 : Int) ≤ (k : Int) := by omega
                have j2 : (k : Int) < ((1 : Nat) : Int) := by omega
                have j4 : IntKind.i64.wrap (-d) = -d := IntWalk.i64_in _ (by omega)
                have j5 : IntKind.i64.wrap ((k : Int) + 1) = (k : Int) + 1 := IntWalk.i64_in _ (by omega)
                go_wp2_with (fail)
                go_region_law (first | (go_simp; go_at_call 131; refine (impl_rowOfLetters m g d car A2 c2 _ (Ints.drew1 hi) hg40 (by omega)).mono ?_; rintro e w4 ⟨A4, c4, rfl, o4', b4'⟩; have b4 := undrew b4'; have u1 := (kb.below b4 hlt).c2.2; have u2 := cell_alloc u1 (.cells #[.int .i64 d, .int .i64 car, .slice A4 (rowFrom m g 0).length c4] 66)) | (refine step_append1 [.int .i64 d, .int .i64 car, .slice A4 (rowFrom m g 0).length c4] _ rfl (.tmp 46) (.tmp 52) _ rfl 66 i0 _ 3 40 Try.underlying23 hi0 hy0 hy1 hy2 rfl (by decide) (by simp [Act.eval]) (ho.below b4 (Nat.le_refl _)) (by have := b4.size; omega) 1 (by simp [Act.eval]) rfl (by simp [Value.oneCell']) (by omega) (by decide) ?_; intro A5 c5 w5 ho5 hg5 hb5 hz5; have kb5 := ((kb.below b4 hlt).alloc (.cells #[.int .i64 d, .int .i64 car, .slice A4 (rowFrom m g 0).length c4] 66)).grownT ((ho.below b4 (Nat.le_refl _)).alloc (.cells #[.int .i64 d, .int .i64 car, .slice A4 (rowFrom m g 0).length c4] 66)) t2 hg5; obtain ⟨v0, v1⟩ := kb5.c2; have v2 := kb5.frozen 1))
                all_goals go_wp2_with (fail)
                all_goals
                  have hinv' := ChartInv.step ⟨d, car, rowFrom m g 0⟩ hdl hb hlt kb ho hcr b4 o4' ho5 hg5 hb5 hz5
                  refine ⟨⟨k + 1, -d, done ++ [⟨d, car, rowFrom m g 0⟩], by omega, rfl, by go_num, by omega, Lib.hid (by rw [HD.out, rowsFrom_drop HX.out, List.append_assoc]; rfl), hinv'⟩, by simp [intOf]; omega⟩
              · obtain rfl : k = 1 := by omega
                have hfin : cowX m xs car = ⟨m, done⟩ := by
                  have h9 := HD.out
                  rw [drop_all (by simp), rowsFrom, List.append_nil] at h9
                  rw [HF.out, HG.out, Int.toNat_natCast, h9]
                have HFN := Lib.hid hfin; clear hfin
                obtain ⟨A7, c7, kc, oo⟩ := ChartInv.rows ⟨hdl, hb, hlt, A', c', cs, kb, ho, hcr⟩
                obtain ⟨p0, p1⟩ := kc.c2
                obtain ⟨r0, r1⟩ := kzr.c2
                have g0 := kzr.frozen 0
                have g1 := kzr.frozen 1
                have hbw : Below w.heap.size w wr := HBB.trans (hb.mono (by omega))
                clear s0 s1
                have HDL := Lib.hid hdl; clear hdl
                go_wp2_with (fail)
                refine bodyPost_ret (v := .tuple #[.agg #[.int .i64 (cowX m xs car).n, .slice A7 (cowX m xs car).xs.length c7], .int .i64 (cowCode m xs car)]) (by rw [HFN.out, HC.out]; simp [results, Try.results68, go_sem, r0, r1, HDL.out]) rfl ⟨A7, c7, rfl, ?_, ?_⟩
                · rw [HFN.out]
                  have k1 := kzr.set20 (.int .i64 m)
                  show OwnRows _ _ _ _ done.length _ done
                  rw [HDL.out]
                  exact ((oo.farT kzr t1 t2 0 _).farT k1 t1 t2 1 _).mono (by omega) (by simp)
                · (repeat (first | exact Below.refl _ _ | assumption | apply Below.drew | apply below_drewN | (refine Below.alloc ?_ (by first | omega | (simp; done) | (simp; omega)) _) | (refine Below.setCell ?_ (by first | omega | (simp; done) | (simp; omega)) _)))
          · have HG : Hid (groupsOf xs = pack xs) := Lib.hid (by rw [groupsOf, if_neg h0])
            obtain ⟨i0, hi0, hy0, hy1, hy2⟩ := info_parts info_Row
            have hpos : 0 < (pack xs).length := List.length_pos_iff.2 h0
            have e1 : ((((pack xs).length : Nat) : Int) == 0) = false := beq_eq_false_iff_ne.2 (by omega)
            have e2 : decide ((((pack xs).length : Nat) : Int) > 8) = false := decide_eq_false (by omega)
            clear h0
            generalize hgs : pack xs = gs at *
            have HGS := Lib.hid hgs; clear hgs
            go_wp2_with (fail)
            have kzB := kz3
            have hzB : w.heap.size < w3.heap.size := kzB.lt
            have HBB := hb3
            have HIB := HI3
            obtain ⟨p0, p1⟩ := (Blk.new w3 25 #[.int .i64 m, .slice none 0 0]).c2
            go_loopw [10, 41] (fun dv iv wr => ∃ (k : Nat) (d : Int) (done : List RowD), k ≤ gs.length ∧ dv = .int .i64 d ∧ iv = .int .i64 k ∧ (d = -1 ∨ d = 1) ∧ Hid (rowsFrom m car (gs) (-1) = done ++ rowsFrom m car ((gs).drop k) d) ∧ ChartInv m (w3).heap.size (w3) wr k done) (fun _ iv _ => gs.length - (intOf iv).toNat)
            case atStart => exact ⟨0, -1, [], Nat.zero_le _, rfl, rfl, .inl rfl, Lib.hid rfl, ChartInv.start _ _⟩
            case round =>
              clear p0 p1
              obtain ⟨k, d, done, hk, rfl, rfl, hd, HD, hinv⟩ := hrel
              obtain ⟨hdl, hb, hlt, A', c', cs, kb, ho, hcr⟩ := hinv
              have kzr := kzB.below hb (by omega)
              obtain ⟨s0, s1⟩ := kb.c2
              by_cases hkl : k < gs.length
              · obtain ⟨b, off, A2, c2, g, rfl, hx, hc2, hi, hgl⟩ := (HIB.out.below hb) k hkl
                have HX := Lib.hid hx; clear hx
                have hg40 : g.length ≤ 9223372036854775807 := by omega
                have j1 : (0 : Int) ≤ (k : Int) := by omega
                have j2 : (k : Int) < ((gs.length : Nat) : Int) := by omega
                have j4 : IntKind.i64.wrap (-d) = -d := IntWalk.i64_in _ (by omega)
                have j5 : IntKind.i64.wrap ((k : Int) + 1) = (k : Int) + 1 := IntWalk.i64_in _ (by omega)
                go_wp2_with (fail)
                go_region_law (first | (go_simp; go_at_call 131; refine (impl_rowOfLetters m g d car A2 c2 _ (Ints.drew1 hi) hg40 (by omega)).mono ?_; rintro e w4 ⟨A4, c4, rfl, o4', b4'⟩; have b4 := undrew b4'; have u1 := (kb.below b4 hlt).c2.2; have u2 := cell_alloc u1 (.cells #[.int .i64 d, .int .i64 car, .slice A4 (rowFrom m g 0).length c4] 66)) | (refine step_append1 [.int .i64 d, .int .i64 car, .slice A4 (rowFrom m g 0).length c4] _ rfl (.tmp 46) (.tmp 52) _ rfl 66 i0 _ 3 40 Try.underlying23 hi0 hy0 hy1 hy2 rfl (by decide) (by simp [Act.eval]) (ho.below b4 (Nat.le_refl _)) (by have := b4.size; omega) 1 (by simp [Act.eval]) rfl (by simp [Value.oneCell']) (by omega) (by decide) ?_; intro A5 c5 w5 ho5 hg5 hb5 hz5; have kb5 := ((kb.below b4 hlt).alloc (.cells #[.int .i64 d, .int .i64 car, .slice A4 (rowFrom m g 0).length c4] 66)).grownT ((ho.below b4 (Nat.le_refl _)).alloc (.cells #[.int .i64 d, .int .i64 car, .slice A4 (rowFrom m g 0).length c4] 66)) t2 hg5; obtain ⟨v0, v1⟩ := kb5.c2; have v2 := kb5.frozen 1))
                all_goals go_wp2_with (fail)
                all_goals
                  have hinv' := ChartInv.step ⟨d, car, rowFrom m g 0⟩ hdl hb hlt kb ho hcr b4 o4' ho5 hg5 hb5 hz5
                  refine ⟨⟨k + 1, -d, done ++ [⟨d, car, rowFrom m g 0⟩], by omega, rfl, by go_num, by omega, Lib.hid (by rw [HD.out, rowsFrom_drop HX.out, List.append_assoc]; rfl), hinv'⟩, by simp [intOf]; omega⟩
              · obtain rfl : k = gs.length := by omega
                have hfin : cowX m xs car = ⟨m, done⟩ := by
                  have h9 := HD.out
                  rw [drop_all (by simp), rowsFrom, List.append_nil] at h9
                  rw [HF.out, HG.out, Int.toNat_natCast, h9]
                have HFN := Lib.hid hfin; clear hfin
                obtain ⟨A7, c7, kc, oo⟩ := ChartInv.rows ⟨hdl, hb, hlt, A', c', cs, kb, ho, hcr⟩
                obtain ⟨p0, p1⟩ := kc.c2
                obtain ⟨r0, r1⟩ := kzr.c2
                have g0 := kzr.frozen 0
                have g1 := kzr.frozen 1
                have hbw : Below w.heap.size w wr := HBB.trans (hb.mono (by omega))
                clear s0 s1
                have HDL := Lib.hid hdl; clear hdl
                go_wp2_with (fail)
                refine bodyPost_ret (v := .tuple #[.agg #[.int .i64 (cowX m xs car).n, .slice A7 (cowX m xs car).xs.length c7], .int .i64 (cowCode m xs car)]) (by rw [HFN.out, HC.out]; simp [results, Try.results68, go_sem, r0, r1, HDL.out]) rfl ⟨A7, c7, rfl, ?_, ?_⟩
                · rw [HFN.out]
                  have k1 := kzr.set20 (.int .i64 m)
                  show OwnRows _ _ _ _ done.length _ done
                  rw [HDL.out]
                  exact ((oo.farT kzr t1 t2 0 _).farT k1 t1 t2 1 _).mono (by omega) (by simp)
                · (repeat (first | exact Below.refl _ _ | assumption | apply Below.drew | apply below_drewN | (refine Below.alloc ?_ (by first | omega | (simp; done) | (simp; omega)) _) | (refine Below.setCell ?_ (by first | omega | (simp; done) | (simp; omega)) _)))
        · have HF : Hid (cowX n xs car = ⟨0, []⟩ ∧ cowCode n xs car = 5) := Lib.hid (cow_err (by simp [cowCode, hn, hc, h4]) (by decide))
          have e1 : decide ((xs.length : Int) > 40) = true := decide_eq_true (by omega)
          have e2 : decide ((((pack xs).length : Nat) : Int) > 8) = false := decide_eq_false (by omega)
          obtain ⟨r0, r1⟩ := kz3.c2
          have g0 := kz3.frozen 0
          have g1 := kz3.frozen 1
          go_wp2_with (fail)
          refine bodyPost_ret (v := .tuple #[.agg #[.int .i64 (cowX n xs car).n, .slice none (cowX n xs car).xs.length 0], .int .i64 (cowCode n xs car)]) (by rw [HF.out.1, HF.out.2]; simp [results, Try.results68, go_sem, r0, r1]) rfl ⟨none, 0, rfl, ?_, ?_⟩
          · rw [HF.out.1]; exact OwnRows.nil _ _ _
          · (repeat (first | exact Below.refl _ _ | assumption | apply Below.drew | apply below_drewN | (refine Below.alloc ?_ (by first | omega | (simp; done) | (simp; omega)) _) | (refine Below.setCell ?_ (by first | omega | (simp; done) | (simp; omega)) _)))
      · have HF : Hid (cowX n xs car = ⟨0, []⟩ ∧ cowCode n xs car = 5) := Lib.hid (cow_err (by simp [cowCode, hn, hc, h8]) (by decide))
        have e2 : decide ((((pack xs).length : Nat) : Int) > 8) = true := decide_eq_true (by omega)
        obtain ⟨r0, r1⟩ := kz3.c2
        have g0 := kz3.frozen 0
        have g1 := kz3.frozen 1
        go_wp2_with (fail)
        refine bodyPost_ret (v := .tuple #[.agg #[.int .i64 (cowX n xs car).n, .slice none (cowX n xs car).xs.length 0], .int .i64 (cowCode n xs car)]) (by rw [HF.out.1, HF.out.2]; simp [results, Try.results68, go_sem, r0, r1]) rfl ⟨none, 0, rfl, ?_, ?_⟩
        · rw [HF.out.1]; exact OwnRows.nil _ _ _
        · (repeat (first | exact Below.refl _ _ | assumption | apply Below.drew | apply below_drewN | (refine Below.alloc ?_ (by first | omega | (simp; done) | (simp; omega)) _) | (refine Below.setCell ?_ (by first | omega | (simp; done) | (simp; omega)) _)))


end Go.Proofs.Ytnilglkiojigjaa

/- Permutations: ChartOfPermutation, the program's side. -/
namespace Go.Proofs.Ytnilglkiojigjaa
open Go Go.RowKit

def copCode (p : List Int) (car : Int) : Int := if permB p then cowCode p.length (permLetters p) car else 1
def copX (p : List Int) (car : Int) : ChX := if permB p then cowX p.length (permLetters p) car else ⟨0, []⟩
theorem cop_bad {p : List Int} {car : Int} (h : permB p = false) : copX p car = ⟨0, []⟩ ∧ copCode p car = 1 := by simp [copX, copCode, h]
theorem cop_good {p : List Int} {car : Int} (h : permB p = true) : copX p car = cowX p.length (permLetters p) car ∧ copCode p car = cowCode p.length (permLetters p) car := by simp [copX, copCode, h]
theorem permB_len {p : List Int} (h : permB p = true) : p.length ≤ 12 := by
  unfold permB at h
  simp only [Bool.and_eq_true, decide_eq_true_eq] at h
  exact h.1
theorem permLetters_small {p : List Int} (h : p.length ≤ 12) : smallB (permLetters p) ∧ (permLetters p).length ≤ 144 := by
  refine ⟨fun y hy => ?_, ?_⟩
  · rw [permLetters, List.mem_map] at hy
    obtain ⟨x, hx, rfl⟩ := hy
    have := permWord_mem p x hx
    omega
  · rw [permLetters_length]
    exact Nat.le_trans (permWord_length p) (Nat.le_trans (invs_le p) (Nat.mul_le_mul h h))

set_option maxHeartbeats 2000000 in
theorem impl_ChartOfPermutation (p : List Int) (car : Int) (A : Option Addr) (c : Nat) (w : World) (h : Ints w A p) (hl : p.length ≤ 9223372036854775807) :
    Calls Try.prog 13 #[.slice A p.length c, .int .i64 car] w fun e w' => ∃ A' c', e = .returned (.tuple #[.agg #[.int .i64 (copX p car).n, .slice A' (copX p car).xs.length c'], .int .i64 (copCode p car)]) ∧ OwnRows w' w.heap.size w'.heap.size A' (copX p car).xs.length c' (copX p car).xs ∧ Below w.heap.size w w' := by
  have t1 : (25 : TypeId) ≠ 2 := by decide
  have t2 : (25 : TypeId) ≠ 66 := by decide
  have hb1 : Below w.heap.size w (w.alloc (.cells #[.int .i64 0, .slice none 0 0] 25)) := by (repeat (first | exact Below.refl _ _ | assumption | apply Below.drew | apply below_drewN | (refine Below.alloc ?_ (by first | omega | (simp; done) | (simp; omega)) _) | (refine Below.setCell ?_ (by first | omega | (simp; done) | (simp; omega)) _)))
  have kz := Blk.new w 25 #[.int .i64 0, .slice none 0 0]
  cases hv : permB p
  · have HF := Lib.hid (cop_bad (car := car) hv)
    go_enter Try.func13, Try.ntmps13
    go_wp2_with (fail)
    refine (impl_ValidPermutation p A c _ (h.below hb1) hl).mono ?_; rintro e w2 ⟨rfl, b2⟩
    have hb2 : Below w.heap.size w w2 := hb1.trans (b2.mono (by simp))
    have kz2 := kz.below b2 (by simp)
    obtain ⟨r0, r1⟩ := kz2.c2
    have g0 := kz2.frozen 0
    have g1 := kz2.frozen 1
    rw [hv]
    go_wp2_with (fail)
    refine bodyPost_ret (v := .tuple #[.agg #[.int .i64 (copX p car).n, .slice none (copX p car).xs.length 0], .int .i64 (copCode p car)]) (by rw [HF.out.1, HF.out.2]; simp [results, Try.results13, go_sem, r0, r1]) rfl ⟨none, 0, rfl, ?_, ?_⟩
    · rw [HF.out.1]; exact OwnRows.nil _ _ _
    · (repeat (first | exact Below.refl _ _ | assumption | apply Below.drew | apply below_drewN | (refine Below.alloc ?_ (by first | omega | (simp; done) | (simp; omega)) _) | (refine Below.setCell ?_ (by first | omega | (simp; done) | (simp; omega)) _)))
  · have HF := Lib.hid (cop_good (car := car) hv)
    have h12 := permB_len hv
    obtain ⟨hsm, h144⟩ := permLetters_small h12
    have HSM := Lib.hid hsm; clear hsm
    go_enter Try.func13, Try.ntmps13
    go_wp2_with (fail)
    refine (impl_ValidPermutation p A c _ (h.below hb1) hl).mono ?_; rintro e w2 ⟨rfl, b2⟩
    have hb2 : Below w.heap.size w w2 := hb1.trans (b2.mono (by simp))
    have kz2 := kz.below b2 (by simp)
    have hz2 : w.heap.size < w2.heap.size := kz2.lt
    rw [hv]
    clear hv b2
    go_wp2_with (fail)
    refine (impl_permutationLetters p A c _ (h.below hb2) h12).mono ?_; rintro e w3 ⟨A3, c3, rfl, o3, b3⟩
    have hb3 : Below w.heap.size w w3 := hb2.trans (b3.mono (by omega))
    have kz3 := kz2.below b3 (by omega)
    have hz3 := b3.size
    generalize permLetters p = ws at o3 HSM h144 HF ⊢
    go_wp2_with (fail)
    refine (impl_chartOfWord p.length ws car A3 c3 _ (OwnC.ints o3) (by omega) HSM.out).mono ?_; rintro e w4 ⟨A4, c4, rfl, o4, b4⟩
    have hb4 : Below w.heap.size w w4 := hb3.trans (b4.mono (by omega))
    have kz4 := kz3.below b4 (by omega)
    have hz4 := b4.size
    obtain ⟨r0, r1⟩ := kz4.c2
    have g0 := kz4.frozen 0
    have g1 := kz4.frozen 1
    generalize cowX p.length ws car = X at o4 HF ⊢
    generalize cowCode p.length ws car = Y at HF ⊢
    go_wp2_with (fail)
    refine bodyPost_ret (v := .tuple #[.agg #[.int .i64 (copX p car).n, .slice A4 (copX p car).xs.length c4], .int .i64 (copCode p car)]) (by rw [HF.out.1, HF.out.2]; simp [results, Try.results13, go_sem, r0, r1]) rfl ⟨A4, c4, rfl, ?_, ?_⟩
    · rw [HF.out.1]
      have k1 := kz4.set20 (.int .i64 X.n)
      exact ((o4.farT kz4 t1 t2 0 _).farT k1 t1 t2 1 _).mono (by omega) (by simp)
    · (repeat (first | exact Below.refl _ _ | assumption | apply Below.drew | apply below_drewN | (refine Below.alloc ?_ (by first | omega | (simp; done) | (simp; omega)) _) | (refine Below.setCell ?_ (by first | omega | (simp; done) | (simp; omega)) _)))

end Go.Proofs.Ytnilglkiojigjaa

/- ChartOfBraid, the given side. -/
namespace Go.Proofs.Ytnilglkiojigjaa
open Go.RowKit

set_option maxHeartbeats 4000000 in
set_option maxRecDepth 10000 in
theorem spec_ChartOfBraid (n : Int) (xs : List Int) (car : Int) (A : Option Addr) (c : Nat) (w : World) (h : Ints w A xs) (hl : xs.length ≤ 9223372036854775807) :
    Calls Try.prog 66 #[.agg #[.int .i64 n, .slice A xs.length c], .int .i64 car] w fun e w' => ∃ A' c', e = .returned (.tuple #[.agg #[.int .i64 (cobX n xs car).n, .slice A' (cobX n xs car).xs.length c'], .int .i64 (cobCode n xs car)]) ∧ OwnRows w' w.heap.size w'.heap.size A' (cobX n xs car).xs.length c' (cobX n xs car).xs ∧ Below w.heap.size w w' := by
  have t1 : (25 : TypeId) ≠ 2 := by decide
  have t2 : (25 : TypeId) ≠ 66 := by decide
  have hb1 : Below w.heap.size w ((w.alloc (.cells #[.int .i64 n, .slice A xs.length c] 83)).alloc (.cells #[.int .i64 0, .slice none 0 0] 25)) := by (repeat (first | exact Below.refl _ _ | assumption | apply Below.drew | apply below_drewN | (refine Below.alloc ?_ (by first | omega | (simp; done) | (simp; omega)) _) | (refine Below.setCell ?_ (by first | omega | (simp; done) | (simp; omega)) _)))
  have ka := (Blk.new w 83 #[.int .i64 n, .slice A xs.length c]).alloc (.cells #[.int .i64 0, .slice none 0 0] 25)
  have kz : Blk ((w.alloc (.cells #[.int .i64 n, .slice A xs.length c] 83)).alloc (.cells #[.int .i64 0, .slice none 0 0] 25)) (w.heap.size + 1) 25 #[.int .i64 0, .slice none 0 0] := by simpa using Blk.new (w.alloc (.cells #[.int .i64 n, .slice A xs.length c] 83)) 25 #[.int .i64 0, .slice none 0 0]
  cases hv : braidB n xs
  · have HF : Hid (cobX n xs car = ⟨0, []⟩ ∧ cobCode n xs car = 1) := Lib.hid (cob_err (by simp [cobCode, hv]) (by decide))
    go_enter Try.func66, Try.ntmps66
    go_wp2_with (fail)
    refine (spec_l03Ok _ _ n A c xs _ (h.below hb1) hl ka.c2.1 ka.c2.2).mono ?_; rintro e w2 ⟨rfl, hdr⟩
    have b2 : Below w.heap.size w w2 := by obtain ⟨q, rfl⟩ := hdr; exact below_drewN hb1 q
    have ka2 : Blk w2 w.heap.size 83 #[.int .i64 n, .slice A xs.length c] := by obtain ⟨q, rfl⟩ := hdr; exact ka.drewN q
    have kz2 : Blk w2 (w.heap.size + 1) 25 #[.int .i64 0, .slice none 0 0] := by obtain ⟨q, rfl⟩ := hdr; exact kz.drewN q
    have hz : w2.heap.size = w.heap.size + 2 := by obtain ⟨q, rfl⟩ := hdr; simp
    have HZ := Lib.hid hz; clear hz hdr ka kz hb1
    obtain ⟨q0, q1⟩ := ka2.c2
    obtain ⟨r0, r1⟩ := kz2.c2
    have g0 := kz2.frozen 0
    have g1 := kz2.frozen 1
    rw [hv]
    go_wp2_with (fail)
    refine bodyPost_ret (v := .tuple #[.agg #[.int .i64 (cobX n xs car).n, .slice none (cobX n xs car).xs.length 0], .int .i64 (cobCode n xs car)]) (by rw [HF.out.1, HF.out.2]; simp [results, Try.results66, go_sem, r0, r1]) rfl ⟨none, 0, rfl, ?_, ?_⟩
    · rw [HF.out.1]; exact OwnRows.nil _ _ _
    · (repeat (first | exact Below.refl _ _ | assumption | apply Below.drew | apply below_drewN | (refine Below.alloc ?_ (by first | omega | (simp; done) | (simp; omega)) _) | (refine Below.setCell ?_ (by first | omega | (simp; done) | (simp; omega)) _)))
  · cases hn : inR n 1 8
    · have HF : Hid (cobX n xs car = ⟨0, []⟩ ∧ cobCode n xs car = 2) := Lib.hid (cob_err (by simp [cobCode, hv, hn]) (by decide))
      go_enter Try.func66, Try.ntmps66
      go_wp2_with (fail)
      refine (spec_l03Ok _ _ n A c xs _ (h.below hb1) hl ka.c2.1 ka.c2.2).mono ?_; rintro e w2 ⟨rfl, hdr⟩
      have b2 : Below w.heap.size w w2 := by obtain ⟨q, rfl⟩ := hdr; exact below_drewN hb1 q
      have ka2 : Blk w2 w.heap.size 83 #[.int .i64 n, .slice A xs.length c] := by obtain ⟨q, rfl⟩ := hdr; exact ka.drewN q
      have kz2 : Blk w2 (w.heap.size + 1) 25 #[.int .i64 0, .slice none 0 0] := by obtain ⟨q, rfl⟩ := hdr; exact kz.drewN q
      have hz : w2.heap.size = w.heap.size + 2 := by obtain ⟨q, rfl⟩ := hdr; simp
      have HZ := Lib.hid hz; clear hz hdr ka kz hb1
      obtain ⟨q0, q1⟩ := ka2.c2
      obtain ⟨r0, r1⟩ := kz2.c2
      have g0 := kz2.frozen 0
      have g1 := kz2.frozen 1
      rw [hv]
      go_wp2_with (first | (go_at_call 63; refine (spec_l00In _ _ _ _).mono ?_; rintro e _ ⟨rfl, rfl⟩) | (go_at_call 64; refine (spec_l07Yarn _ _).mono ?_; rintro e _ ⟨rfl, rfl⟩))
      refine bodyPost_ret (v := .tuple #[.agg #[.int .i64 (cobX n xs car).n, .slice none (cobX n xs car).xs.length 0], .int .i64 (cobCode n xs car)]) (by rw [HF.out.1, HF.out.2]; simp [results, Try.results66, go_sem, r0, r1]) rfl ⟨none, 0, rfl, ?_, ?_⟩
      · rw [HF.out.1]; exact OwnRows.nil _ _ _
      · (repeat (first | exact Below.refl _ _ | assumption | apply Below.drew | apply below_drewN | (refine Below.alloc ?_ (by first | omega | (simp; done) | (simp; omega)) _) | (refine Below.setCell ?_ (by first | omega | (simp; done) | (simp; omega)) _)))
    · cases hc : carrierB car
      · have HF : Hid (cobX n xs car = ⟨0, []⟩ ∧ cobCode n xs car = 2) := Lib.hid (cob_err (by simp [cobCode, hv, hn, hc]) (by decide))
        go_enter Try.func66, Try.ntmps66
        go_wp2_with (fail)
        refine (spec_l03Ok _ _ n A c xs _ (h.below hb1) hl ka.c2.1 ka.c2.2).mono ?_; rintro e w2 ⟨rfl, hdr⟩
        have b2 : Below w.heap.size w w2 := by obtain ⟨q, rfl⟩ := hdr; exact below_drewN hb1 q
        have ka2 : Blk w2 w.heap.size 83 #[.int .i64 n, .slice A xs.length c] := by obtain ⟨q, rfl⟩ := hdr; exact ka.drewN q
        have kz2 : Blk w2 (w.heap.size + 1) 25 #[.int .i64 0, .slice none 0 0] := by obtain ⟨q, rfl⟩ := hdr; exact kz.drewN q
        have hz : w2.heap.size = w.heap.size + 2 := by obtain ⟨q, rfl⟩ := hdr; simp
        have HZ := Lib.hid hz; clear hz hdr ka kz hb1
        obtain ⟨q0, q1⟩ := ka2.c2
        obtain ⟨r0, r1⟩ := kz2.c2
        have g0 := kz2.frozen 0
        have g1 := kz2.frozen 1
        rw [hv]
        go_wp2_with (first | (go_at_call 63; refine (spec_l00In _ _ _ _).mono ?_; rintro e _ ⟨rfl, rfl⟩) | (go_at_call 64; refine (spec_l07Yarn _ _).mono ?_; rintro e _ ⟨rfl, rfl⟩))
        refine bodyPost_ret (v := .tuple #[.agg #[.int .i64 (cobX n xs car).n, .slice none (cobX n xs car).xs.length 0], .int .i64 (cobCode n xs car)]) (by rw [HF.out.1, HF.out.2]; simp [results, Try.results66, go_sem, r0, r1]) rfl ⟨none, 0, rfl, ?_, ?_⟩
        · rw [HF.out.1]; exact OwnRows.nil _ _ _
        · (repeat (first | exact Below.refl _ _ | assumption | apply Below.drew | apply below_drewN | (refine Below.alloc ?_ (by first | omega | (simp; done) | (simp; omega)) _) | (refine Below.setCell ?_ (by first | omega | (simp; done) | (simp; omega)) _)))
      · have hn18 := inR_iff.1 hn
        have hv4 := (braidB_of hv).2.2.1
        have HS : Hid (smallB xs) := Lib.hid (smallB_of hv)
        have hp40 : (pack xs).length ≤ 40 := by have := pack_size xs; omega
        go_enter Try.func66, Try.ntmps66
        go_wp2_with (fail)
        refine (spec_l03Ok _ _ n A c xs _ (h.below hb1) hl ka.c2.1 ka.c2.2).mono ?_; rintro e w2 ⟨rfl, hdr⟩
        have b2 : Below w.heap.size w w2 := by obtain ⟨q, rfl⟩ := hdr; exact below_drewN hb1 q
        have ka2 : Blk w2 w.heap.size 83 #[.int .i64 n, .slice A xs.length c] := by obtain ⟨q, rfl⟩ := hdr; exact ka.drewN q
        have kz2 : Blk w2 (w.heap.size + 1) 25 #[.int .i64 0, .slice none 0 0] := by obtain ⟨q, rfl⟩ := hdr; exact kz.drewN q
        have hz : w2.heap.size = w.heap.size + 2 := by obtain ⟨q, rfl⟩ := hdr; simp
        have HZ := Lib.hid hz; clear hz hdr ka kz hb1
        obtain ⟨q0, q1⟩ := ka2.c2
        obtain ⟨r0, r1⟩ := kz2.c2
        have g0 := kz2.frozen 0
        have g1 := kz2.frozen 1
        rw [hv]
        go_wp2_with (first | (go_at_call 63; refine (spec_l00In _ _ _ _).mono ?_; rintro e _ ⟨rfl, rfl⟩) | (go_at_call 64; refine (spec_l07Yarn _ _).mono ?_; rintro e _ ⟨rfl, rfl⟩))
        refine (spec_l18Pack A c xs _ (h.below b2) (by omega) HS.out).mono ?_; rintro e w3 ⟨A3, c3, rfl, o3, b3⟩
        clear q0 q1 r0 r1 g0 g1
        have hz2 : w2.heap.size ≤ w3.heap.size := b3.size
        have hz0 : w.heap.size + 1 < w2.heap.size := by have := HZ.out; omega
        have ka3 := ka2.below b3 (by omega)
        have kz3 := kz2.below b3 (by omega)
        have hb3 : Below w.heap.size w w3 := b2.trans (b3.mono (by omega))
        have HI3 := Lib.hid o3.ints2
        by_cases h8 : (pack xs).length ≤ 8
        · have HC : Hid (cobCode n xs car = 0) := Lib.hid (by simp [cobCode, hv, hn, hc, h8])
          have HF : Hid (cobX n xs car = ⟨n, rowsFrom n.toNat car (groupsOf xs) (-1)⟩) := Lib.hid (by rw [cobX, if_pos HC.out])
          obtain ⟨m, rfl⟩ := Int.eq_ofNat_of_zero_le (show (0 : Int) ≤ n by omega)
          obtain ⟨q0, q1⟩ := ka3.c2
          by_cases h0 : pack xs = []
          · have HG : Hid (groupsOf xs = [[]]) := Lib.hid (by rw [groupsOf, if_pos h0])
            have e0 : (pack xs).length = 0 := by rw [h0]; rfl
            obtain ⟨i0, hi0, hy0, hy1, hy2⟩ := info_parts info_Row
            obtain ⟨i1, hi1, hz10, hz11, hz12⟩ := info_parts info_ints
            obtain ⟨cs3, oc3, _⟩ := o3.ex
            rw [e0] at oc3 ⊢
            have hcs3 : cs3 = [] := by have := oc3.len; simpa using this
            subst hcs3
            have hzz : w2.heap.size ≤ w3.heap.size + 1 := by omega
            go_wp2_with (at_builtin; refine wpList_append1q (w3.alloc (.cells #[] 2)) (w3.heap.size + 1) (by simp) [.slice (some ⟨w3.heap.size, 0, none⟩) 0 0] _ rfl (.tmp 29) (.tmp 31) _ rfl 22 i1 _ 1 24 Try.underlying51 hi1 hz10 hz11 hz12 rfl (by decide) rfl (oc3.alloc _) (by simp; omega) 1 rfl rfl (by simp [Value.oneCell']) (by omega) (by decide) ?_; intro A6 c6 wB ho6 hg6 hb6 hz6; have kaB : Blk wB w.heap.size 83 #[.int .i64 m, .slice A xs.length c] := (ka3.alloc _).below hb6 (by omega); obtain ⟨q0', q1'⟩ := kaB.c2)
            have kaB : Blk wB w.heap.size 83 #[.int .i64 m, .slice A xs.length c] := (ka3.alloc _).below hb6 (by omega)
            have kzB : Blk wB (w.heap.size + 1) 25 #[.int .i64 0, .slice none 0 0] := (kz3.alloc _).below hb6 (by omega)
            have hzB : w.heap.size + 1 < wB.heap.size := kzB.lt
            have HBB : Below w.heap.size w wB := (hb3.alloc (by omega) _).trans (hb6.mono (by omega))
            have HIB : Hid (Ints2 wB A6 [[]]) := Lib.hid (by
              intro k hk
              obtain rfl : k = 0 := by simpa using hk
              obtain ⟨b, rfl, _, _, hc0, _⟩ := ho6.cell (j := 0) (by simp)
              exact ⟨b, 0, some ⟨w3.heap.size, 0, none⟩, 0, [], rfl, rfl, by simpa using hc0, Ints.nil, by simp⟩)
            clear q0 q1
            obtain ⟨p0, p1⟩ := (kaB.alloc (.cells #[.int .i64 m, .slice none 0 0] 25)).c2
            go_loopw [8, 9] (fun dv iv wr => ∃ (k : Nat) (d : Int) (done : List RowD), k ≤ 1 ∧ dv = .int .i64 d ∧ iv = .int .i64 k ∧ (d = -1 ∨ d = 1) ∧ Hid (rowsFrom m car ([[]]) (-1) = done ++ rowsFrom m car (([[]]).drop k) d) ∧ ChartInv m wB.heap.size wB wr k done) (fun _ iv _ => 1 - (intOf iv).toNat)
            case atStart => exact ⟨0, -1, [], Nat.zero_le _, rfl, rfl, .inl rfl, Lib.hid rfl, ChartInv.start _ _⟩
            case round =>
              clear p0 p1
              obtain ⟨k, d, done, hk, rfl, rfl, hd, HD, hinv⟩ := hrel
              obtain ⟨hdl, hb, hlt, A', c', cs, kb, ho, hcr⟩ := hinv
              have kar := kaB.below hb (by omega)
              have kzr := kzB.below hb (by omega)
              obtain ⟨q0, q1⟩ := kar.c2
              obtain ⟨s0, s1⟩ := kb.c2
              by_cases hkl : k < 1
              · obtain ⟨b, off, A2, c2, g, rfl, hx, hc2, hi, hgl⟩ := (HIB.out.below hb) k hkl
                have HX := Lib.hid hx; clear hx
                have hg40 : g.length ≤ 9223372036854775807 := by omega
                have j1 : (0 : Int) ≤ (k : Int) := by omega
                have j2 : (k : Int) < ((1 : Nat) : Int) := by omega
                have j4 : IntKind.i64.wrap (-d) = -d := IntWalk.i64_in _ (by omega)
                have j5 : IntKind.i64.wrap ((k : Int) + 1) = (k : Int) + 1 := IntWalk.i64_in _ (by omega)
                go_wp2_with (fail)
                go_region_law (first | (go_simp; go_at_call 128; refine (spec_l18Row m g d car A2 c2 _ (Ints.drew1 hi) hg40 (by omega)).mono ?_; rintro e w4 ⟨A4, c4, rfl, o4', b4'⟩; have b4 := undrew b4'; have u1 := (kb.below b4 hlt).c2.2; have u2 := cell_alloc u1 (.cells #[.int .i64 d, .int .i64 car, .slice A4 (rowFrom m g 0).length c4] 66)) | (refine step_append1 [.int .i64 d, .int .i64 car, .slice A4 (rowFrom m g 0).length c4] _ rfl (.tmp 47) (.tmp 57) _ rfl 66 i0 _ 3 40 Try.underlying23 hi0 hy0 hy1 hy2 rfl (by decide) (by simp [Act.eval]) (ho.below b4 (Nat.le_refl _)) (by have := b4.size; omega) 1 (by simp [Act.eval]) rfl (by simp [Value.oneCell']) (by omega) (by decide) ?_; intro A5 c5 w5 ho5 hg5 hb5 hz5; have kb5 := ((kb.below b4 hlt).alloc (.cells #[.int .i64 d, .int .i64 car, .slice A4 (rowFrom m g 0).length c4] 66)).grownT ((ho.below b4 (Nat.le_refl _)).alloc (.cells #[.int .i64 d, .int .i64 car, .slice A4 (rowFrom m g 0).length c4] 66)) t2 hg5; obtain ⟨v0, v1⟩ := kb5.c2; have v2 := kb5.frozen 1))
                all_goals go_wp2_with (fail)
                all_goals
                  have hinv' := ChartInv.step ⟨d, car, rowFrom m g 0⟩ hdl hb hlt kb ho hcr b4 o4' ho5 hg5 hb5 hz5
                  refine ⟨⟨k + 1, -d, done ++ [⟨d, car, rowFrom m g 0⟩], by omega, rfl, by go_num, by omega, Lib.hid (by rw [HD.out, rowsFrom_drop HX.out, List.append_assoc]; rfl), hinv'⟩, by simp [intOf]; omega⟩
              · obtain rfl : k = 1 := by omega
                have hfin : cobX m xs car = ⟨m, done⟩ := by
                  have h9 := HD.out
                  rw [drop_all (by simp), rowsFrom, List.append_nil] at h9
                  rw [HF.out, HG.out, Int.toNat_natCast, h9]
                have HFN := Lib.hid hfin; clear hfin
                obtain ⟨A7, c7, kc, oo⟩ := ChartInv.rows ⟨hdl, hb, hlt, A', c', cs, kb, ho, hcr⟩
                obtain ⟨p0, p1⟩ := kc.c2
                obtain ⟨r0, r1⟩ := kzr.c2
                have g0 := kzr.frozen 0
                have g1 := kzr.frozen 1
                have hbw : Below w.heap.size w wr := HBB.trans (hb.mono (by omega))
                clear s0 s1
                have HDL := Lib.hid hdl; clear hdl
                go_wp2_with (fail)
                refine bodyPost_ret (v := .tuple #[.agg #[.int .i64 (cobX m xs car).n, .slice A7 (cobX m xs car).xs.length c7], .int .i64 (cobCode m xs car)]) (by rw [HFN.out, HC.out]; simp [results, Try.results66, go_sem, r0, r1, HDL.out]) rfl ⟨A7, c7, rfl, ?_, ?_⟩
                · rw [HFN.out]
                  have k1 := kzr.set20 (.int .i64 m)
                  show OwnRows _ _ _ _ done.length _ done
                  rw [HDL.out]
                  exact ((oo.farT kzr t1 t2 0 _).farT k1 t1 t2 1 _).mono (by omega) (by simp)
                · (repeat (first | exact Below.refl _ _ | assumption | apply Below.drew | apply below_drewN | (refine Below.alloc ?_ (by first | omega | (simp; done) | (simp; omega)) _) | (refine Below.setCell ?_ (by first | omega | (simp; done) | (simp; omega)) _)))
          · have HG : Hid (groupsOf xs = pack xs) := Lib.hid (by rw [groupsOf, if_neg h0])
            obtain ⟨i0, hi0, hy0, hy1, hy2⟩ := info_parts info_Row
            have hpos : 0 < (pack xs).length := List.length_pos_iff.2 h0
            have e1 : ((((pack xs).length : Nat) : Int) == 0) = false := beq_eq_false_iff_ne.2 (by omega)
            have e2 : decide ((((pack xs).length : Nat) : Int) > 8) = false := decide_eq_false (by omega)
            clear h0
            generalize hgs : pack xs = gs at *
            have HGS := Lib.hid hgs; clear hgs
            go_wp2_with (fail)
            have kaB := ka3
            have kzB := kz3
            have hzB : w.heap.size + 1 < w3.heap.size := kzB.lt
            have HBB := hb3
            have HIB := HI3
            obtain ⟨p0, p1⟩ := (kaB.alloc (.cells #[.int .i64 m, .slice none 0 0] 25)).c2
            go_loopw [8, 9] (fun dv iv wr => ∃ (k : Nat) (d : Int) (done : List RowD), k ≤ gs.length ∧ dv = .int .i64 d ∧ iv = .int .i64 k ∧ (d = -1 ∨ d = 1) ∧ Hid (rowsFrom m car (gs) (-1) = done ++ rowsFrom m car ((gs).drop k) d) ∧ ChartInv m w3.heap.size w3 wr k done) (fun _ iv _ => gs.length - (intOf iv).toNat)
            case atStart => exact ⟨0, -1, [], Nat.zero_le _, rfl, rfl, .inl rfl, Lib.hid rfl, ChartInv.start _ _⟩
            case round =>
              clear p0 p1
              obtain ⟨k, d, done, hk, rfl, rfl, hd, HD, hinv⟩ := hrel
              obtain ⟨hdl, hb, hlt, A', c', cs, kb, ho, hcr⟩ := hinv
              have kar := kaB.below hb (by omega)
              have kzr := kzB.below hb (by omega)
              obtain ⟨q0, q1⟩ := kar.c2
              obtain ⟨s0, s1⟩ := kb.c2
              by_cases hkl : k < gs.length
              · obtain ⟨b, off, A2, c2, g, rfl, hx, hc2, hi, hgl⟩ := (HIB.out.below hb) k hkl
                have HX := Lib.hid hx; clear hx
                have hg40 : g.length ≤ 9223372036854775807 := by omega
                have j1 : (0 : Int) ≤ (k : Int) := by omega
                have j2 : (k : Int) < ((gs.length : Nat) : Int) := by omega
                have j4 : IntKind.i64.wrap (-d) = -d := IntWalk.i64_in _ (by omega)
                have j5 : IntKind.i64.wrap ((k : Int) + 1) = (k : Int) + 1 := IntWalk.i64_in _ (by omega)
                go_wp2_with (fail)
                go_region_law (first | (go_simp; go_at_call 128; refine (spec_l18Row m g d car A2 c2 _ (Ints.drew1 hi) hg40 (by omega)).mono ?_; rintro e w4 ⟨A4, c4, rfl, o4', b4'⟩; have b4 := undrew b4'; have u1 := (kb.below b4 hlt).c2.2; have u2 := cell_alloc u1 (.cells #[.int .i64 d, .int .i64 car, .slice A4 (rowFrom m g 0).length c4] 66)) | (refine step_append1 [.int .i64 d, .int .i64 car, .slice A4 (rowFrom m g 0).length c4] _ rfl (.tmp 47) (.tmp 57) _ rfl 66 i0 _ 3 40 Try.underlying23 hi0 hy0 hy1 hy2 rfl (by decide) (by simp [Act.eval]) (ho.below b4 (Nat.le_refl _)) (by have := b4.size; omega) 1 (by simp [Act.eval]) rfl (by simp [Value.oneCell']) (by omega) (by decide) ?_; intro A5 c5 w5 ho5 hg5 hb5 hz5; have kb5 := ((kb.below b4 hlt).alloc (.cells #[.int .i64 d, .int .i64 car, .slice A4 (rowFrom m g 0).length c4] 66)).grownT ((ho.below b4 (Nat.le_refl _)).alloc (.cells #[.int .i64 d, .int .i64 car, .slice A4 (rowFrom m g 0).length c4] 66)) t2 hg5; obtain ⟨v0, v1⟩ := kb5.c2; have v2 := kb5.frozen 1))
                all_goals go_wp2_with (fail)
                all_goals
                  have hinv' := ChartInv.step ⟨d, car, rowFrom m g 0⟩ hdl hb hlt kb ho hcr b4 o4' ho5 hg5 hb5 hz5
                  refine ⟨⟨k + 1, -d, done ++ [⟨d, car, rowFrom m g 0⟩], by omega, rfl, by go_num, by omega, Lib.hid (by rw [HD.out, rowsFrom_drop HX.out, List.append_assoc]; rfl), hinv'⟩, by simp [intOf]; omega⟩
              · obtain rfl : k = gs.length := by omega
                have hfin : cobX m xs car = ⟨m, done⟩ := by
                  have h9 := HD.out
                  rw [drop_all (by simp), rowsFrom, List.append_nil] at h9
                  rw [HF.out, HG.out, Int.toNat_natCast, h9]
                have HFN := Lib.hid hfin; clear hfin
                obtain ⟨A7, c7, kc, oo⟩ := ChartInv.rows ⟨hdl, hb, hlt, A', c', cs, kb, ho, hcr⟩
                obtain ⟨p0, p1⟩ := kc.c2
                obtain ⟨r0, r1⟩ := kzr.c2
                have g0 := kzr.frozen 0
                have g1 := kzr.frozen 1
                have hbw : Below w.heap.size w wr := HBB.trans (hb.mono (by omega))
                clear s0 s1
                have HDL := Lib.hid hdl; clear hdl
                go_wp2_with (fail)
                refine bodyPost_ret (v := .tuple #[.agg #[.int .i64 (cobX m xs car).n, .slice A7 (cobX m xs car).xs.length c7], .int .i64 (cobCode m xs car)]) (by rw [HFN.out, HC.out]; simp [results, Try.results66, go_sem, r0, r1, HDL.out]) rfl ⟨A7, c7, rfl, ?_, ?_⟩
                · rw [HFN.out]
                  have k1 := kzr.set20 (.int .i64 m)
                  show OwnRows _ _ _ _ done.length _ done
                  rw [HDL.out]
                  exact ((oo.farT kzr t1 t2 0 _).farT k1 t1 t2 1 _).mono (by omega) (by simp)
                · (repeat (first | exact Below.refl _ _ | assumption | apply Below.drew | apply below_drewN | (refine Below.alloc ?_ (by first | omega | (simp; done) | (simp; omega)) _) | (refine Below.setCell ?_ (by first | omega | (simp; done) | (simp; omega)) _)))
        · have HF : Hid (cobX n xs car = ⟨0, []⟩ ∧ cobCode n xs car = 5) := Lib.hid (cob_err (by simp [cobCode, hv, hn, hc, h8]) (by decide))
          have e1 : ((((pack xs).length : Nat) : Int) == 0) = false := beq_eq_false_iff_ne.2 (by omega)
          have e2 : decide ((((pack xs).length : Nat) : Int) > 8) = true := decide_eq_true (by omega)
          obtain ⟨r0, r1⟩ := kz3.c2
          have g0 := kz3.frozen 0
          have g1 := kz3.frozen 1
          go_wp2_with (fail)
          refine bodyPost_ret (v := .tuple #[.agg #[.int .i64 (cobX n xs car).n, .slice none (cobX n xs car).xs.length 0], .int .i64 (cobCode n xs car)]) (by rw [HF.out.1, HF.out.2]; simp [results, Try.results66, go_sem, r0, r1]) rfl ⟨none, 0, rfl, ?_, ?_⟩
          · rw [HF.out.1]; exact OwnRows.nil _ _ _
          · (repeat (first | exact Below.refl _ _ | assumption | apply Below.drew | apply below_drewN | (refine Below.alloc ?_ (by first | omega | (simp; done) | (simp; omega)) _) | (refine Below.setCell ?_ (by first | omega | (simp; done) | (simp; omega)) _)))

end Go.Proofs.Ytnilglkiojigjaa

/- Permutations: ChartOfPermutation, the given side. -/
namespace Go.Proofs.Ytnilglkiojigjaa
open Go Go.RowKit

theorem spec_ValidPermutation (p : List Int) (A : Option Addr) (c : Nat) (w : World) (h : Ints w A p) (hl : p.length ≤ 9223372036854775807) :
    Calls Try.prog 62 #[.slice A p.length c] w fun e w' => e = .returned (.bool (permB p)) ∧ Below w.heap.size w w' := by
  go_enter Try.func62, Try.ntmps62
  go_wp2_with (fail)
  refine (spec_l02Ok p A c _ h hl).mono ?_; rintro e w2 ⟨rfl, b2⟩
  go_wp2_with (fail)
  go_ret
  exact ⟨rfl, b2⟩
theorem spec_ReducedWord (p : List Int) (A : Option Addr) (c : Nat) (w : World) (h : Ints w A p) (hv : permB p = true) :
    Calls Try.prog 65 #[.slice A p.length c] w fun e w' => ∃ A' c', e = .returned (.slice A' (permWord p).length c') ∧ OwnI w' w.heap.size w'.heap.size A' c' (permWord p) ∧ Below w.heap.size w w' := by
  have h12 := permB_len hv
  go_enter Try.func65, Try.ntmps65
  go_wp2_with (fail)
  refine (spec_l02Ok p A c _ h (by omega)).mono ?_; rintro e w2 ⟨rfl, b2⟩
  have hz2 := b2.size
  rw [hv]
  go_wp2_with (fail)
  refine (spec_l02Word p A c _ (h.below b2) h12).mono ?_; rintro e w3 ⟨A3, c3, rfl, o3, b3⟩
  go_wp2_with (fail)
  go_ret
  exact ⟨A3, c3, rfl, OwnC.mono o3 hz2 (Nat.le_refl _), b2.trans (b3.mono hz2)⟩

theorem addOnes_snoc {ws : List Int} {i : Nat} {x : Int} (h : ws[i]? = some x) : (ws.take (i + 1)).map (· + 1) = (ws.take i).map (· + 1) ++ [x + 1] := by rw [take_snoc h, List.map_append]; rfl
theorem cop_range {p : List Int} {car : Int} (h : permB p = true) (hk : (inR p.length 1 8 && carrierB car) = false) : copX p car = ⟨0, []⟩ ∧ copCode p car = 2 := by
  have e : cowCode p.length (permLetters p) car = 2 := by simp [cowCode, hk]
  rw [(cop_good h).1, (cop_good h).2]
  exact cow_err e (by decide)
theorem cop_rest {p : List Int} {car : Int} (h : permB p = true) (hk : inR p.length 1 8 = true) : copX p car = cobX p.length (permLetters p) car ∧ copCode p car = cobCode p.length (permLetters p) car := by
  have h8 := (inR_iff.1 hk).2
  obtain ⟨hb, _⟩ := perm_braid (p := p) (by omega)
  obtain ⟨e1, e2⟩ := cow_cob (car := car) hb
  rw [(cop_good h).1, (cop_good h).2]
  exact ⟨e2, e1⟩

end Go.Proofs.Ytnilglkiojigjaa
