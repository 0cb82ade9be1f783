/- Steps of the proof, joined from several texts: SA FF PL FLs B CO VP VQ VR SB RT RU. -/
import Derived.Test.YtnjgmhdmjaijgaaGreatDoorZ4
import Derived.Test.YtnjgmhdmjaijgaaGreatDoorZ1
import Derived.Test.YtnjgmhdmjaijgaaGreatDoorZ3
import Derived.BigGuard
import Derived.Test.YtnjgmhdmjaijgaaGreatDoorZ2
import Derived.BigCall

/- StacksAfter, the reference's side. -/
namespace Go.Proofs.YtnjgmhdmjaijgaaGreatDoor
open Go.RowKit

theorem st0_drop {st : List Int} {t : Nat} {x : Int} (h : st[t]? = some x) : st0 (st.drop t) = x := by
  unfold st0
  rw [List.getElem?_drop, Nat.add_zero, h]; rfl
theorem st1_drop {st : List Int} {t : Nat} {x : Int} (h : st[t + 1]? = some x) : st1 (st.drop t) = x := by
  unfold st1
  rw [List.getElem?_drop, h]; rfl
theorem afterP_drop {ks st : List Int} {i t : Nat} {k : Int} (h : ks[i]? = some k) : afterP (ks.drop i) (st.drop t) = stepMade k (st.drop t) ++ afterP (ks.drop (i + 1)) (st.drop (t + takenN k)) := by
  rw [drop_cons h, afterP, List.drop_drop]
theorem thickP_drop {ks st : List Int} {i t : Nat} {k : Int} (h : ks[i]? = some k) : thickP (ks.drop i) (st.drop t) = (stepThick k (st.drop t) || thickP (ks.drop (i + 1)) (st.drop (t + takenN k))) := by
  rw [drop_cons h, thickP, List.drop_drop]
theorem okAfter_drop {ks st : List Int} {i t : Nat} {k : Int} (h : ks[i]? = some k) : okAfter (ks.drop i) (st.drop t) = (stepOk k (st.drop t) && okAfter (ks.drop (i + 1)) (st.drop (t + takenN k))) := by
  rw [drop_cons h, okAfter, List.drop_drop]

set_option maxHeartbeats 4000000 in
set_option maxRecDepth 10000 in
theorem spec_l14After (A B : Option Addr) (c d : Nat) (st ks : List Int) (w : World) (h : Ints w A st) (h' : Ints w B ks) (hv : stacksB st = true) (hs : stitchesB ks = true) (heq : takenS ks = st.length) :
    Calls Tryz.prog 118 #[.slice A st.length c, .slice B ks.length d] w fun e w' => ∃ A' c', e = .returned (.slice A' (afterP ks st).length c') ∧ OwnI w' w.heap.size w'.heap.size A' c' (afterP ks st) ∧ Below w.heap.size w w' := by
  obtain ⟨i0, hi0, hz0, hz1, hz2⟩ := info_parts info_int64
  obtain ⟨hl, hst⟩ := stitchesB_of hs
  obtain ⟨hl8, hr⟩ := stacksB_of hv
  have HST := Lib.hid hst; clear hst
  have HR := Lib.hid hr; clear hr
  have HEQ := Lib.hid heq; clear heq
  go_enter Tryz.func118, Tryz.ntmps118
  go_wp2_with (fail)
  go_loopw [5, 6, 7] (fun ov tv iv wr => ∃ (i t : Nat) (A' : Option Addr) (c' : Nat) (out : List Int), i ≤ ks.length ∧ iv = .int .i64 i ∧ tv = .int .i64 t ∧ ov = .slice A' out.length c' ∧ OwnI wr w.heap.size wr.heap.size A' c' out ∧ Below w.heap.size w wr ∧ Hid (takenS (ks.take i) = t) ∧ Hid (afterP ks st = out ++ afterP (ks.drop i) (st.drop t)) ∧ out.length ≤ 4 * i) (fun _ _ iv _ => ks.length - (intOf iv).toNat)
  case atStart =>
    exact ⟨0, 0, some ⟨w.heap.size, 0, none⟩, 0, [], Nat.zero_le _, rfl, rfl, rfl, (OwnC.lit _ 1 #[] (Nat.le_refl _) (Nat.zero_le _) rfl).mono (Nat.le_refl _) (by simp), by (repeat (first | exact Below.refl _ _ | assumption | apply Below.drew | apply below_drewN | (refine Below.alloc ?_ (by first | omega | (simp; done) | (simp; omega)) _) | (refine Below.setCell ?_ (by first | omega | (simp; done) | (simp; omega)) _))), Lib.hid rfl, Lib.hid (by simp), by simp⟩
  case round =>
    obtain ⟨i, t, A', c', out, hi, rfl, rfl, rfl, ho, hb, HT, HA, hol⟩ := hrel
    have hzs := hb.size
    by_cases hlt : i < ks.length
    · obtain ⟨b, off, k, rfl, hc, hk⟩ := h' i hlt
      have hcw := Lib.hid hc
      replace hc := cells_below hb _ _ hc
      have hq := HST.out k (List.mem_of_getElem? hk)
      have htn := takenN_le k hq
      have hle : t + takenN k ≤ st.length := by have := takenS_at hk; rw [HT.out, HEQ.out] at this; exact this
      have HT2 : Hid (takenS (ks.take (i + 1)) = t + takenN k) := Lib.hid (by rw [takenS_snoc hk, HT.out])
      have HA2 : Hid (afterP ks st = (out ++ stepMade k (st.drop t)) ++ afterP (ks.drop (i + 1)) (st.drop (t + takenN k))) := Lib.hid (by rw [HA.out, afterP_drop hk, List.append_assoc])
      have HB : Hid (takenB k = takenN k) := Lib.hid (takenB_of hq)
      have HM : Hid (madeB k = madeN k) := Lib.hid (madeB_of hq)
      clear hk HT HA
      have j1 : (0 : Int) ≤ (i : Int) := by omega
      by_cases hk6 : k = 6
      · subst hk6
        have hlen : t < st.length := by have : takenN 6 = 1 := by decide
                                        omega
        obtain ⟨b1, off1, x, rfl, hcx, hx⟩ := h t hlen
        replace hcx := cells_below hb _ _ hcx
        have hxr := inR_iff.1 (HR.out x (List.mem_of_getElem? hx))
        have hsm : stepMade 6 (st.drop t) = [x + 1] := by
          unfold stepMade
          rw [if_pos rfl, st0_drop hx]
          have hw : wrap64 (x + 1) = x + 1 := IntWalk.wrap64_in _ ⟨by omega, by omega⟩
          rw [hw]
        rw [hsm] at HA2
        clear hx hsm
        go_wp2_with (at_builtin; refine wpList_append1 wr [.int .i64 (x + 1)] _ rfl (.tmp 34) (.tmp 40) _ rfl 2 i0 _ 1 8 Tryz.underlying34 hi0 hz0 hz1 hz2 rfl (by decide) rfl ho hzs 1 rfl rfl (by simp [Value.oneCell']) (by omega) (by decide) ?_; intro A2 c2 w2 ho2 hg2 hb2 hz2'; have hc2 := cells_below (hb.trans hb2) _ _ hcw.out)
        refine (spec_ColumnsTaken _ _).mono ?_; rintro e w9 ⟨rfl, b9⟩
        have o9 := ho2.below b9 (Nat.le_refl _)
        have hb9 : Below w.heap.size w w9 := (hb.trans hb2).trans (b9.mono (hb.trans hb2).size)
        have z9 := b9.size
        rw [HB.out]
        go_wp2_with (fail)
        refine ⟨⟨i + 1, t + takenN 6, A2, c2, (out ++ [x + 1]), by omega, by go_num, by push_cast; go_num, by simp, by show OwnC _ _ _ _ _ _ _ _ _; rw [List.map_append, List.length_append]; exact o9.mono (Nat.le_refl _) z9, hb9, HT2, HA2, by simp; omega⟩, by simp [intOf]; omega⟩
      · by_cases hk7 : k = 7
        · subst hk7
          have hlen : t < st.length := by have : takenN 7 = 1 := by decide
                                          omega
          obtain ⟨b1, off1, x, rfl, hcx, hx⟩ := h t hlen
          replace hcx := cells_below hb _ _ hcx
          have hsm : stepMade 7 (st.drop t) = [x] := by
            unfold stepMade
            rw [if_neg (by decide), if_pos rfl, st0_drop hx]
          rw [hsm] at HA2
          clear hx hsm
          go_wp2_with (at_builtin; refine wpList_append1 wr [.int .i64 x] _ rfl (.tmp 44) (.tmp 49) _ rfl 2 i0 _ 1 8 Tryz.underlying34 hi0 hz0 hz1 hz2 rfl (by decide) rfl ho hzs 1 rfl rfl (by simp [Value.oneCell']) (by omega) (by decide) ?_; intro A2 c2 w2 ho2 hg2 hb2 hz2'; have hc2 := cells_below (hb.trans hb2) _ _ hcw.out)
          refine (spec_ColumnsTaken _ _).mono ?_; rintro e w9 ⟨rfl, b9⟩
          have o9 := ho2.below b9 (Nat.le_refl _)
          have hb9 : Below w.heap.size w w9 := (hb.trans hb2).trans (b9.mono (hb.trans hb2).size)
          have z9 := b9.size
          rw [HB.out]
          go_wp2_with (fail)
          refine ⟨⟨i + 1, t + takenN 7, A2, c2, (out ++ [x]), by omega, by go_num, by push_cast; go_num, by simp, by show OwnC _ _ _ _ _ _ _ _ _; rw [List.map_append, List.length_append]; exact o9.mono (Nat.le_refl _) z9, hb9, HT2, HA2, by simp; omega⟩, by simp [intOf]; omega⟩
        · have hsm : stepMade k (st.drop t) = List.replicate (madeN k) 1 := by
            unfold stepMade
            rw [if_neg hk6, if_neg hk7]
          rw [hsm] at HA2
          clear hsm
          have hk6' : (k == 6) = false := by simpa using hk6
          have hk7' : (k == 7) = false := by simpa using hk7
          clear hk6 hk7
          go_wp2_with (fail)
          refine (spec_ColumnsMade _ _).mono ?_; rintro e w2 ⟨rfl, b2⟩
          have ho2 := ho.below b2 (Nat.le_refl _)
          have hb2 : Below w.heap.size w w2 := hb.trans (b2.mono hzs)
          have z2 := b2.size
          rw [HM.out]
          go_wp2_with (fail)
          go_loopw [5, 8] (fun ov mv ws => ∃ (j : Nat) (A' : Option Addr) (c' : Nat), j ≤ madeN k ∧ mv = .int .i64 ((madeN k : Int) - j) ∧ ov = .slice A' (out ++ List.replicate j 1).length c' ∧ OwnI ws w.heap.size ws.heap.size A' c' (out ++ List.replicate j 1) ∧ Below w.heap.size w ws) (fun _ mv _ => (intOf mv).toNat)
          case atStart => exact ⟨0, A', c', Nat.zero_le _, by simp, by simp, by simpa using ho2.mono (Nat.le_refl _) z2, hb2⟩
          case round =>
            clear ho ho2 hzs
            obtain ⟨j, A3, c3, hj, rfl, rfl, ho3, hb3⟩ := hrel
            have hzs3 := hb3.size
            have hlen : (out ++ List.replicate j (1 : Int)).length ≤ 100 := by simp; omega
            have hlen2 : (out ++ List.replicate j (1 : Int)).length = out.length + j := by simp
            have HL2 := Lib.hid hlen2; clear hlen2
            have HJ : Hid (out ++ List.replicate (j + 1) (1 : Int) = (out ++ List.replicate j 1) ++ [1]) := Lib.hid (by rw [List.replicate_succ', List.append_assoc])
            generalize hL : out ++ List.replicate j (1 : Int) = L at ho3 hlen HL2 HJ ⊢
            have HL := Lib.hid hL; clear hL
            by_cases hjl : j < madeN k
            · go_wp2_with (at_builtin; refine wpList_append1 wr [.int .i64 1] _ rfl (.tmp 29) (.tmp 30) _ rfl 2 i0 _ 1 8 Tryz.underlying34 hi0 hz0 hz1 hz2 rfl (by decide) rfl ho3 hzs3 1 rfl rfl (by simp [Value.oneCell']) (by omega) (by decide) ?_; intro A4 c4 w4 ho4 hg4 hb4 hz4)
              go_roundw
              case rel =>
                refine ⟨j + 1, A4, c4, by omega, by push_cast; go_num, by rw [HJ.out]; simp, ?_, hb3.trans hb4⟩
                rw [HJ.out]
                show OwnC _ _ _ _ _ _ _ _ _
                rw [List.map_append, List.length_append]
                exact ho4
              case measure => simp [intOf]; omega
            · have hj4 : j = madeN k := by omega
              subst hj4
              have hc3 := cells_below hb3 _ _ hcw.out
              go_wp2_with (fail)
              refine (spec_ColumnsTaken _ _).mono ?_; rintro e w9 ⟨rfl, b9⟩
              have o9 := ho3.below b9 (Nat.le_refl _)
              have hb9 : Below w.heap.size w w9 := hb3.trans (b9.mono hb3.size)
              have z9 := b9.size
              rw [HB.out]
              go_wp2_with (fail)
              refine ⟨⟨i + 1, t + takenN k, A3, c3, L, by omega, by go_num, by push_cast; go_num, rfl, o9.mono (Nat.le_refl _) z9, hb9, HT2, Lib.hid (by rw [HA2.out, HL.out]), by have := HL2.out; omega⟩, by simp [intOf]; omega⟩
    · go_wp2_with (fail)
      go_ret
      have he := HA.out
      rw [drop_all (by omega), afterP, List.append_nil] at he
      rw [he]
      exact ⟨_, _, rfl, ho, hb⟩

set_option maxHeartbeats 2000000 in
set_option maxRecDepth 10000 in
theorem spec_l14Thick (A B : Option Addr) (c d : Nat) (st ks : List Int) (w : World) (h : Ints w A st) (h' : Ints w B ks) (hv : stacksB st = true) (hs : stitchesB ks = true) (heq : takenS ks = st.length) :
    Calls Tryz.prog 119 #[.slice A st.length c, .slice B ks.length d] w fun e w' => e = .returned (.bool (thickP ks st)) ∧ Below w.heap.size w w' := by
  obtain ⟨hl, hst⟩ := stitchesB_of hs
  obtain ⟨hl8, hr⟩ := stacksB_of hv
  have HST := Lib.hid hst; clear hst
  have HR := Lib.hid hr; clear hr
  have HEQ := Lib.hid heq; clear heq
  go_enter Tryz.func119, Tryz.ntmps119
  go_wp2_with (fail)
  go_loopw [5, 6] (fun tv iv wr => ∃ (i t : Nat), i ≤ ks.length ∧ iv = .int .i64 i ∧ tv = .int .i64 t ∧ Below w.heap.size w wr ∧ Hid (takenS (ks.take i) = t) ∧ Hid (thickP ks st = thickP (ks.drop i) (st.drop t))) (fun _ iv _ => ks.length - (intOf iv).toNat)
  case atStart => exact ⟨0, 0, Nat.zero_le _, rfl, rfl, Below.refl _ _, Lib.hid rfl, Lib.hid (by simp)⟩
  case round =>
    obtain ⟨i, t, hi, rfl, rfl, hb, HT, HA⟩ := hrel
    have hzs := hb.size
    by_cases hlt : i < ks.length
    · obtain ⟨b, off, k, rfl, hc, hk⟩ := h' i hlt
      replace hc := cells_below hb _ _ hc
      have hq := HST.out k (List.mem_of_getElem? hk)
      have htn := takenN_le k hq
      have hle : t + takenN k ≤ st.length := by have := takenS_at hk; rw [HT.out, HEQ.out] at this; exact this
      have HT2 : Hid (takenS (ks.take (i + 1)) = t + takenN k) := Lib.hid (by rw [takenS_snoc hk, HT.out])
      have HA2 : Hid (thickP ks st = (stepThick k (st.drop t) || thickP (ks.drop (i + 1)) (st.drop (t + takenN k)))) := Lib.hid (by rw [HA.out, thickP_drop hk])
      have HB : Hid (takenB k = takenN k) := Lib.hid (takenB_of hq)
      clear hk HT HA
      have j1 : (0 : Int) ≤ (i : Int) := by omega
      have j2 : (i : Int) < (ks.length : Int) := by omega
      by_cases h45 : k = 4 ∨ k = 5
      · have ht2 : takenN k = 2 := by rcases h45 with rfl | rfl <;> rfl
        obtain ⟨b1, off1, x, hA1, hcx, hx⟩ := h t (by omega)
        obtain ⟨b2, off2, y, hA2, hcy, hy⟩ := h (t + 1) (by omega)
        subst hA1
        injection hA2 with hA2
        injection hA2 with hA2 hA3
        subst hA2 hA3
        replace hcx := cells_below hb _ _ hcx
        replace hcy := cells_below hb _ _ hcy
        have hxr := inR_iff.1 (HR.out x (List.mem_of_getElem? hx))
        have hyr := inR_iff.1 (HR.out y (List.mem_of_getElem? hy))
        have HS : Hid (stepThick k (st.drop t) = decide (4 < x + y)) := Lib.hid (by rw [stepThick, st0_drop hx, st1_drop hy, decide_eq_true h45, Bool.true_and])
        clear hx hy
        have j3 : (0 : Int) ≤ (t : Int) := by omega
        have j4 : (t : Int) < (st.length : Int) := by omega
        have j5 : (0 : Int) ≤ (t : Int) + 1 := by omega
        have j6 : (t : Int) + 1 < (st.length : Int) := by omega
        have j7 : ((t : Int) + 1).toNat = t + 1 := by omega
        have j8 : IntKind.i64.wrap ((t : Int) + 1) = (t : Int) + 1 := IntWalk.i64_in _ ⟨by omega, by omega⟩
        have hcy2 := hcy
        rw [← Nat.add_assoc] at hcy2
        rcases h45 with rfl | rfl
        · by_cases hxy : 4 < x + y
          · have hxy' : decide (4 < x + y) = true := decide_eq_true hxy
            go_wp2_with (fail)
            go_quiet (fail)
            go_wp2_with (fail)
            go_ret
            exact ⟨ret_bool (by rw [HA2.out, HS.out, decide_eq_true hxy]; rfl), below_drewN hb _⟩
          · have hxy' : decide (4 < x + y) = false := decide_eq_false hxy
            go_wp2_with (fail)
            go_quiet (fail)
            go_wp2_with (fail)
            refine (spec_ColumnsTaken _ _).mono ?_; rintro e w9 ⟨rfl, b9⟩
            have hb9 : Below w.heap.size w w9 := (below_drewN hb nq).trans (b9.mono hzs)
            rw [HB.out]
            go_wp2_with (fail)
            refine ⟨⟨i + 1, t + takenN _, by omega, by go_num, by push_cast; go_num, hb9, HT2, Lib.hid (by rw [HA2.out, HS.out, show decide (4 < x + y) = false from decide_eq_false (by omega), Bool.false_or])⟩, by simp [intOf]; omega⟩
        · have hd4 : ((5 : Int) == 4) = false := by decide
          by_cases hxy : 4 < x + y
          · have hxy' : decide (4 < x + y) = true := decide_eq_true hxy
            go_wp2_with (fail)
            go_quiet (fail)
            go_wp2_with (fail)
            go_ret
            exact ⟨ret_bool (by rw [HA2.out, HS.out, decide_eq_true hxy]; rfl), below_drewN hb _⟩
          · have hxy' : decide (4 < x + y) = false := decide_eq_false hxy
            go_wp2_with (fail)
            go_quiet (fail)
            go_wp2_with (fail)
            refine (spec_ColumnsTaken _ _).mono ?_; rintro e w9 ⟨rfl, b9⟩
            have hb9 : Below w.heap.size w w9 := (below_drewN hb nq).trans (b9.mono hzs)
            rw [HB.out]
            go_wp2_with (fail)
            refine ⟨⟨i + 1, t + takenN _, by omega, by go_num, by push_cast; go_num, hb9, HT2, Lib.hid (by rw [HA2.out, HS.out, show decide (4 < x + y) = false from decide_eq_false (by omega), Bool.false_or])⟩, by simp [intOf]; omega⟩
      · have hd4 : (k == 4) = false := by simpa using fun e => h45 (.inl e)
        have hd5 : (k == 5) = false := by simpa using fun e => h45 (.inr e)
        have HS : Hid (stepThick k (st.drop t) = false) := Lib.hid (by rw [stepThick, decide_eq_false h45, Bool.false_and])
        clear h45
        go_wp2_with (fail)
        go_quiet (fail)
        go_wp2_with (fail)
        refine (spec_ColumnsTaken _ _).mono ?_; rintro e w9 ⟨rfl, b9⟩
        have hb9 : Below w.heap.size w w9 := (below_drewN hb nq).trans (b9.mono hzs)
        rw [HB.out]
        go_wp2_with (fail)
        refine ⟨⟨i + 1, t + takenN k, by omega, by go_num, by push_cast; go_num, hb9, HT2, Lib.hid (by rw [HA2.out, HS.out, Bool.false_or])⟩, by simp [intOf]; omega⟩
    · go_wp2_with (fail)
      go_ret
      have he := HA.out
      rw [drop_all (by omega), thickP] at he
      exact ⟨ret_bool he.symm, hb⟩

end Go.Proofs.YtnjgmhdmjaijgaaGreatDoor

/- Slices of Float: how they are read and owned, and the helpers of the laws on them. -/
namespace Go.Proofs.YtnjgmhdmjaijgaaGreatDoor
open Go.RowKit

structure FloatD where
  row : Int
  carrier : Int
  start : Int
  stop : Int
instance : DecidableEq FloatD := fun a b => decidable_of_iff (a.row = b.row ∧ a.carrier = b.carrier ∧ a.start = b.start ∧ a.stop = b.stop) ⟨fun h => by cases a; cases b; simp_all, fun h => by simp [h]⟩
def cellsFloat : List FloatD → List Value
  | [] => []
  | p :: ps => .int .i64 p.row :: .int .i64 p.carrier :: .int .i64 p.start :: .int .i64 p.stop :: cellsFloat ps

theorem cellsFloat_length (ps : List FloatD) : (cellsFloat ps).length = ps.length * 4 := by
  induction ps with
  | nil => rfl
  | cons p ps ih => simp [cellsFloat, ih]; omega
theorem cellsFloat_snoc (ps : List FloatD) (p : FloatD) : cellsFloat (ps ++ [p]) = cellsFloat ps ++ [.int .i64 p.row, .int .i64 p.carrier, .int .i64 p.start, .int .i64 p.stop] := by
  induction ps with
  | nil => rfl
  | cons q ps ih => simp [cellsFloat, ih]
theorem cellsFloat_at {ps : List FloatD} {i : Nat} {p : FloatD} (h : ps[i]? = some p) : (cellsFloat ps)[i * 4]? = some (.int .i64 p.row) ∧ (cellsFloat ps)[i * 4 + 1]? = some (.int .i64 p.carrier) ∧ (cellsFloat ps)[i * 4 + 2]? = some (.int .i64 p.start) ∧ (cellsFloat ps)[i * 4 + 3]? = some (.int .i64 p.stop) := by
  induction ps generalizing i with
  | nil => simp at h
  | cons q ps ih =>
    cases i with
    | zero =>
      simp at h
      subst h
      simp [cellsFloat]
    | succ i =>
      have := ih (i := i) (by simpa using h)
      simp only [Nat.succ_mul, cellsFloat]
      simpa [Nat.add_right_comm] using this
def Floats (w : World) (A : Option Addr) (ps : List FloatD) : Prop :=
  ∀ k, k < ps.length → ∃ b off p, A = some ⟨b, off, none⟩ ∧ ps[k]? = some p ∧ w.cell? ⟨b, off + k * 4, none⟩ = some (.int .i64 p.row) ∧ w.cell? ⟨b, off + k * 4 + 1, none⟩ = some (.int .i64 p.carrier) ∧ w.cell? ⟨b, off + k * 4 + 2, none⟩ = some (.int .i64 p.start) ∧ w.cell? ⟨b, off + k * 4 + 3, none⟩ = some (.int .i64 p.stop)
theorem Floats.of_cells {w w' : World} {A : Option Addr} {ps : List FloatD} (h : Floats w A ps) (hk : ∀ a v, w.cell? a = some v → w'.cell? a = some v) : Floats w' A ps :=
  fun k hk' => by
    obtain ⟨b, off, p, hA, hp, h0, h1, h2, h3⟩ := h k hk'
    exact ⟨b, off, p, hA, hp, hk _ _ h0, hk _ _ h1, hk _ _ h2, hk _ _ h3⟩
theorem Floats.below {w w' : World} {A : Option Addr} {ps : List FloatD} (h : Floats w A ps) (hb : Below w.heap.size w w') : Floats w' A ps := h.of_cells (cells_below hb)
theorem Floats.drewN {w : World} {A : Option Addr} {ps : List FloatD} (h : Floats w A ps) (n : Nat) : Floats (w.drewN n) A ps := h
theorem Floats.nil {w : World} {A : Option Addr} : Floats w A [] := fun k hk => by simp at hk

def marksFloat (k : Int) (m : Nat) : List FloatD := (List.range m).map fun (i : Nat) => ⟨k + 4 * i, k + 4 * i + 1, k + 4 * i + 2, k + 4 * i + 3⟩
theorem marksFloat_length (k : Int) (m : Nat) : (marksFloat k m).length = m := by simp [marksFloat]
theorem marksFloat_snoc (k : Int) (m : Nat) : marksFloat k (m + 1) = marksFloat k m ++ [⟨k + 4 * m, k + 4 * m + 1, k + 4 * m + 2, k + 4 * m + 3⟩] := by simp [marksFloat, List.range_succ]
theorem marksFloat_at {k : Int} {m i : Nat} {p : FloatD} (h : (marksFloat k m)[i]? = some p) : p = ⟨k + 4 * i, k + 4 * i + 1, k + 4 * i + 2, k + 4 * i + 3⟩ := by
  simp only [marksFloat, List.getElem?_map, Option.map_eq_some_iff] at h
  obtain ⟨j, hj, rfl⟩ := h
  obtain ⟨hl, he⟩ := List.getElem?_eq_some_iff.1 hj
  simp at he
  subst he
  rfl


end Go.Proofs.YtnjgmhdmjaijgaaGreatDoor

/- Floats and letters: the plain functions. -/
namespace Go.Proofs.YtnjgmhdmjaijgaaGreatDoor
open Go.RowKit

def fStep (r c : Int) (s : List FloatD × Int) (k : Nat) (x : Int) : List FloatD × Int := if x = c then (if 0 ≤ s.2 ∧ s.2 + 1 < k then s.1 ++ [⟨r, c, s.2, k⟩] else s.1, k) else s
/-- The floats of one carrier in the first k columns of a row, and the last column of the carrier. -/
def fRow (r c : Int) (row : List Int) : Nat → List FloatD × Int
  | 0 => ([], -1)
  | k + 1 => fStep r c (fRow r c row k) k (row[k]?.getD 0)
def fCar (r : Int) (row : List Int) : Nat → List FloatD
  | 0 => []
  | j + 1 => fCar r row j ++ (fRow r ((j : Int) + 1) row row.length).1
def fAll (xss : List (List Int)) : Nat → List FloatD
  | 0 => []
  | i + 1 => fAll xss i ++ fCar i (xss[i]?.getD []) 4
def floatsP (n : Int) (xss : List (List Int)) : List FloatD := if coloursB n xss then fAll xss xss.length else []
def max64 (a b : Int) : Int := if b < a then a else b
def longOf (fs : List FloatD) : Int := fs.foldl (fun o f => max64 o (wrap64 (wrap64 (f.stop - f.start) - 1))) 0
def longP (n : Int) (xss : List (List Int)) : Int := longOf (floatsP n xss)
def colCode (n : Int) (xss : List (List Int)) : Int := if coloursB n xss then 0 else 1

theorem fRow_succ {r c : Int} {row : List Int} {k : Nat} {x : Int} (h : row[k]? = some x) : fRow r c row (k + 1) = fStep r c (fRow r c row k) k x := by
  rw [fRow, h]; rfl
theorem fRow_last (r c : Int) (row : List Int) (k : Nat) : -1 ≤ (fRow r c row k).2 ∧ (fRow r c row k).2 < k ∧ (fRow r c row k).1.length ≤ k := by
  induction k with
  | zero => simp [fRow]
  | succ k ih =>
    rw [fRow, fStep]
    split
    · split
      · simp; omega
      · simp; omega
    · refine ⟨ih.1, by omega, by omega⟩
theorem fCar_length (r : Int) (row : List Int) (j : Nat) : (fCar r row j).length ≤ j * row.length := by
  induction j with
  | zero => simp [fCar]
  | succ j ih =>
    have := (fRow_last r ((j : Int) + 1) row row.length).2.2
    rw [fCar, List.length_append, Nat.succ_mul]
    omega
theorem fAll_succ {xss : List (List Int)} {i : Nat} {row : List Int} (h : xss[i]? = some row) : fAll xss (i + 1) = fAll xss i ++ fCar i row 4 := by
  rw [fAll, h]; rfl
theorem fAll_length {xss : List (List Int)} (m : Nat) (h : ∀ row ∈ xss, row.length ≤ m) (i : Nat) : (fAll xss i).length ≤ i * (4 * m) := by
  induction i with
  | zero => simp [fAll]
  | succ i ih =>
    rw [fAll, List.length_append, Nat.succ_mul]
    have h1 := fCar_length (i : Int) (xss[i]?.getD []) 4
    have h2 : (xss[i]?.getD []).length ≤ m := by
      cases hx : xss[i]? with
      | none => simp
      | some row => exact h row (List.mem_of_getElem? hx)
    omega
theorem colours_row {n : Int} {xss : List (List Int)} (h : coloursB n xss = true) : 1 ≤ n ∧ n ≤ 8 ∧ 1 ≤ xss.length ∧ xss.length ≤ 8 ∧ ∀ row ∈ xss, (row.length : Int) = n := by
  unfold coloursB inR at h
  simp only [Bool.and_eq_true, List.all_eq_true, decide_eq_true_eq] at h
  obtain ⟨⟨h1, h2⟩, h3⟩ := h
  refine ⟨h1.1, h1.2, by omega, by omega, fun row hr => ?_⟩
  have := h3 row hr
  unfold rowOfB at this
  simp only [Bool.and_eq_true, decide_eq_true_eq] at this
  exact this.1
theorem fAll_small {n : Int} {xss : List (List Int)} (h : coloursB n xss = true) {i : Nat} (hi : i ≤ xss.length) : (fAll xss i).length ≤ 256 := by
  obtain ⟨_, h2, _, h4, h5⟩ := colours_row h
  have := fAll_length 8 (fun row hr => by have := h5 row hr; omega) i
  omega
theorem floatsP_length (n : Int) (xss : List (List Int)) : (floatsP n xss).length ≤ 256 := by
  unfold floatsP
  split
  · exact fAll_small (by assumption) (Nat.le_refl _)
  · simp

end Go.Proofs.YtnjgmhdmjaijgaaGreatDoor

/- Floats: l19Floats, l19All, floats, FloatsOf, LongestFloat. -/
namespace Go.Proofs.YtnjgmhdmjaijgaaGreatDoor
open Go.RowKit

theorem OwnC.news {w : World} {lo hi : Nat} {e : TypeId} {sz : Nat} {A : Option Addr} {n c : Nat} {cs : List Value} (h : OwnC w lo hi e sz A n c cs) : ∀ j u, cs[j]? = some u → ∃ b off, A = some ⟨b, off, none⟩ ∧ w.cell? ⟨b, off + j, none⟩ = some u := by
  intro j u hu
  obtain ⟨hj, rfl⟩ := List.getElem?_eq_some_iff.1 hu
  obtain ⟨g, rfl, _, _, h1, _⟩ := h.cell hj
  exact ⟨g, 0, rfl, by rw [Nat.zero_add]; exact h1⟩
theorem cellsFloat_one (ps : List FloatD) : ∀ u ∈ cellsFloat ps, u.oneCell' = true := by
  induction ps with
  | nil => simp [cellsFloat]
  | cons p ps ih =>
    intro u hu
    simp only [cellsFloat, List.mem_cons] at hu
    rcases hu with rfl | rfl | rfl | rfl | hu
    · rfl
    · rfl
    · rfl
    · rfl
    · exact ih u hu
theorem cellsFloat_append (a b : List FloatD) : cellsFloat (a ++ b) = cellsFloat a ++ cellsFloat b := by
  induction a with
  | nil => rfl
  | cons p a ih => simp [cellsFloat, ih]


end Go.Proofs.YtnjgmhdmjaijgaaGreatDoor

/- The hand knitter's questions: FirstOf, ColumnAt. -/
namespace Go.Proofs.YtnjgmhdmjaijgaaGreatDoor
open Go.RowKit

theorem Ints.take {w : World} {A : Option Addr} {xs : List Int} (h : Ints w A xs) (n : Nat) : Ints w A (xs.take n) := by
  intro k hk
  obtain ⟨b, off, x, hA, hc, hx⟩ := h k (by rw [List.length_take] at hk; omega)
  exact ⟨b, off, x, hA, hc, by rw [List.getElem?_take, if_pos (by rw [List.length_take] at hk; omega)]; exact hx⟩


end Go.Proofs.YtnjgmhdmjaijgaaGreatDoor

/- CountColours. -/
namespace Go.Proofs.YtnjgmhdmjaijgaaGreatDoor
open Go.RowKit

theorem zeros4 : (madeCells (Value.int .i64 0).cells (4 * 1)).toList = ([0, 0, 0, 0] : List Int).map (Value.int .i64) := by simp [madeCells, Value.cells]; rfl
def bump (cs : List Int) (x : Int) : List Int := cs.set (x - 1).toNat (wrap64 (cs[(x - 1).toNat]?.getD 0 + 1))
def bumpRow (cs row : List Int) : List Int := row.foldl bump cs
def countRows (xss : List (List Int)) : List Int := xss.foldl bumpRow [0, 0, 0, 0]
def countColours (n : Int) (xss : List (List Int)) : List Int := if coloursB n xss then countRows xss else []
theorem bumpRow_length (cs row : List Int) : (bumpRow cs row).length = cs.length := by
  unfold bumpRow
  induction row generalizing cs with
  | nil => rfl
  | cons x r ih => rw [List.foldl_cons, ih]; simp [bump]
theorem countRows_length (xss : List (List Int)) : (countRows xss).length = 4 := by
  unfold countRows
  suffices h : ∀ cs : List Int, (xss.foldl bumpRow cs).length = cs.length by rw [h]; rfl
  induction xss with
  | nil => intro cs; rfl
  | cons x r ih => intro cs; rw [List.foldl_cons, ih, bumpRow_length]
theorem countColours_length (n : Int) (xss : List (List Int)) : (countColours n xss).length ≤ 4 := by
  unfold countColours
  split
  · rw [countRows_length]; omega
  · simp
theorem bump_at {cs : List Int} {i : Nat} {v : Int} (h : cs[i]? = some v) : bump cs ((i : Int) + 1) = cs.set i (wrap64 (v + 1)) := by
  have : ((i : Int) + 1 - 1).toNat = i := by omega
  unfold bump
  rw [this, h]
  rfl
theorem colour_at {n : Int} {xss : List (List Int)} (h : coloursB n xss = true) {k j : Nat} {row : List Int} {x : Int} (hr : xss[k]? = some row) (hx : row[j]? = some x) : ∃ i : Nat, i < 4 ∧ x = (i : Int) + 1 := by
  unfold coloursB at h
  simp only [Bool.and_eq_true, List.all_eq_true] at h
  have h1 := h.2 row (List.mem_of_getElem? hr)
  unfold rowOfB at h1
  simp only [Bool.and_eq_true, List.all_eq_true] at h1
  have h2 := h1.2 x (List.mem_of_getElem? hx)
  unfold carrierB inR at h2
  simp at h2
  exact ⟨(x - 1).toNat, by omega, by omega⟩
theorem bumpRow_snoc {cs row : List Int} {j : Nat} {x : Int} (hx : row[j]? = some x) : bumpRow cs (row.take (j + 1)) = bump (bumpRow cs (row.take j)) x := by
  unfold bumpRow
  rw [take_snoc hx, List.foldl_append]
  rfl
theorem countRows_snoc {xss : List (List Int)} {j : Nat} {x : List Int} (hx : xss[j]? = some x) : countRows (xss.take (j + 1)) = bumpRow (countRows (xss.take j)) x := by
  unfold countRows
  rw [take_snoc hx, List.foldl_append]
  rfl


end Go.Proofs.YtnjgmhdmjaijgaaGreatDoor

/- ValidPieces. -/
namespace Go.Proofs.YtnjgmhdmjaijgaaGreatDoor
open Go.RowKit

def plainP (p : PieceD) : Bool := isStitchB p.kind && inR p.times 1 16 && decide (p.len = 0)
def groupP (d : Nat) (p : PieceD) (m : Nat) : Bool := inR p.times 0 16 && !(decide (p.times = 0) && decide (0 < d)) && inR p.len 1 m
def rangeP (d : Nat) : List PieceD → Option Nat
  | [] => some 0
  | p :: r =>
    if p.kind = 12 then
      if d < 3 ∧ groupP d p r.length = true then
        match rangeP (d + 1) (r.take p.len.toNat) with
        | none => none
        | some _ => (rangeP d (r.drop p.len.toNat)).map (fun o => (if p.times = 0 then 1 else 0) + o)
      else none
    else if plainP p then rangeP d r else none
termination_by l => l.length
decreasing_by all_goals (simp; try omega)
def okP : Option Nat → Bool
  | none => false
  | some o => decide (o ≤ 1)
def piecesB (ps : List PieceD) : Bool := decide (ps.length ≤ 24) && okP (rangeP 0 ps)
def segP (ps : List PieceD) (a b : Nat) : List PieceD := (ps.drop a).take (b - a)
theorem segP_nil (ps : List PieceD) (a : Nat) : segP ps a a = [] := by simp [segP]
theorem segP_all (ps : List PieceD) : segP ps 0 ps.length = ps := by simp [segP]
theorem segP_length {ps : List PieceD} {a b : Nat} (h : b ≤ ps.length) : (segP ps a b).length = b - a := by simp [segP]; omega
theorem segP_cons {ps : List PieceD} {a b : Nat} {p : PieceD} (hp : ps[a]? = some p) (h : a < b) : segP ps a b = p :: segP ps (a + 1) b := by
  unfold segP
  have ha : a < ps.length := by
    by_cases hlt : a < ps.length
    · exact hlt
    · rw [List.getElem?_eq_none (by omega)] at hp; cases hp
  rw [List.drop_eq_getElem_cons ha, show b - a = (b - (a + 1)) + 1 by omega, List.take_succ_cons]
  congr 1
  rw [List.getElem?_eq_getElem ha] at hp
  injection hp
theorem segP_take {ps : List PieceD} {a b n : Nat} (h : a + n ≤ b) : (segP ps a b).take n = segP ps a (a + n) := by
  unfold segP
  rw [List.take_take]
  congr 1
  omega
theorem segP_drop {ps : List PieceD} {a b n : Nat} : (segP ps a b).drop n = segP ps (a + n) b := by
  unfold segP
  rw [List.drop_take, List.drop_drop]
  congr 1
  omega
theorem rangeP_nil (d : Nat) : rangeP d [] = some 0 := by rw [rangeP]
theorem rangeP_plain {d : Nat} {p : PieceD} {r : List PieceD} (h : p.kind ≠ 12) (hp : plainP p = true) : rangeP d (p :: r) = rangeP d r := by rw [rangeP, if_neg h, if_pos hp]
theorem rangeP_bad {d : Nat} {p : PieceD} {r : List PieceD} (h : p.kind ≠ 12) (hp : plainP p = false) : rangeP d (p :: r) = none := by rw [rangeP, if_neg h, if_neg (by simp [hp])]
theorem rangeP_group {d : Nat} {p : PieceD} {r : List PieceD} (h : p.kind = 12) (hd : ¬ (d < 3 ∧ groupP d p r.length = true)) : rangeP d (p :: r) = none := by rw [rangeP, if_pos h, if_neg hd]
theorem rangeP_inner {d : Nat} {p : PieceD} {r : List PieceD} (h : p.kind = 12) (hi : rangeP (d + 1) (r.take p.len.toNat) = none) : rangeP d (p :: r) = none := by
  rw [rangeP, if_pos h]
  split
  · rw [hi]
  · rfl
theorem rangeP_open {d : Nat} {p : PieceD} {r : List PieceD} (h : p.kind = 12) (hd : d < 3) (hg : groupP d p r.length = true) (hi : (rangeP (d + 1) (r.take p.len.toNat)).isSome = true) : rangeP d (p :: r) = (rangeP d (r.drop p.len.toNat)).map (fun o => (if p.times = 0 then 1 else 0) + o) := by
  rw [rangeP, if_pos h, if_pos ⟨hd, hg⟩]
  split
  · rename_i e; rw [e] at hi; cases hi
  · rfl
theorem rangeP_zero (n d : Nat) (hd : 0 < d) : ∀ l : List PieceD, l.length ≤ n → ∀ o, rangeP d l = some o → o = 0 := by
  induction n with
  | zero =>
    intro l hl o h
    have : l = [] := by cases l <;> simp_all
    subst this
    rw [rangeP_nil] at h
    injection h with h
    exact h.symm
  | succ n ih =>
    intro l hl o h
    cases l with
    | nil => rw [rangeP_nil] at h; injection h with h; exact h.symm
    | cons p r =>
      simp at hl
      rw [rangeP] at h
      split at h
      · split at h
        · rename_i hg
          split at h
          · cases h
          · rw [Option.map_eq_some_iff] at h
            obtain ⟨o', ho', e⟩ := h
            have := ih _ (by simp; omega) o' ho'
            have ht : p.times ≠ 0 := by
              intro ht
              have := hg.2
              simp [groupP, ht, hd] at this
            rw [if_neg ht] at e
            omega
        · cases h
      · split at h
        · exact ih r hl o h
        · cases h
def openOf : Option Nat → Int
  | none => 0
  | some o => o


end Go.Proofs.YtnjgmhdmjaijgaaGreatDoor

/- ValidPieces, the program's side. -/
namespace Go.Proofs.YtnjgmhdmjaijgaaGreatDoor
open Go.RowKit

theorem Pieces.seg {w : World} {ps : List PieceD} {b off : Nat} (h : Pieces w (some ⟨b, off, none⟩) ps) {i j : Nat} (hj : j ≤ ps.length) : Pieces w (some ⟨b, off + i * 3, none⟩) (segP ps i j) := by
  intro k hk
  rw [segP_length hj] at hk
  obtain ⟨b', off', p, hA, hp, c0, c1, c2⟩ := h (i + k) (by omega)
  injection hA with hA
  injection hA with hb ho
  subst hb ho
  refine ⟨b, off + i * 3, p, rfl, ?_, ?_, ?_, ?_⟩
  · unfold segP
    rw [List.getElem?_take_of_lt hk, List.getElem?_drop]
    exact hp
  · rw [show off + i * 3 + k * 3 = off + (i + k) * 3 by omega]; exact c0
  · rw [show off + i * 3 + k * 3 + 1 = off + (i + k) * 3 + 1 by omega]; exact c1
  · rw [show off + i * 3 + k * 3 + 2 = off + (i + k) * 3 + 2 by omega]; exact c2
theorem Blk.set1 {w : World} {g : Nat} {t : TypeId} {a : Value} (h : Blk w g t #[a]) (u : Value) : Blk (w.setCell ⟨g, 0, none⟩ u) g t #[u] := by
  unfold Blk at h ⊢
  simp [World.setCell, Array.getElem?_modify, h]


end Go.Proofs.YtnjgmhdmjaijgaaGreatDoor

/- ValidPieces, the program's function. -/
namespace Go.Proofs.YtnjgmhdmjaijgaaGreatDoor
open Go.RowKit

theorem OwnC.capmax {w : World} {lo hi : Nat} {e : TypeId} {sz : Nat} {A : Option Addr} {n c : Nat} {cs : List Value} (h : OwnC w lo hi e sz A n c cs) : c ≤ 9223372036854775807 := by
  rcases h.form with ⟨_, _, h1, _⟩ | ⟨_, _, _, _, _, _, _, h1, _⟩
  · omega
  · unfold maxLen at h1; omega


end Go.Proofs.YtnjgmhdmjaijgaaGreatDoor

/- StacksAfter. -/
namespace Go.Proofs.YtnjgmhdmjaijgaaGreatDoor
open Go.RowKit

theorem ints_one (xs : List Int) : ∀ u ∈ xs.map (Value.int .i64), u.oneCell' = true := by
  intro u hu
  simp only [List.mem_map] at hu
  obtain ⟨x, _, rfl⟩ := hu
  rfl
theorem OwnC.nilc {w : World} {lo hi : Nat} {e : TypeId} {sz : Nat} {A : Option Addr} {n c : Nat} {cs : List Value} (h : OwnC w lo hi e sz A n c cs) : (A = none ∧ c = 0) ∨ ∃ b off, A = some ⟨b, off, none⟩ := by
  rcases h.form with ⟨h1, _, h2, _⟩ | ⟨g, _, h1, _⟩
  · exact .inl ⟨h1, h2⟩
  · exact .inr ⟨g, 0, h1⟩
theorem step_take {k : Int} (hk : isStitchB k = true) (st : List Int) : stepMade k (st.take (takenN k)) = stepMade k st ∧ stepOk k (st.take (takenN k)) = stepOk k st := by
  rcases stitch_cases hk with rfl | rfl | rfl | rfl | rfl | rfl | rfl | rfl | rfl | rfl | rfl
  all_goals (simp [stepMade, stepOk, takenN, st0, st1]; try (first | rfl | (apply Bool.eq_iff_iff.2; simp)))
theorem stepMade_length {k : Int} (hk : isStitchB k = true) (st : List Int) : (stepMade k st).length ≤ 4 := by
  have := takenN_le k hk
  unfold stepMade
  split
  · simp
  · split
    · simp
    · simp; omega
theorem Ints.drop {w : World} {b off : Nat} {xs : List Int} (h : Ints w (some ⟨b, off, none⟩) xs) (t : Nat) : Ints w (some ⟨b, off + t, none⟩) (xs.drop t) := by
  intro k hk
  rw [List.length_drop] at hk
  obtain ⟨b', off', x, hA, hc, hx⟩ := h (t + k) (by omega)
  injection hA with hA
  injection hA with h1 h2
  subst h1 h2
  exact ⟨b, off + t, x, rfl, by rw [Nat.add_assoc]; exact hc, by rw [List.getElem?_drop]; exact hx⟩

set_option maxHeartbeats 1000000 in
theorem spec_StacksAfter (st ks : List Int) (A : Option Addr) (c : Nat) (B : Option Addr) (d : Nat) (w : World) (h : Ints w A st) (hl : st.length ≤ 9223372036854775807) (h' : Ints w B ks) (hl' : ks.length ≤ 9223372036854775807) :
    Calls Tryz.prog 86 #[.slice A st.length c, .slice B ks.length d] w fun e w' => ∃ A' c', e = .returned (.tuple #[.slice A' (stacksAfterP st ks).1.length c', .int .i64 (stacksAfterP st ks).2]) ∧ OwnI w' w.heap.size w'.heap.size A' c' (stacksAfterP st ks).1 ∧ Below w.heap.size w w' := by
  by_cases h1 : stacksB st = true
  · by_cases h2 : stitchesB ks = true
    · have HP : Hid (takenP ks = takenS ks) := Lib.hid (by rw [takenP, if_pos h2])
      by_cases h3 : takenS ks = st.length
      · have HF := Lib.hid (stacksAfterP_spec h1 h2 h3)
        have H1 := Lib.hid h1
        have H2 := Lib.hid h2
        have H3 := Lib.hid h3
        have h3' : ((takenS ks : Int) != (st.length : Int)) = false := by simp [h3]
        have hal := afterP_length_le (stitchesB_of h2).2 st
        have hkl := (stitchesB_of h2).1
        clear h3
        go_enter Tryz.func86, Tryz.ntmps86
        go_wp2_with (fail)
        refine (spec_l14Stacks _ _ _ _ h hl).mono ?_; rintro e _ ⟨rfl, rfl⟩
        go_wp2_with (fail)
        refine (spec_l14Ok _ _ _ _ h' hl').mono ?_; rintro e _ ⟨rfl, rfl⟩
        go_wp2_with (fail)
        refine (spec_TakenBy _ _ _ _ h' hl').mono ?_; rintro e w2 ⟨rfl, b2⟩
        rw [HP.out]
        go_wp2_with (fail)
        refine (spec_l14After A B _ _ st ks _ (h.below b2) (h'.below b2) H1.out H2.out H3.out).mono ?_; rintro e w3 ⟨A3, c3, rfl, o3, b3⟩
        have hb3 : Below w.heap.size w w3 := b2.trans (b3.mono b2.size)
        have hz3 := b3.size
        go_wp2_with (fail)
        refine (spec_l14Stacks _ _ _ _ o3.ints (by omega)).mono ?_; rintro e _ ⟨rfl, rfl⟩
        cases ha : stacksB (afterP ks st)
        · go_wp2_with (fail)
          go_ret2
          rw [HF.out, ha]
          exact ⟨_, _, rfl, OwnC.nil _ _ _ _ _, hb3⟩
        · go_wp2_with (fail)
          refine (spec_l14Thick A B _ _ st ks _ (h.below hb3) (h'.below hb3) H1.out H2.out H3.out).mono ?_; rintro e w4 ⟨rfl, b4⟩
          have hb4 : Below w.heap.size w w4 := hb3.trans (b4.mono hb3.size)
          have o4 := o3.below b4 (Nat.le_refl _)
          have hz4 := b4.size
          have hz2 := b2.size
          cases hb : thickP ks st
          · go_wp2_with (fail)
            go_ret2
            rw [HF.out, ha, hb]
            exact ⟨_, _, rfl, o4.mono hz2 hz4, hb4⟩
          · go_wp2_with (fail)
            go_ret2
            rw [HF.out, ha, hb]
            exact ⟨_, _, rfl, OwnC.nil _ _ _ _ _, hb4⟩
      · have HF : Hid (stacksAfterP st ks = ([], 10)) := Lib.hid (by simp [stacksAfterP, h1, h2, h3])
        have h3' : ((takenS ks : Int) != (st.length : Int)) = true := by simp; omega
        clear h3
        go_enter Tryz.func86, Tryz.ntmps86
        go_wp2_with (fail)
        refine (spec_l14Stacks _ _ _ _ h hl).mono ?_; rintro e _ ⟨rfl, rfl⟩
        go_wp2_with (fail)
        refine (spec_l14Ok _ _ _ _ h' hl').mono ?_; rintro e _ ⟨rfl, rfl⟩
        go_wp2_with (fail)
        refine (spec_TakenBy _ _ _ _ h' hl').mono ?_; rintro e w2 ⟨rfl, b2⟩
        rw [HP.out]
        go_wp2_with (fail)
        go_ret2
        rw [HF.out]
        exact ⟨_, _, rfl, OwnC.nil _ _ _ _ _, b2⟩
    · have h2' : stitchesB ks = false := by simpa using h2
      have HF : Hid (stacksAfterP st ks = ([], 1)) := Lib.hid (by rw [stacksAfterP, h2', Bool.and_false]; rfl)
      clear h2
      go_enter Tryz.func86, Tryz.ntmps86
      go_wp2_with (fail)
      refine (spec_l14Stacks _ _ _ _ h hl).mono ?_; rintro e _ ⟨rfl, rfl⟩
      go_wp2_with (fail)
      refine (spec_l14Ok _ _ _ _ h' hl').mono ?_; rintro e _ ⟨rfl, rfl⟩
      go_wp2_with (fail)
      go_ret2
      rw [HF.out]
      exact ⟨_, _, rfl, OwnC.nil _ _ _ _ _, Below.refl _ _⟩
  · have h1' : stacksB st = false := by simpa using h1
    have HF : Hid (stacksAfterP st ks = ([], 1)) := Lib.hid (by rw [stacksAfterP, h1', Bool.false_and]; rfl)
    clear h1
    go_enter Tryz.func86, Tryz.ntmps86
    go_wp2_with (fail)
    refine (spec_l14Stacks _ _ _ _ h hl).mono ?_; rintro e _ ⟨rfl, rfl⟩
    go_wp2_with (fail)
    go_ret2
    rw [HF.out]
    exact ⟨_, _, rfl, OwnC.nil _ _ _ _ _, Below.refl _ _⟩

set_option maxHeartbeats 4000000 in
set_option maxRecDepth 10000 in
theorem impl_StacksAfter_some (st ks : List Int) (b0 off0 c : Nat) (B : Option Addr) (d : Nat) (w : World) (h : Ints w (some ⟨b0, off0, none⟩) st) (hc0 : st.length ≤ c) (hcm : c ≤ 9223372036854775807) (h' : Ints w B ks) (hl' : ks.length ≤ 9223372036854775807) (h1 : stacksB st = true) (h2 : stitchesB ks = true) (h3 : takenS ks = st.length) :
    Calls Tryz.prog 62 #[.slice (some ⟨b0, off0, none⟩) st.length c, .slice B ks.length d] w fun e w' => ∃ A' c', e = .returned (.tuple #[.slice A' (stacksAfterP st ks).1.length c', .int .i64 (stacksAfterP st ks).2]) ∧ OwnI w' w.heap.size w'.heap.size A' c' (stacksAfterP st ks).1 ∧ Below w.heap.size w w' := by
  obtain ⟨i0, hi0, hz0, hz1, hz2⟩ := info_parts info_int64
  have HF : Hid (stacksAfterP st ks = if okAfter ks st && decide ((afterP ks st).length ≤ 8) then (afterP ks st, 0) else ([], 5)) := Lib.hid (by rw [stacksAfterP, h1, h2]; simp [h3])
  obtain ⟨hl16, hst⟩ := stitchesB_of h2
  obtain ⟨hl8, hr⟩ := stacksB_of h1
  have HST := Lib.hid hst; clear hst
  have HR := Lib.hid hr; clear hr
  have HEQ := Lib.hid h3
  have h3' : ((takenS ks : Int) != (st.length : Int)) = false := by simp [h3]
  have H2 := Lib.hid h2
  clear h3
  go_enter Tryz.func62, Tryz.ntmps62
  go_wp2_with (fail)
  refine (impl_areStacks _ _ _ _ h (by omega)).mono ?_; rintro e _ ⟨rfl, rfl⟩
  go_wp2_with (fail)
  refine (impl_areStitches _ _ _ _ h' hl').mono ?_; rintro e _ ⟨rfl, rfl⟩
  go_wp2_with (fail)
  refine (impl_takenBy _ _ _ _ h' H2.out).mono ?_; rintro e _ ⟨rfl, rfl⟩
  go_wp2_with (fail)
  go_loopw [6, 7, 30] (fun ov rv iv wr => ∃ (i t o lr cr : Nat) (A' : Option Addr) (c' : Nat) (out : List Int), i ≤ ks.length ∧ iv = .int .i64 i ∧ rv = .slice (some ⟨b0, o, none⟩) lr cr ∧ st.length = t + lr ∧ c = t + cr ∧ (0 < lr → o = off0 + t) ∧ ov = .slice A' out.length c' ∧ OwnI wr w.heap.size wr.heap.size A' c' out ∧ Below w.heap.size w wr ∧ Hid (takenS (ks.take i) = t) ∧ Hid (afterP ks st = out ++ afterP (ks.drop i) (st.drop t)) ∧ Hid (okAfter ks st = okAfter (ks.drop i) (st.drop t)) ∧ out.length ≤ 4 * i) (fun _ _ iv _ => ks.length - (intOf iv).toNat)
  case atStart =>
    exact ⟨0, 0, off0, st.length, c, some ⟨w.heap.size, 0, none⟩, 0, [], Nat.zero_le _, rfl, rfl, by omega, by omega, fun _ => rfl, rfl, (OwnC.lit _ 1 #[] (Nat.le_refl _) (Nat.zero_le _) rfl).mono (Nat.le_refl _) (by simp), by (repeat (first | exact Below.refl _ _ | assumption | apply Below.drew | apply below_drewN | (refine Below.alloc ?_ (by first | omega | (simp; done) | (simp; omega)) _) | (refine Below.setCell ?_ (by first | omega | (simp; done) | (simp; omega)) _))), Lib.hid rfl, Lib.hid (by simp), Lib.hid (by simp), by simp⟩
  case round =>
    obtain ⟨i, t, o, lr, cr, A', c', out, hi, rfl, rfl, hlr, hcr, hor, rfl, ho, hb, HT, HA, HO, hol⟩ := hrel
    have hzs := hb.size
    by_cases hlt : i < ks.length
    · obtain ⟨b, off, k, rfl, hc, hk⟩ := h' i hlt
      replace hc := cells_below hb _ _ hc
      have hq := HST.out k (List.mem_of_getElem? hk)
      have hle : t + takenN k ≤ st.length := by have := takenS_at hk; rw [HT.out, HEQ.out] at this; exact this
      have HT2 : Hid (takenS (ks.take (i + 1)) = t + takenN k) := Lib.hid (by rw [takenS_snoc hk, HT.out])
      have HA2 : Hid (afterP ks st = (out ++ stepMade k (st.drop t)) ++ afterP (ks.drop (i + 1)) (st.drop (t + takenN k))) := Lib.hid (by rw [HA.out, afterP_drop hk, List.append_assoc])
      have HO2 : Hid (okAfter ks st = (stepOk k (st.drop t) && okAfter (ks.drop (i + 1)) (st.drop (t + takenN k)))) := Lib.hid (by rw [HO.out, okAfter_drop hk])
      have HB : Hid (takenB k = takenN k) := Lib.hid (takenB_of hq)
      have hml := stepMade_length hq (st.drop t)
      have hpart : Ints w (some ⟨b0, o, none⟩) ((st.drop t).take (takenN k)) := by
        by_cases h0 : 0 < lr
        · rw [hor h0]; exact Ints.take (h.drop t) _
        · have : (st.drop t).take (takenN k) = [] := by rw [drop_all (by omega)]; simp
          rw [this]; exact Ints.nil
      have hpl : ((st.drop t).take (takenN k)).length = takenN k := by rw [List.length_take, List.length_drop]; omega
      have hcon : ∀ W, Below w.heap.size w W → Calls Tryz.prog 94 #[.int .i64 k, .slice (some ⟨b0, o, none⟩) (takenN k) cr] W fun e w' => ∃ A' c', e = .returned (.tuple #[.slice A' (stepMade k (st.drop t)).length c', .bool (stepOk k (st.drop t))]) ∧ OwnI w' W.heap.size w'.heap.size A' c' (stepMade k (st.drop t)) ∧ Below W.heap.size W w' := fun W hW => by
        have := impl_madeStacks k (some ⟨b0, o, none⟩) ((st.drop t).take (takenN k)) cr W (hpart.below hW) hq hpl fun x hx => HR.out x (List.mem_of_mem_drop (List.mem_of_mem_take hx))
        rw [(step_take hq (st.drop t)).1, (step_take hq (st.drop t)).2, hpl] at this
        exact this
      have HC := Lib.hid hcon
      clear hk HT HA HO hcon hpart hpl
      have hn1 : takenN k ≤ lr := by omega
      have hn2 : takenN k ≤ cr := by omega
      have hn3 : lr ≤ cr := by omega
      have hn4 : cr ≤ 9223372036854775807 := by omega
      have HLR := Lib.hid hlr; clear hlr
      have HCR := Lib.hid hcr; clear hcr
      go_wp2_with (fail)
      refine (impl_ColumnsTaken _ _).mono ?_; rintro e _ ⟨rfl, rfl⟩
      rw [HB.out]
      go_wp2_with (fail)
      refine (HC.out _ hb).mono ?_; rintro e w2 ⟨A2, c2, rfl, o2, b2⟩
      have hb2 : Below w.heap.size w w2 := hb.trans (b2.mono hzs)
      have hz2' := b2.size
      have ho2 := ho.below b2 (Nat.le_refl _)
      cases hok : stepOk k (st.drop t)
      · go_wp2_with (fail)
        go_ret2
        rw [HF.out, HO2.out, hok]
        exact ⟨_, _, rfl, OwnC.nil _ _ _ _ _, hb2⟩
      · have HM : Hid (out ++ stepMade k (st.drop t) = out ++ stepMade k (st.drop t)) := Lib.hid rfl
        generalize stepMade k (st.drop t) = ms at o2 hml HA2 HM
        by_cases hcn : cr = takenN k
        · have hcn' : cr ≤ takenN k := by omega
          clear hcn
          go_wp2_with (at_builtin; refine wpList_appendC w2 rfl (.tmp 46) (.tmp 47) _ rfl 2 i0 _ 1 8 Tryz.underlying34 hi0 hz0 hz1 hz2 rfl (by decide) rfl ho2 (by omega) A2 ms.length c2 (ms.map (Value.int .i64)) rfl (by simp) o2.news (ints_one _) (by unfold maxLen; omega) (by omega) ?_; intro A5 c5 w5 ho5 hg5 hb5)
          go_roundw
          case rel => exact ⟨i + 1, t + takenN k, o, lr - takenN k, cr - takenN k, A5, c5, out ++ ms, by omega, by go_num, by first | rfl | (simp; done) | (simp; omega), by have := HLR.out; omega, by have := HCR.out; omega, fun h0 => by omega, by rw [List.length_append], by show OwnC _ _ _ _ _ _ _ _ _; rw [List.map_append, List.length_append]; exact ho5, hb2.trans hb5, HT2, HA2, Lib.hid (by rw [HO2.out, hok, Bool.true_and]), by simp; omega⟩
          case measure => simp [intOf]; omega
        · go_wp2_with (at_builtin; refine wpList_appendC w2 rfl (.tmp 46) (.tmp 47) _ rfl 2 i0 _ 1 8 Tryz.underlying34 hi0 hz0 hz1 hz2 rfl (by decide) rfl ho2 (by omega) A2 ms.length c2 (ms.map (Value.int .i64)) rfl (by simp) o2.news (ints_one _) (by unfold maxLen; omega) (by omega) ?_; intro A5 c5 w5 ho5 hg5 hb5)
          go_roundw
          case rel => exact ⟨i + 1, t + takenN k, o + takenN k, lr - takenN k, cr - takenN k, A5, c5, out ++ ms, by omega, by go_num, by first | rfl | (simp; done) | (simp; omega), by have := HLR.out; omega, by have := HCR.out; omega, fun h0 => by have := hor (by omega); omega, by rw [List.length_append], by show OwnC _ _ _ _ _ _ _ _ _; rw [List.map_append, List.length_append]; exact ho5, hb2.trans hb5, HT2, HA2, Lib.hid (by rw [HO2.out, hok, Bool.true_and]), by simp; omega⟩
          case measure => simp [intOf]; omega
    · have he := HA.out
      rw [drop_all (by omega), afterP, List.append_nil] at he
      have hok := HO.out
      rw [drop_all (by omega), okAfter] at hok
      by_cases h8 : out.length ≤ 8
      · go_wp2_with (fail)
        go_ret2
        rw [HF.out, hok, he, decide_eq_true h8]
        exact ⟨_, _, rfl, ho, hb⟩
      · go_wp2_with (fail)
        go_ret2
        rw [HF.out, hok, he, decide_eq_false h8]
        exact ⟨_, _, rfl, OwnC.nil _ _ _ _ _, hb⟩

set_option maxHeartbeats 2000000 in
set_option maxRecDepth 10000 in
theorem impl_StacksAfter_nil (ks : List Int) (B : Option Addr) (d : Nat) (w : World) (h' : Ints w B ks) (hl' : ks.length ≤ 9223372036854775807) (h2 : stitchesB ks = true) (h3 : takenS ks = 0) :
    Calls Tryz.prog 62 #[.slice none 0 0, .slice B ks.length d] w fun e w' => ∃ A' c', e = .returned (.tuple #[.slice A' (stacksAfterP [] ks).1.length c', .int .i64 (stacksAfterP [] ks).2]) ∧ OwnI w' w.heap.size w'.heap.size A' c' (stacksAfterP [] ks).1 ∧ Below w.heap.size w w' := by
  obtain ⟨i0, hi0, hz0, hz1, hz2⟩ := info_parts info_int64
  have h1 : stacksB [] = true := rfl
  have HF : Hid (stacksAfterP [] ks = if okAfter ks [] && decide ((afterP ks []).length ≤ 8) then (afterP ks [], 0) else ([], 5)) := Lib.hid (by simp [stacksAfterP, h1, h2, h3])
  obtain ⟨hl16, hst⟩ := stitchesB_of h2
  have HST := Lib.hid hst; clear hst
  have HEQ := Lib.hid h3
  have h3' : ((takenS ks : Int) != 0) = false := by simp [h3]
  have H2 := Lib.hid h2
  have h0 := impl_areStacks none 0 [] w Ints.nil (Nat.zero_le _)
  have H0 := Lib.hid h0; clear h0
  clear h3
  go_enter Tryz.func62, Tryz.ntmps62
  go_wp2_with (fail)
  refine H0.out.mono ?_; rintro e _ ⟨rfl, rfl⟩
  go_wp2_with (fail)
  refine (impl_areStitches _ _ _ _ h' hl').mono ?_; rintro e _ ⟨rfl, rfl⟩
  go_wp2_with (fail)
  refine (impl_takenBy _ _ _ _ h' H2.out).mono ?_; rintro e _ ⟨rfl, rfl⟩
  go_wp2_with (fail)
  go_loopw [6, 7, 30] (fun ov rv iv wr => ∃ (i : Nat) (A' : Option Addr) (c' : Nat) (out : List Int), i ≤ ks.length ∧ iv = .int .i64 i ∧ rv = .slice none 0 0 ∧ ov = .slice A' out.length c' ∧ OwnI wr w.heap.size wr.heap.size A' c' out ∧ Below w.heap.size w wr ∧ Hid (takenS (ks.take i) = 0) ∧ Hid (afterP ks [] = out ++ afterP (ks.drop i) []) ∧ Hid (okAfter ks [] = okAfter (ks.drop i) []) ∧ out.length ≤ 4 * i) (fun _ _ iv _ => ks.length - (intOf iv).toNat)
  case atStart =>
    exact ⟨0, some ⟨w.heap.size, 0, none⟩, 0, [], Nat.zero_le _, rfl, rfl, rfl, (OwnC.lit _ 1 #[] (Nat.le_refl _) (Nat.zero_le _) rfl).mono (Nat.le_refl _) (by simp), by (repeat (first | exact Below.refl _ _ | assumption | apply Below.drew | apply below_drewN | (refine Below.alloc ?_ (by first | omega | (simp; done) | (simp; omega)) _) | (refine Below.setCell ?_ (by first | omega | (simp; done) | (simp; omega)) _))), Lib.hid rfl, Lib.hid (by simp), Lib.hid (by simp), by simp⟩
  case round =>
    obtain ⟨i, A', c', out, hi, rfl, rfl, rfl, ho, hb, HT, HA, HO, hol⟩ := hrel
    have hzs := hb.size
    by_cases hlt : i < ks.length
    · obtain ⟨b, off, k, rfl, hc, hk⟩ := h' i hlt
      replace hc := cells_below hb _ _ hc
      have hq := HST.out k (List.mem_of_getElem? hk)
      have hle : takenN k = 0 := by have := takenS_at hk; rw [HT.out, HEQ.out] at this; omega
      have hk3 : k = 3 := by
        rcases stitch_cases hq with rfl | rfl | rfl | rfl | rfl | rfl | rfl | rfl | rfl | rfl | rfl <;> first | rfl | (exact absurd hle (by decide))
      subst hk3
      have HT2 : Hid (takenS (ks.take (i + 1)) = 0) := Lib.hid (by rw [takenS_snoc hk, HT.out]; rfl)
      have HA2 : Hid (afterP ks [] = (out ++ [1]) ++ afterP (ks.drop (i + 1)) []) := Lib.hid (by rw [HA.out, drop_cons hk, afterP, List.append_assoc]; rfl)
      have HO2 : Hid (okAfter ks [] = okAfter (ks.drop (i + 1)) []) := Lib.hid (by rw [HO.out, drop_cons hk, okAfter]; rfl)
      have HB : Hid (takenB 3 = 0) := Lib.hid rfl
      clear hk HT HA HO hle
      go_wp2_with (fail)
      refine (impl_ColumnsTaken _ _).mono ?_; rintro e _ ⟨rfl, rfl⟩
      rw [HB.out]
      go_wp2_with (fail)
      refine (madeStacks_3 _ _ _ _).mono ?_; rintro e w2 ⟨A2, c2, rfl, o2, b2⟩
      have hb2 : Below w.heap.size w w2 := hb.trans (b2.mono hzs)
      have hz2' := b2.size
      have ho2 := ho.below b2 (Nat.le_refl _)
      go_wp2_with (at_builtin; refine wpList_appendC w2 rfl (.tmp 46) (.tmp 47) _ rfl 2 i0 _ 1 8 Tryz.underlying34 hi0 hz0 hz1 hz2 rfl (by decide) rfl ho2 (by omega) A2 1 c2 (([1] : List Int).map (Value.int .i64)) rfl (by simp) o2.news (ints_one _) (by unfold maxLen; omega) (by omega) ?_; intro A5 c5 w5 ho5 hg5 hb5)
      go_roundw
      case rel => exact ⟨i + 1, A5, c5, out ++ [1], by omega, by go_num, by first | rfl | simp, by rw [List.length_append]; rfl, by show OwnC _ _ _ _ _ _ _ _ _; rw [List.map_append, List.length_append]; exact ho5, hb2.trans hb5, HT2, HA2, HO2, by simp; omega⟩
      case measure => simp [intOf]; omega
    · have he := HA.out
      rw [drop_all (by omega), afterP, List.append_nil] at he
      have hok := HO.out
      rw [drop_all (by omega), okAfter] at hok
      by_cases h8 : out.length ≤ 8
      · go_wp2_with (fail)
        go_ret2
        rw [HF.out, hok, he, decide_eq_true h8]
        exact ⟨_, _, rfl, ho, hb⟩
      · go_wp2_with (fail)
        go_ret2
        rw [HF.out, hok, he, decide_eq_false h8]
        exact ⟨_, _, rfl, OwnC.nil _ _ _ _ _, hb⟩

set_option maxHeartbeats 1000000 in
theorem impl_StacksAfter (st ks : List Int) (A : Option Addr) (c : Nat) (B : Option Addr) (d : Nat) (w : World) (h : Ints w A st) (hl : st.length ≤ 9223372036854775807) (hc0 : st.length ≤ c) (hcm : c ≤ 9223372036854775807) (hn : (A = none ∧ c = 0) ∨ ∃ b off, A = some ⟨b, off, none⟩) (h' : Ints w B ks) (hl' : ks.length ≤ 9223372036854775807) :
    Calls Tryz.prog 62 #[.slice A st.length c, .slice B ks.length d] w fun e w' => ∃ A' c', e = .returned (.tuple #[.slice A' (stacksAfterP st ks).1.length c', .int .i64 (stacksAfterP st ks).2]) ∧ OwnI w' w.heap.size w'.heap.size A' c' (stacksAfterP st ks).1 ∧ Below w.heap.size w w' := by
  by_cases h1 : stacksB st = true
  · by_cases h2 : stitchesB ks = true
    · by_cases h3 : takenS ks = st.length
      · rcases hn with ⟨rfl, rfl⟩ | ⟨b, off, rfl⟩
        · obtain rfl : st = [] := List.eq_nil_of_length_eq_zero (by omega)
          exact impl_StacksAfter_nil ks B d w h' hl' h2 h3
        · exact impl_StacksAfter_some st ks b off c B d w h hc0 hcm h' hl' h1 h2 h3
      · have HF : Hid (stacksAfterP st ks = ([], 10)) := Lib.hid (by simp [stacksAfterP, h1, h2, h3])
        have h3' : ((takenS ks : Int) != (st.length : Int)) = true := by simp; omega
        have H2 := Lib.hid h2
        clear h3
        go_enter Tryz.func62, Tryz.ntmps62
        go_wp2_with (fail)
        refine (impl_areStacks _ _ _ _ h hl).mono ?_; rintro e _ ⟨rfl, rfl⟩
        go_wp2_with (fail)
        refine (impl_areStitches _ _ _ _ h' hl').mono ?_; rintro e _ ⟨rfl, rfl⟩
        go_wp2_with (fail)
        refine (impl_takenBy _ _ _ _ h' H2.out).mono ?_; rintro e _ ⟨rfl, rfl⟩
        go_wp2_with (fail)
        go_ret2
        rw [HF.out]
        exact ⟨_, _, rfl, OwnC.nil _ _ _ _ _, Below.refl _ _⟩
    · have h2' : stitchesB ks = false := by simpa using h2
      have HF : Hid (stacksAfterP st ks = ([], 1)) := Lib.hid (by rw [stacksAfterP, h2', Bool.and_false]; rfl)
      clear h2
      go_enter Tryz.func62, Tryz.ntmps62
      go_wp2_with (fail)
      refine (impl_areStacks _ _ _ _ h hl).mono ?_; rintro e _ ⟨rfl, rfl⟩
      go_wp2_with (fail)
      refine (impl_areStitches _ _ _ _ h' hl').mono ?_; rintro e _ ⟨rfl, rfl⟩
      go_wp2_with (fail)
      go_ret2
      rw [HF.out]
      exact ⟨_, _, rfl, OwnC.nil _ _ _ _ _, Below.refl _ _⟩
  · have h1' : stacksB st = false := by simpa using h1
    have HF : Hid (stacksAfterP st ks = ([], 1)) := Lib.hid (by rw [stacksAfterP, h1', Bool.false_and]; rfl)
    clear h1
    go_enter Tryz.func62, Tryz.ntmps62
    go_wp2_with (fail)
    refine (impl_areStacks _ _ _ _ h hl).mono ?_; rintro e _ ⟨rfl, rfl⟩
    go_wp2_with (fail)
    go_ret2
    rw [HF.out]
    exact ⟨_, _, rfl, OwnC.nil _ _ _ _ _, Below.refl _ _⟩

end Go.Proofs.YtnjgmhdmjaijgaaGreatDoor

/- RowLetters. -/
namespace Go.Proofs.YtnjgmhdmjaijgaaGreatDoor
open Go.RowKit

theorem lettersFrom_drop {ks : List Int} {i : Nat} {k c : Int} (h : ks[i]? = some k) : lettersFrom (ks.drop i) c = stLetters k c ++ lettersFrom (ks.drop (i + 1)) (c + takenN k) := by rw [drop_cons h, lettersFrom]
theorem takenP_of {ks : List Int} (h : stitchesB ks = true) : takenP ks = takenS ks := by rw [takenP, if_pos h]
theorem row_stitches {d r : Int} {ks : List Int} (h : rowB d r ks = true) : stitchesB ks = true := by
  unfold rowB at h
  simp only [Bool.and_eq_true] at h
  exact h.2


end Go.Proofs.YtnjgmhdmjaijgaaGreatDoor

/- RowLetters, the program's side. -/
namespace Go.Proofs.YtnjgmhdmjaijgaaGreatDoor
open Go.RowKit


end Go.Proofs.YtnjgmhdmjaijgaaGreatDoor
