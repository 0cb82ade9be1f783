/- l15Stacks: the stacks of a chart, the given side. -/
import Derived.Test.YtfgbhhkmdeljoaaTI
namespace Go.Proofs.Ytfgbhhkmdeljoaa
open Go.RowKit

/-- The list of stacks grows by one. -/
theorem stacks_step {w5 w6 : World} {lo m k : Nat} {A5 A3 : Option Addr} {c5 c3 : Nat} {cs : List Value} {done : List (List Int)} {nx : List Int}
    (ho : OwnC w5 lo m 33 1 A5 k c5 cs) (hc : CellsII w5 lo m cs done) (hx : OwnI w5 m w5.heap.size A3 c3 nx) (hlo : lo ≤ m) (hm : m ≤ w5.heap.size)
    (hg : (w5.alloc (.cells #[.slice A3 nx.length c3] 33)).grownBy w6 (Value.slice A5 k c5).ownBlock) (hz : w5.heap.size < w6.heap.size) :
    OwnI w6 lo w6.heap.size A3 c3 nx ∧ CellsII w6 lo w6.heap.size (cs ++ [.slice A3 nx.length c3]) (done ++ [nx]) := by
  have t3 : (2 : TypeId) ≠ 33 := by decide
  have ho' := ho.alloc (.cells #[.slice A3 nx.length c3] 33)
  have hc' : CellsII (w5.alloc (.cells #[.slice A3 nx.length c3] 33)) lo m cs done := hc.keep fun q _ _ h3 => Below.heap_alloc w5 _ q h3
  have hx6 := (hx.alloc (.cells #[.slice A3 nx.length c3] 33)).grownT ho' t3 hg
  have hc6 := hc'.grownT ho' t3 hg
  exact ⟨hx6.mono hlo (by omega), (hc6.snoc hx6 hlo (by omega)).mono (Nat.le_refl _) (by omega)⟩
def sliceLen : Value → Nat
  | .slice _ n _ => n
  | _ => 0
theorem stacksFrom_drop {st : List Int} {rs : List RowD} {k : Nat} {r : RowD} (h : rs[k]? = some r) : stacksFrom st (rs.drop k) = (stacksAfterP st r.s).1 :: stacksFrom (stacksAfterP st r.s).1 (rs.drop (k + 1)) := by rw [drop_cons h, stacksFrom]
theorem rowsOkB_drop {st : List Int} {rs : List RowD} {k : Nat} {r : RowD} (h : rs[k]? = some r) : rowsOkB st (rs.drop k) = (rowOkB st r && rowsOkB (stacksAfterP st r.s).1 (rs.drop (k + 1))) := by rw [drop_cons h, rowsOkB]
theorem chart_bad {n : Int} {rs : List RowD} (h : chartB n rs = false) : chartStacks n rs = [] ∧ chartB n rs = false := ⟨by rw [chartStacks, if_neg (by rw [h]; decide)], h⟩

theorem spec_l15Thin (dd : Int) (hd : dd = 1 ∨ dd = -1) (st ks : List Int) (A B C : Option Addr) (c d cc g o : Nat) (w : World) (h : Ints w A st) (h' : Ints w B (afterP ks st)) (hk : Ints w C ks)
    (c0 : w.cell? ⟨g, o, none⟩ = some (.int .i64 dd)) (c2 : w.cell? ⟨g, o + 2, none⟩ = some (.slice C ks.length cc)) (hv : stacksB st = true) (hs : stitchesB ks = true) (heq : takenS ks = st.length) :
    Calls Try.prog 101 #[.slice A st.length c, .slice B (afterP ks st).length d, .pointer (some ⟨g, o, none⟩)] w fun e w' => e = .returned (.bool (keepB dd st ks)) ∧ Below w.heap.size w w' := by
  rcases hd with rfl | rfl
  · exact spec_l15Thin_R st ks A B C c d cc g o w h h' hk c0 c2 hv hs heq
  · exact spec_l15Thin_L st ks A B C c d cc g o w h h' hk c0 c2 hv hs heq

set_option maxHeartbeats 4000000 in
set_option maxRecDepth 20000 in
theorem spec_l15Stacks (g o : Nat) (n : Int) (rs : List RowD) (A : Option Addr) (c : Nat) (w : World) (h : RowsR w A rs) (hl : rs.length ≤ 9223372036854775807)
    (c0 : w.cell? ⟨g, o, none⟩ = some (.int .i64 n)) (c1 : w.cell? ⟨g, o + 1, none⟩ = some (.slice A rs.length c)) :
    Calls Try.prog 60 #[.pointer (some ⟨g, o, none⟩)] w fun e w' => ∃ A' c', e = .returned (.tuple #[.slice A' (chartStacks n rs).length c', .bool (chartB n rs)]) ∧ OwnII w' w.heap.size w'.heap.size A' (chartStacks n rs).length c' (chartStacks n rs) ∧ Below w.heap.size w w' := by
  have hnil : ∀ W, OwnII W w.heap.size W.heap.size none 0 0 [] := fun W => ⟨[], OwnC.nil _ _ _ _ _, ⟨rfl, fun k xs hx => by simp at hx, fun i j v v' g hi' => by simp at hi'⟩⟩
  have HNIL := Lib.hid hnil; clear hnil
  cases hn : inR n 1 8
  · have HF : Hid (chartStacks n rs = [] ∧ chartB n rs = false) := Lib.hid (chart_bad (by simp [chartB, hn]))
    go_enter Try.func60, Try.ntmps60
    go_wp2_with (go_at_call 66; refine (spec_l00In _ _ _ _).mono ?_; rintro e _ ⟨rfl, rfl⟩)
    go_ret2
    rw [HF.out.1, HF.out.2]
    exact ⟨_, _, rfl, HNIL.out _, Below.refl _ _⟩
  · cases hr : inR rs.length 1 8
    · have HF : Hid (chartStacks n rs = [] ∧ chartB n rs = false) := Lib.hid (chart_bad (by simp [chartB, hr]))
      go_enter Try.func60, Try.ntmps60
      go_wp2_with (go_at_call 66; refine (spec_l00In _ _ _ _).mono ?_; rintro e _ ⟨rfl, rfl⟩)
      go_ret2
      rw [HF.out.1, HF.out.2]
      exact ⟨_, _, rfl, HNIL.out _, Below.refl _ _⟩
    · have hn18 := inR_iff.1 hn
      have hr18 := inR_iff.1 hr
      obtain ⟨m, rfl⟩ := Int.eq_ofNat_of_zero_le (show (0 : Int) ≤ n by omega)
      have HF : Hid (chartB m rs = rowsOkB (List.replicate m 1) rs) := Lib.hid (by unfold chartB; rw [hn, hr]; rfl)
      have HBAD : Hid (rowsOkB (List.replicate m 1) rs = false → chartStacks m rs = [] ∧ chartB m rs = false) := Lib.hid (fun h => chart_bad (by rw [HF.out, h]))
      have HGOOD : Hid (rowsOkB (List.replicate m 1) rs = true → chartStacks m rs = stacksFrom (List.replicate m 1) rs ∧ chartB m rs = true) := Lib.hid (fun h => ⟨by rw [chartStacks, if_pos (by rw [HF.out, h])]; rfl, by rw [HF.out, h]⟩)
      obtain ⟨i0, hi0, hz0, hz1, hz2⟩ := info_parts info_int64
      obtain ⟨i1, hi1, hy0, hy1, hy2⟩ := info_parts info_ints
      go_enter Try.func60, Try.ntmps60
      go_wp2_with (go_at_call 66; refine (spec_l00In _ _ _ _).mono ?_; rintro e _ ⟨rfl, rfl⟩)
      go_loopw [4] (fun nv wr => ∃ (k : Nat) (A4 : Option Addr) (c4 : Nat), k ≤ m ∧ nv = .slice A4 k c4 ∧ OwnC wr w.heap.size wr.heap.size 2 1 A4 k c4 ((List.replicate k (1 : Int)).map (Value.int .i64)) ∧ Below w.heap.size w wr) (fun nv _ => m - sliceLen nv)
      case atStart =>
        exact ⟨0, some ⟨w.heap.size, 0, none⟩, 0, Nat.zero_le _, rfl, (OwnC.lit _ 1 #[] (Nat.le_refl _) (Nat.zero_le _) rfl).mono (Nat.le_refl _) (by simp), by (repeat (first | exact Below.refl _ _ | assumption | apply Below.drew | apply below_drewN | (refine Below.alloc ?_ (by first | omega | (simp; done) | (simp; omega)) _) | (refine Below.setCell ?_ (by first | omega | (simp; done) | (simp; omega)) _)))⟩
      case round =>
        obtain ⟨k, A4, c4, hk, rfl, ho, hb⟩ := hrel
        have hzs := hb.size
        have d0 := cells_below hb _ _ c0
        have d1 := cells_below hb _ _ c1
        by_cases hlt : k < m
        · go_wp2_with (at_builtin; refine wpList_append1 wr [.int .i64 1] _ rfl (.tmp 32) (.tmp 33) _ rfl 2 i0 _ 1 8 Try.underlying33 hi0 hz0 hz1 hz2 rfl (by decide) rfl ho hzs 1 rfl rfl (by simp [Value.oneCell']) (by omega) (by decide) ?_; intro A2 c2 w2 ho2 hg2 hb2 hz2')
          go_roundw
          case rel =>
            refine ⟨k + 1, A2, c2, by omega, rfl, ?_, hb.trans hb2⟩
            rw [List.replicate_succ', List.map_append]
            exact ho2
          case measure => simp [sliceLen]; omega
        · obtain rfl : k = m := by omega
          have hst0 : (List.replicate k (1 : Int)).length = k := by simp
          obtain ⟨st0, hst⟩ : ∃ s, s = List.replicate k (1 : Int) := ⟨_, rfl⟩
          rw [← hst] at ho hst0 HF HBAD HGOOD
          clear hst
          subst hst0
          have ho' : OwnI wr w.heap.size wr.heap.size A4 c4 st0 := ho
          clear ho
          go_wp2_with (fail)
          obtain ⟨W1, rfl⟩ : ∃ W1, W1 = wr := ⟨wr, rfl⟩
          go_loopw [4, 5, 6] (fun nv ov iv wr => ∃ (i : Nat) (st : List Int) (A4 : Option Addr) (c4 : Nat) (A5 : Option Addr) (c5 : Nat) (cs : List Value) (done : List (List Int)), i ≤ rs.length ∧ nv = .slice A4 st.length c4 ∧ ov = .slice A5 i c5 ∧ iv = .int .i64 i ∧ OwnI wr w.heap.size wr.heap.size A4 c4 st ∧ OwnC wr w.heap.size wr.heap.size 33 1 A5 i c5 cs ∧ CellsII wr w.heap.size wr.heap.size cs done ∧ Below w.heap.size w wr ∧ Hid (stacksFrom st0 rs = done ++ stacksFrom st (rs.drop i)) ∧ Hid (rowsOkB st0 rs = rowsOkB st (rs.drop i)) ∧ Hid (done.length = i) ∧ st.length ≤ 8) (fun _ _ iv _ => rs.length - (intOf iv).toNat)
          case atStart =>
            refine ⟨0, st0, A4, c4, some ⟨W1.heap.size, 0, none⟩, 0, [], [], Nat.zero_le _, rfl, rfl, rfl, (ho'.alloc _).mono (Nat.le_refl _) (by simp), ?_, ⟨rfl, fun k xs hx => by simp at hx, fun i j v v' g hi' => by simp at hi'⟩, by (repeat (first | exact Below.refl _ _ | assumption | apply Below.drew | apply below_drewN | (refine Below.alloc ?_ (by first | omega | (simp; done) | (simp; omega)) _) | (refine Below.setCell ?_ (by first | omega | (simp; done) | (simp; omega)) _))), Lib.hid rfl, Lib.hid rfl, Lib.hid rfl, by omega⟩
            exact (OwnC.lit _ 1 #[] (Nat.le_refl _) (Nat.zero_le _) rfl).mono hzs (by simp)
          case round =>
            clear ho'
            obtain ⟨i, st, A4, c4, A5, c5, cs, done, hi, rfl, rfl, rfl, ho4, ho5, hci, hbq, HS, HO, HD, hst8⟩ := hrel
            have hzq := hbq.size
            have e0 := cells_below hbq _ _ c0
            have e1 := cells_below hbq _ _ c1
            clear d0 d1
            by_cases hlr : i < rs.length
            · obtain ⟨b, off, A7, c7, r, rfl, hrx, f0, f1, f2, hri, hrl⟩ := (h.below hbq) i hlr
              have HS2 : Hid (stacksFrom st0 rs = (done ++ [(stacksAfterP st r.s).1]) ++ stacksFrom (stacksAfterP st r.s).1 (rs.drop (i + 1))) := Lib.hid (by rw [HS.out, stacksFrom_drop hrx, List.append_assoc]; rfl)
              have HO2 : Hid (rowsOkB st0 rs = (rowOkB st r && rowsOkB (stacksAfterP st r.s).1 (rs.drop (i + 1)))) := Lib.hid (by rw [HO.out, rowsOkB_drop hrx])
              clear hrx HS HO
              have hnx8 := stacksAfterP_length st r.s
              have j1 : (0 : Int) ≤ (i : Int) := by omega
              have j2 : (i : Int) < (rs.length : Int) := by omega
              cases hrow : rowB r.d r.r r.s
              · have HBB := HBAD.out (by rw [HO2.out, rowOkB, hrow]; rfl)
                have HBB' := Lib.hid HBB; clear HBB
                go_wp2_with (go_at_call 80; refine (spec_l15Row b (off + i * 3) r.d r.r A7 c7 r.s _ hri hrl f0 f1 f2).mono ?_; rintro e _ ⟨rfl, rfl⟩; rw [hrow])
                go_ret2
                rw [HBB'.out.1, HBB'.out.2]
                exact ⟨_, _, rfl, HNIL.out _, hbq⟩
              · have HI4 := Lib.hid ho4.ints
                go_wp2_with (go_at_call 80; refine (spec_l15Row b (off + i * 3) r.d r.r A7 c7 r.s _ hri hrl f0 f1 f2).mono ?_; rintro e _ ⟨rfl, rfl⟩; rw [hrow])
                refine (spec_StacksAfter st r.s A4 c4 A7 c7 _ HI4.out (by omega) hri hrl).mono ?_; rintro e w3 ⟨A3, c3, rfl, o3, b3⟩
                have z3 := b3.size
                have hb3 : Below w.heap.size w w3 := hbq.trans (b3.mono hzq)
                have e0' := cells_below hb3 _ _ c0
                have e1' := cells_below hb3 _ _ c1
                have f0' := cells_below b3 _ _ f0
                have f1' := cells_below b3 _ _ f1
                have f2' := cells_below b3 _ _ f2
                cases hcd : stepCode st r.s
                · have hcd' : ((stacksAfterP st r.s).2 != 0) = true := by simpa [stepCode] using hcd
                  have HBB := HBAD.out (by rw [HO2.out, rowOkB, hcd, Bool.and_false, Bool.false_and, Bool.false_and])
                  have HBB' := Lib.hid HBB; clear HBB
                  go_wp2_with (fail)
                  go_ret2
                  rw [HBB'.out.1, HBB'.out.2]
                  exact ⟨_, _, rfl, HNIL.out _, hb3⟩
                · have hcd' : ((stacksAfterP st r.s).2 != 0) = false := by simpa [stepCode] using hcd
                  obtain ⟨q1, q2, q3, q4, q5⟩ := stepCode_of hcd
                  have hdir : r.d = 1 ∨ r.d = -1 := by
                    unfold rowB dirB at hrow
                    simp only [Bool.and_eq_true, Bool.or_eq_true, beq_iff_eq, decide_eq_true_eq] at hrow
                    first | exact hrow.1.1 | exact hrow.1.1.symm
                  have HTH := Lib.hid (spec_l15Thin r.d hdir st r.s A4 A3 A7 c4 c3 c7 b (off + i * 3) w3 (HI4.out.below b3) (by rw [← q4]; exact o3.ints) (hri.below b3) f0' f2' q1 q2 q3)
                  rw [← q4] at HTH
                  clear q1 q2 q3 q4 q5
                  have ho4' := ho4.below b3 (Nat.le_refl _)
                  have ho5' := ho5.below b3 (Nat.le_refl _)
                  have hci' : CellsII w3 w.heap.size wr.heap.size cs done := hci.keep fun q _ h2 _ => b3.block q h2
                  have HR : Hid (rowOkB st r = keepB r.d st r.s) := Lib.hid (by rw [rowOkB, hrow, hcd]; simp)
                  clear hcd hrow
                  cases hkp : keepB r.d st r.s
                  · have HBB := HBAD.out (by rw [HO2.out, HR.out, hkp]; rfl)
                    have HBB' := Lib.hid HBB; clear HBB
                    rw [hkp] at HTH
                    go_wp2_with (go_at_call 101; refine HTH.out.mono ?_; rintro e w5 ⟨rfl, b5⟩)
                    go_ret2
                    rw [HBB'.out.1, HBB'.out.2]
                    exact ⟨_, _, rfl, HNIL.out _, hb3.trans (b5.mono (by omega))⟩
                  · have HO3 : Hid (rowsOkB st0 rs = rowsOkB (stacksAfterP st r.s).1 (rs.drop (i + 1))) := Lib.hid (by rw [HO2.out, HR.out, hkp]; rfl)
                    rw [hkp] at HTH
                    clear HO2 HR hkp
                    generalize (stacksAfterP st r.s).1 = nx at o3 HTH HS2 HO3 hnx8 ⊢
                    go_wp2_with (first | (go_at_call 101; refine HTH.out.mono ?_; rintro e w5 ⟨rfl, b5⟩; have z5 := b5.size; have oA := ho5'.below b5 z3) | (at_builtin; refine wpList_append1 w5 [.slice A3 nx.length c3] _ rfl (.tmp 80) (.tmp 82) _ rfl 33 i1 _ 1 24 Try.underlying39 hi1 hy0 hy1 hy2 rfl (by decide) rfl oA (by omega) 1 rfl rfl (by simp [Value.oneCell']) (by omega) (by decide) ?_; intro A6 c6 w6 ho6 hg6 hb6 hz6))
                    have hb5 : Below w.heap.size w w5 := hb3.trans (b5.mono (by omega))
                    have hci5 : CellsII w5 w.heap.size wr.heap.size cs done := hci'.keep fun q _ h2 _ => b5.block q (by omega)
                    obtain ⟨oN, hN⟩ := stacks_step oA hci5 ((o3.below b5 (Nat.le_refl _)).mono (Nat.le_refl _) z5) hzq (by omega) hg6 hz6
                    go_roundw
                    case rel => exact ⟨i + 1, nx, A3, c3, A6, c6, _, done ++ [nx], by omega, rfl, rfl, by go_num, oN, ho6, hN, hb5.trans hb6, HS2, HO3, Lib.hid (by rw [List.length_append, HD.out]; rfl), hnx8⟩
                    case measure => simp [intOf]; omega
            · have h9 := HS.out
              have h8 := HO.out
              rw [drop_all (by omega), stacksFrom, List.append_nil] at h9
              rw [drop_all (by omega), rowsOkB] at h8
              have HG := Lib.hid (HGOOD.out h8)
              have H9 := Lib.hid h9; clear h9 h8
              go_wp2_with (fail)
              go_ret2
              rw [HG.out.1, HG.out.2, H9.out, HD.out]
              exact ⟨_, _, rfl, ⟨cs, ho5, hci⟩, hbq⟩

theorem spec_l15Ok (g o : Nat) (n : Int) (rs : List RowD) (A : Option Addr) (c : Nat) (w : World) (h : RowsR w A rs) (hl : rs.length ≤ 9223372036854775807)
    (c0 : w.cell? ⟨g, o, none⟩ = some (.int .i64 n)) (c1 : w.cell? ⟨g, o + 1, none⟩ = some (.slice A rs.length c)) :
    Calls Try.prog 56 #[.pointer (some ⟨g, o, none⟩)] w fun e w' => e = .returned (.bool (chartB n rs)) ∧ Below w.heap.size w w' := by
  go_enter Try.func56, Try.ntmps56
  go_wp2_with (fail)
  refine (spec_l15Stacks g o n rs A c _ h hl c0 c1).mono ?_; rintro e w2 ⟨A', c', rfl, _, b2⟩
  go_wp2_with (fail)
  go_ret
  exact ⟨rfl, b2⟩

theorem spec_ValidChart (n : Int) (rs : List RowD) (A : Option Addr) (c : Nat) (w : World) (h : RowsR w A rs) (hl : rs.length ≤ 9223372036854775807) :
    Calls Try.prog 15 #[.agg #[.int .i64 n, .slice A rs.length c]] w fun e w' => e = .returned (.bool (chartB n rs)) ∧ Below w.heap.size w w' := by
  have hb1 : Below w.heap.size w (w.alloc (.cells #[.int .i64 n, .slice A rs.length c] 29)) := by (repeat (first | exact Below.refl _ _ | assumption | apply Below.drew | apply below_drewN | (refine Below.alloc ?_ (by first | omega | (simp; done) | (simp; omega)) _) | (refine Below.setCell ?_ (by first | omega | (simp; done) | (simp; omega)) _)))
  have kb := Blk.new w 29 #[.int .i64 n, .slice A rs.length c]
  go_enter Try.func15, Try.ntmps15
  go_wp2_with (fail)
  refine (spec_l15Ok w.heap.size 0 n rs A c _ (h.below hb1) hl kb.c2.1 kb.c2.2).mono ?_; rintro e w2 ⟨rfl, b2⟩
  go_wp2_with (fail)
  go_ret
  exact ⟨rfl, hb1.trans (b2.mono (by simp))⟩

end Go.Proofs.Ytfgbhhkmdeljoaa
