/- Steps of the proof, joined from several texts: TL MD TJ TK. -/
import Derived.Test.YtnjgmhdmjaijgaaGreatDoorZ6
import Derived.Test.YtnjgmhdmjaijgaaGreatDoorZ5
import Derived.BigRegion
import Derived.Deep.RegionLaw

/- l15Stacks: the stacks of a chart, the given side. -/
namespace Go.Proofs.YtnjgmhdmjaijgaaGreatDoor
open Go.RowKit

/-- The list of stacks grows by one. -/
theorem stacks_step {w5 w6 : World} {lo m k : Nat} {A5 A3 : Option Addr} {c5 c3 : Nat} {cs : List Value} {done : List (List Int)} {nx : List Int}
    (ho : OwnC w5 lo m 34 1 A5 k c5 cs) (hc : CellsII w5 lo m cs done) (hx : OwnI w5 m w5.heap.size A3 c3 nx) (hlo : lo ≤ m) (hm : m ≤ w5.heap.size)
    (hg : (w5.alloc (.cells #[.slice A3 nx.length c3] 34)).grownBy w6 (Value.slice A5 k c5).ownBlock) (hz : w5.heap.size < w6.heap.size) :
    OwnI w6 lo w6.heap.size A3 c3 nx ∧ CellsII w6 lo w6.heap.size (cs ++ [.slice A3 nx.length c3]) (done ++ [nx]) := by
  have t3 : (2 : TypeId) ≠ 34 := by decide
  have ho' := ho.alloc (.cells #[.slice A3 nx.length c3] 34)
  have hc' : CellsII (w5.alloc (.cells #[.slice A3 nx.length c3] 34)) lo m cs done := hc.keep fun q _ _ h3 => Below.heap_alloc w5 _ q h3
  have hx6 := (hx.alloc (.cells #[.slice A3 nx.length c3] 34)).grownT ho' t3 hg
  have hc6 := hc'.grownT ho' t3 hg
  exact ⟨hx6.mono hlo (by omega), (hc6.snoc hx6 hlo (by omega)).mono (Nat.le_refl _) (by omega)⟩
def sliceLen : Value → Nat
  | .slice _ n _ => n
  | _ => 0
theorem stacksFrom_drop {st : List Int} {rs : List RowD} {k : Nat} {r : RowD} (h : rs[k]? = some r) : stacksFrom st (rs.drop k) = (stacksAfterP st r.s).1 :: stacksFrom (stacksAfterP st r.s).1 (rs.drop (k + 1)) := by rw [drop_cons h, stacksFrom]
theorem rowsOkB_drop {st : List Int} {rs : List RowD} {k : Nat} {r : RowD} (h : rs[k]? = some r) : rowsOkB st (rs.drop k) = (rowOkB st r && rowsOkB (stacksAfterP st r.s).1 (rs.drop (k + 1))) := by rw [drop_cons h, rowsOkB]
theorem chart_bad {n : Int} {rs : List RowD} (h : chartB n rs = false) : chartStacks n rs = [] ∧ chartB n rs = false := ⟨by rw [chartStacks, if_neg (by rw [h]; decide)], h⟩

theorem spec_l15Thin (dd : Int) (hd : dd = 1 ∨ dd = -1) (st ks : List Int) (A B C : Option Addr) (c d cc g o : Nat) (w : World) (h : Ints w A st) (h' : Ints w B (afterP ks st)) (hk : Ints w C ks)
    (c0 : w.cell? ⟨g, o, none⟩ = some (.int .i64 dd)) (c2 : w.cell? ⟨g, o + 2, none⟩ = some (.slice C ks.length cc)) (hv : stacksB st = true) (hs : stitchesB ks = true) (heq : takenS ks = st.length) :
    Calls Tryz.prog 87 #[.slice A st.length c, .slice B (afterP ks st).length d, .pointer (some ⟨g, o, none⟩)] w fun e w' => e = .returned (.bool (keepB dd st ks)) ∧ Below w.heap.size w w' := by
  rcases hd with rfl | rfl
  · exact spec_l15Thin_R st ks A B C c d cc g o w h h' hk c0 c2 hv hs heq
  · exact spec_l15Thin_L st ks A B C c d cc g o w h h' hk c0 c2 hv hs heq

set_option maxHeartbeats 4000000 in
set_option maxRecDepth 20000 in
theorem spec_l15Stacks (g o : Nat) (n : Int) (rs : List RowD) (A : Option Addr) (c : Nat) (w : World) (h : RowsR w A rs) (hl : rs.length ≤ 9223372036854775807)
    (c0 : w.cell? ⟨g, o, none⟩ = some (.int .i64 n)) (c1 : w.cell? ⟨g, o + 1, none⟩ = some (.slice A rs.length c)) :
    Calls Tryz.prog 71 #[.pointer (some ⟨g, o, none⟩)] w fun e w' => ∃ A' c', e = .returned (.tuple #[.slice A' (chartStacks n rs).length c', .bool (chartB n rs)]) ∧ OwnII w' w.heap.size w'.heap.size A' (chartStacks n rs).length c' (chartStacks n rs) ∧ Below w.heap.size w w' := by
  have hnil : ∀ W, OwnII W w.heap.size W.heap.size none 0 0 [] := fun W => ⟨[], OwnC.nil _ _ _ _ _, ⟨rfl, fun k xs hx => by simp at hx, fun i j v v' g hi' => by simp at hi'⟩⟩
  have HNIL := Lib.hid hnil; clear hnil
  cases hn : inR n 1 8
  · have HF : Hid (chartStacks n rs = [] ∧ chartB n rs = false) := Lib.hid (chart_bad (by simp [chartB, hn]))
    go_enter Tryz.func71, Tryz.ntmps71
    go_wp2_with (go_at_call 100; refine (spec_l00In _ _ _ _).mono ?_; rintro e _ ⟨rfl, rfl⟩)
    go_ret2
    rw [HF.out.1, HF.out.2]
    exact ⟨_, _, rfl, HNIL.out _, Below.refl _ _⟩
  · cases hr : inR rs.length 1 8
    · have HF : Hid (chartStacks n rs = [] ∧ chartB n rs = false) := Lib.hid (chart_bad (by simp [chartB, hr]))
      go_enter Tryz.func71, Tryz.ntmps71
      go_wp2_with (go_at_call 100; refine (spec_l00In _ _ _ _).mono ?_; rintro e _ ⟨rfl, rfl⟩)
      go_ret2
      rw [HF.out.1, HF.out.2]
      exact ⟨_, _, rfl, HNIL.out _, Below.refl _ _⟩
    · have hn18 := inR_iff.1 hn
      have hr18 := inR_iff.1 hr
      obtain ⟨m, rfl⟩ := Int.eq_ofNat_of_zero_le (show (0 : Int) ≤ n by omega)
      have HF : Hid (chartB m rs = rowsOkB (List.replicate m 1) rs) := Lib.hid (by unfold chartB; rw [hn, hr]; rfl)
      have HBAD : Hid (rowsOkB (List.replicate m 1) rs = false → chartStacks m rs = [] ∧ chartB m rs = false) := Lib.hid (fun h => chart_bad (by rw [HF.out, h]))
      have HGOOD : Hid (rowsOkB (List.replicate m 1) rs = true → chartStacks m rs = stacksFrom (List.replicate m 1) rs ∧ chartB m rs = true) := Lib.hid (fun h => ⟨by rw [chartStacks, if_pos (by rw [HF.out, h])]; rfl, by rw [HF.out, h]⟩)
      obtain ⟨i0, hi0, hz0, hz1, hz2⟩ := info_parts info_int64
      obtain ⟨i1, hi1, hy0, hy1, hy2⟩ := info_parts info_ints
      go_enter Tryz.func71, Tryz.ntmps71
      go_wp2_with (go_at_call 100; refine (spec_l00In _ _ _ _).mono ?_; rintro e _ ⟨rfl, rfl⟩)
      go_loopw [4] (fun nv wr => ∃ (k : Nat) (A4 : Option Addr) (c4 : Nat), k ≤ m ∧ nv = .slice A4 k c4 ∧ OwnC wr w.heap.size wr.heap.size 2 1 A4 k c4 ((List.replicate k (1 : Int)).map (Value.int .i64)) ∧ Below w.heap.size w wr) (fun nv _ => m - sliceLen nv)
      case atStart =>
        exact ⟨0, some ⟨w.heap.size, 0, none⟩, 0, Nat.zero_le _, rfl, (OwnC.lit _ 1 #[] (Nat.le_refl _) (Nat.zero_le _) rfl).mono (Nat.le_refl _) (by simp), by (repeat (first | exact Below.refl _ _ | assumption | apply Below.drew | apply below_drewN | (refine Below.alloc ?_ (by first | omega | (simp; done) | (simp; omega)) _) | (refine Below.setCell ?_ (by first | omega | (simp; done) | (simp; omega)) _)))⟩
      case round =>
        obtain ⟨k, A4, c4, hk, rfl, ho, hb⟩ := hrel
        have hzs := hb.size
        have d0 := cells_below hb _ _ c0
        have d1 := cells_below hb _ _ c1
        by_cases hlt : k < m
        · go_wp2_with (at_builtin; refine wpList_append1 wr [.int .i64 1] _ rfl (.tmp 32) (.tmp 33) _ rfl 2 i0 _ 1 8 Tryz.underlying34 hi0 hz0 hz1 hz2 rfl (by decide) rfl ho hzs 1 rfl rfl (by simp [Value.oneCell']) (by omega) (by decide) ?_; intro A2 c2 w2 ho2 hg2 hb2 hz2')
          go_roundw
          case rel =>
            refine ⟨k + 1, A2, c2, by omega, rfl, ?_, hb.trans hb2⟩
            rw [List.replicate_succ', List.map_append]
            exact ho2
          case measure => simp [sliceLen]; omega
        · obtain rfl : k = m := by omega
          have hst0 : (List.replicate k (1 : Int)).length = k := by simp
          obtain ⟨st0, hst⟩ : ∃ s, s = List.replicate k (1 : Int) := ⟨_, rfl⟩
          rw [← hst] at ho hst0 HF HBAD HGOOD
          clear hst
          subst hst0
          have ho' : OwnI wr w.heap.size wr.heap.size A4 c4 st0 := ho
          clear ho
          go_wp2_with (fail)
          obtain ⟨W1, rfl⟩ : ∃ W1, W1 = wr := ⟨wr, rfl⟩
          go_loopw [4, 5, 6] (fun nv ov iv wr => ∃ (i : Nat) (st : List Int) (A4 : Option Addr) (c4 : Nat) (A5 : Option Addr) (c5 : Nat) (cs : List Value) (done : List (List Int)), i ≤ rs.length ∧ nv = .slice A4 st.length c4 ∧ ov = .slice A5 i c5 ∧ iv = .int .i64 i ∧ OwnI wr w.heap.size wr.heap.size A4 c4 st ∧ OwnC wr w.heap.size wr.heap.size 34 1 A5 i c5 cs ∧ CellsII wr w.heap.size wr.heap.size cs done ∧ Below w.heap.size w wr ∧ Hid (stacksFrom st0 rs = done ++ stacksFrom st (rs.drop i)) ∧ Hid (rowsOkB st0 rs = rowsOkB st (rs.drop i)) ∧ Hid (done.length = i) ∧ st.length ≤ 8) (fun _ _ iv _ => rs.length - (intOf iv).toNat)
          case atStart =>
            refine ⟨0, st0, A4, c4, some ⟨W1.heap.size, 0, none⟩, 0, [], [], Nat.zero_le _, rfl, rfl, rfl, (ho'.alloc _).mono (Nat.le_refl _) (by simp), ?_, ⟨rfl, fun k xs hx => by simp at hx, fun i j v v' g hi' => by simp at hi'⟩, by (repeat (first | exact Below.refl _ _ | assumption | apply Below.drew | apply below_drewN | (refine Below.alloc ?_ (by first | omega | (simp; done) | (simp; omega)) _) | (refine Below.setCell ?_ (by first | omega | (simp; done) | (simp; omega)) _))), Lib.hid rfl, Lib.hid rfl, Lib.hid rfl, by omega⟩
            exact (OwnC.lit _ 1 #[] (Nat.le_refl _) (Nat.zero_le _) rfl).mono hzs (by simp)
          case round =>
            clear ho'
            obtain ⟨i, st, A4, c4, A5, c5, cs, done, hi, rfl, rfl, rfl, ho4, ho5, hci, hbq, HS, HO, HD, hst8⟩ := hrel
            have hzq := hbq.size
            have e0 := cells_below hbq _ _ c0
            have e1 := cells_below hbq _ _ c1
            clear d0 d1
            by_cases hlr : i < rs.length
            · obtain ⟨b, off, A7, c7, r, rfl, hrx, f0, f1, f2, hri, hrl⟩ := (h.below hbq) i hlr
              have HS2 : Hid (stacksFrom st0 rs = (done ++ [(stacksAfterP st r.s).1]) ++ stacksFrom (stacksAfterP st r.s).1 (rs.drop (i + 1))) := Lib.hid (by rw [HS.out, stacksFrom_drop hrx, List.append_assoc]; rfl)
              have HO2 : Hid (rowsOkB st0 rs = (rowOkB st r && rowsOkB (stacksAfterP st r.s).1 (rs.drop (i + 1)))) := Lib.hid (by rw [HO.out, rowsOkB_drop hrx])
              clear hrx HS HO
              have hnx8 := stacksAfterP_length st r.s
              have j1 : (0 : Int) ≤ (i : Int) := by omega
              have j2 : (i : Int) < (rs.length : Int) := by omega
              cases hrow : rowB r.d r.r r.s
              · have HBB := HBAD.out (by rw [HO2.out, rowOkB, hrow]; rfl)
                have HBB' := Lib.hid HBB; clear HBB
                go_wp2_with (go_at_call 101; refine (spec_l15Row b (off + i * 3) r.d r.r A7 c7 r.s _ hri hrl f0 f1 f2).mono ?_; rintro e _ ⟨rfl, rfl⟩; rw [hrow])
                go_ret2
                rw [HBB'.out.1, HBB'.out.2]
                exact ⟨_, _, rfl, HNIL.out _, hbq⟩
              · have HI4 := Lib.hid ho4.ints
                go_wp2_with (go_at_call 101; refine (spec_l15Row b (off + i * 3) r.d r.r A7 c7 r.s _ hri hrl f0 f1 f2).mono ?_; rintro e _ ⟨rfl, rfl⟩; rw [hrow])
                refine (spec_StacksAfter st r.s A4 c4 A7 c7 _ HI4.out (by omega) hri hrl).mono ?_; rintro e w3 ⟨A3, c3, rfl, o3, b3⟩
                have z3 := b3.size
                have hb3 : Below w.heap.size w w3 := hbq.trans (b3.mono hzq)
                have e0' := cells_below hb3 _ _ c0
                have e1' := cells_below hb3 _ _ c1
                have f0' := cells_below b3 _ _ f0
                have f1' := cells_below b3 _ _ f1
                have f2' := cells_below b3 _ _ f2
                cases hcd : stepCode st r.s
                · have hcd' : ((stacksAfterP st r.s).2 != 0) = true := by simpa [stepCode] using hcd
                  have HBB := HBAD.out (by rw [HO2.out, rowOkB, hcd, Bool.and_false, Bool.false_and, Bool.false_and])
                  have HBB' := Lib.hid HBB; clear HBB
                  go_wp2_with (fail)
                  go_ret2
                  rw [HBB'.out.1, HBB'.out.2]
                  exact ⟨_, _, rfl, HNIL.out _, hb3⟩
                · have hcd' : ((stacksAfterP st r.s).2 != 0) = false := by simpa [stepCode] using hcd
                  obtain ⟨q1, q2, q3, q4, q5⟩ := stepCode_of hcd
                  have hdir : r.d = 1 ∨ r.d = -1 := by
                    unfold rowB dirB at hrow
                    simp only [Bool.and_eq_true, Bool.or_eq_true, beq_iff_eq] at hrow
                    first | exact hrow.1.1 | exact hrow.1.1.symm
                  have HTH := Lib.hid (spec_l15Thin r.d hdir st r.s A4 A3 A7 c4 c3 c7 b (off + i * 3) w3 (HI4.out.below b3) (by rw [← q4]; exact o3.ints) (hri.below b3) f0' f2' q1 q2 q3)
                  rw [← q4] at HTH
                  clear q1 q2 q3 q4 q5
                  have ho4' := ho4.below b3 (Nat.le_refl _)
                  have ho5' := ho5.below b3 (Nat.le_refl _)
                  have hci' : CellsII w3 w.heap.size wr.heap.size cs done := hci.keep fun q _ h2 _ => b3.block q h2
                  have HR : Hid (rowOkB st r = keepB r.d st r.s) := Lib.hid (by rw [rowOkB, hrow, hcd]; simp)
                  clear hcd hrow
                  cases hkp : keepB r.d st r.s
                  · have HBB := HBAD.out (by rw [HO2.out, HR.out, hkp]; rfl)
                    have HBB' := Lib.hid HBB; clear HBB
                    rw [hkp] at HTH
                    go_wp2_with (go_at_call 87; refine HTH.out.mono ?_; rintro e w5 ⟨rfl, b5⟩)
                    go_ret2
                    rw [HBB'.out.1, HBB'.out.2]
                    exact ⟨_, _, rfl, HNIL.out _, hb3.trans (b5.mono (by omega))⟩
                  · have HO3 : Hid (rowsOkB st0 rs = rowsOkB (stacksAfterP st r.s).1 (rs.drop (i + 1))) := Lib.hid (by rw [HO2.out, HR.out, hkp]; rfl)
                    rw [hkp] at HTH
                    clear HO2 HR hkp
                    generalize (stacksAfterP st r.s).1 = nx at o3 HTH HS2 HO3 hnx8 ⊢
                    go_wp2_with (first | (go_at_call 87; refine HTH.out.mono ?_; rintro e w5 ⟨rfl, b5⟩; have z5 := b5.size; have oA := ho5'.below b5 z3) | (at_builtin; refine wpList_append1 w5 [.slice A3 nx.length c3] _ rfl (.tmp 80) (.tmp 82) _ rfl 34 i1 _ 1 24 Tryz.underlying37 hi1 hy0 hy1 hy2 rfl (by decide) rfl oA (by omega) 1 rfl rfl (by simp [Value.oneCell']) (by omega) (by decide) ?_; intro A6 c6 w6 ho6 hg6 hb6 hz6))
                    have hb5 : Below w.heap.size w w5 := hb3.trans (b5.mono (by omega))
                    have hci5 : CellsII w5 w.heap.size wr.heap.size cs done := hci'.keep fun q _ h2 _ => b5.block q (by omega)
                    obtain ⟨oN, hN⟩ := stacks_step oA hci5 ((o3.below b5 (Nat.le_refl _)).mono (Nat.le_refl _) z5) hzq (by omega) hg6 hz6
                    go_roundw
                    case rel => exact ⟨i + 1, nx, A3, c3, A6, c6, _, done ++ [nx], by omega, rfl, rfl, by go_num, oN, ho6, hN, hb5.trans hb6, HS2, HO3, Lib.hid (by rw [List.length_append, HD.out]; rfl), hnx8⟩
                    case measure => simp [intOf]; omega
            · have h9 := HS.out
              have h8 := HO.out
              rw [drop_all (by omega), stacksFrom, List.append_nil] at h9
              rw [drop_all (by omega), rowsOkB] at h8
              have HG := Lib.hid (HGOOD.out h8)
              have H9 := Lib.hid h9; clear h9 h8
              go_wp2_with (fail)
              go_ret2
              rw [HG.out.1, HG.out.2, H9.out, HD.out]
              exact ⟨_, _, rfl, ⟨cs, ho5, hci⟩, hbq⟩

theorem spec_l15Ok (g o : Nat) (n : Int) (rs : List RowD) (A : Option Addr) (c : Nat) (w : World) (h : RowsR w A rs) (hl : rs.length ≤ 9223372036854775807)
    (c0 : w.cell? ⟨g, o, none⟩ = some (.int .i64 n)) (c1 : w.cell? ⟨g, o + 1, none⟩ = some (.slice A rs.length c)) :
    Calls Tryz.prog 44 #[.pointer (some ⟨g, o, none⟩)] w fun e w' => e = .returned (.bool (chartB n rs)) ∧ Below w.heap.size w w' := by
  go_enter Tryz.func44, Tryz.ntmps44
  go_wp2_with (fail)
  refine (spec_l15Stacks g o n rs A c _ h hl c0 c1).mono ?_; rintro e w2 ⟨A', c', rfl, _, b2⟩
  go_wp2_with (fail)
  go_ret
  exact ⟨rfl, b2⟩


end Go.Proofs.YtnjgmhdmjaijgaaGreatDoor

/- slices.Clone, copyLists, slices.Reverse. -/
namespace Go.Proofs.YtnjgmhdmjaijgaaGreatDoor
open Go.RowKit

theorem Ints.news {w : World} {A : Option Addr} {xs : List Int} (h : Ints w A xs) : ∀ j u, (xs.map (Value.int .i64))[j]? = some u → ∃ b off, A = some ⟨b, off, none⟩ ∧ w.cell? ⟨b, off + j, none⟩ = some u := by
  intro j u hu
  have hj := (List.getElem?_eq_some_iff.1 hu).1
  simp at hj
  obtain ⟨b, off, x, hA, hc, hx⟩ := h j hj
  rw [List.getElem?_map, hx] at hu
  simp at hu
  subst hu
  exact ⟨b, off, hA, hc⟩

set_option maxRecDepth 10000 in
theorem slices_Clone (A : Option Addr) (c : Nat) (xs : List Int) (w : World) (h : Ints w A xs) (hl : xs.length ≤ 1048576) :
    Calls Tryz.prog 69 #[.slice A xs.length c] w fun e w' => ∃ A' c', e = .returned (.slice A' xs.length c') ∧ OwnI w' w.heap.size w'.heap.size A' c' xs ∧ Below w.heap.size w w' := by
  obtain ⟨i0, hi0, hz0, hz1, hz2⟩ := info_parts info_int64
  have qn : ∀ (w : World) (a : Option Addr) (n c n' c' : Nat), (binOp .eql 34 (.slice a n c) (.slice none n' c')).run Tryz.prog w = .ok (.bool a.isNone) w := fun w a n c n' c' => Lib.run_eql_slice_nil w _ _ a n c n' c' Tryz.underlying34
  cases A with
  | none =>
    have hx : xs = [] := by
      cases xs with
      | nil => rfl
      | cons x r => obtain ⟨b, off, _, h1, _⟩ := h 0 (by simp); cases h1
    subst hx
    go_enter Tryz.func69, Tryz.ntmps69
    go_wp2_with (fail)
    go_ret
    exact ⟨none, 0, rfl, OwnC.nil _ _ _ _ _, Below.refl _ _⟩
  | some a =>
    have o1 := OwnC.lit (w := w) (lo := w.heap.size) (n := 0) 2 1 #[] (Nat.le_refl _) (Nat.zero_le _) rfl
    have hb1 : Below w.heap.size w (w.alloc (.cells #[] 2)) := by (repeat (first | exact Below.refl _ _ | assumption | apply Below.drew | apply below_drewN | (refine Below.alloc ?_ (by first | omega | (simp; done) | (simp; omega)) _) | (refine Below.setCell ?_ (by first | omega | (simp; done) | (simp; omega)) _)))
    have hn := (h.below hb1).news
    have O1 := Lib.hid o1; clear o1
    have HN := Lib.hid hn; clear hn
    go_enter Tryz.func69, Tryz.ntmps69
    go_wp2_with (at_builtin; refine wpList_appendC (w.alloc (.cells #[] 2)) rfl (.tmp 5) (.tmp 6) _ rfl 2 i0 _ 1 8 Tryz.underlying34 hi0 hz0 hz1 hz2 rfl (by decide) rfl O1.out (by simp) (some a) xs.length c (xs.map (Value.int .i64)) rfl (by simp) HN.out (ints_one _) (by unfold maxLen; omega) (by omega) ?_; intro A5 c5 w5 ho5 hg5 hb5)
    go_ret
    refine ⟨A5, c5, by simp, ?_, hb1.trans hb5⟩
    simpa using ho5

set_option maxHeartbeats 1000000 in
theorem slices_Reverse (A : Option Addr) (c : Nat) (xs : List Int) (lo hi : Nat) (w : World) (h : OwnI w lo hi A c xs) (hl : xs.length ≤ 1048576) :
    Calls Tryz.prog 124 #[.slice A xs.length c] w fun e w' => e = .returned (.tuple #[]) ∧ OwnC w' lo hi 2 1 A xs.length c (xs.reverse.map (Value.int .i64)) ∧ Upd lo hi w w' := by
  go_enter Tryz.func124, Tryz.ntmps124
  go_wp2_with (fail)
  go_loopw [2, 3] (fun iv jv wr => ∃ (i : Nat) (L : List Int), 2 * i ≤ xs.length ∧ iv = .int .i64 i ∧ jv = .int .i64 ((xs.length : Int) - 1 - i) ∧ OwnC wr lo hi 2 1 A xs.length c (L.map (Value.int .i64)) ∧ Hid (L.length = xs.length) ∧ Hid (∀ k, k < xs.length → L[k]? = if k < i ∨ xs.length ≤ k + i then xs[xs.length - 1 - k]? else xs[k]?) ∧ Upd lo hi w wr) (fun _ jv _ => (intOf jv + 1).toNat)
  case atStart => exact ⟨0, xs, by omega, rfl, by simp, h, Lib.hid rfl, Lib.hid (fun k hk => by rw [if_neg (by omega)]), Upd.refl _ _ _⟩
  case round =>
    obtain ⟨i, L, hi2, rfl, rfl, ho, HL, HK, hu⟩ := hrel
    by_cases hlt : 2 * i + 1 < xs.length
    · obtain ⟨j, hj⟩ : ∃ j, xs.length = j + 1 + i := ⟨xs.length - 1 - i, by omega⟩
      have hij : i < j := by omega
      rw [show (xs.length : Int) - 1 - i = j by omega]
      have e1 : L[i]? = some (L[i]'(by rw [HL.out]; omega)) := List.getElem?_eq_getElem _
      have e2 : L[j]? = some (L[j]'(by rw [HL.out]; omega)) := List.getElem?_eq_getElem _
      generalize L[i]'(by rw [HL.out]; omega) = x at e1
      generalize L[j]'(by rw [HL.out]; omega) = y at e2
      obtain ⟨g, rfl, hg1, hg2, q0, f0⟩ := ho.cell (j := i) (by simp [HL.out]; omega)
      obtain ⟨_, hA, _, _, q1, f1⟩ := ho.cell (j := j) (by simp [HL.out]; omega)
      injection hA with hA
      injection hA with hA
      subst hA
      have e3 : (L.map (Value.int .i64))[i]? = some (.int .i64 x) := by simp [e1]
      have e4 : (L.map (Value.int .i64))[j]? = some (.int .i64 y) := by simp [e2]
      rw [List.getElem?_eq_getElem (by simp [HL.out]; omega)] at e3 e4
      injection e3 with e3
      injection e4 with e4
      rw [e3] at q0
      rw [e4] at q1
      have E1 := Lib.hid e1; clear e1
      have E2 := Lib.hid e2; clear e2 e3 e4
      have j1 : (0 : Int) ≤ (i : Int) := by omega
      have j2 : (i : Int) < (xs.length : Int) := by omega
      have j3 : (0 : Int) ≤ (j : Int) := by omega
      have j4 : (j : Int) < (xs.length : Int) := by omega
      have HJ := Lib.hid hj; clear hj
      have hne : i ≠ j := by omega
      have hne2 : j ≠ i := by omega
      have HO := Lib.hid ho; clear ho
      go_wp2_with (fail)
      go_region
      all_goals go_wp2_with (fail)
      all_goals
        have o1 := (HO.out.store (j := i) (.int .i64 y)).1
        have o2 := (o1.store (j := j) (.int .i64 x)).1
        have o3 := OwnC.keep (w' := World.drew ((wr.setCell ⟨g, i, none⟩ (.int .i64 y)).setCell ⟨g, j, none⟩ (.int .i64 x))) o2 fun _ _ _ _ => rfl
        have u2 : Upd lo hi w (World.drew ((wr.setCell ⟨g, i, none⟩ (.int .i64 y)).setCell ⟨g, j, none⟩ (.int .i64 x))) := ((hu.setCell (p := ⟨g, i, none⟩) hg1 hg2 _).setCell (p := ⟨g, j, none⟩) hg1 hg2 _).drewN 1
        refine ⟨⟨i + 1, (L.set i y).set j x, by omega, by go_num, int_eq (by have := HJ.out; push_cast; omega), by simpa [List.map_set] using o3, Lib.hid (by simp [HL.out]), Lib.hid (fun k hk => ?_), u2⟩, by first | (simp [intOf]; done) | (simp [intOf]; omega)⟩
        have hjj := HJ.out
        by_cases hki : k = i
        · subst hki
          rw [List.getElem?_set_ne (by omega), List.getElem?_set_self (by rw [HL.out]; omega), if_pos (by omega), show xs.length - 1 - k = j by omega]
          have := HK.out j (by omega)
          rw [E2.out, if_neg (by omega)] at this
          exact this
        · by_cases hkj : k = j
          · subst hkj
            rw [List.getElem?_set_self (by simp [HL.out]; omega), if_pos (by omega), show xs.length - 1 - k = i by omega]
            have := HK.out i (by omega)
            rw [E1.out, if_neg (by omega)] at this
            exact this
          · rw [List.getElem?_set_ne (by omega), List.getElem?_set_ne (by omega), HK.out k hk]
            by_cases hc : k < i ∨ xs.length ≤ k + i
            · rw [if_pos hc, if_pos (by omega)]
            · rw [if_neg hc, if_neg (by omega)]
    · have hjle : (xs.length : Int) - 1 - i ≤ i := by omega
      go_wp2_with (fail)
      go_end0
      refine ⟨rfl, ?_, hu⟩
      have e : L = xs.reverse := by
        apply List.ext_getElem?
        intro k
        by_cases hk : k < xs.length
        · rw [HK.out k hk, List.getElem?_reverse hk]
          by_cases hc : k < i ∨ xs.length ≤ k + i
          · rw [if_pos hc]
          · rw [if_neg hc, show xs.length - 1 - k = k by omega]
        · rw [List.getElem?_eq_none (by rw [HL.out]; omega), List.getElem?_eq_none (by rw [List.length_reverse]; omega)]
      rw [← e]
      exact ho

end Go.Proofs.YtnjgmhdmjaijgaaGreatDoor

/- keepsLimit: the program's limit on strands. -/
namespace Go.Proofs.YtnjgmhdmjaijgaaGreatDoor
open Go.RowKit

def iotaI (n : Nat) : List Int := (List.range n).map fun (i : Nat) => (i : Int)
theorem iotaI_length (n : Nat) : (iotaI n).length = n := by simp [iotaI]
theorem iotaI_at {n k : Nat} (h : k < n) : (iotaI n)[k]? = some (k : Int) := by simp [iotaI, h]

theorem sumOf_tiny (A : Option Addr) (c : Nat) (xs : List Int) (w : World) (h : Ints w A xs) (hl : xs.length ≤ 100) (ht : tinyB xs) :
    Calls Tryz.prog 95 #[.slice A xs.length c] w fun e w' => e = .returned (.int .i64 (sumI xs)) ∧ w = w' := by
  have HT := Lib.hid ht; clear ht
  go_enter Tryz.func95, Tryz.ntmps95
  go_wp2_with (fail)
  go_loopw [3, 8] (fun sv iv wr => ∃ (k : Nat) (s : Int), k ≤ xs.length ∧ sv = .int .i64 s ∧ iv = .int .i64 k ∧ Hid (s = sumI (xs.take k)) ∧ 0 ≤ s ∧ s ≤ 5 * (k : Int) ∧ w = wr) (fun _ iv _ => xs.length - (intOf iv).toNat)
  case atStart => exact ⟨0, 0, Nat.zero_le _, rfl, rfl, Lib.hid rfl, by omega, by omega, rfl⟩
  case round =>
    obtain ⟨k, s, hk8, rfl, rfl, HS, hs0, hs1, rfl⟩ := hrel
    by_cases hlt : k < xs.length
    · obtain ⟨b, off, x, rfl, hc, hx⟩ := h k hlt
      have hx4 := HT.out x (List.mem_of_getElem? hx)
      have HS2 : Hid (s + x = sumI (xs.take (k + 1))) := Lib.hid (by rw [sumI_snoc hx, HS.out])
      clear hx
      have j1 : (0 : Int) ≤ (k : Int) := by omega
      have j2 : (k : Int) < (xs.length : Int) := by omega
      go_wp2_with (fail)
      go_roundw
      case rel => exact ⟨k + 1, s + x, by omega, by go_num, by go_num, HS2, by omega, by omega, trivial⟩
      case measure => simp [intOf]; omega
    · have hs9 : s = sumI xs := by rw [HS.out, take_all (by omega)]
      have HS9 := Lib.hid hs9; clear hs9
      go_wp2_with (fail)
      go_ret
      exact ⟨ret_int HS9.out, rfl⟩

theorem impl_identity (n : Nat) (w : World) (hl : n ≤ 1000) :
    Calls Tryz.prog 123 #[.int .i64 n] w fun e w' => ∃ A' c', e = .returned (.slice A' (iotaI n).length c') ∧ OwnI w' w.heap.size w'.heap.size A' c' (iotaI n) ∧ Below w.heap.size w w' := by
  obtain ⟨i0, hi0, hz0, hz1, hz2⟩ := info_parts info_int64
  have hlen : n ≤ 9223372036854775807 := by omega
  go_enter Tryz.func123, Tryz.ntmps123
  go_wp2_with (refine wpList_make_full _ rfl _ _ _ rfl w.heap.size 2 i0 _ 1 Tryz.underlying34 hi0 hz0 hz1 .i64 .i64 _ _ n rfl rfl rfl rfl (by rw [hz2]; omega) (by unfold maxLen; omega) (Nat.le_refl _) ?_; intro w1 hown hg)
  have hb1 : Below w.heap.size w w1 := (Below.refl _ _).grown hg (Nat.le_refl _) (by simp)
  go_loopw [9] (fun i wr => ∃ (k : Nat) (cs : List Value), k ≤ n ∧ i = .int .i64 k ∧ wr.ownsRow w.heap.size 2 1 (.slice (some ⟨w.heap.size, 0, none⟩) n n) n cs ∧ cs.take k = ((iotaI n).take k).map (Value.int .i64) ∧ Below w.heap.size w wr) (fun i _ => n - (intOf i).toNat)
  case atStart => exact ⟨0, _, Nat.zero_le _, rfl, hown, by simp, hb1⟩
  case round =>
    clear hown hg hb1
    obtain ⟨k, cs, hk, rfl, hown, htk, hb⟩ := hrel
    have hcl : cs.length = n := by simpa using hown.1
    have HT := Lib.hid htk; clear htk
    have HC := Lib.hid hcl; clear hcl
    by_cases hlt : k < n
    · have hx := iotaI_at hlt
      have hcell : wr.cell? ⟨w.heap.size, k, none⟩ = some (cs[k]'(by rw [HC.out]; exact hlt)) := by
        rw [hown.cellAt k (by omega), List.getElem?_eq_getElem]
      have hfz := hown.frozenAt k
      have HX := Lib.hid hx; clear hx
      go_wp2
      go_roundw
      case rel =>
        refine ⟨k + 1, cs.set k (.int .i64 k), by omega, by go_num, (hown.stored k _).1, ?_, hb.setCell (p := ⟨w.heap.size, k, none⟩) (Nat.le_refl _) _⟩
        rw [take_set_succ _ _ _ (by rw [HC.out]; exact hlt), HT.out, take_snoc HX.out]
        simp
      case measure => simp [intOf]; omega
    · go_wp2
      go_ret
      have : k = n := by omega
      subst this
      have e : cs = (iotaI k).map (Value.int .i64) := by
        have := HT.out
        rwa [take_all (by rw [HC.out]; exact Nat.le_refl _), take_all (by rw [iotaI_length]; exact Nat.le_refl _)] at this
      subst e
      refine ⟨some ⟨w.heap.size, 0, none⟩, k, by rw [iotaI_length]; rfl, ?_, hb⟩
      show OwnC _ _ _ _ _ _ _ _ _
      rw [iotaI_length]
      exact OwnC.of_own hown (Nat.le_refl _)

theorem impl_order (d r : Int) (ks : List Int) (A : Option Addr) (c : Nat) (w : World) (hl : ks.length ≤ 1000) :
    Calls Tryz.prog 96 #[.agg #[.int .i64 d, .int .i64 r, .slice A ks.length c]] w fun e w' => ∃ A' c', e = .returned (.slice A' (ordL d (iotaI ks.length)).length c') ∧ OwnI w' w.heap.size w'.heap.size A' c' (ordL d (iotaI ks.length)) ∧ Below w.heap.size w w' := by
  have hb1 : Below w.heap.size w (w.alloc (.cells #[.int .i64 d, .int .i64 r, .slice A ks.length c] 42)) := by (repeat (first | exact Below.refl _ _ | assumption | apply Below.drew | apply below_drewN | (refine Below.alloc ?_ (by first | omega | (simp; done) | (simp; omega)) _) | (refine Below.setCell ?_ (by first | omega | (simp; done) | (simp; omega)) _)))
  have kb := Blk.new w 42 #[.int .i64 d, .int .i64 r, .slice A ks.length c]
  obtain ⟨u0, u1, u2⟩ := kb.c3
  go_enter Tryz.func96, Tryz.ntmps96
  go_wp2_with (fail)
  refine (impl_identity ks.length _ hl).mono ?_; rintro e w2 ⟨A2, c2, rfl, o2, b2⟩
  simp only [World.size_alloc] at b2 o2
  obtain ⟨v0, v1, v2⟩ := (kb.below b2 (by omega)).c3
  have hb2 : Below w.heap.size w w2 := hb1.trans (b2.mono (by omega))
  clear u0 u1 u2
  have z2 := b2.size
  simp only [World.size_alloc] at z2
  by_cases hd : d = -1
  · subst hd
    have HF : Hid (ordL (-1) (iotaI ks.length) = (iotaI ks.length).reverse) := Lib.hid rfl
    go_wp2_with (fail)
    refine (slices_Reverse A2 c2 (iotaI ks.length) _ _ _ o2 (by rw [iotaI_length]; omega)).mono ?_; rintro e w3 ⟨rfl, o3, u3⟩
    go_wp2_with (fail)
    go_ret
    rw [HF.out]
    refine ⟨A2, c2, by rw [List.length_reverse]; rfl, ?_, hb2.trans ((u3.below (by omega)).mono (by omega))⟩
    show OwnC _ _ _ _ _ _ _ _ _
    rw [List.length_reverse]
    exact o3.mono (by omega) u3.size
  · have hd' : (d == -1) = false := by simp [hd]
    have HF : Hid (ordL d (iotaI ks.length) = iotaI ks.length) := Lib.hid (by rw [ordL, if_neg hd])
    go_wp2_with (fail)
    go_ret
    rw [HF.out]
    exact ⟨A2, c2, rfl, o2.mono (by omega) (Nat.le_refl _), hb2⟩

end Go.Proofs.YtnjgmhdmjaijgaaGreatDoor

/- keepsLimit. -/
namespace Go.Proofs.YtnjgmhdmjaijgaaGreatDoor
open Go.RowKit

theorem ordL_map (d : Int) (cs : List Int) {k : Nat} (h : k < cs.length) : ∃ j : Nat, j < cs.length ∧ (ordL d (iotaI cs.length))[k]? = some (j : Int) ∧ (ordL d cs)[k]? = cs[j]? := by
  by_cases hd : d = -1
  · subst hd
    refine ⟨cs.length - 1 - k, by omega, ?_, ordL_rev h⟩
    rw [ordL_rev (by rw [iotaI_length]; exact h), iotaI_length]
    exact iotaI_at (by omega)
  · refine ⟨k, h, ?_, ?_⟩
    · unfold ordL; rw [if_neg hd]; exact iotaI_at h
    · unfold ordL; rw [if_neg hd]

set_option maxHeartbeats 4000000 in
set_option maxRecDepth 20000 in
theorem impl_keepsLimit (d r : Int) (st ks : List Int) (b0 off0 c : Nat) (B : Option Addr) (cc : Nat) (w : World) (h : Ints w (some ⟨b0, off0, none⟩) st) (hc0 : st.length ≤ c) (hcm : c ≤ 9223372036854775807) (h' : Ints w B ks) (h1 : stacksB st = true) (h2 : stitchesB ks = true) (h3 : takenS ks = st.length) :
    Calls Tryz.prog 63 #[.agg #[.int .i64 d, .int .i64 r, .slice B ks.length cc], .slice (some ⟨b0, off0, none⟩) st.length c] w fun e w' => e = .returned (.bool (keepB d st ks)) ∧ Below w.heap.size w w' := by
  obtain ⟨i0, hi0, hz0, hz1, hz2⟩ := info_parts info_int64
  obtain ⟨hl16, hst⟩ := stitchesB_of h2
  obtain ⟨hl8, hr⟩ := stacksB_of h1
  have hsum := sumI_le (tinyB_of hr)
  have HTT : Hid (tinyB st) := Lib.hid (tinyB_of hr)
  have HST := Lib.hid hst; clear hst
  have HR := Lib.hid hr; clear hr
  have HEQ := Lib.hid h3; clear h3
  have hb1 : Below w.heap.size w (w.alloc (.cells #[.int .i64 d, .int .i64 r, .slice B ks.length cc] 42)) := by (repeat (first | exact Below.refl _ _ | assumption | apply Below.drew | apply below_drewN | (refine Below.alloc ?_ (by first | omega | (simp; done) | (simp; omega)) _) | (refine Below.setCell ?_ (by first | omega | (simp; done) | (simp; omega)) _)))
  have kb0 := Blk.new w 42 #[.int .i64 d, .int .i64 r, .slice B ks.length cc]
  go_enter Tryz.func63, Tryz.ntmps63
  go_wp2_with (fail)
  refine (sumOf_tiny _ _ _ _ (h.below hb1) (by omega) HTT.out).mono ?_; rintro e _ ⟨rfl, rfl⟩
  have kb1 := kb0.alloc (.cells #[] 2)
  obtain ⟨p0, p1, p2⟩ := kb1.c3
  go_wp2_with (fail)
  go_loopw [6, 7, 22] (fun ov rv iv wr => ∃ (i t o lr cr : Nat) (A' : Option Addr) (c' : Nat) (out : List Int), i ≤ ks.length ∧ iv = .int .i64 i ∧ rv = .slice (some ⟨b0, o, none⟩) lr cr ∧ st.length = t + lr ∧ c = t + cr ∧ (0 < lr → o = off0 + t) ∧ ov = .slice A' out.length c' ∧ out.length ≤ i ∧ OwnI wr (w.heap.size + 1) wr.heap.size A' c' out ∧ Blk wr w.heap.size 42 #[.int .i64 d, .int .i64 r, .slice B ks.length cc] ∧ Below w.heap.size w wr ∧ Hid (takenS (ks.take i) = t) ∧ Hid (changesP ks st = out ++ changesP (ks.drop i) (st.drop t))) (fun _ _ iv _ => ks.length - (intOf iv).toNat)
  case atStart =>
    refine ⟨0, 0, off0, st.length, c, some ⟨w.heap.size + 1, 0, none⟩, 0, [], Nat.zero_le _, rfl, rfl, by omega, by omega, fun _ => rfl, rfl, Nat.le_refl _, ?_, kb1, by (repeat (first | exact Below.refl _ _ | assumption | apply Below.drew | apply below_drewN | (refine Below.alloc ?_ (by first | omega | (simp; done) | (simp; omega)) _) | (refine Below.setCell ?_ (by first | omega | (simp; done) | (simp; omega)) _))), Lib.hid rfl, Lib.hid (by simp)⟩
    have := (OwnC.lit (w := w.alloc (.cells #[.int .i64 d, .int .i64 r, .slice B ks.length cc] 42)) (lo := w.heap.size + 1) (n := 0) 2 1 #[] (by simp) (Nat.zero_le _) rfl)
    simpa [OwnI] using this
  case round =>
    clear p0 p1 p2 kb1
    obtain ⟨i, t, o, lr, cr, A', c', out, hi, rfl, rfl, hlr, hcr, hor, rfl, hol, ho, kb, hb, HT, HA⟩ := hrel
    have hzs := hb.size
    have hzk := kb.lt
    obtain ⟨p0, p1, p2⟩ := kb.c3
    by_cases hlt : i < ks.length
    · obtain ⟨b, off, k, rfl, hc, hk⟩ := h' i hlt
      replace hc := cells_below hb _ _ hc
      have hq := HST.out k (List.mem_of_getElem? hk)
      have hle : t + takenN k ≤ st.length := by have := takenS_at hk; rw [HT.out, HEQ.out] at this; exact this
      have HT2 : Hid (takenS (ks.take (i + 1)) = t + takenN k) := Lib.hid (by rw [takenS_snoc hk, HT.out])
      have HA2 : Hid (changesP ks st = (out ++ [changeI k (st.drop t)]) ++ changesP (ks.drop (i + 1)) (st.drop (t + takenN k))) := Lib.hid (by rw [HA.out, drop_cons hk, changesP, List.append_assoc, List.drop_drop]; rfl)
      have HB : Hid (takenB k = takenN k) := Lib.hid (takenB_of hq)
      have hml := stepMade_length hq (st.drop t)
      have hch := changeI_le hq (st := st.drop t) (fun x hx => HR.out x (List.mem_of_mem_drop hx))
      have hpart : Ints w (some ⟨b0, o, none⟩) ((st.drop t).take (takenN k)) := by
        by_cases h0 : 0 < lr
        · rw [hor h0]; exact Ints.take (h.drop t) _
        · have : (st.drop t).take (takenN k) = [] := by rw [drop_all (by omega)]; simp
          rw [this]; exact Ints.nil
      have hpl : ((st.drop t).take (takenN k)).length = takenN k := by rw [List.length_take, List.length_drop]; omega
      have hcon : ∀ W, Below w.heap.size w W → Calls Tryz.prog 94 #[.int .i64 k, .slice (some ⟨b0, o, none⟩) (takenN k) cr] W fun e w' => ∃ A' c', e = .returned (.tuple #[.slice A' (stepMade k (st.drop t)).length c', .bool (stepOk k (st.drop t))]) ∧ OwnI w' W.heap.size w'.heap.size A' c' (stepMade k (st.drop t)) ∧ Below W.heap.size W w' := fun W hW => by
        have := impl_madeStacks k (some ⟨b0, o, none⟩) ((st.drop t).take (takenN k)) cr W (hpart.below hW) hq hpl fun x hx => HR.out x (List.mem_of_mem_drop (List.mem_of_mem_take hx))
        rw [(step_take hq (st.drop t)).1, (step_take hq (st.drop t)).2, hpl] at this
        exact this
      have HC := Lib.hid hcon
      have hsm : ∀ W, Below w.heap.size w W → Calls Tryz.prog 95 #[.slice (some ⟨b0, o, none⟩) (takenN k) cr] W fun e w' => e = .returned (.int .i64 (sumI ((st.drop t).take (takenN k)))) ∧ W = w' := fun W hW => by
        have := sumOf_tiny (some ⟨b0, o, none⟩) cr ((st.drop t).take (takenN k)) W (hpart.below hW) (by rw [hpl]; omega) (tinyB_take (tinyB_drop HTT.out t) _)
        rwa [hpl] at this
      have HSM := Lib.hid hsm
      have hs1 := sumI_le (tinyB_take (tinyB_drop HTT.out t) (takenN k))
      rw [hpl] at hs1
      have htm := tinyB_made k (st := st.drop t) (fun x hx => HR.out x (List.mem_of_mem_drop hx))
      have hs2 := sumI_le htm
      have HTM := Lib.hid htm; clear htm
      have HCH : Hid (changeI k (st.drop t) = sumI (stepMade k (st.drop t)) - sumI ((st.drop t).take (takenN k))) := Lib.hid rfl
      have htn := (takenN_le k hq).1
      clear hk HT HA hcon hpart hpl hsm
      have hn1 : takenN k ≤ lr := by omega
      have hn2 : takenN k ≤ cr := by omega
      have hn3 : lr ≤ cr := by omega
      have hn4 : cr ≤ 9223372036854775807 := by omega
      have HLR := Lib.hid hlr; clear hlr
      have HCR := Lib.hid hcr; clear hcr
      go_wp2_with (fail)
      refine (impl_ColumnsTaken _ _).mono ?_; rintro e _ ⟨rfl, rfl⟩
      rw [HB.out]
      go_wp2_with (fail)
      refine (HC.out _ hb).mono ?_; rintro e w2 ⟨A2, c2, rfl, o2, b2⟩
      have hb2 : Below w.heap.size w w2 := hb.trans (b2.mono hzs)
      have hz2' := b2.size
      have ho2 := ho.below b2 (Nat.le_refl _)
      have kb2 := kb.below b2 hzk
      obtain ⟨q0, q1, q2⟩ := kb2.c3
      generalize stepMade k (st.drop t) = ms at o2 hml hs2 HTM HCH
      generalize sumI ((st.drop t).take (takenN k)) = X at HSM hs1 HCH
      obtain ⟨Y, hY⟩ : ∃ Y, Y = sumI ms := ⟨_, rfl⟩
      rw [← hY] at hs2 HCH
      have HY := Lib.hid hY; clear hY
      have HMI := Lib.hid o2.ints
      have HO2 := Lib.hid ho2; clear ho2
      have hms4 : ms.length ≤ 100 := by omega
      have e1 : IntKind.i64.wrap (Y - X) = Y - X := IntWalk.i64_in _ (by omega)
      have HDB := Lib.hid (Below.drew2 hb2)
      have HSY : Hid (∀ W, Ints W A2 ms → Calls Tryz.prog 95 #[.slice A2 ms.length c2] W fun e w' => e = .returned (.int .i64 Y) ∧ W = w') := Lib.hid (fun W hW => by have := sumOf_tiny A2 c2 ms W hW hms4 HTM.out; rwa [← HY.out] at this)
      have HDI := Lib.hid (Ints.drew1 HMI.out)
      have hlo : w.heap.size + 1 ≤ w2.heap.size := by omega
      go_wp2_with (fail)
      go_region_law (first | (go_simp; go_at_call 95; first | (with_reducible refine (HSM.out _ HDB.out).mono ?_; rintro e _ ⟨rfl, rfl⟩) | (with_reducible refine (HSY.out _ HDI.out).mono ?_; rintro e _ ⟨rfl, rfl⟩)) | (refine step_append1d [.int .i64 (Y - X)] _ rfl (.tmp 36) (.tmp 44) _ rfl 2 i0 _ 1 8 Tryz.underlying34 hi0 hz0 hz1 hz2 rfl (by decide) (by simp [Act.eval]) HO2.out hlo 1 (by simp [Act.eval]) rfl (by simp [Value.oneCell']) (by omega) (by decide) ?_; intro A5 c5 w5 ho5 hg5 hb5 hz5))
      all_goals
        have kq : Blk (World.drew (w2.alloc (.cells #[.int .i64 (Y - X)] 2))) w.heap.size 42 #[.int .i64 d, .int .i64 r, .slice (some ⟨b, off, none⟩) ks.length cc] := kb2.alloc _
        have oq := OwnC.keep (w' := World.drew (w2.alloc (.cells #[.int .i64 (Y - X)] 2))) (HO2.out.alloc (.cells #[.int .i64 (Y - X)] 2)) fun _ _ _ _ => rfl
        have kb5 := kq.grownT oq (show (42 : TypeId) ≠ 2 by decide) hg5
        clear kq oq
        have hb5' : Below w.heap.size w w5 := hb2.trans (hb5.mono (by omega))
        have ho5' : OwnI w5 (w.heap.size + 1) w5.heap.size A5 c5 (out ++ [Y - X]) := by show OwnC _ _ _ _ _ _ _ _ _; rw [List.map_append, List.length_append]; exact ho5
        have HA3 : Hid (changesP ks st = (out ++ [Y - X]) ++ changesP (ks.drop (i + 1)) (st.drop (t + takenN k))) := Lib.hid (by rw [HA2.out, HCH.out])
        clear HA2
        by_cases hcn : cr = takenN k
        · have hcn' : cr ≤ takenN k := by omega
          clear hcn
          go_wp2_with (fail)
          go_roundw
          case rel => exact ⟨i + 1, t + takenN k, o, lr - takenN k, cr - takenN k, A5, c5, out ++ [Y - X], by omega, by go_num, by first | rfl | (simp; done) | (simp; omega), by have := HLR.out; omega, by have := HCR.out; omega, fun h0 => by omega, by rw [List.length_append]; rfl, by simp; omega, ho5', kb5, hb5', HT2, HA3⟩
          case measure => simp [intOf]; omega
        · go_wp2_with (fail)
          go_roundw
          case rel => exact ⟨i + 1, t + takenN k, o + takenN k, lr - takenN k, cr - takenN k, A5, c5, out ++ [Y - X], by omega, by go_num, by first | rfl | (simp; done) | (simp; omega), by have := HLR.out; omega, by have := HCR.out; omega, fun h0 => by have := hor (by omega); omega, by rw [List.length_append]; rfl, by simp; omega, ho5', kb5, hb5', HT2, HA3⟩
          case measure => simp [intOf]; omega
    · have he := HA.out
      rw [drop_all (by omega), changesP, List.append_nil] at he
      have hch : ∀ x ∈ out, -20 ≤ x ∧ x ≤ 20 := by
        intro x hx
        rw [← he] at hx
        obtain ⟨j, hj⟩ := List.getElem?_of_mem hx
        have hjl := (List.getElem?_eq_some_iff.1 hj).1
        rw [changesP_length] at hjl
        have hkk : ks[j]? = some ks[j] := List.getElem?_eq_getElem hjl
        rw [changesP_at hkk] at hj
        injection hj with hj
        rw [← hj]
        exact changeI_le (HST.out _ (List.mem_of_getElem? hkk)) (fun x hx => HR.out x (List.mem_of_mem_drop hx))
      have hkl : out.length = ks.length := by rw [← he, changesP_length]
      have HCH := Lib.hid hch; clear hch
      have HE : Hid (keepB d st ks = limB (sumI st) ((ordL d out).drop 0)) := Lib.hid (by rw [← he]; rfl)
      have HKL := Lib.hid hkl; clear hkl he
      obtain ⟨s0, hs0⟩ : ∃ s0, s0 = sumI st := ⟨_, rfl⟩
      rw [← hs0] at hsum HE ⊢
      clear hs0
      go_wp2_with (fail)
      refine (impl_order d r ks B cc _ (by omega)).mono ?_; rintro e w2 ⟨A2, c2, rfl, o2, b2⟩
      have hb2 : Below w.heap.size w w2 := hb.trans (b2.mono hzs)
      have ho2 := (ho.below b2 (Nat.le_refl _)).ints
      have hi2 := o2.ints
      have HOI : Hid (∀ q, q < out.length → ∃ j : Nat, j < out.length ∧ (ordL d (iotaI ks.length))[q]? = some (j : Int) ∧ (ordL d out)[q]? = out[j]?) := Lib.hid (fun q hq => by have := ordL_map d out hq; rwa [HKL.out] at this ⊢)
      have hol2 : (ordL d (iotaI ks.length)).length = ks.length := by rw [ordL_length, iotaI_length]
      have HOL2 := Lib.hid hol2
      obtain ⟨L, hL⟩ : ∃ L, L = ordL d (iotaI ks.length) := ⟨_, rfl⟩
      rw [← hL] at HOI HOL2 hi2 hol2 ⊢
      clear hL o2 hol2
      go_wp2_with (fail)
      go_loopw [5, 53] (fun sv qv wq => ∃ (q : Nat) (s : Int), q ≤ ks.length ∧ sv = .int .i64 s ∧ qv = .int .i64 q ∧ Hid (keepB d st ks = limB s ((ordL d out).drop q)) ∧ -100 - 20 * (q : Int) ≤ s ∧ s ≤ 100 + 20 * (q : Int) ∧ w2 = wq) (fun _ qv _ => ks.length - (intOf qv).toNat)
      case atStart => exact ⟨0, s0, Nat.zero_le _, rfl, rfl, HE, by omega, by omega, rfl⟩
      case round =>
        obtain ⟨q, s, hq, rfl, rfl, HK, hsa, hsb, rfl⟩ := hrel
        have hLl := HOL2.out
        by_cases hqt : q < ks.length
        · obtain ⟨j, hj, hLq, hoj⟩ := HOI.out q (by rw [HKL.out]; exact hqt)
          obtain ⟨b2, off2, x2, rfl, hcx, hx2⟩ := hi2 q (by omega)
          rw [hLq] at hx2
          injection hx2 with hx2
          subst hx2
          obtain ⟨b3, off3, x3, rfl, hcy, hy⟩ := ho2 j hj
          have hx3 := HCH.out x3 (List.mem_of_getElem? hy)
          have HLB : Hid (limB s ((ordL d out).drop q) = (decide (s + x3 ≤ 12) && limB (s + x3) ((ordL d out).drop (q + 1)))) := Lib.hid (limB_drop (by rw [hoj, hy]))
          clear hLq hoj hy
          have hjk : j < ks.length := by rw [← HKL.out]; exact hj
          have i1 : (0 : Int) ≤ (q : Int) := by omega
          have i2 : (q : Int) < (L.length : Int) := by omega
          have i3 : (0 : Int) ≤ (j : Int) := by omega
          have i4 : (j : Int) < (out.length : Int) := by omega
          have e1 : IntKind.i64.wrap (s + x3) = s + x3 := IntWalk.i64_in _ (by omega)
          by_cases h12 : s + x3 ≤ 12
          · have h12' : decide (12 < s + x3) = false := decide_eq_false (by omega)
            have HK2 : Hid (keepB d st ks = limB (s + x3) ((ordL d out).drop (q + 1))) := Lib.hid (by rw [HK.out, HLB.out, decide_eq_true h12, Bool.true_and])
            go_wp2_with (fail)
            go_roundw
            case rel => exact ⟨q + 1, s + x3, by omega, by go_num, by go_num, HK2, by omega, by omega, trivial⟩
            case measure => simp [intOf]; omega
          · have h12' : decide (12 < s + x3) = true := decide_eq_true (by omega)
            have HK2 : Hid (keepB d st ks = false) := Lib.hid (by rw [HK.out, HLB.out, decide_eq_false h12, Bool.false_and])
            go_wp2_with (fail)
            go_ret
            exact ⟨ret_bool HK2.out.symm, hb2⟩
        · have HK2 : Hid (keepB d st ks = true) := Lib.hid (by rw [HK.out, drop_all (by rw [ordL_length, HKL.out]; omega)]; rfl)
          go_wp2_with (fail)
          go_ret
          exact ⟨ret_bool HK2.out.symm, hb2⟩

end Go.Proofs.YtnjgmhdmjaijgaaGreatDoor
