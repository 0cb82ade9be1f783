/- Steps of the proof, joined from several texts: K1 DI. -/
import Derived.Test.YtifjdiiafofnpaaDoorZ3
import Derived.Test.YtifjdiiafofnpaaDoorZ4
import Derived.Test.YtifjdiiafofnpaaDoorZ15

/- CompressRow: stitches as pieces without groups. -/
namespace Go.Proofs.YtifjdiiafofnpaaDoor
open Go.RowKit

/-- One stitch more: the last piece is made once more, or there is a new piece. -/
def pushP (ps : List PieceD) (k : Int) : List PieceD :=
  match ps.getLast? with
  | some p => if p.kind = k then ps.dropLast ++ [⟨p.kind, p.times + 1, p.len⟩] else ps ++ [⟨k, 1, 0⟩]
  | none => [⟨k, 1, 0⟩]
def compressed (xs : List Int) : List PieceD := xs.foldl pushP []
theorem compressed_snoc (xs : List Int) (x : Int) : compressed (xs ++ [x]) = pushP (compressed xs) x := by simp [compressed]
theorem pushP_nil (k : Int) : pushP [] k = [⟨k, 1, 0⟩] := rfl
theorem pushP_same (ps : List PieceD) (p : PieceD) : pushP (ps ++ [p]) p.kind = ps ++ [⟨p.kind, p.times + 1, p.len⟩] := by simp [pushP]
theorem pushP_other {ps : List PieceD} {p : PieceD} {k : Int} (h : p.kind ≠ k) : pushP (ps ++ [p]) k = ps ++ [p] ++ [⟨k, 1, 0⟩] := by simp [pushP, h]
theorem pushP_last (ps : List PieceD) (k : Int) : ∃ qs t l, pushP ps k = qs ++ [⟨k, t, l⟩] := by
  rcases List.eq_nil_or_concat ps with rfl | ⟨qs, p, rfl⟩
  · exact ⟨[], 1, 0, rfl⟩
  · rw [List.concat_eq_append]
    by_cases h : p.kind = k
    · subst h
      exact ⟨qs, _, _, pushP_same qs p⟩
    · exact ⟨_, _, _, pushP_other h⟩
theorem pushP_length (ps : List PieceD) (k : Int) : (pushP ps k).length ≤ ps.length + 1 := by
  rcases List.eq_nil_or_concat ps with rfl | ⟨qs, p, rfl⟩
  · simp [pushP]
  · rw [List.concat_eq_append]
    by_cases h : p.kind = k
    · subst h
      rw [pushP_same]; simp
    · rw [pushP_other h]; simp
def compressP (xs : List Int) : List PieceD := if stitchesB xs then compressed xs else []
theorem snocInd {α : Type} {P : List α → Prop} (h0 : P []) (h1 : ∀ xs x, P xs → P (xs ++ [x])) (xs : List α) : P xs := by
  rw [← List.reverse_reverse xs]
  induction xs.reverse with
  | nil => exact h0
  | cons x r ih => rw [List.reverse_cons]; exact h1 _ _ ih
theorem compressed_inv (xs : List Int) : (compressed xs).length ≤ xs.length ∧ (∀ p ∈ compressed xs, 1 ≤ p.times ∧ p.times ≤ xs.length ∧ p.len = 0) ∧ (∀ x, xs.getLast? = some x → ∃ qs t l, compressed xs = qs ++ [⟨x, t, l⟩]) := by
  induction xs using snocInd with
  | h0 => exact ⟨by simp [compressed], by simp [compressed], by simp⟩
  | h1 xs x ih =>
    obtain ⟨h1, h2, _⟩ := ih
    rw [compressed_snoc]
    refine ⟨by have := pushP_length (compressed xs) x; simp; omega, fun p hp => ?_, fun y hy => ?_⟩
    · rw [List.length_append, List.length_singleton]
      rcases List.eq_nil_or_concat (compressed xs) with e | ⟨qs, q, e⟩
      · rw [e] at hp
        simp [pushP] at hp
        subst hp
        exact ⟨Int.le_refl _, by show (1 : Int) ≤ ((xs.length + 1 : Nat) : Int); omega, rfl⟩
      · rw [List.concat_eq_append] at e
        rw [e] at hp h2
        have hq := h2 q (by simp)
        by_cases h : q.kind = x
        · subst h
          rw [pushP_same, List.mem_append] at hp
          rcases hp with hp | hp
          · have := h2 p (List.mem_append_left _ hp); exact ⟨this.1, by omega, this.2.2⟩
          · simp at hp
            subst hp
            exact ⟨by show 1 ≤ q.times + 1; omega, by show q.times + 1 ≤ ((xs.length + 1 : Nat) : Int); omega, hq.2.2⟩
        · rw [pushP_other h, List.mem_append] at hp
          rcases hp with hp | hp
          · have := h2 p hp; exact ⟨this.1, by omega, this.2.2⟩
          · simp at hp
            subst hp
            exact ⟨Int.le_refl _, by show (1 : Int) ≤ ((xs.length + 1 : Nat) : Int); omega, rfl⟩
    · simp at hy
      subst hy
      exact pushP_last _ _
theorem compressP_length (xs : List Int) : (compressP xs).length ≤ 16 := by
  unfold compressP
  split
  · rename_i h
    have := (compressed_inv xs).1
    unfold stitchesB at h
    simp at h
    omega
  · simp
theorem cellsPiece_append (a b : List PieceD) : cellsPiece (a ++ b) = cellsPiece a ++ cellsPiece b := by
  induction a with
  | nil => rfl
  | cons x r ih => simp [cellsPiece, ih]
theorem cellsPiece_bump (qs : List PieceD) (p : PieceD) (v : Int) : (cellsPiece (qs ++ [p])).set (qs.length * 3 + 1) (.int .i64 v) = cellsPiece (qs ++ [⟨p.kind, v, p.len⟩]) := by
  rw [cellsPiece_append, cellsPiece_append, List.set_append_right _ _ (by rw [cellsPiece_length]; omega), cellsPiece_length]
  simp [cellsPiece]
theorem oneCell_int {k : IntKind} {n : Int} : (Value.int k n).oneCell' = true := rfl

set_option maxHeartbeats 2000000 in
theorem impl_compressed (A : Option Addr) (c : Nat) (xs : List Int) (w : World) (h : Ints w A xs) (hl : xs.length ≤ 1000000) :
    Calls Tryd.prog 67 #[.slice A xs.length c] w fun e w' => ∃ A' c', e = .returned (.slice A' (compressed xs).length c') ∧ OwnPiece w' w.heap.size w'.heap.size A' c' (compressed xs) ∧ Below w.heap.size w w' := by
  obtain ⟨i0, hi0, hz0, hz1, hz2⟩ := info_parts info_Piece
  go_enter Tryd.func67, Tryd.ntmps67
  go_wp2_with (fail)
  go_loopw [3, 9] (fun ov i wr => ∃ (k : Nat) (A' : Option Addr) (c' : Nat), k ≤ xs.length ∧ i = .int .i64 k ∧ ov = .slice A' (compressed (xs.take k)).length c' ∧ OwnPiece wr w.heap.size wr.heap.size A' c' (compressed (xs.take k)) ∧ Below w.heap.size w wr) (fun _ i _ => xs.length - (intOf i).toNat)
  case atStart =>
    exact ⟨0, some ⟨w.heap.size, 0, none⟩, 0, Nat.zero_le _, rfl, rfl, (OwnC.lit _ 3 #[] (Nat.le_refl _) (Nat.zero_le _) rfl).mono (Nat.le_refl _) (by simp), by (repeat (first | exact Below.refl _ _ | assumption | apply Below.drew | apply below_drewN | (refine Below.alloc ?_ (by first | omega | (simp; done) | (simp; omega)) _) | (refine Below.setCell ?_ (by first | omega | (simp; done) | (simp; omega)) _)))⟩
  case round =>
    obtain ⟨k, A', c', hk, rfl, rfl, ho, hb⟩ := hrel
    have hinv := compressed_inv (xs.take k)
    have hlk : (xs.take k).length ≤ k := List.length_take_le _ _
    have hzs := hb.size
    by_cases hlt : k < xs.length
    · obtain ⟨b, off, x, rfl, hc, hx⟩ := h k hlt
      replace hc := cells_below hb _ _ hc
      have HS : Hid (compressed (xs.take (k + 1)) = pushP (compressed (xs.take k)) x) := Lib.hid (by rw [take_snoc hx, compressed_snoc])
      clear hx
      generalize compressed (xs.take k) = ps at ho hinv HS
      obtain ⟨hp1, hp2, _⟩ := hinv
      rcases List.eq_nil_or_concat ps with rfl | ⟨qs, p, rfl⟩
      · go_wp2_with (at_builtin; refine wpList_append1 wr [.int .i64 x, .int .i64 1, .int .i64 0] _ rfl (.tmp 37) (.tmp 40) _ rfl 61 i0 _ 3 24 Tryd.underlying30 hi0 hz0 hz1 hz2 rfl (by decide) rfl ho hzs 1 rfl rfl (by simp [Value.oneCell']) (by simp) (by decide) ?_; intro A2 c2 w2 ho2 hg2 hb2 hz2')
        go_roundw
        case rel => exact ⟨k + 1, A2, c2, by omega, by go_num, by rw [HS.out]; rfl, by rw [HS.out]; exact ho2, hb.trans hb2⟩
        case measure => simp [intOf]; omega
      · rw [List.concat_eq_append] at *
        have hlen : (qs ++ [p]).length = qs.length + 1 := by simp
        have hq : qs.length + 1 ≤ 1000000 := by rw [hlen] at hp1; omega
        have ho' : OwnC wr w.heap.size wr.heap.size 61 3 A' (qs.length + 1) c' (cellsPiece (qs ++ [p])) := by rw [← hlen]; exact ho
        have hpt := hp2 p (by simp)
        obtain ⟨e0, e1, e2⟩ := cellsPiece_at (ps := qs ++ [p]) (i := qs.length) (p := p) (by simp)
        have hcl := cellsPiece_length (qs ++ [p])
        rw [hlen] at hcl
        obtain ⟨g, rfl, _, _, q0, f0⟩ := ho'.cell (j := qs.length * 3) (by omega)
        obtain ⟨_, hA, _, _, q1, f1⟩ := ho'.cell (j := qs.length * 3 + 1) (by omega)
        injection hA with hA
        injection hA with hA
        subst hA
        rw [List.getElem?_eq_getElem (by omega)] at e0 e1
        injection e0 with e0
        injection e1 with e1
        rw [e0] at q0
        rw [e1] at q1
        have HLEN := Lib.hid hlen
        clear hcl e0 e1 e2 hp2 hp1
        rw [hlen]
        clear hlen ho
        have d0 : decide ((0 : Int) < ((qs.length + 1 : Nat) : Int)) = true := decide_eq_true (by omega)
        by_cases hpx : p.kind = x
        · subst hpx
          go_wp2_with (fail)
          refine ⟨⟨k + 1, some ⟨g, 0, none⟩, c', by omega, by go_num, ?_, ?_, by (repeat (first | exact Below.refl _ _ | assumption | apply Below.drew | apply below_drewN | (refine Below.alloc ?_ (by first | omega | (simp; done) | (simp; omega)) _) | (refine Below.setCell ?_ (by first | omega | (simp; done) | (simp; omega)) _)))⟩, by simp [intOf]; omega⟩
          · rw [HS.out, pushP_same]; simp
          · rw [HS.out, pushP_same]
            show OwnC _ _ _ _ _ _ _ _ _
            rw [show (qs ++ [(⟨p.kind, p.times + 1, p.len⟩ : PieceD)]).length = qs.length + 1 by simp, ← cellsPiece_bump]
            exact ((ho'.store _).1.mono (Nat.le_refl _) (by simp))
        · have hpx' : (p.kind == x) = false := by simpa using hpx
          go_wp2_with (at_builtin; refine wpList_append1 wr [.int .i64 x, .int .i64 1, .int .i64 0] _ rfl (.tmp 37) (.tmp 40) _ rfl 61 i0 _ 3 24 Tryd.underlying30 hi0 hz0 hz1 hz2 rfl (by decide) rfl ho' hzs 1 rfl rfl (by simp [Value.oneCell']) (by omega) (by decide) ?_; intro A2 c2 w2 ho2 hg2 hb2 hz2')
          go_roundw
          case rel =>
            refine ⟨k + 1, A2, c2, by omega, by go_num, ?_, ?_, hb.trans hb2⟩
            · rw [HS.out, pushP_other hpx]; simp
            · rw [HS.out, pushP_other hpx]
              show OwnC _ _ _ _ _ _ _ _ _
              rw [cellsPiece_snoc, show (qs ++ [p] ++ [(⟨x, 1, 0⟩ : PieceD)]).length = qs.length + 1 + 1 by simp]
              exact ho2
          case measure => simp [intOf]; omega
    · go_wp2_with (fail)
      go_ret
      rw [take_all (by omega)] at ho ⊢
      exact ⟨_, _, rfl, ho, hb⟩

set_option maxHeartbeats 2000000 in
theorem spec_l16Compress (A : Option Addr) (c : Nat) (xs : List Int) (w : World) (h : Ints w A xs) (hl : xs.length ≤ 1000000) :
    Calls Tryd.prog 33 #[.slice A xs.length c] w fun e w' => ∃ A' c', e = .returned (.slice A' (compressed xs).length c') ∧ OwnPiece w' w.heap.size w'.heap.size A' c' (compressed xs) ∧ Below w.heap.size w w' := by
  obtain ⟨i0, hi0, hz0, hz1, hz2⟩ := info_parts info_Piece
  go_enter Tryd.func33, Tryd.ntmps33
  go_wp2_with (fail)
  go_loopw [3, 4] (fun ov i wr => ∃ (k : Nat) (A' : Option Addr) (c' : Nat), k ≤ xs.length ∧ i = .int .i64 k ∧ ov = .slice A' (compressed (xs.take k)).length c' ∧ OwnPiece wr w.heap.size wr.heap.size A' c' (compressed (xs.take k)) ∧ Below w.heap.size w wr) (fun _ i _ => xs.length - (intOf i).toNat)
  case atStart =>
    exact ⟨0, some ⟨w.heap.size, 0, none⟩, 0, Nat.zero_le _, rfl, rfl, (OwnC.lit _ 3 #[] (Nat.le_refl _) (Nat.zero_le _) rfl).mono (Nat.le_refl _) (by simp), by (repeat (first | exact Below.refl _ _ | assumption | apply Below.drew | apply below_drewN | (refine Below.alloc ?_ (by first | omega | (simp; done) | (simp; omega)) _) | (refine Below.setCell ?_ (by first | omega | (simp; done) | (simp; omega)) _)))⟩
  case round =>
    obtain ⟨k, A', c', hk, rfl, rfl, ho, hb⟩ := hrel
    have hinv := compressed_inv (xs.take k)
    have hlk : (xs.take k).length ≤ k := List.length_take_le _ _
    have hzs := hb.size
    by_cases hlt : k < xs.length
    · obtain ⟨b, off, x, rfl, hc, hx⟩ := h k hlt
      replace hc := cells_below hb _ _ hc
      have HS : Hid (compressed (xs.take (k + 1)) = pushP (compressed (xs.take k)) x) := Lib.hid (by rw [take_snoc hx, compressed_snoc])
      clear hx
      cases k with
      | zero =>
        have ho' : OwnC wr w.heap.size wr.heap.size 61 3 A' 0 c' [] := ho
        have HS' : Hid (compressed (xs.take 1) = [⟨x, 1, 0⟩]) := Lib.hid (by rw [HS.out]; rfl)
        clear hinv HS ho
        clear hlk hk
        simp only [Nat.add_zero] at hc
        rw [show ((0 : Nat) : Int) = 0 from rfl, show (compressed (xs.take 0)).length = 0 from rfl]
        go_wp2_with (fail)
        go_quiet (fail)
        go_wp2_with (at_builtin; refine wpList_append1 (wr.drewN nq) [.int .i64 x, .int .i64 1, .int .i64 0] _ rfl (.tmp 36) (.tmp 42) _ rfl 61 i0 _ 3 24 Tryd.underlying30 hi0 hz0 hz1 hz2 rfl (by decide) rfl (ho'.drewN _) hzs 1 rfl rfl (by simp [Value.oneCell']) (by omega) (by decide) ?_; intro A2 c2 w2 ho2 hg2 hb2 hz2')
        go_roundw
        case rel => exact ⟨1, A2, c2, by omega, rfl, by rw [HS'.out]; rfl, by rw [HS'.out]; exact ho2, (below_drewN hb nq).trans hb2⟩
        case measure => simp [intOf]; omega
      | succ m =>
        obtain ⟨b', off', y, hAA, hcy, hy⟩ := h m (by omega)
        injection hAA with hAA
        injection hAA with hA1 hA2
        subst hA1 hA2
        replace hcy := cells_below hb _ _ hcy
        obtain ⟨qs, t, l, hps⟩ := hinv.2.2 y (by rw [take_snoc hy]; simp)
        obtain ⟨hp1, hp2, _⟩ := hinv
        generalize compressed (xs.take (m + 1)) = ps at ho HS hps hp1 hp2
        subst hps
        clear hy
        have hlen : (qs ++ [(⟨y, t, l⟩ : PieceD)]).length = qs.length + 1 := by simp
        have hq : qs.length + 1 ≤ 1000000 := by rw [hlen] at hp1; omega
        have ho' : OwnC wr w.heap.size wr.heap.size 61 3 A' (qs.length + 1) c' (cellsPiece (qs ++ [(⟨y, t, l⟩ : PieceD)])) := by rw [← hlen]; exact ho
        have hpt := hp2 _ (List.mem_append_right qs (List.mem_singleton.2 rfl))
        simp only [] at hpt
        obtain ⟨e0, e1, e2⟩ := cellsPiece_at (ps := qs ++ [(⟨y, t, l⟩ : PieceD)]) (i := qs.length) (p := ⟨y, t, l⟩) (by simp)
        have hcl := cellsPiece_length (qs ++ [(⟨y, t, l⟩ : PieceD)])
        rw [hlen] at hcl
        obtain ⟨g, rfl, _, _, q1, f1⟩ := ho'.cell (j := qs.length * 3 + 1) (by omega)
        rw [List.getElem?_eq_getElem (by omega)] at e1
        injection e1 with e1
        rw [e1] at q1
        clear hcl e0 e1 e2 hp2 hp1
        rw [hlen]
        clear hlen ho
        have j1 : (0 : Int) ≤ (m : Int) := by omega
        have j2 : (m : Int) < (xs.length : Int) := by omega
        have j3 : ((m : Int) + 1) < (xs.length : Int) := by omega
        have j4 : IntKind.i64.wrap ((m : Int) + 1 - 1) = (m : Int) := by rw [IntWalk.i64_in _ (by omega)]; omega
        have d0 : decide ((0 : Int) < ((m + 1 : Nat) : Int)) = true := decide_eq_true (by omega)
        by_cases hpx : x = y
        · subst hpx
          go_wp2_with (fail)
          go_quiet (fail)
          clear j4
          go_wp2_with (fail)
          refine ⟨⟨m + 1 + 1, some ⟨g, 0, none⟩, c', by omega, by go_num, ?_, ?_, by (repeat (first | exact Below.refl _ _ | assumption | apply Below.drew | apply below_drewN | (refine Below.alloc ?_ (by first | omega | (simp; done) | (simp; omega)) _) | (refine Below.setCell ?_ (by first | omega | (simp; done) | (simp; omega)) _)))⟩, by simp [intOf]; omega⟩
          · rw [HS.out, pushP_same qs ⟨x, t, l⟩]; simp
          · rw [HS.out, pushP_same qs ⟨x, t, l⟩]
            show OwnC _ _ _ _ _ _ _ _ _
            rw [show (qs ++ [(⟨x, t + 1, l⟩ : PieceD)]).length = qs.length + 1 by simp, ← cellsPiece_bump qs ⟨x, t, l⟩]
            exact (((ho'.drewN _).store _).1.mono (Nat.le_refl _) (by simp))
        · have hpx' : (x == y) = false := by simpa using hpx
          go_wp2_with (fail)
          go_quiet (fail)
          clear j4
          go_wp2_with (at_builtin; refine wpList_append1 (wr.drewN nq) [.int .i64 x, .int .i64 1, .int .i64 0] _ rfl (.tmp 36) (.tmp 42) _ rfl 61 i0 _ 3 24 Tryd.underlying30 hi0 hz0 hz1 hz2 rfl (by decide) rfl (ho'.drewN _) hzs 1 rfl rfl (by simp [Value.oneCell']) (by omega) (by decide) ?_; intro A2 c2 w2 ho2 hg2 hb2 hz2')
          go_roundw
          case rel =>
            refine ⟨m + 1 + 1, A2, c2, by omega, by go_num, ?_, ?_, (below_drewN hb nq).trans hb2⟩
            · rw [HS.out, pushP_other (Ne.symm hpx)]; simp
            · rw [HS.out, pushP_other (Ne.symm hpx)]
              show OwnC _ _ _ _ _ _ _ _ _
              rw [cellsPiece_snoc, show (qs ++ [(⟨y, t, l⟩ : PieceD)] ++ [(⟨x, 1, 0⟩ : PieceD)]).length = qs.length + 1 + 1 by simp]
              exact ho2
          case measure => simp [intOf]; omega
    · go_wp2_with (fail)
      go_ret
      rw [take_all (by omega)] at ho ⊢
      exact ⟨_, _, rfl, ho, hb⟩


end Go.Proofs.YtifjdiiafofnpaaDoor

/- Texts of rows. -/
namespace Go.Proofs.YtifjdiiafofnpaaDoor
open Go Go.RowKit

theorem good_of_plain {d : Nat} : ∀ ps : List PieceD, (∀ p ∈ ps, plainP p = true ∧ p.kind ≠ 12) → Good d ps
  | [] => fun _ => by unfold Good; rw [rangeP]; simp
  | p :: r => fun h => by
    obtain ⟨h1, h2⟩ := h p (by simp)
    have ih := good_of_plain (d := d) r fun q hq => h q (by simp [hq])
    unfold Good at ih ⊢
    rw [rangeP, if_neg h2, if_pos h1]
    exact ih
theorem compressed_kinds (xs : List Int) : ∀ p ∈ compressed xs, p.kind ∈ xs := by
  induction xs using snocInd with
  | h0 => simp [compressed]
  | h1 xs x ih =>
    rw [compressed_snoc]
    intro q hq
    have key : q.kind = x ∨ ∃ p ∈ compressed xs, q.kind = p.kind := by
      revert hq
      generalize compressed xs = ps
      rcases List.eq_nil_or_concat ps with rfl | ⟨qs, p, rfl⟩
      · rw [pushP_nil]; intro hq; left; simp at hq; rw [hq]
      · rw [List.concat_eq_append]
        by_cases h : p.kind = x
        · subst h
          rw [pushP_same]
          intro hq
          rcases List.mem_append.1 hq with hq | hq
          · exact .inr ⟨q, by simp [hq], rfl⟩
          · simp at hq; left; rw [hq]
        · rw [pushP_other h]
          intro hq
          rcases List.mem_append.1 hq with hq | hq
          · exact .inr ⟨q, hq, rfl⟩
          · simp at hq; left; rw [hq]
    rcases key with h | ⟨p, hp, h⟩
    · rw [h]; simp
    · rw [h]; exact List.mem_append_left _ (ih p hp)
theorem compressed_good {xs : List Int} (h : stitchesB xs = true) : Good 0 (compressed xs) ∧ (compressed xs).length ≤ 16 := by
  obtain ⟨h16, hk⟩ := stitchesB_of h
  obtain ⟨i1, i2, _⟩ := compressed_inv xs
  refine ⟨good_of_plain _ fun p hp => ?_, by omega⟩
  have hs := hk _ (compressed_kinds xs p hp)
  obtain ⟨t1, t2, t3⟩ := i2 p hp
  have hs' := inR_iff.1 hs
  refine ⟨?_, by omega⟩
  unfold plainP
  simp only [Bool.and_eq_true, decide_eq_true_eq]
  exact ⟨⟨hs, inR_iff.2 ⟨t1, by omega⟩⟩, t3⟩
/-- The text of a row of stitches: none where they are not valid. -/
def rowT (ks : List Int) : ByteArray := if stitchesB ks then txtP (compressed ks) else ⟨#[]⟩

theorem impl_rowText (ks : List Int) (A : Option Addr) (c : Nat) (w : World) (h : Ints w A ks) (hs : stitchesB ks = true) :
    Calls Tryd.prog 35 #[.slice A ks.length c] w fun e w' => e = .returned (.string (txtP (compressed ks))) ∧ Below w.heap.size w w' := by
  obtain ⟨hg, h16⟩ := compressed_good hs
  have hk16 := (stitchesB_of hs).1
  have HG := Lib.hid hg; clear hg
  go_enter Tryd.func35, Tryd.ntmps35
  go_wp2_with (fail)
  refine (impl_compressed A c ks _ h (by omega)).mono ?_; rintro e w2 ⟨A2, c2, rfl, o2, b2⟩
  have h2 := o2.pieces
  have hc := o2.cap
  have hcm := o2.capmax
  go_wp2_with (fail)
  refine (impl_piecesText ((compressed ks).length + 1) _ (Nat.le_refl _) (compressed ks) A2 c2 0 _ (by omega) (by omega) hc hcm h2 HG.out).mono ?_; rintro e w3 ⟨rfl, b3⟩
  go_wp2_with (fail)
  go_ret
  exact ⟨rfl, b2.trans (b3.mono b2.size)⟩

theorem impl_RowText (ks : List Int) (A : Option Addr) (c : Nat) (w : World) (h : Ints w A ks) (hl : ks.length ≤ 9223372036854775807) :
    Calls Tryd.prog 10 #[.slice A ks.length c] w fun e w' => e = .returned (.string (rowT ks)) ∧ Below w.heap.size w w' := by
  cases hv : stitchesB ks
  · have HF : Hid (rowT ks = ⟨#[]⟩) := Lib.hid (by rw [rowT, hv]; rfl)
    go_enter Tryd.func10, Tryd.ntmps10
    go_wp2_with (fail)
    refine (impl_areStitches A c ks _ h hl).mono ?_; rintro e _ ⟨rfl, rfl⟩
    rw [hv]
    go_wp2_with (fail)
    go_ret
    exact ⟨by rw [HF.out]; rfl, Below.refl _ _⟩
  · have HF : Hid (rowT ks = txtP (compressed ks)) := Lib.hid (by rw [rowT, hv]; rfl)
    have HV := Lib.hid hv
    go_enter Tryd.func10, Tryd.ntmps10
    go_wp2_with (fail)
    refine (impl_areStitches A c ks _ h hl).mono ?_; rintro e _ ⟨rfl, rfl⟩
    rw [hv]
    clear hv
    go_wp2_with (fail)
    refine (impl_rowText ks A c _ h HV.out).mono ?_; rintro e w3 ⟨rfl, b3⟩
    go_wp2_with (fail)
    go_ret
    exact ⟨by rw [HF.out]; rfl, b3⟩

theorem spec_RowText (ks : List Int) (A : Option Addr) (c : Nat) (w : World) (h : Ints w A ks) (hl : ks.length ≤ 9223372036854775807) :
    Calls Tryd.prog 8 #[.slice A ks.length c] w fun e w' => e = .returned (.string (rowT ks)) ∧ Below w.heap.size w w' := by
  cases hv : stitchesB ks
  · have HF : Hid (rowT ks = ⟨#[]⟩) := Lib.hid (by rw [rowT, hv]; rfl)
    go_enter Tryd.func8, Tryd.ntmps8
    go_wp2_with (fail)
    refine (spec_l14Ok A c ks _ h hl).mono ?_; rintro e _ ⟨rfl, rfl⟩
    rw [hv]
    go_wp2_with (fail)
    go_ret
    exact ⟨by rw [HF.out]; rfl, Below.refl _ _⟩
  · have HF : Hid (rowT ks = txtP (compressed ks)) := Lib.hid (by rw [rowT, hv]; rfl)
    obtain ⟨hg, h16⟩ := compressed_good hv
    have hk16 := (stitchesB_of hv).1
    have HG := Lib.hid hg; clear hg
    go_enter Tryd.func8, Tryd.ntmps8
    go_wp2_with (fail)
    refine (spec_l14Ok A c ks _ h hl).mono ?_; rintro e _ ⟨rfl, rfl⟩
    rw [hv]
    clear hv
    go_wp2_with (fail)
    refine (spec_l16Compress A c ks _ h (by omega)).mono ?_; rintro e w2 ⟨A2, c2, rfl, o2, b2⟩
    have h2 := o2.pieces
    have hc := o2.cap
    have hcm := o2.capmax
    go_wp2_with (fail)
    refine (spec_l16Text (compressed ks).length (compressed ks) A2 c2 0 _ (Nat.le_refl _) (by omega) hc hcm h2 HG.out).mono ?_; rintro e w3 ⟨rfl, b3⟩
    go_wp2_with (fail)
    go_ret
    exact ⟨by rw [HF.out]; rfl, b2.trans (b3.mono b2.size)⟩

end Go.Proofs.YtifjdiiafofnpaaDoor
