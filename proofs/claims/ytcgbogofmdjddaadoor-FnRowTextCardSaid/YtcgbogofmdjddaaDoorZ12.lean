/- Steps of the proof, joined from several texts: K1 VA DI. -/
import Derived.Test.YtcgbogofmdjddaaDoorZ2
import Derived.Test.YtcgbogofmdjddaaDoorZ4
import Derived.Test.YtcgbogofmdjddaaDoorZ11
import Derived.Test.YtcgbogofmdjddaaDoorZ10

/- CompressRow: stitches as pieces without groups. -/
namespace Go.Proofs.YtcgbogofmdjddaaDoor
open Go.RowKit

/-- One stitch more: the last piece is made once more, or there is a new piece. -/
def pushP (ps : List PieceD) (k : Int) : List PieceD :=
  match ps.getLast? with
  | some p => if p.kind = k then ps.dropLast ++ [⟨p.kind, p.times + 1, p.len⟩] else ps ++ [⟨k, 1, 0⟩]
  | none => [⟨k, 1, 0⟩]
def compressed (xs : List Int) : List PieceD := xs.foldl pushP []
theorem compressed_snoc (xs : List Int) (x : Int) : compressed (xs ++ [x]) = pushP (compressed xs) x := by simp [compressed]
theorem pushP_nil (k : Int) : pushP [] k = [⟨k, 1, 0⟩] := rfl
theorem pushP_same (ps : List PieceD) (p : PieceD) : pushP (ps ++ [p]) p.kind = ps ++ [⟨p.kind, p.times + 1, p.len⟩] := by simp [pushP]
theorem pushP_other {ps : List PieceD} {p : PieceD} {k : Int} (h : p.kind ≠ k) : pushP (ps ++ [p]) k = ps ++ [p] ++ [⟨k, 1, 0⟩] := by simp [pushP, h]
theorem pushP_last (ps : List PieceD) (k : Int) : ∃ qs t l, pushP ps k = qs ++ [⟨k, t, l⟩] := by
  rcases List.eq_nil_or_concat ps with rfl | ⟨qs, p, rfl⟩
  · exact ⟨[], 1, 0, rfl⟩
  · rw [List.concat_eq_append]
    by_cases h : p.kind = k
    · subst h
      exact ⟨qs, _, _, pushP_same qs p⟩
    · exact ⟨_, _, _, pushP_other h⟩
theorem pushP_length (ps : List PieceD) (k : Int) : (pushP ps k).length ≤ ps.length + 1 := by
  rcases List.eq_nil_or_concat ps with rfl | ⟨qs, p, rfl⟩
  · simp [pushP]
  · rw [List.concat_eq_append]
    by_cases h : p.kind = k
    · subst h
      rw [pushP_same]; simp
    · rw [pushP_other h]; simp
def compressP (xs : List Int) : List PieceD := if stitchesB xs then compressed xs else []
theorem snocInd {α : Type} {P : List α → Prop} (h0 : P []) (h1 : ∀ xs x, P xs → P (xs ++ [x])) (xs : List α) : P xs := by
  rw [← List.reverse_reverse xs]
  induction xs.reverse with
  | nil => exact h0
  | cons x r ih => rw [List.reverse_cons]; exact h1 _ _ ih
theorem compressed_inv (xs : List Int) : (compressed xs).length ≤ xs.length ∧ (∀ p ∈ compressed xs, 1 ≤ p.times ∧ p.times ≤ xs.length ∧ p.len = 0) ∧ (∀ x, xs.getLast? = some x → ∃ qs t l, compressed xs = qs ++ [⟨x, t, l⟩]) := by
  induction xs using snocInd with
  | h0 => exact ⟨by simp [compressed], by simp [compressed], by simp⟩
  | h1 xs x ih =>
    obtain ⟨h1, h2, _⟩ := ih
    rw [compressed_snoc]
    refine ⟨by have := pushP_length (compressed xs) x; simp; omega, fun p hp => ?_, fun y hy => ?_⟩
    · rw [List.length_append, List.length_singleton]
      rcases List.eq_nil_or_concat (compressed xs) with e | ⟨qs, q, e⟩
      · rw [e] at hp
        simp [pushP] at hp
        subst hp
        exact ⟨Int.le_refl _, by show (1 : Int) ≤ ((xs.length + 1 : Nat) : Int); omega, rfl⟩
      · rw [List.concat_eq_append] at e
        rw [e] at hp h2
        have hq := h2 q (by simp)
        by_cases h : q.kind = x
        · subst h
          rw [pushP_same, List.mem_append] at hp
          rcases hp with hp | hp
          · have := h2 p (List.mem_append_left _ hp); exact ⟨this.1, by omega, this.2.2⟩
          · simp at hp
            subst hp
            exact ⟨by show 1 ≤ q.times + 1; omega, by show q.times + 1 ≤ ((xs.length + 1 : Nat) : Int); omega, hq.2.2⟩
        · rw [pushP_other h, List.mem_append] at hp
          rcases hp with hp | hp
          · have := h2 p hp; exact ⟨this.1, by omega, this.2.2⟩
          · simp at hp
            subst hp
            exact ⟨Int.le_refl _, by show (1 : Int) ≤ ((xs.length + 1 : Nat) : Int); omega, rfl⟩
    · simp at hy
      subst hy
      exact pushP_last _ _
theorem compressP_length (xs : List Int) : (compressP xs).length ≤ 16 := by
  unfold compressP
  split
  · rename_i h
    have := (compressed_inv xs).1
    unfold stitchesB at h
    simp at h
    omega
  · simp
theorem cellsPiece_append (a b : List PieceD) : cellsPiece (a ++ b) = cellsPiece a ++ cellsPiece b := by
  induction a with
  | nil => rfl
  | cons x r ih => simp [cellsPiece, ih]
theorem cellsPiece_bump (qs : List PieceD) (p : PieceD) (v : Int) : (cellsPiece (qs ++ [p])).set (qs.length * 3 + 1) (.int .i64 v) = cellsPiece (qs ++ [⟨p.kind, v, p.len⟩]) := by
  rw [cellsPiece_append, cellsPiece_append, List.set_append_right _ _ (by rw [cellsPiece_length]; omega), cellsPiece_length]
  simp [cellsPiece]
theorem oneCell_int {k : IntKind} {n : Int} : (Value.int k n).oneCell' = true := rfl

set_option maxHeartbeats 2000000 in
theorem impl_compressed (A : Option Addr) (c : Nat) (xs : List Int) (w : World) (h : Ints w A xs) (hl : xs.length ≤ 1000000) :
    Calls Tryd.prog 71 #[.slice A xs.length c] w fun e w' => ∃ A' c', e = .returned (.slice A' (compressed xs).length c') ∧ OwnPiece w' w.heap.size w'.heap.size A' c' (compressed xs) ∧ Below w.heap.size w w' := by
  obtain ⟨i0, hi0, hz0, hz1, hz2⟩ := info_parts info_Piece
  go_enter Tryd.func71, Tryd.ntmps71
  go_wp2_with (fail)
  go_loopw [3, 9] (fun ov i wr => ∃ (k : Nat) (A' : Option Addr) (c' : Nat), k ≤ xs.length ∧ i = .int .i64 k ∧ ov = .slice A' (compressed (xs.take k)).length c' ∧ OwnPiece wr w.heap.size wr.heap.size A' c' (compressed (xs.take k)) ∧ Below w.heap.size w wr) (fun _ i _ => xs.length - (intOf i).toNat)
  case atStart =>
    exact ⟨0, some ⟨w.heap.size, 0, none⟩, 0, Nat.zero_le _, rfl, rfl, (OwnC.lit _ 3 #[] (Nat.le_refl _) (Nat.zero_le _) rfl).mono (Nat.le_refl _) (by simp), by (repeat (first | exact Below.refl _ _ | assumption | apply Below.drew | apply below_drewN | (refine Below.alloc ?_ (by first | omega | (simp; done) | (simp; omega)) _) | (refine Below.setCell ?_ (by first | omega | (simp; done) | (simp; omega)) _)))⟩
  case round =>
    obtain ⟨k, A', c', hk, rfl, rfl, ho, hb⟩ := hrel
    have hinv := compressed_inv (xs.take k)
    have hlk : (xs.take k).length ≤ k := List.length_take_le _ _
    have hzs := hb.size
    by_cases hlt : k < xs.length
    · obtain ⟨b, off, x, rfl, hc, hx⟩ := h k hlt
      replace hc := cells_below hb _ _ hc
      have HS : Hid (compressed (xs.take (k + 1)) = pushP (compressed (xs.take k)) x) := Lib.hid (by rw [take_snoc hx, compressed_snoc])
      clear hx
      generalize compressed (xs.take k) = ps at ho hinv HS
      obtain ⟨hp1, hp2, _⟩ := hinv
      rcases List.eq_nil_or_concat ps with rfl | ⟨qs, p, rfl⟩
      · go_wp2_with (at_builtin; refine wpList_append1 wr [.int .i64 x, .int .i64 1, .int .i64 0] _ rfl (.tmp 37) (.tmp 40) _ rfl 45 i0 _ 3 24 Tryd.underlying30 hi0 hz0 hz1 hz2 rfl (by decide) rfl ho hzs 1 rfl rfl (by simp [Value.oneCell']) (by simp) (by decide) ?_; intro A2 c2 w2 ho2 hg2 hb2 hz2')
        go_roundw
        case rel => exact ⟨k + 1, A2, c2, by omega, by go_num, by rw [HS.out]; rfl, by rw [HS.out]; exact ho2, hb.trans hb2⟩
        case measure => simp [intOf]; omega
      · rw [List.concat_eq_append] at *
        have hlen : (qs ++ [p]).length = qs.length + 1 := by simp
        have hq : qs.length + 1 ≤ 1000000 := by rw [hlen] at hp1; omega
        have ho' : OwnC wr w.heap.size wr.heap.size 45 3 A' (qs.length + 1) c' (cellsPiece (qs ++ [p])) := by rw [← hlen]; exact ho
        have hpt := hp2 p (by simp)
        obtain ⟨e0, e1, e2⟩ := cellsPiece_at (ps := qs ++ [p]) (i := qs.length) (p := p) (by simp)
        have hcl := cellsPiece_length (qs ++ [p])
        rw [hlen] at hcl
        obtain ⟨g, rfl, _, _, q0, f0⟩ := ho'.cell (j := qs.length * 3) (by omega)
        obtain ⟨_, hA, _, _, q1, f1⟩ := ho'.cell (j := qs.length * 3 + 1) (by omega)
        injection hA with hA
        injection hA with hA
        subst hA
        rw [List.getElem?_eq_getElem (by omega)] at e0 e1
        injection e0 with e0
        injection e1 with e1
        rw [e0] at q0
        rw [e1] at q1
        have HLEN := Lib.hid hlen
        clear hcl e0 e1 e2 hp2 hp1
        rw [hlen]
        clear hlen ho
        have d0 : decide ((0 : Int) < ((qs.length + 1 : Nat) : Int)) = true := decide_eq_true (by omega)
        by_cases hpx : p.kind = x
        · subst hpx
          go_wp2_with (fail)
          refine ⟨⟨k + 1, some ⟨g, 0, none⟩, c', by omega, by go_num, ?_, ?_, by (repeat (first | exact Below.refl _ _ | assumption | apply Below.drew | apply below_drewN | (refine Below.alloc ?_ (by first | omega | (simp; done) | (simp; omega)) _) | (refine Below.setCell ?_ (by first | omega | (simp; done) | (simp; omega)) _)))⟩, by simp [intOf]; omega⟩
          · rw [HS.out, pushP_same]; simp
          · rw [HS.out, pushP_same]
            show OwnC _ _ _ _ _ _ _ _ _
            rw [show (qs ++ [(⟨p.kind, p.times + 1, p.len⟩ : PieceD)]).length = qs.length + 1 by simp, ← cellsPiece_bump]
            exact ((ho'.store _).1.mono (Nat.le_refl _) (by simp))
        · have hpx' : (p.kind == x) = false := by simpa using hpx
          go_wp2_with (at_builtin; refine wpList_append1 wr [.int .i64 x, .int .i64 1, .int .i64 0] _ rfl (.tmp 37) (.tmp 40) _ rfl 45 i0 _ 3 24 Tryd.underlying30 hi0 hz0 hz1 hz2 rfl (by decide) rfl ho' hzs 1 rfl rfl (by simp [Value.oneCell']) (by omega) (by decide) ?_; intro A2 c2 w2 ho2 hg2 hb2 hz2')
          go_roundw
          case rel =>
            refine ⟨k + 1, A2, c2, by omega, by go_num, ?_, ?_, hb.trans hb2⟩
            · rw [HS.out, pushP_other hpx]; simp
            · rw [HS.out, pushP_other hpx]
              show OwnC _ _ _ _ _ _ _ _ _
              rw [cellsPiece_snoc, show (qs ++ [p] ++ [(⟨x, 1, 0⟩ : PieceD)]).length = qs.length + 1 + 1 by simp]
              exact ho2
          case measure => simp [intOf]; omega
    · go_wp2_with (fail)
      go_ret
      rw [take_all (by omega)] at ho ⊢
      exact ⟨_, _, rfl, ho, hb⟩

set_option maxHeartbeats 2000000 in
theorem spec_l16Compress (A : Option Addr) (c : Nat) (xs : List Int) (w : World) (h : Ints w A xs) (hl : xs.length ≤ 1000000) :
    Calls Tryd.prog 56 #[.slice A xs.length c] w fun e w' => ∃ A' c', e = .returned (.slice A' (compressed xs).length c') ∧ OwnPiece w' w.heap.size w'.heap.size A' c' (compressed xs) ∧ Below w.heap.size w w' := by
  obtain ⟨i0, hi0, hz0, hz1, hz2⟩ := info_parts info_Piece
  go_enter Tryd.func56, Tryd.ntmps56
  go_wp2_with (fail)
  go_loopw [3, 4] (fun ov i wr => ∃ (k : Nat) (A' : Option Addr) (c' : Nat), k ≤ xs.length ∧ i = .int .i64 k ∧ ov = .slice A' (compressed (xs.take k)).length c' ∧ OwnPiece wr w.heap.size wr.heap.size A' c' (compressed (xs.take k)) ∧ Below w.heap.size w wr) (fun _ i _ => xs.length - (intOf i).toNat)
  case atStart =>
    exact ⟨0, some ⟨w.heap.size, 0, none⟩, 0, Nat.zero_le _, rfl, rfl, (OwnC.lit _ 3 #[] (Nat.le_refl _) (Nat.zero_le _) rfl).mono (Nat.le_refl _) (by simp), by (repeat (first | exact Below.refl _ _ | assumption | apply Below.drew | apply below_drewN | (refine Below.alloc ?_ (by first | omega | (simp; done) | (simp; omega)) _) | (refine Below.setCell ?_ (by first | omega | (simp; done) | (simp; omega)) _)))⟩
  case round =>
    obtain ⟨k, A', c', hk, rfl, rfl, ho, hb⟩ := hrel
    have hinv := compressed_inv (xs.take k)
    have hlk : (xs.take k).length ≤ k := List.length_take_le _ _
    have hzs := hb.size
    by_cases hlt : k < xs.length
    · obtain ⟨b, off, x, rfl, hc, hx⟩ := h k hlt
      replace hc := cells_below hb _ _ hc
      have HS : Hid (compressed (xs.take (k + 1)) = pushP (compressed (xs.take k)) x) := Lib.hid (by rw [take_snoc hx, compressed_snoc])
      clear hx
      cases k with
      | zero =>
        have ho' : OwnC wr w.heap.size wr.heap.size 45 3 A' 0 c' [] := ho
        have HS' : Hid (compressed (xs.take 1) = [⟨x, 1, 0⟩]) := Lib.hid (by rw [HS.out]; rfl)
        clear hinv HS ho
        clear hlk hk
        simp only [Nat.add_zero] at hc
        rw [show ((0 : Nat) : Int) = 0 from rfl, show (compressed (xs.take 0)).length = 0 from rfl]
        go_wp2_with (fail)
        go_quiet (fail)
        go_wp2_with (at_builtin; refine wpList_append1 (wr.drewN nq) [.int .i64 x, .int .i64 1, .int .i64 0] _ rfl (.tmp 36) (.tmp 42) _ rfl 45 i0 _ 3 24 Tryd.underlying30 hi0 hz0 hz1 hz2 rfl (by decide) rfl (ho'.drewN _) hzs 1 rfl rfl (by simp [Value.oneCell']) (by omega) (by decide) ?_; intro A2 c2 w2 ho2 hg2 hb2 hz2')
        go_roundw
        case rel => exact ⟨1, A2, c2, by omega, rfl, by rw [HS'.out]; rfl, by rw [HS'.out]; exact ho2, (below_drewN hb nq).trans hb2⟩
        case measure => simp [intOf]; omega
      | succ m =>
        obtain ⟨b', off', y, hAA, hcy, hy⟩ := h m (by omega)
        injection hAA with hAA
        injection hAA with hA1 hA2
        subst hA1 hA2
        replace hcy := cells_below hb _ _ hcy
        obtain ⟨qs, t, l, hps⟩ := hinv.2.2 y (by rw [take_snoc hy]; simp)
        obtain ⟨hp1, hp2, _⟩ := hinv
        generalize compressed (xs.take (m + 1)) = ps at ho HS hps hp1 hp2
        subst hps
        clear hy
        have hlen : (qs ++ [(⟨y, t, l⟩ : PieceD)]).length = qs.length + 1 := by simp
        have hq : qs.length + 1 ≤ 1000000 := by rw [hlen] at hp1; omega
        have ho' : OwnC wr w.heap.size wr.heap.size 45 3 A' (qs.length + 1) c' (cellsPiece (qs ++ [(⟨y, t, l⟩ : PieceD)])) := by rw [← hlen]; exact ho
        have hpt := hp2 _ (List.mem_append_right qs (List.mem_singleton.2 rfl))
        simp only [] at hpt
        obtain ⟨e0, e1, e2⟩ := cellsPiece_at (ps := qs ++ [(⟨y, t, l⟩ : PieceD)]) (i := qs.length) (p := ⟨y, t, l⟩) (by simp)
        have hcl := cellsPiece_length (qs ++ [(⟨y, t, l⟩ : PieceD)])
        rw [hlen] at hcl
        obtain ⟨g, rfl, _, _, q1, f1⟩ := ho'.cell (j := qs.length * 3 + 1) (by omega)
        rw [List.getElem?_eq_getElem (by omega)] at e1
        injection e1 with e1
        rw [e1] at q1
        clear hcl e0 e1 e2 hp2 hp1
        rw [hlen]
        clear hlen ho
        have j1 : (0 : Int) ≤ (m : Int) := by omega
        have j2 : (m : Int) < (xs.length : Int) := by omega
        have j3 : ((m : Int) + 1) < (xs.length : Int) := by omega
        have j4 : IntKind.i64.wrap ((m : Int) + 1 - 1) = (m : Int) := by rw [IntWalk.i64_in _ (by omega)]; omega
        have d0 : decide ((0 : Int) < ((m + 1 : Nat) : Int)) = true := decide_eq_true (by omega)
        by_cases hpx : x = y
        · subst hpx
          go_wp2_with (fail)
          go_quiet (fail)
          clear j4
          go_wp2_with (fail)
          refine ⟨⟨m + 1 + 1, some ⟨g, 0, none⟩, c', by omega, by go_num, ?_, ?_, by (repeat (first | exact Below.refl _ _ | assumption | apply Below.drew | apply below_drewN | (refine Below.alloc ?_ (by first | omega | (simp; done) | (simp; omega)) _) | (refine Below.setCell ?_ (by first | omega | (simp; done) | (simp; omega)) _)))⟩, by simp [intOf]; omega⟩
          · rw [HS.out, pushP_same qs ⟨x, t, l⟩]; simp
          · rw [HS.out, pushP_same qs ⟨x, t, l⟩]
            show OwnC _ _ _ _ _ _ _ _ _
            rw [show (qs ++ [(⟨x, t + 1, l⟩ : PieceD)]).length = qs.length + 1 by simp, ← cellsPiece_bump qs ⟨x, t, l⟩]
            exact (((ho'.drewN _).store _).1.mono (Nat.le_refl _) (by simp))
        · have hpx' : (x == y) = false := by simpa using hpx
          go_wp2_with (fail)
          go_quiet (fail)
          clear j4
          go_wp2_with (at_builtin; refine wpList_append1 (wr.drewN nq) [.int .i64 x, .int .i64 1, .int .i64 0] _ rfl (.tmp 36) (.tmp 42) _ rfl 45 i0 _ 3 24 Tryd.underlying30 hi0 hz0 hz1 hz2 rfl (by decide) rfl (ho'.drewN _) hzs 1 rfl rfl (by simp [Value.oneCell']) (by omega) (by decide) ?_; intro A2 c2 w2 ho2 hg2 hb2 hz2')
          go_roundw
          case rel =>
            refine ⟨m + 1 + 1, A2, c2, by omega, by go_num, ?_, ?_, (below_drewN hb nq).trans hb2⟩
            · rw [HS.out, pushP_other (Ne.symm hpx)]; simp
            · rw [HS.out, pushP_other (Ne.symm hpx)]
              show OwnC _ _ _ _ _ _ _ _ _
              rw [cellsPiece_snoc, show (qs ++ [(⟨y, t, l⟩ : PieceD)] ++ [(⟨x, 1, 0⟩ : PieceD)]).length = qs.length + 1 + 1 by simp]
              exact ho2
          case measure => simp [intOf]; omega
    · go_wp2_with (fail)
      go_ret
      rw [take_all (by omega)] at ho ⊢
      exact ⟨_, _, rfl, ho, hb⟩

theorem impl_CompressRow (A : Option Addr) (c : Nat) (xs : List Int) (w : World) (h : Ints w A xs) (hl : xs.length ≤ 1048576) :
    Calls Tryd.prog 37 #[.slice A xs.length c] w fun e w' => ∃ A' c', e = .returned (.slice A' (compressP xs).length c') ∧ OwnPiece w' w.heap.size w'.heap.size A' c' (compressP xs) ∧ Below w.heap.size w w' := by
  by_cases hs : stitchesB xs = true
  · have hl' : xs.length ≤ 16 := by unfold stitchesB at hs; simp at hs; exact hs.2
    have HF : Hid (compressP xs = compressed xs) := Lib.hid (by rw [compressP, if_pos hs])
    go_enter Tryd.func37, Tryd.ntmps37
    go_wp2_with (fail)
    refine (impl_areStitches _ _ _ _ h (by omega)).mono ?_; rintro e _ ⟨rfl, rfl⟩
    go_wp2_with (fail)
    refine (impl_compressed _ _ _ _ h (by omega)).mono ?_; rintro e w1 ⟨A1, c1, rfl, o1, b1⟩
    go_wp2_with (fail)
    go_ret
    rw [HF.out]
    exact ⟨_, _, rfl, o1, b1⟩
  · have hs' : stitchesB xs = false := by simpa using hs
    have HF : Hid (compressP xs = []) := Lib.hid (by rw [compressP, if_neg hs])
    clear hs
    go_enter Tryd.func37, Tryd.ntmps37
    go_wp2_with (fail)
    refine (impl_areStitches _ _ _ _ h (by omega)).mono ?_; rintro e _ ⟨rfl, rfl⟩
    go_wp2_with (fail)
    go_ret
    rw [HF.out]
    exact ⟨_, _, rfl, OwnC.nil _ _ _ _ _, Below.refl _ _⟩

end Go.Proofs.YtcgbogofmdjddaaDoor

/- Numbers at the head of a text, the given side. -/
namespace Go.Proofs.YtcgbogofmdjddaaDoor
open Go Go.RowKit

/-- The digits of a number; none of 0. -/
def decZ (n : Nat) : List UInt8 := if n = 0 then [] else decZ (n / 10) ++ [UInt8.ofNat (48 + n % 10)]
termination_by n
decreasing_by omega
theorem decZ_zero : decZ 0 = [] := by rw [decZ, if_pos rfl]
theorem decZ_step {n : Nat} (h : n ≠ 0) : decZ n = decZ (n / 10) ++ [UInt8.ofNat (48 + n % 10)] := by rw [decZ, if_neg h]
theorem decZ_len (n : Nat) (h : n ≤ 999) : (decZ n).length ≤ 3 := by
  by_cases h0 : n = 0
  · rw [h0, decZ_zero]; simp
  · rw [decZ_step h0]
    by_cases h1 : n / 10 = 0
    · rw [h1, decZ_zero]; simp
    · rw [decZ_step h1]
      by_cases h2 : n / 10 / 10 = 0
      · rw [h2, decZ_zero]; simp
      · rw [decZ_step h2, show n / 10 / 10 / 10 = 0 by omega, decZ_zero]; simp
theorem decG_Z (n : Nat) : decG n = if n = 0 then [48] else decZ n := by
  induction n using Nat.strongRecOn with
  | ind n ih =>
    by_cases h0 : n = 0
    · rw [if_pos h0, h0]; rw [decG, if_pos (by decide)]; rfl
    · rw [if_neg h0, decG]
      by_cases h10 : n < 10
      · rw [if_pos h10, decZ_step h0, show n / 10 = 0 by omega, decZ_zero, Nat.mod_eq_of_lt h10]; rfl
      · rw [if_neg h10, ih (n / 10) (by omega), if_neg (by omega), ← decZ_step h0]

set_option maxHeartbeats 2000000 in
set_option maxRecDepth 10000 in
theorem spec_l01DecG (n : Nat) (hn : n ≤ 999) (w : World) : Calls Tryd.prog 83 #[.int .i64 (n : Int)] w fun e w' => e = .returned (.string ⟨(decG n).toArray⟩) ∧ Below w.heap.size w w' := by
  obtain ⟨iB, hi0, hu0, hu1, hu2⟩ := info_parts info_u8
  have hlz := decZ_len n hn
  have HLZ := Lib.hid hlz; clear hlz
  go_enter Tryd.func83, Tryd.ntmps83
  go_wp2_with (fail)
  go_loopw [3, 4] (fun ov kv wr => ∃ (k : Nat) (A3 : Option Addr) (c3 : Nat) (l : List UInt8), kv = .int .i64 (k : Int) ∧ ov = .slice A3 l.length c3 ∧ OwnC wr w.heap.size wr.heap.size 5 1 A3 l.length c3 (l.map fun b => Value.int .u8 (b.toNat : Int)) ∧ Below w.heap.size w wr ∧ l.length ≤ 3 ∧ k ≤ n ∧ Hid (decZ k ++ l = decZ n)) (fun _ kv _ => (intOf kv).toNat)
  case atStart =>
    refine ⟨n, some ⟨w.heap.size, 0, none⟩, 0, [], rfl, rfl, ?_, by (repeat (first | exact Below.refl _ _ | assumption | apply Below.drew | apply below_drewN | (refine Below.alloc ?_ (by first | omega | (simp; done) | (simp; omega)) _) | (refine Below.setCell ?_ (by first | omega | (simp; done) | (simp; omega)) _))), by simp, Nat.le_refl _, Lib.hid (by simp)⟩
    exact (OwnC.lit (w := w) (lo := w.heap.size) (n := 0) 5 1 #[] (Nat.le_refl _) (Nat.zero_le _) rfl).mono (Nat.le_refl _) (by simp)
  case round =>
    obtain ⟨k, A3, c3, l, rfl, rfl, o3, hb, hl2, hkn, HST⟩ := hrel
    have hzs := hb.size
    by_cases hk0 : k = 0
    · subst hk0
      have hl : l = decZ n := by have := HST.out; rwa [decZ_zero, List.nil_append] at this
      have hlz : decide ((n : Int) < 0) = false := decide_eq_false (by omega)
      by_cases hn0 : n = 0
      · subst hn0
        rw [decZ_zero] at hl
        subst hl
        have HD : Hid (decG 0 = [48]) := Lib.hid (by rw [decG_Z, if_pos rfl])
        go_wp2_with (fail)
        go_ret
        exact ⟨by rw [HD.out]; rfl, hb⟩
      · have hl1 : 1 ≤ l.length := by rw [hl, decZ_step hn0]; simp
        obtain ⟨g, rfl⟩ : ∃ g, A3 = some ⟨g, 0, none⟩ := by
          rcases o3.form with ⟨_, h2, _⟩ | ⟨g, _, h2, _⟩
          · omega
          · exact ⟨g, h2⟩
        have kc := run_convert_bytes_back (P := Tryd.prog) wr 40 9 5 ⟨g, 0, none⟩ c3 l Tryd.underlying40 Tryd.underlying5 Tryd.underlying9 (fun j hj => by
          obtain ⟨g', hg', _, _, hc, _⟩ := o3.cell (j := j) (by simpa using hj)
          injection hg' with hg'
          injection hg' with hg'
          subst hg'
          have e : (⟨g, 0, none⟩ : Addr).add j = ⟨g, j, none⟩ := by unfold Addr.add; split <;> simp_all
          rw [e, hc]
          simp)
        have HT : Hid (l = decG n) := Lib.hid (by rw [decG_Z, if_neg hn0, hl])
        have HKC := Lib.hid kc
        have hne : ((l.length : Int) == 0) = false := by simp; intro e; rw [e] at hl1; simp at hl1
        clear hl HST
        go_wp2_with (fail)
        go_ret
        exact ⟨by rw [← HT.out]; rfl, hb⟩
    · have hkb : ((k : Int) != 0) = true := by simp; omega
      have m1 : Int.tmod (k : Int) 10 = ((k % 10 : Nat) : Int) := by rw [Int.tmod_eq_emod_of_nonneg (by omega)]; omega
      have m2 : Int.tdiv (k : Int) 10 = ((k / 10 : Nat) : Int) := by rw [Int.tdiv_eq_ediv_of_nonneg (by omega)]; omega
      have hq : k % 10 < 10 := Nat.mod_lt _ (by decide)
      obtain ⟨b, hbb⟩ : ∃ b, b = UInt8.ofNat (48 + k % 10) := ⟨_, rfl⟩
      have hbn : b.toNat = 48 + k % 10 := by rw [hbb]; simp; omega
      have hst2 : decZ (k / 10) ++ (b :: l) = decZ n := by
        rw [← HST.out, decZ_step hk0, hbb, List.append_assoc]; rfl
      have hl1 : l.length ≤ 2 := by
        have h1 := HLZ.out
        rw [← hst2, List.length_append, List.length_cons] at h1
        omega
      have HST2 := Lib.hid hst2; clear hst2 HST hbb
      have w1 : IntKind.i64.wrap (48 + ((k % 10 : Nat) : Int)) = (b.toNat : Int) := by rw [hbn]; rw [show (48 : Int) + ((k % 10 : Nat) : Int) = ((48 + k % 10 : Nat) : Int) by omega]; exact IntWalk.i64_in _ ⟨by omega, by omega⟩
      have w2 : IntKind.u8.wrap (b.toNat : Int) = (b.toNat : Int) := by
        rw [hbn]
        exact IntWalk.u8_in _ ⟨by omega, by omega⟩
      have dlt : decide (((k % 10 : Nat) : Int) < 0) = false := decide_eq_false (by omega)
      have HBN := Lib.hid hbn; clear hbn
      have HQN : Hid (k / 10 ≤ n) := Lib.hid (by omega)
      generalize hr : k % 10 = r at *
      clear hr
      have HDV : Hid (k / 10 < k) := Lib.hid (by omega)
      have w3 : wrap64 ((k / 10 : Nat) : Int) = ((k / 10 : Nat) : Int) := IntWalk.wrap64_in _ ⟨by omega, by omega⟩
      generalize k / 10 = q at *
      have W3 := Lib.hid w3; clear w3
      have olit := (OwnC.lit (w := wr) (lo := wr.heap.size) (n := 1) 5 1 #[.int .u8 (b.toNat : Int)] (Nat.le_refl _) (by decide) rfl)
      have HNW := Lib.hid (OwnC.news (OwnC.alloc o3 (.cells #[.int .u8 (b.toNat : Int)] 5)))
      have hz1 : wr.heap.size ≤ (wr.alloc (.cells #[.int .u8 (b.toNat : Int)] 5)).heap.size := by simp
      go_wp2_with (at_builtin; refine wpList_appendC (wr.alloc (.cells #[.int .u8 (b.toNat : Int)] 5)) rfl (.tmp 21) (.tmp 22) _ rfl 5 iB _ 1 1 Tryd.underlying40 hi0 hu0 hu1 hu2 rfl (by decide) rfl olit hz1 A3 l.length c3 _ rfl (by simp) HNW.out (by intro u hu; simp at hu; obtain ⟨x, _, rfl⟩ := hu; rfl) (by unfold maxLen; omega) (by omega) ?_; intro A9 c9 w8 ho8 hg8 hb8)
      have hz8 := hb8.size
      have hlen : 1 + l.length = (b :: l).length := by simp [Nat.add_comm]
      have hdv := HDV.out
      rw [W3.out]
      clear W3 HDV m1 m2 w1 w2
      refine ⟨⟨q, A9, c9, b :: l, rfl, by rw [hlen], ?_, ?_, by rw [← hlen]; omega, HQN.out, HST2⟩, hdv⟩
      · have e : 1 + l.length = (b :: l).length := by simp [Nat.add_comm]
        rw [e] at ho8
        exact ho8.mono hzs (Nat.le_refl _)
      · exact (Below.alloc hb hzs (.cells #[.int .u8 (b.toNat : Int)] 5)).trans (hb8.mono (by omega))

theorem spec_l01Digit (b : UInt8) (w : World) : Calls Tryd.prog 109 #[.int .u8 (b.toNat : Int)] w fun e w' => e = .returned (.bool (isDig b)) ∧ w = w' := by
  have hb := b.toNat_lt
  by_cases h1 : 48 ≤ b.toNat
  · have d1 : decide ((48 : Int) ≤ (b.toNat : Int)) = true := decide_eq_true (by omega)
    by_cases h2 : b.toNat ≤ 57
    · have d2 : decide ((b.toNat : Int) ≤ 57) = true := decide_eq_true (by omega)
      have HF : Hid (isDig b = true) := Lib.hid (by unfold isDig; rw [decide_eq_true h1, decide_eq_true h2]; rfl)
      go_enter Tryd.func109, Tryd.ntmps109
      go_wp2_with (fail)
      go_ret
      exact ⟨ret_bool HF.out.symm, rfl⟩
    · have d2 : decide ((b.toNat : Int) ≤ 57) = false := decide_eq_false (by omega)
      have HF : Hid (isDig b = false) := Lib.hid (by unfold isDig; rw [decide_eq_false h2, Bool.and_false])
      go_enter Tryd.func109, Tryd.ntmps109
      go_wp2_with (fail)
      go_ret
      exact ⟨ret_bool HF.out.symm, rfl⟩
  · have d1 : decide ((48 : Int) ≤ (b.toNat : Int)) = false := decide_eq_false (by omega)
    have HF : Hid (isDig b = false) := Lib.hid (by unfold isDig; rw [decide_eq_false h1, Bool.false_and])
    go_enter Tryd.func109, Tryd.ntmps109
    go_wp2_with (fail)
    go_ret
    exact ⟨ret_bool HF.out.symm, rfl⟩

def numV (l : List UInt8) : Int := if numOk l then dval l else 0

theorem dval_pos {l : List UInt8} (h : ∀ b ∈ l, isDig b = true) : 0 ≤ dval l := by
  induction l using snocInd with
  | h0 => simp [dval]
  | h1 l b ih =>
    have h1 := ih fun c hc => h c (by simp [hc])
    have := isDig_true (h b (by simp))
    rw [dval_snoc]
    omega
theorem dval_small {l : List UInt8} (h : ∀ b ∈ l, isDig b = true) : (l.length ≤ 0 → dval l ≤ 0) ∧ (l.length ≤ 1 → dval l ≤ 9) ∧ (l.length ≤ 2 → dval l ≤ 99) ∧ (l.length ≤ 3 → dval l ≤ 999) := by
  induction l using snocInd with
  | h0 => simp [dval]
  | h1 l b ih =>
    obtain ⟨h0, h1, h2, h3⟩ := ih fun c hc => h c (by simp [hc])
    have := isDig_true (h b (by simp))
    rw [dval_snoc, List.length_append, List.length_singleton]
    refine ⟨fun h => by omega, fun h => ?_, fun h => ?_, fun h => ?_⟩
    · have := h0 (by omega); omega
    · have := h1 (by omega); omega
    · have := h2 (by omega); omega
set_option maxHeartbeats 1000000 in
theorem spec_l01Number (t : ByteArray) (w : World) (hd : ∀ b ∈ t.data.toList, isDig b = true) (hl : t.size ≤ 3) :
    Calls Tryd.prog 110 #[.string t] w fun e w' => e = .returned (.tuple #[.int .i64 (numV t.data.toList), .bool (numOk t.data.toList)]) ∧ Below w.heap.size w w' := by
  by_cases h0 : t = ⟨#[]⟩
  · subst h0
    go_enter Tryd.func110, Tryd.ntmps110
    go_wp2_with (fail)
    go_ret2
    exact ⟨rfl, Below.refl _ _⟩
  · have hne := ba_notEmpty h0
    have hne2 : (!t.toList.isEmpty) = true := by rw [hne]; rfl
    have hsz : 1 ≤ t.size := by
      rw [ba_size]
      cases h : t.data.toList with
      | nil => exact absurd (ByteArray.ext (Array.toList_inj.1 h)) h0
      | cons => simp
    have hd0 := isDig_true (hd (t[0]'(by omega)) (List.mem_of_getElem? (byte_at (by omega))))
    have e45 : (((t[0]'(by omega)).toNat : Int) == 45) = false := by rw [beq_eq_false_iff_ne]; omega
    have HD := Lib.hid hd; clear hd
    have hne0 : t.data.toList ≠ [] := by
      intro h
      rw [ba_size, h] at hsz
      simp at hsz
    have HNE := Lib.hid hne0; clear hne0 h0
    have hdv := dval_small HD.out
    rw [← ba_size] at hdv
    have hd1 : dval t.data.toList ≤ 999 := hdv.2.2.2 hl
    have hd2 := dval_pos HD.out
    clear hdv
    go_enter Tryd.func110, Tryd.ntmps110
    go_wp2_with (fail)
    go_loop [5, 6] (fun nv iv => ∃ (i : Nat) (x : Int), i ≤ t.size ∧ iv = .int .i64 (i : Int) ∧ nv = .int .i64 x ∧ Hid (x = dval (t.data.toList.take i)) ∧ 0 ≤ x ∧ x ≤ 999) (fun _ iv => t.size - (intOf iv).toNat)
    case atStart => exact ⟨0, 0, Nat.zero_le _, rfl, rfl, Lib.hid (by simp [dval]), by omega, by omega⟩
    case round =>
      obtain ⟨i, x, hi, rfl, rfl, HX, x1, x2⟩ := hrel
      by_cases hlt : i < t.size
      · have hb := HD.out (t[i]'hlt) (List.mem_of_getElem? (byte_at hlt))
        obtain ⟨d1, d2⟩ := isDig_true hb
        have hu := (t[i]'hlt).toNat_lt
        have hdt : ∀ b ∈ t.data.toList.take (i + 1), isDig b = true := fun b hb => HD.out b (List.mem_of_mem_take hb)
        have hs := dval_small hdt
        have hsn : dval (t.data.toList.take (i + 1)) = 10 * x + (((t[i]'hlt).toNat : Int) - 48) := by rw [take_snoc (byte_at hlt), dval_snoc, ← HX.out]
        rw [hsn] at hs
        have hx9 : 10 * x + (((t[i]'hlt).toNat : Int) - 48) ≤ 999 := hs.2.2.2 (by rw [List.length_take]; omega)
        have HS := Lib.hid hsn.symm
        have w8 : IntKind.u8.wrap (((t[i]'hlt).toNat : Int) - 48) = ((t[i]'hlt).toNat : Int) - 48 := IntWalk.u8_in _ ⟨by omega, by omega⟩
        clear hs hsn hdt
        go_wp2_with (go_at_call 109; refine (spec_l01Digit _ _).mono ?_; rintro e w' ⟨rfl, rfl⟩; rw [hb])
        go_round
        case rel => exact ⟨i + 1, _, by omega, by go_num, rfl, HS, by omega, by omega⟩
        case measure => simp [intOf]; omega
      · obtain rfl : i = t.size := by omega
        have hx : x = dval t.data.toList := by rw [HX.out, take_all (by rw [← ba_size]; exact Nat.le_refl _)]
        have HDEC : Hid (∀ W, Calls Tryd.prog 83 #[.int .i64 x] W fun e w' => e = .returned (.string ⟨(decG x.toNat).toArray⟩) ∧ Below W.heap.size W w') := Lib.hid (fun W => by
          have := spec_l01DecG x.toNat (by omega) W
          rwa [Int.toNat_of_nonneg x1] at this)
        have HXX := Lib.hid hx; clear hx
        go_wp2_with (go_at_call 83; refine (HDEC.out _).mono ?_; rintro e w' ⟨rfl, b1⟩)
        · have hno : numOk t.data.toList = false := by
            rename_i hq
            unfold numOk
            apply decide_eq_false
            intro h
            rw [← HXX.out] at h
            rw [h.2, ByteArray.toList_eq] at hq
            simp at hq
          go_ret2
          exact ⟨by rw [numV, hno]; rfl, b1⟩
        · have hyes : numOk t.data.toList = true := by
            rename_i hq
            unfold numOk
            apply decide_eq_true
            rw [← HXX.out]
            rw [ByteArray.toList_eq] at hq
            exact ⟨HNE.out, by simpa using hq⟩
          go_ret2
          exact ⟨by rw [numV, hyes, if_pos rfl, ← HXX.out]; rfl, b1⟩

theorem timesS_def (l : List UInt8) : timesS l = (numV (l.take (dcount 3 l)), if numOk (l.take (dcount 3 l)) then dcount 3 l else 0) := by
  unfold timesS numV
  split <;> rfl
set_option maxHeartbeats 1000000 in
theorem spec_l16Times (s : ByteArray) (v : Int) (q : Nat) (w : World) (hl : s.size ≤ 1000000000) (hT : timesS s.data.toList = (v, q)) :
    Calls Tryd.prog 79 #[.string s] w fun e w' => e = .returned (.tuple #[.int .i64 v, .int .i64 (q : Int)]) ∧ Below w.heap.size w w' := by
  have HV := Lib.hid hT; clear hT
  go_enter Tryd.func79, Tryd.ntmps79
  go_wp2_with (fail)
  go_loop [4] (fun nv => ∃ m : Nat, m ≤ 3 ∧ m ≤ s.size ∧ nv = .int .i64 (m : Int) ∧ Hid (∀ j b, j < m → s.data.toList[j]? = some b → isDig b = true)) (fun nv => 3 - (intOf nv).toNat)
  case atStart => exact ⟨0, by omega, by omega, rfl, Lib.hid (fun j b hj => by omega)⟩
  case round =>
    obtain ⟨m, m3, ms, rfl, HD⟩ := hrel
    have fin : (m = 3 ∨ m = s.size ∨ ∃ h : m < s.size, isDig (s[m]'h) = false) → Hid (numV (s.data.toList.take m) = v ∧ (if numOk (s.data.toList.take m) then m else 0) = q) := by
      intro h
      apply Lib.hid
      have hc : dcount 3 s.data.toList = m := by
        refine dcount_end m3 (by rw [← ba_size]; omega) HD.out ?_
        rcases h with h | h | ⟨h, hf⟩
        · exact .inl h
        · exact .inr (.inl (by rw [← ba_size]; exact h.symm))
        · exact .inr (.inr ⟨_, byte_at h, hf⟩)
      have hv := HV.out
      rw [timesS_def, hc] at hv
      injection hv with h1 h2
      exact ⟨h1, h2⟩
    have hex : (s.extract 0 m).data.toList = s.data.toList.take m := by rw [ext_list s 0 m ms]; simp
    have hall : ∀ b ∈ (s.extract 0 m).data.toList, isDig b = true := by
      rw [hex]
      intro b hb
      obtain ⟨j, hj⟩ := List.getElem?_of_mem hb
      rw [List.getElem?_take] at hj
      split at hj
      · exact HD.out j b (by assumption) hj
      · cases hj
    have hsz : (s.extract 0 m).size ≤ 3 := by rw [ByteArray.size_extract]; omega
    have HNUM : Hid (∀ W, Calls Tryd.prog 110 #[.string (s.extract 0 m)] W fun e w' => e = .returned (.tuple #[.int .i64 (numV (s.data.toList.take m)), .bool (numOk (s.data.toList.take m))]) ∧ Below W.heap.size W w') := Lib.hid (fun W => by
      have := spec_l01Number (s.extract 0 m) W hall hsz
      rwa [hex] at this)
    clear hex hall hsz
    by_cases hs : m < s.size
    · by_cases h3 : m < 3
      · have hu := (s[m]'hs).toNat_lt
        cases hb : isDig (s[m]'hs)
        · have HT := fin (.inr (.inr ⟨hs, hb⟩))
          clear fin
          generalize s.data.toList.take m = L at HT HNUM
          cases hq : numOk L
          · rw [hq] at HT HNUM
            go_wp2_with (first | (go_at_call 109; refine (spec_l01Digit _ _).mono ?_; rintro e w' ⟨rfl, rfl⟩; rw [hb]) | (go_at_call 110; refine (HNUM.out _).mono ?_; rintro e w1 ⟨rfl, b1⟩))
            go_ret2
            have h1 := HT.out.1
            rw [numV, hq] at h1
            exact ⟨ret_pair h1 (by have := HT.out.2; simp at this; omega), b1⟩
          · rw [hq] at HT HNUM
            go_wp2_with (first | (go_at_call 109; refine (spec_l01Digit _ _).mono ?_; rintro e w' ⟨rfl, rfl⟩; rw [hb]) | (go_at_call 110; refine (HNUM.out _).mono ?_; rintro e w1 ⟨rfl, b1⟩))
            go_ret2
            exact ⟨ret_pair HT.out.1 (by have := HT.out.2; simp at this; omega), b1⟩
        · clear fin HNUM
          have HD2 : Hid (∀ j b, j < m + 1 → s.data.toList[j]? = some b → isDig b = true) := Lib.hid (fun j b hj hc => by
            by_cases hjm : j < m
            · exact HD.out j b hjm hc
            · obtain rfl : j = m := by omega
              rw [byte_at hs] at hc
              injection hc with hc
              rw [← hc]; exact hb)
          go_wp2_with (go_at_call 109; refine (spec_l01Digit _ _).mono ?_; rintro e w' ⟨rfl, rfl⟩; rw [hb])
          go_round
          case rel => exact ⟨m + 1, by omega, by omega, by go_num, HD2⟩
          case measure => simp [intOf]; omega
      · obtain rfl : m = 3 := by omega
        have HT := fin (.inl rfl)
        clear fin
        generalize s.data.toList.take 3 = L at HT HNUM
        cases hq : numOk L
        · rw [hq] at HT HNUM
          go_wp2_with (go_at_call 110; refine (HNUM.out _).mono ?_; rintro e w1 ⟨rfl, b1⟩)
          go_ret2
          have h1 := HT.out.1
          rw [numV, hq] at h1
          exact ⟨ret_pair h1 (by have := HT.out.2; simp at this; omega), b1⟩
        · rw [hq] at HT HNUM
          go_wp2_with (go_at_call 110; refine (HNUM.out _).mono ?_; rintro e w1 ⟨rfl, b1⟩)
          go_ret2
          exact ⟨ret_pair HT.out.1 (by have := HT.out.2; simp at this; omega), b1⟩
    · have HT := fin (.inr (.inl (by omega)))
      clear fin
      generalize s.data.toList.take m = L at HT HNUM
      cases hq : numOk L
      · rw [hq] at HT HNUM
        go_wp2_with (go_at_call 110; refine (HNUM.out _).mono ?_; rintro e w1 ⟨rfl, b1⟩)
        go_ret2
        have h1 := HT.out.1
        rw [numV, hq] at h1
        exact ⟨ret_pair h1 (by have := HT.out.2; simp at this; omega), b1⟩
      · rw [hq] at HT HNUM
        go_wp2_with (go_at_call 110; refine (HNUM.out _).mono ?_; rintro e w1 ⟨rfl, b1⟩)
        go_ret2
        exact ⟨ret_pair HT.out.1 (by have := HT.out.2; simp at this; omega), b1⟩

end Go.Proofs.YtcgbogofmdjddaaDoor

/- Texts of rows. -/
namespace Go.Proofs.YtcgbogofmdjddaaDoor
open Go Go.RowKit

theorem good_of_plain {d : Nat} : ∀ ps : List PieceD, (∀ p ∈ ps, plainP p = true ∧ p.kind ≠ 12) → Good d ps
  | [] => fun _ => by unfold Good; rw [rangeP]; simp
  | p :: r => fun h => by
    obtain ⟨h1, h2⟩ := h p (by simp)
    have ih := good_of_plain (d := d) r fun q hq => h q (by simp [hq])
    unfold Good at ih ⊢
    rw [rangeP, if_neg h2, if_pos h1]
    exact ih
theorem compressed_kinds (xs : List Int) : ∀ p ∈ compressed xs, p.kind ∈ xs := by
  induction xs using snocInd with
  | h0 => simp [compressed]
  | h1 xs x ih =>
    rw [compressed_snoc]
    intro q hq
    have key : q.kind = x ∨ ∃ p ∈ compressed xs, q.kind = p.kind := by
      revert hq
      generalize compressed xs = ps
      rcases List.eq_nil_or_concat ps with rfl | ⟨qs, p, rfl⟩
      · rw [pushP_nil]; intro hq; left; simp at hq; rw [hq]
      · rw [List.concat_eq_append]
        by_cases h : p.kind = x
        · subst h
          rw [pushP_same]
          intro hq
          rcases List.mem_append.1 hq with hq | hq
          · exact .inr ⟨q, by simp [hq], rfl⟩
          · simp at hq; left; rw [hq]
        · rw [pushP_other h]
          intro hq
          rcases List.mem_append.1 hq with hq | hq
          · exact .inr ⟨q, hq, rfl⟩
          · simp at hq; left; rw [hq]
    rcases key with h | ⟨p, hp, h⟩
    · rw [h]; simp
    · rw [h]; exact List.mem_append_left _ (ih p hp)
theorem compressed_good {xs : List Int} (h : stitchesB xs = true) : Good 0 (compressed xs) ∧ (compressed xs).length ≤ 16 := by
  obtain ⟨h16, hk⟩ := stitchesB_of h
  obtain ⟨i1, i2, _⟩ := compressed_inv xs
  refine ⟨good_of_plain _ fun p hp => ?_, by omega⟩
  have hs := hk _ (compressed_kinds xs p hp)
  obtain ⟨t1, t2, t3⟩ := i2 p hp
  have hs' := inR_iff.1 hs
  refine ⟨?_, by omega⟩
  unfold plainP
  simp only [Bool.and_eq_true, decide_eq_true_eq]
  exact ⟨⟨hs, inR_iff.2 ⟨t1, by omega⟩⟩, t3⟩
/-- The text of a row of stitches: none where they are not valid. -/
def rowT (ks : List Int) : ByteArray := if stitchesB ks then txtP (compressed ks) else ⟨#[]⟩

theorem impl_rowText (ks : List Int) (A : Option Addr) (c : Nat) (w : World) (h : Ints w A ks) (hs : stitchesB ks = true) :
    Calls Tryd.prog 60 #[.slice A ks.length c] w fun e w' => e = .returned (.string (txtP (compressed ks))) ∧ Below w.heap.size w w' := by
  obtain ⟨hg, h16⟩ := compressed_good hs
  have hk16 := (stitchesB_of hs).1
  have HG := Lib.hid hg; clear hg
  go_enter Tryd.func60, Tryd.ntmps60
  go_wp2_with (fail)
  refine (impl_compressed A c ks _ h (by omega)).mono ?_; rintro e w2 ⟨A2, c2, rfl, o2, b2⟩
  have h2 := o2.pieces
  have hc := o2.cap
  have hcm := o2.capmax
  go_wp2_with (fail)
  refine (impl_piecesText ((compressed ks).length + 1) _ (Nat.le_refl _) (compressed ks) A2 c2 0 _ (by omega) (by omega) hc hcm h2 HG.out).mono ?_; rintro e w3 ⟨rfl, b3⟩
  go_wp2_with (fail)
  go_ret
  exact ⟨rfl, b2.trans (b3.mono b2.size)⟩

theorem impl_RowText (ks : List Int) (A : Option Addr) (c : Nat) (w : World) (h : Ints w A ks) (hl : ks.length ≤ 9223372036854775807) :
    Calls Tryd.prog 36 #[.slice A ks.length c] w fun e w' => e = .returned (.string (rowT ks)) ∧ Below w.heap.size w w' := by
  cases hv : stitchesB ks
  · have HF : Hid (rowT ks = ⟨#[]⟩) := Lib.hid (by rw [rowT, hv]; rfl)
    go_enter Tryd.func36, Tryd.ntmps36
    go_wp2_with (fail)
    refine (impl_areStitches A c ks _ h hl).mono ?_; rintro e _ ⟨rfl, rfl⟩
    rw [hv]
    go_wp2_with (fail)
    go_ret
    exact ⟨by rw [HF.out]; rfl, Below.refl _ _⟩
  · have HF : Hid (rowT ks = txtP (compressed ks)) := Lib.hid (by rw [rowT, hv]; rfl)
    have HV := Lib.hid hv
    go_enter Tryd.func36, Tryd.ntmps36
    go_wp2_with (fail)
    refine (impl_areStitches A c ks _ h hl).mono ?_; rintro e _ ⟨rfl, rfl⟩
    rw [hv]
    clear hv
    go_wp2_with (fail)
    refine (impl_rowText ks A c _ h HV.out).mono ?_; rintro e w3 ⟨rfl, b3⟩
    go_wp2_with (fail)
    go_ret
    exact ⟨by rw [HF.out]; rfl, b3⟩

end Go.Proofs.YtcgbogofmdjddaaDoor
