/- Steps of the proof, joined from several texts: VP VQ VR SB RT RU RO ROt MC PKi PKt CB TH. -/
import Derived.Test.YthjamohaeahipaaZ4
import Derived.Test.YthjamohaeahipaaZ2
import Derived.BigGuard
import Derived.BigCall
import Derived.Test.YthjamohaeahipaaZ3

/- ValidPieces. -/
namespace Go.Proofs.Ythjamohaeahipaa
open Go.RowKit

def plainP (p : PieceD) : Bool := isStitchB p.kind && inR p.times 1 16 && decide (p.len = 0)
def groupP (d : Nat) (p : PieceD) (m : Nat) : Bool := inR p.times 0 16 && !(decide (p.times = 0) && decide (0 < d)) && inR p.len 1 m
def rangeP (d : Nat) : List PieceD → Option Nat
  | [] => some 0
  | p :: r =>
    if p.kind = 12 then
      if d < 3 ∧ groupP d p r.length = true then
        match rangeP (d + 1) (r.take p.len.toNat) with
        | none => none
        | some _ => (rangeP d (r.drop p.len.toNat)).map (fun o => (if p.times = 0 then 1 else 0) + o)
      else none
    else if plainP p then rangeP d r else none
termination_by l => l.length
decreasing_by all_goals (simp; try omega)
def okP : Option Nat → Bool
  | none => false
  | some o => decide (o ≤ 1)
def piecesB (ps : List PieceD) : Bool := decide (ps.length ≤ 24) && okP (rangeP 0 ps)
def segP (ps : List PieceD) (a b : Nat) : List PieceD := (ps.drop a).take (b - a)
theorem segP_nil (ps : List PieceD) (a : Nat) : segP ps a a = [] := by simp [segP]
theorem segP_all (ps : List PieceD) : segP ps 0 ps.length = ps := by simp [segP]
theorem segP_length {ps : List PieceD} {a b : Nat} (h : b ≤ ps.length) : (segP ps a b).length = b - a := by simp [segP]; omega
theorem segP_cons {ps : List PieceD} {a b : Nat} {p : PieceD} (hp : ps[a]? = some p) (h : a < b) : segP ps a b = p :: segP ps (a + 1) b := by
  unfold segP
  have ha : a < ps.length := by
    by_cases hlt : a < ps.length
    · exact hlt
    · rw [List.getElem?_eq_none (by omega)] at hp; cases hp
  rw [List.drop_eq_getElem_cons ha, show b - a = (b - (a + 1)) + 1 by omega, List.take_succ_cons]
  congr 1
  rw [List.getElem?_eq_getElem ha] at hp
  injection hp
theorem segP_take {ps : List PieceD} {a b n : Nat} (h : a + n ≤ b) : (segP ps a b).take n = segP ps a (a + n) := by
  unfold segP
  rw [List.take_take]
  congr 1
  omega
theorem segP_drop {ps : List PieceD} {a b n : Nat} : (segP ps a b).drop n = segP ps (a + n) b := by
  unfold segP
  rw [List.drop_take, List.drop_drop]
  congr 1
  omega
theorem rangeP_nil (d : Nat) : rangeP d [] = some 0 := by rw [rangeP]
theorem rangeP_plain {d : Nat} {p : PieceD} {r : List PieceD} (h : p.kind ≠ 12) (hp : plainP p = true) : rangeP d (p :: r) = rangeP d r := by rw [rangeP, if_neg h, if_pos hp]
theorem rangeP_bad {d : Nat} {p : PieceD} {r : List PieceD} (h : p.kind ≠ 12) (hp : plainP p = false) : rangeP d (p :: r) = none := by rw [rangeP, if_neg h, if_neg (by simp [hp])]
theorem rangeP_group {d : Nat} {p : PieceD} {r : List PieceD} (h : p.kind = 12) (hd : ¬ (d < 3 ∧ groupP d p r.length = true)) : rangeP d (p :: r) = none := by rw [rangeP, if_pos h, if_neg hd]
theorem rangeP_inner {d : Nat} {p : PieceD} {r : List PieceD} (h : p.kind = 12) (hi : rangeP (d + 1) (r.take p.len.toNat) = none) : rangeP d (p :: r) = none := by
  rw [rangeP, if_pos h]
  split
  · rw [hi]
  · rfl
theorem rangeP_open {d : Nat} {p : PieceD} {r : List PieceD} (h : p.kind = 12) (hd : d < 3) (hg : groupP d p r.length = true) (hi : (rangeP (d + 1) (r.take p.len.toNat)).isSome = true) : rangeP d (p :: r) = (rangeP d (r.drop p.len.toNat)).map (fun o => (if p.times = 0 then 1 else 0) + o) := by
  rw [rangeP, if_pos h, if_pos ⟨hd, hg⟩]
  split
  · rename_i e; rw [e] at hi; cases hi
  · rfl
theorem rangeP_zero (n d : Nat) (hd : 0 < d) : ∀ l : List PieceD, l.length ≤ n → ∀ o, rangeP d l = some o → o = 0 := by
  induction n with
  | zero =>
    intro l hl o h
    have : l = [] := by cases l <;> simp_all
    subst this
    rw [rangeP_nil] at h
    injection h with h
    exact h.symm
  | succ n ih =>
    intro l hl o h
    cases l with
    | nil => rw [rangeP_nil] at h; injection h with h; exact h.symm
    | cons p r =>
      simp at hl
      rw [rangeP] at h
      split at h
      · split at h
        · rename_i hg
          split at h
          · cases h
          · rw [Option.map_eq_some_iff] at h
            obtain ⟨o', ho', e⟩ := h
            have := ih _ (by simp; omega) o' ho'
            have ht : p.times ≠ 0 := by
              intro ht
              have := hg.2
              simp [groupP, ht, hd] at this
            rw [if_neg ht] at e
            omega
        · cases h
      · split at h
        · exact ih r hl o h
        · cases h
def openOf : Option Nat → Int
  | none => 0
  | some o => o


end Go.Proofs.Ythjamohaeahipaa

/- ValidPieces, the program's side. -/
namespace Go.Proofs.Ythjamohaeahipaa
open Go.RowKit

theorem Pieces.seg {w : World} {ps : List PieceD} {b off : Nat} (h : Pieces w (some ⟨b, off, none⟩) ps) {i j : Nat} (hj : j ≤ ps.length) : Pieces w (some ⟨b, off + i * 3, none⟩) (segP ps i j) := by
  intro k hk
  rw [segP_length hj] at hk
  obtain ⟨b', off', p, hA, hp, c0, c1, c2⟩ := h (i + k) (by omega)
  injection hA with hA
  injection hA with hb ho
  subst hb ho
  refine ⟨b, off + i * 3, p, rfl, ?_, ?_, ?_, ?_⟩
  · unfold segP
    rw [List.getElem?_take_of_lt hk, List.getElem?_drop]
    exact hp
  · rw [show off + i * 3 + k * 3 = off + (i + k) * 3 by omega]; exact c0
  · rw [show off + i * 3 + k * 3 + 1 = off + (i + k) * 3 + 1 by omega]; exact c1
  · rw [show off + i * 3 + k * 3 + 2 = off + (i + k) * 3 + 2 by omega]; exact c2
theorem Blk.set1 {w : World} {g : Nat} {t : TypeId} {a : Value} (h : Blk w g t #[a]) (u : Value) : Blk (w.setCell ⟨g, 0, none⟩ u) g t #[u] := by
  unfold Blk at h ⊢
  simp [World.setCell, Array.getElem?_modify, h]


end Go.Proofs.Ythjamohaeahipaa

/- ValidPieces, the program's function. -/
namespace Go.Proofs.Ythjamohaeahipaa
open Go.RowKit

theorem OwnC.capmax {w : World} {lo hi : Nat} {e : TypeId} {sz : Nat} {A : Option Addr} {n c : Nat} {cs : List Value} (h : OwnC w lo hi e sz A n c cs) : c ≤ 9223372036854775807 := by
  rcases h.form with ⟨_, _, h1, _⟩ | ⟨_, _, _, _, _, _, _, h1, _⟩
  · omega
  · unfold maxLen at h1; omega


end Go.Proofs.Ythjamohaeahipaa

/- StacksAfter. -/
namespace Go.Proofs.Ythjamohaeahipaa
open Go.RowKit

theorem ints_one (xs : List Int) : ∀ u ∈ xs.map (Value.int .i64), u.oneCell' = true := by
  intro u hu
  simp only [List.mem_map] at hu
  obtain ⟨x, _, rfl⟩ := hu
  rfl
theorem OwnC.nilc {w : World} {lo hi : Nat} {e : TypeId} {sz : Nat} {A : Option Addr} {n c : Nat} {cs : List Value} (h : OwnC w lo hi e sz A n c cs) : (A = none ∧ c = 0) ∨ ∃ b off, A = some ⟨b, off, none⟩ := by
  rcases h.form with ⟨h1, _, h2, _⟩ | ⟨g, _, h1, _⟩
  · exact .inl ⟨h1, h2⟩
  · exact .inr ⟨g, 0, h1⟩
theorem step_take {k : Int} (hk : isStitchB k = true) (st : List Int) : stepMade k (st.take (takenN k)) = stepMade k st ∧ stepOk k (st.take (takenN k)) = stepOk k st := by
  rcases stitch_cases hk with rfl | rfl | rfl | rfl | rfl | rfl | rfl | rfl | rfl | rfl | rfl
  all_goals (simp [stepMade, stepOk, takenN, st0, st1]; try (first | rfl | (apply Bool.eq_iff_iff.2; simp)))
theorem stepMade_length {k : Int} (hk : isStitchB k = true) (st : List Int) : (stepMade k st).length ≤ 4 := by
  have := takenN_le k hk
  unfold stepMade
  split
  · simp
  · split
    · simp
    · simp; omega
theorem Ints.drop {w : World} {b off : Nat} {xs : List Int} (h : Ints w (some ⟨b, off, none⟩) xs) (t : Nat) : Ints w (some ⟨b, off + t, none⟩) (xs.drop t) := by
  intro k hk
  rw [List.length_drop] at hk
  obtain ⟨b', off', x, hA, hc, hx⟩ := h (t + k) (by omega)
  injection hA with hA
  injection hA with h1 h2
  subst h1 h2
  exact ⟨b, off + t, x, rfl, by rw [Nat.add_assoc]; exact hc, by rw [List.getElem?_drop]; exact hx⟩

set_option maxHeartbeats 1000000 in
theorem spec_StacksAfter (st ks : List Int) (A : Option Addr) (c : Nat) (B : Option Addr) (d : Nat) (w : World) (h : Ints w A st) (hl : st.length ≤ 9223372036854775807) (h' : Ints w B ks) (hl' : ks.length ≤ 9223372036854775807) :
    Calls Try.prog 20 #[.slice A st.length c, .slice B ks.length d] w fun e w' => ∃ A' c', e = .returned (.tuple #[.slice A' (stacksAfterP st ks).1.length c', .int .i64 (stacksAfterP st ks).2]) ∧ OwnI w' w.heap.size w'.heap.size A' c' (stacksAfterP st ks).1 ∧ Below w.heap.size w w' := by
  by_cases h1 : stacksB st = true
  · by_cases h2 : stitchesB ks = true
    · have HP : Hid (takenP ks = takenS ks) := Lib.hid (by rw [takenP, if_pos h2])
      by_cases h3 : takenS ks = st.length
      · have HF := Lib.hid (stacksAfterP_spec h1 h2 h3)
        have H1 := Lib.hid h1
        have H2 := Lib.hid h2
        have H3 := Lib.hid h3
        have h3' : ((takenS ks : Int) != (st.length : Int)) = false := by simp [h3]
        have hal := afterP_length_le (stitchesB_of h2).2 st
        have hkl := (stitchesB_of h2).1
        clear h3
        go_enter Try.func20, Try.ntmps20
        go_wp2_with (fail)
        refine (spec_l14Stacks _ _ _ _ h hl).mono ?_; rintro e _ ⟨rfl, rfl⟩
        go_wp2_with (fail)
        refine (spec_l14Ok _ _ _ _ h' hl').mono ?_; rintro e _ ⟨rfl, rfl⟩
        go_wp2_with (fail)
        refine (spec_TakenBy _ _ _ _ h' hl').mono ?_; rintro e w2 ⟨rfl, b2⟩
        rw [HP.out]
        go_wp2_with (fail)
        refine (spec_l14After A B _ _ st ks _ (h.below b2) (h'.below b2) H1.out H2.out H3.out).mono ?_; rintro e w3 ⟨A3, c3, rfl, o3, b3⟩
        have hb3 : Below w.heap.size w w3 := b2.trans (b3.mono b2.size)
        have hz3 := b3.size
        go_wp2_with (fail)
        refine (spec_l14Stacks _ _ _ _ o3.ints (by omega)).mono ?_; rintro e _ ⟨rfl, rfl⟩
        cases ha : stacksB (afterP ks st)
        · go_wp2_with (fail)
          go_ret2
          rw [HF.out, ha]
          exact ⟨_, _, rfl, OwnC.nil _ _ _ _ _, hb3⟩
        · go_wp2_with (fail)
          refine (spec_l14Thick A B _ _ st ks _ (h.below hb3) (h'.below hb3) H1.out H2.out H3.out).mono ?_; rintro e w4 ⟨rfl, b4⟩
          have hb4 : Below w.heap.size w w4 := hb3.trans (b4.mono hb3.size)
          have o4 := o3.below b4 (Nat.le_refl _)
          have hz4 := b4.size
          have hz2 := b2.size
          cases hb : thickP ks st
          · go_wp2_with (fail)
            go_ret2
            rw [HF.out, ha, hb]
            exact ⟨_, _, rfl, o4.mono hz2 hz4, hb4⟩
          · go_wp2_with (fail)
            go_ret2
            rw [HF.out, ha, hb]
            exact ⟨_, _, rfl, OwnC.nil _ _ _ _ _, hb4⟩
      · have HF : Hid (stacksAfterP st ks = ([], 10)) := Lib.hid (by simp [stacksAfterP, h1, h2, h3])
        have h3' : ((takenS ks : Int) != (st.length : Int)) = true := by simp; omega
        clear h3
        go_enter Try.func20, Try.ntmps20
        go_wp2_with (fail)
        refine (spec_l14Stacks _ _ _ _ h hl).mono ?_; rintro e _ ⟨rfl, rfl⟩
        go_wp2_with (fail)
        refine (spec_l14Ok _ _ _ _ h' hl').mono ?_; rintro e _ ⟨rfl, rfl⟩
        go_wp2_with (fail)
        refine (spec_TakenBy _ _ _ _ h' hl').mono ?_; rintro e w2 ⟨rfl, b2⟩
        rw [HP.out]
        go_wp2_with (fail)
        go_ret2
        rw [HF.out]
        exact ⟨_, _, rfl, OwnC.nil _ _ _ _ _, b2⟩
    · have h2' : stitchesB ks = false := by simpa using h2
      have HF : Hid (stacksAfterP st ks = ([], 1)) := Lib.hid (by rw [stacksAfterP, h2', Bool.and_false]; rfl)
      clear h2
      go_enter Try.func20, Try.ntmps20
      go_wp2_with (fail)
      refine (spec_l14Stacks _ _ _ _ h hl).mono ?_; rintro e _ ⟨rfl, rfl⟩
      go_wp2_with (fail)
      refine (spec_l14Ok _ _ _ _ h' hl').mono ?_; rintro e _ ⟨rfl, rfl⟩
      go_wp2_with (fail)
      go_ret2
      rw [HF.out]
      exact ⟨_, _, rfl, OwnC.nil _ _ _ _ _, Below.refl _ _⟩
  · have h1' : stacksB st = false := by simpa using h1
    have HF : Hid (stacksAfterP st ks = ([], 1)) := Lib.hid (by rw [stacksAfterP, h1', Bool.false_and]; rfl)
    clear h1
    go_enter Try.func20, Try.ntmps20
    go_wp2_with (fail)
    refine (spec_l14Stacks _ _ _ _ h hl).mono ?_; rintro e _ ⟨rfl, rfl⟩
    go_wp2_with (fail)
    go_ret2
    rw [HF.out]
    exact ⟨_, _, rfl, OwnC.nil _ _ _ _ _, Below.refl _ _⟩

set_option maxHeartbeats 4000000 in
set_option maxRecDepth 10000 in
theorem impl_StacksAfter_some (st ks : List Int) (b0 off0 c : Nat) (B : Option Addr) (d : Nat) (w : World) (h : Ints w (some ⟨b0, off0, none⟩) st) (hc0 : st.length ≤ c) (hcm : c ≤ 9223372036854775807) (h' : Ints w B ks) (hl' : ks.length ≤ 9223372036854775807) (h1 : stacksB st = true) (h2 : stitchesB ks = true) (h3 : takenS ks = st.length) :
    Calls Try.prog 44 #[.slice (some ⟨b0, off0, none⟩) st.length c, .slice B ks.length d] w fun e w' => ∃ A' c', e = .returned (.tuple #[.slice A' (stacksAfterP st ks).1.length c', .int .i64 (stacksAfterP st ks).2]) ∧ OwnI w' w.heap.size w'.heap.size A' c' (stacksAfterP st ks).1 ∧ Below w.heap.size w w' := by
  obtain ⟨i0, hi0, hz0, hz1, hz2⟩ := info_parts info_int64
  have HF : Hid (stacksAfterP st ks = if okAfter ks st && decide ((afterP ks st).length ≤ 8) then (afterP ks st, 0) else ([], 5)) := Lib.hid (by rw [stacksAfterP, h1, h2]; simp [h3])
  obtain ⟨hl16, hst⟩ := stitchesB_of h2
  obtain ⟨hl8, hr⟩ := stacksB_of h1
  have HST := Lib.hid hst; clear hst
  have HR := Lib.hid hr; clear hr
  have HEQ := Lib.hid h3
  have h3' : ((takenS ks : Int) != (st.length : Int)) = false := by simp [h3]
  have H2 := Lib.hid h2
  clear h3
  go_enter Try.func44, Try.ntmps44
  go_wp2_with (fail)
  refine (impl_areStacks _ _ _ _ h (by omega)).mono ?_; rintro e _ ⟨rfl, rfl⟩
  go_wp2_with (fail)
  refine (impl_areStitches _ _ _ _ h' hl').mono ?_; rintro e _ ⟨rfl, rfl⟩
  go_wp2_with (fail)
  refine (impl_takenBy _ _ _ _ h' H2.out).mono ?_; rintro e _ ⟨rfl, rfl⟩
  go_wp2_with (fail)
  go_loopw [6, 7, 30] (fun ov rv iv wr => ∃ (i t o lr cr : Nat) (A' : Option Addr) (c' : Nat) (out : List Int), i ≤ ks.length ∧ iv = .int .i64 i ∧ rv = .slice (some ⟨b0, o, none⟩) lr cr ∧ st.length = t + lr ∧ c = t + cr ∧ (0 < lr → o = off0 + t) ∧ ov = .slice A' out.length c' ∧ OwnI wr w.heap.size wr.heap.size A' c' out ∧ Below w.heap.size w wr ∧ Hid (takenS (ks.take i) = t) ∧ Hid (afterP ks st = out ++ afterP (ks.drop i) (st.drop t)) ∧ Hid (okAfter ks st = okAfter (ks.drop i) (st.drop t)) ∧ out.length ≤ 4 * i) (fun _ _ iv _ => ks.length - (intOf iv).toNat)
  case atStart =>
    exact ⟨0, 0, off0, st.length, c, some ⟨w.heap.size, 0, none⟩, 0, [], Nat.zero_le _, rfl, rfl, by omega, by omega, fun _ => rfl, rfl, (OwnC.lit _ 1 #[] (Nat.le_refl _) (Nat.zero_le _) rfl).mono (Nat.le_refl _) (by simp), by (repeat (first | exact Below.refl _ _ | assumption | apply Below.drew | apply below_drewN | (refine Below.alloc ?_ (by first | omega | (simp; done) | (simp; omega)) _) | (refine Below.setCell ?_ (by first | omega | (simp; done) | (simp; omega)) _))), Lib.hid rfl, Lib.hid (by simp), Lib.hid (by simp), by simp⟩
  case round =>
    obtain ⟨i, t, o, lr, cr, A', c', out, hi, rfl, rfl, hlr, hcr, hor, rfl, ho, hb, HT, HA, HO, hol⟩ := hrel
    have hzs := hb.size
    by_cases hlt : i < ks.length
    · obtain ⟨b, off, k, rfl, hc, hk⟩ := h' i hlt
      replace hc := cells_below hb _ _ hc
      have hq := HST.out k (List.mem_of_getElem? hk)
      have hle : t + takenN k ≤ st.length := by have := takenS_at hk; rw [HT.out, HEQ.out] at this; exact this
      have HT2 : Hid (takenS (ks.take (i + 1)) = t + takenN k) := Lib.hid (by rw [takenS_snoc hk, HT.out])
      have HA2 : Hid (afterP ks st = (out ++ stepMade k (st.drop t)) ++ afterP (ks.drop (i + 1)) (st.drop (t + takenN k))) := Lib.hid (by rw [HA.out, afterP_drop hk, List.append_assoc])
      have HO2 : Hid (okAfter ks st = (stepOk k (st.drop t) && okAfter (ks.drop (i + 1)) (st.drop (t + takenN k)))) := Lib.hid (by rw [HO.out, okAfter_drop hk])
      have HB : Hid (takenB k = takenN k) := Lib.hid (takenB_of hq)
      have hml := stepMade_length hq (st.drop t)
      have hpart : Ints w (some ⟨b0, o, none⟩) ((st.drop t).take (takenN k)) := by
        by_cases h0 : 0 < lr
        · rw [hor h0]; exact Ints.take (h.drop t) _
        · have : (st.drop t).take (takenN k) = [] := by rw [drop_all (by omega)]; simp
          rw [this]; exact Ints.nil
      have hpl : ((st.drop t).take (takenN k)).length = takenN k := by rw [List.length_take, List.length_drop]; omega
      have hcon : ∀ W, Below w.heap.size w W → Calls Try.prog 65 #[.int .i64 k, .slice (some ⟨b0, o, none⟩) (takenN k) cr] W fun e w' => ∃ A' c', e = .returned (.tuple #[.slice A' (stepMade k (st.drop t)).length c', .bool (stepOk k (st.drop t))]) ∧ OwnI w' W.heap.size w'.heap.size A' c' (stepMade k (st.drop t)) ∧ Below W.heap.size W w' := fun W hW => by
        have := impl_madeStacks k (some ⟨b0, o, none⟩) ((st.drop t).take (takenN k)) cr W (hpart.below hW) hq hpl fun x hx => HR.out x (List.mem_of_mem_drop (List.mem_of_mem_take hx))
        rw [(step_take hq (st.drop t)).1, (step_take hq (st.drop t)).2, hpl] at this
        exact this
      have HC := Lib.hid hcon
      clear hk HT HA HO hcon hpart hpl
      have hn1 : takenN k ≤ lr := by omega
      have hn2 : takenN k ≤ cr := by omega
      have hn3 : lr ≤ cr := by omega
      have hn4 : cr ≤ 9223372036854775807 := by omega
      have HLR := Lib.hid hlr; clear hlr
      have HCR := Lib.hid hcr; clear hcr
      go_wp2_with (fail)
      refine (impl_ColumnsTaken _ _).mono ?_; rintro e _ ⟨rfl, rfl⟩
      rw [HB.out]
      go_wp2_with (fail)
      refine (HC.out _ hb).mono ?_; rintro e w2 ⟨A2, c2, rfl, o2, b2⟩
      have hb2 : Below w.heap.size w w2 := hb.trans (b2.mono hzs)
      have hz2' := b2.size
      have ho2 := ho.below b2 (Nat.le_refl _)
      cases hok : stepOk k (st.drop t)
      · go_wp2_with (fail)
        go_ret2
        rw [HF.out, HO2.out, hok]
        exact ⟨_, _, rfl, OwnC.nil _ _ _ _ _, hb2⟩
      · have HM : Hid (out ++ stepMade k (st.drop t) = out ++ stepMade k (st.drop t)) := Lib.hid rfl
        generalize stepMade k (st.drop t) = ms at o2 hml HA2 HM
        by_cases hcn : cr = takenN k
        · have hcn' : cr ≤ takenN k := by omega
          clear hcn
          go_wp2_with (at_builtin; refine wpList_appendC w2 rfl (.tmp 46) (.tmp 47) _ rfl 2 i0 _ 1 8 Try.underlying22 hi0 hz0 hz1 hz2 rfl (by decide) rfl ho2 (by omega) A2 ms.length c2 (ms.map (Value.int .i64)) rfl (by simp) o2.news (ints_one _) (by unfold maxLen; omega) (by omega) ?_; intro A5 c5 w5 ho5 hg5 hb5)
          go_roundw
          case rel => exact ⟨i + 1, t + takenN k, o, lr - takenN k, cr - takenN k, A5, c5, out ++ ms, by omega, by go_num, by first | rfl | (simp; done) | (simp; omega), by have := HLR.out; omega, by have := HCR.out; omega, fun h0 => by omega, by rw [List.length_append], by show OwnC _ _ _ _ _ _ _ _ _; rw [List.map_append, List.length_append]; exact ho5, hb2.trans hb5, HT2, HA2, Lib.hid (by rw [HO2.out, hok, Bool.true_and]), by simp; omega⟩
          case measure => simp [intOf]; omega
        · go_wp2_with (at_builtin; refine wpList_appendC w2 rfl (.tmp 46) (.tmp 47) _ rfl 2 i0 _ 1 8 Try.underlying22 hi0 hz0 hz1 hz2 rfl (by decide) rfl ho2 (by omega) A2 ms.length c2 (ms.map (Value.int .i64)) rfl (by simp) o2.news (ints_one _) (by unfold maxLen; omega) (by omega) ?_; intro A5 c5 w5 ho5 hg5 hb5)
          go_roundw
          case rel => exact ⟨i + 1, t + takenN k, o + takenN k, lr - takenN k, cr - takenN k, A5, c5, out ++ ms, by omega, by go_num, by first | rfl | (simp; done) | (simp; omega), by have := HLR.out; omega, by have := HCR.out; omega, fun h0 => by have := hor (by omega); omega, by rw [List.length_append], by show OwnC _ _ _ _ _ _ _ _ _; rw [List.map_append, List.length_append]; exact ho5, hb2.trans hb5, HT2, HA2, Lib.hid (by rw [HO2.out, hok, Bool.true_and]), by simp; omega⟩
          case measure => simp [intOf]; omega
    · have he := HA.out
      rw [drop_all (by omega), afterP, List.append_nil] at he
      have hok := HO.out
      rw [drop_all (by omega), okAfter] at hok
      by_cases h8 : out.length ≤ 8
      · go_wp2_with (fail)
        go_ret2
        rw [HF.out, hok, he, decide_eq_true h8]
        exact ⟨_, _, rfl, ho, hb⟩
      · go_wp2_with (fail)
        go_ret2
        rw [HF.out, hok, he, decide_eq_false h8]
        exact ⟨_, _, rfl, OwnC.nil _ _ _ _ _, hb⟩

set_option maxHeartbeats 2000000 in
set_option maxRecDepth 10000 in
theorem impl_StacksAfter_nil (ks : List Int) (B : Option Addr) (d : Nat) (w : World) (h' : Ints w B ks) (hl' : ks.length ≤ 9223372036854775807) (h2 : stitchesB ks = true) (h3 : takenS ks = 0) :
    Calls Try.prog 44 #[.slice none 0 0, .slice B ks.length d] w fun e w' => ∃ A' c', e = .returned (.tuple #[.slice A' (stacksAfterP [] ks).1.length c', .int .i64 (stacksAfterP [] ks).2]) ∧ OwnI w' w.heap.size w'.heap.size A' c' (stacksAfterP [] ks).1 ∧ Below w.heap.size w w' := by
  obtain ⟨i0, hi0, hz0, hz1, hz2⟩ := info_parts info_int64
  have h1 : stacksB [] = true := rfl
  have HF : Hid (stacksAfterP [] ks = if okAfter ks [] && decide ((afterP ks []).length ≤ 8) then (afterP ks [], 0) else ([], 5)) := Lib.hid (by simp [stacksAfterP, h1, h2, h3])
  obtain ⟨hl16, hst⟩ := stitchesB_of h2
  have HST := Lib.hid hst; clear hst
  have HEQ := Lib.hid h3
  have h3' : ((takenS ks : Int) != 0) = false := by simp [h3]
  have H2 := Lib.hid h2
  have h0 := impl_areStacks none 0 [] w Ints.nil (Nat.zero_le _)
  have H0 := Lib.hid h0; clear h0
  clear h3
  go_enter Try.func44, Try.ntmps44
  go_wp2_with (fail)
  refine H0.out.mono ?_; rintro e _ ⟨rfl, rfl⟩
  go_wp2_with (fail)
  refine (impl_areStitches _ _ _ _ h' hl').mono ?_; rintro e _ ⟨rfl, rfl⟩
  go_wp2_with (fail)
  refine (impl_takenBy _ _ _ _ h' H2.out).mono ?_; rintro e _ ⟨rfl, rfl⟩
  go_wp2_with (fail)
  go_loopw [6, 7, 30] (fun ov rv iv wr => ∃ (i : Nat) (A' : Option Addr) (c' : Nat) (out : List Int), i ≤ ks.length ∧ iv = .int .i64 i ∧ rv = .slice none 0 0 ∧ ov = .slice A' out.length c' ∧ OwnI wr w.heap.size wr.heap.size A' c' out ∧ Below w.heap.size w wr ∧ Hid (takenS (ks.take i) = 0) ∧ Hid (afterP ks [] = out ++ afterP (ks.drop i) []) ∧ Hid (okAfter ks [] = okAfter (ks.drop i) []) ∧ out.length ≤ 4 * i) (fun _ _ iv _ => ks.length - (intOf iv).toNat)
  case atStart =>
    exact ⟨0, some ⟨w.heap.size, 0, none⟩, 0, [], Nat.zero_le _, rfl, rfl, rfl, (OwnC.lit _ 1 #[] (Nat.le_refl _) (Nat.zero_le _) rfl).mono (Nat.le_refl _) (by simp), by (repeat (first | exact Below.refl _ _ | assumption | apply Below.drew | apply below_drewN | (refine Below.alloc ?_ (by first | omega | (simp; done) | (simp; omega)) _) | (refine Below.setCell ?_ (by first | omega | (simp; done) | (simp; omega)) _))), Lib.hid rfl, Lib.hid (by simp), Lib.hid (by simp), by simp⟩
  case round =>
    obtain ⟨i, A', c', out, hi, rfl, rfl, rfl, ho, hb, HT, HA, HO, hol⟩ := hrel
    have hzs := hb.size
    by_cases hlt : i < ks.length
    · obtain ⟨b, off, k, rfl, hc, hk⟩ := h' i hlt
      replace hc := cells_below hb _ _ hc
      have hq := HST.out k (List.mem_of_getElem? hk)
      have hle : takenN k = 0 := by have := takenS_at hk; rw [HT.out, HEQ.out] at this; omega
      have hk3 : k = 3 := by
        rcases stitch_cases hq with rfl | rfl | rfl | rfl | rfl | rfl | rfl | rfl | rfl | rfl | rfl <;> first | rfl | (exact absurd hle (by decide))
      subst hk3
      have HT2 : Hid (takenS (ks.take (i + 1)) = 0) := Lib.hid (by rw [takenS_snoc hk, HT.out]; rfl)
      have HA2 : Hid (afterP ks [] = (out ++ [1]) ++ afterP (ks.drop (i + 1)) []) := Lib.hid (by rw [HA.out, drop_cons hk, afterP, List.append_assoc]; rfl)
      have HO2 : Hid (okAfter ks [] = okAfter (ks.drop (i + 1)) []) := Lib.hid (by rw [HO.out, drop_cons hk, okAfter]; rfl)
      have HB : Hid (takenB 3 = 0) := Lib.hid rfl
      clear hk HT HA HO hle
      go_wp2_with (fail)
      refine (impl_ColumnsTaken _ _).mono ?_; rintro e _ ⟨rfl, rfl⟩
      rw [HB.out]
      go_wp2_with (fail)
      refine (madeStacks_3 _ _ _ _).mono ?_; rintro e w2 ⟨A2, c2, rfl, o2, b2⟩
      have hb2 : Below w.heap.size w w2 := hb.trans (b2.mono hzs)
      have hz2' := b2.size
      have ho2 := ho.below b2 (Nat.le_refl _)
      go_wp2_with (at_builtin; refine wpList_appendC w2 rfl (.tmp 46) (.tmp 47) _ rfl 2 i0 _ 1 8 Try.underlying22 hi0 hz0 hz1 hz2 rfl (by decide) rfl ho2 (by omega) A2 1 c2 (([1] : List Int).map (Value.int .i64)) rfl (by simp) o2.news (ints_one _) (by unfold maxLen; omega) (by omega) ?_; intro A5 c5 w5 ho5 hg5 hb5)
      go_roundw
      case rel => exact ⟨i + 1, A5, c5, out ++ [1], by omega, by go_num, by first | rfl | simp, by rw [List.length_append]; rfl, by show OwnC _ _ _ _ _ _ _ _ _; rw [List.map_append, List.length_append]; exact ho5, hb2.trans hb5, HT2, HA2, HO2, by simp; omega⟩
      case measure => simp [intOf]; omega
    · have he := HA.out
      rw [drop_all (by omega), afterP, List.append_nil] at he
      have hok := HO.out
      rw [drop_all (by omega), okAfter] at hok
      by_cases h8 : out.length ≤ 8
      · go_wp2_with (fail)
        go_ret2
        rw [HF.out, hok, he, decide_eq_true h8]
        exact ⟨_, _, rfl, ho, hb⟩
      · go_wp2_with (fail)
        go_ret2
        rw [HF.out, hok, he, decide_eq_false h8]
        exact ⟨_, _, rfl, OwnC.nil _ _ _ _ _, hb⟩

set_option maxHeartbeats 1000000 in
theorem impl_StacksAfter (st ks : List Int) (A : Option Addr) (c : Nat) (B : Option Addr) (d : Nat) (w : World) (h : Ints w A st) (hl : st.length ≤ 9223372036854775807) (hc0 : st.length ≤ c) (hcm : c ≤ 9223372036854775807) (hn : (A = none ∧ c = 0) ∨ ∃ b off, A = some ⟨b, off, none⟩) (h' : Ints w B ks) (hl' : ks.length ≤ 9223372036854775807) :
    Calls Try.prog 44 #[.slice A st.length c, .slice B ks.length d] w fun e w' => ∃ A' c', e = .returned (.tuple #[.slice A' (stacksAfterP st ks).1.length c', .int .i64 (stacksAfterP st ks).2]) ∧ OwnI w' w.heap.size w'.heap.size A' c' (stacksAfterP st ks).1 ∧ Below w.heap.size w w' := by
  by_cases h1 : stacksB st = true
  · by_cases h2 : stitchesB ks = true
    · by_cases h3 : takenS ks = st.length
      · rcases hn with ⟨rfl, rfl⟩ | ⟨b, off, rfl⟩
        · obtain rfl : st = [] := List.eq_nil_of_length_eq_zero (by omega)
          exact impl_StacksAfter_nil ks B d w h' hl' h2 h3
        · exact impl_StacksAfter_some st ks b off c B d w h hc0 hcm h' hl' h1 h2 h3
      · have HF : Hid (stacksAfterP st ks = ([], 10)) := Lib.hid (by simp [stacksAfterP, h1, h2, h3])
        have h3' : ((takenS ks : Int) != (st.length : Int)) = true := by simp; omega
        have H2 := Lib.hid h2
        clear h3
        go_enter Try.func44, Try.ntmps44
        go_wp2_with (fail)
        refine (impl_areStacks _ _ _ _ h hl).mono ?_; rintro e _ ⟨rfl, rfl⟩
        go_wp2_with (fail)
        refine (impl_areStitches _ _ _ _ h' hl').mono ?_; rintro e _ ⟨rfl, rfl⟩
        go_wp2_with (fail)
        refine (impl_takenBy _ _ _ _ h' H2.out).mono ?_; rintro e _ ⟨rfl, rfl⟩
        go_wp2_with (fail)
        go_ret2
        rw [HF.out]
        exact ⟨_, _, rfl, OwnC.nil _ _ _ _ _, Below.refl _ _⟩
    · have h2' : stitchesB ks = false := by simpa using h2
      have HF : Hid (stacksAfterP st ks = ([], 1)) := Lib.hid (by rw [stacksAfterP, h2', Bool.and_false]; rfl)
      clear h2
      go_enter Try.func44, Try.ntmps44
      go_wp2_with (fail)
      refine (impl_areStacks _ _ _ _ h hl).mono ?_; rintro e _ ⟨rfl, rfl⟩
      go_wp2_with (fail)
      refine (impl_areStitches _ _ _ _ h' hl').mono ?_; rintro e _ ⟨rfl, rfl⟩
      go_wp2_with (fail)
      go_ret2
      rw [HF.out]
      exact ⟨_, _, rfl, OwnC.nil _ _ _ _ _, Below.refl _ _⟩
  · have h1' : stacksB st = false := by simpa using h1
    have HF : Hid (stacksAfterP st ks = ([], 1)) := Lib.hid (by rw [stacksAfterP, h1', Bool.false_and]; rfl)
    clear h1
    go_enter Try.func44, Try.ntmps44
    go_wp2_with (fail)
    refine (impl_areStacks _ _ _ _ h hl).mono ?_; rintro e _ ⟨rfl, rfl⟩
    go_wp2_with (fail)
    go_ret2
    rw [HF.out]
    exact ⟨_, _, rfl, OwnC.nil _ _ _ _ _, Below.refl _ _⟩

end Go.Proofs.Ythjamohaeahipaa

/- RowLetters. -/
namespace Go.Proofs.Ythjamohaeahipaa
open Go.RowKit

theorem lettersFrom_drop {ks : List Int} {i : Nat} {k c : Int} (h : ks[i]? = some k) : lettersFrom (ks.drop i) c = stLetters k c ++ lettersFrom (ks.drop (i + 1)) (c + takenN k) := by rw [drop_cons h, lettersFrom]
theorem takenP_of {ks : List Int} (h : stitchesB ks = true) : takenP ks = takenS ks := by rw [takenP, if_pos h]
theorem row_stitches {d r : Int} {ks : List Int} (h : rowB d r ks = true) : stitchesB ks = true := by
  unfold rowB at h
  simp only [Bool.and_eq_true] at h
  exact h.2


end Go.Proofs.Ythjamohaeahipaa

/- RowLetters, the program's side. -/
namespace Go.Proofs.Ythjamohaeahipaa
open Go.RowKit


end Go.Proofs.Ythjamohaeahipaa

/- RowOfLetters. -/
namespace Go.Proofs.Ythjamohaeahipaa
open Go.RowKit

def rowFrom (n : Nat) (xs : List Int) (c : Nat) : List Int :=
  if c < n then (if (c : Int) + 1 ∈ xs then 8 :: rowFrom n xs (c + 2) else if -(c : Int) - 1 ∈ xs then 9 :: rowFrom n xs (c + 2) else 1 :: rowFrom n xs (c + 1)) else []
termination_by n - c
decreasing_by all_goals omega
theorem rowFrom_end {n c : Nat} (xs : List Int) (h : n ≤ c) : rowFrom n xs c = [] := by rw [rowFrom, if_neg (by omega)]
theorem rowFrom_8 {n c : Nat} {xs : List Int} (h : c < n) (h1 : (c : Int) + 1 ∈ xs) : rowFrom n xs c = 8 :: rowFrom n xs (c + 2) := by rw [rowFrom, if_pos h, if_pos h1]
theorem rowFrom_9 {n c : Nat} {xs : List Int} (h : c < n) (h1 : ¬ (c : Int) + 1 ∈ xs) (h2 : -(c : Int) - 1 ∈ xs) : rowFrom n xs c = 9 :: rowFrom n xs (c + 2) := by rw [rowFrom, if_pos h, if_neg h1, if_pos h2]
theorem rowFrom_1 {n c : Nat} {xs : List Int} (h : c < n) (h1 : ¬ (c : Int) + 1 ∈ xs) (h2 : ¬ -(c : Int) - 1 ∈ xs) : rowFrom n xs c = 1 :: rowFrom n xs (c + 1) := by rw [rowFrom, if_pos h, if_neg h1, if_neg h2]
theorem rowFrom_length (n : Nat) (xs : List Int) (m : Nat) : ∀ c, n - c ≤ m → (rowFrom n xs c).length ≤ m := by
  induction m with
  | zero => intro c hc; rw [rowFrom_end xs (by omega)]; simp
  | succ m ih =>
    intro c hc
    rw [rowFrom]
    split
    · split
      · have := ih (c + 2) (by omega); simp; omega
      · split
        · have := ih (c + 2) (by omega); simp; omega
        · have := ih (c + 1) (by omega); simp; omega
    · simp
theorem Blk.set32 {w : World} {g : Nat} {t : TypeId} {a b c : Value} (h : Blk w g t #[a, b, c]) (u : Value) : Blk (w.setCell ⟨g, 2, none⟩ u) g t #[a, b, u] := by
  unfold Blk at h ⊢
  simp [World.setCell, Array.getElem?_modify, h]
theorem Blk.set30 {w : World} {g : Nat} {t : TypeId} {a b c : Value} (h : Blk w g t #[a, b, c]) (u : Value) : Blk (w.setCell ⟨g, 0, none⟩ u) g t #[u, b, c] := by
  unfold Blk at h ⊢
  simp [World.setCell, Array.getElem?_modify, h]
theorem Blk.set31 {w : World} {g : Nat} {t : TypeId} {a b c : Value} (h : Blk w g t #[a, b, c]) (u : Value) : Blk (w.setCell ⟨g, 1, none⟩ u) g t #[a, u, c] := by
  unfold Blk at h ⊢
  simp [World.setCell, Array.getElem?_modify, h]
theorem OwnC.farT {w : World} {lo hi : Nat} {e : TypeId} {sz : Nat} {A : Option Addr} {n c : Nat} {cs : List Value} {g : Nat} {t : TypeId} {bs : Array Value} (h : OwnC w lo hi e sz A n c cs) (hb : Blk w g t bs) (ht : t ≠ e) (j : Nat) (u : Value) : OwnC (w.setCell ⟨g, j, none⟩ u) lo hi e sz A n c cs :=
  h.keepT fun k cur _ _ hk => Below.heap_setCell w ⟨g, j, none⟩ u k (by
    rintro rfl
    unfold Blk at hb
    rw [hb] at hk
    injection hk with hk
    injection hk with _ hk
    exact ht hk)
theorem Blk.grownT {w w' : World} {lo hi : Nat} {e : TypeId} {sz : Nat} {A : Option Addr} {n c : Nat} {cs : List Value} {g : Nat} {t : TypeId} {bs : Array Value} (hb : Blk w g t bs) (h : OwnC w lo hi e sz A n c cs) (ht : t ≠ e) (hg : w.grownBy w' (Value.slice A n c).ownBlock) : Blk w' g t bs :=
  (hg.block g hb.lt fun e' => by
    rcases h.form with ⟨rfl, _⟩ | ⟨q, cur, rfl, _, _, hh, _⟩
    · simp [Value.ownBlock] at e'
    · simp [Value.ownBlock] at e'
      subst e'
      unfold Blk at hb
      rw [hb] at hh
      injection hh with hh
      injection hh with _ hh
      exact ht hh).trans hb


end Go.Proofs.Ythjamohaeahipaa

/- RowOfLetters: the two functions. -/
namespace Go.Proofs.Ythjamohaeahipaa
open Go.RowKit

structure RowX where
  d : Int
  r : Int
  xs : List Int
def apartAt (xs : List Int) (i : Nat) : Bool := !touchAny (xs.take i) (xs[i]?.getD 0)
def apartB (xs : List Int) : Bool := (List.range xs.length).all (apartAt xs)
def rolCode (n : Int) (xs : List Int) (d r : Int) : Int := if inR n 1 8 && dirB d && carrierB r then (if lettersB n xs then (if apartB xs then 0 else 6) else 1) else 2
def rolRow (n : Int) (xs : List Int) (d r : Int) : RowX := if rolCode n xs d r = 0 then ⟨d, r, rowFrom n.toNat xs 0⟩ else ⟨0, 0, []⟩
theorem rolRow_length (n : Int) (xs : List Int) (d r : Int) : (rolRow n xs d r).xs.length ≤ 8 := by
  unfold rolRow
  split
  · rename_i h
    have hn : inR n 1 8 = true := by
      unfold rolCode at h
      cases e : inR n 1 8
      · rw [e] at h; simp at h
      · rfl
    have := inR_iff.1 hn
    have := rowFrom_length n.toNat xs 8 0 (by omega)
    exact this
  · simp
theorem rol_err {n : Int} {xs : List Int} {d r k : Int} (e : rolCode n xs d r = k) (hk : k ≠ 0) : rolRow n xs d r = ⟨0, 0, []⟩ ∧ rolCode n xs d r = k := ⟨by rw [rolRow, if_neg (by rw [e]; exact hk)], e⟩
theorem letters_small {n : Int} {xs : List Int} (hn : inR n 1 8 = true) (h : lettersB n xs = true) : smallB xs := by
  intro y hy
  have h1 := inR_iff.1 hn
  unfold lettersB letterB at h
  simp only [List.all_eq_true, Bool.and_eq_true] at h
  have h2 := inR_iff.1 (h y hy).2
  omega
theorem smallB_take {xs : List Int} (h : smallB xs) (k : Nat) : smallB (xs.take k) := fun y hy => h y (List.mem_of_mem_take hy)
theorem apart_false {xs : List Int} {k : Nat} {x : Int} (hx : xs[k]? = some x) (h : touchAny (xs.take k) x = true) : apartB xs = false := by
  unfold apartB
  rw [List.all_eq_false]
  refine ⟨k, List.mem_range.2 (List.getElem?_eq_some_iff.1 hx).1, ?_⟩
  simp [apartAt, hx, h]
theorem apart_true {xs : List Int} (h : ∀ j, j < xs.length → apartAt xs j = true) : apartB xs = true := by
  unfold apartB
  rw [List.all_eq_true]
  exact fun j hj => h j (List.mem_range.1 hj)


end Go.Proofs.Ythjamohaeahipaa

/- MirrorColours: the plain function, and slices of slices that grow. -/
namespace Go.Proofs.Ythjamohaeahipaa
open Go.RowKit

structure ColX where
  n : Int
  xs : List (List Int)
def mirC (n : Int) (xss : List (List Int)) : ColX := if coloursB n xss then ⟨n, xss.map List.reverse⟩ else ⟨0, []⟩
def mirCode (n : Int) (xss : List (List Int)) : Int := if coloursB n xss then 0 else 1
theorem cntII_le {xss : List (List Int)} {m : Nat} (h : ∀ r ∈ xss, r.length ≤ m) : cntII xss ≤ xss.length * m := by
  induction xss with
  | nil => simp [cntII]
  | cons x r ih =>
    have h1 := h x (by simp)
    have h2 := ih fun y hy => h y (by simp [hy])
    simp only [cntII, List.length_cons, Nat.succ_mul]
    omega
theorem mirC_size (n : Int) (xss : List (List Int)) : (mirC n xss).xs.length ≤ 8 ∧ cntII (mirC n xss).xs ≤ 64 := by
  unfold mirC
  split
  · rename_i hv
    have hv' : coloursB n xss = true := hv
    unfold coloursB at hv'
    simp only [Bool.and_eq_true, List.all_eq_true] at hv'
    have h1 := inR_iff.1 hv'.1.1
    have h2 := inR_iff.1 hv'.1.2
    have h3 : ∀ r ∈ xss.map List.reverse, r.length ≤ 8 := by
      intro r hr
      obtain ⟨x, hx, rfl⟩ := List.mem_map.1 hr
      have := hv'.2 x hx
      unfold rowOfB at this
      simp only [Bool.and_eq_true, decide_eq_true_eq] at this
      rw [List.length_reverse]
      omega
    have h4 := cntII_le h3
    simp only [List.length_map] at h4
    refine ⟨by simp; omega, ?_⟩
    have : xss.length ≤ 8 := by omega
    have := Nat.mul_le_mul_right 8 this
    show cntII (xss.map List.reverse) ≤ 64
    omega
  · simp [cntII]
/-- Another slice, of another type, grows. -/
theorem OwnC.grownT {w w' : World} {lo hi : Nat} {e : TypeId} {sz : Nat} {A : Option Addr} {n c : Nat} {cs : List Value} {lo2 hi2 : Nat} {e2 : TypeId} {sz2 : Nat} {B : Option Addr} {n2 c2 : Nat} {cs2 : List Value}
    (h : OwnC w lo hi e sz A n c cs) (h2 : OwnC w lo2 hi2 e2 sz2 B n2 c2 cs2) (ht : e ≠ e2) (hg : w.grownBy w' (Value.slice B n2 c2).ownBlock) : OwnC w' lo hi e sz A n c cs :=
  h.keepT fun k cur _ _ hk => hg.block k (Array.getElem?_eq_some_iff.1 hk).1 fun e' => by
    rcases h2.form with ⟨rfl, _⟩ | ⟨q, cur, rfl, _, _, hh, _⟩
    · simp [Value.ownBlock] at e'
    · simp [Value.ownBlock] at e'
      subst e'
      rw [hk] at hh
      injection hh with hh
      injection hh with _ hh
      exact ht hh
theorem CellsII.grownT {w w' : World} {lo hi : Nat} {cs : List Value} {xss : List (List Int)} {lo2 hi2 : Nat} {e2 : TypeId} {sz2 : Nat} {B : Option Addr} {n2 c2 : Nat} {cs2 : List Value}
    (h : CellsII w lo hi cs xss) (h2 : OwnC w lo2 hi2 e2 sz2 B n2 c2 cs2) (ht : (2 : TypeId) ≠ e2) (hg : w.grownBy w' (Value.slice B n2 c2).ownBlock) : CellsII w' lo hi cs xss :=
  ⟨h.1, fun k xs hx => by obtain ⟨A', c', h1, h3⟩ := h.2.1 k xs hx; exact ⟨A', c', h1, h3.grownT h2 ht hg⟩, h.2.2⟩
theorem CellsII.farT {w : World} {lo hi : Nat} {cs : List Value} {xss : List (List Int)} {g : Nat} {t : TypeId} {bs : Array Value} (h : CellsII w lo hi cs xss) (hb : Blk w g t bs) (ht : t ≠ 2) (j : Nat) (u : Value) : CellsII (w.setCell ⟨g, j, none⟩ u) lo hi cs xss :=
  ⟨h.1, fun k xs hx => by obtain ⟨A', c', h1, h3⟩ := h.2.1 k xs hx; exact ⟨A', c', h1, h3.farT hb ht j u⟩, h.2.2⟩
theorem Blk.set20 {w : World} {g : Nat} {t : TypeId} {a b : Value} (h : Blk w g t #[a, b]) (u : Value) : Blk (w.setCell ⟨g, 0, none⟩ u) g t #[u, b] := by
  unfold Blk at h ⊢
  simp [World.setCell, Array.getElem?_modify, h]
theorem Blk.set21 {w : World} {g : Nat} {t : TypeId} {a b : Value} (h : Blk w g t #[a, b]) (u : Value) : Blk (w.setCell ⟨g, 1, none⟩ u) g t #[a, u] := by
  unfold Blk at h ⊢
  simp [World.setCell, Array.getElem?_modify, h]


end Go.Proofs.Ythjamohaeahipaa

/- packed. -/
namespace Go.Proofs.Ythjamohaeahipaa
open Go.RowKit

theorem Below.drew' {B : Nat} {w w' : World} (h : Below B w w') : Below B w (World.drew w') := h.trans ⟨rfl, rfl, rfl, Nat.le_refl _, fun _ _ => rfl⟩


end Go.Proofs.Ythjamohaeahipaa

/- PackLetters. -/
namespace Go.Proofs.Ythjamohaeahipaa
open Go.RowKit


end Go.Proofs.Ythjamohaeahipaa

/- ChartOfBraid: the plain function; slices of rows that grow. -/
namespace Go.Proofs.Ythjamohaeahipaa
open Go.RowKit

structure ChX where
  n : Int
  xs : List RowD
def rowsFrom (n : Nat) (car : Int) : List (List Int) → Int → List RowD
  | [], _ => []
  | g :: gs, d => ⟨d, car, rowFrom n g 0⟩ :: rowsFrom n car gs (-d)
def groupsOf (xs : List Int) : List (List Int) := if pack xs = [] then [[]] else pack xs
def cobCode (n : Int) (xs : List Int) (car : Int) : Int := if braidB n xs then (if inR n 1 8 && carrierB car then (if (pack xs).length ≤ 8 then 0 else 5) else 2) else 1
def cobX (n : Int) (xs : List Int) (car : Int) : ChX := if cobCode n xs car = 0 then ⟨n, rowsFrom n.toNat car (groupsOf xs) (-1)⟩ else ⟨0, []⟩
theorem rowsFrom_length (n : Nat) (car : Int) (gs : List (List Int)) (d : Int) : (rowsFrom n car gs d).length = gs.length := by
  induction gs generalizing d with
  | nil => rfl
  | cons g gs ih => simp [rowsFrom, ih]
theorem rowsFrom_len (n : Nat) (car : Int) (gs : List (List Int)) (d : Int) : lenRows (rowsFrom n car gs d) ≤ gs.length * n := by
  induction gs generalizing d with
  | nil => simp [rowsFrom, lenRows]
  | cons g gs ih =>
    have h1 := ih (-d)
    have h2 := rowFrom_length n g n 0 (by omega)
    simp only [rowsFrom, lenRows, List.length_cons, Nat.succ_mul]
    omega
theorem cobX_size (n : Int) (xs : List Int) (car : Int) : (cobX n xs car).xs.length ≤ 9 ∧ cntRows (cobX n xs car).xs ≤ 1000 := by
  unfold cobX
  split
  · rename_i h
    have hp : (pack xs).length ≤ 8 ∧ n ≤ 8 := by
      unfold cobCode at h
      split at h
      · split at h
        · rename_i h2
          simp only [Bool.and_eq_true] at h2
          have := inR_iff.1 h2.1
          split at h
          · exact ⟨by assumption, this.2⟩
          · simp at h
        · simp at h
      · simp at h
    have hg : (groupsOf xs).length ≤ 8 := by
      unfold groupsOf
      split
      · simp
      · exact hp.1
    have h1 := rowsFrom_length n.toNat car (groupsOf xs) (-1)
    have h2 := rowsFrom_len n.toNat car (groupsOf xs) (-1)
    have h3 : (groupsOf xs).length * n.toNat ≤ 8 * 8 := Nat.mul_le_mul hg (by omega)
    refine ⟨by simp only []; omega, ?_⟩
    unfold cntRows
    simp only []
    omega
  · simp [cntRows, lenRows]
theorem cob_err {n : Int} {xs : List Int} {car k : Int} (e : cobCode n xs car = k) (hk : k ≠ 0) : cobX n xs car = ⟨0, []⟩ ∧ cobCode n xs car = k := ⟨by rw [cobX, if_neg (by rw [e]; exact hk)], e⟩
theorem rowsFrom_drop {n : Nat} {car : Int} {gs : List (List Int)} {i : Nat} {g : List Int} {d : Int} (h : gs[i]? = some g) : rowsFrom n car (gs.drop i) d = ⟨d, car, rowFrom n g 0⟩ :: rowsFrom n car (gs.drop (i + 1)) (-d) := by rw [drop_cons h, rowsFrom]

theorem CellsRows.keepT {w w' : World} {lo hi : Nat} {cs : List Value} {rs : List RowD} (h : CellsRows w lo hi cs rs) (hk : ∀ k cur, lo ≤ k → k < hi → w.heap[k]? = some (.cells cur 2 (0, 0)) → w'.heap[k]? = w.heap[k]?) : CellsRows w' lo hi cs rs :=
  ⟨h.1, fun k r hx => by obtain ⟨A', c', h0, h1, h2, h3⟩ := h.2.1 k r hx; exact ⟨A', c', h0, h1, h2, h3.keepT hk⟩, h.2.2⟩
theorem CellsRows.grownT {w w' : World} {lo hi : Nat} {cs : List Value} {rs : List RowD} {lo2 hi2 : Nat} {e2 : TypeId} {sz2 : Nat} {B : Option Addr} {n2 c2 : Nat} {cs2 : List Value}
    (h : CellsRows w lo hi cs rs) (h2 : OwnC w lo2 hi2 e2 sz2 B n2 c2 cs2) (ht : (2 : TypeId) ≠ e2) (hg : w.grownBy w' (Value.slice B n2 c2).ownBlock) : CellsRows w' lo hi cs rs :=
  ⟨h.1, fun k r hx => by obtain ⟨A', c', h0, h1, h3, h4⟩ := h.2.1 k r hx; exact ⟨A', c', h0, h1, h3, h4.grownT h2 ht hg⟩, h.2.2⟩
theorem CellsRows.farT {w : World} {lo hi : Nat} {cs : List Value} {rs : List RowD} {g : Nat} {t : TypeId} {bs : Array Value} (h : CellsRows w lo hi cs rs) (hb : Blk w g t bs) (ht : t ≠ 2) (j : Nat) (u : Value) : CellsRows (w.setCell ⟨g, j, none⟩ u) lo hi cs rs :=
  ⟨h.1, fun k r hx => by obtain ⟨A', c', h0, h1, h3, h4⟩ := h.2.1 k r hx; exact ⟨A', c', h0, h1, h3, h4.farT hb ht j u⟩, h.2.2⟩
/-- One more row, its stitches in blocks behind those of the others. -/
theorem CellsRows.snoc {w : World} {lo m hi : Nat} {cs : List Value} {rs : List RowD} {A' : Option Addr} {c' : Nat} {r : RowD}
    (h : CellsRows w lo m cs rs) (ho : OwnI w m hi A' c' r.s) (h1 : lo ≤ m) (h2 : m ≤ hi) : CellsRows w lo hi (cs ++ [.int .i64 r.d, .int .i64 r.r, .slice A' r.s.length c']) (rs ++ [r]) := by
  have hB : ∀ {i : Nat} {v : Value} {g : Nat}, cs[i]? = some v → v.ownBlock = some g → lo ≤ g ∧ g < m := fun hi' hv => by have := h.block hi' hv; exact ⟨this.1, this.2.1⟩
  obtain ⟨ha, hb, hc⟩ := h
  have at2 : ∀ i v, ¬ i < cs.length → (cs ++ [.int .i64 r.d, .int .i64 r.r, .slice A' r.s.length c'])[i]? = some v → (i = cs.length ∧ v = .int .i64 r.d) ∨ (i = cs.length + 1 ∧ v = .int .i64 r.r) ∨ (i = cs.length + 2 ∧ v = .slice A' r.s.length c') := by
    intro i v hn hv
    have hil := (List.getElem?_eq_some_iff.1 hv).1
    simp at hil
    rw [List.getElem?_append_right (by omega)] at hv
    have : i - cs.length = 0 ∨ i - cs.length = 1 ∨ i - cs.length = 2 := by omega
    rcases this with e | e | e
    · rw [e] at hv; simp at hv; exact .inl ⟨by omega, hv.symm⟩
    · rw [e] at hv; simp at hv; exact .inr (.inl ⟨by omega, hv.symm⟩)
    · rw [e] at hv; simp at hv; exact .inr (.inr ⟨by omega, hv.symm⟩)
  refine ⟨by simp [ha]; omega, fun k q hq => ?_, fun i j v v' g hi' hj hv hv' => ?_⟩
  · rcases Nat.lt_or_ge k rs.length with hk | hk
    · rw [List.getElem?_append_left hk] at hq
      obtain ⟨A2, c2, e0, e1, e2, e3⟩ := hb k q hq
      exact ⟨A2, c2, by rw [List.getElem?_append_left (by omega)]; exact e0, by rw [List.getElem?_append_left (by omega)]; exact e1, by rw [List.getElem?_append_left (by omega)]; exact e2, e3.mono (Nat.le_refl _) h2⟩
    · have hkl := (List.getElem?_eq_some_iff.1 hq).1
      simp at hkl
      obtain rfl : k = rs.length := by omega
      simp at hq
      subst hq
      refine ⟨A', c', ?_, ?_, ?_, ho.mono h1 (Nat.le_refl _)⟩
      · rw [List.getElem?_append_right (by omega), ha, Nat.sub_self]; rfl
      · rw [List.getElem?_append_right (by omega), ha, show rs.length * 3 + 1 - rs.length * 3 = 1 by omega]; rfl
      · rw [List.getElem?_append_right (by omega), ha, show rs.length * 3 + 2 - rs.length * 3 = 2 by omega]; rfl
  · have new : (Value.slice A' r.s.length c').ownBlock = some g → m ≤ g := fun e => (ho.own.lt g e).1
    by_cases ei : i < cs.length
    · have bi := hB (by rw [List.getElem?_append_left ei] at hi'; exact hi') hv
      by_cases ej : j < cs.length
      · rw [List.getElem?_append_left ei] at hi'
        rw [List.getElem?_append_left ej] at hj
        exact hc i j v v' g hi' hj hv hv'
      · rcases at2 j v' ej hj with ⟨_, rfl⟩ | ⟨_, rfl⟩ | ⟨_, rfl⟩
        · simp [Value.ownBlock] at hv'
        · simp [Value.ownBlock] at hv'
        · have := new hv'; omega
    · rcases at2 i v ei hi' with ⟨_, rfl⟩ | ⟨_, rfl⟩ | ⟨e1, rfl⟩
      · simp [Value.ownBlock] at hv
      · simp [Value.ownBlock] at hv
      · by_cases ej : j < cs.length
        · have bj := hB (by rw [List.getElem?_append_left ej] at hj; exact hj) hv'
          have := new hv
          omega
        · rcases at2 j v' ej hj with ⟨_, rfl⟩ | ⟨_, rfl⟩ | ⟨e2, rfl⟩
          · simp [Value.ownBlock] at hv'
          · simp [Value.ownBlock] at hv'
          · omega
theorem CellsRows.nil {w : World} {lo hi : Nat} : CellsRows w lo hi [] [] := ⟨rfl, fun k r hx => by simp at hx, fun i j v v' g hi' => by simp at hi'⟩
theorem Ints.drew1 {w : World} {A : Option Addr} {xs : List Int} (h : Ints w A xs) : Ints (World.drew w) A xs := h

end Go.Proofs.Ythjamohaeahipaa

/- Charts: the plain functions of a chart's stacks and of the limit on strands. -/
namespace Go.Proofs.Ythjamohaeahipaa
open Go.RowKit

def sumI : List Int → Int
  | [] => 0
  | x :: xs => x + sumI xs
theorem sumI_append (a b : List Int) : sumI (a ++ b) = sumI a + sumI b := by
  induction a with
  | nil => simp [sumI]
  | cons x r ih => simp [sumI, ih]; omega
theorem sumI_snoc {xs : List Int} {i : Nat} {x : Int} (h : xs[i]? = some x) : sumI (xs.take (i + 1)) = sumI (xs.take i) + x := by
  rw [take_snoc h, sumI_append]; simp [sumI]
def tinyB (xs : List Int) : Prop := ∀ x ∈ xs, 0 ≤ x ∧ x ≤ 5
theorem sumI_le {xs : List Int} (h : tinyB xs) : 0 ≤ sumI xs ∧ sumI xs ≤ 5 * xs.length := by
  induction xs with
  | nil => simp [sumI]
  | cons x r ih =>
    have h1 := h x (by simp)
    have h2 := ih fun y hy => h y (by simp [hy])
    simp only [sumI, List.length_cons]
    omega
theorem tinyB_take {xs : List Int} (h : tinyB xs) (k : Nat) : tinyB (xs.take k) := fun y hy => h y (List.mem_of_mem_take hy)
theorem tinyB_drop {xs : List Int} (h : tinyB xs) (k : Nat) : tinyB (xs.drop k) := fun y hy => h y (List.mem_of_mem_drop hy)
theorem tinyB_of {st : List Int} (h : ∀ x ∈ st, inR x 1 4 = true) : tinyB st := fun y hy => by have := inR_iff.1 (h y hy); omega
theorem tinyB_made (k : Int) {st : List Int} (h : ∀ x ∈ st, inR x 1 4 = true) : tinyB (stepMade k st) := by
  have h0 : 0 ≤ st0 st ∧ st0 st ≤ 4 := by
    unfold st0
    cases e : st[0]? with
    | none => simp
    | some x => have := inR_iff.1 (h x (List.mem_of_getElem? e)); simp; omega
  intro y hy
  unfold stepMade at hy
  split at hy
  · simp at hy
    have hw : wrap64 (st0 st + 1) = st0 st + 1 := IntWalk.wrap64_in _ ⟨by omega, by omega⟩
    omega
  · split at hy
    · simp at hy; omega
    · have := (List.mem_replicate.1 hy).2; omega
theorem stepMade_madeN {k : Int} (hk : isStitchB k = true) (st : List Int) : (stepMade k st).length = madeN k := by
  unfold stepMade
  rcases stitch_cases hk with rfl | rfl | rfl | rfl | rfl | rfl | rfl | rfl | rfl | rfl | rfl <;> simp <;> rfl
def changeI (k : Int) (st : List Int) : Int := sumI (stepMade k st) - sumI (st.take (takenN k))
def changesP : List Int → List Int → List Int
  | [], _ => []
  | k :: ks, st => changeI k st :: changesP ks (st.drop (takenN k))
theorem changesP_length (ks st : List Int) : (changesP ks st).length = ks.length := by
  induction ks generalizing st with
  | nil => rfl
  | cons k ks ih => simp [changesP, ih]
theorem changesP_append (a b st : List Int) : changesP (a ++ b) st = changesP a st ++ changesP b (st.drop (takenS a)) := by
  induction a generalizing st with
  | nil => simp [changesP, takenS]
  | cons k a ih => simp [changesP, takenS, ih, List.drop_drop]
theorem changesP_take {ks st : List Int} {j : Nat} {k : Int} (h : ks[j]? = some k) : changesP (ks.take (j + 1)) st = changesP (ks.take j) st ++ [changeI k (st.drop (takenS (ks.take j)))] := by
  rw [take_snoc h, changesP_append]; rfl
theorem changesP_at {ks st : List Int} {j : Nat} {k : Int} (h : ks[j]? = some k) : (changesP ks st)[j]? = some (changeI k (st.drop (takenS (ks.take j)))) := by
  have hj := (List.getElem?_eq_some_iff.1 h).1
  have e : ks = ks.take j ++ k :: ks.drop (j + 1) := by rw [← drop_cons h, List.take_append_drop]
  have hl : (changesP (ks.take j) st).length = j := by rw [changesP_length, List.length_take]; omega
  conv => lhs; rw [e, changesP_append]
  rw [List.getElem?_append_right (by omega), hl, Nat.sub_self]
  rfl
theorem changeI_le {k : Int} (hk : isStitchB k = true) {st : List Int} (h : ∀ x ∈ st, inR x 1 4 = true) : -20 ≤ changeI k st ∧ changeI k st ≤ 20 := by
  have h1 := sumI_le (tinyB_made k h)
  have h2 := sumI_le (tinyB_take (tinyB_of h) (takenN k))
  have h3 := stepMade_length hk st
  have h4 := (takenN_le k hk).1
  have h5 : (st.take (takenN k)).length ≤ takenN k := by rw [List.length_take]; omega
  unfold changeI
  omega
def limB : Int → List Int → Bool
  | _, [] => true
  | s, c :: cs => decide (s + c ≤ 12) && limB (s + c) cs
theorem limB_drop {s : Int} {cs : List Int} {i : Nat} {c : Int} (h : cs[i]? = some c) : limB s (cs.drop i) = (decide (s + c ≤ 12) && limB (s + c) (cs.drop (i + 1))) := by rw [drop_cons h, limB]
def ordL (d : Int) (cs : List Int) : List Int := if d = -1 then cs.reverse else cs
def keepB (d : Int) (st ks : List Int) : Bool := limB (sumI st) (ordL d (changesP ks st))
theorem ordL_length (d : Int) (cs : List Int) : (ordL d cs).length = cs.length := by unfold ordL; split <;> simp
theorem ordL_rev {cs : List Int} {i : Nat} (h : i < cs.length) : (ordL (-1) cs)[i]? = cs[cs.length - 1 - i]? := by
  unfold ordL
  rw [if_pos rfl, List.getElem?_reverse h]
theorem ordL_fwd (cs : List Int) : ordL 1 cs = cs := by unfold ordL; rw [if_neg (by decide)]
theorem afterP_seg {ks st : List Int} (hs : ∀ k ∈ ks, isStitchB k = true) {j : Nat} {k : Int} (h : ks[j]? = some k) : ∃ rest, (afterP ks st).drop (madeS (ks.take j)) = stepMade k (st.drop (takenS (ks.take j))) ++ rest := by
  induction ks generalizing st j with
  | nil => simp at h
  | cons q ks ih =>
    cases j with
    | zero =>
      simp at h
      subst h
      exact ⟨afterP ks (st.drop (takenN q)), by simp [madeS, takenS, afterP]⟩
    | succ j =>
      obtain ⟨rest, hr⟩ := ih (st := st.drop (takenN q)) (fun x hx => hs x (by simp [hx])) (by simpa using h)
      refine ⟨rest, ?_⟩
      simp only [List.take_succ_cons, madeS, takenS, afterP]
      rw [List.drop_append, List.drop_eq_nil_of_le (by rw [stepMade_madeN (hs q (by simp))]; omega), stepMade_madeN (hs q (by simp)), show madeN q + madeS (ks.take j) - madeN q = madeS (ks.take j) by omega, hr, List.drop_drop]
      simp
def stepCode (st ks : List Int) : Bool := decide ((stacksAfterP st ks).2 = 0)
/-- The stacks behind each row, and whether each row is knittable. -/
def rowOkB (st : List Int) (r : RowD) : Bool := rowB r.d r.r r.s && stepCode st r.s && keepB r.d st r.s
def stacksFrom : List Int → List RowD → List (List Int)
  | _, [] => []
  | st, r :: rs => (stacksAfterP st r.s).1 :: stacksFrom (stacksAfterP st r.s).1 rs
def rowsOkB : List Int → List RowD → Bool
  | _, [] => true
  | st, r :: rs => rowOkB st r && rowsOkB (stacksAfterP st r.s).1 rs
def chartB (n : Int) (rs : List RowD) : Bool := inR n 1 8 && inR rs.length 1 8 && rowsOkB (List.replicate n.toNat 1) rs
def chartStacks (n : Int) (rs : List RowD) : List (List Int) := if chartB n rs then stacksFrom (List.replicate n.toNat 1) rs else []
theorem stepCode_of {st ks : List Int} (h : stepCode st ks = true) : stacksB st = true ∧ stitchesB ks = true ∧ takenS ks = st.length ∧ (stacksAfterP st ks).1 = afterP ks st ∧ stacksB (afterP ks st) = true := by
  have h := of_decide_eq_true h
  by_cases h1 : stacksB st = true
  · by_cases h2 : stitchesB ks = true
    · by_cases h3 : takenS ks = st.length
      · rw [stacksAfterP_spec h1 h2 h3] at h ⊢
        by_cases h4 : (stacksB (afterP ks st) && !thickP ks st) = true
        · rw [if_pos h4]
          simp only [Bool.and_eq_true] at h4
          exact ⟨h1, h2, h3, rfl, h4.1⟩
        · rw [if_neg h4] at h
          simp at h
      · simp [stacksAfterP, h1, h2, h3] at h
    · simp [stacksAfterP, h2] at h
  · simp [stacksAfterP, h1] at h
theorem stacksFrom_length (st : List Int) (rs : List RowD) : (stacksFrom st rs).length = rs.length := by
  induction rs generalizing st with
  | nil => rfl
  | cons r rs ih => simp [stacksFrom, ih]
theorem stacksFrom_cnt (st : List Int) (rs : List RowD) : cntII (stacksFrom st rs) ≤ 8 * rs.length := by
  induction rs generalizing st with
  | nil => simp [stacksFrom, cntII]
  | cons r rs ih =>
    have h1 := ih (stacksAfterP st r.s).1
    have h2 := stacksAfterP_length st r.s
    simp only [stacksFrom, cntII, List.length_cons]
    omega
theorem chartStacks_size (n : Int) (rs : List RowD) : (chartStacks n rs).length ≤ 8 ∧ cntII (chartStacks n rs) ≤ 64 := by
  unfold chartStacks
  split
  · rename_i h
    unfold chartB at h
    simp only [Bool.and_eq_true] at h
    have h1 := inR_iff.1 h.1.2
    have h2 := stacksFrom_length (List.replicate n.toNat 1) rs
    have h3 := stacksFrom_cnt (List.replicate n.toNat 1) rs
    omega
  · simp [cntII]

end Go.Proofs.Ythjamohaeahipaa
