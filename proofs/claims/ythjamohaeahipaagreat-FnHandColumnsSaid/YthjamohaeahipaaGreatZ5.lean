/- Steps of the proof, joined from several texts: B CO VP VQ VR SB RT RU RO ROt MC PKi PKt. -/
import Derived.Test.YthjamohaeahipaaGreatZ1
import Derived.Test.YthjamohaeahipaaGreatZ3
import Derived.Test.YthjamohaeahipaaGreatZ2
import Derived.BigGuard
import Derived.BigCall
import Derived.Test.YthjamohaeahipaaGreatZ4

/- The hand knitter's questions: FirstOf, ColumnAt. -/
namespace Go.Proofs.YthjamohaeahipaaGreat
open Go.RowKit

theorem Ints.take {w : World} {A : Option Addr} {xs : List Int} (h : Ints w A xs) (n : Nat) : Ints w A (xs.take n) := by
  intro k hk
  obtain ⟨b, off, x, hA, hc, hx⟩ := h k (by rw [List.length_take] at hk; omega)
  exact ⟨b, off, x, hA, hc, by rw [List.getElem?_take, if_pos (by rw [List.length_take] at hk; omega)]; exact hx⟩

theorem impl_FirstOf (A : Option Addr) (c : Nat) (xs : List Int) (col : Int) (w : World) (h : Ints w A xs) (hl : xs.length ≤ 1048576) (hc : xs.length ≤ c) : Calls Tryz.prog 8 #[.slice A xs.length c, .int .i64 col] w fun e w' => e = .returned (.tuple #[.int .i64 (firstOfP xs col).1, .bool (firstOfP xs col).2]) ∧ w = w' := by
  by_cases hs : sizesB xs = true
  · by_cases hi : inR col 0 ((xs.length : Int) - 1) = true
    · obtain ⟨h0, h1⟩ := inR_iff.1 hi
      obtain ⟨j, rfl⟩ := Int.eq_ofNat_of_zero_le h0
      have hj : (xs.take j).length = j := by rw [List.length_take]; omega
      have hsum := impl_sumOf A c (xs.take j) w (h.take j) (by omega)
      rw [hj] at hsum
      have HS := Lib.hid hsum; clear hsum
      have HF : Hid (firstOfP xs j = (sum64 (xs.take j), true)) := Lib.hid (by rw [firstOfP, hs, hi]; simp)
      go_enter Tryz.func8, Tryz.ntmps8
      go_wp2_with (fail)
      refine (impl_ValidSizes _ _ _ _ h (by omega)).mono ?_; rintro e _ ⟨rfl, rfl⟩
      go_wp2_with (fail)
      refine (impl_within _ _ _ _).mono ?_; rintro e _ ⟨rfl, rfl⟩
      go_wp2_with (fail)
      refine HS.out.mono ?_; rintro e _ ⟨rfl, rfl⟩
      go_wp2_with (fail)
      go_ret2
      exact ⟨ret_ib HF.out, rfl⟩
    · have hi' : inR col 0 ((xs.length : Int) - 1) = false := by simpa using hi
      have HF : Hid (firstOfP xs col = (0, false)) := Lib.hid (by rw [firstOfP, hi']; simp)
      clear hi
      go_enter Tryz.func8, Tryz.ntmps8
      go_wp2_with (fail)
      refine (impl_ValidSizes _ _ _ _ h (by omega)).mono ?_; rintro e _ ⟨rfl, rfl⟩
      go_wp2_with (fail)
      refine (impl_within _ _ _ _).mono ?_; rintro e _ ⟨rfl, rfl⟩
      go_wp2_with (fail)
      go_ret2
      exact ⟨ret_ib HF.out, rfl⟩
  · have hs' : sizesB xs = false := by simpa using hs
    have HF : Hid (firstOfP xs col = (0, false)) := Lib.hid (by rw [firstOfP, hs']; simp)
    clear hs
    go_enter Tryz.func8, Tryz.ntmps8
    go_wp2_with (fail)
    refine (impl_ValidSizes _ _ _ _ h (by omega)).mono ?_; rintro e _ ⟨rfl, rfl⟩
    go_wp2_with (fail)
    go_ret2
    exact ⟨ret_ib HF.out, rfl⟩

theorem impl_ColumnAt (A : Option Addr) (c : Nat) (xs : List Int) (s0 : Int) (w : World) (h : Ints w A xs) (hl : xs.length ≤ 1048576) : Calls Tryz.prog 9 #[.slice A xs.length c, .int .i64 s0] w fun e w' => e = .returned (.tuple #[.int .i64 (columnAtP xs s0).1, .bool (columnAtP xs s0).2]) ∧ w = w' := by
  by_cases hs : sizesB xs = true
  · by_cases hi : s0 < 0
    · have HF : Hid (columnAtP xs s0 = (0, false)) := Lib.hid (by simp [columnAtP, hi])
      go_enter Tryz.func9, Tryz.ntmps9
      go_wp2_with (refine (impl_ValidSizes _ _ _ _ h (by omega)).mono ?_; rintro e _ ⟨rfl, rfl⟩)
      go_ret2
      exact ⟨ret_ib HF.out, rfl⟩
    · have HF : Hid (columnAtP xs s0 = colAt xs s0 0) := Lib.hid (by simp [columnAtP, hi, hs])
      have hi' : decide (s0 < 0) = false := decide_eq_false hi
      go_enter Tryz.func9, Tryz.ntmps9
      go_wp2_with (refine (impl_ValidSizes _ _ _ _ h (by omega)).mono ?_; rintro e _ ⟨rfl, rfl⟩)
      go_loop [1, 17] (fun s i => ∃ (k : Nat) (t : Int), k ≤ xs.length ∧ i = .int .i64 k ∧ s = .int .i64 t ∧ colAt xs s0 0 = colAt (xs.drop k) t k) (fun _ i => xs.length - (intOf i).toNat)
      case atStart => exact ⟨0, s0, Nat.zero_le _, rfl, rfl, rfl⟩
      case round =>
        obtain ⟨k, t, hk, rfl, rfl, ha⟩ := hrel
        have HA := Lib.hid ha; clear ha
        by_cases hlt : k < xs.length
        · obtain ⟨b, off, x, rfl, hc, hx⟩ := h k hlt
          have HX := Lib.hid hx; clear hx
          by_cases htx : t < x
          · go_wp2
            go_ret2
            exact ⟨ret_ib (by rw [HF.out, HA.out, drop_cons HX.out, colAt, if_pos htx]), rfl⟩
          · go_wp2
            go_round
            case rel => exact ⟨k + 1, _, by omega, by go_num, rfl, by rw [HA.out, drop_cons HX.out, colAt, if_neg htx]; rfl⟩
            case measure => simp [intOf]; omega
        · go_wp2
          go_ret2
          exact ⟨ret_ib (by rw [HF.out, HA.out, drop_all (by omega)]; rfl), rfl⟩
  · have hs' : sizesB xs = false := by simpa using hs
    have HF : Hid (columnAtP xs s0 = (0, false)) := Lib.hid (by simp [columnAtP, hs'])
    clear hs
    go_enter Tryz.func9, Tryz.ntmps9
    go_wp2_with (refine (impl_ValidSizes _ _ _ _ h (by omega)).mono ?_; rintro e _ ⟨rfl, rfl⟩)
    go_ret2
    exact ⟨ret_ib HF.out, rfl⟩

end Go.Proofs.YthjamohaeahipaaGreat

/- CountColours. -/
namespace Go.Proofs.YthjamohaeahipaaGreat
open Go.RowKit

theorem zeros4 : (madeCells (Value.int .i64 0).cells (4 * 1)).toList = ([0, 0, 0, 0] : List Int).map (Value.int .i64) := by simp [madeCells, Value.cells]; rfl
def bump (cs : List Int) (x : Int) : List Int := cs.set (x - 1).toNat (wrap64 (cs[(x - 1).toNat]?.getD 0 + 1))
def bumpRow (cs row : List Int) : List Int := row.foldl bump cs
def countRows (xss : List (List Int)) : List Int := xss.foldl bumpRow [0, 0, 0, 0]
def countColours (n : Int) (xss : List (List Int)) : List Int := if coloursB n xss then countRows xss else []
theorem bumpRow_length (cs row : List Int) : (bumpRow cs row).length = cs.length := by
  unfold bumpRow
  induction row generalizing cs with
  | nil => rfl
  | cons x r ih => rw [List.foldl_cons, ih]; simp [bump]
theorem countRows_length (xss : List (List Int)) : (countRows xss).length = 4 := by
  unfold countRows
  suffices h : ∀ cs : List Int, (xss.foldl bumpRow cs).length = cs.length by rw [h]; rfl
  induction xss with
  | nil => intro cs; rfl
  | cons x r ih => intro cs; rw [List.foldl_cons, ih, bumpRow_length]
theorem countColours_length (n : Int) (xss : List (List Int)) : (countColours n xss).length ≤ 4 := by
  unfold countColours
  split
  · rw [countRows_length]; omega
  · simp
theorem bump_at {cs : List Int} {i : Nat} {v : Int} (h : cs[i]? = some v) : bump cs ((i : Int) + 1) = cs.set i (wrap64 (v + 1)) := by
  have : ((i : Int) + 1 - 1).toNat = i := by omega
  unfold bump
  rw [this, h]
  rfl
theorem colour_at {n : Int} {xss : List (List Int)} (h : coloursB n xss = true) {k j : Nat} {row : List Int} {x : Int} (hr : xss[k]? = some row) (hx : row[j]? = some x) : ∃ i : Nat, i < 4 ∧ x = (i : Int) + 1 := by
  unfold coloursB at h
  simp only [Bool.and_eq_true, List.all_eq_true] at h
  have h1 := h.2 row (List.mem_of_getElem? hr)
  unfold rowOfB at h1
  simp only [Bool.and_eq_true, List.all_eq_true] at h1
  have h2 := h1.2 x (List.mem_of_getElem? hx)
  unfold carrierB inR at h2
  simp at h2
  exact ⟨(x - 1).toNat, by omega, by omega⟩
theorem bumpRow_snoc {cs row : List Int} {j : Nat} {x : Int} (hx : row[j]? = some x) : bumpRow cs (row.take (j + 1)) = bump (bumpRow cs (row.take j)) x := by
  unfold bumpRow
  rw [take_snoc hx, List.foldl_append]
  rfl
theorem countRows_snoc {xss : List (List Int)} {j : Nat} {x : List Int} (hx : xss[j]? = some x) : countRows (xss.take (j + 1)) = bumpRow (countRows (xss.take j)) x := by
  unfold countRows
  rw [take_snoc hx, List.foldl_append]
  rfl


end Go.Proofs.YthjamohaeahipaaGreat

/- ValidPieces. -/
namespace Go.Proofs.YthjamohaeahipaaGreat
open Go.RowKit

def plainP (p : PieceD) : Bool := isStitchB p.kind && inR p.times 1 16 && decide (p.len = 0)
def groupP (d : Nat) (p : PieceD) (m : Nat) : Bool := inR p.times 0 16 && !(decide (p.times = 0) && decide (0 < d)) && inR p.len 1 m
def rangeP (d : Nat) : List PieceD → Option Nat
  | [] => some 0
  | p :: r =>
    if p.kind = 12 then
      if d < 3 ∧ groupP d p r.length = true then
        match rangeP (d + 1) (r.take p.len.toNat) with
        | none => none
        | some _ => (rangeP d (r.drop p.len.toNat)).map (fun o => (if p.times = 0 then 1 else 0) + o)
      else none
    else if plainP p then rangeP d r else none
termination_by l => l.length
decreasing_by all_goals (simp; try omega)
def okP : Option Nat → Bool
  | none => false
  | some o => decide (o ≤ 1)
def piecesB (ps : List PieceD) : Bool := decide (ps.length ≤ 24) && okP (rangeP 0 ps)
def segP (ps : List PieceD) (a b : Nat) : List PieceD := (ps.drop a).take (b - a)
theorem segP_nil (ps : List PieceD) (a : Nat) : segP ps a a = [] := by simp [segP]
theorem segP_all (ps : List PieceD) : segP ps 0 ps.length = ps := by simp [segP]
theorem segP_length {ps : List PieceD} {a b : Nat} (h : b ≤ ps.length) : (segP ps a b).length = b - a := by simp [segP]; omega
theorem segP_cons {ps : List PieceD} {a b : Nat} {p : PieceD} (hp : ps[a]? = some p) (h : a < b) : segP ps a b = p :: segP ps (a + 1) b := by
  unfold segP
  have ha : a < ps.length := by
    by_cases hlt : a < ps.length
    · exact hlt
    · rw [List.getElem?_eq_none (by omega)] at hp; cases hp
  rw [List.drop_eq_getElem_cons ha, show b - a = (b - (a + 1)) + 1 by omega, List.take_succ_cons]
  congr 1
  rw [List.getElem?_eq_getElem ha] at hp
  injection hp
theorem segP_take {ps : List PieceD} {a b n : Nat} (h : a + n ≤ b) : (segP ps a b).take n = segP ps a (a + n) := by
  unfold segP
  rw [List.take_take]
  congr 1
  omega
theorem segP_drop {ps : List PieceD} {a b n : Nat} : (segP ps a b).drop n = segP ps (a + n) b := by
  unfold segP
  rw [List.drop_take, List.drop_drop]
  congr 1
  omega
theorem rangeP_nil (d : Nat) : rangeP d [] = some 0 := by rw [rangeP]
theorem rangeP_plain {d : Nat} {p : PieceD} {r : List PieceD} (h : p.kind ≠ 12) (hp : plainP p = true) : rangeP d (p :: r) = rangeP d r := by rw [rangeP, if_neg h, if_pos hp]
theorem rangeP_bad {d : Nat} {p : PieceD} {r : List PieceD} (h : p.kind ≠ 12) (hp : plainP p = false) : rangeP d (p :: r) = none := by rw [rangeP, if_neg h, if_neg (by simp [hp])]
theorem rangeP_group {d : Nat} {p : PieceD} {r : List PieceD} (h : p.kind = 12) (hd : ¬ (d < 3 ∧ groupP d p r.length = true)) : rangeP d (p :: r) = none := by rw [rangeP, if_pos h, if_neg hd]
theorem rangeP_inner {d : Nat} {p : PieceD} {r : List PieceD} (h : p.kind = 12) (hi : rangeP (d + 1) (r.take p.len.toNat) = none) : rangeP d (p :: r) = none := by
  rw [rangeP, if_pos h]
  split
  · rw [hi]
  · rfl
theorem rangeP_open {d : Nat} {p : PieceD} {r : List PieceD} (h : p.kind = 12) (hd : d < 3) (hg : groupP d p r.length = true) (hi : (rangeP (d + 1) (r.take p.len.toNat)).isSome = true) : rangeP d (p :: r) = (rangeP d (r.drop p.len.toNat)).map (fun o => (if p.times = 0 then 1 else 0) + o) := by
  rw [rangeP, if_pos h, if_pos ⟨hd, hg⟩]
  split
  · rename_i e; rw [e] at hi; cases hi
  · rfl
theorem rangeP_zero (n d : Nat) (hd : 0 < d) : ∀ l : List PieceD, l.length ≤ n → ∀ o, rangeP d l = some o → o = 0 := by
  induction n with
  | zero =>
    intro l hl o h
    have : l = [] := by cases l <;> simp_all
    subst this
    rw [rangeP_nil] at h
    injection h with h
    exact h.symm
  | succ n ih =>
    intro l hl o h
    cases l with
    | nil => rw [rangeP_nil] at h; injection h with h; exact h.symm
    | cons p r =>
      simp at hl
      rw [rangeP] at h
      split at h
      · split at h
        · rename_i hg
          split at h
          · cases h
          · rw [Option.map_eq_some_iff] at h
            obtain ⟨o', ho', e⟩ := h
            have := ih _ (by simp; omega) o' ho'
            have ht : p.times ≠ 0 := by
              intro ht
              have := hg.2
              simp [groupP, ht, hd] at this
            rw [if_neg ht] at e
            omega
        · cases h
      · split at h
        · exact ih r hl o h
        · cases h
def openOf : Option Nat → Int
  | none => 0
  | some o => o


end Go.Proofs.YthjamohaeahipaaGreat

/- ValidPieces, the program's side. -/
namespace Go.Proofs.YthjamohaeahipaaGreat
open Go.RowKit

theorem Pieces.seg {w : World} {ps : List PieceD} {b off : Nat} (h : Pieces w (some ⟨b, off, none⟩) ps) {i j : Nat} (hj : j ≤ ps.length) : Pieces w (some ⟨b, off + i * 3, none⟩) (segP ps i j) := by
  intro k hk
  rw [segP_length hj] at hk
  obtain ⟨b', off', p, hA, hp, c0, c1, c2⟩ := h (i + k) (by omega)
  injection hA with hA
  injection hA with hb ho
  subst hb ho
  refine ⟨b, off + i * 3, p, rfl, ?_, ?_, ?_, ?_⟩
  · unfold segP
    rw [List.getElem?_take_of_lt hk, List.getElem?_drop]
    exact hp
  · rw [show off + i * 3 + k * 3 = off + (i + k) * 3 by omega]; exact c0
  · rw [show off + i * 3 + k * 3 + 1 = off + (i + k) * 3 + 1 by omega]; exact c1
  · rw [show off + i * 3 + k * 3 + 2 = off + (i + k) * 3 + 2 by omega]; exact c2
theorem Blk.set1 {w : World} {g : Nat} {t : TypeId} {a : Value} (h : Blk w g t #[a]) (u : Value) : Blk (w.setCell ⟨g, 0, none⟩ u) g t #[u] := by
  unfold Blk at h ⊢
  simp [World.setCell, Array.getElem?_modify, h]


end Go.Proofs.YthjamohaeahipaaGreat

/- ValidPieces, the program's function. -/
namespace Go.Proofs.YthjamohaeahipaaGreat
open Go.RowKit

theorem OwnC.capmax {w : World} {lo hi : Nat} {e : TypeId} {sz : Nat} {A : Option Addr} {n c : Nat} {cs : List Value} (h : OwnC w lo hi e sz A n c cs) : c ≤ 9223372036854775807 := by
  rcases h.form with ⟨_, _, h1, _⟩ | ⟨_, _, _, _, _, _, _, h1, _⟩
  · omega
  · unfold maxLen at h1; omega


end Go.Proofs.YthjamohaeahipaaGreat

/- StacksAfter. -/
namespace Go.Proofs.YthjamohaeahipaaGreat
open Go.RowKit

theorem ints_one (xs : List Int) : ∀ u ∈ xs.map (Value.int .i64), u.oneCell' = true := by
  intro u hu
  simp only [List.mem_map] at hu
  obtain ⟨x, _, rfl⟩ := hu
  rfl
theorem OwnC.nilc {w : World} {lo hi : Nat} {e : TypeId} {sz : Nat} {A : Option Addr} {n c : Nat} {cs : List Value} (h : OwnC w lo hi e sz A n c cs) : (A = none ∧ c = 0) ∨ ∃ b off, A = some ⟨b, off, none⟩ := by
  rcases h.form with ⟨h1, _, h2, _⟩ | ⟨g, _, h1, _⟩
  · exact .inl ⟨h1, h2⟩
  · exact .inr ⟨g, 0, h1⟩
theorem step_take {k : Int} (hk : isStitchB k = true) (st : List Int) : stepMade k (st.take (takenN k)) = stepMade k st ∧ stepOk k (st.take (takenN k)) = stepOk k st := by
  rcases stitch_cases hk with rfl | rfl | rfl | rfl | rfl | rfl | rfl | rfl | rfl | rfl | rfl
  all_goals (simp [stepMade, stepOk, takenN, st0, st1]; try (first | rfl | (apply Bool.eq_iff_iff.2; simp)))
theorem stepMade_length {k : Int} (hk : isStitchB k = true) (st : List Int) : (stepMade k st).length ≤ 4 := by
  have := takenN_le k hk
  unfold stepMade
  split
  · simp
  · split
    · simp
    · simp; omega
theorem Ints.drop {w : World} {b off : Nat} {xs : List Int} (h : Ints w (some ⟨b, off, none⟩) xs) (t : Nat) : Ints w (some ⟨b, off + t, none⟩) (xs.drop t) := by
  intro k hk
  rw [List.length_drop] at hk
  obtain ⟨b', off', x, hA, hc, hx⟩ := h (t + k) (by omega)
  injection hA with hA
  injection hA with h1 h2
  subst h1 h2
  exact ⟨b, off + t, x, rfl, by rw [Nat.add_assoc]; exact hc, by rw [List.getElem?_drop]; exact hx⟩

set_option maxHeartbeats 1000000 in
theorem spec_StacksAfter (st ks : List Int) (A : Option Addr) (c : Nat) (B : Option Addr) (d : Nat) (w : World) (h : Ints w A st) (hl : st.length ≤ 9223372036854775807) (h' : Ints w B ks) (hl' : ks.length ≤ 9223372036854775807) :
    Calls Tryz.prog 37 #[.slice A st.length c, .slice B ks.length d] w fun e w' => ∃ A' c', e = .returned (.tuple #[.slice A' (stacksAfterP st ks).1.length c', .int .i64 (stacksAfterP st ks).2]) ∧ OwnI w' w.heap.size w'.heap.size A' c' (stacksAfterP st ks).1 ∧ Below w.heap.size w w' := by
  by_cases h1 : stacksB st = true
  · by_cases h2 : stitchesB ks = true
    · have HP : Hid (takenP ks = takenS ks) := Lib.hid (by rw [takenP, if_pos h2])
      by_cases h3 : takenS ks = st.length
      · have HF := Lib.hid (stacksAfterP_spec h1 h2 h3)
        have H1 := Lib.hid h1
        have H2 := Lib.hid h2
        have H3 := Lib.hid h3
        have h3' : ((takenS ks : Int) != (st.length : Int)) = false := by simp [h3]
        have hal := afterP_length_le (stitchesB_of h2).2 st
        have hkl := (stitchesB_of h2).1
        clear h3
        go_enter Tryz.func37, Tryz.ntmps37
        go_wp2_with (fail)
        refine (spec_l14Stacks _ _ _ _ h hl).mono ?_; rintro e _ ⟨rfl, rfl⟩
        go_wp2_with (fail)
        refine (spec_l14Ok _ _ _ _ h' hl').mono ?_; rintro e _ ⟨rfl, rfl⟩
        go_wp2_with (fail)
        refine (spec_TakenBy _ _ _ _ h' hl').mono ?_; rintro e w2 ⟨rfl, b2⟩
        rw [HP.out]
        go_wp2_with (fail)
        refine (spec_l14After A B _ _ st ks _ (h.below b2) (h'.below b2) H1.out H2.out H3.out).mono ?_; rintro e w3 ⟨A3, c3, rfl, o3, b3⟩
        have hb3 : Below w.heap.size w w3 := b2.trans (b3.mono b2.size)
        have hz3 := b3.size
        go_wp2_with (fail)
        refine (spec_l14Stacks _ _ _ _ o3.ints (by omega)).mono ?_; rintro e _ ⟨rfl, rfl⟩
        cases ha : stacksB (afterP ks st)
        · go_wp2_with (fail)
          go_ret2
          rw [HF.out, ha]
          exact ⟨_, _, rfl, OwnC.nil _ _ _ _ _, hb3⟩
        · go_wp2_with (fail)
          refine (spec_l14Thick A B _ _ st ks _ (h.below hb3) (h'.below hb3) H1.out H2.out H3.out).mono ?_; rintro e w4 ⟨rfl, b4⟩
          have hb4 : Below w.heap.size w w4 := hb3.trans (b4.mono hb3.size)
          have o4 := o3.below b4 (Nat.le_refl _)
          have hz4 := b4.size
          have hz2 := b2.size
          cases hb : thickP ks st
          · go_wp2_with (fail)
            go_ret2
            rw [HF.out, ha, hb]
            exact ⟨_, _, rfl, o4.mono hz2 hz4, hb4⟩
          · go_wp2_with (fail)
            go_ret2
            rw [HF.out, ha, hb]
            exact ⟨_, _, rfl, OwnC.nil _ _ _ _ _, hb4⟩
      · have HF : Hid (stacksAfterP st ks = ([], 10)) := Lib.hid (by simp [stacksAfterP, h1, h2, h3])
        have h3' : ((takenS ks : Int) != (st.length : Int)) = true := by simp; omega
        clear h3
        go_enter Tryz.func37, Tryz.ntmps37
        go_wp2_with (fail)
        refine (spec_l14Stacks _ _ _ _ h hl).mono ?_; rintro e _ ⟨rfl, rfl⟩
        go_wp2_with (fail)
        refine (spec_l14Ok _ _ _ _ h' hl').mono ?_; rintro e _ ⟨rfl, rfl⟩
        go_wp2_with (fail)
        refine (spec_TakenBy _ _ _ _ h' hl').mono ?_; rintro e w2 ⟨rfl, b2⟩
        rw [HP.out]
        go_wp2_with (fail)
        go_ret2
        rw [HF.out]
        exact ⟨_, _, rfl, OwnC.nil _ _ _ _ _, b2⟩
    · have h2' : stitchesB ks = false := by simpa using h2
      have HF : Hid (stacksAfterP st ks = ([], 1)) := Lib.hid (by rw [stacksAfterP, h2', Bool.and_false]; rfl)
      clear h2
      go_enter Tryz.func37, Tryz.ntmps37
      go_wp2_with (fail)
      refine (spec_l14Stacks _ _ _ _ h hl).mono ?_; rintro e _ ⟨rfl, rfl⟩
      go_wp2_with (fail)
      refine (spec_l14Ok _ _ _ _ h' hl').mono ?_; rintro e _ ⟨rfl, rfl⟩
      go_wp2_with (fail)
      go_ret2
      rw [HF.out]
      exact ⟨_, _, rfl, OwnC.nil _ _ _ _ _, Below.refl _ _⟩
  · have h1' : stacksB st = false := by simpa using h1
    have HF : Hid (stacksAfterP st ks = ([], 1)) := Lib.hid (by rw [stacksAfterP, h1', Bool.false_and]; rfl)
    clear h1
    go_enter Tryz.func37, Tryz.ntmps37
    go_wp2_with (fail)
    refine (spec_l14Stacks _ _ _ _ h hl).mono ?_; rintro e _ ⟨rfl, rfl⟩
    go_wp2_with (fail)
    go_ret2
    rw [HF.out]
    exact ⟨_, _, rfl, OwnC.nil _ _ _ _ _, Below.refl _ _⟩

set_option maxHeartbeats 4000000 in
set_option maxRecDepth 10000 in
theorem impl_StacksAfter_some (st ks : List Int) (b0 off0 c : Nat) (B : Option Addr) (d : Nat) (w : World) (h : Ints w (some ⟨b0, off0, none⟩) st) (hc0 : st.length ≤ c) (hcm : c ≤ 9223372036854775807) (h' : Ints w B ks) (hl' : ks.length ≤ 9223372036854775807) (h1 : stacksB st = true) (h2 : stitchesB ks = true) (h3 : takenS ks = st.length) :
    Calls Tryz.prog 47 #[.slice (some ⟨b0, off0, none⟩) st.length c, .slice B ks.length d] w fun e w' => ∃ A' c', e = .returned (.tuple #[.slice A' (stacksAfterP st ks).1.length c', .int .i64 (stacksAfterP st ks).2]) ∧ OwnI w' w.heap.size w'.heap.size A' c' (stacksAfterP st ks).1 ∧ Below w.heap.size w w' := by
  obtain ⟨i0, hi0, hz0, hz1, hz2⟩ := info_parts info_int64
  have HF : Hid (stacksAfterP st ks = if okAfter ks st && decide ((afterP ks st).length ≤ 8) then (afterP ks st, 0) else ([], 5)) := Lib.hid (by rw [stacksAfterP, h1, h2]; simp [h3])
  obtain ⟨hl16, hst⟩ := stitchesB_of h2
  obtain ⟨hl8, hr⟩ := stacksB_of h1
  have HST := Lib.hid hst; clear hst
  have HR := Lib.hid hr; clear hr
  have HEQ := Lib.hid h3
  have h3' : ((takenS ks : Int) != (st.length : Int)) = false := by simp [h3]
  have H2 := Lib.hid h2
  clear h3
  go_enter Tryz.func47, Tryz.ntmps47
  go_wp2_with (fail)
  refine (impl_areStacks _ _ _ _ h (by omega)).mono ?_; rintro e _ ⟨rfl, rfl⟩
  go_wp2_with (fail)
  refine (impl_areStitches _ _ _ _ h' hl').mono ?_; rintro e _ ⟨rfl, rfl⟩
  go_wp2_with (fail)
  refine (impl_takenBy _ _ _ _ h' H2.out).mono ?_; rintro e _ ⟨rfl, rfl⟩
  go_wp2_with (fail)
  go_loopw [6, 7, 30] (fun ov rv iv wr => ∃ (i t o lr cr : Nat) (A' : Option Addr) (c' : Nat) (out : List Int), i ≤ ks.length ∧ iv = .int .i64 i ∧ rv = .slice (some ⟨b0, o, none⟩) lr cr ∧ st.length = t + lr ∧ c = t + cr ∧ (0 < lr → o = off0 + t) ∧ ov = .slice A' out.length c' ∧ OwnI wr w.heap.size wr.heap.size A' c' out ∧ Below w.heap.size w wr ∧ Hid (takenS (ks.take i) = t) ∧ Hid (afterP ks st = out ++ afterP (ks.drop i) (st.drop t)) ∧ Hid (okAfter ks st = okAfter (ks.drop i) (st.drop t)) ∧ out.length ≤ 4 * i) (fun _ _ iv _ => ks.length - (intOf iv).toNat)
  case atStart =>
    exact ⟨0, 0, off0, st.length, c, some ⟨w.heap.size, 0, none⟩, 0, [], Nat.zero_le _, rfl, rfl, by omega, by omega, fun _ => rfl, rfl, (OwnC.lit _ 1 #[] (Nat.le_refl _) (Nat.zero_le _) rfl).mono (Nat.le_refl _) (by simp), by (repeat (first | exact Below.refl _ _ | assumption | apply Below.drew | apply below_drewN | (refine Below.alloc ?_ (by first | omega | (simp; done) | (simp; omega)) _) | (refine Below.setCell ?_ (by first | omega | (simp; done) | (simp; omega)) _))), Lib.hid rfl, Lib.hid (by simp), Lib.hid (by simp), by simp⟩
  case round =>
    obtain ⟨i, t, o, lr, cr, A', c', out, hi, rfl, rfl, hlr, hcr, hor, rfl, ho, hb, HT, HA, HO, hol⟩ := hrel
    have hzs := hb.size
    by_cases hlt : i < ks.length
    · obtain ⟨b, off, k, rfl, hc, hk⟩ := h' i hlt
      replace hc := cells_below hb _ _ hc
      have hq := HST.out k (List.mem_of_getElem? hk)
      have hle : t + takenN k ≤ st.length := by have := takenS_at hk; rw [HT.out, HEQ.out] at this; exact this
      have HT2 : Hid (takenS (ks.take (i + 1)) = t + takenN k) := Lib.hid (by rw [takenS_snoc hk, HT.out])
      have HA2 : Hid (afterP ks st = (out ++ stepMade k (st.drop t)) ++ afterP (ks.drop (i + 1)) (st.drop (t + takenN k))) := Lib.hid (by rw [HA.out, afterP_drop hk, List.append_assoc])
      have HO2 : Hid (okAfter ks st = (stepOk k (st.drop t) && okAfter (ks.drop (i + 1)) (st.drop (t + takenN k)))) := Lib.hid (by rw [HO.out, okAfter_drop hk])
      have HB : Hid (takenB k = takenN k) := Lib.hid (takenB_of hq)
      have hml := stepMade_length hq (st.drop t)
      have hpart : Ints w (some ⟨b0, o, none⟩) ((st.drop t).take (takenN k)) := by
        by_cases h0 : 0 < lr
        · rw [hor h0]; exact Ints.take (h.drop t) _
        · have : (st.drop t).take (takenN k) = [] := by rw [drop_all (by omega)]; simp
          rw [this]; exact Ints.nil
      have hpl : ((st.drop t).take (takenN k)).length = takenN k := by rw [List.length_take, List.length_drop]; omega
      have hcon : ∀ W, Below w.heap.size w W → Calls Tryz.prog 72 #[.int .i64 k, .slice (some ⟨b0, o, none⟩) (takenN k) cr] W fun e w' => ∃ A' c', e = .returned (.tuple #[.slice A' (stepMade k (st.drop t)).length c', .bool (stepOk k (st.drop t))]) ∧ OwnI w' W.heap.size w'.heap.size A' c' (stepMade k (st.drop t)) ∧ Below W.heap.size W w' := fun W hW => by
        have := impl_madeStacks k (some ⟨b0, o, none⟩) ((st.drop t).take (takenN k)) cr W (hpart.below hW) hq hpl fun x hx => HR.out x (List.mem_of_mem_drop (List.mem_of_mem_take hx))
        rw [(step_take hq (st.drop t)).1, (step_take hq (st.drop t)).2, hpl] at this
        exact this
      have HC := Lib.hid hcon
      clear hk HT HA HO hcon hpart hpl
      have hn1 : takenN k ≤ lr := by omega
      have hn2 : takenN k ≤ cr := by omega
      have hn3 : lr ≤ cr := by omega
      have hn4 : cr ≤ 9223372036854775807 := by omega
      have HLR := Lib.hid hlr; clear hlr
      have HCR := Lib.hid hcr; clear hcr
      go_wp2_with (fail)
      refine (impl_ColumnsTaken _ _).mono ?_; rintro e _ ⟨rfl, rfl⟩
      rw [HB.out]
      go_wp2_with (fail)
      refine (HC.out _ hb).mono ?_; rintro e w2 ⟨A2, c2, rfl, o2, b2⟩
      have hb2 : Below w.heap.size w w2 := hb.trans (b2.mono hzs)
      have hz2' := b2.size
      have ho2 := ho.below b2 (Nat.le_refl _)
      cases hok : stepOk k (st.drop t)
      · go_wp2_with (fail)
        go_ret2
        rw [HF.out, HO2.out, hok]
        exact ⟨_, _, rfl, OwnC.nil _ _ _ _ _, hb2⟩
      · have HM : Hid (out ++ stepMade k (st.drop t) = out ++ stepMade k (st.drop t)) := Lib.hid rfl
        generalize stepMade k (st.drop t) = ms at o2 hml HA2 HM
        by_cases hcn : cr = takenN k
        · have hcn' : cr ≤ takenN k := by omega
          clear hcn
          go_wp2_with (at_builtin; refine wpList_appendC w2 rfl (.tmp 46) (.tmp 47) _ rfl 2 i0 _ 1 8 Tryz.underlying24 hi0 hz0 hz1 hz2 rfl (by decide) rfl ho2 (by omega) A2 ms.length c2 (ms.map (Value.int .i64)) rfl (by simp) o2.news (ints_one _) (by unfold maxLen; omega) (by omega) ?_; intro A5 c5 w5 ho5 hg5 hb5)
          go_roundw
          case rel => exact ⟨i + 1, t + takenN k, o, lr - takenN k, cr - takenN k, A5, c5, out ++ ms, by omega, by go_num, by first | rfl | (simp; done) | (simp; omega), by have := HLR.out; omega, by have := HCR.out; omega, fun h0 => by omega, by rw [List.length_append], by show OwnC _ _ _ _ _ _ _ _ _; rw [List.map_append, List.length_append]; exact ho5, hb2.trans hb5, HT2, HA2, Lib.hid (by rw [HO2.out, hok, Bool.true_and]), by simp; omega⟩
          case measure => simp [intOf]; omega
        · go_wp2_with (at_builtin; refine wpList_appendC w2 rfl (.tmp 46) (.tmp 47) _ rfl 2 i0 _ 1 8 Tryz.underlying24 hi0 hz0 hz1 hz2 rfl (by decide) rfl ho2 (by omega) A2 ms.length c2 (ms.map (Value.int .i64)) rfl (by simp) o2.news (ints_one _) (by unfold maxLen; omega) (by omega) ?_; intro A5 c5 w5 ho5 hg5 hb5)
          go_roundw
          case rel => exact ⟨i + 1, t + takenN k, o + takenN k, lr - takenN k, cr - takenN k, A5, c5, out ++ ms, by omega, by go_num, by first | rfl | (simp; done) | (simp; omega), by have := HLR.out; omega, by have := HCR.out; omega, fun h0 => by have := hor (by omega); omega, by rw [List.length_append], by show OwnC _ _ _ _ _ _ _ _ _; rw [List.map_append, List.length_append]; exact ho5, hb2.trans hb5, HT2, HA2, Lib.hid (by rw [HO2.out, hok, Bool.true_and]), by simp; omega⟩
          case measure => simp [intOf]; omega
    · have he := HA.out
      rw [drop_all (by omega), afterP, List.append_nil] at he
      have hok := HO.out
      rw [drop_all (by omega), okAfter] at hok
      by_cases h8 : out.length ≤ 8
      · go_wp2_with (fail)
        go_ret2
        rw [HF.out, hok, he, decide_eq_true h8]
        exact ⟨_, _, rfl, ho, hb⟩
      · go_wp2_with (fail)
        go_ret2
        rw [HF.out, hok, he, decide_eq_false h8]
        exact ⟨_, _, rfl, OwnC.nil _ _ _ _ _, hb⟩

set_option maxHeartbeats 2000000 in
set_option maxRecDepth 10000 in
theorem impl_StacksAfter_nil (ks : List Int) (B : Option Addr) (d : Nat) (w : World) (h' : Ints w B ks) (hl' : ks.length ≤ 9223372036854775807) (h2 : stitchesB ks = true) (h3 : takenS ks = 0) :
    Calls Tryz.prog 47 #[.slice none 0 0, .slice B ks.length d] w fun e w' => ∃ A' c', e = .returned (.tuple #[.slice A' (stacksAfterP [] ks).1.length c', .int .i64 (stacksAfterP [] ks).2]) ∧ OwnI w' w.heap.size w'.heap.size A' c' (stacksAfterP [] ks).1 ∧ Below w.heap.size w w' := by
  obtain ⟨i0, hi0, hz0, hz1, hz2⟩ := info_parts info_int64
  have h1 : stacksB [] = true := rfl
  have HF : Hid (stacksAfterP [] ks = if okAfter ks [] && decide ((afterP ks []).length ≤ 8) then (afterP ks [], 0) else ([], 5)) := Lib.hid (by simp [stacksAfterP, h1, h2, h3])
  obtain ⟨hl16, hst⟩ := stitchesB_of h2
  have HST := Lib.hid hst; clear hst
  have HEQ := Lib.hid h3
  have h3' : ((takenS ks : Int) != 0) = false := by simp [h3]
  have H2 := Lib.hid h2
  have h0 := impl_areStacks none 0 [] w Ints.nil (Nat.zero_le _)
  have H0 := Lib.hid h0; clear h0
  clear h3
  go_enter Tryz.func47, Tryz.ntmps47
  go_wp2_with (fail)
  refine H0.out.mono ?_; rintro e _ ⟨rfl, rfl⟩
  go_wp2_with (fail)
  refine (impl_areStitches _ _ _ _ h' hl').mono ?_; rintro e _ ⟨rfl, rfl⟩
  go_wp2_with (fail)
  refine (impl_takenBy _ _ _ _ h' H2.out).mono ?_; rintro e _ ⟨rfl, rfl⟩
  go_wp2_with (fail)
  go_loopw [6, 7, 30] (fun ov rv iv wr => ∃ (i : Nat) (A' : Option Addr) (c' : Nat) (out : List Int), i ≤ ks.length ∧ iv = .int .i64 i ∧ rv = .slice none 0 0 ∧ ov = .slice A' out.length c' ∧ OwnI wr w.heap.size wr.heap.size A' c' out ∧ Below w.heap.size w wr ∧ Hid (takenS (ks.take i) = 0) ∧ Hid (afterP ks [] = out ++ afterP (ks.drop i) []) ∧ Hid (okAfter ks [] = okAfter (ks.drop i) []) ∧ out.length ≤ 4 * i) (fun _ _ iv _ => ks.length - (intOf iv).toNat)
  case atStart =>
    exact ⟨0, some ⟨w.heap.size, 0, none⟩, 0, [], Nat.zero_le _, rfl, rfl, rfl, (OwnC.lit _ 1 #[] (Nat.le_refl _) (Nat.zero_le _) rfl).mono (Nat.le_refl _) (by simp), by (repeat (first | exact Below.refl _ _ | assumption | apply Below.drew | apply below_drewN | (refine Below.alloc ?_ (by first | omega | (simp; done) | (simp; omega)) _) | (refine Below.setCell ?_ (by first | omega | (simp; done) | (simp; omega)) _))), Lib.hid rfl, Lib.hid (by simp), Lib.hid (by simp), by simp⟩
  case round =>
    obtain ⟨i, A', c', out, hi, rfl, rfl, rfl, ho, hb, HT, HA, HO, hol⟩ := hrel
    have hzs := hb.size
    by_cases hlt : i < ks.length
    · obtain ⟨b, off, k, rfl, hc, hk⟩ := h' i hlt
      replace hc := cells_below hb _ _ hc
      have hq := HST.out k (List.mem_of_getElem? hk)
      have hle : takenN k = 0 := by have := takenS_at hk; rw [HT.out, HEQ.out] at this; omega
      have hk3 : k = 3 := by
        rcases stitch_cases hq with rfl | rfl | rfl | rfl | rfl | rfl | rfl | rfl | rfl | rfl | rfl <;> first | rfl | (exact absurd hle (by decide))
      subst hk3
      have HT2 : Hid (takenS (ks.take (i + 1)) = 0) := Lib.hid (by rw [takenS_snoc hk, HT.out]; rfl)
      have HA2 : Hid (afterP ks [] = (out ++ [1]) ++ afterP (ks.drop (i + 1)) []) := Lib.hid (by rw [HA.out, drop_cons hk, afterP, List.append_assoc]; rfl)
      have HO2 : Hid (okAfter ks [] = okAfter (ks.drop (i + 1)) []) := Lib.hid (by rw [HO.out, drop_cons hk, okAfter]; rfl)
      have HB : Hid (takenB 3 = 0) := Lib.hid rfl
      clear hk HT HA HO hle
      go_wp2_with (fail)
      refine (impl_ColumnsTaken _ _).mono ?_; rintro e _ ⟨rfl, rfl⟩
      rw [HB.out]
      go_wp2_with (fail)
      refine (madeStacks_3 _ _ _ _).mono ?_; rintro e w2 ⟨A2, c2, rfl, o2, b2⟩
      have hb2 : Below w.heap.size w w2 := hb.trans (b2.mono hzs)
      have hz2' := b2.size
      have ho2 := ho.below b2 (Nat.le_refl _)
      go_wp2_with (at_builtin; refine wpList_appendC w2 rfl (.tmp 46) (.tmp 47) _ rfl 2 i0 _ 1 8 Tryz.underlying24 hi0 hz0 hz1 hz2 rfl (by decide) rfl ho2 (by omega) A2 1 c2 (([1] : List Int).map (Value.int .i64)) rfl (by simp) o2.news (ints_one _) (by unfold maxLen; omega) (by omega) ?_; intro A5 c5 w5 ho5 hg5 hb5)
      go_roundw
      case rel => exact ⟨i + 1, A5, c5, out ++ [1], by omega, by go_num, by first | rfl | simp, by rw [List.length_append]; rfl, by show OwnC _ _ _ _ _ _ _ _ _; rw [List.map_append, List.length_append]; exact ho5, hb2.trans hb5, HT2, HA2, HO2, by simp; omega⟩
      case measure => simp [intOf]; omega
    · have he := HA.out
      rw [drop_all (by omega), afterP, List.append_nil] at he
      have hok := HO.out
      rw [drop_all (by omega), okAfter] at hok
      by_cases h8 : out.length ≤ 8
      · go_wp2_with (fail)
        go_ret2
        rw [HF.out, hok, he, decide_eq_true h8]
        exact ⟨_, _, rfl, ho, hb⟩
      · go_wp2_with (fail)
        go_ret2
        rw [HF.out, hok, he, decide_eq_false h8]
        exact ⟨_, _, rfl, OwnC.nil _ _ _ _ _, hb⟩

set_option maxHeartbeats 1000000 in
theorem impl_StacksAfter (st ks : List Int) (A : Option Addr) (c : Nat) (B : Option Addr) (d : Nat) (w : World) (h : Ints w A st) (hl : st.length ≤ 9223372036854775807) (hc0 : st.length ≤ c) (hcm : c ≤ 9223372036854775807) (hn : (A = none ∧ c = 0) ∨ ∃ b off, A = some ⟨b, off, none⟩) (h' : Ints w B ks) (hl' : ks.length ≤ 9223372036854775807) :
    Calls Tryz.prog 47 #[.slice A st.length c, .slice B ks.length d] w fun e w' => ∃ A' c', e = .returned (.tuple #[.slice A' (stacksAfterP st ks).1.length c', .int .i64 (stacksAfterP st ks).2]) ∧ OwnI w' w.heap.size w'.heap.size A' c' (stacksAfterP st ks).1 ∧ Below w.heap.size w w' := by
  by_cases h1 : stacksB st = true
  · by_cases h2 : stitchesB ks = true
    · by_cases h3 : takenS ks = st.length
      · rcases hn with ⟨rfl, rfl⟩ | ⟨b, off, rfl⟩
        · obtain rfl : st = [] := List.eq_nil_of_length_eq_zero (by omega)
          exact impl_StacksAfter_nil ks B d w h' hl' h2 h3
        · exact impl_StacksAfter_some st ks b off c B d w h hc0 hcm h' hl' h1 h2 h3
      · have HF : Hid (stacksAfterP st ks = ([], 10)) := Lib.hid (by simp [stacksAfterP, h1, h2, h3])
        have h3' : ((takenS ks : Int) != (st.length : Int)) = true := by simp; omega
        have H2 := Lib.hid h2
        clear h3
        go_enter Tryz.func47, Tryz.ntmps47
        go_wp2_with (fail)
        refine (impl_areStacks _ _ _ _ h hl).mono ?_; rintro e _ ⟨rfl, rfl⟩
        go_wp2_with (fail)
        refine (impl_areStitches _ _ _ _ h' hl').mono ?_; rintro e _ ⟨rfl, rfl⟩
        go_wp2_with (fail)
        refine (impl_takenBy _ _ _ _ h' H2.out).mono ?_; rintro e _ ⟨rfl, rfl⟩
        go_wp2_with (fail)
        go_ret2
        rw [HF.out]
        exact ⟨_, _, rfl, OwnC.nil _ _ _ _ _, Below.refl _ _⟩
    · have h2' : stitchesB ks = false := by simpa using h2
      have HF : Hid (stacksAfterP st ks = ([], 1)) := Lib.hid (by rw [stacksAfterP, h2', Bool.and_false]; rfl)
      clear h2
      go_enter Tryz.func47, Tryz.ntmps47
      go_wp2_with (fail)
      refine (impl_areStacks _ _ _ _ h hl).mono ?_; rintro e _ ⟨rfl, rfl⟩
      go_wp2_with (fail)
      refine (impl_areStitches _ _ _ _ h' hl').mono ?_; rintro e _ ⟨rfl, rfl⟩
      go_wp2_with (fail)
      go_ret2
      rw [HF.out]
      exact ⟨_, _, rfl, OwnC.nil _ _ _ _ _, Below.refl _ _⟩
  · have h1' : stacksB st = false := by simpa using h1
    have HF : Hid (stacksAfterP st ks = ([], 1)) := Lib.hid (by rw [stacksAfterP, h1', Bool.false_and]; rfl)
    clear h1
    go_enter Tryz.func47, Tryz.ntmps47
    go_wp2_with (fail)
    refine (impl_areStacks _ _ _ _ h hl).mono ?_; rintro e _ ⟨rfl, rfl⟩
    go_wp2_with (fail)
    go_ret2
    rw [HF.out]
    exact ⟨_, _, rfl, OwnC.nil _ _ _ _ _, Below.refl _ _⟩

end Go.Proofs.YthjamohaeahipaaGreat

/- RowLetters. -/
namespace Go.Proofs.YthjamohaeahipaaGreat
open Go.RowKit

theorem lettersFrom_drop {ks : List Int} {i : Nat} {k c : Int} (h : ks[i]? = some k) : lettersFrom (ks.drop i) c = stLetters k c ++ lettersFrom (ks.drop (i + 1)) (c + takenN k) := by rw [drop_cons h, lettersFrom]
theorem takenP_of {ks : List Int} (h : stitchesB ks = true) : takenP ks = takenS ks := by rw [takenP, if_pos h]
theorem row_stitches {d r : Int} {ks : List Int} (h : rowB d r ks = true) : stitchesB ks = true := by
  unfold rowB at h
  simp only [Bool.and_eq_true] at h
  exact h.2

set_option maxHeartbeats 2000000 in
theorem spec_l18Stitch (k : Int) (c : Nat) (w : World) (hk : isStitchB k = true) (hc : c ≤ 1000) :
    Calls Tryz.prog 56 #[.int .i64 k, .int .i64 c] w fun e w' => ∃ A' c', e = .returned (.slice A' (stLetters k c).length c') ∧ OwnI w' w.heap.size w'.heap.size A' c' (stLetters k c) ∧ Below w.heap.size w w' := by
  rcases stitch_cases hk with rfl | rfl | rfl | rfl | rfl | rfl | rfl | rfl | rfl | rfl | rfl
  case inr.inr.inr.inr.inl =>
    go_enter Tryz.func56, Tryz.ntmps56
    go_wp2_with (fail)
    go_ret
    exact ⟨_, _, rfl, (OwnC.lit (lo := w.heap.size) (n := 1) 2 1 #[.int .i64 (-(c : Int) - 1)] (Nat.le_refl _) (by unfold maxLen; omega) rfl).mono (Nat.le_refl _) (by simp), by (repeat (first | exact Below.refl _ _ | assumption | apply Below.drew | apply below_drewN | (refine Below.alloc ?_ (by first | omega | (simp; done) | (simp; omega)) _) | (refine Below.setCell ?_ (by first | omega | (simp; done) | (simp; omega)) _)))⟩
  case inr.inr.inr.inr.inr.inr.inr.inl =>
    go_enter Tryz.func56, Tryz.ntmps56
    go_wp2_with (fail)
    go_ret
    exact ⟨_, _, rfl, (OwnC.lit (lo := w.heap.size) (n := 1) 2 1 #[.int .i64 ((c : Int) + 1)] (Nat.le_refl _) (by unfold maxLen; omega) rfl).mono (Nat.le_refl _) (by simp), by (repeat (first | exact Below.refl _ _ | assumption | apply Below.drew | apply below_drewN | (refine Below.alloc ?_ (by first | omega | (simp; done) | (simp; omega)) _) | (refine Below.setCell ?_ (by first | omega | (simp; done) | (simp; omega)) _)))⟩
  case inr.inr.inr.inr.inr.inr.inr.inr.inl =>
    go_enter Tryz.func56, Tryz.ntmps56
    go_wp2_with (fail)
    go_ret
    exact ⟨_, _, rfl, (OwnC.lit (lo := w.heap.size) (n := 1) 2 1 #[.int .i64 (-(c : Int) - 1)] (Nat.le_refl _) (by unfold maxLen; omega) rfl).mono (Nat.le_refl _) (by simp), by (repeat (first | exact Below.refl _ _ | assumption | apply Below.drew | apply below_drewN | (refine Below.alloc ?_ (by first | omega | (simp; done) | (simp; omega)) _) | (refine Below.setCell ?_ (by first | omega | (simp; done) | (simp; omega)) _)))⟩
  case inr.inr.inr.inr.inr.inr.inr.inr.inr.inl =>
    go_enter Tryz.func56, Tryz.ntmps56
    go_wp2_with (fail)
    go_ret
    exact ⟨_, _, rfl, (OwnC.lit (lo := w.heap.size) (n := 4) 2 1 #[.int .i64 ((c : Int) + 2), .int .i64 ((c : Int) + 1), .int .i64 ((c : Int) + 3), .int .i64 ((c : Int) + 2)] (Nat.le_refl _) (by unfold maxLen; omega) rfl).mono (Nat.le_refl _) (by simp), by (repeat (first | exact Below.refl _ _ | assumption | apply Below.drew | apply below_drewN | (refine Below.alloc ?_ (by first | omega | (simp; done) | (simp; omega)) _) | (refine Below.setCell ?_ (by first | omega | (simp; done) | (simp; omega)) _)))⟩
  case inr.inr.inr.inr.inr.inr.inr.inr.inr.inr =>
    go_enter Tryz.func56, Tryz.ntmps56
    go_wp2_with (fail)
    go_ret
    exact ⟨_, _, rfl, (OwnC.lit (lo := w.heap.size) (n := 4) 2 1 #[.int .i64 (-(c : Int) - 2), .int .i64 (-(c : Int) - 1), .int .i64 (-(c : Int) - 3), .int .i64 (-(c : Int) - 2)] (Nat.le_refl _) (by unfold maxLen; omega) rfl).mono (Nat.le_refl _) (by simp), by (repeat (first | exact Below.refl _ _ | assumption | apply Below.drew | apply below_drewN | (refine Below.alloc ?_ (by first | omega | (simp; done) | (simp; omega)) _) | (refine Below.setCell ?_ (by first | omega | (simp; done) | (simp; omega)) _)))⟩
  all_goals
    go_enter Tryz.func56, Tryz.ntmps56
    go_wp2_with (fail)
    go_ret
    exact ⟨_, _, rfl, OwnC.nil _ _ _ _ _, Below.refl _ _⟩

set_option maxHeartbeats 1000000 in
theorem spec_l20Ask (g o : Nat) (d r : Int) (A : Option Addr) (c : Nat) (ks : List Int) (w : World) (h : Ints w A ks) (hl : ks.length ≤ 9223372036854775807)
    (c0 : w.cell? ⟨g, o, none⟩ = some (.int .i64 d)) (c1 : w.cell? ⟨g, o + 1, none⟩ = some (.int .i64 r)) (c2 : w.cell? ⟨g, o + 2, none⟩ = some (.slice A ks.length c)) :
    Calls Tryz.prog 26 #[.pointer (some ⟨g, o, none⟩)] w fun e w' => e = .returned (.int .i64 (rowCodeP d r ks)) ∧ Below w.heap.size w w' := by
  cases hv : rowB d r ks
  · have HF : Hid (rowCodeP d r ks = 1) := Lib.hid (by simp [rowCodeP, hv])
    go_enter Tryz.func26, Tryz.ntmps26
    go_wp2_with (fail)
    refine (spec_l15Row g o d r A c ks _ h hl c0 c1 c2).mono ?_; rintro e _ ⟨rfl, rfl⟩
    go_wp2_with (fail)
    go_ret
    exact ⟨ret_int HF.out.symm, Below.refl _ _⟩
  · cases ht : inR (takenP ks) 1 8
    · have HF : Hid (rowCodeP d r ks = 10) := Lib.hid (by simp [rowCodeP, hv, laidB, ht])
      go_enter Tryz.func26, Tryz.ntmps26
      go_wp2_with (fail)
      refine (spec_l15Row g o d r A c ks _ h hl c0 c1 c2).mono ?_; rintro e _ ⟨rfl, rfl⟩
      go_wp2_with (fail)
      refine (spec_TakenBy _ _ _ _ h hl).mono ?_; rintro e w2 ⟨rfl, b2⟩
      go_wp2_with (go_at_call 30; refine (spec_l00In _ _ _ _).mono ?_; rintro e _ ⟨rfl, rfl⟩)
      go_ret
      exact ⟨ret_int HF.out.symm, b2⟩
    · cases hm : inR (madeP ks) 1 8
      · have HF : Hid (rowCodeP d r ks = 10) := Lib.hid (by simp [rowCodeP, hv, laidB, hm])
        go_enter Tryz.func26, Tryz.ntmps26
        go_wp2_with (fail)
        refine (spec_l15Row g o d r A c ks _ h hl c0 c1 c2).mono ?_; rintro e _ ⟨rfl, rfl⟩
        go_wp2_with (fail)
        refine (spec_TakenBy _ _ _ _ h hl).mono ?_; rintro e w2 ⟨rfl, b2⟩
        have q2 := cells_below b2 _ _ c2
        go_wp2_with (go_at_call 30; refine (spec_l00In _ _ _ _).mono ?_; rintro e _ ⟨rfl, rfl⟩)
        refine (spec_MadeBy _ _ _ _ (h.below b2) hl).mono ?_; rintro e w3 ⟨rfl, b3⟩
        have hb3 : Below w.heap.size w w3 := b2.trans (b3.mono b2.size)
        go_wp2_with (go_at_call 30; refine (spec_l00In _ _ _ _).mono ?_; rintro e _ ⟨rfl, rfl⟩)
        go_ret
        exact ⟨ret_int HF.out.symm, hb3⟩
      · have HF : Hid (rowCodeP d r ks = 0) := Lib.hid (by simp [rowCodeP, hv, laidB, ht, hm])
        go_enter Tryz.func26, Tryz.ntmps26
        go_wp2_with (fail)
        refine (spec_l15Row g o d r A c ks _ h hl c0 c1 c2).mono ?_; rintro e _ ⟨rfl, rfl⟩
        go_wp2_with (fail)
        refine (spec_TakenBy _ _ _ _ h hl).mono ?_; rintro e w2 ⟨rfl, b2⟩
        have q2 := cells_below b2 _ _ c2
        go_wp2_with (go_at_call 30; refine (spec_l00In _ _ _ _).mono ?_; rintro e _ ⟨rfl, rfl⟩)
        refine (spec_MadeBy _ _ _ _ (h.below b2) hl).mono ?_; rintro e w3 ⟨rfl, b3⟩
        have hb3 : Below w.heap.size w w3 := b2.trans (b3.mono b2.size)
        go_wp2_with (go_at_call 30; refine (spec_l00In _ _ _ _).mono ?_; rintro e _ ⟨rfl, rfl⟩)
        go_ret
        exact ⟨ret_int HF.out.symm, hb3⟩

set_option maxHeartbeats 2000000 in
set_option maxRecDepth 10000 in
theorem spec_l18Letters (g o : Nat) (A : Option Addr) (c : Nat) (ks : List Int) (w : World) (h : Ints w A ks) (hs : stitchesB ks = true)
    (c2 : w.cell? ⟨g, o + 2, none⟩ = some (.slice A ks.length c)) :
    Calls Tryz.prog 29 #[.pointer (some ⟨g, o, none⟩)] w fun e w' => ∃ A' c', e = .returned (.slice A' (lettersFrom ks 0).length c') ∧ OwnI w' w.heap.size w'.heap.size A' c' (lettersFrom ks 0) ∧ Below w.heap.size w w' := by
  obtain ⟨i0, hi0, hz0, hz1, hz2⟩ := info_parts info_int64
  obtain ⟨hl, hst⟩ := stitchesB_of hs
  have hts := (sums_le hst).1
  have HST := Lib.hid hst; clear hst
  have C2 := Lib.hid c2; clear c2
  go_enter Tryz.func29, Tryz.ntmps29
  go_wp2_with (fail)
  go_loopw [3, 4, 5] (fun ov tv iv wr => ∃ (i t : Nat) (A' : Option Addr) (c' : Nat) (out : List Int), i ≤ ks.length ∧ iv = .int .i64 i ∧ tv = .int .i64 t ∧ ov = .slice A' out.length c' ∧ OwnI wr w.heap.size wr.heap.size A' c' out ∧ Below w.heap.size w wr ∧ Hid (takenS (ks.take i) = t) ∧ Hid (lettersFrom ks 0 = out ++ lettersFrom (ks.drop i) t) ∧ out.length ≤ 4 * i) (fun _ _ iv _ => ks.length - (intOf iv).toNat)
  case atStart =>
    exact ⟨0, 0, some ⟨w.heap.size, 0, none⟩, 0, [], Nat.zero_le _, rfl, rfl, rfl, (OwnC.lit _ 1 #[] (Nat.le_refl _) (Nat.zero_le _) rfl).mono (Nat.le_refl _) (by simp), by (repeat (first | exact Below.refl _ _ | assumption | apply Below.drew | apply below_drewN | (refine Below.alloc ?_ (by first | omega | (simp; done) | (simp; omega)) _) | (refine Below.setCell ?_ (by first | omega | (simp; done) | (simp; omega)) _))), Lib.hid rfl, Lib.hid (by simp), by simp⟩
  case round =>
    obtain ⟨i, t, A', c', out, hi, rfl, rfl, rfl, ho, hb, HT, HA, hol⟩ := hrel
    have hzs := hb.size
    have q2 := cells_below hb _ _ C2.out
    by_cases hlt : i < ks.length
    · obtain ⟨b, off, k, rfl, hc, hk⟩ := h i hlt
      have hcw := Lib.hid hc
      replace hc := cells_below hb _ _ hc
      have hq := HST.out k (List.mem_of_getElem? hk)
      have hle : t + takenN k ≤ 64 := by have := takenS_at hk; rw [HT.out] at this; omega
      have HT2 : Hid (takenS (ks.take (i + 1)) = t + takenN k) := Lib.hid (by rw [takenS_snoc hk, HT.out])
      have HA2 : Hid (lettersFrom ks 0 = (out ++ stLetters k t) ++ lettersFrom (ks.drop (i + 1)) ((t + takenN k : Nat) : Int)) := Lib.hid (by rw [HA.out, lettersFrom_drop hk, List.append_assoc]; push_cast; rfl)
      have HB : Hid (takenB k = takenN k) := Lib.hid (takenB_of hq)
      have hsl := stLetters_length k t
      clear hk HT HA
      have j1 : (0 : Int) ≤ (i : Int) := by omega
      have j2 : (i : Int) < (ks.length : Int) := by omega
      go_wp2_with (fail)
      refine (spec_l18Stitch k t _ hq (by omega)).mono ?_; rintro e w2 ⟨A2, c3, rfl, o2, b2⟩
      have ho2 := ho.below b2 (Nat.le_refl _)
      have hb2 : Below w.heap.size w w2 := hb.trans (b2.mono hzs)
      have hz2' := b2.size
      generalize stLetters k t = ms at o2 hsl HA2
      go_wp2_with (at_builtin; refine wpList_appendC w2 rfl (.tmp 16) (.tmp 25) _ rfl 2 i0 _ 1 8 Tryz.underlying24 hi0 hz0 hz1 hz2 rfl (by decide) rfl ho2 (by omega) A2 ms.length c3 (ms.map (Value.int .i64)) rfl (by simp) o2.news (ints_one _) (by unfold maxLen; omega) (by omega) ?_; intro A5 c5 w5 ho5 hg5 hb5; have hbb : Below w.heap.size w w5 := hb2.trans hb5; have q5 := cells_below hbb _ _ C2.out; have hc5 := cells_below hbb _ _ hcw.out)
      refine (spec_ColumnsTaken _ _).mono ?_; rintro e w9 ⟨rfl, b9⟩
      have hbb : Below w.heap.size w w5 := hb2.trans hb5
      have o9 := ho5.below b9 (Nat.le_refl _)
      have hb9 : Below w.heap.size w w9 := hbb.trans (b9.mono hbb.size)
      have z9 := b9.size
      rw [HB.out]
      go_wp2_with (fail)
      go_roundw
      case rel => exact ⟨i + 1, t + takenN k, A5, c5, out ++ ms, by omega, by go_num, by push_cast; go_num, by simp, by show OwnC _ _ _ _ _ _ _ _ _; rw [List.map_append, List.length_append]; exact o9.mono (Nat.le_refl _) z9, hb9, HT2, HA2, by simp; omega⟩
      case measure => simp [intOf]; omega
    · go_wp2_with (fail)
      go_ret
      have he := HA.out
      rw [drop_all (by omega), lettersFrom, List.append_nil] at he
      rw [he]
      exact ⟨_, _, rfl, ho, hb⟩


end Go.Proofs.YthjamohaeahipaaGreat

/- RowLetters, the program's side. -/
namespace Go.Proofs.YthjamohaeahipaaGreat
open Go.RowKit


end Go.Proofs.YthjamohaeahipaaGreat

/- RowOfLetters. -/
namespace Go.Proofs.YthjamohaeahipaaGreat
open Go.RowKit

def rowFrom (n : Nat) (xs : List Int) (c : Nat) : List Int :=
  if c < n then (if (c : Int) + 1 ∈ xs then 8 :: rowFrom n xs (c + 2) else if -(c : Int) - 1 ∈ xs then 9 :: rowFrom n xs (c + 2) else 1 :: rowFrom n xs (c + 1)) else []
termination_by n - c
decreasing_by all_goals omega
theorem rowFrom_end {n c : Nat} (xs : List Int) (h : n ≤ c) : rowFrom n xs c = [] := by rw [rowFrom, if_neg (by omega)]
theorem rowFrom_8 {n c : Nat} {xs : List Int} (h : c < n) (h1 : (c : Int) + 1 ∈ xs) : rowFrom n xs c = 8 :: rowFrom n xs (c + 2) := by rw [rowFrom, if_pos h, if_pos h1]
theorem rowFrom_9 {n c : Nat} {xs : List Int} (h : c < n) (h1 : ¬ (c : Int) + 1 ∈ xs) (h2 : -(c : Int) - 1 ∈ xs) : rowFrom n xs c = 9 :: rowFrom n xs (c + 2) := by rw [rowFrom, if_pos h, if_neg h1, if_pos h2]
theorem rowFrom_1 {n c : Nat} {xs : List Int} (h : c < n) (h1 : ¬ (c : Int) + 1 ∈ xs) (h2 : ¬ -(c : Int) - 1 ∈ xs) : rowFrom n xs c = 1 :: rowFrom n xs (c + 1) := by rw [rowFrom, if_pos h, if_neg h1, if_neg h2]
theorem rowFrom_length (n : Nat) (xs : List Int) (m : Nat) : ∀ c, n - c ≤ m → (rowFrom n xs c).length ≤ m := by
  induction m with
  | zero => intro c hc; rw [rowFrom_end xs (by omega)]; simp
  | succ m ih =>
    intro c hc
    rw [rowFrom]
    split
    · split
      · have := ih (c + 2) (by omega); simp; omega
      · split
        · have := ih (c + 2) (by omega); simp; omega
        · have := ih (c + 1) (by omega); simp; omega
    · simp
theorem Blk.set32 {w : World} {g : Nat} {t : TypeId} {a b c : Value} (h : Blk w g t #[a, b, c]) (u : Value) : Blk (w.setCell ⟨g, 2, none⟩ u) g t #[a, b, u] := by
  unfold Blk at h ⊢
  simp [World.setCell, Array.getElem?_modify, h]
theorem Blk.set30 {w : World} {g : Nat} {t : TypeId} {a b c : Value} (h : Blk w g t #[a, b, c]) (u : Value) : Blk (w.setCell ⟨g, 0, none⟩ u) g t #[u, b, c] := by
  unfold Blk at h ⊢
  simp [World.setCell, Array.getElem?_modify, h]
theorem Blk.set31 {w : World} {g : Nat} {t : TypeId} {a b c : Value} (h : Blk w g t #[a, b, c]) (u : Value) : Blk (w.setCell ⟨g, 1, none⟩ u) g t #[a, u, c] := by
  unfold Blk at h ⊢
  simp [World.setCell, Array.getElem?_modify, h]
theorem OwnC.farT {w : World} {lo hi : Nat} {e : TypeId} {sz : Nat} {A : Option Addr} {n c : Nat} {cs : List Value} {g : Nat} {t : TypeId} {bs : Array Value} (h : OwnC w lo hi e sz A n c cs) (hb : Blk w g t bs) (ht : t ≠ e) (j : Nat) (u : Value) : OwnC (w.setCell ⟨g, j, none⟩ u) lo hi e sz A n c cs :=
  h.keepT fun k cur _ _ hk => Below.heap_setCell w ⟨g, j, none⟩ u k (by
    rintro rfl
    unfold Blk at hb
    rw [hb] at hk
    injection hk with hk
    injection hk with _ hk
    exact ht hk)
theorem Blk.grownT {w w' : World} {lo hi : Nat} {e : TypeId} {sz : Nat} {A : Option Addr} {n c : Nat} {cs : List Value} {g : Nat} {t : TypeId} {bs : Array Value} (hb : Blk w g t bs) (h : OwnC w lo hi e sz A n c cs) (ht : t ≠ e) (hg : w.grownBy w' (Value.slice A n c).ownBlock) : Blk w' g t bs :=
  (hg.block g hb.lt fun e' => by
    rcases h.form with ⟨rfl, _⟩ | ⟨q, cur, rfl, _, _, hh, _⟩
    · simp [Value.ownBlock] at e'
    · simp [Value.ownBlock] at e'
      subst e'
      unfold Blk at hb
      rw [hb] at hh
      injection hh with hh
      injection hh with _ hh
      exact ht hh).trans hb

theorem spec_l00Has (A : Option Addr) (c : Nat) (xs : List Int) (x : Int) (w : World) (h : Ints w A xs) (hl : xs.length ≤ 9223372036854775807) :
    Calls Tryz.prog 98 #[.slice A xs.length c, .int .i64 x] w fun e w' => e = .returned (.bool (decide (x ∈ xs))) ∧ w = w' := by
  go_enter Tryz.func98, Tryz.ntmps98
  go_wp2
  go_loop [5] (fun i => ∃ k : Nat, k ≤ xs.length ∧ i = .int .i64 k ∧ Hid (¬ x ∈ xs.take k)) (fun i => xs.length - (intOf i).toNat)
  case atStart => exact ⟨0, Nat.zero_le _, rfl, Lib.hid (by simp)⟩
  case round =>
    obtain ⟨k, hk, rfl, HA⟩ := hrel
    by_cases hlt : k < xs.length
    · obtain ⟨b, off, y, rfl, hc, hy⟩ := h k hlt
      have HY := Lib.hid hy; clear hy
      by_cases hyx : y = x
      · have hyx' : (y == x) = true := by simp [hyx]
        have HYX := Lib.hid hyx; clear hyx
        go_wp2_with (fail)
        go_ret
        exact ⟨ret_bool (decide_eq_true (by rw [← HYX.out]; exact List.mem_of_getElem? HY.out)).symm, rfl⟩
      · have hyx' : (y == x) = false := by simpa using hyx
        have HYX := Lib.hid hyx; clear hyx
        go_wp2_with (fail)
        go_round
        case rel => exact ⟨k + 1, by omega, by go_num, Lib.hid (by rw [take_snoc HY.out, List.mem_append, List.mem_singleton]; rintro (h1 | h1); exact HA.out h1; exact HYX.out h1.symm)⟩
        case measure => simp [intOf]; omega
    · go_wp2_with (fail)
      go_ret
      have := HA.out
      rw [take_all (by omega)] at this
      exact ⟨ret_bool (decide_eq_false this).symm, rfl⟩


end Go.Proofs.YthjamohaeahipaaGreat

/- RowOfLetters: the two functions. -/
namespace Go.Proofs.YthjamohaeahipaaGreat
open Go.RowKit

structure RowX where
  d : Int
  r : Int
  xs : List Int
def apartAt (xs : List Int) (i : Nat) : Bool := !touchAny (xs.take i) (xs[i]?.getD 0)
def apartB (xs : List Int) : Bool := (List.range xs.length).all (apartAt xs)
def rolCode (n : Int) (xs : List Int) (d r : Int) : Int := if inR n 1 8 && dirB d && carrierB r then (if lettersB n xs then (if apartB xs then 0 else 6) else 1) else 2
def rolRow (n : Int) (xs : List Int) (d r : Int) : RowX := if rolCode n xs d r = 0 then ⟨d, r, rowFrom n.toNat xs 0⟩ else ⟨0, 0, []⟩
theorem rolRow_length (n : Int) (xs : List Int) (d r : Int) : (rolRow n xs d r).xs.length ≤ 8 := by
  unfold rolRow
  split
  · rename_i h
    have hn : inR n 1 8 = true := by
      unfold rolCode at h
      cases e : inR n 1 8
      · rw [e] at h; simp at h
      · rfl
    have := inR_iff.1 hn
    have := rowFrom_length n.toNat xs 8 0 (by omega)
    exact this
  · simp
theorem rol_err {n : Int} {xs : List Int} {d r k : Int} (e : rolCode n xs d r = k) (hk : k ≠ 0) : rolRow n xs d r = ⟨0, 0, []⟩ ∧ rolCode n xs d r = k := ⟨by rw [rolRow, if_neg (by rw [e]; exact hk)], e⟩
theorem letters_small {n : Int} {xs : List Int} (hn : inR n 1 8 = true) (h : lettersB n xs = true) : smallB xs := by
  intro y hy
  have h1 := inR_iff.1 hn
  unfold lettersB letterB at h
  simp only [List.all_eq_true, Bool.and_eq_true] at h
  have h2 := inR_iff.1 (h y hy).2
  omega
theorem smallB_take {xs : List Int} (h : smallB xs) (k : Nat) : smallB (xs.take k) := fun y hy => h y (List.mem_of_mem_take hy)
theorem apart_false {xs : List Int} {k : Nat} {x : Int} (hx : xs[k]? = some x) (h : touchAny (xs.take k) x = true) : apartB xs = false := by
  unfold apartB
  rw [List.all_eq_false]
  refine ⟨k, List.mem_range.2 (List.getElem?_eq_some_iff.1 hx).1, ?_⟩
  simp [apartAt, hx, h]
theorem apart_true {xs : List Int} (h : ∀ j, j < xs.length → apartAt xs j = true) : apartB xs = true := by
  unfold apartB
  rw [List.all_eq_true]
  exact fun j hj => h j (List.mem_range.1 hj)


end Go.Proofs.YthjamohaeahipaaGreat

/- MirrorColours: the plain function, and slices of slices that grow. -/
namespace Go.Proofs.YthjamohaeahipaaGreat
open Go.RowKit

structure ColX where
  n : Int
  xs : List (List Int)
def mirC (n : Int) (xss : List (List Int)) : ColX := if coloursB n xss then ⟨n, xss.map List.reverse⟩ else ⟨0, []⟩
def mirCode (n : Int) (xss : List (List Int)) : Int := if coloursB n xss then 0 else 1
theorem cntII_le {xss : List (List Int)} {m : Nat} (h : ∀ r ∈ xss, r.length ≤ m) : cntII xss ≤ xss.length * m := by
  induction xss with
  | nil => simp [cntII]
  | cons x r ih =>
    have h1 := h x (by simp)
    have h2 := ih fun y hy => h y (by simp [hy])
    simp only [cntII, List.length_cons, Nat.succ_mul]
    omega
theorem mirC_size (n : Int) (xss : List (List Int)) : (mirC n xss).xs.length ≤ 8 ∧ cntII (mirC n xss).xs ≤ 64 := by
  unfold mirC
  split
  · rename_i hv
    have hv' : coloursB n xss = true := hv
    unfold coloursB at hv'
    simp only [Bool.and_eq_true, List.all_eq_true] at hv'
    have h1 := inR_iff.1 hv'.1.1
    have h2 := inR_iff.1 hv'.1.2
    have h3 : ∀ r ∈ xss.map List.reverse, r.length ≤ 8 := by
      intro r hr
      obtain ⟨x, hx, rfl⟩ := List.mem_map.1 hr
      have := hv'.2 x hx
      unfold rowOfB at this
      simp only [Bool.and_eq_true, decide_eq_true_eq] at this
      rw [List.length_reverse]
      omega
    have h4 := cntII_le h3
    simp only [List.length_map] at h4
    refine ⟨by simp; omega, ?_⟩
    have : xss.length ≤ 8 := by omega
    have := Nat.mul_le_mul_right 8 this
    show cntII (xss.map List.reverse) ≤ 64
    omega
  · simp [cntII]
/-- Another slice, of another type, grows. -/
theorem OwnC.grownT {w w' : World} {lo hi : Nat} {e : TypeId} {sz : Nat} {A : Option Addr} {n c : Nat} {cs : List Value} {lo2 hi2 : Nat} {e2 : TypeId} {sz2 : Nat} {B : Option Addr} {n2 c2 : Nat} {cs2 : List Value}
    (h : OwnC w lo hi e sz A n c cs) (h2 : OwnC w lo2 hi2 e2 sz2 B n2 c2 cs2) (ht : e ≠ e2) (hg : w.grownBy w' (Value.slice B n2 c2).ownBlock) : OwnC w' lo hi e sz A n c cs :=
  h.keepT fun k cur _ _ hk => hg.block k (Array.getElem?_eq_some_iff.1 hk).1 fun e' => by
    rcases h2.form with ⟨rfl, _⟩ | ⟨q, cur, rfl, _, _, hh, _⟩
    · simp [Value.ownBlock] at e'
    · simp [Value.ownBlock] at e'
      subst e'
      rw [hk] at hh
      injection hh with hh
      injection hh with _ hh
      exact ht hh
theorem CellsII.grownT {w w' : World} {lo hi : Nat} {cs : List Value} {xss : List (List Int)} {lo2 hi2 : Nat} {e2 : TypeId} {sz2 : Nat} {B : Option Addr} {n2 c2 : Nat} {cs2 : List Value}
    (h : CellsII w lo hi cs xss) (h2 : OwnC w lo2 hi2 e2 sz2 B n2 c2 cs2) (ht : (2 : TypeId) ≠ e2) (hg : w.grownBy w' (Value.slice B n2 c2).ownBlock) : CellsII w' lo hi cs xss :=
  ⟨h.1, fun k xs hx => by obtain ⟨A', c', h1, h3⟩ := h.2.1 k xs hx; exact ⟨A', c', h1, h3.grownT h2 ht hg⟩, h.2.2⟩
theorem CellsII.farT {w : World} {lo hi : Nat} {cs : List Value} {xss : List (List Int)} {g : Nat} {t : TypeId} {bs : Array Value} (h : CellsII w lo hi cs xss) (hb : Blk w g t bs) (ht : t ≠ 2) (j : Nat) (u : Value) : CellsII (w.setCell ⟨g, j, none⟩ u) lo hi cs xss :=
  ⟨h.1, fun k xs hx => by obtain ⟨A', c', h1, h3⟩ := h.2.1 k xs hx; exact ⟨A', c', h1, h3.farT hb ht j u⟩, h.2.2⟩
theorem Blk.set20 {w : World} {g : Nat} {t : TypeId} {a b : Value} (h : Blk w g t #[a, b]) (u : Value) : Blk (w.setCell ⟨g, 0, none⟩ u) g t #[u, b] := by
  unfold Blk at h ⊢
  simp [World.setCell, Array.getElem?_modify, h]
theorem Blk.set21 {w : World} {g : Nat} {t : TypeId} {a b : Value} (h : Blk w g t #[a, b]) (u : Value) : Blk (w.setCell ⟨g, 1, none⟩ u) g t #[a, u] := by
  unfold Blk at h ⊢
  simp [World.setCell, Array.getElem?_modify, h]


end Go.Proofs.YthjamohaeahipaaGreat

/- packed. -/
namespace Go.Proofs.YthjamohaeahipaaGreat
open Go.RowKit

theorem Below.drew' {B : Nat} {w w' : World} (h : Below B w w') : Below B w (World.drew w') := h.trans ⟨rfl, rfl, rfl, Nat.le_refl _, fun _ _ => rfl⟩


end Go.Proofs.YthjamohaeahipaaGreat

/- PackLetters. -/
namespace Go.Proofs.YthjamohaeahipaaGreat
open Go.RowKit


end Go.Proofs.YthjamohaeahipaaGreat
