/- Steps of the proof, joined from several texts: FLs B CO VP VQ VR. -/
import Derived.Test.YtnilglkiojigjaaZ6
import Derived.Test.YtnilglkiojigjaaZ4
import Derived.BigGuard
import Derived.Test.YtnilglkiojigjaaZ1
import Derived.Test.YtnilglkiojigjaaZ3
import Derived.BigCall

/- Floats: l19Floats, l19All, floats, FloatsOf, LongestFloat. -/
namespace Go.Proofs.Ytnilglkiojigjaa
open Go.RowKit

theorem OwnC.news {w : World} {lo hi : Nat} {e : TypeId} {sz : Nat} {A : Option Addr} {n c : Nat} {cs : List Value} (h : OwnC w lo hi e sz A n c cs) : ∀ j u, cs[j]? = some u → ∃ b off, A = some ⟨b, off, none⟩ ∧ w.cell? ⟨b, off + j, none⟩ = some u := by
  intro j u hu
  obtain ⟨hj, rfl⟩ := List.getElem?_eq_some_iff.1 hu
  obtain ⟨g, rfl, _, _, h1, _⟩ := h.cell hj
  exact ⟨g, 0, rfl, by rw [Nat.zero_add]; exact h1⟩
theorem cellsFloat_one (ps : List FloatD) : ∀ u ∈ cellsFloat ps, u.oneCell' = true := by
  induction ps with
  | nil => simp [cellsFloat]
  | cons p ps ih =>
    intro u hu
    simp only [cellsFloat, List.mem_cons] at hu
    rcases hu with rfl | rfl | rfl | rfl | hu
    · rfl
    · rfl
    · rfl
    · rfl
    · exact ih u hu
theorem cellsFloat_append (a b : List FloatD) : cellsFloat (a ++ b) = cellsFloat a ++ cellsFloat b := by
  induction a with
  | nil => rfl
  | cons p a ih => simp [cellsFloat, ih]

set_option maxHeartbeats 1000000 in
theorem spec_l19Floats (A : Option Addr) (c : Nat) (row : List Int) (r cr : Int) (w : World) (h : Ints w A row) (hl : row.length ≤ 1000) :
    Calls Try.prog 192 #[.slice A row.length c, .int .i64 r, .int .i64 cr] w fun e w' => ∃ A' c', e = .returned (.slice A' (fRow r cr row row.length).1.length c') ∧ OwnFloat w' w.heap.size w'.heap.size A' c' (fRow r cr row row.length).1 ∧ Below w.heap.size w w' := by
  obtain ⟨i0, hi0, hz0, hz1, hz2⟩ := info_parts info_Float
  go_enter Try.func192, Try.ntmps192
  go_wp2_with (fail)
  go_loopw [7, 8, 9] (fun ov lv iv wr => ∃ (k : Nat) (A' : Option Addr) (c' : Nat), k ≤ row.length ∧ iv = .int .i64 k ∧ lv = .int .i64 (fRow r cr row k).2 ∧ ov = .slice A' (fRow r cr row k).1.length c' ∧ OwnFloat wr w.heap.size wr.heap.size A' c' (fRow r cr row k).1 ∧ Below w.heap.size w wr) (fun _ _ iv _ => row.length - (intOf iv).toNat)
  case atStart =>
    exact ⟨0, some ⟨w.heap.size, 0, none⟩, 0, Nat.zero_le _, rfl, rfl, rfl, (OwnC.lit _ 4 #[] (Nat.le_refl _) (Nat.zero_le _) rfl).mono (Nat.le_refl _) (by simp), by (repeat (first | exact Below.refl _ _ | assumption | apply Below.drew | apply below_drewN | (refine Below.alloc ?_ (by first | omega | (simp; done) | (simp; omega)) _) | (refine Below.setCell ?_ (by first | omega | (simp; done) | (simp; omega)) _)))⟩
  case round =>
    obtain ⟨k, A', c', hk, rfl, rfl, rfl, ho, hb⟩ := hrel
    obtain ⟨hL1, hL2, hL3⟩ := fRow_last r cr row k
    have hzs := hb.size
    by_cases hlt : k < row.length
    · obtain ⟨b, off, x, rfl, hc, hx⟩ := h k hlt
      replace hc := cells_below hb _ _ hc
      have HS : Hid (fRow r cr row (k + 1) = fStep r cr (fRow r cr row k) k x) := Lib.hid (fRow_succ hx)
      clear hx
      generalize fRow r cr row k = s at ho HS hL1 hL2 hL3
      obtain ⟨fs, last⟩ := s
      simp only at ho hL1 hL2 hL3
      by_cases hxc : x = cr
      · have hxc' : (x != cr) = false := by simp [hxc]
        by_cases h1 : 0 ≤ last ∧ last + 1 < k
        · have HT : Hid (fRow r cr row (k + 1) = (fs ++ [⟨r, cr, last, k⟩], (k : Int))) := Lib.hid (by rw [HS.out, fStep, if_pos hxc, if_pos h1])
          obtain ⟨h1, h2⟩ := h1
          clear hxc
          go_wp2_with (at_builtin; refine wpList_append1 wr [.int .i64 r, .int .i64 cr, .int .i64 last, .int .i64 k] _ rfl (.tmp 31) (.tmp 37) _ rfl 164 i0 _ 4 32 Try.underlying161 hi0 hz0 hz1 hz2 rfl (by decide) rfl ho hzs 1 rfl rfl (by simp [Value.oneCell']) (by omega) (by decide) ?_; intro A2 c2 w2 ho2 hg2 hb2 hz2')
          go_roundw
          case rel =>
            refine ⟨k + 1, A2, c2, by omega, by go_num, by rw [HT.out], by rw [HT.out]; simp, ?_, hb.trans hb2⟩
            rw [HT.out]
            show OwnC _ _ _ _ _ _ _ _ _
            rw [cellsFloat_snoc, List.length_append]
            exact ho2
          case measure => simp [intOf]; omega
        · have HT : Hid (fRow r cr row (k + 1) = (fs, (k : Int))) := Lib.hid (by rw [HS.out, fStep, if_pos hxc, if_neg h1])
          clear hxc
          by_cases h2 : 0 ≤ last
          · have h3 : ¬ last + 1 < k := fun h => h1 ⟨h2, h⟩
            clear h1
            go_wp2_with (fail)
            go_roundw
            case rel => exact ⟨k + 1, A', c', by omega, by go_num, by rw [HT.out], by rw [HT.out], by rw [HT.out]; exact ho, hb⟩
            case measure => simp [intOf]; omega
          · clear h1
            go_wp2_with (fail)
            go_roundw
            case rel => exact ⟨k + 1, A', c', by omega, by go_num, by rw [HT.out], by rw [HT.out], by rw [HT.out]; exact ho, hb⟩
            case measure => simp [intOf]; omega
      · have hxc' : (x != cr) = true := by simpa using hxc
        have HT : Hid (fRow r cr row (k + 1) = (fs, last)) := Lib.hid (by rw [HS.out, fStep, if_neg hxc])
        clear hxc
        go_wp2_with (fail)
        go_roundw
        case rel => exact ⟨k + 1, A', c', by omega, by go_num, by rw [HT.out], by rw [HT.out], by rw [HT.out]; exact ho, hb⟩
        case measure => simp [intOf]; omega
    · go_wp2_with (fail)
      go_ret
      have : k = row.length := by omega
      subst this
      exact ⟨_, _, rfl, ho, hb⟩


end Go.Proofs.Ytnilglkiojigjaa

/- The hand knitter's questions: FirstOf, ColumnAt. -/
namespace Go.Proofs.Ytnilglkiojigjaa
open Go.RowKit

theorem Ints.take {w : World} {A : Option Addr} {xs : List Int} (h : Ints w A xs) (n : Nat) : Ints w A (xs.take n) := by
  intro k hk
  obtain ⟨b, off, x, hA, hc, hx⟩ := h k (by rw [List.length_take] at hk; omega)
  exact ⟨b, off, x, hA, hc, by rw [List.getElem?_take, if_pos (by rw [List.length_take] at hk; omega)]; exact hx⟩


end Go.Proofs.Ytnilglkiojigjaa

/- CountColours. -/
namespace Go.Proofs.Ytnilglkiojigjaa
open Go.RowKit

theorem zeros4 : (madeCells (Value.int .i64 0).cells (4 * 1)).toList = ([0, 0, 0, 0] : List Int).map (Value.int .i64) := by simp [madeCells, Value.cells]; rfl
def bump (cs : List Int) (x : Int) : List Int := cs.set (x - 1).toNat (wrap64 (cs[(x - 1).toNat]?.getD 0 + 1))
def bumpRow (cs row : List Int) : List Int := row.foldl bump cs
def countRows (xss : List (List Int)) : List Int := xss.foldl bumpRow [0, 0, 0, 0]
def countColours (n : Int) (xss : List (List Int)) : List Int := if coloursB n xss then countRows xss else []
theorem bumpRow_length (cs row : List Int) : (bumpRow cs row).length = cs.length := by
  unfold bumpRow
  induction row generalizing cs with
  | nil => rfl
  | cons x r ih => rw [List.foldl_cons, ih]; simp [bump]
theorem countRows_length (xss : List (List Int)) : (countRows xss).length = 4 := by
  unfold countRows
  suffices h : ∀ cs : List Int, (xss.foldl bumpRow cs).length = cs.length by rw [h]; rfl
  induction xss with
  | nil => intro cs; rfl
  | cons x r ih => intro cs; rw [List.foldl_cons, ih, bumpRow_length]
theorem countColours_length (n : Int) (xss : List (List Int)) : (countColours n xss).length ≤ 4 := by
  unfold countColours
  split
  · rw [countRows_length]; omega
  · simp
theorem bump_at {cs : List Int} {i : Nat} {v : Int} (h : cs[i]? = some v) : bump cs ((i : Int) + 1) = cs.set i (wrap64 (v + 1)) := by
  have : ((i : Int) + 1 - 1).toNat = i := by omega
  unfold bump
  rw [this, h]
  rfl
theorem colour_at {n : Int} {xss : List (List Int)} (h : coloursB n xss = true) {k j : Nat} {row : List Int} {x : Int} (hr : xss[k]? = some row) (hx : row[j]? = some x) : ∃ i : Nat, i < 4 ∧ x = (i : Int) + 1 := by
  unfold coloursB at h
  simp only [Bool.and_eq_true, List.all_eq_true] at h
  have h1 := h.2 row (List.mem_of_getElem? hr)
  unfold rowOfB at h1
  simp only [Bool.and_eq_true, List.all_eq_true] at h1
  have h2 := h1.2 x (List.mem_of_getElem? hx)
  unfold carrierB inR at h2
  simp at h2
  exact ⟨(x - 1).toNat, by omega, by omega⟩
theorem bumpRow_snoc {cs row : List Int} {j : Nat} {x : Int} (hx : row[j]? = some x) : bumpRow cs (row.take (j + 1)) = bump (bumpRow cs (row.take j)) x := by
  unfold bumpRow
  rw [take_snoc hx, List.foldl_append]
  rfl
theorem countRows_snoc {xss : List (List Int)} {j : Nat} {x : List Int} (hx : xss[j]? = some x) : countRows (xss.take (j + 1)) = bumpRow (countRows (xss.take j)) x := by
  unfold countRows
  rw [take_snoc hx, List.foldl_append]
  rfl


end Go.Proofs.Ytnilglkiojigjaa

/- ValidPieces. -/
namespace Go.Proofs.Ytnilglkiojigjaa
open Go.RowKit

def plainP (p : PieceD) : Bool := isStitchB p.kind && inR p.times 1 16 && decide (p.len = 0)
def groupP (d : Nat) (p : PieceD) (m : Nat) : Bool := inR p.times 0 16 && !(decide (p.times = 0) && decide (0 < d)) && inR p.len 1 m
def rangeP (d : Nat) : List PieceD → Option Nat
  | [] => some 0
  | p :: r =>
    if p.kind = 12 then
      if d < 3 ∧ groupP d p r.length = true then
        match rangeP (d + 1) (r.take p.len.toNat) with
        | none => none
        | some _ => (rangeP d (r.drop p.len.toNat)).map (fun o => (if p.times = 0 then 1 else 0) + o)
      else none
    else if plainP p then rangeP d r else none
termination_by l => l.length
decreasing_by all_goals (simp; try omega)
def okP : Option Nat → Bool
  | none => false
  | some o => decide (o ≤ 1)
def piecesB (ps : List PieceD) : Bool := decide (ps.length ≤ 24) && okP (rangeP 0 ps)
def segP (ps : List PieceD) (a b : Nat) : List PieceD := (ps.drop a).take (b - a)
theorem segP_nil (ps : List PieceD) (a : Nat) : segP ps a a = [] := by simp [segP]
theorem segP_all (ps : List PieceD) : segP ps 0 ps.length = ps := by simp [segP]
theorem segP_length {ps : List PieceD} {a b : Nat} (h : b ≤ ps.length) : (segP ps a b).length = b - a := by simp [segP]; omega
theorem segP_cons {ps : List PieceD} {a b : Nat} {p : PieceD} (hp : ps[a]? = some p) (h : a < b) : segP ps a b = p :: segP ps (a + 1) b := by
  unfold segP
  have ha : a < ps.length := by
    by_cases hlt : a < ps.length
    · exact hlt
    · rw [List.getElem?_eq_none (by omega)] at hp; cases hp
  rw [List.drop_eq_getElem_cons ha, show b - a = (b - (a + 1)) + 1 by omega, List.take_succ_cons]
  congr 1
  rw [List.getElem?_eq_getElem ha] at hp
  injection hp
theorem segP_take {ps : List PieceD} {a b n : Nat} (h : a + n ≤ b) : (segP ps a b).take n = segP ps a (a + n) := by
  unfold segP
  rw [List.take_take]
  congr 1
  omega
theorem segP_drop {ps : List PieceD} {a b n : Nat} : (segP ps a b).drop n = segP ps (a + n) b := by
  unfold segP
  rw [List.drop_take, List.drop_drop]
  congr 1
  omega
theorem rangeP_nil (d : Nat) : rangeP d [] = some 0 := by rw [rangeP]
theorem rangeP_plain {d : Nat} {p : PieceD} {r : List PieceD} (h : p.kind ≠ 12) (hp : plainP p = true) : rangeP d (p :: r) = rangeP d r := by rw [rangeP, if_neg h, if_pos hp]
theorem rangeP_bad {d : Nat} {p : PieceD} {r : List PieceD} (h : p.kind ≠ 12) (hp : plainP p = false) : rangeP d (p :: r) = none := by rw [rangeP, if_neg h, if_neg (by simp [hp])]
theorem rangeP_group {d : Nat} {p : PieceD} {r : List PieceD} (h : p.kind = 12) (hd : ¬ (d < 3 ∧ groupP d p r.length = true)) : rangeP d (p :: r) = none := by rw [rangeP, if_pos h, if_neg hd]
theorem rangeP_inner {d : Nat} {p : PieceD} {r : List PieceD} (h : p.kind = 12) (hi : rangeP (d + 1) (r.take p.len.toNat) = none) : rangeP d (p :: r) = none := by
  rw [rangeP, if_pos h]
  split
  · rw [hi]
  · rfl
theorem rangeP_open {d : Nat} {p : PieceD} {r : List PieceD} (h : p.kind = 12) (hd : d < 3) (hg : groupP d p r.length = true) (hi : (rangeP (d + 1) (r.take p.len.toNat)).isSome = true) : rangeP d (p :: r) = (rangeP d (r.drop p.len.toNat)).map (fun o => (if p.times = 0 then 1 else 0) + o) := by
  rw [rangeP, if_pos h, if_pos ⟨hd, hg⟩]
  split
  · rename_i e; rw [e] at hi; cases hi
  · rfl
theorem rangeP_zero (n d : Nat) (hd : 0 < d) : ∀ l : List PieceD, l.length ≤ n → ∀ o, rangeP d l = some o → o = 0 := by
  induction n with
  | zero =>
    intro l hl o h
    have : l = [] := by cases l <;> simp_all
    subst this
    rw [rangeP_nil] at h
    injection h with h
    exact h.symm
  | succ n ih =>
    intro l hl o h
    cases l with
    | nil => rw [rangeP_nil] at h; injection h with h; exact h.symm
    | cons p r =>
      simp at hl
      rw [rangeP] at h
      split at h
      · split at h
        · rename_i hg
          split at h
          · cases h
          · rw [Option.map_eq_some_iff] at h
            obtain ⟨o', ho', e⟩ := h
            have := ih _ (by simp; omega) o' ho'
            have ht : p.times ≠ 0 := by
              intro ht
              have := hg.2
              simp [groupP, ht, hd] at this
            rw [if_neg ht] at e
            omega
        · cases h
      · split at h
        · exact ih r hl o h
        · cases h
def openOf : Option Nat → Int
  | none => 0
  | some o => o

set_option maxHeartbeats 4000000 in
theorem spec_l16Range (ps : List PieceD) (A : Option Addr) (c : Nat) (hl : ps.length ≤ 1000) (m : Nat) : ∀ (a b d : Nat) (w : World), Pieces w A ps → b - a ≤ m → a ≤ b → b ≤ ps.length → d ≤ 3 →
    Calls Try.prog 135 #[.slice A ps.length c, .int .i64 a, .int .i64 b, .int .i64 d] w fun e w' => e = .returned (.tuple #[.int .i64 (openOf (rangeP d (segP ps a b))), .bool (rangeP d (segP ps a b)).isSome]) ∧ Below w.heap.size w w' := by
  induction m using Nat.strongRecOn with
  | ind m ih =>
  intro a b d w h hm hab hbl hd
  have IH := Lib.hid ih; clear ih
  go_enter Try.func135, Try.ntmps135
  go_wp2_with (fail)
  go_loopw [10, 11] (fun ov iv wr => ∃ (k o : Nat), a ≤ k ∧ k ≤ b ∧ o ≤ k ∧ ov = .int .i64 o ∧ iv = .int .i64 k ∧ rangeP d (segP ps a b) = (rangeP d (segP ps k b)).map (fun q => o + q) ∧ Below w.heap.size w wr) (fun _ iv _ => b - (intOf iv).toNat)
  case atStart => exact ⟨a, 0, Nat.le_refl _, hab, Nat.zero_le _, rfl, rfl, by simp, Below.refl _ _⟩
  case round =>
    obtain ⟨k, o, hak, hkb, hok, rfl, rfl, hr, hb⟩ := hrel
    have HR := Lib.hid hr; clear hr
    have hz := hb.size
    by_cases hlt : k < b
    · obtain ⟨b1, off, p, rfl, hp, p0, p1, p2⟩ := (h.below hb) k (by omega)
      have HS : Hid (segP ps k b = p :: segP ps (k + 1) b) := Lib.hid (segP_cons hp hlt)
      have HP := Lib.hid hp; clear hp
      have j1 : (0 : Int) ≤ (k : Int) := by omega
      have j2 : (k : Int) < (ps.length : Int) := by omega
      by_cases hk : p.kind = 12
      · have hk' : (p.kind != 12) = false := by simp [hk]
        have HL : Hid ((segP ps (k + 1) b).length = b - (k + 1)) := Lib.hid (segP_length hbl)
        have hcast : ((b - (k + 1) : Nat) : Int) = (b : Int) - (k : Int) - 1 := by omega
        have HG : Hid (groupP d p (segP ps (k + 1) b).length = (inR p.times 0 16 && !(decide (p.times = 0) && decide (0 < d)) && inR p.len 1 ((b : Int) - (k : Int) - 1))) := Lib.hid (by rw [HL.out, groupP, hcast])
        clear hcast
        by_cases hd3 : d < 3
        · have hd3' : decide ((3 : Int) ≤ (d : Int)) = false := decide_eq_false (by omega)
          cases ht : inR p.times 0 16
          · have HN : Hid (rangeP d (segP ps a b) = none) := Lib.hid (by rw [HR.out, HS.out, rangeP_group hk (by rw [HG.out, ht]; simp)]; rfl)
            clear hk
            set_option maxRecDepth 10000 in go_wp2_with (first | (go_at_call 190; refine (spec_l14Kind _ _).mono ?_; rintro e _ ⟨rfl, rfl⟩) | (go_at_call 63; refine (spec_l00In _ _ _ _).mono ?_; rintro e _ ⟨rfl, rfl⟩))
            go_ret2
            rw [HN.out]
            exact ⟨rfl, by (repeat (first | exact Below.refl _ _ | assumption | apply Below.drew | apply below_drewN | (refine Below.alloc ?_ (by first | omega | (simp; done) | (simp; omega)) _) | (refine Below.setCell ?_ (by first | omega | (simp; done) | (simp; omega)) _)))⟩
          · by_cases h0 : p.times = 0
            · have h0' : (p.times == 0) = true := by simp [h0]
              by_cases hd0 : 0 < d
              · have hd0' : decide ((0 : Int) < (d : Int)) = true := decide_eq_true (by omega)
                have HN : Hid (rangeP d (segP ps a b) = none) := Lib.hid (by rw [HR.out, HS.out, rangeP_group hk (by rw [HG.out, h0]; simp [hd0])]; rfl)
                clear hk h0
                set_option maxRecDepth 10000 in go_wp2_with (first | (go_at_call 190; refine (spec_l14Kind _ _).mono ?_; rintro e _ ⟨rfl, rfl⟩) | (go_at_call 63; refine (spec_l00In _ _ _ _).mono ?_; rintro e _ ⟨rfl, rfl⟩))
                go_ret2
                rw [HN.out]
                exact ⟨rfl, by (repeat (first | exact Below.refl _ _ | assumption | apply Below.drew | apply below_drewN | (refine Below.alloc ?_ (by first | omega | (simp; done) | (simp; omega)) _) | (refine Below.setCell ?_ (by first | omega | (simp; done) | (simp; omega)) _)))⟩
              · have hd0' : decide ((0 : Int) < (d : Int)) = false := decide_eq_false (by omega)
                cases hn : inR p.len 1 ((b : Int) - (k : Int) - 1)
                · have HN : Hid (rangeP d (segP ps a b) = none) := Lib.hid (by rw [HR.out, HS.out, rangeP_group hk (by rw [HG.out, hn]; simp)]; rfl)
                  clear hk h0
                  set_option maxRecDepth 10000 in go_wp2_with (first | (go_at_call 190; refine (spec_l14Kind _ _).mono ?_; rintro e _ ⟨rfl, rfl⟩) | (go_at_call 63; refine (spec_l00In _ _ _ _).mono ?_; rintro e _ ⟨rfl, rfl⟩))
                  go_ret2
                  rw [HN.out]
                  exact ⟨rfl, by (repeat (first | exact Below.refl _ _ | assumption | apply Below.drew | apply below_drewN | (refine Below.alloc ?_ (by first | omega | (simp; done) | (simp; omega)) _) | (refine Below.setCell ?_ (by first | omega | (simp; done) | (simp; omega)) _)))⟩
                · have HGT : Hid (groupP d p (segP ps (k + 1) b).length = true) := Lib.hid (by rw [HG.out, ht, hn]; simp; omega)
                  have h1 : 1 ≤ p.len ∧ p.len ≤ (b : Int) - (k : Int) - 1 := by simpa [inR] using hn
                  obtain ⟨n, hnl⟩ : ∃ n : Nat, p.len = (n : Int) := ⟨p.len.toNat, by omega⟩
                  have HNL := Lib.hid hnl
                  rw [hnl] at p2 hn h1
                  clear hnl
                  have hlen : k + 1 + n ≤ b := by omega
                  have HT : Hid ((segP ps (k + 1) b).take p.len.toNat = segP ps (k + 1) (k + 1 + n)) := Lib.hid (by rw [HNL.out]; exact segP_take hlen)
                  have HD : Hid ((segP ps (k + 1) b).drop p.len.toNat = segP ps (k + 1 + n) b) := Lib.hid (by rw [HNL.out]; exact segP_drop)
                  have HIC : Hid (∀ w2, Pieces w2 _ ps → _) := Lib.hid (fun w2 (h2 : Pieces w2 (some ⟨b1, off, none⟩) ps) => IH.out n (by omega) (k + 1) (k + 1 + n) (d + 1) w2 h2 (by omega) (by omega) (by omega) (by omega))
                  have f1 : ((k + 1 : Nat) : Int) = (k : Int) + 1 := by omega
                  have f2 : ((k + 1 + n : Nat) : Int) = (k : Int) + 1 + (n : Int) := by omega
                  have f3 : ((d + 1 : Nat) : Int) = (d : Int) + 1 := by omega
                  rw [f1, f2, f3] at HIC
                  clear f1 f2 f3
                  cases hin : (rangeP (d + 1) (segP ps (k + 1) (k + 1 + n))).isSome
                  · have HN : Hid (rangeP d (segP ps a b) = none) := Lib.hid (by rw [HR.out, HS.out, rangeP_inner hk (by rw [HT.out]; simpa using hin)]; rfl)
                    clear hk h0
                    set_option maxRecDepth 10000 in go_wp2_with (first | (go_at_call 190; refine (spec_l14Kind _ _).mono ?_; rintro e _ ⟨rfl, rfl⟩) | (go_at_call 63; refine (spec_l00In _ _ _ _).mono ?_; rintro e _ ⟨rfl, rfl⟩))
                    refine (HIC.out _ (h.below (by (repeat (first | exact Below.refl _ _ | assumption | apply Below.drew | apply below_drewN | (refine Below.alloc ?_ (by first | omega | (simp; done) | (simp; omega)) _) | (refine Below.setCell ?_ (by first | omega | (simp; done) | (simp; omega)) _)))))).mono ?_; rintro e w2 ⟨rfl, b2⟩
                    simp only [World.size_alloc] at b2
                    have k2 : Blk w2 wr.heap.size 107 #[.int .i64 p.kind, .int .i64 p.times, .int .i64 (n : Int)] := (Blk.new _ _ _).below b2 (by first | omega | (simp; done) | (simp; omega))
                    obtain ⟨s0, s1, s2⟩ := k2.c3
                    have hb2 : Below w.heap.size w w2 := Below.trans (by (repeat (first | exact Below.refl _ _ | assumption | apply Below.drew | apply below_drewN | (refine Below.alloc ?_ (by first | omega | (simp; done) | (simp; omega)) _) | (refine Below.setCell ?_ (by first | omega | (simp; done) | (simp; omega)) _)))) (b2.mono (by first | omega | (simp; done) | (simp; omega)))
                    set_option maxRecDepth 10000 in go_wp2_with (first | (go_at_call 190; refine (spec_l14Kind _ _).mono ?_; rintro e _ ⟨rfl, rfl⟩) | (go_at_call 63; refine (spec_l00In _ _ _ _).mono ?_; rintro e _ ⟨rfl, rfl⟩))
                    go_ret2
                    rw [HN.out]
                    exact ⟨rfl, hb2⟩
                  · have HQ : Hid (rangeP d (segP ps a b) = (rangeP d (segP ps (k + 1 + n) b)).map (fun q => (o + 1) + q)) := Lib.hid (by rw [HR.out, HS.out, rangeP_open hk hd3 HGT.out (by rw [HT.out]; exact hin), HD.out, Option.map_map]; congr 1; funext q; simp [h0]; omega)
                    clear hk h0
                    set_option maxRecDepth 10000 in go_wp2_with (first | (go_at_call 190; refine (spec_l14Kind _ _).mono ?_; rintro e _ ⟨rfl, rfl⟩) | (go_at_call 63; refine (spec_l00In _ _ _ _).mono ?_; rintro e _ ⟨rfl, rfl⟩))
                    refine (HIC.out _ (h.below (by (repeat (first | exact Below.refl _ _ | assumption | apply Below.drew | apply below_drewN | (refine Below.alloc ?_ (by first | omega | (simp; done) | (simp; omega)) _) | (refine Below.setCell ?_ (by first | omega | (simp; done) | (simp; omega)) _)))))).mono ?_; rintro e w2 ⟨rfl, b2⟩
                    simp only [World.size_alloc] at b2
                    have k2 : Blk w2 wr.heap.size 107 #[.int .i64 p.kind, .int .i64 p.times, .int .i64 (n : Int)] := (Blk.new _ _ _).below b2 (by first | omega | (simp; done) | (simp; omega))
                    obtain ⟨s0, s1, s2⟩ := k2.c3
                    have hb2 : Below w.heap.size w w2 := Below.trans (by (repeat (first | exact Below.refl _ _ | assumption | apply Below.drew | apply below_drewN | (refine Below.alloc ?_ (by first | omega | (simp; done) | (simp; omega)) _) | (refine Below.setCell ?_ (by first | omega | (simp; done) | (simp; omega)) _)))) (b2.mono (by first | omega | (simp; done) | (simp; omega)))
                    set_option maxRecDepth 10000 in go_wp2_with (first | (go_at_call 190; refine (spec_l14Kind _ _).mono ?_; rintro e _ ⟨rfl, rfl⟩) | (go_at_call 63; refine (spec_l00In _ _ _ _).mono ?_; rintro e _ ⟨rfl, rfl⟩))
                    exact ⟨⟨k + 1 + n, o + 1, by omega, by omega, by omega, by go_num, by go_num, HQ.out, hb2⟩, by simp [intOf]; omega⟩
            · have h0' : (p.times == 0) = false := by simpa using h0
              cases hn : inR p.len 1 ((b : Int) - (k : Int) - 1)
              · have HN : Hid (rangeP d (segP ps a b) = none) := Lib.hid (by rw [HR.out, HS.out, rangeP_group hk (by rw [HG.out, hn]; simp)]; rfl)
                clear hk h0
                set_option maxRecDepth 10000 in go_wp2_with (first | (go_at_call 190; refine (spec_l14Kind _ _).mono ?_; rintro e _ ⟨rfl, rfl⟩) | (go_at_call 63; refine (spec_l00In _ _ _ _).mono ?_; rintro e _ ⟨rfl, rfl⟩))
                go_ret2
                rw [HN.out]
                exact ⟨rfl, by (repeat (first | exact Below.refl _ _ | assumption | apply Below.drew | apply below_drewN | (refine Below.alloc ?_ (by first | omega | (simp; done) | (simp; omega)) _) | (refine Below.setCell ?_ (by first | omega | (simp; done) | (simp; omega)) _)))⟩
              · have HGT : Hid (groupP d p (segP ps (k + 1) b).length = true) := Lib.hid (by rw [HG.out, ht, hn]; simp [h0])
                have h1 : 1 ≤ p.len ∧ p.len ≤ (b : Int) - (k : Int) - 1 := by simpa [inR] using hn
                obtain ⟨n, hnl⟩ : ∃ n : Nat, p.len = (n : Int) := ⟨p.len.toNat, by omega⟩
                have HNL := Lib.hid hnl
                rw [hnl] at p2 hn h1
                clear hnl
                have hlen : k + 1 + n ≤ b := by omega
                have HT : Hid ((segP ps (k + 1) b).take p.len.toNat = segP ps (k + 1) (k + 1 + n)) := Lib.hid (by rw [HNL.out]; exact segP_take hlen)
                have HD : Hid ((segP ps (k + 1) b).drop p.len.toNat = segP ps (k + 1 + n) b) := Lib.hid (by rw [HNL.out]; exact segP_drop)
                have HIC : Hid (∀ w2, Pieces w2 _ ps → _) := Lib.hid (fun w2 (h2 : Pieces w2 (some ⟨b1, off, none⟩) ps) => IH.out n (by omega) (k + 1) (k + 1 + n) (d + 1) w2 h2 (by omega) (by omega) (by omega) (by omega))
                have f1 : ((k + 1 : Nat) : Int) = (k : Int) + 1 := by omega
                have f2 : ((k + 1 + n : Nat) : Int) = (k : Int) + 1 + (n : Int) := by omega
                have f3 : ((d + 1 : Nat) : Int) = (d : Int) + 1 := by omega
                rw [f1, f2, f3] at HIC
                clear f1 f2 f3
                cases hin : (rangeP (d + 1) (segP ps (k + 1) (k + 1 + n))).isSome
                · have HN : Hid (rangeP d (segP ps a b) = none) := Lib.hid (by rw [HR.out, HS.out, rangeP_inner hk (by rw [HT.out]; simpa using hin)]; rfl)
                  clear hk h0
                  set_option maxRecDepth 10000 in go_wp2_with (first | (go_at_call 190; refine (spec_l14Kind _ _).mono ?_; rintro e _ ⟨rfl, rfl⟩) | (go_at_call 63; refine (spec_l00In _ _ _ _).mono ?_; rintro e _ ⟨rfl, rfl⟩))
                  refine (HIC.out _ (h.below (by (repeat (first | exact Below.refl _ _ | assumption | apply Below.drew | apply below_drewN | (refine Below.alloc ?_ (by first | omega | (simp; done) | (simp; omega)) _) | (refine Below.setCell ?_ (by first | omega | (simp; done) | (simp; omega)) _)))))).mono ?_; rintro e w2 ⟨rfl, b2⟩
                  simp only [World.size_alloc] at b2
                  have k2 : Blk w2 wr.heap.size 107 #[.int .i64 p.kind, .int .i64 p.times, .int .i64 (n : Int)] := (Blk.new _ _ _).below b2 (by first | omega | (simp; done) | (simp; omega))
                  obtain ⟨s0, s1, s2⟩ := k2.c3
                  have hb2 : Below w.heap.size w w2 := Below.trans (by (repeat (first | exact Below.refl _ _ | assumption | apply Below.drew | apply below_drewN | (refine Below.alloc ?_ (by first | omega | (simp; done) | (simp; omega)) _) | (refine Below.setCell ?_ (by first | omega | (simp; done) | (simp; omega)) _)))) (b2.mono (by first | omega | (simp; done) | (simp; omega)))
                  set_option maxRecDepth 10000 in go_wp2_with (first | (go_at_call 190; refine (spec_l14Kind _ _).mono ?_; rintro e _ ⟨rfl, rfl⟩) | (go_at_call 63; refine (spec_l00In _ _ _ _).mono ?_; rintro e _ ⟨rfl, rfl⟩))
                  go_ret2
                  rw [HN.out]
                  exact ⟨rfl, hb2⟩
                · have HQ : Hid (rangeP d (segP ps a b) = (rangeP d (segP ps (k + 1 + n) b)).map (fun q => (o) + q)) := Lib.hid (by rw [HR.out, HS.out, rangeP_open hk hd3 HGT.out (by rw [HT.out]; exact hin), HD.out, Option.map_map]; congr 1; funext q; simp [h0])
                  clear hk h0
                  set_option maxRecDepth 10000 in go_wp2_with (first | (go_at_call 190; refine (spec_l14Kind _ _).mono ?_; rintro e _ ⟨rfl, rfl⟩) | (go_at_call 63; refine (spec_l00In _ _ _ _).mono ?_; rintro e _ ⟨rfl, rfl⟩))
                  refine (HIC.out _ (h.below (by (repeat (first | exact Below.refl _ _ | assumption | apply Below.drew | apply below_drewN | (refine Below.alloc ?_ (by first | omega | (simp; done) | (simp; omega)) _) | (refine Below.setCell ?_ (by first | omega | (simp; done) | (simp; omega)) _)))))).mono ?_; rintro e w2 ⟨rfl, b2⟩
                  simp only [World.size_alloc] at b2
                  have k2 : Blk w2 wr.heap.size 107 #[.int .i64 p.kind, .int .i64 p.times, .int .i64 (n : Int)] := (Blk.new _ _ _).below b2 (by first | omega | (simp; done) | (simp; omega))
                  obtain ⟨s0, s1, s2⟩ := k2.c3
                  have hb2 : Below w.heap.size w w2 := Below.trans (by (repeat (first | exact Below.refl _ _ | assumption | apply Below.drew | apply below_drewN | (refine Below.alloc ?_ (by first | omega | (simp; done) | (simp; omega)) _) | (refine Below.setCell ?_ (by first | omega | (simp; done) | (simp; omega)) _)))) (b2.mono (by first | omega | (simp; done) | (simp; omega)))
                  set_option maxRecDepth 10000 in go_wp2_with (first | (go_at_call 190; refine (spec_l14Kind _ _).mono ?_; rintro e _ ⟨rfl, rfl⟩) | (go_at_call 63; refine (spec_l00In _ _ _ _).mono ?_; rintro e _ ⟨rfl, rfl⟩))
                  exact ⟨⟨k + 1 + n, o, by omega, by omega, by omega, by go_num, by go_num, HQ.out, hb2⟩, by simp [intOf]; omega⟩
        · have hd3' : decide ((3 : Int) ≤ (d : Int)) = true := decide_eq_true (by omega)
          have HN : Hid (rangeP d (segP ps a b) = none) := Lib.hid (by rw [HR.out, HS.out, rangeP_group hk (by omega)]; rfl)
          clear hk
          set_option maxRecDepth 10000 in go_wp2_with (first | (go_at_call 190; refine (spec_l14Kind _ _).mono ?_; rintro e _ ⟨rfl, rfl⟩) | (go_at_call 63; refine (spec_l00In _ _ _ _).mono ?_; rintro e _ ⟨rfl, rfl⟩))
          go_ret2
          rw [HN.out]
          exact ⟨rfl, by (repeat (first | exact Below.refl _ _ | assumption | apply Below.drew | apply below_drewN | (refine Below.alloc ?_ (by first | omega | (simp; done) | (simp; omega)) _) | (refine Below.setCell ?_ (by first | omega | (simp; done) | (simp; omega)) _)))⟩
      · have hk' : (p.kind != 12) = true := by simpa using hk
        cases t1 : isStitchB p.kind
        · have HN : Hid (rangeP d (segP ps a b) = none) := Lib.hid (by rw [HR.out, HS.out, rangeP_bad hk (by simp [plainP, t1])]; rfl)
          clear hk
          set_option maxRecDepth 10000 in go_wp2_with (first | (go_at_call 190; refine (spec_l14Kind _ _).mono ?_; rintro e _ ⟨rfl, rfl⟩) | (go_at_call 63; refine (spec_l00In _ _ _ _).mono ?_; rintro e _ ⟨rfl, rfl⟩))
          go_ret2
          rw [HN.out]
          exact ⟨rfl, by (repeat (first | exact Below.refl _ _ | assumption | apply Below.drew | apply below_drewN | (refine Below.alloc ?_ (by first | omega | (simp; done) | (simp; omega)) _) | (refine Below.setCell ?_ (by first | omega | (simp; done) | (simp; omega)) _)))⟩
        · cases t2 : inR p.times 1 16
          · have HN : Hid (rangeP d (segP ps a b) = none) := Lib.hid (by rw [HR.out, HS.out, rangeP_bad hk (by simp [plainP, t2])]; rfl)
            clear hk
            set_option maxRecDepth 10000 in go_wp2_with (first | (go_at_call 190; refine (spec_l14Kind _ _).mono ?_; rintro e _ ⟨rfl, rfl⟩) | (go_at_call 63; refine (spec_l00In _ _ _ _).mono ?_; rintro e _ ⟨rfl, rfl⟩))
            go_ret2
            rw [HN.out]
            exact ⟨rfl, by (repeat (first | exact Below.refl _ _ | assumption | apply Below.drew | apply below_drewN | (refine Below.alloc ?_ (by first | omega | (simp; done) | (simp; omega)) _) | (refine Below.setCell ?_ (by first | omega | (simp; done) | (simp; omega)) _)))⟩
          · by_cases t3 : p.len = 0
            · have HPL : Hid (rangeP d (segP ps k b) = rangeP d (segP ps (k + 1) b)) := Lib.hid (by rw [HS.out, rangeP_plain hk (by simp [plainP, t1, t2, t3])])
              have t3' : (p.len != 0) = false := by simp [t3]
              clear t3 hk
              set_option maxRecDepth 10000 in go_wp2_with (first | (go_at_call 190; refine (spec_l14Kind _ _).mono ?_; rintro e _ ⟨rfl, rfl⟩) | (go_at_call 63; refine (spec_l00In _ _ _ _).mono ?_; rintro e _ ⟨rfl, rfl⟩))
              exact ⟨⟨k + 1, o, by omega, by omega, by omega, rfl, by go_num, by rw [HR.out, HPL.out], by (repeat (first | exact Below.refl _ _ | assumption | apply Below.drew | apply below_drewN | (refine Below.alloc ?_ (by first | omega | (simp; done) | (simp; omega)) _) | (refine Below.setCell ?_ (by first | omega | (simp; done) | (simp; omega)) _)))⟩, by simp [intOf]; omega⟩
            · have t3' : (p.len != 0) = true := by simpa using t3
              have HN : Hid (rangeP d (segP ps a b) = none) := Lib.hid (by rw [HR.out, HS.out, rangeP_bad hk (by simp [plainP, t3])]; rfl)
              clear hk t3
              set_option maxRecDepth 10000 in go_wp2_with (first | (go_at_call 190; refine (spec_l14Kind _ _).mono ?_; rintro e _ ⟨rfl, rfl⟩) | (go_at_call 63; refine (spec_l00In _ _ _ _).mono ?_; rintro e _ ⟨rfl, rfl⟩))
              go_ret2
              rw [HN.out]
              exact ⟨rfl, by (repeat (first | exact Below.refl _ _ | assumption | apply Below.drew | apply below_drewN | (refine Below.alloc ?_ (by first | omega | (simp; done) | (simp; omega)) _) | (refine Below.setCell ?_ (by first | omega | (simp; done) | (simp; omega)) _)))⟩
    · go_wp2_with (fail)
      go_ret2
      have : k = b := by omega
      subst this
      have e := HR.out
      rw [segP_nil, rangeP_nil] at e
      rw [e]
      exact ⟨rfl, hb⟩

end Go.Proofs.Ytnilglkiojigjaa

/- ValidPieces, the program's side. -/
namespace Go.Proofs.Ytnilglkiojigjaa
open Go.RowKit

theorem Pieces.seg {w : World} {ps : List PieceD} {b off : Nat} (h : Pieces w (some ⟨b, off, none⟩) ps) {i j : Nat} (hj : j ≤ ps.length) : Pieces w (some ⟨b, off + i * 3, none⟩) (segP ps i j) := by
  intro k hk
  rw [segP_length hj] at hk
  obtain ⟨b', off', p, hA, hp, c0, c1, c2⟩ := h (i + k) (by omega)
  injection hA with hA
  injection hA with hb ho
  subst hb ho
  refine ⟨b, off + i * 3, p, rfl, ?_, ?_, ?_, ?_⟩
  · unfold segP
    rw [List.getElem?_take_of_lt hk, List.getElem?_drop]
    exact hp
  · rw [show off + i * 3 + k * 3 = off + (i + k) * 3 by omega]; exact c0
  · rw [show off + i * 3 + k * 3 + 1 = off + (i + k) * 3 + 1 by omega]; exact c1
  · rw [show off + i * 3 + k * 3 + 2 = off + (i + k) * 3 + 2 by omega]; exact c2
theorem Blk.set1 {w : World} {g : Nat} {t : TypeId} {a : Value} (h : Blk w g t #[a]) (u : Value) : Blk (w.setCell ⟨g, 0, none⟩ u) g t #[u] := by
  unfold Blk at h ⊢
  simp [World.setCell, Array.getElem?_modify, h]

theorem spec_l16Ok (ps : List PieceD) (A : Option Addr) (c : Nat) (w : World) (h : Pieces w A ps) (_hl : ps.length ≤ 9223372036854775807) :
    Calls Try.prog 77 #[.slice A ps.length c] w fun e w' => e = .returned (.bool (piecesB ps)) ∧ Below w.heap.size w w' := by
  by_cases hn : ps.length ≤ 24
  · have HF : Hid (piecesB ps = okP (rangeP 0 ps)) := Lib.hid (by unfold piecesB; rw [decide_eq_true hn, Bool.true_and])
    have hI := spec_l16Range ps A c (by omega) ps.length 0 ps.length 0 w h (by omega) (by omega) (by omega) (by omega)
    rw [segP_all] at hI
    have HI := Lib.hid hI; clear hI
    cases hr : rangeP 0 ps with
    | none =>
      rw [hr] at HI HF
      go_enter Try.func77, Try.ntmps77
      go_wp2_with (fail)
      refine (HI.out).mono ?_; rintro e w2 ⟨rfl, b2⟩
      go_wp2_with (fail)
      go_ret
      exact ⟨ret_bool HF.out.symm, b2⟩
    | some o =>
      rw [hr] at HI HF
      have ho : openOf (some o) = (o : Int) := rfl
      rw [ho] at HI
      clear ho
      go_enter Try.func77, Try.ntmps77
      go_wp2_with (fail)
      refine (HI.out).mono ?_; rintro e w2 ⟨rfl, b2⟩
      go_wp2_with (fail)
      go_ret
      exact ⟨ret_bool (by rw [HF.out]; simp [okP]; omega), b2⟩
  · have HF : Hid (piecesB ps = false) := Lib.hid (by unfold piecesB; rw [decide_eq_false hn, Bool.false_and])
    go_enter Try.func77, Try.ntmps77
    go_wp2_with (fail)
    go_ret
    exact ⟨ret_bool HF.out.symm, Below.refl _ _⟩

theorem impl_arePieces_deep (n c g : Nat) (A : Option Addr) (w : World) (hn : 1 ≤ n) (hl : n ≤ 1000) :
    Calls Try.prog 137 #[.slice A n c, .int .i64 4, .pointer (some ⟨g, 0, none⟩)] w fun e w' => e = .returned (.bool false) ∧ w = w' := by
  go_enter Try.func137, Try.ntmps137
  go_wp2_with (fail)
  go_ret
  exact ⟨ret_bool (by simp; omega), rfl⟩
set_option maxHeartbeats 4000000 in
theorem impl_arePieces (g : Nat) (w0 : World) (hg0 : w0.heap.size ≤ g) (m : Nat) : ∀ (ps : List PieceD) (A : Option Addr) (c d v : Nat) (w : World), ps.length ≤ m → ps.length ≤ 24 → ps.length ≤ c → c ≤ 9223372036854775807 → Pieces w0 A ps → Below w0.heap.size w0 w → Blk w g 3 #[.int .i64 v] → v + ps.length ≤ 100 → d ≤ 3 →
    Calls Try.prog 137 #[.slice A ps.length c, .int .i64 d, .pointer (some ⟨g, 0, none⟩)] w fun e w' => e = .returned (.bool (rangeP d ps).isSome) ∧ Upd g (g + 1) w w' ∧ ∀ o, rangeP d ps = some o → Blk w' g 3 #[.int .i64 ((v + o : Nat) : Int)] := by
  induction m using Nat.strongRecOn with
  | ind m ih =>
  intro ps A c d v w hm h24 hc hcm h hb0 hbox hv hd
  have IH := Lib.hid ih; clear ih
  have hd4 : decide ((3 : Int) < (d : Int)) = false := decide_eq_false (by omega)
  have hgw := hbox.lt
  go_enter Try.func137, Try.ntmps137
  go_wp2_with (fail)
  go_loopw [7] (fun iv wr => ∃ (k o : Nat), k ≤ ps.length ∧ o ≤ k ∧ iv = .int .i64 k ∧ rangeP d ps = (rangeP d (segP ps k ps.length)).map (fun q => o + q) ∧ Upd g (g + 1) w wr ∧ Blk wr g 3 #[.int .i64 ((v + o : Nat) : Int)]) (fun iv _ => ps.length - (intOf iv).toNat)
  case atStart => exact ⟨0, 0, Nat.zero_le _, Nat.zero_le _, rfl, by rw [segP_all]; simp, Upd.refl _ _ _, hbox⟩
  case round =>
    obtain ⟨k, o, hk, hok, rfl, hr, hu, bx⟩ := hrel
    have hb : Below w0.heap.size w0 wr := hb0.trans ((hu.below (by omega)).mono hg0)
    have hz := hu.size
    have HR := Lib.hid hr; clear hr
    by_cases hlt : k < ps.length
    · obtain ⟨b1, off, p, rfl, hp, p0, p1, p2⟩ := (h.below hb) k hlt
      have HS : Hid (segP ps k ps.length = p :: segP ps (k + 1) ps.length) := Lib.hid (segP_cons hp hlt)
      have HP := Lib.hid hp; clear hp
      have j1 : (0 : Int) ≤ (k : Int) := by omega
      have j2 : (k : Int) < (ps.length : Int) := by omega
      have hgr := bx.lt
      by_cases hk : p.kind = 12
      · have hk' : (p.kind != 12) = false := by simp [hk]
        have HL : Hid ((segP ps (k + 1) ps.length).length = ps.length - (k + 1)) := Lib.hid (segP_length (Nat.le_refl _))
        have hcast : ((ps.length - (k + 1) : Nat) : Int) = (ps.length : Int) - (k : Int) - 1 := by omega
        have HG : Hid (groupP d p (segP ps (k + 1) ps.length).length = (inR p.times 0 16 && !(decide (p.times = 0) && decide (0 < d)) && inR p.len 1 ((ps.length : Int) - (k : Int) - 1))) := Lib.hid (by rw [HL.out, groupP, hcast])
        clear hcast
        cases ht : inR p.times 0 16
        · have HN : Hid (rangeP d ps = none) := Lib.hid (by rw [HR.out, HS.out, rangeP_group hk (by rw [HG.out, ht]; simp)]; rfl)
          clear hk
          set_option maxRecDepth 10000 in go_wp2_with (first | (go_at_call 191; refine (impl_isStitch _ _).mono ?_; rintro e _ ⟨rfl, rfl⟩) | (go_at_call 83; refine (impl_within _ _ _ _).mono ?_; rintro e _ ⟨rfl, rfl⟩))
          go_ret
          exact ⟨ret_bool (by rw [HN.out]; rfl), by (repeat (first | exact Upd.refl _ _ _ | assumption | (refine Upd.setCell ?_ (by first | omega | (simp; done) | (simp; omega)) (by first | omega | (simp; done) | (simp; omega)) _) | (refine Upd.trans ?_ (upd_alloc _ _ _ _)))), fun o' ho' => by rw [HN.out] at ho'; cases ho'⟩
        · cases hn : inR p.len 1 ((ps.length : Int) - (k : Int) - 1)
          · have HN : Hid (rangeP d ps = none) := Lib.hid (by rw [HR.out, HS.out, rangeP_group hk (by rw [HG.out, hn]; simp)]; rfl)
            clear hk
            set_option maxRecDepth 10000 in go_wp2_with (first | (go_at_call 191; refine (impl_isStitch _ _).mono ?_; rintro e _ ⟨rfl, rfl⟩) | (go_at_call 83; refine (impl_within _ _ _ _).mono ?_; rintro e _ ⟨rfl, rfl⟩))
            go_ret
            exact ⟨ret_bool (by rw [HN.out]; rfl), by (repeat (first | exact Upd.refl _ _ _ | assumption | (refine Upd.setCell ?_ (by first | omega | (simp; done) | (simp; omega)) (by first | omega | (simp; done) | (simp; omega)) _) | (refine Upd.trans ?_ (upd_alloc _ _ _ _)))), fun o' ho' => by rw [HN.out] at ho'; cases ho'⟩
          · have h1 : 1 ≤ p.len ∧ p.len ≤ (ps.length : Int) - (k : Int) - 1 := by simpa [inR] using hn
            obtain ⟨n, hnl⟩ : ∃ n : Nat, p.len = (n : Int) := ⟨p.len.toNat, by omega⟩
            have HNL := Lib.hid hnl
            rw [hnl] at p2 hn h1
            clear hnl
            have hlen : k + 1 + n ≤ ps.length := by omega
            have b1x := bx.alloc (.cells #[.int .i64 p.kind, .int .i64 p.times, .int .i64 (n : Int)] 107)
            have q0 := b1x.c1
            have fz := b1x.frozen 0
            have i1 : (k : Int) + 1 ≤ (k : Int) + 1 + (n : Int) := by omega
            have i2 : (k : Int) + 1 + (n : Int) ≤ (c : Int) := by omega
            by_cases h0 : p.times = 0
            · have h0' : (p.times == 0) = true := by simp [h0]
              by_cases hd0 : 0 < d
              · have hd0' : decide ((0 : Int) < (d : Int)) = true := decide_eq_true (by omega)
                have HN : Hid (rangeP d ps = none) := Lib.hid (by rw [HR.out, HS.out, rangeP_group hk (by rw [HG.out, h0]; simp [hd0])]; rfl)
                clear hk h0
                set_option maxRecDepth 10000 in go_wp2_with (first | (go_at_call 191; refine (impl_isStitch _ _).mono ?_; rintro e _ ⟨rfl, rfl⟩) | (go_at_call 83; refine (impl_within _ _ _ _).mono ?_; rintro e _ ⟨rfl, rfl⟩))
                go_ret
                exact ⟨ret_bool (by rw [HN.out]; rfl), by (repeat (first | exact Upd.refl _ _ _ | assumption | (refine Upd.setCell ?_ (by first | omega | (simp; done) | (simp; omega)) (by first | omega | (simp; done) | (simp; omega)) _) | (refine Upd.trans ?_ (upd_alloc _ _ _ _)))), fun o' ho' => by rw [HN.out] at ho'; cases ho'⟩
              · have hd0' : decide ((0 : Int) < (d : Int)) = false := decide_eq_false (by omega)
                have HGT : Hid (groupP d p (segP ps (k + 1) ps.length).length = true) := Lib.hid (by rw [HG.out, ht, HNL.out, hn]; simp; omega)
                have hd3 : d < 3 := by omega
                have hsl : (segP ps (k + 1) (k + 1 + n)).length = n := by rw [segP_length hlen]; omega
                have f3 : ((d + 1 : Nat) : Int) = (d : Int) + 1 := by omega
                have HIC : Hid (∀ (W : World) (v' : Nat), Below w0.heap.size w0 W → Blk W g 3 #[.int .i64 v'] → v' + n ≤ 100 → Calls Try.prog 137 #[.slice (some ⟨b1, off + (k + 1) * 3, none⟩) n (c - (k + 1)), .int .i64 ((d : Int) + 1), .pointer (some ⟨g, 0, none⟩)] W fun e w' => e = .returned (.bool (rangeP (d + 1) (segP ps (k + 1) (k + 1 + n))).isSome) ∧ Upd g (g + 1) W w' ∧ ∀ o, rangeP (d + 1) (segP ps (k + 1) (k + 1 + n)) = some o → Blk w' g 3 #[.int .i64 ((v' + o : Nat) : Int)]) := Lib.hid (fun W v' hW hB hv' => by
                  have := IH.out n (by omega) (segP ps (k + 1) (k + 1 + n)) (some ⟨b1, off + (k + 1) * 3, none⟩) (c - (k + 1)) (d + 1) v' W (by rw [hsl]; exact Nat.le_refl _) (by rw [hsl]; omega) (by rw [hsl]; omega) (by omega) (Pieces.seg h hlen) hW hB (by rw [hsl]; exact hv') (by omega)
                  rw [hsl, f3] at this
                  exact this)
                clear f3 hsl
                have HT : Hid ((segP ps (k + 1) ps.length).take p.len.toNat = segP ps (k + 1) (k + 1 + n)) := Lib.hid (by rw [HNL.out]; exact segP_take hlen)
                have HD : Hid ((segP ps (k + 1) ps.length).drop p.len.toNat = segP ps (k + 1 + n) ps.length) := Lib.hid (by rw [HNL.out]; exact segP_drop)
                have bs : Blk ((wr.setCell ⟨g, 0, none⟩ (.int .i64 ((v : Int) + (o : Int) + 1))).alloc (.cells #[.int .i64 p.kind, .int .i64 p.times, .int .i64 (n : Int)] 107)) g 3 #[.int .i64 ((v + o + 1 : Nat) : Int)] := by have := (bx.set1 (.int .i64 ((v : Int) + (o : Int) + 1))).alloc (.cells #[.int .i64 p.kind, .int .i64 p.times, .int .i64 (n : Int)] 107); simpa using this
                have bp : Blk ((wr.setCell ⟨g, 0, none⟩ (.int .i64 ((v : Int) + (o : Int) + 1))).alloc (.cells #[.int .i64 p.kind, .int .i64 p.times, .int .i64 (n : Int)] 107)) wr.heap.size 107 #[.int .i64 p.kind, .int .i64 p.times, .int .i64 (n : Int)] := by have := Blk.new (wr.setCell ⟨g, 0, none⟩ (.int .i64 ((v : Int) + (o : Int) + 1))) 107 #[.int .i64 p.kind, .int .i64 p.times, .int .i64 (n : Int)]; simpa using this
                have HBS := Lib.hid bs; clear bs
                have HBP := Lib.hid bp; clear bp
                cases hin : (rangeP (d + 1) (segP ps (k + 1) (k + 1 + n))).isSome
                · have HN : Hid (rangeP d ps = none) := Lib.hid (by rw [HR.out, HS.out, rangeP_inner hk (by rw [HT.out]; simpa using hin)]; rfl)
                  clear hk h0
                  set_option maxRecDepth 10000 in go_wp2_with (first | (go_at_call 191; refine (impl_isStitch _ _).mono ?_; rintro e _ ⟨rfl, rfl⟩) | (go_at_call 83; refine (impl_within _ _ _ _).mono ?_; rintro e _ ⟨rfl, rfl⟩))
                  refine (HIC.out _ (v + o + 1) (by (repeat (first | exact Below.refl _ _ | assumption | apply Below.drew | apply below_drewN | (refine Below.alloc ?_ (by first | omega | (simp; done) | (simp; omega)) _) | (refine Below.setCell ?_ (by first | omega | (simp; done) | (simp; omega)) _)))) HBS.out (by omega)).mono ?_; rintro e w2 ⟨rfl, u2, hbx2⟩
                  have HX2 := Lib.hid hbx2; clear hbx2
                  obtain ⟨s0, s1, s2⟩ := (Blk.upd HBP.out u2 (Or.inr (by omega))).c3
                  have hu2 : Upd g (g + 1) w w2 := Upd.trans (by (repeat (first | exact Upd.refl _ _ _ | assumption | (refine Upd.setCell ?_ (by first | omega | (simp; done) | (simp; omega)) (by first | omega | (simp; done) | (simp; omega)) _) | (refine Upd.trans ?_ (upd_alloc _ _ _ _))))) u2
                  set_option maxRecDepth 10000 in go_wp2_with (first | (go_at_call 191; refine (impl_isStitch _ _).mono ?_; rintro e _ ⟨rfl, rfl⟩) | (go_at_call 83; refine (impl_within _ _ _ _).mono ?_; rintro e _ ⟨rfl, rfl⟩))
                  go_ret
                  exact ⟨ret_bool (by rw [HN.out]; rfl), hu2, fun o' ho' => by rw [HN.out] at ho'; cases ho'⟩
                · have HQ : Hid (rangeP d ps = (rangeP d (segP ps (k + 1 + n) ps.length)).map (fun q => (o + 1) + q)) := Lib.hid (by rw [HR.out, HS.out, rangeP_open hk hd3 HGT.out (by rw [HT.out]; exact hin), HD.out, Option.map_map]; congr 1; funext q; simp [h0]; omega)
                  have HZ : Hid (rangeP (d + 1) (segP ps (k + 1) (k + 1 + n)) = some 0) := Lib.hid (by obtain ⟨q, hq⟩ := Option.isSome_iff_exists.1 hin; rw [hq, rangeP_zero _ (d + 1) (by omega) _ (Nat.le_refl _) q hq])
                  clear hk h0
                  set_option maxRecDepth 10000 in go_wp2_with (first | (go_at_call 191; refine (impl_isStitch _ _).mono ?_; rintro e _ ⟨rfl, rfl⟩) | (go_at_call 83; refine (impl_within _ _ _ _).mono ?_; rintro e _ ⟨rfl, rfl⟩))
                  refine (HIC.out _ (v + o + 1) (by (repeat (first | exact Below.refl _ _ | assumption | apply Below.drew | apply below_drewN | (refine Below.alloc ?_ (by first | omega | (simp; done) | (simp; omega)) _) | (refine Below.setCell ?_ (by first | omega | (simp; done) | (simp; omega)) _)))) HBS.out (by omega)).mono ?_; rintro e w2 ⟨rfl, u2, hbx2⟩
                  have HX2 := Lib.hid hbx2; clear hbx2
                  obtain ⟨s0, s1, s2⟩ := (Blk.upd HBP.out u2 (Or.inr (by omega))).c3
                  have hu2 : Upd g (g + 1) w w2 := Upd.trans (by (repeat (first | exact Upd.refl _ _ _ | assumption | (refine Upd.setCell ?_ (by first | omega | (simp; done) | (simp; omega)) (by first | omega | (simp; done) | (simp; omega)) _) | (refine Upd.trans ?_ (upd_alloc _ _ _ _))))) u2
                  set_option maxRecDepth 10000 in go_wp2_with (first | (go_at_call 191; refine (impl_isStitch _ _).mono ?_; rintro e _ ⟨rfl, rfl⟩) | (go_at_call 83; refine (impl_within _ _ _ _).mono ?_; rintro e _ ⟨rfl, rfl⟩))
                  refine ⟨⟨k + 1 + n, o + 1, by omega, by omega, by go_num, HQ.out, hu2, ?_⟩, by simp [intOf]; omega⟩
                  have := HX2.out 0 HZ.out
                  simpa [Nat.add_assoc] using this
            · have h0' : (p.times == 0) = false := by simpa using h0
              by_cases hd3 : d < 3
              · have HGT : Hid (groupP d p (segP ps (k + 1) ps.length).length = true) := Lib.hid (by rw [HG.out, ht, HNL.out, hn]; simp [h0])
                have hsl : (segP ps (k + 1) (k + 1 + n)).length = n := by rw [segP_length hlen]; omega
                have f3 : ((d + 1 : Nat) : Int) = (d : Int) + 1 := by omega
                have HIC : Hid (∀ (W : World) (v' : Nat), Below w0.heap.size w0 W → Blk W g 3 #[.int .i64 v'] → v' + n ≤ 100 → Calls Try.prog 137 #[.slice (some ⟨b1, off + (k + 1) * 3, none⟩) n (c - (k + 1)), .int .i64 ((d : Int) + 1), .pointer (some ⟨g, 0, none⟩)] W fun e w' => e = .returned (.bool (rangeP (d + 1) (segP ps (k + 1) (k + 1 + n))).isSome) ∧ Upd g (g + 1) W w' ∧ ∀ o, rangeP (d + 1) (segP ps (k + 1) (k + 1 + n)) = some o → Blk w' g 3 #[.int .i64 ((v' + o : Nat) : Int)]) := Lib.hid (fun W v' hW hB hv' => by
                  have := IH.out n (by omega) (segP ps (k + 1) (k + 1 + n)) (some ⟨b1, off + (k + 1) * 3, none⟩) (c - (k + 1)) (d + 1) v' W (by rw [hsl]; exact Nat.le_refl _) (by rw [hsl]; omega) (by rw [hsl]; omega) (by omega) (Pieces.seg h hlen) hW hB (by rw [hsl]; exact hv') (by omega)
                  rw [hsl, f3] at this
                  exact this)
                clear f3 hsl
                have HT : Hid ((segP ps (k + 1) ps.length).take p.len.toNat = segP ps (k + 1) (k + 1 + n)) := Lib.hid (by rw [HNL.out]; exact segP_take hlen)
                have HD : Hid ((segP ps (k + 1) ps.length).drop p.len.toNat = segP ps (k + 1 + n) ps.length) := Lib.hid (by rw [HNL.out]; exact segP_drop)
                have bs := b1x
                have bp := Blk.new wr 107 #[.int .i64 p.kind, .int .i64 p.times, .int .i64 (n : Int)]
                have HBS := Lib.hid bs; clear bs
                have HBP := Lib.hid bp; clear bp
                cases hin : (rangeP (d + 1) (segP ps (k + 1) (k + 1 + n))).isSome
                · have HN : Hid (rangeP d ps = none) := Lib.hid (by rw [HR.out, HS.out, rangeP_inner hk (by rw [HT.out]; simpa using hin)]; rfl)
                  clear hk h0
                  set_option maxRecDepth 10000 in go_wp2_with (first | (go_at_call 191; refine (impl_isStitch _ _).mono ?_; rintro e _ ⟨rfl, rfl⟩) | (go_at_call 83; refine (impl_within _ _ _ _).mono ?_; rintro e _ ⟨rfl, rfl⟩))
                  refine (HIC.out _ (v + o) (by (repeat (first | exact Below.refl _ _ | assumption | apply Below.drew | apply below_drewN | (refine Below.alloc ?_ (by first | omega | (simp; done) | (simp; omega)) _) | (refine Below.setCell ?_ (by first | omega | (simp; done) | (simp; omega)) _)))) HBS.out (by omega)).mono ?_; rintro e w2 ⟨rfl, u2, hbx2⟩
                  have HX2 := Lib.hid hbx2; clear hbx2
                  obtain ⟨s0, s1, s2⟩ := (Blk.upd HBP.out u2 (Or.inr (by omega))).c3
                  have hu2 : Upd g (g + 1) w w2 := Upd.trans (by (repeat (first | exact Upd.refl _ _ _ | assumption | (refine Upd.setCell ?_ (by first | omega | (simp; done) | (simp; omega)) (by first | omega | (simp; done) | (simp; omega)) _) | (refine Upd.trans ?_ (upd_alloc _ _ _ _))))) u2
                  set_option maxRecDepth 10000 in go_wp2_with (first | (go_at_call 191; refine (impl_isStitch _ _).mono ?_; rintro e _ ⟨rfl, rfl⟩) | (go_at_call 83; refine (impl_within _ _ _ _).mono ?_; rintro e _ ⟨rfl, rfl⟩))
                  go_ret
                  exact ⟨ret_bool (by rw [HN.out]; rfl), hu2, fun o' ho' => by rw [HN.out] at ho'; cases ho'⟩
                · have HQ : Hid (rangeP d ps = (rangeP d (segP ps (k + 1 + n) ps.length)).map (fun q => (o) + q)) := Lib.hid (by rw [HR.out, HS.out, rangeP_open hk hd3 HGT.out (by rw [HT.out]; exact hin), HD.out, Option.map_map]; congr 1; funext q; simp [h0])
                  have HZ : Hid (rangeP (d + 1) (segP ps (k + 1) (k + 1 + n)) = some 0) := Lib.hid (by obtain ⟨q, hq⟩ := Option.isSome_iff_exists.1 hin; rw [hq, rangeP_zero _ (d + 1) (by omega) _ (Nat.le_refl _) q hq])
                  clear hk h0
                  set_option maxRecDepth 10000 in go_wp2_with (first | (go_at_call 191; refine (impl_isStitch _ _).mono ?_; rintro e _ ⟨rfl, rfl⟩) | (go_at_call 83; refine (impl_within _ _ _ _).mono ?_; rintro e _ ⟨rfl, rfl⟩))
                  refine (HIC.out _ (v + o) (by (repeat (first | exact Below.refl _ _ | assumption | apply Below.drew | apply below_drewN | (refine Below.alloc ?_ (by first | omega | (simp; done) | (simp; omega)) _) | (refine Below.setCell ?_ (by first | omega | (simp; done) | (simp; omega)) _)))) HBS.out (by omega)).mono ?_; rintro e w2 ⟨rfl, u2, hbx2⟩
                  have HX2 := Lib.hid hbx2; clear hbx2
                  obtain ⟨s0, s1, s2⟩ := (Blk.upd HBP.out u2 (Or.inr (by omega))).c3
                  have hu2 : Upd g (g + 1) w w2 := Upd.trans (by (repeat (first | exact Upd.refl _ _ _ | assumption | (refine Upd.setCell ?_ (by first | omega | (simp; done) | (simp; omega)) (by first | omega | (simp; done) | (simp; omega)) _) | (refine Upd.trans ?_ (upd_alloc _ _ _ _))))) u2
                  set_option maxRecDepth 10000 in go_wp2_with (first | (go_at_call 191; refine (impl_isStitch _ _).mono ?_; rintro e _ ⟨rfl, rfl⟩) | (go_at_call 83; refine (impl_within _ _ _ _).mono ?_; rintro e _ ⟨rfl, rfl⟩))
                  refine ⟨⟨k + 1 + n, o, by omega, by omega, by go_num, HQ.out, hu2, ?_⟩, by simp [intOf]; omega⟩
                  have := HX2.out 0 HZ.out
                  exact this
              · have HN : Hid (rangeP d ps = none) := Lib.hid (by rw [HR.out, HS.out, rangeP_group hk (by omega)]; rfl)
                clear hk h0
                have hd33 : d = 3 := by omega
                subst hd33
                set_option maxRecDepth 10000 in go_wp2_with (first | (go_at_call 191; refine (impl_isStitch _ _).mono ?_; rintro e _ ⟨rfl, rfl⟩) | (go_at_call 83; refine (impl_within _ _ _ _).mono ?_; rintro e _ ⟨rfl, rfl⟩))
                refine (impl_arePieces_deep n _ _ _ _ (by omega) (by omega)).mono ?_; rintro e _ ⟨rfl, rfl⟩
                set_option maxRecDepth 10000 in go_wp2_with (first | (go_at_call 191; refine (impl_isStitch _ _).mono ?_; rintro e _ ⟨rfl, rfl⟩) | (go_at_call 83; refine (impl_within _ _ _ _).mono ?_; rintro e _ ⟨rfl, rfl⟩))
                go_ret
                exact ⟨ret_bool (by rw [HN.out]; rfl), by (repeat (first | exact Upd.refl _ _ _ | assumption | (refine Upd.setCell ?_ (by first | omega | (simp; done) | (simp; omega)) (by first | omega | (simp; done) | (simp; omega)) _) | (refine Upd.trans ?_ (upd_alloc _ _ _ _)))), fun o' ho' => by rw [HN.out] at ho'; cases ho'⟩
      · have hk' : (p.kind != 12) = true := by simpa using hk
        cases t1 : isStitchB p.kind
        · have HN : Hid (rangeP d ps = none) := Lib.hid (by rw [HR.out, HS.out, rangeP_bad hk (by simp [plainP, t1])]; rfl)
          clear hk
          set_option maxRecDepth 10000 in go_wp2_with (first | (go_at_call 191; refine (impl_isStitch _ _).mono ?_; rintro e _ ⟨rfl, rfl⟩) | (go_at_call 83; refine (impl_within _ _ _ _).mono ?_; rintro e _ ⟨rfl, rfl⟩))
          go_ret
          exact ⟨ret_bool (by rw [HN.out]; rfl), by (repeat (first | exact Upd.refl _ _ _ | assumption | (refine Upd.setCell ?_ (by first | omega | (simp; done) | (simp; omega)) (by first | omega | (simp; done) | (simp; omega)) _) | (refine Upd.trans ?_ (upd_alloc _ _ _ _)))), fun o' ho' => by rw [HN.out] at ho'; cases ho'⟩
        · by_cases t3 : p.len = 0
          · have t3' : (p.len != 0) = false := by simp [t3]
            cases t2 : inR p.times 1 16
            · have HN : Hid (rangeP d ps = none) := Lib.hid (by rw [HR.out, HS.out, rangeP_bad hk (by simp [plainP, t2])]; rfl)
              clear hk t3
              set_option maxRecDepth 10000 in go_wp2_with (first | (go_at_call 191; refine (impl_isStitch _ _).mono ?_; rintro e _ ⟨rfl, rfl⟩) | (go_at_call 83; refine (impl_within _ _ _ _).mono ?_; rintro e _ ⟨rfl, rfl⟩))
              go_ret
              exact ⟨ret_bool (by rw [HN.out]; rfl), by (repeat (first | exact Upd.refl _ _ _ | assumption | (refine Upd.setCell ?_ (by first | omega | (simp; done) | (simp; omega)) (by first | omega | (simp; done) | (simp; omega)) _) | (refine Upd.trans ?_ (upd_alloc _ _ _ _)))), fun o' ho' => by rw [HN.out] at ho'; cases ho'⟩
            · have HPL : Hid (rangeP d (segP ps k ps.length) = rangeP d (segP ps (k + 1) ps.length)) := Lib.hid (by rw [HS.out, rangeP_plain hk (by simp [plainP, t1, t2, t3])])
              clear t3 hk
              set_option maxRecDepth 10000 in go_wp2_with (first | (go_at_call 191; refine (impl_isStitch _ _).mono ?_; rintro e _ ⟨rfl, rfl⟩) | (go_at_call 83; refine (impl_within _ _ _ _).mono ?_; rintro e _ ⟨rfl, rfl⟩))
              exact ⟨⟨k + 1, o, by omega, by omega, by go_num, by rw [HR.out, HPL.out], by (repeat (first | exact Upd.refl _ _ _ | assumption | (refine Upd.setCell ?_ (by first | omega | (simp; done) | (simp; omega)) (by first | omega | (simp; done) | (simp; omega)) _) | (refine Upd.trans ?_ (upd_alloc _ _ _ _)))), bx.alloc _⟩, by simp [intOf]; omega⟩
          · have t3' : (p.len != 0) = true := by simpa using t3
            have HN : Hid (rangeP d ps = none) := Lib.hid (by rw [HR.out, HS.out, rangeP_bad hk (by simp [plainP, t3])]; rfl)
            clear hk t3
            set_option maxRecDepth 10000 in go_wp2_with (first | (go_at_call 191; refine (impl_isStitch _ _).mono ?_; rintro e _ ⟨rfl, rfl⟩) | (go_at_call 83; refine (impl_within _ _ _ _).mono ?_; rintro e _ ⟨rfl, rfl⟩))
            go_ret
            exact ⟨ret_bool (by rw [HN.out]; rfl), by (repeat (first | exact Upd.refl _ _ _ | assumption | (refine Upd.setCell ?_ (by first | omega | (simp; done) | (simp; omega)) (by first | omega | (simp; done) | (simp; omega)) _) | (refine Upd.trans ?_ (upd_alloc _ _ _ _)))), fun o' ho' => by rw [HN.out] at ho'; cases ho'⟩
    · go_wp2_with (fail)
      go_ret
      have : k = ps.length := by omega
      subst this
      have e := HR.out
      rw [segP_nil, rangeP_nil] at e
      refine ⟨ret_bool (by rw [e]; rfl), hu, fun o' ho' => ?_⟩
      rw [e] at ho'
      simp at ho'
      subst ho'
      exact bx

end Go.Proofs.Ytnilglkiojigjaa

/- ValidPieces, the program's function. -/
namespace Go.Proofs.Ytnilglkiojigjaa
open Go.RowKit

theorem OwnC.capmax {w : World} {lo hi : Nat} {e : TypeId} {sz : Nat} {A : Option Addr} {n c : Nat} {cs : List Value} (h : OwnC w lo hi e sz A n c cs) : c ≤ 9223372036854775807 := by
  rcases h.form with ⟨_, _, h1, _⟩ | ⟨_, _, _, _, _, _, _, h1, _⟩
  · omega
  · unfold maxLen at h1; omega

theorem impl_ValidPieces (ps : List PieceD) (A : Option Addr) (c : Nat) (w : World) (h : Pieces w A ps) (_hl : ps.length ≤ 9223372036854775807) (hc : ps.length ≤ c) (hcm : c ≤ 9223372036854775807) :
    Calls Try.prog 82 #[.slice A ps.length c] w fun e w' => e = .returned (.bool (piecesB ps)) ∧ Below w.heap.size w w' := by
  by_cases hn : ps.length ≤ 24
  · have HF : Hid (piecesB ps = okP (rangeP 0 ps)) := Lib.hid (by unfold piecesB; rw [decide_eq_true hn, Bool.true_and])
    have hb1 : Below w.heap.size w (w.alloc (.cells #[.int .i64 0] 3)) := by (repeat (first | exact Below.refl _ _ | assumption | apply Below.drew | apply below_drewN | (refine Below.alloc ?_ (by first | omega | (simp; done) | (simp; omega)) _) | (refine Below.setCell ?_ (by first | omega | (simp; done) | (simp; omega)) _)))
    have hI := impl_arePieces w.heap.size w (Nat.le_refl _) ps.length ps A c 0 0 _ (Nat.le_refl _) hn hc hcm h hb1 (Blk.new w 3 #[.int .i64 0]) (by omega) (by omega)
    rw [show ((0 : Nat) : Int) = 0 from rfl] at hI
    have HI := Lib.hid hI; clear hI
    cases hr : rangeP 0 ps with
    | none =>
      rw [hr] at HI HF
      go_enter Try.func82, Try.ntmps82
      go_wp2_with (fail)
      refine (HI.out).mono ?_; rintro e w2 ⟨rfl, u2, _⟩
      have b2 : Below w.heap.size w w2 := hb1.trans (u2.below (by simp))
      go_wp2_with (fail)
      go_ret
      exact ⟨ret_bool HF.out.symm, b2⟩
    | some o =>
      rw [hr] at HI HF
      go_enter Try.func82, Try.ntmps82
      go_wp2_with (fail)
      refine (HI.out).mono ?_; rintro e w2 ⟨rfl, u2, hx⟩
      have b2 : Below w.heap.size w w2 := hb1.trans (u2.below (by simp))
      have s0 := (hx o rfl).c1
      rw [Nat.zero_add] at s0
      clear hx
      go_wp2_with (fail)
      go_ret
      exact ⟨ret_bool (by rw [HF.out]; simp [okP]; omega), b2⟩
  · have HF : Hid (piecesB ps = false) := Lib.hid (by unfold piecesB; rw [decide_eq_false hn, Bool.false_and])
    go_enter Try.func82, Try.ntmps82
    go_wp2_with (fail)
    go_ret
    exact ⟨ret_bool HF.out.symm, by (repeat (first | exact Below.refl _ _ | assumption | apply Below.drew | apply below_drewN | (refine Below.alloc ?_ (by first | omega | (simp; done) | (simp; omega)) _) | (refine Below.setCell ?_ (by first | omega | (simp; done) | (simp; omega)) _)))⟩

end Go.Proofs.Ytnilglkiojigjaa
