/- Steps of the proof, joined from several texts: JA DD CG. -/
import Derived.Test.YtnjgmhdmjaijgaaGreatDoorZ10
import Derived.Test.YtnjgmhdmjaijgaaGreatDoorZ11
import Derived.Lib.SplitLaws
import Derived.Lib.ParseIntB
import Derived.Lib.ItoaNum
import Derived.Lib.Strings
import Derived.Test.YtnjgmhdmjaijgaaGreatDoorZ9
import Derived.Test.YtnjgmhdmjaijgaaGreatDoorZ3

/- Texts of charts, plain: their lines, the words of a line, and what both sides read. -/
namespace Go.Proofs.YtnjgmhdmjaijgaaGreatDoor
open Go Go.RowKit

theorem lnAt_sizes (s : ByteArray) (i : Nat) : ∀ l ∈ (lnAt s i).1, l.size ≤ s.size := by
  induction i with
  | zero => intro l hl; cases hl
  | succ i ih =>
    rw [lnAt]
    split
    · intro l hl
      rcases List.mem_append.1 hl with hl | hl
      · exact ih l hl
      · rw [List.mem_singleton.1 hl, ByteArray.size_extract]; omega
    · exact ih
/-- Pieces of a list between the places of a byte. -/
def cutL (c : UInt8) : List UInt8 → List (List UInt8)
  | [] => [[]]
  | b :: r => if b = c then [] :: cutL c r else match cutL c r with
    | [] => [[b]]
    | x :: xs => (b :: x) :: xs
theorem cutL_ne (c : UInt8) : ∀ t, cutL c t ≠ []
  | [] => by simp [cutL]
  | b :: r => by
    rw [cutL]
    split
    · simp
    · split <;> simp
theorem cutL_none {c : UInt8} : ∀ (l : List UInt8), c ∉ l → cutL c l = [l]
  | [], _ => rfl
  | b :: r, h => by
    rw [cutL, if_neg (fun e => h (by simp [e])), cutL_none r (fun e => h (by simp [e]))]
theorem cutL_app {c : UInt8} : ∀ (l r : List UInt8), c ∉ l → cutL c (l ++ c :: r) = l :: cutL c r
  | [], r, _ => by rw [List.nil_append, cutL, if_pos rfl]
  | b :: l, r, h => by
    rw [List.cons_append, cutL, if_neg (fun e => h (by simp [e])), cutL_app l r (fun e => h (by simp [e]))]
theorem split_cutL (c : UInt8) : ∀ t : List UInt8, Lib.splitK [c] 0 (Lib.count t [c]) t = cutL c t
  | [] => by rw [Lib.count_one]; rfl
  | b :: r => by
    have ih := split_cutL c r
    by_cases h : b = c
    · subst h
      rw [Lib.count_cons_eq, Nat.add_comm, Lib.splitK]
      have hix : Lib.index (b :: r) [b] = 0 := by rw [Lib.index]; simp [List.isPrefixOf]
      rw [hix, cutL, if_pos rfl, ← ih]
      simp
    · rw [Lib.count_cons_ne b c r h]
      have hp : ([c] : List UInt8).isPrefixOf (b :: r) = false := by simp [List.isPrefixOf, Ne.symm h]
      have hix : Lib.index (b :: r) [c] = if Lib.index r [c] == -1 then -1 else Lib.index r [c] + 1 := by rw [Lib.index, hp]; simp
      rw [cutL, if_neg h, ← ih]
      cases hc : Lib.count r [c] with
      | zero => rfl
      | succ k =>
        rw [Lib.splitK, Lib.splitK, hix]
        by_cases hm : Lib.index r [c] = -1
        · rw [hm]; rfl
        · have hge := Lib.index_ge r [c]
          obtain ⟨j, hj⟩ : ∃ j : Nat, Lib.index r [c] = j := ⟨(Lib.index r [c]).toNat, by omega⟩
          have e1 : (Lib.index r [c] == -1) = false := by simpa using hm
          have e2 : (((j : Int) + 1) == -1) = false := by rw [beq_eq_false_iff_ne]; omega
          have e3 : ((j : Int) == -1) = false := by rw [beq_eq_false_iff_ne]; omega
          have e4 : ((j : Int) + 1).toNat = j + 1 := by omega
          rw [e1, hj]
          simp [e2, e4]
theorem lnL_cut : ∀ t, lnL t = cutL 10 t
  | [] => rfl
  | b :: r => by
    rw [lnL, cutL, lnL_cut r]
    split
    · rfl
    · cases cutL 10 r <;> rfl
theorem bas_ext : ∀ {xs ys : List ByteArray}, xs.map (·.data.toList) = ys.map (·.data.toList) → xs = ys
  | [], [], _ => rfl
  | [], _ :: _, h => by simp at h
  | _ :: _, [], h => by simp at h
  | x :: xs, y :: ys, h => by
    rw [List.map_cons, List.map_cons] at h
    injection h with h1 h2
    rw [ByteArray.ext (Array.toList_inj.1 h1), bas_ext h2]

/-- The bytes of a chart's first line and of a row's line. -/
def preL : List UInt8 := [99, 104, 97, 114, 116, 32]
def headL (n : Int) : List UInt8 := preL ++ decL n.toNat
def symL (ks : List Int) : List UInt8 := ks.map fun k => symB k.toNat
def dirL (d : Int) : UInt8 := if d = 1 then 62 else 60
def rwL (r : RowD) : List UInt8 := [dirL r.d] ++ 32 :: (decL r.r.toNat ++ 32 :: symL r.s)
theorem decL_one {k : Nat} (h1 : 1 ≤ k) (h9 : k ≤ 9) : ∃ b : UInt8, decL k = [b] ∧ digS b = k ∧ b ≠ 32 ∧ b ≠ 10 := by
  have : k = 1 ∨ k = 2 ∨ k = 3 ∨ k = 4 ∨ k = 5 ∨ k = 6 ∨ k = 7 ∨ k = 8 ∨ k = 9 := by omega
  rcases this with rfl | rfl | rfl | rfl | rfl | rfl | rfl | rfl | rfl <;> exact ⟨_, rfl, by decide, by decide, by decide⟩
theorem symL_free {ks : List Int} (h : ∀ k ∈ ks, isStitchB k = true) (c : UInt8) (hc : c = 32 ∨ c = 10) : c ∉ symL ks := by
  intro hm
  obtain ⟨k, hk, e⟩ := List.mem_map.1 hm
  have := stitch_cases (h k hk)
  rcases this with rfl | rfl | rfl | rfl | rfl | rfl | rfl | rfl | rfl | rfl | rfl <;> rcases hc with rfl | rfl <;> exact absurd e (by decide)
theorem symT_list (ks : List Int) : (symT ks).data.toList = symL ks := by simp [symT, symL]
theorem lineT_list (r : RowD) : (lineT r).data.toList = rwL r ++ [10] := by
  have e : (dirT r.d).data.toList = [dirL r.d] := by unfold dirT dirL; split <;> rfl
  unfold lineT rwL
  simp only [ByteArray.data_append, Array.toList_append, e, symT_list, decT, spT, nlT']
  simp
theorem chTo_list (n : Int) (rs : List RowD) : (chTo n rs).data.toList = headL n ++ 10 :: rs.flatMap (fun r => rwL r ++ [10]) := by
  have key : ∀ (ys : List RowD) (t : ByteArray), (ys.foldl (fun t r => t ++ lineT r) t).data.toList = t.data.toList ++ ys.flatMap (fun r => rwL r ++ [10]) := by
    intro ys
    induction ys with
    | nil => intro t; simp
    | cons y ys ih =>
      intro t
      rw [List.foldl_cons, ih, ByteArray.data_append, Array.toList_append, lineT_list, List.flatMap_cons, List.append_assoc]
  unfold chTo
  rw [key]
  have : (headT n).data.toList = headL n ++ [10] := by
    unfold headT headL preL
    simp only [ByteArray.data_append, Array.toList_append, decT, nlT']
  rw [this]
  simp
section
variable {n : Int} {rs : List RowD} (h : chartB n rs = true)
theorem headL_free (h1 : 1 ≤ n) (h8 : n ≤ 8) : (10 : UInt8) ∉ headL n := by
  obtain ⟨b, e, _, _, hb⟩ := decL_one (k := n.toNat) (by omega) (by omega)
  unfold headL
  rw [e]
  intro hm
  simp only [preL, List.mem_append, List.mem_cons, List.not_mem_nil, or_false] at hm
  rcases hm with (hm | hm | hm | hm | hm | hm) | hm
  all_goals first | exact absurd hm (by decide) | exact absurd hm.symm hb
theorem row_ok {r : RowD} (hr : rowB r.d r.r r.s = true) : (r.d = 1 ∨ r.d = -1) ∧ (1 ≤ r.r ∧ r.r ≤ 4) ∧ stitchesB r.s = true ∧ r.s.length ≤ 16 ∧ ∃ b : UInt8, decL r.r.toNat = [b] ∧ digS b = r.r ∧ b ≠ 32 ∧ b ≠ 10 := by
  obtain ⟨a, b, c, d⟩ := rowB_of hr
  obtain ⟨x, e1, e2, e3, e4⟩ := decL_one (k := r.r.toNat) (by omega) (by omega)
  exact ⟨a, b, c, d, x, e1, by rw [e2]; omega, e3, e4⟩
theorem rwL_free {r : RowD} (hr : rowB r.d r.r r.s = true) : (10 : UInt8) ∉ rwL r := by
  obtain ⟨_, _, c, _, b, e, _, _, e4⟩ := row_ok hr
  have hs := symL_free (stitchesB_of c).2 10 (.inr rfl)
  unfold rwL
  rw [e]
  intro hm
  simp only [List.mem_cons, List.cons_append, List.nil_append] at hm
  rcases hm with hm | hm | hm | hm | hm
  · unfold dirL at hm
    split at hm <;> exact absurd hm (by decide)
  · exact absurd hm (by decide)
  · exact absurd hm.symm e4
  · exact absurd hm (by decide)
  · exact hs hm
include h
/-- The lines of a valid chart's text. -/
theorem chart_lines : (linesP (chTo n rs)).map (·.data.toList) = headL n :: rs.map rwL ∧ linesOk (chTo n rs) = true ∧ (chTo n rs).size ≤ 208 := by
  obtain ⟨⟨h1, h8⟩, ⟨hr1, hr8⟩, hrows⟩ := chartB_of h
  have hcut : cutL 10 (chTo n rs).data.toList = (headL n :: rs.map rwL) ++ [[]] := by
    rw [chTo_list, cutL_app _ _ (headL_free h1 h8), List.cons_append]
    congr 1
    have key : ∀ ys : List RowD, (∀ r ∈ ys, rowB r.d r.r r.s = true) → cutL 10 (ys.flatMap (fun r => rwL r ++ [10])) = ys.map rwL ++ [[]] := by
      intro ys
      induction ys with
      | nil => intro _; rfl
      | cons y ys ih =>
        intro hy
        rw [List.flatMap_cons, List.append_assoc, List.singleton_append, cutL_app _ _ (rwL_free (hy y (by simp))), ih (fun r hr => hy r (by simp [hr])), List.map_cons, List.cons_append]
    exact key rs hrows
  have hl := lnL_lines (chTo n rs)
  rw [lnL_cut, hcut] at hl
  obtain ⟨e1, e2⟩ := List.append_inj' hl (by simp)
  injection e2 with e2
  refine ⟨e1.symm, by rw [lines_last, ← e2]; simp, ?_⟩
  have := chTo_size (n := n) (rs := rs) (fun r hr => (row_ok (hrows r hr)).2.2.2.1)
  omega
end

/-- All rows of a list of lines, if each has one. -/
def optAll (f : ByteArray → Option RowD) : List ByteArray → Option (List RowD)
  | [] => some []
  | l :: ls => match f l with
    | none => none
    | some r => (optAll f ls).map (r :: ·)
theorem optAll_snoc {f : ByteArray → Option RowD} {r : RowD} : ∀ {ls : List ByteArray} {l : ByteArray} {done : List RowD}, optAll f ls = some done → f l = some r → optAll f (ls ++ [l]) = some (done ++ [r])
  | [], l, done, h, hr => by
    rw [optAll] at h
    injection h with h
    subst h
    rw [List.nil_append, optAll, hr, optAll]; rfl
  | x :: ls, l, done, h, hr => by
    rw [optAll] at h
    rw [List.cons_append, optAll]
    cases hx : f x with
    | none => rw [hx] at h; simp at h
    | some q =>
      rw [hx] at h
      simp only [Option.map_eq_some_iff] at h
      obtain ⟨d', h', rfl⟩ := h
      simp only [optAll_snoc h' hr]
      rfl
theorem optAll_none {f : ByteArray → Option RowD} : ∀ {ls : List ByteArray} {l : ByteArray}, l ∈ ls → f l = none → optAll f ls = none
  | x :: ls, l, hm, hl => by
    rw [optAll]
    rcases List.mem_cons.1 hm with rfl | hm
    · rw [hl]
    · cases hx : f x with
      | none => rfl
      | some q => simp only [optAll_none hm hl]; rfl
theorem optAll_map {f : ByteArray → Option RowD} : ∀ {ls : List ByteArray} {rs : List RowD}, ls.map (·.data.toList) = rs.map rwL → (∀ r ∈ rs, ∀ l : ByteArray, l.data.toList = rwL r → f l = some r) → optAll f ls = some rs
  | [], [], _, _ => rfl
  | [], _ :: _, h, _ => by simp at h
  | _ :: _, [], h, _ => by simp at h
  | l :: ls, r :: rs, h, hf => by
    rw [List.map_cons, List.map_cons] at h
    injection h with h1 h2
    rw [optAll, hf r (by simp) l h1]
    simp only [optAll_map h2 (fun r' hr' => hf r' (by simp [hr']))]
    rfl
theorem optAll_len {f : ByteArray → Option RowD} : ∀ {ls : List ByteArray} {rs : List RowD}, optAll f ls = some rs → rs.length = ls.length
  | [], rs, h => by rw [optAll] at h; injection h with h; rw [← h]; rfl
  | l :: ls, rs, h => by
    rw [optAll] at h
    cases hx : f l with
    | none => rw [hx] at h; simp at h
    | some q =>
      rw [hx] at h
      simp only [Option.map_eq_some_iff] at h
      obtain ⟨d', h', rfl⟩ := h
      simp [optAll_len h']
/-- The row of a line, as the given side reads it. -/
def byteAt (l : ByteArray) (i : Nat) : UInt8 := l.data.toList[i]?.getD 0
def rowS (l : ByteArray) : Option RowD := if l.size < 4 then none else if readOk (l.extract 4 l.size) then some ⟨if byteAt l 0 = 60 then -1 else 1, digS (byteAt l 2), readP (l.extract 4 l.size)⟩ else none
theorem rowS_size {l : ByteArray} {r : RowD} (h : rowS l = some r) : r.s.length ≤ 16 := by
  unfold rowS at h
  split at h
  · simp at h
  · split at h
    · injection h with h
      rw [← h]
      exact readP_length _
    · simp at h
def rdS (s : ByteArray) : Option (Int × List RowD) :=
  if 208 < s.size then none else if linesOk s = false then none else match linesP s with
  | [] => none
  | h :: ls => if h.size = 7 ∧ h.data.toList.take 6 = preL then match optAll rowS ls with
    | none => none
    | some rs => if chText (digS (byteAt h 6)) rs = s then some (digS (byteAt h 6), rs) else none
    else none
theorem ext_drop (l : ByteArray) (k : Nat) : (l.extract k l.size).data.toList = l.data.toList.drop k := by
  rw [ext_list l k l.size (Nat.le_refl _), List.take_of_length_le]
  rw [List.length_drop, ba_size]
  omega
theorem rowS_line {r : RowD} (hr : rowB r.d r.r r.s = true) {l : ByteArray} (hl : l.data.toList = rwL r) : rowS l = some r := by
  obtain ⟨a, b, c, d, x, e1, e2, e3, e4⟩ := row_ok hr
  have hL : l.data.toList = dirL r.d :: 32 :: x :: 32 :: symL r.s := by rw [hl, rwL, e1]; rfl
  have hsz : l.size = 4 + (symL r.s).length := by rw [ba_size, hL]; simp only [List.length_cons]; omega
  have hx : l.extract 4 l.size = symT r.s := ByteArray.ext (Array.toList_inj.1 (by rw [ext_drop, hL, symT_list]; rfl))
  obtain ⟨q1, q2⟩ := read_symT c
  have hb0 : byteAt l 0 = dirL r.d := by rw [byteAt, hL]; rfl
  have hb2 : byteAt l 2 = x := by rw [byteAt, hL]; rfl
  unfold rowS
  rw [if_neg (by omega), hx, if_pos q1, q2, hb0, hb2, e2]
  have hd : (if dirL r.d = 60 then (-1 : Int) else 1) = r.d := by
    rcases a with a | a <;> rw [a] <;> rfl
  rw [hd]
theorem rdS_iff (s : ByteArray) (n : Int) (rs : List RowD) : rdS s = some (n, rs) ↔ chartB n rs = true ∧ chTo n rs = s := by
  constructor
  · intro h
    unfold rdS at h
    split at h
    · simp at h
    · split at h
      · simp at h
      · split at h
        · simp at h
        · rename_i hd ls e
          split at h
          · split at h
            · simp at h
            · rename_i rs' e'
              split at h
              · rename_i ht
                injection h with h
                injection h with h1 h2
                rw [h1, h2] at ht
                unfold chText at ht
                split at ht
                · exact ⟨by assumption, ht⟩
                · exfalso
                  have hz : s.size = 0 := by rw [← ht]; rfl
                  have := (lnAt_le s s.size).2
                  rw [linesP] at e
                  rw [e, hz] at this
                  simp at this
              · simp at h
          · simp at h
  · rintro ⟨h, rfl⟩
    obtain ⟨c1, c2, c3⟩ := chart_lines h
    obtain ⟨⟨h1, h8⟩, ⟨hr1, hr8⟩, hrows⟩ := chartB_of h
    unfold rdS
    rw [if_neg (by omega), if_neg (by rw [c2]; decide)]
    cases hL : linesP (chTo n rs) with
    | nil => rw [hL] at c1; simp at c1
    | cons hd ls =>
      rw [hL, List.map_cons] at c1
      injection c1 with c1 c4
      obtain ⟨b, e1, e2, _, _⟩ := decL_one (k := n.toNat) (by omega) (by omega)
      have hhd : hd.data.toList = [99, 104, 97, 114, 116, 32, b] := by rw [c1, headL, e1]; rfl
      have hsz : hd.size = 7 := by rw [ba_size, hhd]; rfl
      have hb6 : digS (byteAt hd 6) = n := by rw [byteAt, hhd]; show digS b = n; rw [e2]; omega
      simp only
      rw [if_pos ⟨hsz, by rw [hhd]; rfl⟩, optAll_map c4 (fun r hr l hl => rowS_line (hrows r hr) hl), hb6]
      simp only
      rw [if_pos (by rw [chText, if_pos h])]

/-- A decimal number of at most nine digits. -/
def rdDec (s : ByteArray) : Int × Bool := match Lib.parseIntB 64 s.data.toList with
  | .ok v => if (-999999999 ≤ v ∧ v ≤ 999999999) ∧ Lib.itoa v = s.data.toList then (v, true) else (0, false)
  | _ => (0, false)
theorem rdDec_small (s : ByteArray) : -999999999 ≤ (rdDec s).1 ∧ (rdDec s).1 ≤ 999999999 := by
  unfold rdDec
  split
  · split
    · rename_i h; exact h.1
    · simp
  · simp
theorem rdDec_dec {k : Nat} (h1 : 1 ≤ k) (h9 : k ≤ 9) {s : ByteArray} (hs : s.data.toList = decL k) : rdDec s = ((k : Int), true) := by
  unfold rdDec
  rw [hs]
  have : k = 1 ∨ k = 2 ∨ k = 3 ∨ k = 4 ∨ k = 5 ∨ k = 6 ∨ k = 7 ∨ k = 8 ∨ k = 9 := by omega
  rcases this with rfl | rfl | rfl | rfl | rfl | rfl | rfl | rfl | rfl <;> decide +kernel
/-- The row of a line, as the program reads it. -/
def wordsI (l : ByteArray) : List ByteArray := Lib.splitB ⟨#[32]⟩ 0 (Lib.countB l ⟨#[32]⟩) l
def rowI (l : ByteArray) : Option RowD := match wordsI l with
  | [a, b, c] => if (rdDec b).2 && readOk c then some ⟨if a = ⟨#[60]⟩ then -1 else 1, (rdDec b).1, readP c⟩ else none
  | _ => none
theorem words_cut (l : ByteArray) : (wordsI l).map (·.data.toList) = cutL 32 l.data.toList := by
  have hc : Lib.countB l ⟨#[32]⟩ = Lib.count l.data.toList [32] := rfl
  rw [wordsI, Lib.splitB_data, hc, ← split_cutL]
theorem rowI_line {r : RowD} (hr : rowB r.d r.r r.s = true) {l : ByteArray} (hl : l.data.toList = rwL r) : rowI l = some r := by
  obtain ⟨a, b, c, d, x, e1, e2, e3, e4⟩ := row_ok hr
  have hw : wordsI l = [⟨#[dirL r.d]⟩, ⟨#[x]⟩, symT r.s] := by
    apply bas_ext
    rw [words_cut, hl, rwL]
    have hd : (32 : UInt8) ∉ [dirL r.d] := by
      unfold dirL
      split <;> decide
    rw [cutL_app _ _ hd, e1, cutL_app _ _ (by simpa using fun e => e3 e.symm), cutL_none _ (symL_free (stitchesB_of c).2 32 (.inl rfl))]
    simp only [List.map_cons, List.map_nil, symT_list]
  obtain ⟨q1, q2⟩ := read_symT c
  have hdec := rdDec_dec (k := r.r.toNat) (by omega) (by omega) (s := ⟨#[x]⟩) (by rw [e1])
  unfold rowI
  rw [hw]
  simp only [hdec, q1, q2, Bool.and_true, if_true]
  have hd : (if (⟨#[dirL r.d]⟩ : ByteArray) = ⟨#[60]⟩ then (-1 : Int) else 1) = r.d := by
    rcases a with a | a <;> rw [a] <;> rfl
  rw [hd, show ((r.r.toNat : Nat) : Int) = r.r by omega]
theorem rowI_size {l : ByteArray} {r : RowD} (h : rowI l = some r) : r.s.length ≤ 16 := by
  unfold rowI at h
  split at h
  · split at h
    · injection h with h
      rw [← h]
      exact readP_length _
    · simp at h
  · simp at h
/-- The first line without its first word. -/
def trimP (s : ByteArray) : ByteArray := ⟨(Lib.trimPrefix s.data.toList preL).toArray⟩
def rdI (s : ByteArray) : Option (Int × List RowD) := match linesP s with
  | [] => none
  | h :: ls => if 1 ≤ ls.length ∧ ls.length ≤ 8 then match optAll rowI ls with
    | none => none
    | some rs => if ((rdDec (trimP h)).2 && chartB (rdDec (trimP h)).1 rs) && decide (chTo (rdDec (trimP h)).1 rs = s) then some ((rdDec (trimP h)).1, rs) else none
    else none
theorem rdI_iff (s : ByteArray) (n : Int) (rs : List RowD) : rdI s = some (n, rs) ↔ chartB n rs = true ∧ chTo n rs = s := by
  constructor
  · intro h
    unfold rdI at h
    split at h
    · simp at h
    · split at h
      · split at h
        · simp at h
        · split at h
          · rename_i ht
            injection h with h
            injection h with h1 h2
            rw [h1, h2] at ht
            simp only [Bool.and_eq_true, decide_eq_true_eq] at ht
            exact ⟨ht.1.2, ht.2⟩
          · simp at h
      · simp at h
  · rintro ⟨h, rfl⟩
    obtain ⟨c1, c2, c3⟩ := chart_lines h
    obtain ⟨⟨h1, h8⟩, ⟨hr1, hr8⟩, hrows⟩ := chartB_of h
    unfold rdI
    cases hL : linesP (chTo n rs) with
    | nil => rw [hL] at c1; simp at c1
    | cons hd ls =>
      rw [hL, List.map_cons] at c1
      injection c1 with c1 c4
      have hlen : ls.length = rs.length := by have := congrArg List.length c4; simpa using this
      have htr : (trimP hd).data.toList = decL n.toNat := by
        unfold trimP
        rw [c1]
        unfold Lib.trimPrefix headL
        have hp : Lib.hasPrefix (preL ++ decL n.toNat) preL = true := by simp [Lib.hasPrefix, List.isPrefixOf, preL]
        rw [if_pos hp]
        simp
      have hdec := rdDec_dec (k := n.toNat) (by omega) (by omega) htr
      simp only
      rw [if_pos (by omega), optAll_map c4 (fun r hr l hl => rowI_line (hrows r hr) hl), hdec]
      simp only
      rw [show ((n.toNat : Nat) : Int) = n by omega, h]
      simp
theorem rd_eq (s : ByteArray) : rdI s = rdS s := by
  cases h : rdS s with
  | none =>
    cases h' : rdI s with
    | none => rfl
    | some p =>
      have := (rdS_iff s p.1 p.2).2 ((rdI_iff s p.1 p.2).1 h')
      rw [h] at this
      simp at this
  | some p => exact (rdI_iff s p.1 p.2).2 ((rdS_iff s p.1 p.2).1 h)
/-- What ReadChart returns. -/
def rdN (s : ByteArray) : Int := match rdS s with | none => 0 | some p => p.1
def rdR (s : ByteArray) : List RowD := match rdS s with | none => [] | some p => p.2
def rdOk (s : ByteArray) : Bool := (rdS s).isSome
theorem rd_none' {s : ByteArray} (h : rdS s = none) : rdN s = 0 ∧ rdR s = [] ∧ rdOk s = false := by simp [rdN, rdR, rdOk, h]
theorem rd_some' {s : ByteArray} {n : Int} {rs : List RowD} (h : rdS s = some (n, rs)) : rdN s = n ∧ rdR s = rs ∧ rdOk s = true := by simp [rdN, rdR, rdOk, h]
theorem rdR_size (s : ByteArray) : (rdR s).length ≤ 9 ∧ cntRows (rdR s) ≤ 1000 := by
  cases h : rdS s with
  | none =>
    rw [(rd_none' h).2.1]
    exact ch_size (X := ⟨0, []⟩) (.inl rfl)
  | some p =>
    obtain ⟨n, rs⟩ := p
    rw [(rd_some' h).2.1]
    exact ch_size (X := ⟨n, rs⟩) (.inr ((rdS_iff s n rs).1 h).1)
/-- A valid chart is restored from its text. -/
theorem rd_chText {n : Int} {rs : List RowD} (h : chartB n rs = true) : rdN (chText n rs) = n ∧ rdR (chText n rs) = rs ∧ rdOk (chText n rs) = true :=
  rd_some' ((rdS_iff _ n rs).2 ⟨h, by rw [chText, if_pos h]⟩)
end Go.Proofs.YtnjgmhdmjaijgaaGreatDoor

/- Texts of charts: the given side. -/
namespace Go.Proofs.YtnjgmhdmjaijgaaGreatDoor
open Go Go.RowKit

set_option maxHeartbeats 1000000 in
theorem spec_l14Text (ks : List Int) (A : Option Addr) (c : Nat) (w : World) (h : Ints w A ks) (hl : ks.length ≤ 16) (hs : ∀ k ∈ ks, isStitchB k = true) :
    Calls Tryz.prog 73 #[.slice A ks.length c] w fun e w' => e = .returned (.string (symT ks)) ∧ w = w' := by
  have HS := Lib.hid hs; clear hs
  go_enter Tryz.func73, Tryz.ntmps73
  go_wp2_with (fail)
  go_loop [3, 4] (fun tv iv => ∃ i : Nat, i ≤ ks.length ∧ iv = .int .i64 i ∧ tv = .string (symT (ks.take i))) (fun _ iv => ks.length - (intOf iv).toNat)
  case atStart => exact ⟨0, Nat.zero_le _, rfl, rfl⟩
  case round =>
    obtain ⟨i, hi, rfl, rfl⟩ := hrel
    by_cases hil : i < ks.length
    · obtain ⟨b, off, k, rfl, hc, hx⟩ := h i hil
      have hst := inR_iff.1 (HS.out k (List.mem_of_getElem? hx))
      obtain ⟨m, rfl⟩ := Int.eq_ofNat_of_zero_le (show (0 : Int) ≤ k by omega)
      have HX : Hid (symT (ks.take (i + 1)) = symT (ks.take i) ++ ⟨#[symB m]⟩) := Lib.hid (by rw [take_snoc hx, symT_snoc]; rfl)
      have hsz : (symT (ks.take i)).size ≤ 16 := by rw [symT_size, List.length_take]; omega
      clear hx
      have j1 : (0 : Int) ≤ (i : Int) := by omega
      have j2 : (i : Int) < (ks.length : Int) := by omega
      go_wp2_with (fail)
      refine (spec_SymbolOf m _ (by omega) (by omega)).mono ?_; rintro e _ ⟨rfl, rfl⟩
      go_wp2_with (fail)
      exact ⟨⟨i + 1, by omega, by go_num, by rw [HX.out]⟩, by simp [intOf]; omega⟩
    · have j2 : decide ((i : Int) < (ks.length : Int)) = false := decide_eq_false (by omega)
      go_wp2_with (fail)
      go_ret
      rw [take_all (by omega)]
      exact ⟨rfl, rfl⟩

set_option maxHeartbeats 4000000 in
set_option maxRecDepth 10000 in
theorem spec_l15Text (g : Nat) (n : Int) (rs : List RowD) (A : Option Addr) (c : Nat) (w : World) (h : RowsR w A rs) (k1 : Blk w g 24 #[.int .i64 n, .slice A rs.length c]) (hch : chartB n rs = true) :
    Calls Tryz.prog 45 #[.pointer (some ⟨g, 0, none⟩)] w fun e w' => e = .returned (.string (chTo n rs)) ∧ Below w.heap.size w w' := by
  obtain ⟨⟨n1, n8⟩, ⟨r1, r8⟩, hrow⟩ := chartB_of hch
  obtain ⟨m, rfl⟩ := Int.eq_ofNat_of_zero_le (show (0 : Int) ≤ n by omega)
  have HR := Lib.hid hrow; clear hrow hch
  have hgl := k1.lt
  have hH : headT m = ((⟨#[99, 104, 97, 114, 116, 32]⟩ : ByteArray) ++ decT m) ++ ⟨#[10]⟩ := rfl
  have HH := Lib.hid hH; clear hH
  have hd2 := decT_size m
  have q1 := k1.c2
  go_enter Tryz.func45, Tryz.ntmps45
  go_wp2_with (fail)
  refine (spec_l01Dec m (by omega) _).mono ?_; rintro e w2 ⟨rfl, b2⟩
  generalize decT m = dm at *
  go_wp2_with (fail)
  go_loopw [3, 4] (fun tv iv wr => ∃ i : Nat, i ≤ rs.length ∧ iv = .int .i64 i ∧ tv = .string (chTo m (rs.take i)) ∧ Below w.heap.size w wr) (fun _ iv _ => rs.length - (intOf iv).toNat)
  case atStart => exact ⟨0, Nat.zero_le _, rfl, by rw [List.take_zero, chTo, List.foldl_nil, HH.out], b2⟩
  case round =>
    clear b2 q1
    obtain ⟨i, hi, rfl, rfl, hb⟩ := hrel
    have q1 := (k1.below hb hgl).c2
    by_cases hil : i < rs.length
    · obtain ⟨b, off, A7, c7, r, rfl, hx, hc0, hc1, hc2, hir, hrl⟩ := (h.below hb) i hil
      have hrr := HR.out r (List.mem_of_getElem? hx)
      obtain ⟨hd, hcr, hsr, hs16⟩ := rowB_of hrr
      have HS := Lib.hid (chTo_snoc (n := (m : Int)) hx)
      have hsz : (chTo m (rs.take i)).size ≤ 300 := by
        have h1 := chTo_size (n := (m : Int)) (rs := rs.take i) (fun r hr => (rowB_of (HR.out r (List.mem_of_mem_take hr))).2.2.2)
        rw [List.length_take] at h1
        omega
      clear hx hrr
      obtain ⟨d, cr, ss⟩ := r
      obtain ⟨q, rfl⟩ : ∃ q : Nat, cr = (q : Int) := ⟨cr.toNat, by have : 1 ≤ cr ∧ cr ≤ 4 := hcr; omega⟩
      have hq4 : 1 ≤ q ∧ q ≤ 4 := by have : 1 ≤ (q : Int) ∧ (q : Int) ≤ 4 := hcr; omega
      obtain ⟨dt, hdt⟩ : ∃ dt, dt = dirT d ++ ⟨#[32]⟩ := ⟨_, rfl⟩
      have hLL : chTo m (rs.take i) ++ lineT ⟨d, q, ss⟩ = (chTo m (rs.take i) ++ dt) ++ (((decT q ++ ⟨#[32]⟩) ++ symT ss) ++ ⟨#[10]⟩) := by
        rw [hdt]
        show _ ++ (((((dirT d ++ ⟨#[32]⟩) ++ decT q) ++ ⟨#[32]⟩) ++ symT ss) ++ ⟨#[10]⟩) = _
        simp only [ba_assoc]
      rw [hLL] at HS
      clear hLL
      have hz1 : dt.size = 2 := by rw [hdt, ByteArray.size_append, dirT_size]; rfl
      have hz2 := decT_size q
      have hz3 := symT_size ss
      have hsk := (stitchesB_of hsr).2
      have HSK := Lib.hid hsk; clear hsk
      have hl16 : ss.length ≤ 16 := hs16
      generalize chTo m (rs.take i) = t0 at *
      obtain ⟨w3, hw3⟩ : ∃ w3, w3 = wr.alloc (.cells #[.int .i64 d, .int .i64 (q : Int), .slice A7 ss.length c7] 42) := ⟨_, rfl⟩
      have b3 : Below wr.heap.size wr w3 := by rw [hw3]; (repeat (first | exact Below.refl _ _ | assumption | apply Below.drew | apply below_drewN | (refine Below.alloc ?_ (by first | omega | (simp; done) | (simp; omega)) _) | (refine Below.setCell ?_ (by first | omega | (simp; done) | (simp; omega)) _)))
      obtain ⟨g3, hg3⟩ : ∃ g3, g3 = wr.heap.size := ⟨_, rfl⟩
      have k3 : Blk w3 g3 42 #[.int .i64 d, .int .i64 (q : Int), .slice A7 ss.length c7] := by rw [hw3, hg3]; exact Blk.new _ _ _
      have hb3 : Below w.heap.size w w3 := hb.trans (b3.mono hb.size)
      have hi3 : Ints w3 A7 ss := hir.below b3
      have hcb0 : wr.cell? ⟨b, off + i * 3, none⟩ = some (.int .i64 d) := hc0
      have hcb1 : wr.cell? ⟨b, off + i * 3 + 1, none⟩ = some (.int .i64 (q : Int)) := hc1
      have hcb2 : wr.cell? ⟨b, off + i * 3 + 2, none⟩ = some (.slice A7 ss.length c7) := hc2
      clear hc0 hc1 hc2
      have j1 : (0 : Int) ≤ (i : Int) := by omega
      have j2 : (i : Int) < (rs.length : Int) := by omega
      go_upto_region 6 with fail
      rw [← hw3, ← hg3]
      clear hw3 hg3 hcb0 hcb1 hcb2 b3 hir hb
      have q3 := k3.c3
      go_upto_if 31 with fail
      go_cut [3] (fun tv wx => tv = .string (t0 ++ dt) ∧ w3 = wx)
      case first =>
        by_cases hd1 : d = 1
        · have hdb : (d == 1) = true := by simp [hd1]
          have HDT : Hid (dt = ⟨#[62, 32]⟩) := Lib.hid (by rw [hdt, hd1]; rfl)
          clear hd1 hdt
          go_wp2_with (fail)
          go_meet
          exact ⟨by rw [HDT.out], rfl⟩
        · have hdb : (d == 1) = false := by simpa using hd1
          have HDT : Hid (dt = ⟨#[60, 32]⟩) := Lib.hid (by rw [hdt, dirT, if_neg hd1]; rfl)
          clear hd1 hdt
          go_wp2_with (fail)
          go_meet
          exact ⟨by rw [HDT.out], rfl⟩
      case rest =>
      obtain ⟨rfl, rfl⟩ := hcut
      have hst0 : (t0 ++ dt).size ≤ 310 := by rw [ByteArray.size_append]; omega
      clear hdt
      generalize t0 ++ dt = t1 at *
      have c3 : ∀ W, Ints W A7 ss → Calls Tryz.prog 73 #[.slice A7 ss.length c7] W fun e w' => e = .returned (.string (symT ss)) ∧ W = w' := fun W hW => spec_l14Text ss A7 c7 W hW hl16 HSK.out
      have c1 := fun W => spec_l01Dec q (by omega) W
      have C1 := Lib.hid c1; clear c1
      have C3 := Lib.hid c3; clear c3
      generalize decT q = dq at *
      generalize symT ss = st at *
      go_upto_region 9 with fail
      (refine wp_region_pops 2 (S := (fun W' => W'.cell? ⟨g3, 1, none⟩ = some (.int .i64 (q : Int)) ∧ W'.cell? ⟨g3, 2, none⟩ = some (.slice A7 ss.length c7))) (pre := ?_) (T := ?_) (n := ?_) (by kernel_rfl) (by kernel_rfl) ?_ ?_ ?_ ?_ (fun hHeld => ?_); rotate_left 3; (focus (simp only [pops, List.pop_toArray, List.dropLast_cons_cons, List.dropLast_singleton]; rfl)); (focus (simp only [tailOf, List.pop_toArray, List.dropLast_cons_cons, List.dropLast_singleton, List.back?_toArray, List.getLast?_cons_cons, List.getLast?_singleton, Option.toList_some, List.nil_append, List.cons_append]; rfl)); (focus rfl); (focus (exact ⟨q3.2.1, q3.2.2⟩)))
      ((refine wpAnyH_take (i := 0) (v := ?_) rfl (by kernel_rfl) (by kernel_rfl) (by kernel_rfl) (fun _ _ _ h => h) (Or.inl ⟨by rfl, ?_⟩) (by assumption) ?_; rotate_left; (focus (intro W hSw; (try dsimp only at hSw); go_simp; try (with_reducible rfl)))); (try simp only [List.getElem_toArray, List.getElem_cons_zero, Act.put, List.setIfInBounds_toArray, List.set_cons_zero, List.set_cons_succ]); (refine wpAnyH_take (i := 1) (v := ?_) rfl (by kernel_rfl) (by kernel_rfl) (by kernel_rfl) (fun _ _ _ h => h) (Or.inl ⟨by rfl, ?_⟩) (by assumption) ?_; rotate_left; (focus (intro W hSw; (try dsimp only at hSw); go_simp; try (with_reducible rfl)))); (try simp only [List.getElem_toArray, List.getElem_cons_zero, List.getElem_cons_succ, Act.put, List.setIfInBounds_toArray, List.set_cons_zero, List.set_cons_succ]); (refine wpAnyH_take (i := 2) (v := ?_) rfl (by kernel_rfl) (by kernel_rfl) (by kernel_rfl) (fun _ _ _ h => h) (Or.inl ⟨by rfl, ?_⟩) (by assumption) ?_; rotate_left; (focus (intro W hSw; (try dsimp only at hSw); go_simp; try (with_reducible rfl)))); (try simp only [List.getElem_toArray, List.getElem_cons_zero, List.getElem_cons_succ, Act.put, List.setIfInBounds_toArray, List.set_cons_zero, List.set_cons_succ]); (refine wpAnyH_take (i := 5) (v := ?_) rfl (by kernel_rfl) (by kernel_rfl) (by kernel_rfl) (fun _ _ _ h => h) (Or.inl ⟨by rfl, ?_⟩) (by assumption) ?_; rotate_left; (focus (intro W hSw; (try dsimp only at hSw); go_simp; try (with_reducible rfl)))); (try simp only [List.getElem_toArray, List.getElem_cons_zero, List.getElem_cons_succ, Act.put, List.setIfInBounds_toArray, List.set_cons_zero, List.set_cons_succ]); (refine wpAnyH_take (i := 6) (v := ?_) rfl (by kernel_rfl) (by kernel_rfl) (by kernel_rfl) (fun _ _ _ h => h) (Or.inl ⟨by rfl, ?_⟩) (by assumption) ?_; rotate_left; (focus (intro W hSw; (try dsimp only at hSw); go_simp; try (with_reducible rfl)))); (try simp only [List.getElem_toArray, List.getElem_cons_zero, List.getElem_cons_succ, Act.put, List.setIfInBounds_toArray, List.set_cons_zero, List.set_cons_succ]))
      (refine wpAnyH_ready (rs := [3]) (by kernel_rfl) (by simp) ?_; refine AllReadyH.cons rfl (fun K hK => ?_) AllReadyH.nil)
      go_simp
      refine (C1.out _).mono ?_; rintro e w5 ⟨rfl, b5'⟩
      have b5 : Below w3.heap.size w3 w5 := undrew b5'
      refine hK.out _ _ ⟨cells_below b5 _ _ q3.2.1, cells_below b5 _ _ q3.2.2⟩ (fun hHeld => ?_)
      clear hK K b5'
      (try simp only [List.getElem_toArray, List.getElem_cons_zero, List.getElem_cons_succ, Act.put, List.setIfInBounds_toArray, List.set_cons_zero, List.set_cons_succ])
      ((refine wpAnyH_take (i := 4) (v := ?_) rfl (by kernel_rfl) (by kernel_rfl) (by kernel_rfl) (fun _ _ _ h => h) (Or.inl ⟨by rfl, ?_⟩) (by assumption) ?_; rotate_left; (focus (intro W hSw; (try dsimp only at hSw); go_simp; (try rw [if_neg (by first | omega | (simp only [ByteArray.size_append]; omega))]); try (with_reducible rfl)))); (try simp only [List.getElem_toArray, List.getElem_cons_zero, List.getElem_cons_succ, Act.put, List.setIfInBounds_toArray, List.set_cons_zero, List.set_cons_succ]))
      (refine wpAnyH_ready (rs := [7]) (by kernel_rfl) (by simp) ?_; refine AllReadyH.cons rfl (fun K hK => ?_) AllReadyH.nil)
      go_simp
      refine (C3.out _ (hi3.below b5)).mono ?_; rintro e w6 ⟨rfl, rfl⟩
      refine hK.out _ _ ⟨cells_below b5 _ _ q3.2.1, cells_below b5 _ _ q3.2.2⟩ (fun hHeld => ?_)
      clear hK K
      (try simp only [List.getElem_toArray, List.getElem_cons_zero, List.getElem_cons_succ, Act.put, List.setIfInBounds_toArray, List.set_cons_zero, List.set_cons_succ])
      ((refine wpAnyH_take (i := 8) (v := ?_) rfl (by kernel_rfl) (by kernel_rfl) (by kernel_rfl) (fun _ _ _ h => h) (Or.inl ⟨by rfl, ?_⟩) (by assumption) ?_; rotate_left; (focus (intro W hSw; (try dsimp only at hSw); go_simp; (try rw [if_neg (by first | omega | (simp only [ByteArray.size_append]; omega))]); try (with_reducible rfl)))); (try simp only [List.getElem_toArray, List.getElem_cons_zero, List.getElem_cons_succ, Act.put, List.setIfInBounds_toArray, List.set_cons_zero, List.set_cons_succ]); (refine wpAnyH_take (i := 9) (v := ?_) rfl (by kernel_rfl) (by kernel_rfl) (by kernel_rfl) (fun _ _ _ h => h) (Or.inl ⟨by rfl, ?_⟩) (by assumption) ?_; rotate_left; (focus (intro W hSw; (try dsimp only at hSw); go_simp; (try rw [if_neg (by first | omega | (simp only [ByteArray.size_append]; omega))]); try (with_reducible rfl)))); (try simp only [List.getElem_toArray, List.getElem_cons_zero, List.getElem_cons_succ, Act.put, List.setIfInBounds_toArray, List.set_cons_zero, List.set_cons_succ]))
      (refine wpAnyH_done (by kernel_rfl) ?_ _; change wpList _ _ _ _ _ _)
      clear hHeld C1 C3
      go_wp2_with (fail)
      exact ⟨⟨i + 1, by omega, by go_num, by rw [HS.out], hb3.trans (b5.mono hb3.size)⟩, by simp [intOf]; omega⟩
    · have j2 : decide ((i : Int) < (rs.length : Int)) = false := decide_eq_false (by omega)
      go_wp2_with (fail)
      go_ret
      rw [take_all (by omega)]
      exact ⟨rfl, hb⟩

theorem spec_ChartText (n : Int) (rs : List RowD) (A : Option Addr) (c : Nat) (w : World) (h : RowsR w A rs) (hl : rs.length ≤ 9223372036854775807) :
    Calls Tryz.prog 22 #[.agg #[.int .i64 n, .slice A rs.length c]] w fun e w' => e = .returned (.string (chText n rs)) ∧ Below w.heap.size w w' := by
  have hb1 : Below w.heap.size w (w.alloc (.cells #[.int .i64 n, .slice A rs.length c] 24)) := by (repeat (first | exact Below.refl _ _ | assumption | apply Below.drew | apply below_drewN | (refine Below.alloc ?_ (by first | omega | (simp; done) | (simp; omega)) _) | (refine Below.setCell ?_ (by first | omega | (simp; done) | (simp; omega)) _)))
  have kb := Blk.new w 24 #[.int .i64 n, .slice A rs.length c]
  cases hv : chartB n rs
  · have HF : Hid (chText n rs = ⟨#[]⟩) := Lib.hid (by rw [chText, hv]; rfl)
    go_enter Tryz.func22, Tryz.ntmps22
    go_wp2_with (fail)
    refine (spec_l15Ok _ _ n rs A c _ (h.below hb1) hl kb.c2.1 kb.c2.2).mono ?_; rintro e w2 ⟨rfl, b2⟩
    rw [hv]
    go_wp2_with (fail)
    go_ret
    exact ⟨by rw [HF.out]; rfl, hb1.trans (b2.mono (by simp))⟩
  · have HF : Hid (chText n rs = chTo n rs) := Lib.hid (by rw [chText, hv]; rfl)
    go_enter Tryz.func22, Tryz.ntmps22
    go_wp2_with (fail)
    refine (spec_l15Ok _ _ n rs A c _ (h.below hb1) hl kb.c2.1 kb.c2.2).mono ?_; rintro e w2 ⟨rfl, b2⟩
    rw [hv]
    have HV := Lib.hid hv; clear hv
    have hb2 := hb1.trans (b2.mono (by simp))
    have k2 := kb.below b2 (by simp)
    go_wp2_with (fail)
    refine (spec_l15Text w.heap.size n rs A c _ (h.below hb2) k2 HV.out).mono ?_; rintro e w3 ⟨rfl, b3⟩
    go_wp2_with (fail)
    go_ret
    exact ⟨by rw [HF.out]; rfl, hb2.trans (b3.mono hb2.size)⟩

end Go.Proofs.YtnjgmhdmjaijgaaGreatDoor

/- Charts of colour charts: the plain functions. -/
namespace Go.Proofs.YtnjgmhdmjaijgaaGreatDoor
open Go Go.RowKit

def knitRow (row : List Int) (k : Int) : List Int := row.map fun x => if x = k then 1 else 7
theorem knitRow_length (row : List Int) (k : Int) : (knitRow row k).length = row.length := by simp [knitRow]
theorem knitRow_snoc {row : List Int} {k x : Int} {j : Nat} (h : row[j]? = some x) : knitRow (row.take (j + 1)) k = knitRow (row.take j) k ++ [if x = k then 1 else 7] := by
  rw [take_snoc h, knitRow, List.map_append]
  rfl
structure ColSt where
  ds : List Int
  rows : List RowD
/-- The direction of a carrier's next row, of its last one and the number of rows until now. -/
def dirOf (x : Int) (m : Nat) : Int := if x = 0 then (if m = 0 then -1 else 1) else -x
def colStep (row : List Int) (st : ColSt) (k : Nat) : ColSt :=
  if (k : Int) + 1 ∈ row then ⟨st.ds.set k (dirOf (st.ds[k]?.getD 0) st.rows.length), st.rows ++ [⟨dirOf (st.ds[k]?.getD 0) st.rows.length, (k : Int) + 1, knitRow row ((k : Int) + 1)⟩]⟩ else st
def colTo (row : List Int) (st : ColSt) (m : Nat) : ColSt := (List.range m).foldl (colStep row) st
theorem colTo_zero (row : List Int) (st : ColSt) : colTo row st 0 = st := rfl
theorem colTo_succ (row : List Int) (st : ColSt) (m : Nat) : colTo row st (m + 1) = colStep row (colTo row st m) m := by
  unfold colTo
  rw [List.range_succ, List.foldl_append]
  rfl
def colAll (xss : List (List Int)) : ColSt := xss.foldl (fun st row => colTo row st 4) ⟨[0, 0, 0, 0], []⟩
theorem colAll_snoc {xss : List (List Int)} {k : Nat} {row : List Int} (h : xss[k]? = some row) : colAll (xss.take (k + 1)) = colTo row (colAll (xss.take k)) 4 := by
  unfold colAll
  rw [take_snoc h, List.foldl_append]
  rfl
structure ColOk (st : ColSt) (m : Nat) : Prop where
  len : st.ds.length = 4
  dir : ∀ d ∈ st.ds, d = 0 ∨ d = 1 ∨ d = -1
  size : st.rows.length ≤ m
theorem ColOk.start : ColOk ⟨[0, 0, 0, 0], []⟩ 0 := ⟨rfl, by simp, by simp⟩
theorem colStep_yes {row : List Int} {st : ColSt} {k : Nat} {x : Int} (h : (k : Int) + 1 ∈ row) (hx : st.ds[k]? = some x) :
    colStep row st k = ⟨st.ds.set k (dirOf x st.rows.length), st.rows ++ [⟨dirOf x st.rows.length, (k : Int) + 1, knitRow row ((k : Int) + 1)⟩]⟩ := by
  rw [colStep, if_pos h, hx]
  rfl
theorem colStep_no {row : List Int} {st : ColSt} {k : Nat} (h : ¬ (k : Int) + 1 ∈ row) : colStep row st k = st := by rw [colStep, if_neg h]
theorem dirOf_val {x : Int} (m : Nat) (h : x = 0 ∨ x = 1 ∨ x = -1) : dirOf x m = 1 ∨ dirOf x m = -1 := by
  unfold dirOf
  split
  · split <;> simp
  · omega
theorem ColOk.step {row : List Int} {st : ColSt} {m k : Nat} (h : ColOk st m) (hk : k < 4) : ColOk (colStep row st k) (m + 1) := by
  by_cases hm : (k : Int) + 1 ∈ row
  · have hx : st.ds[k]? = some (st.ds[k]'(by rw [h.len]; exact hk)) := List.getElem?_eq_getElem _
    have hd := dirOf_val st.rows.length (h.dir _ (List.getElem_mem (by rw [h.len]; exact hk : k < st.ds.length)))
    rw [colStep_yes hm hx]
    refine ⟨by simp [h.len], fun d hd' => ?_, by simp [h.size]⟩
    rcases List.mem_or_eq_of_mem_set hd' with e | e
    · exact h.dir d e
    · subst e
      rcases hd with e | e <;> simp [e]
  · rw [colStep_no hm]
    exact ⟨h.len, h.dir, Nat.le_succ_of_le h.size⟩
theorem ColOk.to {row : List Int} {st : ColSt} {m k : Nat} (h : ColOk st m) (hk : k ≤ 4) : ColOk (colTo row st k) (m + k) := by
  induction k with
  | zero => exact h
  | succ k ih => rw [colTo_succ]; exact (ih (by omega)).step (by omega)
theorem ColOk.all (xss : List (List Int)) (k : Nat) (hk : k ≤ xss.length) : ColOk (colAll (xss.take k)) (4 * k) := by
  induction k with
  | zero => exact ColOk.start
  | succ k ih =>
    have hx : xss[k]? = some (xss[k]'(by omega)) := List.getElem?_eq_getElem _
    rw [colAll_snoc hx]
    exact (ih (by omega)).to (Nat.le_refl 4)
theorem ColOk.at {st : ColSt} {m k : Nat} (h : ColOk st m) (hk : k < 4) : ∃ x, st.ds[k]? = some x ∧ (x = 0 ∨ x = 1 ∨ x = -1) := by
  have hx : st.ds[k]? = some (st.ds[k]'(by rw [h.len]; exact hk)) := List.getElem?_eq_getElem _
  exact ⟨_, hx, h.dir _ (List.getElem_mem _)⟩

def cofRows (xss : List (List Int)) : List RowD := (colAll xss).rows
def cofX (n : Int) (xss : List (List Int)) : ChX := if coloursB n xss && chartB n (cofRows xss) then ⟨n, cofRows xss⟩ else ⟨0, []⟩
def cofCode (n : Int) (xss : List (List Int)) : Int := if coloursB n xss then (if chartB n (cofRows xss) then 0 else 5) else 1
theorem cof_bad {n : Int} {xss : List (List Int)} (h : coloursB n xss = false) : cofX n xss = ⟨0, []⟩ ∧ cofCode n xss = 1 := by simp [cofX, cofCode, h]
theorem cof_full {n : Int} {xss : List (List Int)} (h : coloursB n xss = true) (hc : chartB n (cofRows xss) = false) : cofX n xss = ⟨0, []⟩ ∧ cofCode n xss = 5 := by simp [cofX, cofCode, h, hc]
theorem cof_ok {n : Int} {xss : List (List Int)} (h : coloursB n xss = true) (hc : chartB n (cofRows xss) = true) : cofX n xss = ⟨n, cofRows xss⟩ ∧ cofCode n xss = 0 := by simp [cofX, cofCode, h, hc]
theorem colours_small {n : Int} {xss : List (List Int)} (h : coloursB n xss = true) : 1 ≤ n ∧ n ≤ 8 ∧ xss.length ≤ 8 ∧ ∀ row ∈ xss, (row.length : Int) = n := by
  unfold coloursB at h
  simp only [Bool.and_eq_true, List.all_eq_true, inR_iff] at h
  obtain ⟨⟨h1, h2⟩, h3⟩ := h
  refine ⟨h1.1, h1.2, by omega, fun row hr => ?_⟩
  have := h3 row hr
  unfold rowOfB at this
  simp only [Bool.and_eq_true, decide_eq_true_eq] at this
  exact this.1
theorem cofRows_small {n : Int} {xss : List (List Int)} (h : coloursB n xss = true) : (cofRows xss).length ≤ 32 := by
  have h8 := (colours_small h).2.2.1
  have := (ColOk.all xss xss.length (Nat.le_refl _)).size
  rw [take_all (Nat.le_refl _)] at this
  unfold cofRows
  omega

theorem cofX_size (n : Int) (xss : List (List Int)) : (cofX n xss).xs.length ≤ 9 ∧ cntRows (cofX n xss).xs ≤ 1000 := by
  refine ch_size ?_
  unfold cofX
  split
  · rename_i h
    simp only [Bool.and_eq_true] at h
    exact .inr h.2
  · exact .inl rfl

/-- A box (columns, rows) whose slice of rows has grown to k rows; the rows lie from block lo on. -/
def GrowInv (n : Int) (hB lo : Nat) (wr : World) (k : Nat) (done : List RowD) : Prop :=
  done.length = k ∧ hB < lo ∧ lo ≤ wr.heap.size ∧ ∃ A' c' cs, Blk wr hB 24 #[.int .i64 n, .slice A' k c'] ∧ OwnC wr lo wr.heap.size 42 3 A' k c' cs ∧ CellsRows wr lo wr.heap.size cs done
theorem GrowInv.rows {n : Int} {hB lo k : Nat} {wr : World} {done : List RowD} (h : GrowInv n hB lo wr k done) : ∃ A' c', Blk wr hB 24 #[.int .i64 n, .slice A' k c'] ∧ OwnRows wr lo wr.heap.size A' k c' done := by
  obtain ⟨_, _, _, A', c', cs, hk, ho, hc⟩ := h
  exact ⟨A', c', hk, ⟨cs, ho, hc⟩⟩
theorem GrowInv.step {n : Int} {hB lo hW k : Nat} {w4 w5 : World} {done : List RowD} {A' : Option Addr} {c' : Nat} {cs : List Value} {A4 A5 : Option Addr} {c4 c5 : Nat} (r : RowD)
    (hl : done.length = k) (hlt : hB < lo) (hlo : lo ≤ hW) (hW4 : hW ≤ w4.heap.size) (kb : Blk w4 hB 24 #[.int .i64 n, .slice A' k c']) (ho : OwnC w4 lo hW 42 3 A' k c' cs) (hc : CellsRows w4 lo hW cs done)
    (o4 : OwnI w4 hW w4.heap.size A4 c4 r.s) (ho5 : OwnC w5 lo w5.heap.size 42 3 A5 (k + 1) c5 (cs ++ [.int .i64 r.d, .int .i64 r.r, .slice A4 r.s.length c4]))
    (hg : (w4.alloc (.cells #[.int .i64 r.d, .int .i64 r.r, .slice A4 r.s.length c4] 42)).grownBy w5 (Value.slice A' k c').ownBlock) (hz5 : w4.heap.size < w5.heap.size) :
    GrowInv n hB lo (w5.setCell ⟨hB, 1, none⟩ (.slice A5 (k + 1) c5)) (k + 1) (done ++ [r]) := by
  have t1 : (24 : TypeId) ≠ 2 := by decide
  have t2 : (24 : TypeId) ≠ 42 := by decide
  have t3 : (2 : TypeId) ≠ 42 := by decide
  have ho4 := ho.alloc (.cells #[.int .i64 r.d, .int .i64 r.r, .slice A4 r.s.length c4] 42)
  have kb5 := (kb.alloc (.cells #[.int .i64 r.d, .int .i64 r.r, .slice A4 r.s.length c4] 42)).grownT ho4 t2 hg
  have hc4' : CellsRows (w4.alloc (.cells #[.int .i64 r.d, .int .i64 r.r, .slice A4 r.s.length c4] 42)) lo hW cs done := hc.keep fun q _ _ h3 => Below.heap_alloc w4 _ q h3
  have hc5 := hc4'.grownT ho4 t3 hg
  have o5 := (o4.alloc (.cells #[.int .i64 r.d, .int .i64 r.r, .slice A4 r.s.length c4] 42)).grownT ho4 t3 hg
  refine ⟨by simp [hl], hlt, by simp; omega, A5, c5, cs ++ [.int .i64 r.d, .int .i64 r.r, .slice A4 r.s.length c4], by simpa using kb5.set21 (.slice A5 (k + 1) c5), ?_, ?_⟩
  · exact (ho5.farT kb5 t2 1 _).mono (Nat.le_refl _) (by simp)
  · exact ((hc5.snoc o5 (by omega) (by omega)).farT kb5 t1 1 _).mono (Nat.le_refl _) (by simp; omega)

end Go.Proofs.YtnjgmhdmjaijgaaGreatDoor
