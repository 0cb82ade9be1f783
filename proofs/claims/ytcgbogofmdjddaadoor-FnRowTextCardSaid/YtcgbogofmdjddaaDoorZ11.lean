/- Steps of the proof, joined from several texts: UA UB DF DH UC. -/
import Derived.Test.YtcgbogofmdjddaaDoorZ8
import Derived.Test.YtcgbogofmdjddaaDoorZ9
import Derived.Laws.Runes

/- Reading pieces, plain: digits at the head of a text; what the program reads; what the given side reads. -/
namespace Go.Proofs.YtcgbogofmdjddaaDoor
open Go Go.RowKit

def isDig (b : UInt8) : Bool := decide (48 ≤ b.toNat) && decide (b.toNat ≤ 57)
/-- How many digits stand at the head, counted up to a bound. -/
def dcount : Nat → List UInt8 → Nat
  | 0, _ => 0
  | _ + 1, [] => 0
  | n + 1, b :: l => if isDig b then dcount n l + 1 else 0
def dval (l : List UInt8) : Int := l.foldl (fun n b => 10 * n + ((b.toNat : Int) - 48)) 0
theorem dval_snoc (l : List UInt8) (b : UInt8) : dval (l ++ [b]) = 10 * dval l + ((b.toNat : Int) - 48) := by simp [dval, List.foldl_append]
theorem dcount_le : ∀ (n : Nat) (l : List UInt8), dcount n l ≤ n ∧ dcount n l ≤ l.length
  | 0, _ => by simp [dcount]
  | _ + 1, [] => by simp [dcount]
  | n + 1, b :: l => by
    have := dcount_le n l
    unfold dcount
    split
    · simp only [List.length_cons]; omega
    · omega
theorem dcount_more : ∀ (k n : Nat) (l : List UInt8), k ≤ l.length → (∀ j b, j < k → l[j]? = some b → isDig b = true) → dcount (k + n) l = k + dcount n (l.drop k)
  | 0, n, l, _, _ => by simp
  | k + 1, n, [], h, _ => by simp at h
  | k + 1, n, b :: l, h, hd => by
    have ih := dcount_more k n l (by simpa using h) (fun j c hj hc => hd (j + 1) c (by omega) (by simpa using hc))
    rw [show k + 1 + n = (k + n) + 1 by omega, dcount, if_pos (hd 0 b (by omega) (by simp)), ih, List.drop_succ_cons]
    omega
/-- The digits end at index k. -/
theorem dcount_end {k m : Nat} {l : List UInt8} (hk : k ≤ m) (hl : k ≤ l.length) (hd : ∀ j b, j < k → l[j]? = some b → isDig b = true) (he : k = m ∨ l.length = k ∨ ∃ b, l[k]? = some b ∧ isDig b = false) : dcount m l = k := by
  have h := dcount_more k (m - k) l hl hd
  rw [show k + (m - k) = m by omega] at h
  have h0 : dcount (m - k) (l.drop k) = 0 := by
    rcases he with he | he | ⟨b, hb, hf⟩
    · rw [show m - k = 0 by omega, dcount]
    · rw [List.drop_eq_nil_of_le (by omega)]
      cases m - k <;> rfl
    · have hlt := (List.getElem?_eq_some_iff.1 hb).1
      rw [List.drop_eq_getElem_cons hlt]
      have e : l[k] = b := (List.getElem?_eq_some_iff.1 hb).2
      rw [e]
      cases m - k with
      | zero => rfl
      | succ q => rw [dcount, hf]; rfl
  omega
/-- The digits of a number. -/
def decG (n : Nat) : List UInt8 := if n < 10 then [UInt8.ofNat (48 + n)] else decG (n / 10) ++ [UInt8.ofNat (48 + n % 10)]
termination_by n
decreasing_by omega
theorem decG_small (n : Nat) (h : n < 100) : decG n = decL n := by
  rw [decG, decL]
  split
  · rfl
  · rw [decG, if_pos (by omega)]; rfl
/-- A number of at most two digits, as the program reads it: its value and its length. -/
def timesI (none : Int) (l : List UInt8) : Int × Nat := (if dcount 2 l = 0 then none else dval (l.take (dcount 2 l)), dcount 2 l)
/-- A number of at most three digits, as the given side reads it. -/
def numOk (l : List UInt8) : Bool := decide (l ≠ [] ∧ decG (dval l).toNat = l)
def timesS (l : List UInt8) : Int × Nat := if numOk (l.take (dcount 3 l)) then (dval (l.take (dcount 3 l)), dcount 3 l) else (0, 0)
theorem timesI_le (z : Int) (l : List UInt8) : (timesI z l).2 ≤ l.length := (dcount_le 2 l).2
theorem timesS_le (l : List UInt8) : (timesS l).2 ≤ l.length := by
  unfold timesS
  split
  · exact (dcount_le 3 l).2
  · exact Nat.zero_le _
/-- A group gets its times; its length is what stands behind it. -/
def closeP (ps : List PieceD) (g : Nat) (t : Int) : List PieceD := ps.modify g fun p => ⟨p.kind, t, (ps.length : Int) - 1 - g⟩
theorem closeP_length (ps : List PieceD) (g : Nat) (t : Int) : (closeP ps g t).length = ps.length := by simp [closeP]
/-- What the program reads: pieces so far, the open groups. -/
def rdI (l : List UInt8) (out : List PieceD) (gs : List Nat) : Option (List PieceD × List Nat) :=
  match l with
  | [] => some (out, gs)
  | b :: l =>
    if b = 32 then rdI l out gs
    else if b = 40 then
      if out.length + 1 ≤ 24 then rdI l (out ++ [⟨12, 0, 0⟩]) (gs ++ [out.length]) else none
    else if b = 41 then
      if gs = [] ∨ l.head? ≠ some 42 then none
      else rdI (l.tail.drop (timesI 0 l.tail).2) (closeP out (gs.getLast?.getD 0) (timesI 0 l.tail).1) gs.dropLast
    else if out.length + 1 ≤ 24 then rdI (l.drop (timesI 1 l).2) (out ++ [⟨kindB b, (timesI 1 l).1, 0⟩]) gs else none
termination_by l.length
decreasing_by all_goals (simp; try omega)
theorem rdI_nil (out : List PieceD) (gs : List Nat) : rdI [] out gs = some (out, gs) := by rw [rdI]
theorem rdI_space (l : List UInt8) (out : List PieceD) (gs : List Nat) : rdI (32 :: l) out gs = rdI l out gs := by rw [rdI, if_pos rfl]
theorem rdI_open {l : List UInt8} {out : List PieceD} {gs : List Nat} (h : out.length + 1 ≤ 24) : rdI (40 :: l) out gs = rdI l (out ++ [⟨12, 0, 0⟩]) (gs ++ [out.length]) := by rw [rdI, if_neg (by decide), if_pos rfl, if_pos h]
theorem rdI_full {l : List UInt8} {out : List PieceD} {gs : List Nat} (h : ¬ out.length + 1 ≤ 24) : rdI (40 :: l) out gs = none := by rw [rdI, if_neg (by decide), if_pos rfl, if_neg h]
theorem rdI_none {l : List UInt8} {out : List PieceD} {gs : List Nat} (h : gs = [] ∨ l.head? ≠ some 42) : rdI (41 :: l) out gs = none := by rw [rdI, if_neg (by decide), if_neg (by decide), if_pos rfl, if_pos h]
theorem rdI_close (l : List UInt8) (out : List PieceD) (gs : List Nat) (g : Nat) : rdI (41 :: 42 :: l) out (gs ++ [g]) = rdI (l.drop (timesI 0 l).2) (closeP out g (timesI 0 l).1) gs := by
  rw [rdI, if_neg (by decide), if_neg (by decide), if_pos rfl, if_neg (by simp), List.getLast?_concat, List.dropLast_concat]
  rfl
theorem rdI_plain {b : UInt8} {l : List UInt8} {out : List PieceD} {gs : List Nat} (h1 : b ≠ 32) (h2 : b ≠ 40) (h3 : b ≠ 41) (h : out.length + 1 ≤ 24) : rdI (b :: l) out gs = rdI (l.drop (timesI 1 l).2) (out ++ [⟨kindB b, (timesI 1 l).1, 0⟩]) gs := by
  rw [rdI, if_neg h1, if_neg h2, if_neg h3, if_pos h]
theorem rdI_over {b : UInt8} {l : List UInt8} {out : List PieceD} {gs : List Nat} (h1 : b ≠ 32) (h2 : b ≠ 40) (h3 : b ≠ 41) (h : ¬ out.length + 1 ≤ 24) : rdI (b :: l) out gs = none := by
  rw [rdI, if_neg h1, if_neg h2, if_neg h3, if_neg h]
/-- What the given side reads at some depth: what is left, the pieces, whether it failed. -/
def rdS : Nat → Nat → List UInt8 → List PieceD → Bool → List UInt8 × List PieceD × Bool
  | 0, _, l, ps, bad => (l, ps, bad)
  | n + 1, d, l, ps, bad =>
    if bad then (l, ps, true) else
    match l with
    | [] => ([], ps, false)
    | b :: l =>
      if b = 41 then (l, ps, false)
      else if b = 32 then rdS n d l ps (decide (24 < ps.length))
      else if b = 40 then
        if 3 ≤ d then (l, ps ++ [⟨12, 0, 0⟩], true)
        else
          match rdS n (d + 1) l (ps ++ [⟨12, 0, 0⟩]) false with
          | ([], ps1, _) => ([], ps1, true)
          | (c :: l2, ps1, bad1) =>
            if c = 42 then rdS n d (l2.drop (timesS l2).2) (closeP ps1 ps.length (timesS l2).1) (bad1 || decide (24 < ps1.length))
            else (c :: l2, ps1, true)
      else rdS n d (l.drop (timesS l).2) (ps ++ [⟨kindB b, if 0 < (timesS l).2 then (timesS l).1 else 1, 0⟩]) (decide (24 < ps.length + 1))
theorem rdS_zero (d : Nat) (l : List UInt8) (ps : List PieceD) (bad : Bool) : rdS 0 d l ps bad = (l, ps, bad) := rfl
theorem rdS_bad (n d : Nat) (l : List UInt8) (ps : List PieceD) : rdS (n + 1) d l ps true = (l, ps, true) := rfl
theorem rdS_nil (n d : Nat) (ps : List PieceD) : rdS (n + 1) d [] ps false = ([], ps, false) := rfl
theorem rdS_cons (n d : Nat) (b : UInt8) (l : List UInt8) (ps : List PieceD) : rdS (n + 1) d (b :: l) ps false =
    if b = 41 then (l, ps, false)
    else if b = 32 then rdS n d l ps (decide (24 < ps.length))
    else if b = 40 then
      if 3 ≤ d then (l, ps ++ [⟨12, 0, 0⟩], true)
      else
        match rdS n (d + 1) l (ps ++ [⟨12, 0, 0⟩]) false with
        | ([], ps1, _) => ([], ps1, true)
        | (c :: l2, ps1, bad1) =>
          if c = 42 then rdS n d (l2.drop (timesS l2).2) (closeP ps1 ps.length (timesS l2).1) (bad1 || decide (24 < ps1.length))
          else (c :: l2, ps1, true)
    else rdS n d (l.drop (timesS l).2) (ps ++ [⟨kindB b, if 0 < (timesS l).2 then (timesS l).1 else 1, 0⟩]) (decide (24 < ps.length + 1)) := rfl
theorem rdS_rest (n : Nat) : ∀ d l ps bad, (rdS n d l ps bad).1.length ≤ l.length := by
  induction n with
  | zero => intro d l ps bad; simp [rdS]
  | succ n ih =>
    intro d l ps bad
    cases bad with
    | true => exact Nat.le_refl _
    | false =>
      cases l with
      | nil => exact Nat.le_refl _
      | cons b l =>
        rw [rdS_cons]
        simp only [List.length_cons]
        split
        · simp
        · split
          · exact Nat.le_succ_of_le (ih _ _ _ _)
          · split
            · split
              · simp
              · have h1 := ih (d + 1) l (ps ++ [⟨12, 0, 0⟩]) false
                generalize rdS n (d + 1) l (ps ++ [⟨12, 0, 0⟩]) false = r at h1 ⊢
                obtain ⟨l1, ps1, bad1⟩ := r
                cases l1 with
                | nil => simp
                | cons c l2 =>
                  simp only [List.length_cons] at h1
                  simp only
                  split
                  · have h2 := ih d (l2.drop (timesS l2).2) (closeP ps1 ps.length (timesS l2).1) (bad1 || decide (24 < ps1.length))
                    simp only [List.length_drop] at h2
                    omega
                  · simp only [List.length_cons]; omega
            · have h2 := ih d (l.drop (timesS l).2) (ps ++ [⟨kindB b, if 0 < (timesS l).2 then (timesS l).1 else 1, 0⟩]) (decide (24 < ps.length + 1))
              simp only [List.length_drop] at h2
              omega
/-- The list with a text: what the program finds. -/
def goodRd (s : ByteArray) (ps : List PieceD) : Bool := piecesB ps && decide (txtP ps = s)
def readI (s : ByteArray) : Option (List PieceD) :=
  match rdI s.data.toList [] [] with
  | some (out, []) => if goodRd s out then some out else none
  | _ => none
def readS (s : ByteArray) : Option (List PieceD) :=
  if 384 < s.size then none else
  match rdS (s.size + 1) 0 s.data.toList [] false with
  | (_, out, false) => if goodRd s out then some out else none
  | _ => none

end Go.Proofs.YtcgbogofmdjddaaDoor

/- Reading pieces, plain: both sides find the pieces whose text it is. -/
namespace Go.Proofs.YtcgbogofmdjddaaDoor
open Go Go.RowKit

def txL (ps : List PieceD) : List UInt8 := (txtP ps).data.toList
def restL (ps : List PieceD) : List UInt8 := if ps = [] then [] else 32 :: txL ps
def tmL (none t : Int) : List UInt8 := if t = none then [] else decL t.toNat
theorem tmT_toList (none t : Int) : (tmT none t).data.toList = tmL none t := by
  unfold tmT tmL
  split <;> rfl
theorem partsP_eq_nil {ps : List PieceD} (h : partsP ps = []) : ps = [] := by
  cases ps with
  | nil => rfl
  | cons p r => rw [partsP] at h; split at h <;> cases h
theorem joinTail_cons (x : List UInt8) (xs : List (List UInt8)) : Lib.joinTail [32] (x :: xs) = 32 :: Lib.join (x :: xs) [32] := by
  rw [Lib.join_cons]; simp [Lib.joinTail]
theorem joinTail_rest (ps : List PieceD) : Lib.joinTail [32] ((partsP ps).map (·.data.toList)) = restL ps := by
  unfold restL
  split
  · rename_i h; rw [h, partsP_nil]; rfl
  · rename_i h
    cases hp : partsP ps with
    | nil => exact absurd (partsP_eq_nil hp) h
    | cons x xs => rw [List.map_cons, joinTail_cons, ← List.map_cons (f := fun y : ByteArray => y.data.toList), ← hp]; rfl
theorem txL_nil : txL [] = [] := by unfold txL txtP; rw [partsP_nil]; rfl
theorem txL_plain {p : PieceD} {r : List PieceD} (h : p.kind ≠ 12) : txL (p :: r) = symB p.kind.toNat :: (tmL 1 p.times ++ restL r) := by
  unfold txL txtP
  rw [partsP_plain h]
  show Lib.join (List.map _ (_ :: _)) [32] = _
  rw [List.map_cons, Lib.join_cons, joinTail_rest, oneT]
  simp [tmT_toList]
theorem txL_group {p : PieceD} {r : List PieceD} (h : p.kind = 12) : txL (p :: r) = 40 :: (txL (r.take p.len.toNat) ++ 41 :: 42 :: (tmL 0 p.times ++ restL (r.drop p.len.toNat))) := by
  unfold txL
  rw [txtP, partsP_group h]
  show Lib.join (List.map _ (_ :: _)) [32] = _
  rw [List.map_cons, Lib.join_cons, joinTail_rest, grpT]
  simp [tmT_toList]
/-- No digit stands at the head. -/
def noDig (l : List UInt8) : Prop := l = [] ∨ ∃ b r, l = b :: r ∧ isDig b = false
theorem noDig_rest {ps : List PieceD} {l : List UInt8} (h : noDig l) : noDig (restL ps ++ l) := by
  unfold restL
  split
  · exact h
  · exact .inr ⟨32, _, rfl, by decide⟩
theorem dcount_noDig {l : List UInt8} (h : noDig l) (n : Nat) : dcount n l = 0 := by
  rcases h with rfl | ⟨b, r, rfl, hb⟩
  · cases n <;> rfl
  · cases n with
    | zero => rfl
    | succ n => rw [dcount, hb]; rfl
theorem decL_digits {n : Nat} (h : n ≤ 16) : (decL n).all isDig = true ∧ dval (decL n) = n ∧ 1 ≤ (decL n).length ∧ (decL n).length ≤ 2 := by
  rcases cases17 h with rfl | rfl | rfl | rfl | rfl | rfl | rfl | rfl | rfl | rfl | rfl | rfl | rfl | rfl | rfl | rfl | rfl <;> decide
theorem dcount_all {a l : List UInt8} {m : Nat} (ha : a.all isDig = true) (hm : a.length ≤ m) (hl : noDig l) : dcount m (a ++ l) = a.length := by
  apply dcount_end hm (by simp)
  · intro j b hj hb
    rw [List.getElem?_append_left hj] at hb
    exact List.all_eq_true.1 ha b (List.mem_of_getElem? hb)
  · rcases hl with rfl | ⟨b, r, rfl, hb⟩
    · exact .inr (.inl (by simp))
    · exact .inr (.inr ⟨b, by simp, hb⟩)
theorem timesI_txt {z t : Int} {l : List UInt8} (h0 : 0 ≤ t) (h1 : t ≤ 16) (hl : noDig l) : timesI z (tmL z t ++ l) = (t, (tmL z t).length) := by
  unfold timesI tmL
  split
  · rename_i e
    rw [List.nil_append, dcount_noDig hl, if_pos rfl, e]; rfl
  · obtain ⟨d1, d2, d3, d4⟩ := decL_digits (n := t.toNat) (by omega)
    rw [dcount_all d1 d4 hl, if_neg (by omega), List.take_left, d2]
    rw [Int.toNat_of_nonneg h0]
theorem timesS_none {l : List UInt8} (hl : noDig l) : timesS l = (0, 0) := by
  unfold timesS
  rw [dcount_noDig hl, List.take_zero, if_neg (by decide)]
theorem timesS_txt {t : Int} {l : List UInt8} (h0 : 0 ≤ t) (h1 : t ≤ 16) (hl : noDig l) : timesS (decL t.toNat ++ l) = (t, (decL t.toNat).length) := by
  unfold timesS
  obtain ⟨d1, d2, d3, d4⟩ := decL_digits (n := t.toNat) (by omega)
  rw [dcount_all d1 (by omega) hl, List.take_left, d2]
  rw [if_pos, Int.toNat_of_nonneg h0]
  unfold numOk
  rw [d2, Int.toNat_natCast, decG_small _ (by omega)]
  refine decide_eq_true ⟨?_, rfl⟩
  intro e
  rw [e] at d3
  simp at d3
theorem sym_head {k : Nat} (h1 : 1 ≤ k) (h2 : k ≤ 11) : symB k ≠ 32 ∧ symB k ≠ 40 ∧ symB k ≠ 41 := by
  rcases cases11 h1 h2 with rfl | rfl | rfl | rfl | rfl | rfl | rfl | rfl | rfl | rfl | rfl <;> decide
theorem modify_mid (a b : List PieceD) (x : PieceD) (f : PieceD → PieceD) : (a ++ x :: b).modify a.length f = a ++ f x :: b := by
  induction a with
  | nil => rfl
  | cons y a ih => rw [List.cons_append, List.length_cons, List.modify_succ_cons, ih]; rfl
theorem close_mid (out inn : List PieceD) (t : Int) : closeP (out ++ [⟨12, 0, 0⟩] ++ inn) out.length t = out ++ ⟨12, t, (inn.length : Int)⟩ :: inn := by
  unfold closeP
  rw [List.append_assoc, List.singleton_append, modify_mid]
  simp
  omega
theorem plain_piece {p : PieceD} (h : plainP p = true) : ∃ k : Nat, 1 ≤ k ∧ k ≤ 11 ∧ p = ⟨(k : Int), p.times, 0⟩ ∧ 1 ≤ p.times ∧ p.times ≤ 16 := by
  obtain ⟨h1, h2, h3, h4⟩ := times_of h
  have := inR_iff.1 h4
  refine ⟨p.kind.toNat, by omega, by omega, ?_, h1, h2⟩
  rw [Int.toNat_of_nonneg (by omega), ← h3]
theorem good_nil (d : Nat) : Good d [] := by unfold Good; rw [rangeP_nil]; rfl
/-- What may stand behind pieces. -/
def endL (l : List UInt8) : Prop := l = [] ∨ ∃ r, l = 41 :: r
theorem endL.noDig {l : List UInt8} (h : endL l) : noDig l := by
  rcases h with rfl | ⟨r, rfl⟩
  · exact .inl rfl
  · exact .inr ⟨41, r, rfl, by decide⟩
theorem rdI_txt (m : Nat) : ∀ (d : Nat) (ps out : List PieceD) (gs : List Nat) (rest : List UInt8), ps.length ≤ m → Good d ps → out.length + ps.length ≤ 24 → endL rest → rdI (txL ps ++ rest) out gs = rdI rest (out ++ ps) gs := by
  induction m with
  | zero =>
    intro d ps out gs rest hm _ _ _
    have : ps = [] := by cases ps <;> simp_all
    subst this
    rw [txL_nil, List.nil_append, List.append_nil]
  | succ m ih =>
    intro d ps out gs rest hm hg hc hr
    cases ps with
    | nil => rw [txL_nil, List.nil_append, List.append_nil]
    | cons p r =>
      simp only [List.length_cons] at hm hc
      have key : ∀ (e : Nat) (r' out' : List PieceD), r'.length ≤ m → Good e r' → out'.length + r'.length ≤ 24 → rdI (restL r' ++ rest) out' gs = rdI rest (out' ++ r') gs := by
        intro e r' out' h1 h2 h3
        unfold restL
        split
        · rename_i e; rw [e, List.nil_append, List.append_nil]
        · rw [List.cons_append, rdI_space]
          exact ih e r' out' gs rest h1 h2 h3 hr
      by_cases hk : p.kind = 12
      · obtain ⟨_, h1, h2, h3, h4, _, h5, h6⟩ := good_group hg hk
        have hlen : (r.take p.len.toNat).length = p.len.toNat := by rw [List.length_take]; omega
        rw [txL_group hk, List.cons_append, rdI_open (by omega), List.append_assoc, List.cons_append, List.cons_append, ih (d + 1) _ _ _ _ (by omega) h5 (by simp only [List.length_append, List.length_cons, List.length_nil]; omega) (.inr ⟨_, rfl⟩)]
        rw [rdI_close, List.append_assoc, timesI_txt h3 h4 (noDig_rest hr.noDig), List.drop_left, close_mid, key d (r.drop p.len.toNat) _ (by simp; omega) h6 (by simp; omega)]
        congr 1
        rw [List.append_assoc, List.cons_append, List.take_append_drop, hlen, Int.toNat_of_nonneg (by omega)]
        congr 2
        rw [← hk]
      · obtain ⟨h1, h2⟩ := good_plain hg hk
        obtain ⟨k, k1, k2, hp, t1, t2⟩ := plain_piece h1
        obtain ⟨s1, s2, s3⟩ := sym_head k1 k2
        have hkk : p.kind.toNat = k := by rw [hp]; simp
        rw [txL_plain hk, hkk, List.cons_append, rdI_plain s1 s2 s3 (by omega), List.append_assoc, timesI_txt (by omega) t2 (noDig_rest hr.noDig), List.drop_left, kindB_found k1 k2 rfl]
        rw [key d r _ (by omega) h2 (by simp; omega), List.append_assoc]
        congr 2
        rw [← hp]; rfl
theorem rdS_txt (m : Nat) : ∀ (d n : Nat) (ps out : List PieceD) (rest : List UInt8), ps.length ≤ m → Good d ps → out.length + ps.length ≤ 24 → endL rest → (txL ps ++ rest).length ≤ n → ∃ n', rest.length ≤ n' ∧ rdS n d (txL ps ++ rest) out false = rdS n' d rest (out ++ ps) false := by
  induction m with
  | zero =>
    intro d n ps out rest hm _ _ _ hn
    have : ps = [] := by cases ps <;> simp_all
    subst this
    rw [txL_nil, List.nil_append] at hn ⊢
    exact ⟨n, hn, by rw [List.append_nil]⟩
  | succ m ih =>
    intro d n ps out rest hm hg hc hr hn
    cases ps with
    | nil =>
      rw [txL_nil, List.nil_append] at hn ⊢
      exact ⟨n, hn, by rw [List.append_nil]⟩
    | cons p r =>
      simp only [List.length_cons] at hm hc
      have key : ∀ (e n : Nat) (r' out' : List PieceD), r'.length ≤ m → Good e r' → out'.length + r'.length ≤ 24 → (restL r' ++ rest).length ≤ n → ∃ n', rest.length ≤ n' ∧ rdS n e (restL r' ++ rest) out' false = rdS n' e rest (out' ++ r') false := by
        intro e n r' out' h1 h2 h3 h4
        unfold restL at h4 ⊢
        split
        · rename_i e'
          rw [if_pos e', List.nil_append] at h4
          exact ⟨n, h4, by rw [e', List.nil_append, List.append_nil]⟩
        · rename_i e'
          rw [if_neg e', List.cons_append, List.length_cons] at h4
          obtain ⟨n1, rfl⟩ : ∃ n1, n = n1 + 1 := ⟨n - 1, by omega⟩
          rw [List.cons_append, rdS_cons, if_neg (by decide), if_pos rfl, decide_eq_false (by omega)]
          exact ih e n1 r' out' rest h1 h2 h3 hr (by omega)
      by_cases hk : p.kind = 12
      · obtain ⟨hd, h1, h2, h3, h4, _, h5, h6⟩ := good_group hg hk
        have hlen : (r.take p.len.toNat).length = p.len.toNat := by rw [List.length_take]; omega
        rw [txL_group hk, List.cons_append, List.length_cons] at hn
        obtain ⟨n1, rfl⟩ : ∃ n1, n = n1 + 1 := ⟨n - 1, by omega⟩
        rw [txL_group hk, List.cons_append, rdS_cons]
        rw [List.append_assoc] at hn ⊢
        obtain ⟨n2, hn2, e2⟩ := ih (d + 1) n1 (r.take p.len.toNat) (out ++ [⟨12, 0, 0⟩]) (41 :: 42 :: (tmL 0 p.times ++ restL (r.drop p.len.toNat)) ++ rest) (by omega) h5 (by simp only [List.length_append, List.length_cons, List.length_nil]; omega) (.inr ⟨_, rfl⟩) (by omega)
        simp only [List.cons_append, List.length_cons] at hn2
        obtain ⟨n3, rfl⟩ : ∃ n3, n2 = n3 + 1 := ⟨n2 - 1, by omega⟩
        rw [if_neg (by decide), if_neg (by decide), if_pos rfl, if_neg (by omega), e2, List.cons_append, rdS_cons, if_pos rfl]
        simp only [if_true, List.cons_append, Bool.false_or]
        have hs : timesS (tmL 0 p.times ++ restL (r.drop p.len.toNat) ++ rest) = (p.times, (tmL 0 p.times).length) := by
          rw [List.append_assoc]
          unfold tmL
          split
          · rename_i e; rw [List.nil_append, timesS_none (noDig_rest hr.noDig), e]; rfl
          · exact timesS_txt h3 h4 (noDig_rest hr.noDig)
        rw [hs]
        simp only
        rw [List.append_assoc, List.drop_left, close_mid, decide_eq_false (by simp; omega)]
        have hq : (restL (r.drop p.len.toNat) ++ rest).length ≤ n1 := by
          simp only [List.length_append, List.length_cons] at hn ⊢
          omega
        obtain ⟨n4, hn4, e4⟩ := key d n1 (r.drop p.len.toNat) (out ++ ⟨12, p.times, ((r.take p.len.toNat).length : Int)⟩ :: r.take p.len.toNat) (by simp; omega) h6 (by simp; omega) hq
        refine ⟨n4, hn4, ?_⟩
        rw [e4]
        congr 1
        rw [List.append_assoc, List.cons_append, List.take_append_drop, hlen, Int.toNat_of_nonneg (by omega)]
        congr 2
        rw [← hk]
      · obtain ⟨h1, h2⟩ := good_plain hg hk
        obtain ⟨k, k1, k2, hp, t1, t2⟩ := plain_piece h1
        obtain ⟨s1, s2, s3⟩ := sym_head k1 k2
        have hkk : p.kind.toNat = k := by rw [hp]; simp
        rw [txL_plain hk, hkk, List.cons_append, List.length_cons, List.append_assoc] at hn
        obtain ⟨n1, rfl⟩ : ∃ n1, n = n1 + 1 := ⟨n - 1, by omega⟩
        rw [txL_plain hk, hkk, List.cons_append, rdS_cons, if_neg s3, if_neg s1, if_neg s2, List.append_assoc, kindB_found k1 k2 rfl]
        have hs : (timesS (tmL 1 p.times ++ (restL r ++ rest))).2 = (tmL 1 p.times).length ∧ (if 0 < (timesS (tmL 1 p.times ++ (restL r ++ rest))).2 then (timesS (tmL 1 p.times ++ (restL r ++ rest))).1 else 1) = p.times := by
          unfold tmL
          split
          · rename_i e; rw [List.nil_append, timesS_none (noDig_rest hr.noDig), e]; exact ⟨rfl, rfl⟩
          · rw [timesS_txt (by omega) t2 (noDig_rest hr.noDig)]
            have := (decL_digits (n := p.times.toNat) (by omega)).2.2.1
            exact ⟨rfl, if_pos (by simp only; omega)⟩
        rw [hs.2, hs.1, List.drop_left, decide_eq_false (by omega)]
        have hq : (restL r ++ rest).length ≤ n1 := by
          simp only [List.length_append] at hn ⊢
          omega
        obtain ⟨n4, hn4, e4⟩ := key d n1 r (out ++ [⟨(k : Int), p.times, 0⟩]) (by omega) h2 (by simp; omega) hq
        refine ⟨n4, hn4, ?_⟩
        rw [e4, List.append_assoc]
        congr 2
        rw [← hp]; rfl
theorem pieces_good {ps : List PieceD} (h : piecesB ps = true) : Good 0 ps ∧ ps.length ≤ 24 := by
  unfold piecesB at h
  simp only [Bool.and_eq_true, decide_eq_true_eq] at h
  refine ⟨?_, h.1⟩
  unfold Good
  cases hr : rangeP 0 ps with
  | none => rw [hr] at h; cases h.2
  | some o => rfl
theorem goodRd_iff {s : ByteArray} {ps : List PieceD} : goodRd s ps = true ↔ piecesB ps = true ∧ txtP ps = s := by simp [goodRd]
theorem readI_iff (s : ByteArray) (ps : List PieceD) : readI s = some ps ↔ goodRd s ps = true := by
  constructor
  · intro h
    unfold readI at h
    split at h
    · split at h
      · rename_i hg; injection h with h; rw [← h]; exact hg
      · cases h
    · cases h
  · intro h
    obtain ⟨h1, h2⟩ := goodRd_iff.1 h
    obtain ⟨hg, hl⟩ := pieces_good h1
    have e := rdI_txt ps.length 0 ps [] [] [] (Nat.le_refl _) hg (by simpa using hl) (.inl rfl)
    rw [List.append_nil, List.nil_append, rdI_nil] at e
    have e2 : s.data.toList = txL ps := by rw [← h2]; rfl
    unfold readI
    rw [e2, e]
    simp only
    rw [if_pos h]
theorem readS_iff (s : ByteArray) (ps : List PieceD) : readS s = some ps ↔ goodRd s ps = true := by
  constructor
  · intro h
    unfold readS at h
    split at h
    · cases h
    · split at h
      · split at h
        · rename_i hg; injection h with h; rw [← h]; exact hg
        · cases h
      · cases h
  · intro h
    obtain ⟨h1, h2⟩ := goodRd_iff.1 h
    obtain ⟨hg, hl⟩ := pieces_good h1
    have hsz := (txt_small hg).1
    rw [h2] at hsz
    have e2 : s.data.toList = txL ps := by rw [← h2]; rfl
    have hzl : (txL ps ++ []).length ≤ s.size + 1 := by rw [List.append_nil, ← e2, ← ba_size]; omega
    obtain ⟨n', _, e⟩ := rdS_txt ps.length 0 (s.size + 1) ps [] [] (Nat.le_refl _) hg (by simpa using hl) (.inl rfl) hzl
    have e0 : rdS n' 0 [] ps false = ([], ps, false) := by cases n' <;> rfl
    rw [List.append_nil, List.nil_append, e0, ← e2] at e
    unfold readS
    rw [if_neg (by omega), e]
    simp only
    rw [if_pos h]
theorem readS_eq (s : ByteArray) : readS s = readI s := by
  cases h : readI s with
  | none =>
    cases h2 : readS s with
    | none => rfl
    | some ps => rw [(readI_iff s ps).2 ((readS_iff s ps).1 h2)] at h; cases h
  | some ps => exact (readS_iff s ps).2 ((readI_iff s ps).1 h)
/-- The results of ReadPieces. -/
def rpP (s : ByteArray) : List PieceD := (readI s).getD []
def rpOk (s : ByteArray) : Bool := (readI s).isSome
theorem rpP_length (s : ByteArray) : (rpP s).length ≤ 24 := by
  unfold rpP
  cases h : readI s with
  | none => simp
  | some ps => exact (pieces_good (goodRd_iff.1 ((readI_iff s ps).1 h)).1).2

end Go.Proofs.YtcgbogofmdjddaaDoor

/- Texts of pieces: the given side. -/
namespace Go.Proofs.YtcgbogofmdjddaaDoor
open Go Go.RowKit

set_option maxHeartbeats 4000000 in
set_option maxRecDepth 10000 in
theorem spec_l16Text (m : Nat) : ∀ (ps : List PieceD) (A : Option Addr) (c d : Nat) (w : World), ps.length ≤ m → ps.length ≤ 100 → ps.length ≤ c → c ≤ 9223372036854775807 → Pieces w A ps → Good d ps →
    Calls Tryd.prog 49 #[.slice A ps.length c] w fun e w' => e = .returned (.string (txtP ps)) ∧ Below w.heap.size w w' := by
  induction m using Nat.strongRecOn with
  | ind m ih =>
  intro ps A c d w hm hl hc hcm h hg
  have IH := Lib.hid ih; clear ih
  have HSZ := Lib.hid (fun xs ys he => txt_sizes hg hl (xs := xs) (ys := ys) he)
  go_enter Tryd.func49, Tryd.ntmps49
  go_wp2_with (fail)
  go_loopw [3, 4] (fun ov iv wr => ∃ (k : Nat) (xs : List ByteArray), k ≤ ps.length ∧ iv = .int .i64 k ∧ ov = .string (joinB xs) ∧ Hid (partsP ps = xs ++ partsP (ps.drop k)) ∧ Hid (Good d (ps.drop k)) ∧ Below w.heap.size w wr) (fun _ iv _ => ps.length - (intOf iv).toNat)
  case atStart => exact ⟨0, [], Nat.zero_le _, rfl, rfl, Lib.hid rfl, Lib.hid hg, Below.refl _ _⟩
  case round =>
    obtain ⟨k, xs, hk, rfl, rfl, HS, HG, hb⟩ := hrel
    have hz := hb.size
    by_cases hlt : k < ps.length
    · obtain ⟨b1, off, p, rfl, hp, p0, p1, p2⟩ := (h.below hb) k hlt
      have HP := Lib.hid hp; clear hp
      have j1 : (0 : Int) ≤ (k : Int) := by omega
      have j2 : (k : Int) < (ps.length : Int) := by omega
      have HX := Lib.hid (sep_next HS.out)
      obtain ⟨z1, z2⟩ := HSZ.out _ _ HS.out
      obtain ⟨w5, hw5⟩ : ∃ w5, w5 = wr.alloc (.cells #[.int .i64 p.kind, .int .i64 p.times, .int .i64 p.len] 45) := ⟨_, rfl⟩
      have b5 : Below wr.heap.size wr w5 := by rw [hw5]; (repeat (first | exact Below.refl _ _ | assumption | apply Below.drew | apply below_drewN | (refine Below.alloc ?_ (by first | omega | (simp; done) | (simp; omega)) _) | (refine Below.setCell ?_ (by first | omega | (simp; done) | (simp; omega)) _)))
      obtain ⟨g5, hg5⟩ : ∃ g5, g5 = wr.heap.size := ⟨_, rfl⟩
      have k5 : Blk w5 g5 45 #[.int .i64 p.kind, .int .i64 p.times, .int .i64 p.len] := by rw [hw5, hg5]; exact Blk.new _ _ _
      have hb5 : Below w.heap.size w w5 := hb.trans (b5.mono hz)
      have hgl := k5.lt
      go_upto_region 6 with fail
      rw [← hw5, ← hg5]
      clear hw5 hg5 p0 p1 p2
      go_upto_if 17 with fail
      go_cut [3] (fun tv wx => tv = .string (sepB xs) ∧ w5 = wx)
      case first =>
        by_cases he : joinB xs = ⟨#[]⟩
        · have HE : Hid (sepB xs = ⟨#[]⟩) := Lib.hid (by rw [sepB, if_pos he])
          have hne : (!(joinB xs).toList.isEmpty) = false := by rw [ba_isEmpty he]; rfl
          have HJ := Lib.hid he; clear he
          generalize joinB xs = t0 at *
          go_wp2_with (fail)
          all_goals first | (rename_i hx; rw [hne] at hx; exact absurd hx (by decide)) | (go_meet; exact ⟨by rw [HE.out, HJ.out], rfl⟩)
        · have HE : Hid (sepB xs = joinB xs ++ ⟨#[32]⟩) := Lib.hid (by rw [sepB, if_neg he])
          have hne : (!(joinB xs).toList.isEmpty) = true := by rw [ba_notEmpty he]; rfl
          clear he
          generalize joinB xs = t0 at *
          go_wp2_with (fail)
          all_goals first | (rename_i hx; rw [hne] at hx; exact absurd hx (by decide)) | (go_meet; exact ⟨by rw [HE.out], rfl⟩)
      case rest =>
      obtain ⟨rfl, rfl⟩ := hcut
      clear z1
      obtain ⟨q0, q1, q2⟩ := k5.c3
      by_cases hk12 : p.kind = 12
      · obtain ⟨n, hnl, hn1, hn2, _, _, ht0, ht16, hg2, hg3, _, _⟩ := good_at_group HG.out HP.out hk12
        have HXG := Lib.hid (parts_at_group HP.out hk12 hnl)
        have HG3 := Lib.hid hg3; clear hg3
        rw [hnl] at q2 k5
        have i1 : (k : Int) + 1 ≤ (k : Int) + 1 + (n : Int) := by omega
        have i2 : (k : Int) + 1 + (n : Int) ≤ (c : Int) := by omega
        have w1 : IntKind.i64.wrap ((k : Int) + 1) = (k : Int) + 1 := IntWalk.i64_in _ (by omega)
        have w2 : IntKind.i64.wrap ((k : Int) + 1 + (n : Int)) = (k : Int) + 1 + (n : Int) := IntWalk.i64_in _ (by omega)
        have w3 : ((k : Int) + 1).toNat = k + 1 := by omega
        have w4 : ((k : Int) + 1 + (n : Int)).toNat = k + 1 + n := by omega
        have w5 : (0 : Int) ≤ (k : Int) + 1 := by omega
        have w6 : (0 : Int) ≤ (k : Int) + 1 + (n : Int) := by omega
        have w7 : (k : Int) + 1 ≤ max ((k : Int) + 1 + (n : Int)) 0 := by omega
        have w8 : ¬ c = k + 1 := by omega
        have w9 : k + 1 + n - (k + 1) = n := by omega
        have w10 : IntKind.i64.wrap ((k : Int) + (n : Int)) = (k : Int) + (n : Int) := IntWalk.i64_in _ (by omega)
        have hsl : (segP ps (k + 1) (k + 1 + n)).length = n := by rw [segP_length hn2]; omega
        have HIC : Hid (∀ (W : World), Below w.heap.size w W → Calls Tryd.prog 49 #[.slice (some ⟨b1, off + (k + 1) * 3, none⟩) n (c - (k + 1))] W fun e w' => e = .returned (.string (txtP (segP ps (k + 1) (k + 1 + n)))) ∧ Below W.heap.size W w') := Lib.hid (fun W hW => by
          have := IH.out n (by omega) (segP ps (k + 1) (k + 1 + n)) (some ⟨b1, off + (k + 1) * 3, none⟩) (c - (k + 1)) (d + 1) W (by rw [hsl]; exact Nat.le_refl _) (by rw [hsl]; omega) (by rw [hsl]; omega) (by omega) ((Pieces.seg h hn2).below hW) hg2
          rwa [hsl] at this)
        have hit : (txtP (segP ps (k + 1) (k + 1 + n))).size ≤ 800 := by
          have := (txt_small hg2).1
          rw [hsl] at this
          omega
        clear hsl hg2 hnl
        have hk' : (p.kind != 12) = false := by simp [hk12]
        clear hk12
        obtain ⟨T, hT⟩ := Int.eq_ofNat_of_zero_le ht0
        have hGE : ∀ i, grpT p i = (((⟨#[40]⟩ : ByteArray) ++ i) ++ ⟨#[41, 42]⟩) ++ tmT 0 T := fun i => by rw [grpT, hT]
        have HGE := Lib.hid hGE; clear hGE
        rw [hT] at q1 k5
        generalize txtP (segP ps (k + 1) (k + 1 + n)) = it at *
        generalize sepB xs = s0 at *
        go_wp2_with (fail)
        refine (HIC.out _ hb5).mono ?_; rintro e w7 ⟨rfl, b7⟩
        have hb7 : Below w.heap.size w w7 := hb5.trans (b7.mono hb5.size)
        have k7 := k5.below b7 hgl
        obtain ⟨y0, y1, y2⟩ := k7.c3
        by_cases hTz : T = 0
        · have d1 : decide (0 < T) = false := decide_eq_false (by omega)
          have HF : Hid (s0 ++ grpT p it = s0 ++ (((⟨#[40]⟩ : ByteArray) ++ it) ++ ⟨#[41, 42]⟩)) := Lib.hid (by rw [HGE.out, hTz]; simp [tmT, ba_nil])
          clear hTz
          go_wp2_with (fail)
          exact ⟨⟨k + 1 + n, xs ++ [grpT p it], by omega, by go_num, by rw [HX.out, HF.out], Lib.hid (by rw [HS.out, HXG.out, List.append_assoc]; rfl), HG3, hb7⟩, by simp [intOf]; omega⟩
        · have d1 : decide (0 < T) = true := decide_eq_true (by omega)
          have HF : Hid (s0 ++ grpT p it = (s0 ++ (((⟨#[40]⟩ : ByteArray) ++ it) ++ ⟨#[41, 42]⟩)) ++ decT T) := Lib.hid (by
            rw [HGE.out, tmT, if_neg (by omega), Int.toNat_natCast, ba_assoc s0])
          have hds := decT_size T
          go_wp2_with (fail)
          refine (spec_l01Dec T ⟨by omega, by omega⟩ _).mono ?_; rintro e w8 ⟨rfl, b8⟩
          have hb8 : Below w.heap.size w w8 := hb7.trans (b8.mono hb7.size)
          have k8 := k7.below b8 k7.lt
          obtain ⟨v0, v1, v2⟩ := k8.c3
          clear hTz
          generalize decT T = dt at *
          go_wp2_with (fail)
          exact ⟨⟨k + 1 + n, xs ++ [grpT p it], by omega, by go_num, by rw [HX.out, HF.out], Lib.hid (by rw [HS.out, HXG.out, List.append_assoc]; rfl), HG3, hb8⟩, by simp [intOf]; omega⟩
      · obtain ⟨hpl, hg2⟩ := good_at_plain HG.out HP.out hk12
        have HG2 := Lib.hid hg2; clear hg2
        obtain ⟨t1, t2, hp0, hst⟩ := times_of hpl
        have HXG := Lib.hid (parts_at_plain HP.out hk12)
        have hst' := inR_iff.1 hst
        have hk' : (p.kind != 12) = true := by simp [hk12]
        obtain ⟨T, hT⟩ := Int.eq_ofNat_of_zero_le (show 0 ≤ p.times by omega)
        obtain ⟨s, hs⟩ := Int.eq_ofNat_of_zero_le (show 0 ≤ p.kind by omega)
        have hOE : oneT p = ⟨#[symB s]⟩ ++ tmT 1 T := by rw [oneT, hT, hs]; rfl
        have HOE := Lib.hid hOE; clear hOE
        rw [hT, hs, hp0] at k5
        rw [hT] at q1 t1 t2
        rw [hs] at q0 hk' hst'
        rw [hp0] at q2
        clear hk12 hpl hp0
        generalize sepB xs = s0 at *
        go_wp2_with (fail)
        refine (spec_SymbolOf s _ (by omega) (by omega)).mono ?_; rintro e _ ⟨rfl, rfl⟩
        by_cases hT1 : T = 1
        · have d1 : decide ((1 : Int) < (T : Int)) = false := decide_eq_false (by omega)
          have HF : Hid (s0 ++ oneT p = s0 ++ ⟨#[symB s]⟩) := Lib.hid (by rw [HOE.out, hT1]; simp [tmT, ba_nil])
          clear hT1
          go_wp2_with (fail)
          exact ⟨⟨k + 1, xs ++ [oneT p], by omega, by go_num, by rw [HX.out, HF.out], Lib.hid (by rw [HS.out, HXG.out, List.append_assoc]; rfl), HG2, hb5⟩, by simp [intOf]; omega⟩
        · have d1 : decide ((1 : Int) < (T : Int)) = true := decide_eq_true (by omega)
          have HF : Hid (s0 ++ oneT p = (s0 ++ ⟨#[symB s]⟩) ++ decT T) := Lib.hid (by
            rw [HOE.out, tmT, if_neg (by omega), Int.toNat_natCast, ba_assoc s0])
          have hds := decT_size T
          go_wp2_with (fail)
          refine (spec_l01Dec T ⟨by omega, by omega⟩ _).mono ?_; rintro e w8 ⟨rfl, b8⟩
          have hb8 : Below w.heap.size w w8 := hb5.trans (b8.mono hb5.size)
          clear hT1
          generalize decT T = dt at *
          go_wp2_with (fail)
          exact ⟨⟨k + 1, xs ++ [oneT p], by omega, by go_num, by rw [HX.out, HF.out], Lib.hid (by rw [HS.out, HXG.out, List.append_assoc]; rfl), HG2, hb8⟩, by simp [intOf]; omega⟩
    · obtain rfl : k = ps.length := by omega
      have he := HS.out
      rw [drop_all (Nat.le_refl _), partsP_nil, List.append_nil] at he
      have HE := Lib.hid he; clear he
      go_wp2_with (fail)
      go_ret
      exact ⟨by rw [txtP, HE.out]; rfl, hb⟩

end Go.Proofs.YtcgbogofmdjddaaDoor

/- Texts of pieces: the program's side, PiecesText. -/
namespace Go.Proofs.YtcgbogofmdjddaaDoor
open Go Go.RowKit

def PtxAt (n : Nat) : Prop := ∀ (ps : List PieceD) (A : Option Addr) (c d : Nat) (w : World), ps.length < n → ps.length ≤ 100 → ps.length ≤ c → c ≤ 9223372036854775807 → Pieces w A ps → Good d ps →
    Calls Tryd.prog 53 #[.slice A ps.length c] w fun e w' => e = .returned (.string (txtP ps)) ∧ Below w.heap.size w w'

theorem impl_Join (xs : List ByteArray) (A : Option Addr) (c lo hi : Nat) (w : World) (h : OwnC w lo hi 9 1 A xs.length c (xs.map Value.string)) (hh : hi ≤ w.heap.size) (hl : xs.length ≤ 1000) (hs : (joinB xs).size ≤ 100000) :
    Calls Tryd.prog 91 #[.slice A xs.length c, .string ⟨#[32]⟩] w fun e w' => e = .returned (.string (joinB xs)) ∧ Below w.heap.size w w' := by
  cases xs with
  | nil =>
    refine (shelf_strings_Join_none A c ⟨#[32]⟩ w).mono ?_
    rintro e w' ⟨rfl, rfl⟩
    exact ⟨rfl, Below.refl _ _⟩
  | cons x r =>
    have hnews := h.news
    rcases h.form with ⟨_, hn, _⟩ | ⟨g, cur, hA, _, h2, _, hn, _⟩
    · simp at hn
    · subst hA
      refine (shelf_strings_Join g 0 c (x :: r) ⟨#[32]⟩ w ?_ (Nat.lt_of_lt_of_le h2 hh) (by omega) hn ?_).mono ?_
      · intro j y hy
        obtain ⟨b, off, hb, hc⟩ := hnews j (.string y) (by rw [List.getElem?_map, hy]; rfl)
        injection hb with hb
        injection hb with hb1 hb2
        subst hb1 hb2
        exact hc
      · have := joinB_size (x :: r)
        have e : (⟨#[32]⟩ : ByteArray).data.toList = [32] := rfl
        rw [e, ← this]
        omega
      · rintro e w' ⟨rfl, hb⟩
        exact ⟨rfl, hb⟩

set_option maxHeartbeats 4000000 in
set_option maxRecDepth 10000 in
theorem eachPiece_ptx (ps : List PieceD) (A : Option Addr) (c d gO lo : Nat) (A1 : Option Addr) (c1 : Nat) (w0 w : World) (IH : Hid (PtxAt ps.length)) (hl : ps.length ≤ 100) (hc : ps.length ≤ c) (hcm : c ≤ 9223372036854775807) (h : Pieces w0 A ps) (hw0 : w0.heap.size ≤ lo) (hb0 : Below w0.heap.size w0 w) (hg : Good d ps) (hx : TS w gO lo A1 c1 []) :
    Calls Tryd.prog 87 #[.slice A ps.length c, .func (.func 88) #[] #[.pointer (some ⟨gO, 0, none⟩)]] w fun e w' =>
      e = .returned (.tuple #[]) ∧ (∃ A2 c2, TS w' gO lo A2 c2 (partsP ps)) ∧ Below lo w w' := by
  have HSM : Hid ((partsP ps).length ≤ 800) := Lib.hid (by
    have h1 := (txt_small hg).2
    omega)
  go_enter Tryd.func87, Tryd.ntmps87
  go_wp2_with (fail)
  go_loopw [4] (fun iv wr => ∃ (k : Nat) (A2 : Option Addr) (c2 : Nat) (out : List ByteArray), k ≤ ps.length ∧ iv = .int .i64 k ∧ TS wr gO lo A2 c2 out ∧ Hid (partsP ps = out ++ partsP (ps.drop k)) ∧ Hid (Good d (ps.drop k)) ∧ Below lo w wr) (fun iv _ => ps.length - (intOf iv).toNat)
  case atStart => exact ⟨0, A1, c1, [], Nat.zero_le _, rfl, hx, Lib.hid rfl, Lib.hid hg, Below.refl _ _⟩
  case round =>
    obtain ⟨k, A2, c2, out, hk, rfl, hbx, HS, HG, hb⟩ := hrel
    have hbw : Below w0.heap.size w0 wr := hb0.trans (hb.mono hw0)
    have lo1 := hbx.ord
    have hol : out.length ≤ 800 := by
      have h1 := HSM.out
      rw [HS.out, List.length_append] at h1
      omega
    by_cases hlt : k < ps.length
    · obtain ⟨b1, off, p, rfl, hp, p0, p1, p2⟩ := (h.below hbw) k hlt
      have HP := Lib.hid hp; clear hp
      have j1 : (0 : Int) ≤ (k : Int) := by omega
      have j2 : (k : Int) < (ps.length : Int) := by omega
      by_cases hk12 : p.kind = 12
      · obtain ⟨n, hnl, hn1, hn2, _, _, ht0, ht16, hg2, hg3, _, _⟩ := good_at_group HG.out HP.out hk12
        have HXG := Lib.hid (parts_at_group HP.out hk12 hnl)
        have HG3 := Lib.hid hg3; clear hg3
        have HNL := Lib.hid hnl
        rw [hnl] at p2
        have w1 : IntKind.i64.wrap ((k : Int) + 1) = (k : Int) + 1 := IntWalk.i64_in _ (by omega)
        have w2 : IntKind.i64.wrap ((k : Int) + 1 + (n : Int)) = (k : Int) + 1 + (n : Int) := IntWalk.i64_in _ (by omega)
        have w3 : ((k : Int) + 1).toNat = k + 1 := by omega
        have w4 : ((k : Int) + 1 + (n : Int)).toNat = k + 1 + n := by omega
        have w5 : (0 : Int) ≤ (k : Int) + 1 := by omega
        have w6 : (0 : Int) ≤ (k : Int) + 1 + (n : Int) := by omega
        have w7 : (k : Int) + 1 ≤ max ((k : Int) + 1 + (n : Int)) 0 := by omega
        have w8 : ¬ c = k + 1 := by omega
        have w9 : k + 1 + n - (k + 1) = n := by omega
        have i1 : (k : Int) + 1 ≤ (k : Int) + 1 + (n : Int) := by omega
        have i2 : (k : Int) + 1 + (n : Int) ≤ (c : Int) := by omega
        have hsl : (segP ps (k + 1) (k + 1 + n)).length = n := by rw [segP_length hn2]; omega
        have hpl : (txtP (segP ps (k + 1) (k + 1 + n))).size ≤ 800 := by
          have h1 := (txt_small hg2).1
          rw [hsl] at h1
          omega
        have HIC : Hid (Calls Tryd.prog 88 #[.agg #[.int .i64 p.kind, .int .i64 p.times, .int .i64 (n : Int)], .slice (some ⟨b1, off + (k + 1) * 3, none⟩) n (c - (k + 1)), .pointer (some ⟨gO, 0, none⟩)] (World.drew wr) fun e w' =>
            e = .returned (.tuple #[]) ∧ (∃ A2 c2, TS w' gO lo A2 c2 (out ++ [grpT p (txtP (segP ps (k + 1) (k + 1 + n)))])) ∧ Below lo (World.drew wr) w') := Lib.hid (by
          have := ptx_group p (txtP (segP ps (k + 1) (k + 1 + n))) (some ⟨b1, off + (k + 1) * 3, none⟩) n (c - (k + 1)) gO lo A2 c2 out (World.drew wr) hbx.drew hk12 ⟨ht0, ht16⟩ hol hpl (Lib.hid fun W hW => by
            have := IH.out (segP ps (k + 1) (k + 1 + n)) (some ⟨b1, off + (k + 1) * 3, none⟩) (c - (k + 1)) (d + 1) W (by rw [hsl]; omega) (by rw [hsl]; omega) (by rw [hsl]; omega) (by omega) ((Pieces.seg h hn2).below ((Below.drew2 hbw).trans (hW.mono hw0))) hg2
            rwa [hsl] at this)
          rwa [hnl] at this)
        clear hsl hg2 hnl hk12 hpl
        go_wp2_with (fail)
        go_region_law (go_simp; go_at_call 88; refine HIC.out.mono ?_; rintro e w2 ⟨rfl, ⟨A3, c3, hbx2⟩, b2⟩)
        all_goals go_wp2_with (fail)
        all_goals
          have hb2 : Below lo w w2 := (Below.drew2 hb).trans b2
          exact ⟨⟨k + 1 + n, A3, c3, _, by omega, by go_num, hbx2, Lib.hid (by rw [HS.out, HXG.out, List.append_assoc]; rfl), HG3, hb2⟩, by simp [intOf]; omega⟩
      · obtain ⟨hpl, hg2⟩ := good_at_plain HG.out HP.out hk12
        have HG2 := Lib.hid hg2; clear hg2
        obtain ⟨t1, t2, hp0, hst⟩ := times_of hpl
        have HXG := Lib.hid (parts_at_plain HP.out hk12)
        rw [hp0] at p2
        have w1 : IntKind.i64.wrap ((k : Int) + 1) = (k : Int) + 1 := IntWalk.i64_in _ (by omega)
        have w3 : ((k : Int) + 1).toNat = k + 1 := by omega
        have w5 : (0 : Int) ≤ (k : Int) + 1 := by omega
        have w7 : (k : Int) + 1 ≤ max ((k : Int) + 1) 0 := by omega
        have i2 : (k : Int) + 1 ≤ (c : Int) := by omega
        have HIC : Hid (∀ A' n c', Calls Tryd.prog 88 #[.agg #[.int .i64 p.kind, .int .i64 p.times, .int .i64 0], .slice A' n c', .pointer (some ⟨gO, 0, none⟩)] (World.drew wr) fun e w' =>
            e = .returned (.tuple #[]) ∧ (∃ A2 c2, TS w' gO lo A2 c2 (out ++ [oneT p])) ∧ Below lo (World.drew wr) w') := Lib.hid (fun A' n c' => by
          have := ptx_plain p A' n c' gO lo A2 c2 out (World.drew wr) hbx.drew hk12 hst ⟨t1, t2⟩ hol
          rwa [hp0] at this)
        clear hk12 hpl hp0
        go_wp2_with (fail)
        go_region_law (go_simp; go_at_call 88; refine (HIC.out _ _ _).mono ?_; rintro e w2 ⟨rfl, ⟨A3, c3, hbx2⟩, b2⟩)
        all_goals go_wp2_with (fail)
        all_goals
          have hb2 : Below lo w w2 := (Below.drew2 hb).trans b2
          exact ⟨⟨k + 1, A3, c3, _, by omega, by go_num, hbx2, Lib.hid (by rw [HS.out, HXG.out, List.append_assoc]; rfl), HG2, hb2⟩, by simp [intOf]; omega⟩
    · obtain rfl : k = ps.length := by omega
      have he := HS.out
      rw [drop_all (Nat.le_refl _), partsP_nil, List.append_nil] at he
      have HE := Lib.hid he; clear he
      go_wp2_with (fail)
      go_end0
      exact ⟨rfl, ⟨A2, c2, by rw [HE.out]; exact hbx⟩, hb⟩

set_option maxHeartbeats 2000000 in
set_option maxRecDepth 10000 in
theorem impl_piecesText (m : Nat) : ∀ n, n ≤ m → PtxAt n := by
  induction m with
  | zero => intro n hn ps A c d w h0; omega
  | succ m ih =>
    intro n hn ps A c d w h0 hl hc hcm h hg
    have IH : Hid (PtxAt ps.length) := Lib.hid (ih ps.length (by omega))
    clear ih
    have hmf : ∀ (fn : Fn) (first cap : Array Value) (w : World), (Instr.makeFunc fn first cap).run Tryd.prog w = .ok (.func fn first cap) w := fun _ _ _ _ => rfl
    obtain ⟨w1, hw1⟩ : ∃ w1, w1 = (w.alloc (.cells #[] 9)).alloc (.cells #[.slice (some ⟨w.heap.size, 0, none⟩) 0 0] 58) := ⟨_, rfl⟩
    have hb1 : Below w.heap.size w w1 := by rw [hw1]; (repeat (first | exact Below.refl _ _ | assumption | apply Below.drew | apply below_drewN | (refine Below.alloc ?_ (by first | omega | (simp; done) | (simp; omega)) _) | (refine Below.setCell ?_ (by first | omega | (simp; done) | (simp; omega)) _)))
    have hx : TS w1 (w.heap.size + 1) w.heap.size (some ⟨w.heap.size, 0, none⟩) 0 [] := by
      rw [hw1]
      refine ⟨?_, ?_, by omega⟩
      · have := Blk.new (w.alloc (.cells #[] 9)) 58 #[.slice (some ⟨w.heap.size, 0, none⟩) 0 0]
        simpa using this
      · exact ((OwnC.lit (w := w) (lo := w.heap.size) (n := 0) 9 1 #[] (Nat.le_refl _) (Nat.zero_le _) rfl).alloc (.cells #[.slice (some ⟨w.heap.size, 0, none⟩) 0 0] 58)).mono (Nat.le_refl _) (by simp)
    have HX := Lib.hid hx; clear hx
    have hts := (txt_small hg)
    go_enter Tryd.func53, Tryd.ntmps53
    go_upto_region 2 with fail
    rw [← hw1]
    clear hw1
    go_wp2_with (fail)
    refine (eachPiece_ptx ps A c d (w.heap.size + 1) w.heap.size _ 0 w _ IH hl hc hcm h (Nat.le_refl _) hb1 hg HX.out).mono ?_; rintro e w2 ⟨rfl, ⟨A2, c2, hx2⟩, b2⟩
    have hbw : Below w.heap.size w w2 := hb1.trans b2
    have x0 := hx2.bO.c1
    go_wp2_with (fail)
    refine (impl_Join (partsP ps) A2 c2 _ _ w2 hx2.ow (Nat.le_refl _) (by omega) (by have := hts.1; unfold txtP at this; omega)).mono ?_; rintro e w3 ⟨rfl, b3⟩
    go_wp2_with (fail)
    go_ret
    exact ⟨rfl, hbw.trans (b3.mono hbw.size)⟩

theorem impl_PiecesText (ps : List PieceD) (A : Option Addr) (c : Nat) (w : World) (h : Pieces w A ps) (hl : ps.length ≤ 9223372036854775807) (hc : ps.length ≤ c) (hcm : c ≤ 9223372036854775807) :
    Calls Tryd.prog 25 #[.slice A ps.length c] w fun e w' => e = .returned (.string (piecesT ps)) ∧ Below w.heap.size w w' := by
  cases hv : piecesB ps
  · have HF : Hid (piecesT ps = ⟨#[]⟩) := Lib.hid (by rw [piecesT, hv]; rfl)
    go_enter Tryd.func25, Tryd.ntmps25
    go_wp2_with (fail)
    refine (impl_ValidPieces _ _ _ _ h hl hc hcm).mono ?_; rintro e w2 ⟨rfl, b2⟩
    rw [hv]
    go_wp2_with (fail)
    go_ret
    exact ⟨by rw [HF.out]; rfl, b2⟩
  · have HF : Hid (piecesT ps = txtP ps) := Lib.hid (by rw [piecesT, hv]; rfl)
    obtain ⟨h24, _, hg⟩ := piecesB_good hv
    go_enter Tryd.func25, Tryd.ntmps25
    go_wp2_with (fail)
    refine (impl_ValidPieces _ _ _ _ h hl hc hcm).mono ?_; rintro e w2 ⟨rfl, b2⟩
    rw [hv]
    clear hv
    go_wp2_with (fail)
    refine (impl_piecesText (ps.length + 1) _ (Nat.le_refl _) ps A c 0 _ (by omega) (by omega) hc hcm (h.below b2) hg).mono ?_; rintro e w3 ⟨rfl, b3⟩
    go_wp2_with (fail)
    go_ret
    exact ⟨by rw [HF.out]; rfl, b2.trans (b3.mono b2.size)⟩

end Go.Proofs.YtcgbogofmdjddaaDoor

/- Reading pieces, the program's side: digits, symbols. -/
namespace Go.Proofs.YtcgbogofmdjddaaDoor
open Go Go.RowKit

theorem byte_at {s : ByteArray} {i : Nat} (h : i < s.size) : s.data.toList[i]? = some (s[i]'h) := by
  rw [Array.getElem?_toList]
  exact Array.getElem?_eq_getElem h
theorem drop_byte {s : ByteArray} {i : Nat} (h : i < s.size) : s.data.toList.drop i = (s[i]'h) :: s.data.toList.drop (i + 1) := drop_cons (byte_at h)
theorem ret_pair {k : IntKind} {a b c d : Int} (h1 : a = b) (h2 : c = d) : Ending.returned (.tuple #[.int k a, .int k c]) = .returned (.tuple #[.int k b, .int k d]) := by rw [h1, h2]
theorem isDig_true {b : UInt8} (h : isDig b = true) : 48 ≤ b.toNat ∧ b.toNat ≤ 57 := by
  unfold isDig at h
  simpa using h

theorem impl_isDigit (b : UInt8) (w : World) : Calls Tryd.prog 84 #[.int .u8 (b.toNat : Int)] w fun e w' => e = .returned (.bool (isDig b)) ∧ w = w' := by
  have hb := b.toNat_lt
  by_cases h1 : 48 ≤ b.toNat
  · have d1 : decide ((48 : Int) ≤ (b.toNat : Int)) = true := decide_eq_true (by omega)
    by_cases h2 : b.toNat ≤ 57
    · have d2 : decide ((b.toNat : Int) ≤ 57) = true := decide_eq_true (by omega)
      have HF : Hid (isDig b = true) := Lib.hid (by unfold isDig; rw [decide_eq_true h1, decide_eq_true h2]; rfl)
      go_enter Tryd.func84, Tryd.ntmps84
      go_wp2_with (fail)
      go_ret
      exact ⟨ret_bool HF.out.symm, rfl⟩
    · have d2 : decide ((b.toNat : Int) ≤ 57) = false := decide_eq_false (by omega)
      have HF : Hid (isDig b = false) := Lib.hid (by unfold isDig; rw [decide_eq_false h2, Bool.and_false])
      go_enter Tryd.func84, Tryd.ntmps84
      go_wp2_with (fail)
      go_ret
      exact ⟨ret_bool HF.out.symm, rfl⟩
  · have d1 : decide ((48 : Int) ≤ (b.toNat : Int)) = false := decide_eq_false (by omega)
    have HF : Hid (isDig b = false) := Lib.hid (by unfold isDig; rw [decide_eq_false h1, Bool.false_and])
    go_enter Tryd.func84, Tryd.ntmps84
    go_wp2_with (fail)
    go_ret
    exact ⟨ret_bool HF.out.symm, rfl⟩

set_option maxHeartbeats 1000000 in
theorem impl_digitsAt (s : ByteArray) (a : Nat) (z : Int) (v : Int) (q : Nat) (w : World) (hl : s.size ≤ 1000000000) (ha : a ≤ s.size) (hT : timesI z (s.data.toList.drop a) = (v, q)) :
    Calls Tryd.prog 50 #[.string s, .int .i64 (a : Int), .int .i64 z] w fun e w' => e = .returned (.tuple #[.int .i64 v, .int .i64 ((a : Int) + (q : Int))]) ∧ w = w' := by
  have HV := Lib.hid hT; clear hT
  have hL : (s.data.toList.drop a).length = s.size - a := by rw [List.length_drop, ← ba_size]
  have HL := Lib.hid hL; clear hL
  go_enter Tryd.func50, Tryd.ntmps50
  go_wp2_with (fail)
  go_loop [8, 9] (fun nv ev => ∃ (m : Nat) (x : Int), a ≤ m ∧ m ≤ a + 2 ∧ m ≤ s.size ∧ ev = .int .i64 (m : Int) ∧ nv = .int .i64 x ∧ Hid (x = dval ((s.data.toList.drop a).take (m - a))) ∧ Hid (∀ j b, j < m - a → (s.data.toList.drop a)[j]? = some b → isDig b = true) ∧ 0 ≤ x ∧ x ≤ 1000000000) (fun _ ev => (a + 2) - (intOf ev).toNat)
  case atStart => exact ⟨a, 0, Nat.le_refl _, by omega, ha, rfl, rfl, Lib.hid (by simp [dval]), Lib.hid (fun j b hj => by omega), by omega, by omega⟩
  case round =>
    obtain ⟨m, x, m1, m2, m3, rfl, rfl, HX, HD, x1, x2⟩ := hrel
    have done : (m = a + 2 ∨ m = s.size ∨ ∃ h : m < s.size, isDig (s[m]'h) = false) → Hid ((m = a → z = v) ∧ (m ≠ a → x = v) ∧ (m : Int) = (a : Int) + (q : Int)) := by
      intro h
      apply Lib.hid
      have hc : dcount 2 (s.data.toList.drop a) = m - a := by
        refine dcount_end (by omega) (by rw [HL.out]; omega) HD.out ?_
        rcases h with h | h | ⟨h, hf⟩
        · exact .inl (by omega)
        · exact .inr (.inl (by rw [HL.out]; omega))
        · refine .inr (.inr ⟨_, ?_, hf⟩)
          rw [List.getElem?_drop, show a + (m - a) = m by omega]
          exact byte_at h
      have hv := HV.out
      unfold timesI at hv
      rw [hc, ← HX.out] at hv
      injection hv with hv1 hv2
      refine ⟨fun e => ?_, fun e => ?_, by omega⟩
      · rwa [if_pos (by omega)] at hv1
      · rwa [if_neg (by omega)] at hv1
    by_cases hs : m < s.size
    · by_cases h2 : m < a + 2
      · have hu := (s[m]'hs).toNat_lt
        cases hb : isDig (s[m]'hs)
        · have HT := done (.inr (.inr ⟨hs, hb⟩))
          clear done
          by_cases e : m = a
          · subst e
            go_wp2_with (go_at_call 84; refine (impl_isDigit _ _).mono ?_; rintro e w' ⟨rfl, rfl⟩; rw [hb])
            go_ret2
            exact ⟨ret_pair (HT.out.1 (by trivial)) HT.out.2.2, rfl⟩
          · have e2 : ((m : Int) == (a : Int)) = false := by rw [beq_eq_false_iff_ne]; omega
            have E := Lib.hid e; clear e
            go_wp2_with (go_at_call 84; refine (impl_isDigit _ _).mono ?_; rintro e w' ⟨rfl, rfl⟩; rw [hb])
            go_ret2
            exact ⟨ret_pair (HT.out.2.1 E.out) HT.out.2.2, rfl⟩
        · clear done
          obtain ⟨d1, d2⟩ := isDig_true hb
          have hx10 : x ≤ 99999999 := by
            have hlen : ((s.data.toList.drop a).take (m - a)).length ≤ 1 := by rw [List.length_take]; omega
            have := HX.out
            cases hq : (s.data.toList.drop a).take (m - a) with
            | nil => rw [hq] at this; rw [this]; decide
            | cons b r =>
              cases r with
              | nil =>
                rw [hq] at this
                rw [this]
                have hbl := b.toNat_lt
                simp [dval]
                omega
              | cons c r => rw [hq] at hlen; simp at hlen
          have w8 : IntKind.u8.wrap (((s[m]'hs).toNat : Int) - 48) = ((s[m]'hs).toNat : Int) - 48 := IntWalk.u8_in _ ⟨by omega, by omega⟩
          have HS : Hid (10 * x + (((s[m]'hs).toNat : Int) - 48) = dval ((s.data.toList.drop a).take (m + 1 - a))) := Lib.hid (by
            rw [show m + 1 - a = (m - a) + 1 by omega, take_snoc (x := s[m]'hs) (by rw [List.getElem?_drop, show a + (m - a) = m by omega]; exact byte_at hs), dval_snoc, ← HX.out])
          have HD2 : Hid (∀ j b, j < m + 1 - a → (s.data.toList.drop a)[j]? = some b → isDig b = true) := Lib.hid (fun j b hj hc => by
            by_cases hjm : j < m - a
            · exact HD.out j b hjm hc
            · obtain rfl : j = m - a := by omega
              rw [List.getElem?_drop, show a + (m - a) = m by omega, byte_at hs] at hc
              injection hc with hc
              rw [← hc]; exact hb)
          go_wp2_with (go_at_call 84; refine (impl_isDigit _ _).mono ?_; rintro e w' ⟨rfl, rfl⟩; rw [hb])
          go_round
          case rel => exact ⟨m + 1, _, by omega, by omega, by omega, by go_num, rfl, HS, HD2, by omega, by omega⟩
          case measure => simp [intOf]; omega
      · obtain rfl : m = a + 2 := by omega
        have HT := done (.inl rfl)
        clear done
        go_wp2_with (fail)
        go_ret2
        exact ⟨ret_pair (HT.out.2.1 (by omega)) (by have := HT.out.2.2; omega), rfl⟩
    · have hms : m = s.size := by omega
      have HT := done (.inr (.inl hms))
      have HMS := Lib.hid hms
      clear done hms
      by_cases e : m = a
      · subst e
        go_wp2_with (fail)
        go_ret2
        exact ⟨ret_pair (HT.out.1 (by trivial)) HT.out.2.2, rfl⟩
      · have e2 : ((m : Int) == (a : Int)) = false := by rw [beq_eq_false_iff_ne]; omega
        have E := Lib.hid e; clear e
        go_wp2_with (fail)
        go_ret2
        exact ⟨ret_pair (HT.out.2.1 E.out) HT.out.2.2, rfl⟩

theorem impl_KindOf_long (t : ByteArray) (w : World) (h : t.size ≠ 1) (_hl : t.size ≤ 1000000000) : Calls Tryd.prog 51 #[.string t] w fun e w' => e = .returned (.int .i64 0) ∧ w = w' := by
  have h1 : ((t.size : Int) != 1) = true := by simp; omega
  clear h
  go_enter Tryd.func51, Tryd.ntmps51
  go_wp2_with (fail)
  go_ret
  exact ⟨rfl, rfl⟩
theorem kindB_big {b : UInt8} (h : 128 ≤ b.toNat) : kindB b = 0 := by
  apply kindB_none
  intro j h1 h2 e
  rw [← e] at h
  revert h
  rcases cases11 h1 (by omega) with rfl | rfl | rfl | rfl | rfl | rfl | rfl | rfl | rfl | rfl | rfl <;> decide
theorem encode_small (b : UInt8) (h : b.toNat < 128) : Utf8.encode (b.toNat : Int) = ⟨#[b]⟩ := by
  have key : ∀ n : Fin 128, Utf8.encode ((n.val : Nat) : Int) = ⟨#[UInt8.ofNat n.val]⟩ := by decide +kernel
  have := key ⟨b.toNat, h⟩
  rw [this]
  simp
theorem encode_big (b : UInt8) (h : 128 ≤ b.toNat) : (Utf8.encode (b.toNat : Int)).size = 2 := by
  have key : ∀ n : Fin 256, 128 ≤ n.val → (Utf8.encode ((n.val : Nat) : Int)).size = 2 := by decide +kernel
  exact key ⟨b.toNat, b.toNat_lt⟩ h
theorem impl_KindOf_rune (b : UInt8) (w : World) : Calls Tryd.prog 51 #[.string (Utf8.encode (b.toNat : Int))] w fun e w' => e = .returned (.int .i64 (kindB b)) ∧ w = w' := by
  by_cases h : b.toNat < 128
  · rw [encode_small b h]
    exact impl_KindOf b w
  · have h2 := encode_big b (by omega)
    rw [kindB_big (by omega)]
    exact impl_KindOf_long _ w (by omega) (by omega)

end Go.Proofs.YtcgbogofmdjddaaDoor
