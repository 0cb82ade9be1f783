/- Steps of the proof, joined from several texts: EA SA FF PL FLs B SB RT RU RO ROt MC PKi PKt CB TH TI TL MD TJ TK RV TM. -/
import Derived.Test.YtcgbogofmdjddaaDoorZ5
import Derived.Test.YtcgbogofmdjddaaDoorZ1
import Derived.Test.YtcgbogofmdjddaaDoorZ3
import Derived.Test.YtcgbogofmdjddaaDoorZ4
import Derived.BigGuard
import Derived.BigRegion
import Derived.Deep.RegionLaw

/- ExpandPieces: the plain functions. -/
namespace Go.Proofs.YtcgbogofmdjddaaDoor
open Go Go.RowKit

def rep (n : Int) (xs : List Int) : List Int := (List.replicate n.toNat xs).flatten
theorem rep_length (n : Int) (xs : List Int) : (rep n xs).length = n.toNat * xs.length := by
  unfold rep
  generalize n.toNat = k
  induction k with
  | zero => simp
  | succ k ih => rw [List.replicate_succ, List.flatten_cons, List.length_append, ih, Nat.succ_mul]; omega
theorem rep_zero {n : Int} (h : n ≤ 0) (xs : List Int) : rep n xs = [] := by
  have : n.toNat = 0 := by omega
  rw [rep, this]; rfl
theorem rep_snoc (k : Nat) (xs : List Int) : rep ((k : Int) + 1) xs = rep (k : Int) xs ++ xs := by
  have e1 : ((k : Int) + 1).toNat = k + 1 := by omega
  have e2 : (k : Int).toNat = k := by omega
  rw [rep, rep, e1, e2, List.replicate_succ', List.flatten_append]
  simp
def expP (o : Int) : List PieceD → List Int
  | [] => []
  | p :: r =>
    if p.kind = 12 then rep (if p.times = 0 then o else p.times) (expP o (r.take p.len.toNat)) ++ expP o (r.drop p.len.toNat)
    else rep p.times [p.kind] ++ expP o r
termination_by l => l.length
decreasing_by all_goals (simp; try omega)
theorem expP_nil (o : Int) : expP o [] = [] := by rw [expP]
theorem expP_group {o : Int} {p : PieceD} {r : List PieceD} (h : p.kind = 12) : expP o (p :: r) = rep (if p.times = 0 then o else p.times) (expP o (r.take p.len.toNat)) ++ expP o (r.drop p.len.toNat) := by rw [expP, if_pos h]
theorem expP_plain {o : Int} {p : PieceD} {r : List PieceD} (h : p.kind ≠ 12) : expP o (p :: r) = rep p.times [p.kind] ++ expP o r := by rw [expP, if_neg h]
theorem exp_at_plain {k : Nat} {ps : List PieceD} {p : PieceD} (hp : ps[k]? = some p) (hk : p.kind ≠ 12) (o : Int) : expP o (ps.drop k) = rep p.times [p.kind] ++ expP o (ps.drop (k + 1)) := by
  rw [drop_cons hp, expP_plain hk]
theorem exp_at_group {k n : Nat} {ps : List PieceD} {p : PieceD} (hp : ps[k]? = some p) (hk : p.kind = 12) (hn : p.len = (n : Int)) (o : Int) : expP o (ps.drop k) = rep (if p.times = 0 then o else p.times) (expP o (segP ps (k + 1) (k + 1 + n))) ++ expP o (ps.drop (k + 1 + n)) := by
  rw [drop_cons hp, expP_group hk, hn, Int.toNat_natCast, List.drop_drop]
  have e : segP ps (k + 1) (k + 1 + n) = (ps.drop (k + 1)).take n := by rw [segP, Nat.add_sub_cancel_left]
  rw [e]
theorem expP_deep (n d : Nat) (hd : 0 < d) (o : Int) : ∀ l : List PieceD, l.length ≤ n → Good d l → expP o l = expP 0 l := by
  induction n generalizing d with
  | zero => intro l hl _; have : l = [] := by cases l <;> simp_all
            subst this; rw [expP_nil, expP_nil]
  | succ n ih =>
    intro l hl h
    cases l with
    | nil => rw [expP_nil, expP_nil]
    | cons p r =>
      simp only [List.length_cons] at hl
      by_cases hk : p.kind = 12
      · obtain ⟨_, h1, h2, _, _, h3, h4, h5⟩ := good_group h hk
        rw [expP_group hk, expP_group hk, if_neg (h3 hd), if_neg (h3 hd), ih (d + 1) (by omega) _ (by simp; omega) h4, ih d hd _ (by simp; omega) h5]
      · rw [expP_plain hk, expP_plain hk, ih d hd _ (by omega) (good_plain h hk).2]
def roomOf : Nat → Nat
  | 0 => 262144
  | 1 => 16384
  | 2 => 1024
  | _ => 64
theorem roomOf_step {d : Nat} (h : d < 3) : roomOf d = 16 * roomOf (d + 1) := by
  rcases (by omega : d = 0 ∨ d = 1 ∨ d = 2) with e | e | e <;> subst e <;> rfl
theorem roomOf_ge (d : Nat) : 64 ≤ roomOf d := by unfold roomOf; split <;> omega
theorem roomOf_le (d : Nat) : roomOf d ≤ 262144 := by unfold roomOf; split <;> omega
theorem times_of {p : PieceD} (h : plainP p = true) : 1 ≤ p.times ∧ p.times ≤ 16 ∧ p.len = 0 ∧ isStitchB p.kind = true := by
  unfold plainP at h
  simp only [Bool.and_eq_true, decide_eq_true_eq] at h
  obtain ⟨⟨h1, h2⟩, h3⟩ := h
  have := inR_iff.1 h2
  exact ⟨this.1, this.2, h3, h1⟩
theorem expP_small (n : Nat) (o : Int) (ho : o ≤ 16) : ∀ (d : Nat) (l : List PieceD), l.length ≤ n → Good d l → (expP o l).length ≤ l.length * roomOf d := by
  induction n with
  | zero => intro d l hl _; have : l = [] := by cases l <;> simp_all
            subst this; rw [expP_nil]; simp
  | succ n ih =>
    intro d l hl h
    cases l with
    | nil => rw [expP_nil]; simp
    | cons p r =>
      simp only [List.length_cons] at hl
      by_cases hk : p.kind = 12
      · obtain ⟨h0, h1, h2, h8, h9, h3, h4, h5⟩ := good_group h hk
        have i1 := ih (d + 1) (r.take p.len.toNat) (by simp; omega) h4
        have i2 := ih d (r.drop p.len.toNat) (by simp; omega) h5
        have l1 : (r.take p.len.toNat).length + (r.drop p.len.toNat).length = r.length := by rw [← List.length_append, List.take_append_drop]
        rw [expP_group hk, List.length_append, rep_length, List.length_cons, roomOf_step h0] at *
        have l2 : (if p.times = 0 then o else p.times).toNat ≤ 16 := by split <;> omega
        have l3 := Nat.mul_le_mul l2 i1
        have l4 : r.length * (16 * roomOf (d + 1)) = (r.take p.len.toNat).length * (16 * roomOf (d + 1)) + (r.drop p.len.toNat).length * (16 * roomOf (d + 1)) := by rw [← Nat.add_mul, l1]
        have l5 : 16 * ((r.take p.len.toNat).length * roomOf (d + 1)) = (r.take p.len.toNat).length * (16 * roomOf (d + 1)) := by rw [Nat.mul_left_comm]
        have l6 : (r.length + 1) * (16 * roomOf (d + 1)) = r.length * (16 * roomOf (d + 1)) + 16 * roomOf (d + 1) := by rw [Nat.add_mul, Nat.one_mul]
        omega
      · obtain ⟨hp, hg⟩ := good_plain h hk
        obtain ⟨t1, t2, _⟩ := times_of hp
        have i1 := ih d r (by omega) hg
        have hr := roomOf_ge d
        rw [expP_plain hk, List.length_append, rep_length]
        simp only [List.length_cons, List.length_nil]
        rw [Nat.add_mul, Nat.one_mul]
        omega
theorem takenB_le (k : Int) (h : isStitchB k = true) : 0 ≤ takenB k ∧ takenB k ≤ 4 := by
  have h1 := inR_iff.1 h
  rcases (by omega : k = 1 ∨ k = 2 ∨ k = 3 ∨ k = 4 ∨ k = 5 ∨ k = 6 ∨ k = 7 ∨ k = 8 ∨ k = 9 ∨ k = 10 ∨ k = 11) with e | e | e | e | e | e | e | e | e | e | e <;> subst e <;> decide
theorem sumP_small (cnt : Bool) (n : Nat) : ∀ (d : Nat) (l : List PieceD) (acc : Int), l.length ≤ n → n ≤ 100 → Good d l → 0 ≤ acc → acc + ((l.length * roomOf d : Nat) : Int) ≤ 1000000000000000 → acc ≤ sumP cnt l acc ∧ sumP cnt l acc ≤ acc + ((l.length * roomOf d : Nat) : Int) := by
  induction n with
  | zero => intro d l acc hl _ _ h0 _; have : l = [] := by cases l <;> simp_all
            subst this; rw [sumP_nil]; simp
  | succ n ih =>
    intro d l acc hl h100 h h0 h1
    cases l with
    | nil => rw [sumP_nil]; simp
    | cons p r =>
      simp only [List.length_cons] at hl h1 ⊢
      rw [Nat.add_mul, Nat.one_mul] at h1 ⊢
      have hr := roomOf_ge d
      by_cases hk : p.kind = 12
      · obtain ⟨hd, k1, k2, k8, k9, _, h4, h5⟩ := good_group h hk
        have l1 : (r.take p.len.toNat).length + (r.drop p.len.toNat).length = r.length := by rw [← List.length_append, List.take_append_drop]
        have m1 := Nat.mul_le_mul (show (r.take p.len.toNat).length ≤ 100 by simp; omega) (roomOf_le (d + 1))
        obtain ⟨s0, s1⟩ := ih (d + 1) (r.take p.len.toNat) 0 (by simp; omega) (by omega) h4 (by omega) (by omega)
        have l4 : r.length * roomOf d = (r.take p.len.toNat).length * roomOf d + (r.drop p.len.toNat).length * roomOf d := by rw [← Nat.add_mul, l1]
        have l5 : (r.take p.len.toNat).length * roomOf d = 16 * ((r.take p.len.toNat).length * roomOf (d + 1)) := by rw [roomOf_step hd, Nat.mul_left_comm]
        rw [sumP_group hk]
        have hi := fun a x y => ih d (r.drop p.len.toNat) a (by simp; omega) (by omega) h5 x y
        generalize sumP cnt (r.take p.len.toNat) 0 = S at s0 s1 ⊢
        generalize (r.take p.len.toNat).length * roomOf (d + 1) = X at *
        have t1 := Int.mul_le_mul_of_nonneg_right k9 s0
        have t0 := Int.mul_nonneg k8 s0
        generalize p.times * S = Z at t0 t1 ⊢
        have w1 : wrap64 Z = Z := IntWalk.wrap64_in _ ⟨by omega, by omega⟩
        have w2 : wrap64 (acc + Z) = acc + Z := IntWalk.wrap64_in _ ⟨by omega, by omega⟩
        rw [w1, w2]
        have := hi (acc + Z) (by omega) (by omega)
        omega
      · obtain ⟨hp, hg⟩ := good_plain h hk
        obtain ⟨t1, t2, _, t4⟩ := times_of hp
        obtain ⟨k1, k2⟩ := takenB_le _ t4
        rw [sumP_plain hk]
        have hi := fun a x y => ih d r a (by omega) (by omega) hg x y
        have hv : 0 ≤ (if cnt then p.times else wrap64 (p.times * takenB p.kind)) ∧ (if cnt then p.times else wrap64 (p.times * takenB p.kind)) ≤ 64 := by
          split
          · omega
          · have z1 := Int.mul_le_mul t2 k2 k1 (by omega)
            have z0 := Int.mul_nonneg (show 0 ≤ p.times by omega) k1
            generalize p.times * takenB p.kind = Z at z0 z1 ⊢
            rw [show wrap64 Z = Z from IntWalk.wrap64_in _ ⟨by omega, by omega⟩]
            omega
        generalize (if cnt then p.times else wrap64 (p.times * takenB p.kind)) = v at hv ⊢
        rw [show wrap64 (acc + v) = acc + v from IntWalk.wrap64_in _ ⟨by omega, by omega⟩]
        have := hi (acc + v) (by omega) (by omega)
        omega
/-- How often the open group is made. -/
def expT (need cols each : Int) : Int := if need < cols ∧ 0 < each then (cols - need).tdiv each else 0
theorem expT_range {need cols each : Int} (h0 : 0 ≤ need) (h8 : cols ≤ 8) : 0 ≤ expT need cols each ∧ expT need cols each ≤ 8 := by
  unfold expT
  split
  · rename_i h
    rw [Int.tdiv_eq_ediv_of_nonneg (by omega)]
    have h1 := Int.ediv_nonneg (show 0 ≤ cols - need by omega) (show 0 ≤ each by omega)
    have h2 := Int.ediv_le_self each (show 0 ≤ cols - need by omega)
    omega
  · omega
def needOf (ps : List PieceD) : Int := sumP false ps 0
def eachOf (ps : List PieceD) : Int := sumP false (openPart ps) 0
def timesOf (ps : List PieceD) (cols : Int) : Int := expT (needOf ps) cols (eachOf ps)
def exCode (ps : List PieceD) (cols : Int) : Int :=
  if piecesB ps then
    if inR cols 1 8 then
      if needOf ps + timesOf ps cols * eachOf ps = cols then
        if sumP true ps 0 + timesOf ps cols * sumP true (openPart ps) 0 ≤ 16 then 0 else 5
      else 10
    else 2
  else 1
def exRes (ps : List PieceD) (cols : Int) : List Int := if exCode ps cols = 0 then expP (timesOf ps cols) ps else []
theorem ex_err {ps : List PieceD} {cols k : Int} (e : exCode ps cols = k) (hk : k ≠ 0) : exRes ps cols = [] ∧ exCode ps cols = k := ⟨by rw [exRes, if_neg (by rw [e]; exact hk)], e⟩
theorem ex_ok {ps : List PieceD} {cols : Int} (e : exCode ps cols = 0) : exRes ps cols = expP (timesOf ps cols) ps ∧ exCode ps cols = 0 := ⟨by rw [exRes, if_pos e], e⟩
theorem sums_small {ps : List PieceD} (h : piecesB ps = true) (cnt : Bool) : (0 ≤ sumP cnt ps 0 ∧ sumP cnt ps 0 ≤ 30000000) ∧ (0 ≤ sumP cnt (openPart ps) 0 ∧ sumP cnt (openPart ps) 0 ≤ 30000000) := by
  obtain ⟨h24, _, hg⟩ := piecesB_good h
  obtain ⟨d, hd⟩ := openPart_good ps.length ps (Nat.le_refl _) hg
  have hpl := openPart_length ps
  have m1 := Nat.mul_le_mul h24 (roomOf_le 0)
  have m2 := Nat.mul_le_mul (show (openPart ps).length ≤ 24 by omega) (roomOf_le d)
  have s1 := sumP_small cnt ps.length 0 ps 0 (Nat.le_refl _) (by omega) hg (by omega) (by omega)
  have s2 := sumP_small cnt ps.length d (openPart ps) 0 hpl (by omega) hd (by omega) (by omega)
  omega
theorem exRes_length (ps : List PieceD) (cols : Int) : (exRes ps cols).length ≤ 7000000 := by
  unfold exRes
  split
  · rename_i h
    have hv : piecesB ps = true := by
      cases hv : piecesB ps
      · rw [exCode, hv] at h; simp at h
      · rfl
    have hc : inR cols 1 8 = true := by
      cases hc : inR cols 1 8
      · rw [exCode, hv, hc] at h; simp at h
      · rfl
    obtain ⟨h24, _, hg⟩ := piecesB_good hv
    have ht := expT_range (each := eachOf ps) (sums_small hv false).1.1 (inR_iff.1 hc).2
    have := expP_small ps.length (timesOf ps cols) (by unfold timesOf needOf; omega) 0 ps (Nat.le_refl _) hg
    have m1 := Nat.mul_le_mul h24 (roomOf_le 0)
    omega
  · simp

end Go.Proofs.YtcgbogofmdjddaaDoor

/- StacksAfter, the reference's side. -/
namespace Go.Proofs.YtcgbogofmdjddaaDoor
open Go.RowKit

theorem st0_drop {st : List Int} {t : Nat} {x : Int} (h : st[t]? = some x) : st0 (st.drop t) = x := by
  unfold st0
  rw [List.getElem?_drop, Nat.add_zero, h]; rfl
theorem st1_drop {st : List Int} {t : Nat} {x : Int} (h : st[t + 1]? = some x) : st1 (st.drop t) = x := by
  unfold st1
  rw [List.getElem?_drop, h]; rfl
theorem afterP_drop {ks st : List Int} {i t : Nat} {k : Int} (h : ks[i]? = some k) : afterP (ks.drop i) (st.drop t) = stepMade k (st.drop t) ++ afterP (ks.drop (i + 1)) (st.drop (t + takenN k)) := by
  rw [drop_cons h, afterP, List.drop_drop]
theorem thickP_drop {ks st : List Int} {i t : Nat} {k : Int} (h : ks[i]? = some k) : thickP (ks.drop i) (st.drop t) = (stepThick k (st.drop t) || thickP (ks.drop (i + 1)) (st.drop (t + takenN k))) := by
  rw [drop_cons h, thickP, List.drop_drop]
theorem okAfter_drop {ks st : List Int} {i t : Nat} {k : Int} (h : ks[i]? = some k) : okAfter (ks.drop i) (st.drop t) = (stepOk k (st.drop t) && okAfter (ks.drop (i + 1)) (st.drop (t + takenN k))) := by
  rw [drop_cons h, okAfter, List.drop_drop]


end Go.Proofs.YtcgbogofmdjddaaDoor

/- Slices of Float: how they are read and owned, and the helpers of the laws on them. -/
namespace Go.Proofs.YtcgbogofmdjddaaDoor
open Go.RowKit

structure FloatD where
  row : Int
  carrier : Int
  start : Int
  stop : Int
instance : DecidableEq FloatD := fun a b => decidable_of_iff (a.row = b.row ∧ a.carrier = b.carrier ∧ a.start = b.start ∧ a.stop = b.stop) ⟨fun h => by cases a; cases b; simp_all, fun h => by simp [h]⟩
def cellsFloat : List FloatD → List Value
  | [] => []
  | p :: ps => .int .i64 p.row :: .int .i64 p.carrier :: .int .i64 p.start :: .int .i64 p.stop :: cellsFloat ps

theorem cellsFloat_length (ps : List FloatD) : (cellsFloat ps).length = ps.length * 4 := by
  induction ps with
  | nil => rfl
  | cons p ps ih => simp [cellsFloat, ih]; omega
theorem cellsFloat_snoc (ps : List FloatD) (p : FloatD) : cellsFloat (ps ++ [p]) = cellsFloat ps ++ [.int .i64 p.row, .int .i64 p.carrier, .int .i64 p.start, .int .i64 p.stop] := by
  induction ps with
  | nil => rfl
  | cons q ps ih => simp [cellsFloat, ih]
theorem cellsFloat_at {ps : List FloatD} {i : Nat} {p : FloatD} (h : ps[i]? = some p) : (cellsFloat ps)[i * 4]? = some (.int .i64 p.row) ∧ (cellsFloat ps)[i * 4 + 1]? = some (.int .i64 p.carrier) ∧ (cellsFloat ps)[i * 4 + 2]? = some (.int .i64 p.start) ∧ (cellsFloat ps)[i * 4 + 3]? = some (.int .i64 p.stop) := by
  induction ps generalizing i with
  | nil => simp at h
  | cons q ps ih =>
    cases i with
    | zero =>
      simp at h
      subst h
      simp [cellsFloat]
    | succ i =>
      have := ih (i := i) (by simpa using h)
      simp only [Nat.succ_mul, cellsFloat]
      simpa [Nat.add_right_comm] using this
def Floats (w : World) (A : Option Addr) (ps : List FloatD) : Prop :=
  ∀ k, k < ps.length → ∃ b off p, A = some ⟨b, off, none⟩ ∧ ps[k]? = some p ∧ w.cell? ⟨b, off + k * 4, none⟩ = some (.int .i64 p.row) ∧ w.cell? ⟨b, off + k * 4 + 1, none⟩ = some (.int .i64 p.carrier) ∧ w.cell? ⟨b, off + k * 4 + 2, none⟩ = some (.int .i64 p.start) ∧ w.cell? ⟨b, off + k * 4 + 3, none⟩ = some (.int .i64 p.stop)
theorem Floats.of_cells {w w' : World} {A : Option Addr} {ps : List FloatD} (h : Floats w A ps) (hk : ∀ a v, w.cell? a = some v → w'.cell? a = some v) : Floats w' A ps :=
  fun k hk' => by
    obtain ⟨b, off, p, hA, hp, h0, h1, h2, h3⟩ := h k hk'
    exact ⟨b, off, p, hA, hp, hk _ _ h0, hk _ _ h1, hk _ _ h2, hk _ _ h3⟩
theorem Floats.below {w w' : World} {A : Option Addr} {ps : List FloatD} (h : Floats w A ps) (hb : Below w.heap.size w w') : Floats w' A ps := h.of_cells (cells_below hb)
theorem Floats.drewN {w : World} {A : Option Addr} {ps : List FloatD} (h : Floats w A ps) (n : Nat) : Floats (w.drewN n) A ps := h
theorem Floats.nil {w : World} {A : Option Addr} : Floats w A [] := fun k hk => by simp at hk

def marksFloat (k : Int) (m : Nat) : List FloatD := (List.range m).map fun (i : Nat) => ⟨k + 4 * i, k + 4 * i + 1, k + 4 * i + 2, k + 4 * i + 3⟩
theorem marksFloat_length (k : Int) (m : Nat) : (marksFloat k m).length = m := by simp [marksFloat]
theorem marksFloat_snoc (k : Int) (m : Nat) : marksFloat k (m + 1) = marksFloat k m ++ [⟨k + 4 * m, k + 4 * m + 1, k + 4 * m + 2, k + 4 * m + 3⟩] := by simp [marksFloat, List.range_succ]
theorem marksFloat_at {k : Int} {m i : Nat} {p : FloatD} (h : (marksFloat k m)[i]? = some p) : p = ⟨k + 4 * i, k + 4 * i + 1, k + 4 * i + 2, k + 4 * i + 3⟩ := by
  simp only [marksFloat, List.getElem?_map, Option.map_eq_some_iff] at h
  obtain ⟨j, hj, rfl⟩ := h
  obtain ⟨hl, he⟩ := List.getElem?_eq_some_iff.1 hj
  simp at he
  subst he
  rfl


end Go.Proofs.YtcgbogofmdjddaaDoor

/- Floats and letters: the plain functions. -/
namespace Go.Proofs.YtcgbogofmdjddaaDoor
open Go.RowKit

def fStep (r c : Int) (s : List FloatD × Int) (k : Nat) (x : Int) : List FloatD × Int := if x = c then (if 0 ≤ s.2 ∧ s.2 + 1 < k then s.1 ++ [⟨r, c, s.2, k⟩] else s.1, k) else s
/-- The floats of one carrier in the first k columns of a row, and the last column of the carrier. -/
def fRow (r c : Int) (row : List Int) : Nat → List FloatD × Int
  | 0 => ([], -1)
  | k + 1 => fStep r c (fRow r c row k) k (row[k]?.getD 0)
def fCar (r : Int) (row : List Int) : Nat → List FloatD
  | 0 => []
  | j + 1 => fCar r row j ++ (fRow r ((j : Int) + 1) row row.length).1
def fAll (xss : List (List Int)) : Nat → List FloatD
  | 0 => []
  | i + 1 => fAll xss i ++ fCar i (xss[i]?.getD []) 4
def floatsP (n : Int) (xss : List (List Int)) : List FloatD := if coloursB n xss then fAll xss xss.length else []
def max64 (a b : Int) : Int := if b < a then a else b
def longOf (fs : List FloatD) : Int := fs.foldl (fun o f => max64 o (wrap64 (wrap64 (f.stop - f.start) - 1))) 0
def longP (n : Int) (xss : List (List Int)) : Int := longOf (floatsP n xss)
def colCode (n : Int) (xss : List (List Int)) : Int := if coloursB n xss then 0 else 1

theorem fRow_succ {r c : Int} {row : List Int} {k : Nat} {x : Int} (h : row[k]? = some x) : fRow r c row (k + 1) = fStep r c (fRow r c row k) k x := by
  rw [fRow, h]; rfl
theorem fRow_last (r c : Int) (row : List Int) (k : Nat) : -1 ≤ (fRow r c row k).2 ∧ (fRow r c row k).2 < k ∧ (fRow r c row k).1.length ≤ k := by
  induction k with
  | zero => simp [fRow]
  | succ k ih =>
    rw [fRow, fStep]
    split
    · split
      · simp; omega
      · simp; omega
    · refine ⟨ih.1, by omega, by omega⟩
theorem fCar_length (r : Int) (row : List Int) (j : Nat) : (fCar r row j).length ≤ j * row.length := by
  induction j with
  | zero => simp [fCar]
  | succ j ih =>
    have := (fRow_last r ((j : Int) + 1) row row.length).2.2
    rw [fCar, List.length_append, Nat.succ_mul]
    omega
theorem fAll_succ {xss : List (List Int)} {i : Nat} {row : List Int} (h : xss[i]? = some row) : fAll xss (i + 1) = fAll xss i ++ fCar i row 4 := by
  rw [fAll, h]; rfl
theorem fAll_length {xss : List (List Int)} (m : Nat) (h : ∀ row ∈ xss, row.length ≤ m) (i : Nat) : (fAll xss i).length ≤ i * (4 * m) := by
  induction i with
  | zero => simp [fAll]
  | succ i ih =>
    rw [fAll, List.length_append, Nat.succ_mul]
    have h1 := fCar_length (i : Int) (xss[i]?.getD []) 4
    have h2 : (xss[i]?.getD []).length ≤ m := by
      cases hx : xss[i]? with
      | none => simp
      | some row => exact h row (List.mem_of_getElem? hx)
    omega
theorem colours_row {n : Int} {xss : List (List Int)} (h : coloursB n xss = true) : 1 ≤ n ∧ n ≤ 8 ∧ 1 ≤ xss.length ∧ xss.length ≤ 8 ∧ ∀ row ∈ xss, (row.length : Int) = n := by
  unfold coloursB inR at h
  simp only [Bool.and_eq_true, List.all_eq_true, decide_eq_true_eq] at h
  obtain ⟨⟨h1, h2⟩, h3⟩ := h
  refine ⟨h1.1, h1.2, by omega, by omega, fun row hr => ?_⟩
  have := h3 row hr
  unfold rowOfB at this
  simp only [Bool.and_eq_true, decide_eq_true_eq] at this
  exact this.1
theorem fAll_small {n : Int} {xss : List (List Int)} (h : coloursB n xss = true) {i : Nat} (hi : i ≤ xss.length) : (fAll xss i).length ≤ 256 := by
  obtain ⟨_, h2, _, h4, h5⟩ := colours_row h
  have := fAll_length 8 (fun row hr => by have := h5 row hr; omega) i
  omega
theorem floatsP_length (n : Int) (xss : List (List Int)) : (floatsP n xss).length ≤ 256 := by
  unfold floatsP
  split
  · exact fAll_small (by assumption) (Nat.le_refl _)
  · simp

end Go.Proofs.YtcgbogofmdjddaaDoor

/- Floats: l19Floats, l19All, floats, FloatsOf, LongestFloat. -/
namespace Go.Proofs.YtcgbogofmdjddaaDoor
open Go.RowKit

theorem OwnC.news {w : World} {lo hi : Nat} {e : TypeId} {sz : Nat} {A : Option Addr} {n c : Nat} {cs : List Value} (h : OwnC w lo hi e sz A n c cs) : ∀ j u, cs[j]? = some u → ∃ b off, A = some ⟨b, off, none⟩ ∧ w.cell? ⟨b, off + j, none⟩ = some u := by
  intro j u hu
  obtain ⟨hj, rfl⟩ := List.getElem?_eq_some_iff.1 hu
  obtain ⟨g, rfl, _, _, h1, _⟩ := h.cell hj
  exact ⟨g, 0, rfl, by rw [Nat.zero_add]; exact h1⟩
theorem cellsFloat_one (ps : List FloatD) : ∀ u ∈ cellsFloat ps, u.oneCell' = true := by
  induction ps with
  | nil => simp [cellsFloat]
  | cons p ps ih =>
    intro u hu
    simp only [cellsFloat, List.mem_cons] at hu
    rcases hu with rfl | rfl | rfl | rfl | hu
    · rfl
    · rfl
    · rfl
    · rfl
    · exact ih u hu
theorem cellsFloat_append (a b : List FloatD) : cellsFloat (a ++ b) = cellsFloat a ++ cellsFloat b := by
  induction a with
  | nil => rfl
  | cons p a ih => simp [cellsFloat, ih]


end Go.Proofs.YtcgbogofmdjddaaDoor

/- The hand knitter's questions: FirstOf, ColumnAt. -/
namespace Go.Proofs.YtcgbogofmdjddaaDoor
open Go.RowKit

theorem Ints.take {w : World} {A : Option Addr} {xs : List Int} (h : Ints w A xs) (n : Nat) : Ints w A (xs.take n) := by
  intro k hk
  obtain ⟨b, off, x, hA, hc, hx⟩ := h k (by rw [List.length_take] at hk; omega)
  exact ⟨b, off, x, hA, hc, by rw [List.getElem?_take, if_pos (by rw [List.length_take] at hk; omega)]; exact hx⟩


end Go.Proofs.YtcgbogofmdjddaaDoor

/- StacksAfter. -/
namespace Go.Proofs.YtcgbogofmdjddaaDoor
open Go.RowKit

theorem ints_one (xs : List Int) : ∀ u ∈ xs.map (Value.int .i64), u.oneCell' = true := by
  intro u hu
  simp only [List.mem_map] at hu
  obtain ⟨x, _, rfl⟩ := hu
  rfl
theorem OwnC.nilc {w : World} {lo hi : Nat} {e : TypeId} {sz : Nat} {A : Option Addr} {n c : Nat} {cs : List Value} (h : OwnC w lo hi e sz A n c cs) : (A = none ∧ c = 0) ∨ ∃ b off, A = some ⟨b, off, none⟩ := by
  rcases h.form with ⟨h1, _, h2, _⟩ | ⟨g, _, h1, _⟩
  · exact .inl ⟨h1, h2⟩
  · exact .inr ⟨g, 0, h1⟩
theorem step_take {k : Int} (hk : isStitchB k = true) (st : List Int) : stepMade k (st.take (takenN k)) = stepMade k st ∧ stepOk k (st.take (takenN k)) = stepOk k st := by
  rcases stitch_cases hk with rfl | rfl | rfl | rfl | rfl | rfl | rfl | rfl | rfl | rfl | rfl
  all_goals (simp [stepMade, stepOk, takenN, st0, st1]; try (first | rfl | (apply Bool.eq_iff_iff.2; simp)))
theorem stepMade_length {k : Int} (hk : isStitchB k = true) (st : List Int) : (stepMade k st).length ≤ 4 := by
  have := takenN_le k hk
  unfold stepMade
  split
  · simp
  · split
    · simp
    · simp; omega
theorem Ints.drop {w : World} {b off : Nat} {xs : List Int} (h : Ints w (some ⟨b, off, none⟩) xs) (t : Nat) : Ints w (some ⟨b, off + t, none⟩) (xs.drop t) := by
  intro k hk
  rw [List.length_drop] at hk
  obtain ⟨b', off', x, hA, hc, hx⟩ := h (t + k) (by omega)
  injection hA with hA
  injection hA with h1 h2
  subst h1 h2
  exact ⟨b, off + t, x, rfl, by rw [Nat.add_assoc]; exact hc, by rw [List.getElem?_drop]; exact hx⟩


end Go.Proofs.YtcgbogofmdjddaaDoor

/- RowLetters. -/
namespace Go.Proofs.YtcgbogofmdjddaaDoor
open Go.RowKit

theorem lettersFrom_drop {ks : List Int} {i : Nat} {k c : Int} (h : ks[i]? = some k) : lettersFrom (ks.drop i) c = stLetters k c ++ lettersFrom (ks.drop (i + 1)) (c + takenN k) := by rw [drop_cons h, lettersFrom]
theorem takenP_of {ks : List Int} (h : stitchesB ks = true) : takenP ks = takenS ks := by rw [takenP, if_pos h]
theorem row_stitches {d r : Int} {ks : List Int} (h : rowB d r ks = true) : stitchesB ks = true := by
  unfold rowB at h
  simp only [Bool.and_eq_true] at h
  exact h.2


end Go.Proofs.YtcgbogofmdjddaaDoor

/- RowLetters, the program's side. -/
namespace Go.Proofs.YtcgbogofmdjddaaDoor
open Go.RowKit


end Go.Proofs.YtcgbogofmdjddaaDoor

/- RowOfLetters. -/
namespace Go.Proofs.YtcgbogofmdjddaaDoor
open Go.RowKit

def rowFrom (n : Nat) (xs : List Int) (c : Nat) : List Int :=
  if c < n then (if (c : Int) + 1 ∈ xs then 8 :: rowFrom n xs (c + 2) else if -(c : Int) - 1 ∈ xs then 9 :: rowFrom n xs (c + 2) else 1 :: rowFrom n xs (c + 1)) else []
termination_by n - c
decreasing_by all_goals omega
theorem rowFrom_end {n c : Nat} (xs : List Int) (h : n ≤ c) : rowFrom n xs c = [] := by rw [rowFrom, if_neg (by omega)]
theorem rowFrom_8 {n c : Nat} {xs : List Int} (h : c < n) (h1 : (c : Int) + 1 ∈ xs) : rowFrom n xs c = 8 :: rowFrom n xs (c + 2) := by rw [rowFrom, if_pos h, if_pos h1]
theorem rowFrom_9 {n c : Nat} {xs : List Int} (h : c < n) (h1 : ¬ (c : Int) + 1 ∈ xs) (h2 : -(c : Int) - 1 ∈ xs) : rowFrom n xs c = 9 :: rowFrom n xs (c + 2) := by rw [rowFrom, if_pos h, if_neg h1, if_pos h2]
theorem rowFrom_1 {n c : Nat} {xs : List Int} (h : c < n) (h1 : ¬ (c : Int) + 1 ∈ xs) (h2 : ¬ -(c : Int) - 1 ∈ xs) : rowFrom n xs c = 1 :: rowFrom n xs (c + 1) := by rw [rowFrom, if_pos h, if_neg h1, if_neg h2]
theorem rowFrom_length (n : Nat) (xs : List Int) (m : Nat) : ∀ c, n - c ≤ m → (rowFrom n xs c).length ≤ m := by
  induction m with
  | zero => intro c hc; rw [rowFrom_end xs (by omega)]; simp
  | succ m ih =>
    intro c hc
    rw [rowFrom]
    split
    · split
      · have := ih (c + 2) (by omega); simp; omega
      · split
        · have := ih (c + 2) (by omega); simp; omega
        · have := ih (c + 1) (by omega); simp; omega
    · simp
theorem Blk.set32 {w : World} {g : Nat} {t : TypeId} {a b c : Value} (h : Blk w g t #[a, b, c]) (u : Value) : Blk (w.setCell ⟨g, 2, none⟩ u) g t #[a, b, u] := by
  unfold Blk at h ⊢
  simp [World.setCell, Array.getElem?_modify, h]
theorem Blk.set30 {w : World} {g : Nat} {t : TypeId} {a b c : Value} (h : Blk w g t #[a, b, c]) (u : Value) : Blk (w.setCell ⟨g, 0, none⟩ u) g t #[u, b, c] := by
  unfold Blk at h ⊢
  simp [World.setCell, Array.getElem?_modify, h]
theorem Blk.set31 {w : World} {g : Nat} {t : TypeId} {a b c : Value} (h : Blk w g t #[a, b, c]) (u : Value) : Blk (w.setCell ⟨g, 1, none⟩ u) g t #[a, u, c] := by
  unfold Blk at h ⊢
  simp [World.setCell, Array.getElem?_modify, h]
theorem OwnC.farT {w : World} {lo hi : Nat} {e : TypeId} {sz : Nat} {A : Option Addr} {n c : Nat} {cs : List Value} {g : Nat} {t : TypeId} {bs : Array Value} (h : OwnC w lo hi e sz A n c cs) (hb : Blk w g t bs) (ht : t ≠ e) (j : Nat) (u : Value) : OwnC (w.setCell ⟨g, j, none⟩ u) lo hi e sz A n c cs :=
  h.keepT fun k cur _ _ hk => Below.heap_setCell w ⟨g, j, none⟩ u k (by
    rintro rfl
    unfold Blk at hb
    rw [hb] at hk
    injection hk with hk
    injection hk with _ hk
    exact ht hk)
theorem Blk.grownT {w w' : World} {lo hi : Nat} {e : TypeId} {sz : Nat} {A : Option Addr} {n c : Nat} {cs : List Value} {g : Nat} {t : TypeId} {bs : Array Value} (hb : Blk w g t bs) (h : OwnC w lo hi e sz A n c cs) (ht : t ≠ e) (hg : w.grownBy w' (Value.slice A n c).ownBlock) : Blk w' g t bs :=
  (hg.block g hb.lt fun e' => by
    rcases h.form with ⟨rfl, _⟩ | ⟨q, cur, rfl, _, _, hh, _⟩
    · simp [Value.ownBlock] at e'
    · simp [Value.ownBlock] at e'
      subst e'
      unfold Blk at hb
      rw [hb] at hh
      injection hh with hh
      injection hh with _ hh
      exact ht hh).trans hb


end Go.Proofs.YtcgbogofmdjddaaDoor

/- RowOfLetters: the two functions. -/
namespace Go.Proofs.YtcgbogofmdjddaaDoor
open Go.RowKit

structure RowX where
  d : Int
  r : Int
  xs : List Int
def apartAt (xs : List Int) (i : Nat) : Bool := !touchAny (xs.take i) (xs[i]?.getD 0)
def apartB (xs : List Int) : Bool := (List.range xs.length).all (apartAt xs)
def rolCode (n : Int) (xs : List Int) (d r : Int) : Int := if inR n 1 8 && dirB d && carrierB r then (if lettersB n xs then (if apartB xs then 0 else 6) else 1) else 2
def rolRow (n : Int) (xs : List Int) (d r : Int) : RowX := if rolCode n xs d r = 0 then ⟨d, r, rowFrom n.toNat xs 0⟩ else ⟨0, 0, []⟩
theorem rolRow_length (n : Int) (xs : List Int) (d r : Int) : (rolRow n xs d r).xs.length ≤ 8 := by
  unfold rolRow
  split
  · rename_i h
    have hn : inR n 1 8 = true := by
      unfold rolCode at h
      cases e : inR n 1 8
      · rw [e] at h; simp at h
      · rfl
    have := inR_iff.1 hn
    have := rowFrom_length n.toNat xs 8 0 (by omega)
    exact this
  · simp
theorem rol_err {n : Int} {xs : List Int} {d r k : Int} (e : rolCode n xs d r = k) (hk : k ≠ 0) : rolRow n xs d r = ⟨0, 0, []⟩ ∧ rolCode n xs d r = k := ⟨by rw [rolRow, if_neg (by rw [e]; exact hk)], e⟩
theorem letters_small {n : Int} {xs : List Int} (hn : inR n 1 8 = true) (h : lettersB n xs = true) : smallB xs := by
  intro y hy
  have h1 := inR_iff.1 hn
  unfold lettersB letterB at h
  simp only [List.all_eq_true, Bool.and_eq_true] at h
  have h2 := inR_iff.1 (h y hy).2
  omega
theorem smallB_take {xs : List Int} (h : smallB xs) (k : Nat) : smallB (xs.take k) := fun y hy => h y (List.mem_of_mem_take hy)
theorem apart_false {xs : List Int} {k : Nat} {x : Int} (hx : xs[k]? = some x) (h : touchAny (xs.take k) x = true) : apartB xs = false := by
  unfold apartB
  rw [List.all_eq_false]
  refine ⟨k, List.mem_range.2 (List.getElem?_eq_some_iff.1 hx).1, ?_⟩
  simp [apartAt, hx, h]
theorem apart_true {xs : List Int} (h : ∀ j, j < xs.length → apartAt xs j = true) : apartB xs = true := by
  unfold apartB
  rw [List.all_eq_true]
  exact fun j hj => h j (List.mem_range.1 hj)


end Go.Proofs.YtcgbogofmdjddaaDoor

/- MirrorColours: the plain function, and slices of slices that grow. -/
namespace Go.Proofs.YtcgbogofmdjddaaDoor
open Go.RowKit

structure ColX where
  n : Int
  xs : List (List Int)
def mirC (n : Int) (xss : List (List Int)) : ColX := if coloursB n xss then ⟨n, xss.map List.reverse⟩ else ⟨0, []⟩
def mirCode (n : Int) (xss : List (List Int)) : Int := if coloursB n xss then 0 else 1
theorem cntII_le {xss : List (List Int)} {m : Nat} (h : ∀ r ∈ xss, r.length ≤ m) : cntII xss ≤ xss.length * m := by
  induction xss with
  | nil => simp [cntII]
  | cons x r ih =>
    have h1 := h x (by simp)
    have h2 := ih fun y hy => h y (by simp [hy])
    simp only [cntII, List.length_cons, Nat.succ_mul]
    omega
theorem mirC_size (n : Int) (xss : List (List Int)) : (mirC n xss).xs.length ≤ 8 ∧ cntII (mirC n xss).xs ≤ 64 := by
  unfold mirC
  split
  · rename_i hv
    have hv' : coloursB n xss = true := hv
    unfold coloursB at hv'
    simp only [Bool.and_eq_true, List.all_eq_true] at hv'
    have h1 := inR_iff.1 hv'.1.1
    have h2 := inR_iff.1 hv'.1.2
    have h3 : ∀ r ∈ xss.map List.reverse, r.length ≤ 8 := by
      intro r hr
      obtain ⟨x, hx, rfl⟩ := List.mem_map.1 hr
      have := hv'.2 x hx
      unfold rowOfB at this
      simp only [Bool.and_eq_true, decide_eq_true_eq] at this
      rw [List.length_reverse]
      omega
    have h4 := cntII_le h3
    simp only [List.length_map] at h4
    refine ⟨by simp; omega, ?_⟩
    have : xss.length ≤ 8 := by omega
    have := Nat.mul_le_mul_right 8 this
    show cntII (xss.map List.reverse) ≤ 64
    omega
  · simp [cntII]
/-- Another slice, of another type, grows. -/
theorem OwnC.grownT {w w' : World} {lo hi : Nat} {e : TypeId} {sz : Nat} {A : Option Addr} {n c : Nat} {cs : List Value} {lo2 hi2 : Nat} {e2 : TypeId} {sz2 : Nat} {B : Option Addr} {n2 c2 : Nat} {cs2 : List Value}
    (h : OwnC w lo hi e sz A n c cs) (h2 : OwnC w lo2 hi2 e2 sz2 B n2 c2 cs2) (ht : e ≠ e2) (hg : w.grownBy w' (Value.slice B n2 c2).ownBlock) : OwnC w' lo hi e sz A n c cs :=
  h.keepT fun k cur _ _ hk => hg.block k (Array.getElem?_eq_some_iff.1 hk).1 fun e' => by
    rcases h2.form with ⟨rfl, _⟩ | ⟨q, cur, rfl, _, _, hh, _⟩
    · simp [Value.ownBlock] at e'
    · simp [Value.ownBlock] at e'
      subst e'
      rw [hk] at hh
      injection hh with hh
      injection hh with _ hh
      exact ht hh
theorem CellsII.grownT {w w' : World} {lo hi : Nat} {cs : List Value} {xss : List (List Int)} {lo2 hi2 : Nat} {e2 : TypeId} {sz2 : Nat} {B : Option Addr} {n2 c2 : Nat} {cs2 : List Value}
    (h : CellsII w lo hi cs xss) (h2 : OwnC w lo2 hi2 e2 sz2 B n2 c2 cs2) (ht : (2 : TypeId) ≠ e2) (hg : w.grownBy w' (Value.slice B n2 c2).ownBlock) : CellsII w' lo hi cs xss :=
  ⟨h.1, fun k xs hx => by obtain ⟨A', c', h1, h3⟩ := h.2.1 k xs hx; exact ⟨A', c', h1, h3.grownT h2 ht hg⟩, h.2.2⟩
theorem CellsII.farT {w : World} {lo hi : Nat} {cs : List Value} {xss : List (List Int)} {g : Nat} {t : TypeId} {bs : Array Value} (h : CellsII w lo hi cs xss) (hb : Blk w g t bs) (ht : t ≠ 2) (j : Nat) (u : Value) : CellsII (w.setCell ⟨g, j, none⟩ u) lo hi cs xss :=
  ⟨h.1, fun k xs hx => by obtain ⟨A', c', h1, h3⟩ := h.2.1 k xs hx; exact ⟨A', c', h1, h3.farT hb ht j u⟩, h.2.2⟩
theorem Blk.set20 {w : World} {g : Nat} {t : TypeId} {a b : Value} (h : Blk w g t #[a, b]) (u : Value) : Blk (w.setCell ⟨g, 0, none⟩ u) g t #[u, b] := by
  unfold Blk at h ⊢
  simp [World.setCell, Array.getElem?_modify, h]
theorem Blk.set21 {w : World} {g : Nat} {t : TypeId} {a b : Value} (h : Blk w g t #[a, b]) (u : Value) : Blk (w.setCell ⟨g, 1, none⟩ u) g t #[a, u] := by
  unfold Blk at h ⊢
  simp [World.setCell, Array.getElem?_modify, h]


end Go.Proofs.YtcgbogofmdjddaaDoor

/- packed. -/
namespace Go.Proofs.YtcgbogofmdjddaaDoor
open Go.RowKit

theorem Below.drew' {B : Nat} {w w' : World} (h : Below B w w') : Below B w (World.drew w') := h.trans ⟨rfl, rfl, rfl, Nat.le_refl _, fun _ _ => rfl⟩


end Go.Proofs.YtcgbogofmdjddaaDoor

/- PackLetters. -/
namespace Go.Proofs.YtcgbogofmdjddaaDoor
open Go.RowKit


end Go.Proofs.YtcgbogofmdjddaaDoor

/- ChartOfBraid: the plain function; slices of rows that grow. -/
namespace Go.Proofs.YtcgbogofmdjddaaDoor
open Go.RowKit

structure ChX where
  n : Int
  xs : List RowD
def rowsFrom (n : Nat) (car : Int) : List (List Int) → Int → List RowD
  | [], _ => []
  | g :: gs, d => ⟨d, car, rowFrom n g 0⟩ :: rowsFrom n car gs (-d)
def groupsOf (xs : List Int) : List (List Int) := if pack xs = [] then [[]] else pack xs
def cobCode (n : Int) (xs : List Int) (car : Int) : Int := if braidB n xs then (if inR n 1 8 && carrierB car then (if (pack xs).length ≤ 8 then 0 else 5) else 2) else 1
def cobX (n : Int) (xs : List Int) (car : Int) : ChX := if cobCode n xs car = 0 then ⟨n, rowsFrom n.toNat car (groupsOf xs) (-1)⟩ else ⟨0, []⟩
theorem rowsFrom_length (n : Nat) (car : Int) (gs : List (List Int)) (d : Int) : (rowsFrom n car gs d).length = gs.length := by
  induction gs generalizing d with
  | nil => rfl
  | cons g gs ih => simp [rowsFrom, ih]
theorem rowsFrom_len (n : Nat) (car : Int) (gs : List (List Int)) (d : Int) : lenRows (rowsFrom n car gs d) ≤ gs.length * n := by
  induction gs generalizing d with
  | nil => simp [rowsFrom, lenRows]
  | cons g gs ih =>
    have h1 := ih (-d)
    have h2 := rowFrom_length n g n 0 (by omega)
    simp only [rowsFrom, lenRows, List.length_cons, Nat.succ_mul]
    omega
theorem cobX_size (n : Int) (xs : List Int) (car : Int) : (cobX n xs car).xs.length ≤ 9 ∧ cntRows (cobX n xs car).xs ≤ 1000 := by
  unfold cobX
  split
  · rename_i h
    have hp : (pack xs).length ≤ 8 ∧ n ≤ 8 := by
      unfold cobCode at h
      split at h
      · split at h
        · rename_i h2
          simp only [Bool.and_eq_true] at h2
          have := inR_iff.1 h2.1
          split at h
          · exact ⟨by assumption, this.2⟩
          · simp at h
        · simp at h
      · simp at h
    have hg : (groupsOf xs).length ≤ 8 := by
      unfold groupsOf
      split
      · simp
      · exact hp.1
    have h1 := rowsFrom_length n.toNat car (groupsOf xs) (-1)
    have h2 := rowsFrom_len n.toNat car (groupsOf xs) (-1)
    have h3 : (groupsOf xs).length * n.toNat ≤ 8 * 8 := Nat.mul_le_mul hg (by omega)
    refine ⟨by simp only []; omega, ?_⟩
    unfold cntRows
    simp only []
    omega
  · simp [cntRows, lenRows]
theorem cob_err {n : Int} {xs : List Int} {car k : Int} (e : cobCode n xs car = k) (hk : k ≠ 0) : cobX n xs car = ⟨0, []⟩ ∧ cobCode n xs car = k := ⟨by rw [cobX, if_neg (by rw [e]; exact hk)], e⟩
theorem rowsFrom_drop {n : Nat} {car : Int} {gs : List (List Int)} {i : Nat} {g : List Int} {d : Int} (h : gs[i]? = some g) : rowsFrom n car (gs.drop i) d = ⟨d, car, rowFrom n g 0⟩ :: rowsFrom n car (gs.drop (i + 1)) (-d) := by rw [drop_cons h, rowsFrom]

theorem CellsRows.keepT {w w' : World} {lo hi : Nat} {cs : List Value} {rs : List RowD} (h : CellsRows w lo hi cs rs) (hk : ∀ k cur, lo ≤ k → k < hi → w.heap[k]? = some (.cells cur 2 (0, 0)) → w'.heap[k]? = w.heap[k]?) : CellsRows w' lo hi cs rs :=
  ⟨h.1, fun k r hx => by obtain ⟨A', c', h0, h1, h2, h3⟩ := h.2.1 k r hx; exact ⟨A', c', h0, h1, h2, h3.keepT hk⟩, h.2.2⟩
theorem CellsRows.grownT {w w' : World} {lo hi : Nat} {cs : List Value} {rs : List RowD} {lo2 hi2 : Nat} {e2 : TypeId} {sz2 : Nat} {B : Option Addr} {n2 c2 : Nat} {cs2 : List Value}
    (h : CellsRows w lo hi cs rs) (h2 : OwnC w lo2 hi2 e2 sz2 B n2 c2 cs2) (ht : (2 : TypeId) ≠ e2) (hg : w.grownBy w' (Value.slice B n2 c2).ownBlock) : CellsRows w' lo hi cs rs :=
  ⟨h.1, fun k r hx => by obtain ⟨A', c', h0, h1, h3, h4⟩ := h.2.1 k r hx; exact ⟨A', c', h0, h1, h3, h4.grownT h2 ht hg⟩, h.2.2⟩
theorem CellsRows.farT {w : World} {lo hi : Nat} {cs : List Value} {rs : List RowD} {g : Nat} {t : TypeId} {bs : Array Value} (h : CellsRows w lo hi cs rs) (hb : Blk w g t bs) (ht : t ≠ 2) (j : Nat) (u : Value) : CellsRows (w.setCell ⟨g, j, none⟩ u) lo hi cs rs :=
  ⟨h.1, fun k r hx => by obtain ⟨A', c', h0, h1, h3, h4⟩ := h.2.1 k r hx; exact ⟨A', c', h0, h1, h3, h4.farT hb ht j u⟩, h.2.2⟩
/-- One more row, its stitches in blocks behind those of the others. -/
theorem CellsRows.snoc {w : World} {lo m hi : Nat} {cs : List Value} {rs : List RowD} {A' : Option Addr} {c' : Nat} {r : RowD}
    (h : CellsRows w lo m cs rs) (ho : OwnI w m hi A' c' r.s) (h1 : lo ≤ m) (h2 : m ≤ hi) : CellsRows w lo hi (cs ++ [.int .i64 r.d, .int .i64 r.r, .slice A' r.s.length c']) (rs ++ [r]) := by
  have hB : ∀ {i : Nat} {v : Value} {g : Nat}, cs[i]? = some v → v.ownBlock = some g → lo ≤ g ∧ g < m := fun hi' hv => by have := h.block hi' hv; exact ⟨this.1, this.2.1⟩
  obtain ⟨ha, hb, hc⟩ := h
  have at2 : ∀ i v, ¬ i < cs.length → (cs ++ [.int .i64 r.d, .int .i64 r.r, .slice A' r.s.length c'])[i]? = some v → (i = cs.length ∧ v = .int .i64 r.d) ∨ (i = cs.length + 1 ∧ v = .int .i64 r.r) ∨ (i = cs.length + 2 ∧ v = .slice A' r.s.length c') := by
    intro i v hn hv
    have hil := (List.getElem?_eq_some_iff.1 hv).1
    simp at hil
    rw [List.getElem?_append_right (by omega)] at hv
    have : i - cs.length = 0 ∨ i - cs.length = 1 ∨ i - cs.length = 2 := by omega
    rcases this with e | e | e
    · rw [e] at hv; simp at hv; exact .inl ⟨by omega, hv.symm⟩
    · rw [e] at hv; simp at hv; exact .inr (.inl ⟨by omega, hv.symm⟩)
    · rw [e] at hv; simp at hv; exact .inr (.inr ⟨by omega, hv.symm⟩)
  refine ⟨by simp [ha]; omega, fun k q hq => ?_, fun i j v v' g hi' hj hv hv' => ?_⟩
  · rcases Nat.lt_or_ge k rs.length with hk | hk
    · rw [List.getElem?_append_left hk] at hq
      obtain ⟨A2, c2, e0, e1, e2, e3⟩ := hb k q hq
      exact ⟨A2, c2, by rw [List.getElem?_append_left (by omega)]; exact e0, by rw [List.getElem?_append_left (by omega)]; exact e1, by rw [List.getElem?_append_left (by omega)]; exact e2, e3.mono (Nat.le_refl _) h2⟩
    · have hkl := (List.getElem?_eq_some_iff.1 hq).1
      simp at hkl
      obtain rfl : k = rs.length := by omega
      simp at hq
      subst hq
      refine ⟨A', c', ?_, ?_, ?_, ho.mono h1 (Nat.le_refl _)⟩
      · rw [List.getElem?_append_right (by omega), ha, Nat.sub_self]; rfl
      · rw [List.getElem?_append_right (by omega), ha, show rs.length * 3 + 1 - rs.length * 3 = 1 by omega]; rfl
      · rw [List.getElem?_append_right (by omega), ha, show rs.length * 3 + 2 - rs.length * 3 = 2 by omega]; rfl
  · have new : (Value.slice A' r.s.length c').ownBlock = some g → m ≤ g := fun e => (ho.own.lt g e).1
    by_cases ei : i < cs.length
    · have bi := hB (by rw [List.getElem?_append_left ei] at hi'; exact hi') hv
      by_cases ej : j < cs.length
      · rw [List.getElem?_append_left ei] at hi'
        rw [List.getElem?_append_left ej] at hj
        exact hc i j v v' g hi' hj hv hv'
      · rcases at2 j v' ej hj with ⟨_, rfl⟩ | ⟨_, rfl⟩ | ⟨_, rfl⟩
        · simp [Value.ownBlock] at hv'
        · simp [Value.ownBlock] at hv'
        · have := new hv'; omega
    · rcases at2 i v ei hi' with ⟨_, rfl⟩ | ⟨_, rfl⟩ | ⟨e1, rfl⟩
      · simp [Value.ownBlock] at hv
      · simp [Value.ownBlock] at hv
      · by_cases ej : j < cs.length
        · have bj := hB (by rw [List.getElem?_append_left ej] at hj; exact hj) hv'
          have := new hv
          omega
        · rcases at2 j v' ej hj with ⟨_, rfl⟩ | ⟨_, rfl⟩ | ⟨e2, rfl⟩
          · simp [Value.ownBlock] at hv'
          · simp [Value.ownBlock] at hv'
          · omega
theorem CellsRows.nil {w : World} {lo hi : Nat} : CellsRows w lo hi [] [] := ⟨rfl, fun k r hx => by simp at hx, fun i j v v' g hi' => by simp at hi'⟩
theorem Ints.drew1 {w : World} {A : Option Addr} {xs : List Int} (h : Ints w A xs) : Ints (World.drew w) A xs := h

end Go.Proofs.YtcgbogofmdjddaaDoor

/- Charts: the plain functions of a chart's stacks and of the limit on strands. -/
namespace Go.Proofs.YtcgbogofmdjddaaDoor
open Go.RowKit

def sumI : List Int → Int
  | [] => 0
  | x :: xs => x + sumI xs
theorem sumI_append (a b : List Int) : sumI (a ++ b) = sumI a + sumI b := by
  induction a with
  | nil => simp [sumI]
  | cons x r ih => simp [sumI, ih]; omega
theorem sumI_snoc {xs : List Int} {i : Nat} {x : Int} (h : xs[i]? = some x) : sumI (xs.take (i + 1)) = sumI (xs.take i) + x := by
  rw [take_snoc h, sumI_append]; simp [sumI]
def tinyB (xs : List Int) : Prop := ∀ x ∈ xs, 0 ≤ x ∧ x ≤ 5
theorem sumI_le {xs : List Int} (h : tinyB xs) : 0 ≤ sumI xs ∧ sumI xs ≤ 5 * xs.length := by
  induction xs with
  | nil => simp [sumI]
  | cons x r ih =>
    have h1 := h x (by simp)
    have h2 := ih fun y hy => h y (by simp [hy])
    simp only [sumI, List.length_cons]
    omega
theorem tinyB_take {xs : List Int} (h : tinyB xs) (k : Nat) : tinyB (xs.take k) := fun y hy => h y (List.mem_of_mem_take hy)
theorem tinyB_drop {xs : List Int} (h : tinyB xs) (k : Nat) : tinyB (xs.drop k) := fun y hy => h y (List.mem_of_mem_drop hy)
theorem tinyB_of {st : List Int} (h : ∀ x ∈ st, inR x 1 4 = true) : tinyB st := fun y hy => by have := inR_iff.1 (h y hy); omega
theorem tinyB_made (k : Int) {st : List Int} (h : ∀ x ∈ st, inR x 1 4 = true) : tinyB (stepMade k st) := by
  have h0 : 0 ≤ st0 st ∧ st0 st ≤ 4 := by
    unfold st0
    cases e : st[0]? with
    | none => simp
    | some x => have := inR_iff.1 (h x (List.mem_of_getElem? e)); simp; omega
  intro y hy
  unfold stepMade at hy
  split at hy
  · simp at hy
    have hw : wrap64 (st0 st + 1) = st0 st + 1 := IntWalk.wrap64_in _ ⟨by omega, by omega⟩
    omega
  · split at hy
    · simp at hy; omega
    · have := (List.mem_replicate.1 hy).2; omega
theorem stepMade_madeN {k : Int} (hk : isStitchB k = true) (st : List Int) : (stepMade k st).length = madeN k := by
  unfold stepMade
  rcases stitch_cases hk with rfl | rfl | rfl | rfl | rfl | rfl | rfl | rfl | rfl | rfl | rfl <;> simp <;> rfl
def changeI (k : Int) (st : List Int) : Int := sumI (stepMade k st) - sumI (st.take (takenN k))
def changesP : List Int → List Int → List Int
  | [], _ => []
  | k :: ks, st => changeI k st :: changesP ks (st.drop (takenN k))
theorem changesP_length (ks st : List Int) : (changesP ks st).length = ks.length := by
  induction ks generalizing st with
  | nil => rfl
  | cons k ks ih => simp [changesP, ih]
theorem changesP_append (a b st : List Int) : changesP (a ++ b) st = changesP a st ++ changesP b (st.drop (takenS a)) := by
  induction a generalizing st with
  | nil => simp [changesP, takenS]
  | cons k a ih => simp [changesP, takenS, ih, List.drop_drop]
theorem changesP_take {ks st : List Int} {j : Nat} {k : Int} (h : ks[j]? = some k) : changesP (ks.take (j + 1)) st = changesP (ks.take j) st ++ [changeI k (st.drop (takenS (ks.take j)))] := by
  rw [take_snoc h, changesP_append]; rfl
theorem changesP_at {ks st : List Int} {j : Nat} {k : Int} (h : ks[j]? = some k) : (changesP ks st)[j]? = some (changeI k (st.drop (takenS (ks.take j)))) := by
  have hj := (List.getElem?_eq_some_iff.1 h).1
  have e : ks = ks.take j ++ k :: ks.drop (j + 1) := by rw [← drop_cons h, List.take_append_drop]
  have hl : (changesP (ks.take j) st).length = j := by rw [changesP_length, List.length_take]; omega
  conv => lhs; rw [e, changesP_append]
  rw [List.getElem?_append_right (by omega), hl, Nat.sub_self]
  rfl
theorem changeI_le {k : Int} (hk : isStitchB k = true) {st : List Int} (h : ∀ x ∈ st, inR x 1 4 = true) : -20 ≤ changeI k st ∧ changeI k st ≤ 20 := by
  have h1 := sumI_le (tinyB_made k h)
  have h2 := sumI_le (tinyB_take (tinyB_of h) (takenN k))
  have h3 := stepMade_length hk st
  have h4 := (takenN_le k hk).1
  have h5 : (st.take (takenN k)).length ≤ takenN k := by rw [List.length_take]; omega
  unfold changeI
  omega
def limB : Int → List Int → Bool
  | _, [] => true
  | s, c :: cs => decide (s + c ≤ 12) && limB (s + c) cs
theorem limB_drop {s : Int} {cs : List Int} {i : Nat} {c : Int} (h : cs[i]? = some c) : limB s (cs.drop i) = (decide (s + c ≤ 12) && limB (s + c) (cs.drop (i + 1))) := by rw [drop_cons h, limB]
def ordL (d : Int) (cs : List Int) : List Int := if d = -1 then cs.reverse else cs
def keepB (d : Int) (st ks : List Int) : Bool := limB (sumI st) (ordL d (changesP ks st))
theorem ordL_length (d : Int) (cs : List Int) : (ordL d cs).length = cs.length := by unfold ordL; split <;> simp
theorem ordL_rev {cs : List Int} {i : Nat} (h : i < cs.length) : (ordL (-1) cs)[i]? = cs[cs.length - 1 - i]? := by
  unfold ordL
  rw [if_pos rfl, List.getElem?_reverse h]
theorem ordL_fwd (cs : List Int) : ordL 1 cs = cs := by unfold ordL; rw [if_neg (by decide)]
theorem afterP_seg {ks st : List Int} (hs : ∀ k ∈ ks, isStitchB k = true) {j : Nat} {k : Int} (h : ks[j]? = some k) : ∃ rest, (afterP ks st).drop (madeS (ks.take j)) = stepMade k (st.drop (takenS (ks.take j))) ++ rest := by
  induction ks generalizing st j with
  | nil => simp at h
  | cons q ks ih =>
    cases j with
    | zero =>
      simp at h
      subst h
      exact ⟨afterP ks (st.drop (takenN q)), by simp [madeS, takenS, afterP]⟩
    | succ j =>
      obtain ⟨rest, hr⟩ := ih (st := st.drop (takenN q)) (fun x hx => hs x (by simp [hx])) (by simpa using h)
      refine ⟨rest, ?_⟩
      simp only [List.take_succ_cons, madeS, takenS, afterP]
      rw [List.drop_append, List.drop_eq_nil_of_le (by rw [stepMade_madeN (hs q (by simp))]; omega), stepMade_madeN (hs q (by simp)), show madeN q + madeS (ks.take j) - madeN q = madeS (ks.take j) by omega, hr, List.drop_drop]
      simp
def stepCode (st ks : List Int) : Bool := decide ((stacksAfterP st ks).2 = 0)
/-- The stacks behind each row, and whether each row is knittable. -/
def rowOkB (st : List Int) (r : RowD) : Bool := rowB r.d r.r r.s && stepCode st r.s && keepB r.d st r.s
def stacksFrom : List Int → List RowD → List (List Int)
  | _, [] => []
  | st, r :: rs => (stacksAfterP st r.s).1 :: stacksFrom (stacksAfterP st r.s).1 rs
def rowsOkB : List Int → List RowD → Bool
  | _, [] => true
  | st, r :: rs => rowOkB st r && rowsOkB (stacksAfterP st r.s).1 rs
def chartB (n : Int) (rs : List RowD) : Bool := inR n 1 8 && inR rs.length 1 8 && rowsOkB (List.replicate n.toNat 1) rs
def chartStacks (n : Int) (rs : List RowD) : List (List Int) := if chartB n rs then stacksFrom (List.replicate n.toNat 1) rs else []
theorem stepCode_of {st ks : List Int} (h : stepCode st ks = true) : stacksB st = true ∧ stitchesB ks = true ∧ takenS ks = st.length ∧ (stacksAfterP st ks).1 = afterP ks st ∧ stacksB (afterP ks st) = true := by
  have h := of_decide_eq_true h
  by_cases h1 : stacksB st = true
  · by_cases h2 : stitchesB ks = true
    · by_cases h3 : takenS ks = st.length
      · rw [stacksAfterP_spec h1 h2 h3] at h ⊢
        by_cases h4 : (stacksB (afterP ks st) && !thickP ks st) = true
        · rw [if_pos h4]
          simp only [Bool.and_eq_true] at h4
          exact ⟨h1, h2, h3, rfl, h4.1⟩
        · rw [if_neg h4] at h
          simp at h
      · simp [stacksAfterP, h1, h2, h3] at h
    · simp [stacksAfterP, h2] at h
  · simp [stacksAfterP, h1] at h
theorem stacksFrom_length (st : List Int) (rs : List RowD) : (stacksFrom st rs).length = rs.length := by
  induction rs generalizing st with
  | nil => rfl
  | cons r rs ih => simp [stacksFrom, ih]
theorem stacksFrom_cnt (st : List Int) (rs : List RowD) : cntII (stacksFrom st rs) ≤ 8 * rs.length := by
  induction rs generalizing st with
  | nil => simp [stacksFrom, cntII]
  | cons r rs ih =>
    have h1 := ih (stacksAfterP st r.s).1
    have h2 := stacksAfterP_length st r.s
    simp only [stacksFrom, cntII, List.length_cons]
    omega
theorem chartStacks_size (n : Int) (rs : List RowD) : (chartStacks n rs).length ≤ 8 ∧ cntII (chartStacks n rs) ≤ 64 := by
  unfold chartStacks
  split
  · rename_i h
    unfold chartB at h
    simp only [Bool.and_eq_true] at h
    have h1 := inR_iff.1 h.1.2
    have h2 := stacksFrom_length (List.replicate n.toNat 1) rs
    have h3 := stacksFrom_cnt (List.replicate n.toNat 1) rs
    omega
  · simp [cntII]

end Go.Proofs.YtcgbogofmdjddaaDoor

/- l15Thin: the given side's limit on strands. -/
namespace Go.Proofs.YtcgbogofmdjddaaDoor
open Go.RowKit

theorem afterP_len {ks st : List Int} (hs : ∀ k ∈ ks, isStitchB k = true) : (afterP ks st).length = madeS ks := by
  induction ks generalizing st with
  | nil => rfl
  | cons q ks ih => rw [afterP, madeS, List.length_append, stepMade_madeN (hs q (by simp)), ih fun x hx => hs x (by simp [hx])]
theorem madeS_at {ks : List Int} {i : Nat} {k : Int} (h : ks[i]? = some k) : madeS (ks.take i) + madeN k ≤ madeS ks := by
  rw [← madeS_snoc h]
  have := madeS_append (ks.take (i + 1)) (ks.drop (i + 1))
  rw [List.take_append_drop] at this
  omega
theorem drop_getElem {xs : List Int} {f q : Nat} {x : Int} (h : xs[f + q]? = some x) : (xs.drop f)[q]? = some x := by rw [List.getElem?_drop]; exact h


end Go.Proofs.YtcgbogofmdjddaaDoor

/- l15Stacks: the stacks of a chart, the given side. -/
namespace Go.Proofs.YtcgbogofmdjddaaDoor
open Go.RowKit

/-- The list of stacks grows by one. -/
theorem stacks_step {w5 w6 : World} {lo m k : Nat} {A5 A3 : Option Addr} {c5 c3 : Nat} {cs : List Value} {done : List (List Int)} {nx : List Int}
    (ho : OwnC w5 lo m 35 1 A5 k c5 cs) (hc : CellsII w5 lo m cs done) (hx : OwnI w5 m w5.heap.size A3 c3 nx) (hlo : lo ≤ m) (hm : m ≤ w5.heap.size)
    (hg : (w5.alloc (.cells #[.slice A3 nx.length c3] 35)).grownBy w6 (Value.slice A5 k c5).ownBlock) (hz : w5.heap.size < w6.heap.size) :
    OwnI w6 lo w6.heap.size A3 c3 nx ∧ CellsII w6 lo w6.heap.size (cs ++ [.slice A3 nx.length c3]) (done ++ [nx]) := by
  have t3 : (2 : TypeId) ≠ 35 := by decide
  have ho' := ho.alloc (.cells #[.slice A3 nx.length c3] 35)
  have hc' : CellsII (w5.alloc (.cells #[.slice A3 nx.length c3] 35)) lo m cs done := hc.keep fun q _ _ h3 => Below.heap_alloc w5 _ q h3
  have hx6 := (hx.alloc (.cells #[.slice A3 nx.length c3] 35)).grownT ho' t3 hg
  have hc6 := hc'.grownT ho' t3 hg
  exact ⟨hx6.mono hlo (by omega), (hc6.snoc hx6 hlo (by omega)).mono (Nat.le_refl _) (by omega)⟩
def sliceLen : Value → Nat
  | .slice _ n _ => n
  | _ => 0
theorem stacksFrom_drop {st : List Int} {rs : List RowD} {k : Nat} {r : RowD} (h : rs[k]? = some r) : stacksFrom st (rs.drop k) = (stacksAfterP st r.s).1 :: stacksFrom (stacksAfterP st r.s).1 (rs.drop (k + 1)) := by rw [drop_cons h, stacksFrom]
theorem rowsOkB_drop {st : List Int} {rs : List RowD} {k : Nat} {r : RowD} (h : rs[k]? = some r) : rowsOkB st (rs.drop k) = (rowOkB st r && rowsOkB (stacksAfterP st r.s).1 (rs.drop (k + 1))) := by rw [drop_cons h, rowsOkB]
theorem chart_bad {n : Int} {rs : List RowD} (h : chartB n rs = false) : chartStacks n rs = [] ∧ chartB n rs = false := ⟨by rw [chartStacks, if_neg (by rw [h]; decide)], h⟩


end Go.Proofs.YtcgbogofmdjddaaDoor

/- slices.Clone, copyLists, slices.Reverse. -/
namespace Go.Proofs.YtcgbogofmdjddaaDoor
open Go.RowKit

theorem Ints.news {w : World} {A : Option Addr} {xs : List Int} (h : Ints w A xs) : ∀ j u, (xs.map (Value.int .i64))[j]? = some u → ∃ b off, A = some ⟨b, off, none⟩ ∧ w.cell? ⟨b, off + j, none⟩ = some u := by
  intro j u hu
  have hj := (List.getElem?_eq_some_iff.1 hu).1
  simp at hj
  obtain ⟨b, off, x, hA, hc, hx⟩ := h j hj
  rw [List.getElem?_map, hx] at hu
  simp at hu
  subst hu
  exact ⟨b, off, hA, hc⟩


end Go.Proofs.YtcgbogofmdjddaaDoor

/- keepsLimit: the program's limit on strands. -/
namespace Go.Proofs.YtcgbogofmdjddaaDoor
open Go.RowKit

def iotaI (n : Nat) : List Int := (List.range n).map fun (i : Nat) => (i : Int)
theorem iotaI_length (n : Nat) : (iotaI n).length = n := by simp [iotaI]
theorem iotaI_at {n k : Nat} (h : k < n) : (iotaI n)[k]? = some (k : Int) := by simp [iotaI, h]


end Go.Proofs.YtcgbogofmdjddaaDoor

/- keepsLimit. -/
namespace Go.Proofs.YtcgbogofmdjddaaDoor
open Go.RowKit

theorem ordL_map (d : Int) (cs : List Int) {k : Nat} (h : k < cs.length) : ∃ j : Nat, j < cs.length ∧ (ordL d (iotaI cs.length))[k]? = some (j : Int) ∧ (ordL d cs)[k]? = cs[j]? := by
  by_cases hd : d = -1
  · subst hd
    refine ⟨cs.length - 1 - k, by omega, ?_, ordL_rev h⟩
    rw [ordL_rev (by rw [iotaI_length]; exact h), iotaI_length]
    exact iotaI_at (by omega)
  · refine ⟨k, h, ?_, ?_⟩
    · unfold ordL; rw [if_neg hd]; exact iotaI_at h
    · unfold ordL; rw [if_neg hd]


end Go.Proofs.YtcgbogofmdjddaaDoor

/- slices.Repeat of [1], up to eight times. -/
namespace Go.Proofs.YtcgbogofmdjddaaDoor
open Go.RowKit


end Go.Proofs.YtcgbogofmdjddaaDoor

/- allStacks: the stacks of a chart, the program's side. -/
namespace Go.Proofs.YtcgbogofmdjddaaDoor
open Go.RowKit

theorem after_pos {ks st : List Int} (hs : ∀ k ∈ ks, isStitchB k = true) (h : takenS ks = st.length) (h1 : 1 ≤ st.length) : 1 ≤ (afterP ks st).length := by
  cases ks with
  | nil => simp [takenS] at h; omega
  | cons k ks =>
    have h2 := stepMade_madeN (hs k (by simp)) st
    have h3 := (takenN_le k (hs k (by simp))).2.2
    rw [afterP, List.length_append]
    omega
theorem OwnC.head {w : World} {lo hi : Nat} {e : TypeId} {sz : Nat} {A : Option Addr} {n c : Nat} {cs : List Value} (h : OwnC w lo hi e sz A n c cs) (hn : 1 ≤ n) : ∃ g, A = some ⟨g, 0, none⟩ := by
  rcases h.form with ⟨_, h1, _⟩ | ⟨g, _, h1, _⟩
  · omega
  · exact ⟨g, h1⟩

theorem chart_len {n : Int} {rs : List RowD} (h : inR (rs.length : Int) 1 8 = false) : chartB n rs = false := by
  unfold chartB
  rw [h, Bool.and_false, Bool.false_and]


end Go.Proofs.YtcgbogofmdjddaaDoor
