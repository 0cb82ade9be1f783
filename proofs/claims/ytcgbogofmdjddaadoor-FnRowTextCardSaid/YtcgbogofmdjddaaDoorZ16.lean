/- Steps of the proof, joined from several texts: WA WB WC WD WE. -/
import Derived.Test.YtcgbogofmdjddaaDoorZ12
import Derived.Test.YtcgbogofmdjddaaDoorZ15
import Derived.Deep.QuietTactic
import Derived.BigQuiet

/- ShortRow, plain: the texts with one group, in the order in which both sides try them. -/
namespace Go.Proofs.YtcgbogofmdjddaaDoor
open Go Go.RowKit

def segL (l : List Int) (f s : Nat) : List Int := (l.drop f).take s
/-- The part of s stitches at an index is the one at f. -/
def runAt (l : List Int) (f s e : Nat) : Bool := decide (e + s ≤ l.length) && decide (segL l e s = segL l f s)
def runs (l : List Int) (f s k : Nat) : Bool := decide (1 ≤ s) && runAt l f s (f + (k - 1) * s)
theorem runs_le {l : List Int} {f s k : Nat} (hk : 1 ≤ k) (h : runs l f s k = true) : 1 ≤ s ∧ f + k * s ≤ l.length ∧ k ≤ l.length := by
  unfold runs runAt at h
  simp only [Bool.and_eq_true, decide_eq_true_eq] at h
  obtain ⟨h1, h2, _⟩ := h
  obtain ⟨m, rfl⟩ : ∃ m, k = m + 1 := ⟨k - 1, by omega⟩
  rw [Nat.add_sub_cancel] at h2
  have e : (m + 1) * s = m * s + s := Nat.succ_mul m s
  have h3 : m + 1 ≤ (m + 1) * s := Nat.le_mul_of_pos_right _ h1
  omega
/-- How often the part is repeated, from m times on. -/
def repsF (l : List Int) (f s m : Nat) : Nat := if h : runs l f s (m + 1) = true then repsF l f s (m + 1) else m
termination_by l.length + 1 - m
decreasing_by have := runs_le (by omega) h; omega
theorem repsF_yes {l : List Int} {f s m : Nat} (h : runs l f s (m + 1) = true) : repsF l f s m = repsF l f s (m + 1) := by rw [repsF, dif_pos h]
theorem repsF_no {l : List Int} {f s m : Nat} (h : runs l f s (m + 1) = false) : repsF l f s m = m := by rw [repsF, dif_neg (by simp [h])]
theorem repsF_ge (n : Nat) : ∀ (l : List Int) (f s m : Nat), l.length + 1 - m ≤ n → m ≤ repsF l f s m := by
  induction n with
  | zero =>
    intro l f s m hn
    cases h : runs l f s (m + 1)
    · rw [repsF_no h]; exact Nat.le_refl _
    · have := runs_le (by omega) h; omega
  | succ n ih =>
    intro l f s m hn
    cases h : runs l f s (m + 1)
    · rw [repsF_no h]; exact Nat.le_refl _
    · rw [repsF_yes h]
      have := ih l f s (m + 1) (by omega)
      omega
theorem repsF_step (l : List Int) (f s k : Nat) (hk : 2 ≤ k) (h : ∀ j, 2 ≤ j → j < k → runs l f s j = true) : repsF l f s 1 = repsF l f s (k - 1) := by
  induction k with
  | zero => omega
  | succ k ih =>
    by_cases h2 : k = 1
    · subst h2; rfl
    · rw [ih (by omega) fun j h1 h2 => h j h1 (by omega), Nat.add_sub_cancel]
      have := h k (by omega) (by omega)
      obtain ⟨m, rfl⟩ : ∃ m, k = m + 1 := ⟨k - 1, by omega⟩
      rw [Nat.add_sub_cancel, repsF_yes this]
theorem reps_iff (l : List Int) (f s k : Nat) (hk : 2 ≤ k) (h : ∀ j, 2 ≤ j → j < k → runs l f s j = true) : decide (k ≤ repsF l f s 1) = runs l f s k := by
  rw [repsF_step l f s k hk h]
  obtain ⟨m, rfl⟩ : ∃ m, k = m + 1 := ⟨k - 1, by omega⟩
  rw [Nat.add_sub_cancel]
  cases hr : runs l f s (m + 1)
  · rw [repsF_no hr]; exact decide_eq_false (by omega)
  · rw [repsF_yes hr]; exact decide_eq_true (repsF_ge _ l f s (m + 1) (Nat.le_refl _))
/-- The pieces with a group in the middle. -/
def foldP (l : List Int) (f s t : Nat) : List PieceD := compressed (l.take f) ++ ⟨12, (t : Int), ((compressed (segL l f s)).length : Int)⟩ :: (compressed (segL l f s) ++ compressed (l.drop (f + s * t)))
def betterB (t b : ByteArray) : Bool := decide (t.size < b.size) || (decide (t.size = b.size) && Op.bytesLess t.toList b.toList)
def pickT (t b : ByteArray) : ByteArray := if betterB t b then t else b
def shT (l : List Int) (f s k : Nat) (b : ByteArray) : ByteArray := if h : 1 ≤ k ∧ runs l f s k = true then shT l f s (k + 1) (pickT (txtP (foldP l f s k)) b) else b
termination_by l.length + 1 - k
decreasing_by have := runs_le h.1 h.2; omega
def shS (l : List Int) (f s : Nat) (b : ByteArray) : ByteArray := if h : 1 ≤ s ∧ f + 2 * s ≤ l.length then shS l f (s + 1) (shT l f s 2 b) else b
termination_by l.length + 1 - s
decreasing_by omega
def shF (l : List Int) (f : Nat) (b : ByteArray) : ByteArray := if h : f < l.length then shF l (f + 1) (shS l f 1 b) else b
termination_by l.length - f
def shortP (l : List Int) : ByteArray := if stitchesB l then shF l 0 (txtP (compressed l)) else ⟨#[]⟩
theorem shT_yes {l : List Int} {f s k : Nat} (hk : 1 ≤ k) (h : runs l f s k = true) (b : ByteArray) : shT l f s k b = shT l f s (k + 1) (pickT (txtP (foldP l f s k)) b) := by rw [shT, dif_pos ⟨hk, h⟩]
theorem shT_no {l : List Int} {f s k : Nat} (h : runs l f s k = false) (b : ByteArray) : shT l f s k b = b := by rw [shT, dif_neg (by simp [h])]
theorem shS_yes {l : List Int} {f s : Nat} (h1 : 1 ≤ s) (h : f + 2 * s ≤ l.length) (b : ByteArray) : shS l f s b = shS l f (s + 1) (shT l f s 2 b) := by rw [shS, dif_pos ⟨h1, h⟩]
theorem shS_no {l : List Int} {f s : Nat} (h : ¬ f + 2 * s ≤ l.length) (b : ByteArray) : shS l f s b = b := by rw [shS, dif_neg (by omega)]
theorem shF_yes {l : List Int} {f : Nat} (h : f < l.length) (b : ByteArray) : shF l f b = shF l (f + 1) (shS l f 1 b) := by rw [shF, dif_pos h]
theorem shF_no {l : List Int} {f : Nat} (h : ¬ f < l.length) (b : ByteArray) : shF l f b = b := by rw [shF, dif_neg h]
/-- Texts of pieces one after the other. -/
theorem join_split (x y : ByteArray) (xs ys : List ByteArray) : joinB (x :: xs ++ y :: ys) = joinB [joinB (x :: xs), joinB (y :: ys)] := by
  apply ByteArray.ext
  show (Lib.join _ _).toArray = (Lib.join _ _).toArray
  congr 1
  simp only [List.map_append, List.map_cons, List.cons_append, List.map_nil]
  rw [Lib.join_cons, Lib.join_cons]
  show _ = (Lib.join _ _) ++ Lib.joinTail [32] [(Lib.join _ _)]
  rw [List.map_cons, List.map_cons, Lib.join_cons, Lib.join_cons]
  simp [Lib.joinTail]
theorem partsP_append_plain : ∀ (a b : List PieceD), (∀ p ∈ a, p.kind ≠ 12) → partsP (a ++ b) = partsP a ++ partsP b
  | [], b, _ => by rw [partsP_nil]; rfl
  | p :: a, b, h => by
    have hp := h p (by simp)
    rw [List.cons_append, partsP_plain hp, partsP_plain hp, partsP_append_plain a b fun q hq => h q (by simp [hq])]
    rfl
theorem partsP_grp (p : PieceD) (a b : List PieceD) (hk : p.kind = 12) (hl : p.len = (a.length : Int)) : partsP (p :: (a ++ b)) = grpT p (txtP a) :: partsP b := by
  rw [partsP_group hk, hl, Int.toNat_natCast, List.take_left, List.drop_left]
theorem partsP_ne {ps : List PieceD} (h : ps ≠ []) : ∃ x xs, partsP ps = x :: xs := by
  cases hp : partsP ps with
  | nil => 
    cases ps with
    | nil => exact absurd rfl h
    | cons p r => rw [partsP] at hp; split at hp <;> cases hp
  | cons x xs => exact ⟨x, xs, rfl⟩
theorem compressed_ne {xs : List Int} (h : xs ≠ []) : compressed xs ≠ [] := by
  rcases List.eq_nil_or_concat xs with rfl | ⟨ys, y, rfl⟩
  · exact absurd rfl h
  · rw [List.concat_eq_append, compressed_snoc]
    obtain ⟨qs, t, l, e⟩ := pushP_last (compressed ys) y
    rw [e]; simp
/-- The three parts of a text with a group. -/
def partT (l : List Int) (f s t : Nat) : List ByteArray :=
  (if 0 < f then [txtP (compressed (l.take f))] else []) ++ [grpT ⟨12, (t : Int), ((compressed (segL l f s)).length : Int)⟩ (txtP (compressed (segL l f s)))] ++ (if f + s * t < l.length then [txtP (compressed (l.drop (f + s * t)))] else [])
theorem segL_sub {l : List Int} {f s : Nat} {x : Int} (h : x ∈ segL l f s) : x ∈ l := List.mem_of_mem_drop (List.mem_of_mem_take h)
theorem part_fold {l : List Int} (hs : stitchesB l = true) {f s t : Nat} (hf : f < l.length) : joinB (partT l f s t) = txtP (foldP l f s t) := by
  obtain ⟨_, hk⟩ := stitchesB_of hs
  have hp : ∀ xs : List Int, (∀ x ∈ xs, x ∈ l) → ∀ p ∈ compressed xs, p.kind ≠ 12 := by
    intro xs hx p hp e
    have := inR_iff.1 (hk _ (hx _ (compressed_kinds xs p hp)))
    omega
  have e1 : partsP (foldP l f s t) = partsP (compressed (l.take f)) ++ (grpT ⟨12, (t : Int), ((compressed (segL l f s)).length : Int)⟩ (txtP (compressed (segL l f s))) :: partsP (compressed (l.drop (f + s * t)))) := by
    unfold foldP
    rw [partsP_append_plain _ _ (hp _ fun x hx => List.mem_of_mem_take hx), partsP_grp _ _ _ rfl rfl]
  unfold txtP at *
  rw [e1]
  unfold partT txtP
  generalize grpT ⟨12, (t : Int), ((compressed (segL l f s)).length : Int)⟩ (joinB (partsP (compressed (segL l f s)))) = g
  have hA : 0 < f → ∃ x xs, partsP (compressed (l.take f)) = x :: xs := fun h => partsP_ne (compressed_ne (by intro e; have := congrArg List.length e; rw [List.length_take, List.length_nil] at this; omega))
  have hC : f + s * t < l.length → ∃ x xs, partsP (compressed (l.drop (f + s * t))) = x :: xs := fun h => partsP_ne (compressed_ne (by intro e; have := congrArg List.length e; rw [List.length_drop, List.length_nil] at this; omega))
  have hA0 : ¬ 0 < f → partsP (compressed (l.take f)) = [] := fun h => by rw [show f = 0 by omega, List.take_zero]; exact partsP_nil
  have hC0 : ¬ f + s * t < l.length → partsP (compressed (l.drop (f + s * t))) = [] := fun h => by rw [List.drop_eq_nil_of_le (by omega)]; exact partsP_nil
  by_cases h1 : 0 < f
  · obtain ⟨x, xs, ea⟩ := hA h1
    rw [if_pos h1, ea]
    by_cases h2 : f + s * t < l.length
    · obtain ⟨y, ys, ec⟩ := hC h2
      rw [if_pos h2, ec, join_split x g xs (y :: ys)]
      have e3 := join_split g y [] ys
      simp only [List.singleton_append] at e3
      rw [e3]
      have e4 := join_split (joinB (x :: xs)) (joinB [g]) [] [joinB (y :: ys)]
      have one : ∀ z : ByteArray, joinB [z] = z := fun z => by apply ByteArray.ext; simp [joinB, Lib.join_one]
      rw [one g]
      show joinB ([joinB (x :: xs)] ++ g :: [joinB (y :: ys)]) = _
      rw [join_split (joinB (x :: xs)) g [] [joinB (y :: ys)], one]
    · rw [if_neg h2, hC0 h2, join_split x g xs []]
      have one : ∀ z : ByteArray, joinB [z] = z := fun z => by apply ByteArray.ext; simp [joinB, Lib.join_one]
      rw [one g, List.append_nil]
      rfl
  · rw [if_neg h1, hA0 h1]
    by_cases h2 : f + s * t < l.length
    · obtain ⟨y, ys, ec⟩ := hC h2
      rw [if_pos h2, ec]
      have e3 := join_split g y [] ys
      have one : ∀ z : ByteArray, joinB [z] = z := fun z => by apply ByteArray.ext; simp [joinB, Lib.join_one]
      rw [one g] at e3
      exact e3.symm
    · rw [if_neg h2, hC0 h2]
      rfl

end Go.Proofs.YtcgbogofmdjddaaDoor

/- ShortRow, the program's side: how often a part is repeated. -/
namespace Go.Proofs.YtcgbogofmdjddaaDoor
open Go Go.RowKit

theorem segL_ext {l : List Int} {e f s : Nat} (_he : e + s ≤ l.length) (_hf : f + s ≤ l.length) : segL l e s = segL l f s ↔ ∀ j, j < s → l[e + j]? = l[f + j]? := by
  unfold segL
  constructor
  · intro h j hj
    have := congrArg (·[j]?) h
    simp only [List.getElem?_take, if_pos hj, List.getElem?_drop] at this
    exact this
  · intro h
    apply List.ext_getElem?
    intro j
    rw [List.getElem?_take, List.getElem?_take]
    by_cases hj : j < s
    · rw [if_pos hj, if_pos hj, List.getElem?_drop, List.getElem?_drop, h j hj]
    · rw [if_neg hj, if_neg hj]
theorem runs_next {l : List Int} {f s m e : Nat} (hs : 1 ≤ s) (_hm : 1 ≤ m) (he : e = f + m * s) : runs l f s (m + 1) = runAt l f s e := by
  rw [runs, decide_eq_true hs, Bool.true_and, Nat.add_sub_cancel, he]

set_option maxHeartbeats 2000000 in
set_option maxRecDepth 10000 in
theorem impl_repeats (l : List Int) (b off c f s : Nat) (w : World) (h : Ints w (some ⟨b, off, none⟩) l) (hl : l.length ≤ 16) (hs : 1 ≤ s) (hfs : f + 2 * s ≤ l.length) :
    Calls Tryd.prog 61 #[.slice (some ⟨b, off, none⟩) l.length c, .int .i64 (f : Int), .int .i64 (s : Int)] w fun e w' => e = .returned (.int .i64 (repsF l f s 1 : Int)) ∧ Drawn w w' := by
  go_enter Tryd.func61, Tryd.ntmps61
  go_wp2_with (fail)
  go_loopw [7, 8] (fun nv ev wr => ∃ (m E : Nat), 1 ≤ m ∧ m ≤ E ∧ E ≤ l.length ∧ nv = .int .i64 (m : Int) ∧ ev = .int .i64 (E : Int) ∧ Hid (E = f + m * s) ∧ Hid (repsF l f s 1 = repsF l f s m) ∧ Drawn w wr) (fun _ ev _ => l.length - (intOf ev).toNat)
  case atStart => exact ⟨1, f + s, Nat.le_refl _, by omega, by omega, rfl, by go_num, Lib.hid (by rw [Nat.one_mul]), Lib.hid rfl, Drawn.refl _⟩
  case round =>
    obtain ⟨m, E, hm, hmE, hE, rfl, rfl, HE, HR, hdr⟩ := hrel
    by_cases hlt : E + s ≤ l.length
    · have dEs : decide ((E : Int) + (s : Int) ≤ (l.length : Int)) = true := decide_eq_true (by omega)
      obtain ⟨wo, rfl⟩ : ∃ wo : World, wo = wr := ⟨_, rfl⟩
      go_wp2_with (fail)
      go_loopw [9, 25] (fun _ iv ws => ∃ i : Nat, i ≤ s ∧ iv = .int .i64 (i : Int) ∧ Hid (∀ j, j < i → l[E + j]? = l[f + j]?) ∧ Drawn w ws) (fun _ iv _ => s - (intOf iv).toNat)
      case atStart => exact ⟨0, Nat.zero_le _, rfl, Lib.hid (fun j hj => by omega), hdr⟩
      case round =>
        obtain ⟨i, hi, rfl, HD, hds⟩ := hrel
        by_cases his : i < s
        · obtain ⟨b1, o1, x, hA, hc, hx⟩ := (h.of_cells hds.cells) (E + i) (by omega)
          obtain ⟨b2, o2, y, hA2, hc2, hy⟩ := (h.of_cells hds.cells) (f + i) (by omega)
          injection hA with hA
          injection hA with hA1 hA2'
          subst hA1 hA2'
          injection hA2 with hA2
          injection hA2 with hA3 hA4
          subst hA3 hA4
          have HX := Lib.hid hx; clear hx
          have HY := Lib.hid hy; clear hy
          have w1 : IntKind.i64.wrap ((E : Int) + (i : Int)) = (E : Int) + (i : Int) := IntWalk.i64_in _ ⟨by omega, by omega⟩
          have w2 : IntKind.i64.wrap ((f : Int) + (i : Int)) = (f : Int) + (i : Int) := IntWalk.i64_in _ ⟨by omega, by omega⟩
          have j1 : (0 : Int) ≤ (E : Int) + (i : Int) := by omega
          have j2 : (E : Int) + (i : Int) < (l.length : Int) := by omega
          have j3 : (0 : Int) ≤ (f : Int) + (i : Int) := by omega
          have j4 : (f : Int) + (i : Int) < (l.length : Int) := by omega
          have j5 : ((E : Int) + (i : Int)).toNat = E + i := by omega
          have j6 : ((f : Int) + (i : Int)).toNat = f + i := by omega
          by_cases hxy : x = y
          · have e1 : (x != y) = false := by simp [hxy]
            have HD2 : Hid (∀ j, j < i + 1 → l[E + j]? = l[f + j]?) := Lib.hid (fun j hj => by
              by_cases hji : j < i
              · exact HD.out j hji
              · obtain rfl : j = i := by omega
                rw [HX.out, HY.out, hxy])
            clear hxy
            go_wp2_with (fail)
            go_quiet (fail)
            go_wp2_with (fail)
            go_roundw
            case rel => exact ⟨i + 1, by omega, by go_num, HD2, hds.drewN _⟩
            case measure => simp [intOf]; omega
          · have e1 : (x != y) = true := by simp [hxy]
            have HF : Hid (repsF l f s 1 = m) := Lib.hid (by
              rw [HR.out]
              apply repsF_no
              rw [runs_next hs hm HE.out, runAt, decide_eq_false (p := segL l E s = segL l f s), Bool.and_false]
              intro e
              have := (segL_ext hlt (by omega)).1 e i his
              rw [HX.out, HY.out] at this
              injection this with this
              exact hxy this)
            clear hxy
            go_wp2_with (fail)
            go_quiet (fail)
            go_wp2_with (fail)
            go_ret
            exact ⟨by rw [HF.out]; rfl, hds.drewN _⟩
        · obtain rfl : i = s := by omega
          have hyes : runs l f i (m + 1) = true := by
            rw [runs_next hs hm HE.out, runAt, decide_eq_true hlt, decide_eq_true ((segL_ext hlt (by omega)).2 HD.out)]; rfl
          have HR2 : Hid (repsF l f i 1 = repsF l f i (m + 1)) := Lib.hid (by rw [HR.out, repsF_yes hyes])
          have HE2 : Hid (E + i = f + (m + 1) * i) := Lib.hid (by rw [HE.out, Nat.succ_mul]; omega)
          clear hyes
          go_wp2_with (fail)
          go_roundw
          case rel => exact ⟨m + 1, E + i, by omega, by omega, by omega, by go_num, by go_num, HE2, HR2, hds⟩
          case measure => simp [intOf]; omega
    · have HF : Hid (repsF l f s 1 = m) := Lib.hid (by
        rw [HR.out]
        apply repsF_no
        rw [runs_next hs hm HE.out, runAt, decide_eq_false hlt, Bool.false_and])
      go_wp2_with (fail)
      go_ret
      exact ⟨by rw [HF.out]; rfl, hdr⟩

end Go.Proofs.YtcgbogofmdjddaaDoor

/- ShortRow, the program's side: a text in three parts. -/
namespace Go.Proofs.YtcgbogofmdjddaaDoor
open Go Go.RowKit

theorem stitchesB_sub {l xs : List Int} (h : stitchesB l = true) (hx : ∀ x ∈ xs, x ∈ l) (hl : xs.length ≤ l.length) : stitchesB xs = true := by
  obtain ⟨h1, h2⟩ := stitchesB_of h
  unfold stitchesB
  simp only [Bool.and_eq_true, decide_eq_true_eq, List.all_eq_true]
  exact ⟨fun x hxx => h2 x (hx x hxx), by omega⟩
theorem txt_le {xs : List Int} (h : stitchesB xs = true) : (txtP (compressed xs)).size ≤ 128 := by
  obtain ⟨hg, h16⟩ := compressed_good h
  have := (txt_small hg).1
  omega

/-- The text of a part of a list. -/
theorem row_sub {l xs : List Int} {A : Option Addr} {n c : Nat} {w : World} (hst : stitchesB l = true) (hx : ∀ x ∈ xs, x ∈ l) (hl : xs.length ≤ l.length) (hn : xs.length = n) (h : Ints w A xs) :
    Calls Tryd.prog 60 #[.slice A n c] w fun e w' => e = .returned (.string (txtP (compressed xs))) ∧ Below w.heap.size w w' := by
  rw [← hn]
  exact impl_rowText xs A c w h (stitchesB_sub hst hx hl)
set_option maxHeartbeats 4000000 in
set_option maxRecDepth 10000 in
theorem impl_partedText (l : List Int) (b off c f s t : Nat) (w : World) (h : Ints w (some ⟨b, off, none⟩) l) (hst : stitchesB l = true) (hf : f < l.length) (hs : 1 ≤ s) (ht2 : 2 ≤ t) (ht : t ≤ 16) (hE : f + s * t ≤ l.length) (hc : l.length ≤ c) (_hcm : c ≤ 9223372036854775807) :
    Calls Tryd.prog 62 #[.slice (some ⟨b, off, none⟩) l.length c, .int .i64 (f : Int), .int .i64 (s : Int), .int .i64 (t : Int)] w fun e w' => e = .returned (.string (joinB (partT l f s t))) ∧ Below w.heap.size w w' := by
  obtain ⟨iS, hi0, hz0, hz1, hz2⟩ := info_parts info_string
  have hl16 := (stitchesB_of hst).1
  obtain ⟨P, hP⟩ : ∃ P, P = s * t := ⟨_, rfl⟩
  have hsP : s ≤ P := by rw [hP]; exact Nat.le_mul_of_pos_right _ (by omega)
  have hPi : (s : Int) * (t : Int) = (P : Int) := by rw [hP]; push_cast; rfl
  have HP := Lib.hid hP
  rw [← hP] at hE
  have hseg : (segL l f s).length = s := by rw [segL, List.length_take, List.length_drop]; omega
  have hr1 : ∀ W, Below w.heap.size w W → Calls Tryd.prog 60 #[.slice (some ⟨b, off, none⟩) f c] W fun e w' => e = .returned (.string (txtP (compressed (l.take f)))) ∧ Below W.heap.size W w' := fun W hb =>
    row_sub hst (fun x hx => List.mem_of_mem_take hx) (by rw [List.length_take]; omega) (by rw [List.length_take]; omega) ((h.below hb).take f)
  have hr2 : ∀ W, Below w.heap.size w W → Calls Tryd.prog 60 #[.slice (some ⟨b, off + f, none⟩) s (c - f)] W fun e w' => e = .returned (.string (txtP (compressed (segL l f s)))) ∧ Below W.heap.size W w' := fun W hb =>
    row_sub hst (fun x hx => segL_sub hx) (by rw [hseg]; omega) hseg (((h.below hb).drop f).take s)
  have hr3 : ∀ W, Below w.heap.size w W → Calls Tryd.prog 60 #[.slice (some ⟨b, off + (f + P), none⟩) (l.length - (f + P)) (c - (f + P))] W fun e w' => e = .returned (.string (txtP (compressed (l.drop (f + P))))) ∧ Below W.heap.size W w' := fun W hb =>
    row_sub hst (fun x hx => List.mem_of_mem_drop hx) (by rw [List.length_drop]; omega) (by rw [List.length_drop]) ((h.below hb).drop (f + P))
  have z1 := txt_le (stitchesB_sub (xs := l.take f) hst (fun x hx => List.mem_of_mem_take hx) (by rw [List.length_take]; omega))
  have z2 := txt_le (stitchesB_sub (xs := segL l f s) hst (fun x hx => segL_sub hx) (by rw [hseg]; omega))
  have z3 := txt_le (stitchesB_sub (xs := l.drop (f + P)) hst (fun x hx => List.mem_of_mem_drop hx) (by rw [List.length_drop]; omega))
  have hT : Hid (partT l f s t = (if 0 < f then [txtP (compressed (l.take f))] else []) ++ [(((⟨#[40]⟩ : ByteArray) ++ txtP (compressed (segL l f s))) ++ ⟨#[41, 42]⟩) ++ decT t] ++ (if f + P < l.length then [txtP (compressed (l.drop (f + P)))] else [])) := Lib.hid (by
    have e : tmT 0 (t : Int) = decT t := by rw [tmT, if_neg (by omega), Int.toNat_natCast]
    unfold partT grpT
    rw [e, ← HP.out])
  have HR1 := Lib.hid hr1
  have HR2 := Lib.hid hr2
  have HR3 := Lib.hid hr3
  clear hr1 hr2 hr3 hP hseg
  generalize txtP (compressed (l.take f)) = T1 at *
  generalize txtP (compressed (segL l f s)) = T2 at *
  generalize txtP (compressed (l.drop (f + P))) = T3 at *
  have HDC : Hid (∀ W, Calls Tryd.prog 95 #[.int .i64 (t : Int)] W fun e w' => e = .returned (.string (decT t)) ∧ W = w') := Lib.hid (fun W => impl_Decimal t ht W)
  have hds := (decT_size t).2
  generalize decT t = D at *
  obtain ⟨G, hG⟩ : ∃ G, (((⟨#[40]⟩ : ByteArray) ++ T2) ++ ⟨#[41, 42]⟩) ++ D = G := ⟨_, rfl⟩
  have hGs : G.size ≤ 140 := by
    rw [← hG]
    simp only [ByteArray.size_append]
    have e1 : (⟨#[40]⟩ : ByteArray).size = 1 := rfl
    have e2 : (⟨#[41, 42]⟩ : ByteArray).size = 2 := rfl
    omega
  rw [hG] at hT
  have o1 := (OwnC.lit (w := w) (lo := w.heap.size) (n := 0) 9 1 #[] (Nat.le_refl _) (Nat.zero_le _) rfl).mono (hi' := (w.alloc (.cells #[] 9)).heap.size) (Nat.le_refl _) (by simp)
  have hb1 : Below w.heap.size w (w.alloc (.cells #[] 9)) := by (repeat (first | exact Below.refl _ _ | assumption | apply Below.drew | apply below_drewN | (refine Below.alloc ?_ (by first | omega | (simp; done) | (simp; omega)) _) | (refine Below.setCell ?_ (by first | omega | (simp; done) | (simp; omega)) _)))
  have w1 : IntKind.i64.wrap ((f : Int) + (s : Int)) = (f : Int) + (s : Int) := IntWalk.i64_in _ ⟨by omega, by omega⟩
  have w2 : IntKind.i64.wrap (P : Int) = (P : Int) := IntWalk.i64_in _ ⟨by omega, by omega⟩
  have n1 : ¬ c = f := by omega
  have n2 : f + s - f = s := by omega
  have e40 : (⟨#[40]⟩ : ByteArray).size = 1 := rfl
  have e41 : (⟨#[41, 42]⟩ : ByteArray).size = 2 := rfl
  by_cases h0 : 0 < f
  · have d0 : decide ((0 : Int) < (f : Int)) = true := decide_eq_true (by omega)
    go_enter Tryd.func62, Tryd.ntmps62
    go_wp2_with (fail)
    refine (HR1.out _ hb1).mono ?_; rintro e w2 ⟨rfl, b2⟩
    have o2 := o1.below b2 (Nat.le_refl _)
    have hb2 := hb1.trans (b2.mono (by simp))
    have y2 : w.heap.size ≤ w2.heap.size := hb2.size
    replace o2 := o2.mono (hi' := w2.heap.size) (Nat.le_refl _) b2.size
    go_wp2_with (at_builtin; refine wpList_append1 w2 [.string T1] _ rfl (.tmp 14) (.tmp 19) _ rfl 9 iS _ 1 16 Tryd.underlying58 hi0 hz0 hz1 hz2 rfl (by decide) rfl o2 y2 1 rfl rfl (by simp [Value.oneCell']) (by omega) (by decide) ?_; intro A3 c3 w3 o3 g3 bl3 z3)
    have hb3 := hb2.trans bl3
    refine (HR2.out _ hb3).mono ?_; rintro e w4 ⟨rfl, b4⟩
    have y3 : w.heap.size ≤ w3.heap.size := hb3.size
    have hb4 := hb3.trans (b4.mono y3)
    have y4 : w.heap.size ≤ w4.heap.size := hb4.size
    have o4 := (OwnC.below o3 b4 (Nat.le_refl _)).mono (hi' := w4.heap.size) (Nat.le_refl _) b4.size
    clear g3 z3 bl3 b4 b2
    by_cases h2 : f + P < l.length
    · have d2 : decide ((f : Int) + (P : Int) < (l.length : Int)) = true := decide_eq_true (by omega)
      have hTF : Hid (partT l f s t = [T1, G, T3]) := Lib.hid (by rw [hT.out, if_pos h0, if_pos h2]; rfl)
      go_wp2_with (first
        | (go_at_call 95; refine (HDC.out _).mono ?_; rintro e w' ⟨rfl, rfl⟩)
        | (at_builtin; refine wpList_append1 w4 [.string G] _ rfl (.tmp 21) (.tmp 34) _ rfl 9 iS _ 1 16 Tryd.underlying58 hi0 hz0 hz1 hz2 rfl (by decide) rfl o4 y4 1 rfl rfl (by simp [Value.oneCell']) (by omega) (by decide) ?_; intro A5 c5 w5 o5 g5 bl5 z5))
      have hb5 := hb4.trans bl5
      have y5 : w.heap.size ≤ w5.heap.size := hb5.size
      refine (HR3.out _ hb5).mono ?_; rintro e w6 ⟨rfl, b6⟩
      have hb6 := hb5.trans (b6.mono y5)
      have y6 : w.heap.size ≤ w6.heap.size := hb6.size
      have o6 := (OwnC.below o5 b6 (Nat.le_refl _)).mono (hi' := w6.heap.size) (Nat.le_refl _) b6.size
      clear g5 bl5 z5 b6
      go_wp2_with (at_builtin; refine wpList_append1 w6 [.string T3] _ rfl (.tmp 45) (.tmp 50) _ rfl 9 iS _ 1 16 Tryd.underlying58 hi0 hz0 hz1 hz2 rfl (by decide) rfl o6 y6 1 rfl rfl (by simp [Value.oneCell']) (by omega) (by decide) ?_; intro A7 c7 w7 o7 g7 bl7 z7)
      have hb7 := hb6.trans bl7
      have hj : (joinB [T1, G, T3]).size ≤ 100000 := by
        have := join_le [T1, G, T3]
        simp only [List.map_cons, List.map_nil, List.sum_cons, List.sum_nil, List.length_cons, List.length_nil] at this
        omega
      refine (impl_Join [T1, G, T3] A7 c7 w.heap.size w7.heap.size w7 (by simpa using o7) (Nat.le_refl _) (by simp) hj).mono ?_; rintro e w8 ⟨rfl, b8⟩
      go_wp2_with (fail)
      go_ret
      exact ⟨by rw [hTF.out]; rfl, hb7.trans (b8.mono hb7.size)⟩
    · have d2 : decide ((f : Int) + (P : Int) < (l.length : Int)) = false := decide_eq_false (by omega)
      have hTF : Hid (partT l f s t = [T1, G]) := Lib.hid (by rw [hT.out, if_pos h0, if_neg h2]; rfl)
      go_wp2_with (first
        | (go_at_call 95; refine (HDC.out _).mono ?_; rintro e w' ⟨rfl, rfl⟩)
        | (at_builtin; refine wpList_append1 w4 [.string G] _ rfl (.tmp 21) (.tmp 34) _ rfl 9 iS _ 1 16 Tryd.underlying58 hi0 hz0 hz1 hz2 rfl (by decide) rfl o4 y4 1 rfl rfl (by simp [Value.oneCell']) (by omega) (by decide) ?_; intro A5 c5 w5 o5 g5 bl5 z5))
      have hb5 := hb4.trans bl5
      have hj : (joinB [T1, G]).size ≤ 100000 := by
        have := join_le [T1, G]
        simp only [List.map_cons, List.map_nil, List.sum_cons, List.sum_nil, List.length_cons, List.length_nil] at this
        omega
      refine (impl_Join [T1, G] A5 c5 w.heap.size w5.heap.size w5 (by simpa using o5) (Nat.le_refl _) (by simp) hj).mono ?_; rintro e w8 ⟨rfl, b8⟩
      go_wp2_with (fail)
      go_ret
      exact ⟨by rw [hTF.out]; rfl, hb5.trans (b8.mono hb5.size)⟩
  · have d0 : decide ((0 : Int) < (f : Int)) = false := decide_eq_false (by omega)
    go_enter Tryd.func62, Tryd.ntmps62
    go_wp2_with (fail)
    refine (HR2.out _ hb1).mono ?_; rintro e w4 ⟨rfl, b4⟩
    have hb4 := hb1.trans (b4.mono (by simp))
    have y4 : w.heap.size ≤ w4.heap.size := hb4.size
    have o4 := (OwnC.below o1 b4 (Nat.le_refl _)).mono (hi' := w4.heap.size) (Nat.le_refl _) b4.size
    clear b4
    by_cases h2 : f + P < l.length
    · have d2 : decide ((f : Int) + (P : Int) < (l.length : Int)) = true := decide_eq_true (by omega)
      have hTF : Hid (partT l f s t = [G, T3]) := Lib.hid (by rw [hT.out, if_neg h0, if_pos h2]; rfl)
      go_wp2_with (first
        | (go_at_call 95; refine (HDC.out _).mono ?_; rintro e w' ⟨rfl, rfl⟩)
        | (at_builtin; refine wpList_append1 w4 [.string G] _ rfl (.tmp 21) (.tmp 34) _ rfl 9 iS _ 1 16 Tryd.underlying58 hi0 hz0 hz1 hz2 rfl (by decide) rfl o4 y4 1 rfl rfl (by simp [Value.oneCell']) (by omega) (by decide) ?_; intro A5 c5 w5 o5 g5 bl5 z5))
      have hb5 := hb4.trans bl5
      have y5 : w.heap.size ≤ w5.heap.size := hb5.size
      refine (HR3.out _ hb5).mono ?_; rintro e w6 ⟨rfl, b6⟩
      have hb6 := hb5.trans (b6.mono y5)
      have y6 : w.heap.size ≤ w6.heap.size := hb6.size
      have o6 := (OwnC.below o5 b6 (Nat.le_refl _)).mono (hi' := w6.heap.size) (Nat.le_refl _) b6.size
      clear g5 bl5 z5 b6
      go_wp2_with (at_builtin; refine wpList_append1 w6 [.string T3] _ rfl (.tmp 45) (.tmp 50) _ rfl 9 iS _ 1 16 Tryd.underlying58 hi0 hz0 hz1 hz2 rfl (by decide) rfl o6 y6 1 rfl rfl (by simp [Value.oneCell']) (by omega) (by decide) ?_; intro A7 c7 w7 o7 g7 bl7 z7)
      have hb7 := hb6.trans bl7
      have hj : (joinB [G, T3]).size ≤ 100000 := by
        have := join_le [G, T3]
        simp only [List.map_cons, List.map_nil, List.sum_cons, List.sum_nil, List.length_cons, List.length_nil] at this
        omega
      refine (impl_Join [G, T3] A7 c7 w.heap.size w7.heap.size w7 (by simpa using o7) (Nat.le_refl _) (by simp) hj).mono ?_; rintro e w8 ⟨rfl, b8⟩
      go_wp2_with (fail)
      go_ret
      exact ⟨by rw [hTF.out]; rfl, hb7.trans (b8.mono hb7.size)⟩
    · have d2 : decide ((f : Int) + (P : Int) < (l.length : Int)) = false := decide_eq_false (by omega)
      have hTF : Hid (partT l f s t = [G]) := Lib.hid (by rw [hT.out, if_neg h0, if_neg h2]; rfl)
      go_wp2_with (first
        | (go_at_call 95; refine (HDC.out _).mono ?_; rintro e w' ⟨rfl, rfl⟩)
        | (at_builtin; refine wpList_append1 w4 [.string G] _ rfl (.tmp 21) (.tmp 34) _ rfl 9 iS _ 1 16 Tryd.underlying58 hi0 hz0 hz1 hz2 rfl (by decide) rfl o4 y4 1 rfl rfl (by simp [Value.oneCell']) (by omega) (by decide) ?_; intro A5 c5 w5 o5 g5 bl5 z5))
      have hb5 := hb4.trans bl5
      have hj : (joinB [G]).size ≤ 100000 := by
        have := join_le [G]
        simp only [List.map_cons, List.map_nil, List.sum_cons, List.sum_nil, List.length_cons, List.length_nil] at this
        omega
      refine (impl_Join [G] A5 c5 w.heap.size w5.heap.size w5 (by simpa using o5) (Nat.le_refl _) (by simp) hj).mono ?_; rintro e w8 ⟨rfl, b8⟩
      go_wp2_with (fail)
      go_ret
      exact ⟨by rw [hTF.out]; rfl, hb5.trans (b8.mono hb5.size)⟩

end Go.Proofs.YtcgbogofmdjddaaDoor

/- ShortRow, the program's function. -/
namespace Go.Proofs.YtcgbogofmdjddaaDoor
open Go Go.RowKit

theorem Drawn.below {B : Nat} {w0 w w' : World} (hb : Below B w0 w) (d : Drawn w w') : Below B w0 w' := by
  obtain ⟨n, rfl⟩ := d
  exact below_drewN hb n
theorem pick_yes {t b : ByteArray} (h : betterB t b = true) : pickT t b = t := by rw [pickT, if_pos h]
theorem pick_no {t b : ByteArray} (h : betterB t b = false) : pickT t b = b := by rw [pickT, h]; rfl
/-- How the two texts are compared. -/
theorem better_cases (t b : ByteArray) : (t.size < b.size ∧ betterB t b = true) ∨ (¬ t.size < b.size ∧ t.size = b.size ∧ Op.bytesLess t.toList b.toList = true ∧ betterB t b = true) ∨ (¬ t.size < b.size ∧ t.size = b.size ∧ Op.bytesLess t.toList b.toList = false ∧ betterB t b = false) ∨ (¬ t.size < b.size ∧ t.size ≠ b.size ∧ betterB t b = false) := by
  unfold betterB
  by_cases h1 : t.size < b.size
  · left; rw [decide_eq_true h1]; exact ⟨h1, rfl⟩
  · rw [decide_eq_false h1, Bool.false_or]
    by_cases h2 : t.size = b.size
    · rw [decide_eq_true h2, Bool.true_and]
      cases hb : Op.bytesLess t.toList b.toList
      · right; right; left; exact ⟨h1, h2, rfl, rfl⟩
      · right; left; exact ⟨h1, h2, rfl, rfl⟩
    · rw [decide_eq_false h2, Bool.false_and]
      right; right; right; exact ⟨h1, h2, rfl⟩

set_option maxHeartbeats 4000000 in
set_option maxRecDepth 10000 in
theorem impl_ShortRow (l : List Int) (A : Option Addr) (c : Nat) (w : World) (h : Ints w A l) (hl : l.length ≤ 9223372036854775807) (hc : l.length ≤ c) (hcm : c ≤ 9223372036854775807) :
    Calls Tryd.prog 21 #[.slice A l.length c] w fun e w' => e = .returned (.string (shortP l)) ∧ Below w.heap.size w w' := by
  cases hv : stitchesB l
  · have HF : Hid (shortP l = ⟨#[]⟩) := Lib.hid (by rw [shortP, hv]; rfl)
    go_enter Tryd.func21, Tryd.ntmps21
    go_wp2_with (fail)
    refine (impl_areStitches A c l _ h hl).mono ?_; rintro e _ ⟨rfl, rfl⟩
    rw [hv]
    go_wp2_with (fail)
    go_ret
    exact ⟨by rw [HF.out]; rfl, Below.refl _ _⟩
  · have HF : Hid (shortP l = shF l 0 (txtP (compressed l))) := Lib.hid (by rw [shortP, hv]; rfl)
    have HV := Lib.hid hv
    have hl16 := (stitchesB_of hv).1
    go_enter Tryd.func21, Tryd.ntmps21
    go_wp2_with (fail)
    refine (impl_areStitches A c l _ h hl).mono ?_; rintro e _ ⟨rfl, rfl⟩
    rw [hv]
    clear hv
    go_wp2_with (fail)
    refine (impl_rowText l A c _ h HV.out).mono ?_; rintro e w1 ⟨rfl, b1⟩
    have z1 := b1.size
    generalize txtP (compressed l) = B0 at HF ⊢
    go_wp2_with (fail)
    go_loopw [3, 15] (fun bv fv wr => ∃ (f : Nat) (b : ByteArray), f ≤ l.length ∧ fv = .int .i64 (f : Int) ∧ bv = .string b ∧ Hid (shortP l = shF l f b) ∧ Below w.heap.size w wr) (fun _ fv _ => l.length - (intOf fv).toNat)
    case atStart => exact ⟨0, B0, Nat.zero_le _, rfl, rfl, HF, b1⟩
    case round =>
      obtain ⟨f, b, hf, rfl, rfl, HS, hb⟩ := hrel
      by_cases hfl : f < l.length
      · have dfl : decide ((f : Int) < (l.length : Int)) = true := decide_eq_true (by omega)
        obtain ⟨bA, oA, x0, rfl, _, _⟩ := h 0 (by omega)
        have HS2 : Hid (shortP l = shF l (f + 1) (shS l f 1 b)) := Lib.hid (by rw [HS.out, shF_yes hfl])
        clear HS
        obtain ⟨wo, rfl⟩ : ∃ wo : World, wo = wr := ⟨_, rfl⟩
        go_wp2_with (fail)
        go_loopw [3, 5, 6, 7] (fun bv sv _ _ ws => ∃ (s : Nat) (b : ByteArray), 1 ≤ s ∧ s ≤ l.length + 1 ∧ sv = .int .i64 (s : Int) ∧ bv = .string b ∧ Hid (shortP l = shF l (f + 1) (shS l f s b)) ∧ Below w.heap.size w ws) (fun _ sv _ _ _ => l.length + 2 - (intOf sv).toNat)
        case atStart => exact ⟨1, b, Nat.le_refl _, by omega, rfl, rfl, HS2, hb⟩
        case round =>
          obtain ⟨s, b, hs1, hsl, rfl, rfl, HS, hb⟩ := hrel
          by_cases hfs : f + 2 * s ≤ l.length
          · have dfs : decide ((f : Int) + 2 * (s : Int) ≤ (l.length : Int)) = true := decide_eq_true (by omega)
            have HS2 : Hid (shortP l = shF l (f + 1) (shS l f (s + 1) (shT l f s 2 b))) := Lib.hid (by rw [HS.out, shS_yes hs1 hfs])
            clear HS
            obtain ⟨wo, rfl⟩ : ∃ wo : World, wo = wr := ⟨_, rfl⟩
            go_wp2_with (fail)
            go_loopw [3, 6, 7] (fun bv kv _ ws => ∃ (k : Nat) (b : ByteArray), 2 ≤ k ∧ k ≤ l.length + 1 ∧ kv = .int .i64 (k : Int) ∧ bv = .string b ∧ Hid (shortP l = shF l (f + 1) (shS l f (s + 1) (shT l f s k b))) ∧ Hid (∀ j, 2 ≤ j → j < k → runs l f s j = true) ∧ Below w.heap.size w ws) (fun _ kv _ _ => l.length + 2 - (intOf kv).toNat)
            case atStart => exact ⟨2, b, Nat.le_refl _, by omega, rfl, rfl, HS2, Lib.hid (fun j h1 h2 => by omega), hb⟩
            case round =>
              obtain ⟨k, b, hk2, hkl, rfl, rfl, HS, HJ, hb⟩ := hrel
              have hz := hb.size
              have hri := reps_iff l f s k hk2 HJ.out
              have HRP : Hid (∀ W, Below w.heap.size w W → Calls Tryd.prog 61 #[.slice (some ⟨bA, oA, none⟩) l.length c, .int .i64 (f : Int), .int .i64 (s : Int)] W fun e w' => e = .returned (.int .i64 (repsF l f s 1 : Int)) ∧ Drawn W w') := Lib.hid (fun W hW => impl_repeats l bA oA c f s W (h.below hW) (by omega) hs1 hfs)
              generalize repsF l f s 1 = R at hri HRP
              cases hr : runs l f s k
              · rw [hr] at hri
                have hkR : R < k := by have := of_decide_eq_false hri; omega
                have HS2 : Hid (shortP l = shF l (f + 1) (shS l f (s + 1) b)) := Lib.hid (by rw [HS.out, shT_no hr])
                clear HS hri hr
                go_wp2_with (go_at_call 61; refine (HRP.out _ hb).mono ?_; rintro e w2 ⟨rfl, dw⟩; have hb2 := Drawn.below hb dw)
                go_roundw
                case rel => exact ⟨s + 1, b, by omega, by omega, by go_num, rfl, HS2, hb2⟩
                case measure => simp [intOf]; omega
              · rw [hr] at hri
                have hkR : k ≤ R := of_decide_eq_true hri
                obtain ⟨_, hks, hkn⟩ := runs_le (by omega) hr
                rw [Nat.mul_comm] at hks
                have HT := Lib.hid (part_fold (s := s) (t := k) HV.out hfl)
                have HPT : Hid (∀ W, Below w.heap.size w W → Calls Tryd.prog 62 #[.slice (some ⟨bA, oA, none⟩) l.length c, .int .i64 (f : Int), .int .i64 (s : Int), .int .i64 (k : Int)] W fun e w' => e = .returned (.string (joinB (partT l f s k))) ∧ Below W.heap.size W w') := Lib.hid (fun W hW => impl_partedText l bA oA c f s k W (h.below hW) HV.out hfl hs1 hk2 (by omega) hks hc hcm)
                rw [HT.out] at HPT
                have HS2 : Hid (shortP l = shF l (f + 1) (shS l f (s + 1) (shT l f s (k + 1) (pickT (txtP (foldP l f s k)) b)))) := Lib.hid (by rw [HS.out, shT_yes (by omega) hr])
                have HJ2 : Hid (∀ j, 2 ≤ j → j < k + 1 → runs l f s j = true) := Lib.hid (fun j h1 h2 => by
                  by_cases hj : j < k
                  · exact HJ.out j h1 hj
                  · obtain rfl : j = k := by omega
                    exact hr)
                clear HS HJ hri hr hks HT
                generalize txtP (foldP l f s k) = T at HPT HS2
                rcases better_cases T b with ⟨c1, c2⟩ | ⟨c1, c2, c3, c4⟩ | ⟨c1, c2, c3, c4⟩ | ⟨c1, c2, c4⟩
                · have HS3 : Hid (shortP l = shF l (f + 1) (shS l f (s + 1) (shT l f s (k + 1) T))) := Lib.hid (by rw [HS2.out, pick_yes c2])
                  clear HS2 c2
                  go_wp2_with (first
                    | (go_at_call 61; refine (HRP.out _ hb).mono ?_; rintro e w2 ⟨rfl, dw⟩; have hb2 := Drawn.below hb dw; have hz2 := hb2.size)
                    | (go_at_call 62; refine (HPT.out _ hb2).mono ?_; rintro e w3 ⟨rfl, b3⟩; have hb3 := hb2.trans (b3.mono hz2)))
                  go_roundw
                  case rel => exact ⟨k + 1, T, by omega, by omega, by go_num, rfl, HS3, HJ2, hb3⟩
                  case measure => simp [intOf]; omega
                · have HS3 : Hid (shortP l = shF l (f + 1) (shS l f (s + 1) (shT l f s (k + 1) T))) := Lib.hid (by rw [HS2.out, pick_yes c4])
                  have ce : ((T.size : Int) == (b.size : Int)) = true := by rw [c2]; simp
                  have C2 := Lib.hid c2
                  clear HS2 c2 c4
                  go_wp2_with (first
                    | (go_at_call 61; refine (HRP.out _ hb).mono ?_; rintro e w2 ⟨rfl, dw⟩; have hb2 := Drawn.below hb dw; have hz2 := hb2.size)
                    | (go_at_call 62; refine (HPT.out _ hb2).mono ?_; rintro e w3 ⟨rfl, b3⟩; have hb3 := hb2.trans (b3.mono hz2)))
                  go_roundw
                  case rel => exact ⟨k + 1, T, by omega, by omega, by go_num, rfl, HS3, HJ2, hb3⟩
                  case measure => simp [intOf]; omega
                · have HS3 : Hid (shortP l = shF l (f + 1) (shS l f (s + 1) (shT l f s (k + 1) b))) := Lib.hid (by rw [HS2.out, pick_no c4])
                  have ce : ((T.size : Int) == (b.size : Int)) = true := by rw [c2]; simp
                  have C2 := Lib.hid c2
                  clear HS2 c2 c4
                  go_wp2_with (first
                    | (go_at_call 61; refine (HRP.out _ hb).mono ?_; rintro e w2 ⟨rfl, dw⟩; have hb2 := Drawn.below hb dw; have hz2 := hb2.size)
                    | (go_at_call 62; refine (HPT.out _ hb2).mono ?_; rintro e w3 ⟨rfl, b3⟩; have hb3 := hb2.trans (b3.mono hz2)))
                  go_roundw
                  case rel => exact ⟨k + 1, b, by omega, by omega, by go_num, rfl, HS3, HJ2, hb3⟩
                  case measure => simp [intOf]; omega
                · have HS3 : Hid (shortP l = shF l (f + 1) (shS l f (s + 1) (shT l f s (k + 1) b))) := Lib.hid (by rw [HS2.out, pick_no c4])
                  have ce : ((T.size : Int) == (b.size : Int)) = false := by rw [beq_eq_false_iff_ne]; omega
                  clear HS2 c2 c4
                  go_wp2_with (first
                    | (go_at_call 61; refine (HRP.out _ hb).mono ?_; rintro e w2 ⟨rfl, dw⟩; have hb2 := Drawn.below hb dw; have hz2 := hb2.size)
                    | (go_at_call 62; refine (HPT.out _ hb2).mono ?_; rintro e w3 ⟨rfl, b3⟩; have hb3 := hb2.trans (b3.mono hz2)))
                  go_roundw
                  case rel => exact ⟨k + 1, b, by omega, by omega, by go_num, rfl, HS3, HJ2, hb3⟩
                  case measure => simp [intOf]; omega
          · have dfs : decide ((f : Int) + 2 * (s : Int) ≤ (l.length : Int)) = false := decide_eq_false (by omega)
            have HS2 : Hid (shortP l = shF l (f + 1) b) := Lib.hid (by rw [HS.out, shS_no hfs])
            clear HS
            go_wp2_with (fail)
            go_roundw
            case rel => exact ⟨f + 1, b, by omega, by go_num, rfl, HS2, hb⟩
            case measure => simp [intOf]; omega
      · have dfl : decide ((f : Int) < (l.length : Int)) = false := decide_eq_false (by omega)
        have HS2 : Hid (shortP l = b) := Lib.hid (by rw [HS.out, shF_no hfl])
        go_wp2_with (fail)
        go_ret
        exact ⟨by rw [HS2.out]; rfl, hb⟩

end Go.Proofs.YtcgbogofmdjddaaDoor

/- ShortRow, the given side: a text with a group. -/
namespace Go.Proofs.YtcgbogofmdjddaaDoor
open Go Go.RowKit

/-- What lies below the row that grew is kept. -/
theorem OwnC.grownL {w w' : World} {lo hi : Nat} {e : TypeId} {sz : Nat} {A : Option Addr} {n c : Nat} {cs : List Value} {lo2 hi2 : Nat} {e2 : TypeId} {sz2 : Nat} {B : Option Addr} {n2 c2 : Nat} {cs2 : List Value}
    (h : OwnC w lo hi e sz A n c cs) (h2 : OwnC w lo2 hi2 e2 sz2 B n2 c2 cs2) (hlo : hi ≤ lo2) (hg : w.grownBy w' (Value.slice B n2 c2).ownBlock) : OwnC w' lo hi e sz A n c cs := by
  refine h.keep fun k _ hk hks => hg.block k hks fun e => ?_
  rcases h2.form with ⟨rfl, _⟩ | ⟨g, _, rfl, h3, _⟩
  · cases e
  · injection e with e
    have : k = g := e
    omega
theorem good_app_plain {d : Nat} : ∀ (a b : List PieceD), (∀ p ∈ a, plainP p = true ∧ p.kind ≠ 12) → Good d b → Good d (a ++ b)
  | [], _, _, h => h
  | p :: a, b, ha, hb => by
    obtain ⟨h1, h2⟩ := ha p (by simp)
    have ih := good_app_plain (d := d) a b (fun q hq => ha q (by simp [hq])) hb
    unfold Good at ih ⊢
    rw [List.cons_append, rangeP, if_neg h2, if_pos h1]
    exact ih
theorem good_grp {d : Nat} {p : PieceD} {a b : List PieceD} (hk : p.kind = 12) (hd : d < 3) (ht : 1 ≤ p.times ∧ p.times ≤ 16) (hl : p.len = (a.length : Int)) (ha0 : 1 ≤ a.length) (ha : Good (d + 1) a) (hb : Good d b) : Good d (p :: (a ++ b)) := by
  unfold Good at *
  have hg : groupP d p (a ++ b).length = true := by
    unfold groupP
    rw [inR_iff.2 ⟨by omega, ht.2⟩, decide_eq_false (show ¬ p.times = 0 by omega), Bool.false_and, inR_iff.2 ⟨by omega, by rw [List.length_append]; omega⟩]
    rfl
  rw [rangeP_open hk hd hg (by rw [hl, Int.toNat_natCast, List.take_left]; exact ha), hl, Int.toNat_natCast, List.drop_left, Option.isSome_map]
  exact hb
theorem compressed_plain {l xs : List Int} (h : stitchesB l = true) (hx : ∀ x ∈ xs, x ∈ l) (hl : xs.length ≤ 16) : ∀ p ∈ compressed xs, plainP p = true ∧ p.kind ≠ 12 := by
  obtain ⟨_, hk⟩ := stitchesB_of h
  obtain ⟨_, i2, _⟩ := compressed_inv xs
  intro p hp
  have hs := hk _ (hx _ (compressed_kinds xs p hp))
  obtain ⟨t1, t2, t3⟩ := i2 p hp
  have hs' := inR_iff.1 hs
  refine ⟨?_, by omega⟩
  unfold plainP
  simp only [Bool.and_eq_true, decide_eq_true_eq]
  exact ⟨⟨hs, inR_iff.2 ⟨t1, by omega⟩⟩, t3⟩
theorem fold_good {l : List Int} (hst : stitchesB l = true) {f s t : Nat} (hf : f < l.length) (hs : 1 ≤ s) (ht2 : 2 ≤ t) (ht : t ≤ 16) (hE : f + s * t ≤ l.length) : Good 0 (foldP l f s t) ∧ (foldP l f s t).length ≤ 17 ∧ (foldP l f s t).length ≤ l.length := by
  have hl16 := (stitchesB_of hst).1
  have hP : s * 2 ≤ s * t := Nat.mul_le_mul_left s ht2
  have hseg : (segL l f s).length = s := by rw [segL, List.length_take, List.length_drop]; omega
  have c1 := (compressed_inv (l.take f)).1
  have c2 := (compressed_inv (segL l f s)).1
  have c3 := (compressed_inv (l.drop (f + s * t))).1
  rw [List.length_take] at c1
  rw [hseg] at c2
  rw [List.length_drop] at c3
  have p1 := compressed_plain (xs := l.take f) hst (fun x hx => List.mem_of_mem_take hx) (by rw [List.length_take]; omega)
  have p2 := compressed_plain (xs := segL l f s) hst (fun x hx => segL_sub hx) (by rw [hseg]; omega)
  have p3 := compressed_plain (xs := l.drop (f + s * t)) hst (fun x hx => List.mem_of_mem_drop hx) (by rw [List.length_drop]; omega)
  have hne : 1 ≤ (compressed (segL l f s)).length := by
    cases hc : compressed (segL l f s) with
    | nil => exact absurd hc (compressed_ne (by intro e; rw [e] at hseg; simp at hseg; omega))
    | cons => simp
  refine ⟨good_app_plain _ _ p1 (good_grp rfl (by omega) ⟨by show (1 : Int) ≤ (t : Int); omega, by show (t : Int) ≤ 16; omega⟩ rfl hne (good_of_plain _ p2) (good_of_plain _ p3)), ?_, ?_⟩
  · unfold foldP
    simp only [List.length_append, List.length_cons]
    omega
  · unfold foldP
    simp only [List.length_append, List.length_cons]
    omega

theorem comp_sub {xs : List Int} {A : Option Addr} {n c : Nat} {w : World} (hl : xs.length ≤ 16) (hn : xs.length = n) (h : Ints w A xs) :
    Calls Tryd.prog 56 #[.slice A n c] w fun e w' => ∃ A' c', e = .returned (.slice A' (compressed xs).length c') ∧ OwnPiece w' w.heap.size w'.heap.size A' c' (compressed xs) ∧ Below w.heap.size w w' := by
  rw [← hn]
  exact spec_l16Compress A c xs w h (by omega)
set_option maxHeartbeats 4000000 in
set_option maxRecDepth 10000 in
theorem spec_l16Fold (l : List Int) (b off c f s t : Nat) (w : World) (h : Ints w (some ⟨b, off, none⟩) l) (hst : stitchesB l = true) (hf : f < l.length) (hs : 1 ≤ s) (ht2 : 2 ≤ t) (ht : t ≤ 16) (hE : f + s * t ≤ l.length) (hc : l.length ≤ c) (hcm : c ≤ 9223372036854775807) :
    Calls Tryd.prog 58 #[.slice (some ⟨b, off, none⟩) l.length c, .int .i64 (f : Int), .int .i64 (s : Int), .int .i64 (t : Int)] w fun e w' => e = .returned (.string (txtP (foldP l f s t))) ∧ Below w.heap.size w w' := by
  obtain ⟨iP, hi0, hz0, hz1, hz2⟩ := info_parts info_Piece
  have hl16 := (stitchesB_of hst).1
  obtain ⟨hg, hg17, _⟩ := fold_good hst hf hs ht2 ht hE
  obtain ⟨P, hP⟩ : ∃ P, P = s * t := ⟨_, rfl⟩
  have hsP : s ≤ P := by rw [hP]; exact Nat.le_mul_of_pos_right _ (by omega)
  have hPi : (s : Int) * (t : Int) = (P : Int) := by rw [hP]; push_cast; rfl
  have hseg : (segL l f s).length = s := by rw [segL, List.length_take, List.length_drop]; omega
  have HFP : Hid (foldP l f s t = compressed (l.take f) ++ ⟨12, (t : Int), ((compressed (segL l f s)).length : Int)⟩ :: (compressed (segL l f s) ++ compressed (l.drop (f + P)))) := Lib.hid (by rw [foldP, hP])
  rw [← hP] at hE
  have c1 := (compressed_inv (l.take f)).1
  have c2 := (compressed_inv (segL l f s)).1
  have c3 := (compressed_inv (l.drop (f + P))).1
  rw [List.length_take] at c1
  rw [hseg] at c2
  rw [List.length_drop] at c3
  have HR1 : Hid (∀ W cc, Below w.heap.size w W → Calls Tryd.prog 56 #[.slice (some ⟨b, off, none⟩) f cc] W fun e w' => ∃ A' c', e = .returned (.slice A' (compressed (l.take f)).length c') ∧ OwnPiece w' W.heap.size w'.heap.size A' c' (compressed (l.take f)) ∧ Below W.heap.size W w') := Lib.hid (fun W cc hb =>
    comp_sub (by rw [List.length_take]; omega) (by rw [List.length_take]; omega) ((h.below hb).take f))
  have HR2 : Hid (∀ W cc, Below w.heap.size w W → Calls Tryd.prog 56 #[.slice (some ⟨b, off + f, none⟩) s cc] W fun e w' => ∃ A' c', e = .returned (.slice A' (compressed (segL l f s)).length c') ∧ OwnPiece w' W.heap.size w'.heap.size A' c' (compressed (segL l f s)) ∧ Below W.heap.size W w') := Lib.hid (fun W cc hb =>
    comp_sub (by rw [hseg]; omega) hseg (((h.below hb).drop f).take s))
  have HR3 : Hid (∀ W AA cc, (AA = some ⟨b, off + (f + P), none⟩ ∨ l.length - (f + P) = 0) → Below w.heap.size w W → Calls Tryd.prog 56 #[.slice AA (l.length - (f + P)) cc] W fun e w' => ∃ A' c', e = .returned (.slice A' (compressed (l.drop (f + P))).length c') ∧ OwnPiece w' W.heap.size w'.heap.size A' c' (compressed (l.drop (f + P))) ∧ Below W.heap.size W w') := Lib.hid (fun W AA cc hA hb =>
    comp_sub (by rw [List.length_drop]; omega) (by rw [List.length_drop]) (by
      rcases hA with rfl | hA
      · exact (h.below hb).drop (f + P)
      · rw [List.drop_eq_nil_of_le (by omega)]; exact Ints.nil))
  have HG := Lib.hid hg
  generalize compressed (l.take f) = C1 at *
  generalize compressed (segL l f s) = C2 at *
  generalize compressed (l.drop (f + P)) = C3 at *
  generalize foldP l f s t = F at *
  have HP := Lib.hid hP
  clear hP hseg hg
  have w1 : IntKind.i64.wrap ((f : Int) + (s : Int)) = (f : Int) + (s : Int) := IntWalk.i64_in _ ⟨by omega, by omega⟩
  have w2 : IntKind.i64.wrap (P : Int) = (P : Int) := IntWalk.i64_in _ ⟨by omega, by omega⟩
  have n1 : ¬ c = f := by omega
  have n2 : f + s - f = s := by omega
  go_enter Tryd.func58, Tryd.ntmps58
  go_wp2_with (fail)
  refine (HR2.out _ _ (Below.refl _ _)).mono ?_; rintro e w2 ⟨A2, e2, rfl, o2, b2⟩
  have y2 := b2.size
  go_wp2_with (fail)
  refine (HR1.out _ _ b2).mono ?_; rintro e w3 ⟨A3, e3, rfl, o3, b3⟩
  have o2' := OwnC.below o2 b3 (Nat.le_refl _)
  have hb3 := b2.trans (b3.mono y2)
  have y3 := b3.size
  go_upto_region 4 with (at_builtin; refine wpList_append1 w3 [.int .i64 12, .int .i64 (t : Int), .int .i64 (C2.length : Int)] _ rfl (.tmp 22) (.tmp 27) _ rfl 45 iP _ 3 24 Tryd.underlying30 hi0 hz0 hz1 hz2 rfl (by decide) rfl o3 y3 1 rfl rfl (by simp [Value.oneCell']) (by omega) (by decide) ?_; intro A4 e4 w4 o4 g4 b4 z4)
  have o2'' := (o2'.alloc (.cells #[.int .i64 12, .int .i64 (t : Int), .int .i64 (C2.length : Int)] 45)).grownL (o3.alloc (.cells #[.int .i64 12, .int .i64 (t : Int), .int .i64 (C2.length : Int)] 45)) (Nat.le_refl _) g4
  have y4 : w2.heap.size ≤ w4.heap.size := Nat.le_trans y3 (Nat.le_of_lt z4)
  go_upto_region 5 with (at_builtin; (refine wpList_appendC w4 rfl (.tmp 29) (.tmp 30) _ rfl 45 iP _ 3 24 Tryd.underlying30 hi0 hz0 hz1 hz2 rfl (by decide) rfl o4 y4 A2 C2.length e2 (cellsPiece C2) rfl (cellsPiece_length C2) (OwnC.news o2'') (cellsPiece_one C2) (by unfold maxLen; omega) (by omega) ?_); intro A5 e5 w5 o5 g5 b5)
  have hb4 : Below w.heap.size w w4 := hb3.trans (b4.mono y2)
  have hb5 : Below w.heap.size w w5 := hb4.trans (b5.mono y2)
  have y5 : w4.heap.size ≤ w5.heap.size := g5.size
  go_wp2_with (fail)
  all_goals
    refine (HR3.out _ _ _ (by first | exact .inl rfl | (right; omega)) hb5).mono ?_; rintro e w6 ⟨A6, e6, rfl, o6, b6⟩
    have o5' := OwnC.below o5 b6 (Nat.le_refl _)
    have hb6 := hb5.trans (b6.mono hb5.size)
    have y6 : w2.heap.size ≤ w6.heap.size := by have := b6.size; omega
    go_wp2_with (at_builtin; refine wpList_appendC w6 rfl (.tmp 32) (.tmp 40) _ rfl 45 iP _ 3 24 Tryd.underlying30 hi0 hz0 hz1 hz2 rfl (by decide) rfl o5' y6 A6 C3.length e6 (cellsPiece C3) rfl (cellsPiece_length C3) (OwnC.news o6) (cellsPiece_one C3) (by unfold maxLen; omega) (by omega) ?_; intro A7 e7 w7 o7 g7 b7)
    have hb7 := hb6.trans (b7.mono y2)
    have hlen : C1.length + 1 + C2.length + C3.length = F.length := by rw [HFP.out]; simp only [List.length_append, List.length_cons]; omega
    have hcells : cellsPiece C1 ++ [.int .i64 12, .int .i64 (t : Int), .int .i64 (C2.length : Int)] ++ cellsPiece C2 ++ cellsPiece C3 = cellsPiece F := by
      rw [HFP.out, cellsPiece_append]
      show _ = cellsPiece C1 ++ (.int .i64 12 :: .int .i64 (t : Int) :: .int .i64 (C2.length : Int) :: cellsPiece (C2 ++ C3))
      rw [cellsPiece_append]
      simp
    rw [hlen, hcells] at o7
    rw [hlen]
    refine (spec_l16Text 100 F A7 e7 0 w7 (by omega) (by omega) (OwnC.cap o7) (OwnC.capmax o7) (OwnC.pieces o7) HG.out).mono ?_; rintro e w8 ⟨rfl, b8⟩
    go_wp2_with (fail)
    go_ret
    exact ⟨rfl, hb7.trans (b8.mono hb7.size)⟩

end Go.Proofs.YtcgbogofmdjddaaDoor
