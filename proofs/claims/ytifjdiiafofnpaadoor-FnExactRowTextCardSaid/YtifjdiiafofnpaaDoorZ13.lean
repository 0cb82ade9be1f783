/- Steps of the proof, joined from several texts: KS KR XC GJ PP DC DD. -/
import Derived.Test.YtifjdiiafofnpaaDoorZ7
import Derived.Lib.Strings
import Derived.Lib.Walk
import Derived.Lib.Bytealg
import Derived.Test.YtifjdiiafofnpaaDoorZ10
import Derived.Test.YtifjdiiafofnpaaDoorZ11
import Derived.Deep.DeepCutAuto

/- ReadStitches. -/
namespace Go.Proofs.YtifjdiiafofnpaaDoor
open Go.RowKit

def symBytes : List UInt8 := [107, 112, 111, 100, 101, 116, 115, 120, 121, 88, 89]
def symB (k : Nat) : UInt8 := symBytes[k - 1]?.getD 0
def kindB (b : UInt8) : Int := if Lib.indexByte (32 :: symBytes) b < 0 then 0 else Lib.indexByte (32 :: symBytes) b
def kinds (s : ByteArray) : List Int := s.data.toList.map kindB
def readOk (s : ByteArray) : Bool := decide (s.size ≤ 16) && (kinds s).all isStitchB
def readP (s : ByteArray) : List Int := if readOk s then kinds s else []
theorem cases11 {k : Nat} (h1 : 1 ≤ k) (h2 : k ≤ 11) : k = 1 ∨ k = 2 ∨ k = 3 ∨ k = 4 ∨ k = 5 ∨ k = 6 ∨ k = 7 ∨ k = 8 ∨ k = 9 ∨ k = 10 ∨ k = 11 := by omega
theorem kindB_found {k : Nat} {b : UInt8} (h1 : 1 ≤ k) (h2 : k ≤ 11) (h : symB k = b) : kindB b = k := by
  subst h
  rcases cases11 h1 h2 with rfl | rfl | rfl | rfl | rfl | rfl | rfl | rfl | rfl | rfl | rfl <;> decide
theorem kindB_none {b : UInt8} (h : ∀ j, 1 ≤ j → j < 12 → symB j ≠ b) : kindB b = 0 := by
  have e : ∀ j, 1 ≤ j → j < 12 → (symB j == b) = false := fun j h1 h2 => by simpa using h j h1 h2
  have e1 : ((107 : UInt8) == b) = false := e 1 (by omega) (by omega)
  have e2 : ((112 : UInt8) == b) = false := e 2 (by omega) (by omega)
  have e3 : ((111 : UInt8) == b) = false := e 3 (by omega) (by omega)
  have e4 : ((100 : UInt8) == b) = false := e 4 (by omega) (by omega)
  have e5 : ((101 : UInt8) == b) = false := e 5 (by omega) (by omega)
  have e6 : ((116 : UInt8) == b) = false := e 6 (by omega) (by omega)
  have e7 : ((115 : UInt8) == b) = false := e 7 (by omega) (by omega)
  have e8 : ((120 : UInt8) == b) = false := e 8 (by omega) (by omega)
  have e9 : ((121 : UInt8) == b) = false := e 9 (by omega) (by omega)
  have e10 : ((88 : UInt8) == b) = false := e 10 (by omega) (by omega)
  have e11 : ((89 : UInt8) == b) = false := e 11 (by omega) (by omega)
  have hi : Lib.indexByte symBytes b = -1 := by
    unfold symBytes
    simp only [Lib.indexByte, e1, e2, e3, e4, e5, e6, e7, e8, e9, e10, e11, Bool.false_eq_true, if_false]
    rfl
  unfold kindB
  rw [Lib.indexByte, hi]
  split
  · rfl
  · split <;> simp_all
theorem kindB_range (b : UInt8) : 0 ≤ kindB b ∧ kindB b ≤ 11 := by
  by_cases h : ∀ j, 1 ≤ j → j < 12 → symB j ≠ b
  · rw [kindB_none h]; omega
  · have : ∃ j, 1 ≤ j ∧ j < 12 ∧ symB j = b := by
      apply Classical.byContradiction
      intro hn
      exact h fun j h1 h2 h3 => hn ⟨j, h1, h2, h3⟩
    obtain ⟨j, h1, h2, h3⟩ := this
    rw [kindB_found h1 (by omega) h3]
    omega
theorem kindB_stitch (b : UInt8) : isStitchB (kindB b) = !decide (kindB b = 0) := by
  have := kindB_range b
  unfold isStitchB inR
  apply Bool.eq_iff_iff.2
  simp
  omega
theorem kinds_length (s : ByteArray) : (kinds s).length = s.size := by simp [kinds]
theorem readP_length (s : ByteArray) : (readP s).length ≤ 16 := by
  unfold readP
  split
  · rename_i h
    unfold readOk at h
    simp only [Bool.and_eq_true, decide_eq_true_eq] at h
    rw [kinds_length]
    exact h.1
  · simp
theorem extract_one {s : ByteArray} {i : Nat} (h : i < s.size) : s.extract i (i + 1) = ⟨#[s.data[i]'h]⟩ := by
  obtain ⟨a⟩ := s
  have h' : i < a.size := h
  rw [show (ByteArray.mk a).extract i (i + 1) = ⟨a.extract i (i + 1)⟩ from by
    apply ByteArray.ext
    simp]
  congr 1
  apply Array.ext
  · simp; omega
  · intro j h1 h2
    simp at h2
    subst h2
    simp
theorem kinds_snoc {s : ByteArray} {i : Nat} (h : i < s.size) : (kinds s).take (i + 1) = (kinds s).take i ++ [kindB (s.data[i]'h)] := by
  apply take_snoc
  unfold kinds
  rw [List.getElem?_map]
  have : s.data.toList[i]? = some (s.data[i]'h) := by
    rw [Array.getElem?_toList]
    exact Array.getElem?_eq_getElem h
  rw [this]
  rfl

set_option maxHeartbeats 2000000 in
set_option maxRecDepth 10000 in
theorem spec_SymbolOf (k : Nat) (w : World) (h1 : 1 ≤ k) (h2 : k ≤ 11) : Calls Tryd.prog 62 #[.int .i64 k] w fun e w' => e = .returned (.string ⟨#[symB k]⟩) ∧ w = w' := by
  rcases cases11 h1 h2 with rfl | rfl | rfl | rfl | rfl | rfl | rfl | rfl | rfl | rfl | rfl
  all_goals
    go_enter Tryd.func62, Tryd.ntmps62
    go_wp2_with (first | (go_at_call 61; refine (spec_l14Kind _ _).mono ?_; rintro e _ ⟨rfl, rfl⟩) | go_in)
    go_ret
    exact ⟨rfl, rfl⟩

set_option maxHeartbeats 1000000 in
set_option maxRecDepth 100000 in
theorem stringslite_IndexByte (s : ByteArray) (c : Int) (w : World) :
    Calls Tryd.prog 149 #[.string s, .int .u8 c] w fun e w' => e = .returned (.int .i64 (Lib.indexByte s.data.toList c.toNat.toUInt8)) ∧ w' = w := by
  go_enter Tryd.func149, Tryd.ntmps149
  go_wp2
  rw [run_callFunc_extern Tryd.func155 (by kernel_rfl) (by kernel_rfl) (by kernel_rfl) (e := Extern.BytealgIndexByte.indexByte) (by kernel_rfl), Lib.run_indexByteString]
  simp only [Result.andThen]
  rw [Oper.upon_value]
  go_wp2
  go_ret
  exact ⟨rfl, rfl⟩
set_option maxHeartbeats 2000000 in
set_option maxRecDepth 100000 in
theorem stringslite_Index_one (s : ByteArray) (c : UInt8) (w : World) :
    Calls Tryd.prog 134 #[.string s, .string ⟨#[c]⟩] w fun e w' => e = .returned (.int .i64 (Lib.indexByte s.data.toList c)) ∧ w' = w := by
  go_enter Tryd.func134, Tryd.ntmps134
  go_wp2_with (go_at_call 149; refine (stringslite_IndexByte _ _ _).mono ?_; rintro e w' ⟨rfl, rfl⟩)
  · have h : ([c] == s.toList) = true := by assumption
    go_ret
    refine ⟨?_, rfl⟩
    have e : s.data.toList = [c] := by rw [← Lib.toList_data]; exact (beq_iff_eq.1 h).symm
    rw [e]
    simp [Lib.indexByte]
  · go_ret
    exact ⟨rfl, rfl⟩


end Go.Proofs.YtifjdiiafofnpaaDoor

/- ReadStitches: the two functions. -/
namespace Go.Proofs.YtifjdiiafofnpaaDoor
open Go.RowKit

theorem kinds_at {s : ByteArray} {i : Nat} (h : i < s.size) : (kinds s)[i]? = some (kindB (s.data[i]'h)) := by
  unfold kinds
  rw [List.getElem?_map]
  have : s.data.toList[i]? = some (s.data[i]'h) := by
    rw [Array.getElem?_toList]
    exact Array.getElem?_eq_getElem h
  rw [this]
  rfl
theorem readOk_stitches {s : ByteArray} : readOk s = stitchesB (kinds s) := by
  unfold readOk stitchesB
  rw [kinds_length, Bool.and_comm]


end Go.Proofs.YtifjdiiafofnpaaDoor

/- Charts: MirrorStitch, MirrorChart. -/
namespace Go.Proofs.YtifjdiiafofnpaaDoor
open Go.RowKit

theorem mirK_bad {k : Int} (h : isStitchB k = false) : mirK k = 0 := by
  have h1 : k ≠ 4 := by rintro rfl; exact absurd h (by decide)
  have h2 : k ≠ 5 := by rintro rfl; exact absurd h (by decide)
  have h3 : k ≠ 8 := by rintro rfl; exact absurd h (by decide)
  have h4 : k ≠ 9 := by rintro rfl; exact absurd h (by decide)
  have h5 : k ≠ 10 := by rintro rfl; exact absurd h (by decide)
  have h6 : k ≠ 11 := by rintro rfl; exact absurd h (by decide)
  rw [mirK, if_neg h1, if_neg h2, if_neg h3, if_neg h4, if_neg h5, if_neg h6, if_neg (by rw [h]; decide)]


end Go.Proofs.YtifjdiiafofnpaaDoor

/- Texts of stitches, the program's side. -/
namespace Go.Proofs.YtifjdiiafofnpaaDoor
open Go Go.RowKit

/-- The text of some stitches. -/
def symT (ks : List Int) : ByteArray := ⟨(ks.map fun k => symB k.toNat).toArray⟩
theorem symT_size (ks : List Int) : (symT ks).size = ks.length := by
  show (ks.map fun k => symB k.toNat).toArray.size = _
  simp
theorem symT_snoc (ks : List Int) (k : Int) : symT (ks ++ [k]) = symT ks ++ ⟨#[symB k.toNat]⟩ := by
  apply ByteArray.ext
  simp [symT]
theorem kinds_symT {ks : List Int} (h : ∀ k ∈ ks, isStitchB k = true) : kinds (symT ks) = ks := by
  unfold kinds symT
  simp only [List.map_map]
  conv => rhs; rw [← List.map_id ks]
  refine List.map_congr_left fun k hk => ?_
  have := inR_iff.1 (h k hk)
  show kindB (symB k.toNat) = k
  rw [kindB_found (k := k.toNat) (by omega) (by omega) rfl]
  omega
theorem read_symT {ks : List Int} (h : stitchesB ks = true) : readOk (symT ks) = true ∧ readP (symT ks) = ks := by
  obtain ⟨h1, h2⟩ := stitchesB_of h
  have e : readOk (symT ks) = true := by
    rw [readOk_stitches, kinds_symT h2, h]
  exact ⟨e, by rw [readP, if_pos e, kinds_symT h2]⟩

set_option maxHeartbeats 2000000 in
theorem impl_SymbolOf (k : Int) (w : World) (hk : isStitchB k = true) : Calls Tryd.prog 73 #[.int .i64 k] w fun e w' => e = .returned (.string ⟨#[symB k.toNat]⟩) ∧ w = w' := by
  rcases stitch_cases hk with rfl | rfl | rfl | rfl | rfl | rfl | rfl | rfl | rfl | rfl | rfl
  all_goals
    go_enter Tryd.func73, Tryd.ntmps73
    go_wp2_with (go_at_call 66; refine (impl_isStitch _ _).mono ?_; rintro e _ ⟨rfl, rfl⟩)
    go_ret
    exact ⟨rfl, rfl⟩

set_option maxHeartbeats 1000000 in
theorem impl_stitchesText (ks : List Int) (A : Option Addr) (c : Nat) (w : World) (h : Ints w A ks) (hl : ks.length ≤ 16) (hs : ∀ k ∈ ks, isStitchB k = true) :
    Calls Tryd.prog 81 #[.slice A ks.length c] w fun e w' => e = .returned (.string (symT ks)) ∧ w = w' := by
  have HS := Lib.hid hs; clear hs
  go_enter Tryd.func81, Tryd.ntmps81
  go_wp2_with (fail)
  go_loop [3, 8] (fun tv iv => ∃ i : Nat, i ≤ ks.length ∧ iv = .int .i64 i ∧ tv = .string (symT (ks.take i))) (fun _ iv => ks.length - (intOf iv).toNat)
  case atStart => exact ⟨0, Nat.zero_le _, rfl, rfl⟩
  case round =>
    obtain ⟨i, hi, rfl, rfl⟩ := hrel
    by_cases hil : i < ks.length
    · obtain ⟨b, off, k, rfl, hc, hx⟩ := h i hil
      have hst := HS.out k (List.mem_of_getElem? hx)
      have HX : Hid (symT (ks.take (i + 1)) = symT (ks.take i) ++ ⟨#[symB k.toNat]⟩) := Lib.hid (by rw [take_snoc hx, symT_snoc])
      have hsz : (symT (ks.take i)).size ≤ 16 := by rw [symT_size, List.length_take]; omega
      clear hx
      go_wp2_with (go_at_call 73; refine (impl_SymbolOf k _ hst).mono ?_; rintro e _ ⟨rfl, rfl⟩)
      exact ⟨⟨i + 1, by omega, by go_num, by rw [HX.out]⟩, by simp [intOf]; omega⟩
    · go_wp2_with (fail)
      go_ret
      rw [take_all (by omega)]
      exact ⟨rfl, rfl⟩

end Go.Proofs.YtifjdiiafofnpaaDoor

/- A region whose last ready operation is a store. -/
namespace Go.Proofs.YtifjdiiafofnpaaDoor
open Go Go.RowKit

def lastQ (S : World → Prop) (Q : Exit → Act → World → Prop) : Exit → Act → World → Prop
  | .normal, a, w => S w ∧ Q .normal a w
  | e, a, w => Q e a w
theorem lastQ_mk {S : World → Prop} {Q : Exit → Act → World → Prop} {a : Act} {w : World} (hS : S w) (hQ : Q .normal a w) : lastQ S Q .normal a w := ⟨hS, hQ⟩
theorem wpAnyH_end {P : Program} {md : Region.Mode} {ops : Array Oper} {Q : Exit → Act → World → Prop} {S : World → Prop} {fuel : Nat} {listed : Array Bool} {a : Act} {w : World} {i : Nat} {o : Oper}
    (hr : Region.ready md ops listed = [i]) (ho : ops[i]? = some o) (hg : o.guard = none) (hall : Region.ready md ops (listed.setIfInBounds i true) = []) (h : wpList P #[] (lastQ S Q) [o] a w) : wpAnyH P md ops Q S (fuel + 1) listed a w :=
  wpAnyH_ready hr (by simp) (fun j hj => by
    obtain rfl := List.mem_singleton.1 hj
    unfold wpOp
    rw [ho]
    have hw : Region.wanted o (yielded ops a.tmps) = true := by simp [Region.wanted, hg]
    have hw0 : Region.wanted o (yielded #[] a.tmps) = true := by simp [Region.wanted, hg]
    simp only [hw, if_true]
    unfold wpList at h
    simp only [hw0, if_true] at h
    rcases h with h | ⟨h1, h2⟩
    · exact .inl (Oper.wp_le (fun a w hq => ⟨hq.1, wpAnyH_done hall hq.2 _⟩) (fun _ _ _ h => h) (fun ⟨a, w, h⟩ => ⟨a, w, h⟩) h)
    · exact .inr ⟨h1, h2.imp fun a h => h.imp fun w h => h⟩)

end Go.Proofs.YtifjdiiafofnpaaDoor

/- Texts of charts. -/
namespace Go.Proofs.YtifjdiiafofnpaaDoor
open Go Go.RowKit

theorem ba_assoc (a b c : ByteArray) : (a ++ b) ++ c = a ++ (b ++ c) := by
  apply ByteArray.ext
  simp [Array.append_assoc]
def spT : ByteArray := ⟨#[32]⟩
def nlT' : ByteArray := ⟨#[10]⟩
def dirT (d : Int) : ByteArray := if d = 1 then ⟨#[62]⟩ else ⟨#[60]⟩
def lineT (r : RowD) : ByteArray := ((((dirT r.d ++ spT) ++ decT r.r.toNat) ++ spT) ++ symT r.s) ++ nlT'
def headT (n : Int) : ByteArray := ((⟨#[99, 104, 97, 114, 116, 32]⟩ : ByteArray) ++ decT n.toNat) ++ nlT'
def chTo (n : Int) (rs : List RowD) : ByteArray := rs.foldl (fun t r => t ++ lineT r) (headT n)
def chText (n : Int) (rs : List RowD) : ByteArray := if chartB n rs then chTo n rs else ⟨#[]⟩
theorem chTo_snoc {n : Int} {rs : List RowD} {k : Nat} {r : RowD} (h : rs[k]? = some r) : chTo n (rs.take (k + 1)) = chTo n (rs.take k) ++ lineT r := by
  rw [take_snoc h]; simp [chTo]
theorem dirT_size (d : Int) : (dirT d).size = 1 := by unfold dirT; split <;> rfl
theorem lineT_size (r : RowD) : (lineT r).size ≤ 6 + r.s.length := by
  have h1 := dirT_size r.d
  have h2 := decT_size r.r.toNat
  have h3 := symT_size r.s
  have h4 : spT.size = 1 := rfl
  have h5 : nlT'.size = 1 := rfl
  unfold lineT
  simp only [ByteArray.size_append]
  omega
theorem chTo_size {n : Int} {rs : List RowD} (h : ∀ r ∈ rs, r.s.length ≤ 16) : (chTo n rs).size ≤ 9 + 22 * rs.length := by
  have key : ∀ (t : ByteArray) (ys : List RowD), (∀ r ∈ ys, r.s.length ≤ 16) → (ys.foldl (fun t r => t ++ lineT r) t).size ≤ t.size + 22 * ys.length := by
    intro t ys
    induction ys generalizing t with
    | nil => intro _; simp
    | cons y ys ih =>
      intro hy
      have h1 := ih (t ++ lineT y) (fun r hr => hy r (by simp [hr]))
      have h2 := lineT_size y
      have h3 := hy y (by simp)
      rw [ByteArray.size_append] at h1
      rw [List.foldl_cons, List.length_cons]
      omega
  have h1 := key (headT n) rs h
  have h2 := decT_size n.toNat
  have h3 : (headT n).size = 6 + (decT n.toNat).size + 1 := by
    unfold headT
    simp only [ByteArray.size_append]
    rfl
  unfold chTo
  omega

theorem impl_directionText (d : Int) (w : World) : Calls Tryd.prog 80 #[.int .i64 d] w fun e w' => e = .returned (.string (dirT d)) ∧ w = w' := by
  by_cases h : d = 1
  · subst h
    go_enter Tryd.func80, Tryd.ntmps80
    go_wp2_with (fail)
    go_ret
    exact ⟨rfl, rfl⟩
  · have hb : (d == 1) = false := by simpa using h
    have HF : Hid (dirT d = ⟨#[60]⟩) := Lib.hid (by rw [dirT, if_neg h])
    clear h
    go_enter Tryd.func80, Tryd.ntmps80
    go_wp2_with (fail)
    go_ret
    exact ⟨by rw [HF.out]; rfl, rfl⟩
set_option maxHeartbeats 4000000 in
set_option maxRecDepth 10000 in
theorem impl_chartText (n : Int) (rs : List RowD) (A : Option Addr) (c : Nat) (w : World) (h : RowsR w A rs) (hch : chartB n rs = true) :
    Calls Tryd.prog 46 #[.agg #[.int .i64 n, .slice A rs.length c]] w fun e w' => e = .returned (.string (chTo n rs)) ∧ Below w.heap.size w w' := by
  obtain ⟨⟨n1, n8⟩, ⟨r1, r8⟩, hrow⟩ := chartB_of hch
  obtain ⟨m, rfl⟩ := Int.eq_ofNat_of_zero_le (show (0 : Int) ≤ n by omega)
  have HR := Lib.hid hrow; clear hrow hch
  have hb1 : Below w.heap.size w (w.alloc (.cells #[.int .i64 (m : Int), .slice A rs.length c] 41)) := by (repeat (first | exact Below.refl _ _ | assumption | apply Below.drew | apply below_drewN | (refine Below.alloc ?_ (by first | omega | (simp; done) | (simp; omega)) _) | (refine Below.setCell ?_ (by first | omega | (simp; done) | (simp; omega)) _)))
  obtain ⟨w1, hw1⟩ : ∃ w1, w1 = w.alloc (.cells #[.int .i64 (m : Int), .slice A rs.length c] 41) := ⟨_, rfl⟩
  have k1 : Blk w1 w.heap.size 41 #[.int .i64 (m : Int), .slice A rs.length c] := by rw [hw1]; exact Blk.new _ _ _
  have r1' : RowsR w1 A rs := by rw [hw1]; exact h.below hb1
  have B1 : Below w.heap.size w w1 := by rw [hw1]; exact hb1
  have hH : headT m = ((⟨#[99, 104, 97, 114, 116, 32]⟩ : ByteArray) ++ decT m) ++ ⟨#[10]⟩ := rfl
  have HH := Lib.hid hH; clear hH
  have hd2 := decT_size m
  go_enter Tryd.func46, Tryd.ntmps46
  go_upto_region 1 with fail
  rw [← hw1]
  clear hw1 hb1
  have q1 := k1.c2
  go_wp2_with (fail)
  refine (impl_Decimal m (by omega) _).mono ?_; rintro e _ ⟨rfl, rfl⟩
  generalize decT m = dm at *
  go_wp2_with (fail)
  go_loopw [3, 14] (fun tv iv wr => ∃ i : Nat, i ≤ rs.length ∧ iv = .int .i64 i ∧ tv = .string (chTo m (rs.take i)) ∧ Below w.heap.size w wr ∧ Below w1.heap.size w1 wr) (fun _ iv _ => rs.length - (intOf iv).toNat)
  case atStart => exact ⟨0, Nat.zero_le _, rfl, by rw [List.take_zero, chTo, List.foldl_nil, HH.out], B1, Below.refl _ _⟩
  case round =>
    obtain ⟨i, hi, rfl, rfl, hb, hb1⟩ := hrel
    by_cases hil : i < rs.length
    · obtain ⟨b, off, A7, c7, r, rfl, hx, hc0, hc1, hc2, hir, hrl⟩ := (r1'.below hb1) i hil
      have hrr := HR.out r (List.mem_of_getElem? hx)
      obtain ⟨hd, hcr, hsr, hs16⟩ := rowB_of hrr
      have HS := Lib.hid (chTo_snoc (n := (m : Int)) hx)
      have hsz : (chTo m (rs.take i)).size ≤ 300 := by
        have h1 := chTo_size (n := (m : Int)) (rs := rs.take i) (fun r hr => (rowB_of (HR.out r (List.mem_of_mem_take hr))).2.2.2)
        rw [List.length_take] at h1
        omega
      clear hx hrr
      obtain ⟨d, cr, ss⟩ := r
      obtain ⟨q, rfl⟩ : ∃ q : Nat, cr = (q : Int) := ⟨cr.toNat, by have : 1 ≤ cr ∧ cr ≤ 4 := hcr; omega⟩
      have hq4 : q ≤ 4 := by have : 1 ≤ (q : Int) ∧ (q : Int) ≤ 4 := hcr; omega
      have hLL : lineT ⟨d, q, ss⟩ = ((((dirT d ++ ⟨#[32]⟩) ++ decT q) ++ ⟨#[32]⟩) ++ symT ss) ++ ⟨#[10]⟩ := rfl
      rw [hLL] at HS
      clear hLL
      have hz1 := dirT_size d
      have hz2 := decT_size q
      have hz3 := symT_size ss
      have hsk := (stitchesB_of hsr).2
      have HSK := Lib.hid hsk; clear hsk
      have hl16 : ss.length ≤ 16 := hs16
      generalize chTo m (rs.take i) = t0 at *
      obtain ⟨w3, hw3⟩ : ∃ w3, w3 = wr.alloc (.cells #[.int .i64 d, .int .i64 (q : Int), .slice A7 ss.length c7] 101) := ⟨_, rfl⟩
      have b3 : Below wr.heap.size wr w3 := by rw [hw3]; (repeat (first | exact Below.refl _ _ | assumption | apply Below.drew | apply below_drewN | (refine Below.alloc ?_ (by first | omega | (simp; done) | (simp; omega)) _) | (refine Below.setCell ?_ (by first | omega | (simp; done) | (simp; omega)) _)))
      obtain ⟨g3, hg3⟩ : ∃ g3, g3 = wr.heap.size := ⟨_, rfl⟩
      have k3 : Blk w3 g3 101 #[.int .i64 d, .int .i64 (q : Int), .slice A7 ss.length c7] := by rw [hw3, hg3]; exact Blk.new _ _ _
      have hb3 : Below w.heap.size w w3 := hb.trans (b3.mono hb.size)
      have hb13 : Below w1.heap.size w1 w3 := hb1.trans (b3.mono hb1.size)
      have hi3 : Ints w3 A7 ss := hir.below b3
      have hcb0 : wr.cell? ⟨b, off + i * 3, none⟩ = some (.int .i64 d) := hc0
      have hcb1 : wr.cell? ⟨b, off + i * 3 + 1, none⟩ = some (.int .i64 (q : Int)) := hc1
      have hcb2 : wr.cell? ⟨b, off + i * 3 + 2, none⟩ = some (.slice A7 ss.length c7) := hc2
      clear hc0 hc1 hc2
      go_upto_region 5 with fail
      rw [← hw3, ← hg3]
      clear hw3 hg3 hcb0 hcb1 hcb2 b3 hir hb hb1
      have q3 := k3.c3
      have c1 : ∀ W, Calls Tryd.prog 80 #[.int .i64 d] W fun e w' => e = .returned (.string (dirT d)) ∧ W = w' := fun W => impl_directionText d W
      have c2 : ∀ W, Calls Tryd.prog 53 #[.int .i64 (q : Int)] W fun e w' => e = .returned (.string (decT q)) ∧ W = w' := fun W => impl_Decimal q (by omega) W
      have c3 : ∀ k, Calls Tryd.prog 81 #[.slice A7 ss.length c7] (w3.drewN k) fun e w' => e = .returned (.string (symT ss)) ∧ w3.drewN k = w' := fun k => impl_stitchesText ss A7 c7 _ (hi3.drewN k) hl16 HSK.out
      have C1 := Lib.hid c1; clear c1
      have C2 := Lib.hid c2; clear c2
      have C3 := Lib.hid c3; clear c3
      generalize dirT d = dt at *
      generalize decT q = dq at *
      generalize symT ss = st at *
      go_quiet ((first | (go_at_call 80; exact quietS (C1.out _)) | (go_at_call 53; exact quietS (C2.out _)) | (go_at_call 81; exact quietS (C3.out _))))
      clear C1 C2 C3
      go_wp2_with (fail)
      exact ⟨⟨i + 1, by omega, by go_num, by rw [HS.out], below_drewN hb3 _, below_drewN hb13 _⟩, by simp [intOf]; omega⟩
    · go_wp2_with (fail)
      go_ret
      rw [take_all (by omega)]
      exact ⟨rfl, hb⟩

theorem impl_ChartText (n : Int) (rs : List RowD) (A : Option Addr) (c : Nat) (w : World) (h : RowsR w A rs) (hl : rs.length ≤ 9223372036854775807) :
    Calls Tryd.prog 20 #[.agg #[.int .i64 n, .slice A rs.length c]] w fun e w' => e = .returned (.string (chText n rs)) ∧ Below w.heap.size w w' := by
  have hb1 : Below w.heap.size w (w.alloc (.cells #[.int .i64 n, .slice A rs.length c] 41)) := by (repeat (first | exact Below.refl _ _ | assumption | apply Below.drew | apply below_drewN | (refine Below.alloc ?_ (by first | omega | (simp; done) | (simp; omega)) _) | (refine Below.setCell ?_ (by first | omega | (simp; done) | (simp; omega)) _)))
  have kb := Blk.new w 41 #[.int .i64 n, .slice A rs.length c]
  cases hv : chartB n rs
  · have HF : Hid (chText n rs = ⟨#[]⟩) := Lib.hid (by rw [chText, hv]; rfl)
    go_enter Tryd.func20, Tryd.ntmps20
    go_wp2_with (fail)
    refine (impl_ValidChart n rs A c _ (h.below hb1) hl).mono ?_; rintro e w2 ⟨rfl, b2⟩
    rw [hv]
    go_wp2_with (fail)
    go_ret
    exact ⟨by rw [HF.out]; rfl, hb1.trans (b2.mono (by simp))⟩
  · have HF : Hid (chText n rs = chTo n rs) := Lib.hid (by rw [chText, hv]; rfl)
    go_enter Tryd.func20, Tryd.ntmps20
    go_wp2_with (fail)
    refine (impl_ValidChart n rs A c _ (h.below hb1) hl).mono ?_; rintro e w2 ⟨rfl, b2⟩
    rw [hv]
    have HV := Lib.hid hv; clear hv
    have hb2 := hb1.trans (b2.mono (by simp))
    have k2 := kb.below b2 (by simp)
    have q2 := k2.c2
    go_wp2_with (fail)
    refine (impl_chartText n rs A c _ (h.below hb2) HV.out).mono ?_; rintro e w3 ⟨rfl, b3⟩
    go_wp2_with (fail)
    go_ret
    exact ⟨by rw [HF.out]; rfl, hb2.trans (b3.mono hb2.size)⟩

end Go.Proofs.YtifjdiiafofnpaaDoor

/- Texts of charts: the given side. -/
namespace Go.Proofs.YtifjdiiafofnpaaDoor
open Go Go.RowKit

set_option maxHeartbeats 1000000 in
theorem spec_l14Text (ks : List Int) (A : Option Addr) (c : Nat) (w : World) (h : Ints w A ks) (hl : ks.length ≤ 16) (hs : ∀ k ∈ ks, isStitchB k = true) :
    Calls Tryd.prog 77 #[.slice A ks.length c] w fun e w' => e = .returned (.string (symT ks)) ∧ w = w' := by
  have HS := Lib.hid hs; clear hs
  go_enter Tryd.func77, Tryd.ntmps77
  go_wp2_with (fail)
  go_loop [3, 4] (fun tv iv => ∃ i : Nat, i ≤ ks.length ∧ iv = .int .i64 i ∧ tv = .string (symT (ks.take i))) (fun _ iv => ks.length - (intOf iv).toNat)
  case atStart => exact ⟨0, Nat.zero_le _, rfl, rfl⟩
  case round =>
    obtain ⟨i, hi, rfl, rfl⟩ := hrel
    by_cases hil : i < ks.length
    · obtain ⟨b, off, k, rfl, hc, hx⟩ := h i hil
      have hst := inR_iff.1 (HS.out k (List.mem_of_getElem? hx))
      obtain ⟨m, rfl⟩ := Int.eq_ofNat_of_zero_le (show (0 : Int) ≤ k by omega)
      have HX : Hid (symT (ks.take (i + 1)) = symT (ks.take i) ++ ⟨#[symB m]⟩) := Lib.hid (by rw [take_snoc hx, symT_snoc]; rfl)
      have hsz : (symT (ks.take i)).size ≤ 16 := by rw [symT_size, List.length_take]; omega
      clear hx
      have j1 : (0 : Int) ≤ (i : Int) := by omega
      have j2 : (i : Int) < (ks.length : Int) := by omega
      go_wp2_with (fail)
      refine (spec_SymbolOf m _ (by omega) (by omega)).mono ?_; rintro e _ ⟨rfl, rfl⟩
      go_wp2_with (fail)
      exact ⟨⟨i + 1, by omega, by go_num, by rw [HX.out]⟩, by simp [intOf]; omega⟩
    · have j2 : decide ((i : Int) < (ks.length : Int)) = false := decide_eq_false (by omega)
      go_wp2_with (fail)
      go_ret
      rw [take_all (by omega)]
      exact ⟨rfl, rfl⟩

set_option maxHeartbeats 4000000 in
set_option maxRecDepth 10000 in
theorem spec_l15Text (g : Nat) (n : Int) (rs : List RowD) (A : Option Addr) (c : Nat) (w : World) (h : RowsR w A rs) (k1 : Blk w g 41 #[.int .i64 n, .slice A rs.length c]) (hch : chartB n rs = true) :
    Calls Tryd.prog 43 #[.pointer (some ⟨g, 0, none⟩)] w fun e w' => e = .returned (.string (chTo n rs)) ∧ Below w.heap.size w w' := by
  obtain ⟨⟨n1, n8⟩, ⟨r1, r8⟩, hrow⟩ := chartB_of hch
  obtain ⟨m, rfl⟩ := Int.eq_ofNat_of_zero_le (show (0 : Int) ≤ n by omega)
  have HR := Lib.hid hrow; clear hrow hch
  have hgl := k1.lt
  have hH : headT m = ((⟨#[99, 104, 97, 114, 116, 32]⟩ : ByteArray) ++ decT m) ++ ⟨#[10]⟩ := rfl
  have HH := Lib.hid hH; clear hH
  have hd2 := decT_size m
  have q1 := k1.c2
  go_enter Tryd.func43, Tryd.ntmps43
  go_wp2_with (fail)
  refine (spec_l01Dec m (by omega) _).mono ?_; rintro e w2 ⟨rfl, b2⟩
  generalize decT m = dm at *
  go_wp2_with (fail)
  go_loopw [3, 4] (fun tv iv wr => ∃ i : Nat, i ≤ rs.length ∧ iv = .int .i64 i ∧ tv = .string (chTo m (rs.take i)) ∧ Below w.heap.size w wr) (fun _ iv _ => rs.length - (intOf iv).toNat)
  case atStart => exact ⟨0, Nat.zero_le _, rfl, by rw [List.take_zero, chTo, List.foldl_nil, HH.out], b2⟩
  case round =>
    clear b2 q1
    obtain ⟨i, hi, rfl, rfl, hb⟩ := hrel
    have q1 := (k1.below hb hgl).c2
    by_cases hil : i < rs.length
    · obtain ⟨b, off, A7, c7, r, rfl, hx, hc0, hc1, hc2, hir, hrl⟩ := (h.below hb) i hil
      have hrr := HR.out r (List.mem_of_getElem? hx)
      obtain ⟨hd, hcr, hsr, hs16⟩ := rowB_of hrr
      have HS := Lib.hid (chTo_snoc (n := (m : Int)) hx)
      have hsz : (chTo m (rs.take i)).size ≤ 300 := by
        have h1 := chTo_size (n := (m : Int)) (rs := rs.take i) (fun r hr => (rowB_of (HR.out r (List.mem_of_mem_take hr))).2.2.2)
        rw [List.length_take] at h1
        omega
      clear hx hrr
      obtain ⟨d, cr, ss⟩ := r
      obtain ⟨q, rfl⟩ : ∃ q : Nat, cr = (q : Int) := ⟨cr.toNat, by have : 1 ≤ cr ∧ cr ≤ 4 := hcr; omega⟩
      have hq4 : 1 ≤ q ∧ q ≤ 4 := by have : 1 ≤ (q : Int) ∧ (q : Int) ≤ 4 := hcr; omega
      obtain ⟨dt, hdt⟩ : ∃ dt, dt = dirT d ++ ⟨#[32]⟩ := ⟨_, rfl⟩
      have hLL : chTo m (rs.take i) ++ lineT ⟨d, q, ss⟩ = (chTo m (rs.take i) ++ dt) ++ (((decT q ++ ⟨#[32]⟩) ++ symT ss) ++ ⟨#[10]⟩) := by
        rw [hdt]
        show _ ++ (((((dirT d ++ ⟨#[32]⟩) ++ decT q) ++ ⟨#[32]⟩) ++ symT ss) ++ ⟨#[10]⟩) = _
        simp only [ba_assoc]
      rw [hLL] at HS
      clear hLL
      have hz1 : dt.size = 2 := by rw [hdt, ByteArray.size_append, dirT_size]; rfl
      have hz2 := decT_size q
      have hz3 := symT_size ss
      have hsk := (stitchesB_of hsr).2
      have HSK := Lib.hid hsk; clear hsk
      have hl16 : ss.length ≤ 16 := hs16
      generalize chTo m (rs.take i) = t0 at *
      obtain ⟨w3, hw3⟩ : ∃ w3, w3 = wr.alloc (.cells #[.int .i64 d, .int .i64 (q : Int), .slice A7 ss.length c7] 101) := ⟨_, rfl⟩
      have b3 : Below wr.heap.size wr w3 := by rw [hw3]; (repeat (first | exact Below.refl _ _ | assumption | apply Below.drew | apply below_drewN | (refine Below.alloc ?_ (by first | omega | (simp; done) | (simp; omega)) _) | (refine Below.setCell ?_ (by first | omega | (simp; done) | (simp; omega)) _)))
      obtain ⟨g3, hg3⟩ : ∃ g3, g3 = wr.heap.size := ⟨_, rfl⟩
      have k3 : Blk w3 g3 101 #[.int .i64 d, .int .i64 (q : Int), .slice A7 ss.length c7] := by rw [hw3, hg3]; exact Blk.new _ _ _
      have hb3 : Below w.heap.size w w3 := hb.trans (b3.mono hb.size)
      have hi3 : Ints w3 A7 ss := hir.below b3
      have hcb0 : wr.cell? ⟨b, off + i * 3, none⟩ = some (.int .i64 d) := hc0
      have hcb1 : wr.cell? ⟨b, off + i * 3 + 1, none⟩ = some (.int .i64 (q : Int)) := hc1
      have hcb2 : wr.cell? ⟨b, off + i * 3 + 2, none⟩ = some (.slice A7 ss.length c7) := hc2
      clear hc0 hc1 hc2
      have j1 : (0 : Int) ≤ (i : Int) := by omega
      have j2 : (i : Int) < (rs.length : Int) := by omega
      go_upto_region 6 with fail
      rw [← hw3, ← hg3]
      clear hw3 hg3 hcb0 hcb1 hcb2 b3 hir hb
      have q3 := k3.c3
      go_upto_if 31 with fail
      go_cut [3] (fun tv wx => tv = .string (t0 ++ dt) ∧ w3 = wx)
      case first =>
        by_cases hd1 : d = 1
        · have hdb : (d == 1) = true := by simp [hd1]
          have HDT : Hid (dt = ⟨#[62, 32]⟩) := Lib.hid (by rw [hdt, hd1]; rfl)
          clear hd1 hdt
          go_wp2_with (fail)
          go_meet
          exact ⟨by rw [HDT.out], rfl⟩
        · have hdb : (d == 1) = false := by simpa using hd1
          have HDT : Hid (dt = ⟨#[60, 32]⟩) := Lib.hid (by rw [hdt, dirT, if_neg hd1]; rfl)
          clear hd1 hdt
          go_wp2_with (fail)
          go_meet
          exact ⟨by rw [HDT.out], rfl⟩
      case rest =>
      obtain ⟨rfl, rfl⟩ := hcut
      have hst0 : (t0 ++ dt).size ≤ 310 := by rw [ByteArray.size_append]; omega
      clear hdt
      generalize t0 ++ dt = t1 at *
      have c3 : ∀ W, Ints W A7 ss → Calls Tryd.prog 77 #[.slice A7 ss.length c7] W fun e w' => e = .returned (.string (symT ss)) ∧ W = w' := fun W hW => spec_l14Text ss A7 c7 W hW hl16 HSK.out
      have c1 := fun W => spec_l01Dec q (by omega) W
      have C1 := Lib.hid c1; clear c1
      have C3 := Lib.hid c3; clear c3
      generalize decT q = dq at *
      generalize symT ss = st at *
      go_upto_region 9 with fail
      (refine wp_region_pops 2 (S := (fun W' => W'.cell? ⟨g3, 1, none⟩ = some (.int .i64 (q : Int)) ∧ W'.cell? ⟨g3, 2, none⟩ = some (.slice A7 ss.length c7))) (pre := ?_) (T := ?_) (n := ?_) (by kernel_rfl) (by kernel_rfl) ?_ ?_ ?_ ?_ (fun hHeld => ?_); rotate_left 3; (focus (simp only [pops, List.pop_toArray, List.dropLast_cons_cons, List.dropLast_singleton]; rfl)); (focus (simp only [tailOf, List.pop_toArray, List.dropLast_cons_cons, List.dropLast_singleton, List.back?_toArray, List.getLast?_cons_cons, List.getLast?_singleton, Option.toList_some, List.nil_append, List.cons_append]; rfl)); (focus rfl); (focus (exact ⟨q3.2.1, q3.2.2⟩)))
      ((refine wpAnyH_take (i := 0) (v := ?_) rfl (by kernel_rfl) (by kernel_rfl) (by kernel_rfl) (fun _ _ _ h => h) (Or.inl ⟨by rfl, ?_⟩) (by assumption) ?_; rotate_left; (focus (intro W hSw; (try dsimp only at hSw); go_simp; try (with_reducible rfl)))); (try simp only [List.getElem_toArray, List.getElem_cons_zero, Act.put, List.setIfInBounds_toArray, List.set_cons_zero, List.set_cons_succ]); (refine wpAnyH_take (i := 1) (v := ?_) rfl (by kernel_rfl) (by kernel_rfl) (by kernel_rfl) (fun _ _ _ h => h) (Or.inl ⟨by rfl, ?_⟩) (by assumption) ?_; rotate_left; (focus (intro W hSw; (try dsimp only at hSw); go_simp; try (with_reducible rfl)))); (try simp only [List.getElem_toArray, List.getElem_cons_zero, List.getElem_cons_succ, Act.put, List.setIfInBounds_toArray, List.set_cons_zero, List.set_cons_succ]); (refine wpAnyH_take (i := 2) (v := ?_) rfl (by kernel_rfl) (by kernel_rfl) (by kernel_rfl) (fun _ _ _ h => h) (Or.inl ⟨by rfl, ?_⟩) (by assumption) ?_; rotate_left; (focus (intro W hSw; (try dsimp only at hSw); go_simp; try (with_reducible rfl)))); (try simp only [List.getElem_toArray, List.getElem_cons_zero, List.getElem_cons_succ, Act.put, List.setIfInBounds_toArray, List.set_cons_zero, List.set_cons_succ]); (refine wpAnyH_take (i := 5) (v := ?_) rfl (by kernel_rfl) (by kernel_rfl) (by kernel_rfl) (fun _ _ _ h => h) (Or.inl ⟨by rfl, ?_⟩) (by assumption) ?_; rotate_left; (focus (intro W hSw; (try dsimp only at hSw); go_simp; try (with_reducible rfl)))); (try simp only [List.getElem_toArray, List.getElem_cons_zero, List.getElem_cons_succ, Act.put, List.setIfInBounds_toArray, List.set_cons_zero, List.set_cons_succ]); (refine wpAnyH_take (i := 6) (v := ?_) rfl (by kernel_rfl) (by kernel_rfl) (by kernel_rfl) (fun _ _ _ h => h) (Or.inl ⟨by rfl, ?_⟩) (by assumption) ?_; rotate_left; (focus (intro W hSw; (try dsimp only at hSw); go_simp; try (with_reducible rfl)))); (try simp only [List.getElem_toArray, List.getElem_cons_zero, List.getElem_cons_succ, Act.put, List.setIfInBounds_toArray, List.set_cons_zero, List.set_cons_succ]))
      (refine wpAnyH_ready (rs := [3]) (by kernel_rfl) (by simp) ?_; refine AllReadyH.cons rfl (fun K hK => ?_) AllReadyH.nil)
      go_simp
      refine (C1.out _).mono ?_; rintro e w5 ⟨rfl, b5'⟩
      have b5 : Below w3.heap.size w3 w5 := undrew b5'
      refine hK.out _ _ ⟨cells_below b5 _ _ q3.2.1, cells_below b5 _ _ q3.2.2⟩ (fun hHeld => ?_)
      clear hK K b5'
      (try simp only [List.getElem_toArray, List.getElem_cons_zero, List.getElem_cons_succ, Act.put, List.setIfInBounds_toArray, List.set_cons_zero, List.set_cons_succ])
      ((refine wpAnyH_take (i := 4) (v := ?_) rfl (by kernel_rfl) (by kernel_rfl) (by kernel_rfl) (fun _ _ _ h => h) (Or.inl ⟨by rfl, ?_⟩) (by assumption) ?_; rotate_left; (focus (intro W hSw; (try dsimp only at hSw); go_simp; (try rw [if_neg (by first | omega | (simp only [ByteArray.size_append]; omega))]); try (with_reducible rfl)))); (try simp only [List.getElem_toArray, List.getElem_cons_zero, List.getElem_cons_succ, Act.put, List.setIfInBounds_toArray, List.set_cons_zero, List.set_cons_succ]))
      (refine wpAnyH_ready (rs := [7]) (by kernel_rfl) (by simp) ?_; refine AllReadyH.cons rfl (fun K hK => ?_) AllReadyH.nil)
      go_simp
      refine (C3.out _ (hi3.below b5)).mono ?_; rintro e w6 ⟨rfl, rfl⟩
      refine hK.out _ _ ⟨cells_below b5 _ _ q3.2.1, cells_below b5 _ _ q3.2.2⟩ (fun hHeld => ?_)
      clear hK K
      (try simp only [List.getElem_toArray, List.getElem_cons_zero, List.getElem_cons_succ, Act.put, List.setIfInBounds_toArray, List.set_cons_zero, List.set_cons_succ])
      ((refine wpAnyH_take (i := 8) (v := ?_) rfl (by kernel_rfl) (by kernel_rfl) (by kernel_rfl) (fun _ _ _ h => h) (Or.inl ⟨by rfl, ?_⟩) (by assumption) ?_; rotate_left; (focus (intro W hSw; (try dsimp only at hSw); go_simp; (try rw [if_neg (by first | omega | (simp only [ByteArray.size_append]; omega))]); try (with_reducible rfl)))); (try simp only [List.getElem_toArray, List.getElem_cons_zero, List.getElem_cons_succ, Act.put, List.setIfInBounds_toArray, List.set_cons_zero, List.set_cons_succ]); (refine wpAnyH_take (i := 9) (v := ?_) rfl (by kernel_rfl) (by kernel_rfl) (by kernel_rfl) (fun _ _ _ h => h) (Or.inl ⟨by rfl, ?_⟩) (by assumption) ?_; rotate_left; (focus (intro W hSw; (try dsimp only at hSw); go_simp; (try rw [if_neg (by first | omega | (simp only [ByteArray.size_append]; omega))]); try (with_reducible rfl)))); (try simp only [List.getElem_toArray, List.getElem_cons_zero, List.getElem_cons_succ, Act.put, List.setIfInBounds_toArray, List.set_cons_zero, List.set_cons_succ]))
      (refine wpAnyH_done (by kernel_rfl) ?_ _; change wpList _ _ _ _ _ _)
      clear hHeld C1 C3
      go_wp2_with (fail)
      exact ⟨⟨i + 1, by omega, by go_num, by rw [HS.out], hb3.trans (b5.mono hb3.size)⟩, by simp [intOf]; omega⟩
    · have j2 : decide ((i : Int) < (rs.length : Int)) = false := decide_eq_false (by omega)
      go_wp2_with (fail)
      go_ret
      rw [take_all (by omega)]
      exact ⟨rfl, hb⟩

theorem spec_ChartText (n : Int) (rs : List RowD) (A : Option Addr) (c : Nat) (w : World) (h : RowsR w A rs) (hl : rs.length ≤ 9223372036854775807) :
    Calls Tryd.prog 18 #[.agg #[.int .i64 n, .slice A rs.length c]] w fun e w' => e = .returned (.string (chText n rs)) ∧ Below w.heap.size w w' := by
  have hb1 : Below w.heap.size w (w.alloc (.cells #[.int .i64 n, .slice A rs.length c] 41)) := by (repeat (first | exact Below.refl _ _ | assumption | apply Below.drew | apply below_drewN | (refine Below.alloc ?_ (by first | omega | (simp; done) | (simp; omega)) _) | (refine Below.setCell ?_ (by first | omega | (simp; done) | (simp; omega)) _)))
  have kb := Blk.new w 41 #[.int .i64 n, .slice A rs.length c]
  cases hv : chartB n rs
  · have HF : Hid (chText n rs = ⟨#[]⟩) := Lib.hid (by rw [chText, hv]; rfl)
    go_enter Tryd.func18, Tryd.ntmps18
    go_wp2_with (fail)
    refine (spec_l15Ok _ _ n rs A c _ (h.below hb1) hl kb.c2.1 kb.c2.2).mono ?_; rintro e w2 ⟨rfl, b2⟩
    rw [hv]
    go_wp2_with (fail)
    go_ret
    exact ⟨by rw [HF.out]; rfl, hb1.trans (b2.mono (by simp))⟩
  · have HF : Hid (chText n rs = chTo n rs) := Lib.hid (by rw [chText, hv]; rfl)
    go_enter Tryd.func18, Tryd.ntmps18
    go_wp2_with (fail)
    refine (spec_l15Ok _ _ n rs A c _ (h.below hb1) hl kb.c2.1 kb.c2.2).mono ?_; rintro e w2 ⟨rfl, b2⟩
    rw [hv]
    have HV := Lib.hid hv; clear hv
    have hb2 := hb1.trans (b2.mono (by simp))
    have k2 := kb.below b2 (by simp)
    go_wp2_with (fail)
    refine (spec_l15Text w.heap.size n rs A c _ (h.below hb2) k2 HV.out).mono ?_; rintro e w3 ⟨rfl, b3⟩
    go_wp2_with (fail)
    go_ret
    exact ⟨by rw [HF.out]; rfl, hb2.trans (b3.mono hb2.size)⟩

end Go.Proofs.YtifjdiiafofnpaaDoor
