/- Steps of the proof, joined from several texts: KS KR XC GJ PP DC DE SJ EB. -/
import Derived.Test.YtcgbogofmdjddaaDoorZ6
import Derived.Lib.Strings
import Derived.Lib.Walk
import Derived.Lib.Bytealg
import Derived.Test.YtcgbogofmdjddaaDoorZ7
import Derived.Deep.DeepCutAuto
import Derived.Lib.Join
import Derived.Shelf.Strings.OnBuilder
import Derived.Test.YtcgbogofmdjddaaDoorZ1

/- ReadStitches. -/
namespace Go.Proofs.YtcgbogofmdjddaaDoor
open Go.RowKit

def symBytes : List UInt8 := [107, 112, 111, 100, 101, 116, 115, 120, 121, 88, 89]
def symB (k : Nat) : UInt8 := symBytes[k - 1]?.getD 0
def kindB (b : UInt8) : Int := if Lib.indexByte (32 :: symBytes) b < 0 then 0 else Lib.indexByte (32 :: symBytes) b
def kinds (s : ByteArray) : List Int := s.data.toList.map kindB
def readOk (s : ByteArray) : Bool := decide (s.size ≤ 16) && (kinds s).all isStitchB
def readP (s : ByteArray) : List Int := if readOk s then kinds s else []
theorem cases11 {k : Nat} (h1 : 1 ≤ k) (h2 : k ≤ 11) : k = 1 ∨ k = 2 ∨ k = 3 ∨ k = 4 ∨ k = 5 ∨ k = 6 ∨ k = 7 ∨ k = 8 ∨ k = 9 ∨ k = 10 ∨ k = 11 := by omega
theorem kindB_found {k : Nat} {b : UInt8} (h1 : 1 ≤ k) (h2 : k ≤ 11) (h : symB k = b) : kindB b = k := by
  subst h
  rcases cases11 h1 h2 with rfl | rfl | rfl | rfl | rfl | rfl | rfl | rfl | rfl | rfl | rfl <;> decide
theorem kindB_none {b : UInt8} (h : ∀ j, 1 ≤ j → j < 12 → symB j ≠ b) : kindB b = 0 := by
  have e : ∀ j, 1 ≤ j → j < 12 → (symB j == b) = false := fun j h1 h2 => by simpa using h j h1 h2
  have e1 : ((107 : UInt8) == b) = false := e 1 (by omega) (by omega)
  have e2 : ((112 : UInt8) == b) = false := e 2 (by omega) (by omega)
  have e3 : ((111 : UInt8) == b) = false := e 3 (by omega) (by omega)
  have e4 : ((100 : UInt8) == b) = false := e 4 (by omega) (by omega)
  have e5 : ((101 : UInt8) == b) = false := e 5 (by omega) (by omega)
  have e6 : ((116 : UInt8) == b) = false := e 6 (by omega) (by omega)
  have e7 : ((115 : UInt8) == b) = false := e 7 (by omega) (by omega)
  have e8 : ((120 : UInt8) == b) = false := e 8 (by omega) (by omega)
  have e9 : ((121 : UInt8) == b) = false := e 9 (by omega) (by omega)
  have e10 : ((88 : UInt8) == b) = false := e 10 (by omega) (by omega)
  have e11 : ((89 : UInt8) == b) = false := e 11 (by omega) (by omega)
  have hi : Lib.indexByte symBytes b = -1 := by
    unfold symBytes
    simp only [Lib.indexByte, e1, e2, e3, e4, e5, e6, e7, e8, e9, e10, e11, Bool.false_eq_true, if_false]
    rfl
  unfold kindB
  rw [Lib.indexByte, hi]
  split
  · rfl
  · split <;> simp_all
theorem kindB_range (b : UInt8) : 0 ≤ kindB b ∧ kindB b ≤ 11 := by
  by_cases h : ∀ j, 1 ≤ j → j < 12 → symB j ≠ b
  · rw [kindB_none h]; omega
  · have : ∃ j, 1 ≤ j ∧ j < 12 ∧ symB j = b := by
      apply Classical.byContradiction
      intro hn
      exact h fun j h1 h2 h3 => hn ⟨j, h1, h2, h3⟩
    obtain ⟨j, h1, h2, h3⟩ := this
    rw [kindB_found h1 (by omega) h3]
    omega
theorem kindB_stitch (b : UInt8) : isStitchB (kindB b) = !decide (kindB b = 0) := by
  have := kindB_range b
  unfold isStitchB inR
  apply Bool.eq_iff_iff.2
  simp
  omega
theorem kinds_length (s : ByteArray) : (kinds s).length = s.size := by simp [kinds]
theorem readP_length (s : ByteArray) : (readP s).length ≤ 16 := by
  unfold readP
  split
  · rename_i h
    unfold readOk at h
    simp only [Bool.and_eq_true, decide_eq_true_eq] at h
    rw [kinds_length]
    exact h.1
  · simp
theorem extract_one {s : ByteArray} {i : Nat} (h : i < s.size) : s.extract i (i + 1) = ⟨#[s.data[i]'h]⟩ := by
  obtain ⟨a⟩ := s
  have h' : i < a.size := h
  rw [show (ByteArray.mk a).extract i (i + 1) = ⟨a.extract i (i + 1)⟩ from by
    apply ByteArray.ext
    simp]
  congr 1
  apply Array.ext
  · simp; omega
  · intro j h1 h2
    simp at h2
    subst h2
    simp
theorem kinds_snoc {s : ByteArray} {i : Nat} (h : i < s.size) : (kinds s).take (i + 1) = (kinds s).take i ++ [kindB (s.data[i]'h)] := by
  apply take_snoc
  unfold kinds
  rw [List.getElem?_map]
  have : s.data.toList[i]? = some (s.data[i]'h) := by
    rw [Array.getElem?_toList]
    exact Array.getElem?_eq_getElem h
  rw [this]
  rfl

set_option maxHeartbeats 2000000 in
set_option maxRecDepth 10000 in
theorem spec_SymbolOf (k : Nat) (w : World) (h1 : 1 ≤ k) (h2 : k ≤ 11) : Calls Tryd.prog 82 #[.int .i64 k] w fun e w' => e = .returned (.string ⟨#[symB k]⟩) ∧ w = w' := by
  rcases cases11 h1 h2 with rfl | rfl | rfl | rfl | rfl | rfl | rfl | rfl | rfl | rfl | rfl
  all_goals
    go_enter Tryd.func82, Tryd.ntmps82
    go_wp2_with (first | (go_at_call 92; refine (spec_l14Kind _ _).mono ?_; rintro e _ ⟨rfl, rfl⟩) | go_in)
    go_ret
    exact ⟨rfl, rfl⟩

set_option maxHeartbeats 1000000 in
set_option maxRecDepth 10000 in
theorem spec_KindOf (b : UInt8) (w : World) : Calls Tryd.prog 80 #[.string ⟨#[b]⟩] w fun e w' => e = .returned (.int .i64 (kindB b)) ∧ w = w' := by
  go_enter Tryd.func80, Tryd.ntmps80
  go_wp2_with (fail)
  go_loop [3] (fun kv => ∃ k : Nat, 1 ≤ k ∧ k ≤ 12 ∧ kv = .int .i64 k ∧ Hid (∀ j, 1 ≤ j → j < k → symB j ≠ b)) (fun kv => 12 - (intOf kv).toNat)
  case atStart => exact ⟨1, by omega, by omega, rfl, Lib.hid (fun j h1 h2 => by omega)⟩
  case round =>
    obtain ⟨k, hk1, hk2, rfl, HA⟩ := hrel
    by_cases hlt : k ≤ 11
    · have h12 : ((k : Int) ≤ 11) := by omega
      by_cases hb : symB k = b
      · have HF : Hid (kindB b = k) := Lib.hid (kindB_found hk1 hlt hb)
        have hb1 : (symB k == b) = true := by simp [hb]
        clear hb
        go_wp2_with (fail)
        refine (spec_SymbolOf k _ hk1 hlt).mono ?_; rintro e _ ⟨rfl, rfl⟩
        go_wp2_with (fail)
        go_ret
        exact ⟨ret_int HF.out.symm, rfl⟩
      · have hb1 : (symB k == b) = false := by simpa using hb
        have HB := Lib.hid hb; clear hb
        go_wp2_with (fail)
        refine (spec_SymbolOf k _ hk1 hlt).mono ?_; rintro e _ ⟨rfl, rfl⟩
        go_wp2_with (fail)
        go_round
        case rel =>
          refine ⟨k + 1, by omega, by omega, by go_num, Lib.hid (fun j h1 h2 => ?_)⟩
          rcases Nat.lt_or_ge j k with h3 | h3
          · exact HA.out j h1 h3
          · obtain rfl : j = k := by omega
            exact HB.out
        case measure => simp [intOf]; omega
    · obtain rfl : k = 12 := by omega
      have HF : Hid (kindB b = 0) := Lib.hid (kindB_none HA.out)
      go_wp2_with (fail)
      go_ret
      exact ⟨ret_int HF.out.symm, rfl⟩

set_option maxHeartbeats 1000000 in
set_option maxRecDepth 100000 in
theorem stringslite_IndexByte (s : ByteArray) (c : Int) (w : World) :
    Calls Tryd.prog 122 #[.string s, .int .u8 c] w fun e w' => e = .returned (.int .i64 (Lib.indexByte s.data.toList c.toNat.toUInt8)) ∧ w' = w := by
  go_enter Tryd.func122, Tryd.ntmps122
  go_wp2
  rw [run_callFunc_extern Tryd.func130 (by kernel_rfl) (by kernel_rfl) (by kernel_rfl) (e := Extern.BytealgIndexByte.indexByte) (by kernel_rfl), Lib.run_indexByteString]
  simp only [Result.andThen]
  rw [Oper.upon_value]
  go_wp2
  go_ret
  exact ⟨rfl, rfl⟩
set_option maxHeartbeats 2000000 in
set_option maxRecDepth 100000 in
theorem stringslite_Index_one (s : ByteArray) (c : UInt8) (w : World) :
    Calls Tryd.prog 112 #[.string s, .string ⟨#[c]⟩] w fun e w' => e = .returned (.int .i64 (Lib.indexByte s.data.toList c)) ∧ w' = w := by
  go_enter Tryd.func112, Tryd.ntmps112
  go_wp2_with (go_at_call 122; refine (stringslite_IndexByte _ _ _).mono ?_; rintro e w' ⟨rfl, rfl⟩)
  · have h : ([c] == s.toList) = true := by assumption
    go_ret
    refine ⟨?_, rfl⟩
    have e : s.data.toList = [c] := by rw [← Lib.toList_data]; exact (beq_iff_eq.1 h).symm
    rw [e]
    simp [Lib.indexByte]
  · go_ret
    exact ⟨rfl, rfl⟩

set_option maxHeartbeats 1000000 in
set_option maxRecDepth 10000 in
theorem impl_KindOf (b : UInt8) (w : World) : Calls Tryd.prog 51 #[.string ⟨#[b]⟩] w fun e w' => e = .returned (.int .i64 (kindB b)) ∧ w = w' := by
  have hr := kindB_range b
  have hI := Lib.indexByte_ge (32 :: symBytes) b
  have hk : Hid (kindB b = if Lib.indexByte (32 :: symBytes) b < 0 then 0 else Lib.indexByte (32 :: symBytes) b) := Lib.hid rfl
  go_enter Tryd.func51, Tryd.ntmps51
  go_wp2_with (first | (go_at_call 112; refine (stringslite_Index_one _ _ _).mono ?_; rintro e w' ⟨rfl, rfl⟩) | go_in)
  go_ret
  refine ⟨?_, rfl⟩
  show Ending.returned (.int .i64 (max 0 (Lib.indexByte (32 :: symBytes) b))) = _
  exact ret_int (by rw [hk.out]; split <;> omega)

end Go.Proofs.YtcgbogofmdjddaaDoor

/- ReadStitches: the two functions. -/
namespace Go.Proofs.YtcgbogofmdjddaaDoor
open Go.RowKit

theorem kinds_at {s : ByteArray} {i : Nat} (h : i < s.size) : (kinds s)[i]? = some (kindB (s.data[i]'h)) := by
  unfold kinds
  rw [List.getElem?_map]
  have : s.data.toList[i]? = some (s.data[i]'h) := by
    rw [Array.getElem?_toList]
    exact Array.getElem?_eq_getElem h
  rw [this]
  rfl
theorem readOk_stitches {s : ByteArray} : readOk s = stitchesB (kinds s) := by
  unfold readOk stitchesB
  rw [kinds_length, Bool.and_comm]


end Go.Proofs.YtcgbogofmdjddaaDoor

/- Charts: MirrorStitch, MirrorChart. -/
namespace Go.Proofs.YtcgbogofmdjddaaDoor
open Go.RowKit

theorem mirK_bad {k : Int} (h : isStitchB k = false) : mirK k = 0 := by
  have h1 : k ≠ 4 := by rintro rfl; exact absurd h (by decide)
  have h2 : k ≠ 5 := by rintro rfl; exact absurd h (by decide)
  have h3 : k ≠ 8 := by rintro rfl; exact absurd h (by decide)
  have h4 : k ≠ 9 := by rintro rfl; exact absurd h (by decide)
  have h5 : k ≠ 10 := by rintro rfl; exact absurd h (by decide)
  have h6 : k ≠ 11 := by rintro rfl; exact absurd h (by decide)
  rw [mirK, if_neg h1, if_neg h2, if_neg h3, if_neg h4, if_neg h5, if_neg h6, if_neg (by rw [h]; decide)]


end Go.Proofs.YtcgbogofmdjddaaDoor

/- Texts of stitches, the program's side. -/
namespace Go.Proofs.YtcgbogofmdjddaaDoor
open Go Go.RowKit

/-- The text of some stitches. -/
def symT (ks : List Int) : ByteArray := ⟨(ks.map fun k => symB k.toNat).toArray⟩
theorem symT_size (ks : List Int) : (symT ks).size = ks.length := by
  show (ks.map fun k => symB k.toNat).toArray.size = _
  simp
theorem symT_snoc (ks : List Int) (k : Int) : symT (ks ++ [k]) = symT ks ++ ⟨#[symB k.toNat]⟩ := by
  apply ByteArray.ext
  simp [symT]
theorem kinds_symT {ks : List Int} (h : ∀ k ∈ ks, isStitchB k = true) : kinds (symT ks) = ks := by
  unfold kinds symT
  simp only [List.map_map]
  conv => rhs; rw [← List.map_id ks]
  refine List.map_congr_left fun k hk => ?_
  have := inR_iff.1 (h k hk)
  show kindB (symB k.toNat) = k
  rw [kindB_found (k := k.toNat) (by omega) (by omega) rfl]
  omega
theorem read_symT {ks : List Int} (h : stitchesB ks = true) : readOk (symT ks) = true ∧ readP (symT ks) = ks := by
  obtain ⟨h1, h2⟩ := stitchesB_of h
  have e : readOk (symT ks) = true := by
    rw [readOk_stitches, kinds_symT h2, h]
  exact ⟨e, by rw [readP, if_pos e, kinds_symT h2]⟩

set_option maxHeartbeats 2000000 in
theorem impl_SymbolOf (k : Int) (w : World) (hk : isStitchB k = true) : Calls Tryd.prog 90 #[.int .i64 k] w fun e w' => e = .returned (.string ⟨#[symB k.toNat]⟩) ∧ w = w' := by
  rcases stitch_cases hk with rfl | rfl | rfl | rfl | rfl | rfl | rfl | rfl | rfl | rfl | rfl
  all_goals
    go_enter Tryd.func90, Tryd.ntmps90
    go_wp2_with (go_at_call 94; refine (impl_isStitch _ _).mono ?_; rintro e _ ⟨rfl, rfl⟩)
    go_ret
    exact ⟨rfl, rfl⟩

theorem impl_TakenBy (ks : List Int) (A : Option Addr) (c : Nat) (w : World) (h : Ints w A ks) (hk : stitchesB ks = true) :
    Calls Tryd.prog 31 #[.slice A ks.length c] w fun e w' => e = .returned (.int .i64 (takenS ks : Int)) ∧ w = w' := by
  obtain ⟨h1, h2⟩ := stitchesB_of hk
  go_enter Tryd.func31, Tryd.ntmps31
  go_wp2_with (fail)
  refine (impl_areStitches _ _ _ _ h (by omega)).mono ?_; rintro e _ ⟨rfl, rfl⟩
  rw [hk]
  go_wp2_with (fail)
  refine (impl_takenBy A c ks _ h hk).mono ?_; rintro e _ ⟨rfl, rfl⟩
  go_wp2_with (fail)
  go_ret
  exact ⟨rfl, rfl⟩

end Go.Proofs.YtcgbogofmdjddaaDoor

/- A region whose last ready operation is a store. -/
namespace Go.Proofs.YtcgbogofmdjddaaDoor
open Go Go.RowKit

def lastQ (S : World → Prop) (Q : Exit → Act → World → Prop) : Exit → Act → World → Prop
  | .normal, a, w => S w ∧ Q .normal a w
  | e, a, w => Q e a w
theorem lastQ_mk {S : World → Prop} {Q : Exit → Act → World → Prop} {a : Act} {w : World} (hS : S w) (hQ : Q .normal a w) : lastQ S Q .normal a w := ⟨hS, hQ⟩
theorem wpAnyH_end {P : Program} {md : Region.Mode} {ops : Array Oper} {Q : Exit → Act → World → Prop} {S : World → Prop} {fuel : Nat} {listed : Array Bool} {a : Act} {w : World} {i : Nat} {o : Oper}
    (hr : Region.ready md ops listed = [i]) (ho : ops[i]? = some o) (hg : o.guard = none) (hall : Region.ready md ops (listed.setIfInBounds i true) = []) (h : wpList P #[] (lastQ S Q) [o] a w) : wpAnyH P md ops Q S (fuel + 1) listed a w :=
  wpAnyH_ready hr (by simp) (fun j hj => by
    obtain rfl := List.mem_singleton.1 hj
    unfold wpOp
    rw [ho]
    have hw : Region.wanted o (yielded ops a.tmps) = true := by simp [Region.wanted, hg]
    have hw0 : Region.wanted o (yielded #[] a.tmps) = true := by simp [Region.wanted, hg]
    simp only [hw, if_true]
    unfold wpList at h
    simp only [hw0, if_true] at h
    rcases h with h | ⟨h1, h2⟩
    · exact .inl (Oper.wp_le (fun a w hq => ⟨hq.1, wpAnyH_done hall hq.2 _⟩) (fun _ _ _ h => h) (fun ⟨a, w, h⟩ => ⟨a, w, h⟩) h)
    · exact .inr ⟨h1, h2.imp fun a h => h.imp fun w h => h⟩)

end Go.Proofs.YtcgbogofmdjddaaDoor

/- Texts of charts. -/
namespace Go.Proofs.YtcgbogofmdjddaaDoor
open Go Go.RowKit

theorem ba_assoc (a b c : ByteArray) : (a ++ b) ++ c = a ++ (b ++ c) := by
  apply ByteArray.ext
  simp [Array.append_assoc]
def spT : ByteArray := ⟨#[32]⟩
def nlT' : ByteArray := ⟨#[10]⟩
def dirT (d : Int) : ByteArray := if d = 1 then ⟨#[62]⟩ else ⟨#[60]⟩
def lineT (r : RowD) : ByteArray := ((((dirT r.d ++ spT) ++ decT r.r.toNat) ++ spT) ++ symT r.s) ++ nlT'
def headT (n : Int) : ByteArray := ((⟨#[99, 104, 97, 114, 116, 32]⟩ : ByteArray) ++ decT n.toNat) ++ nlT'
def chTo (n : Int) (rs : List RowD) : ByteArray := rs.foldl (fun t r => t ++ lineT r) (headT n)
def chText (n : Int) (rs : List RowD) : ByteArray := if chartB n rs then chTo n rs else ⟨#[]⟩
theorem chTo_snoc {n : Int} {rs : List RowD} {k : Nat} {r : RowD} (h : rs[k]? = some r) : chTo n (rs.take (k + 1)) = chTo n (rs.take k) ++ lineT r := by
  rw [take_snoc h]; simp [chTo]
theorem dirT_size (d : Int) : (dirT d).size = 1 := by unfold dirT; split <;> rfl
theorem lineT_size (r : RowD) : (lineT r).size ≤ 6 + r.s.length := by
  have h1 := dirT_size r.d
  have h2 := decT_size r.r.toNat
  have h3 := symT_size r.s
  have h4 : spT.size = 1 := rfl
  have h5 : nlT'.size = 1 := rfl
  unfold lineT
  simp only [ByteArray.size_append]
  omega
theorem chTo_size {n : Int} {rs : List RowD} (h : ∀ r ∈ rs, r.s.length ≤ 16) : (chTo n rs).size ≤ 9 + 22 * rs.length := by
  have key : ∀ (t : ByteArray) (ys : List RowD), (∀ r ∈ ys, r.s.length ≤ 16) → (ys.foldl (fun t r => t ++ lineT r) t).size ≤ t.size + 22 * ys.length := by
    intro t ys
    induction ys generalizing t with
    | nil => intro _; simp
    | cons y ys ih =>
      intro hy
      have h1 := ih (t ++ lineT y) (fun r hr => hy r (by simp [hr]))
      have h2 := lineT_size y
      have h3 := hy y (by simp)
      rw [ByteArray.size_append] at h1
      rw [List.foldl_cons, List.length_cons]
      omega
  have h1 := key (headT n) rs h
  have h2 := decT_size n.toNat
  have h3 : (headT n).size = 6 + (decT n.toNat).size + 1 := by
    unfold headT
    simp only [ByteArray.size_append]
    rfl
  unfold chTo
  omega

end Go.Proofs.YtcgbogofmdjddaaDoor

/- Texts of pieces, plain. -/
namespace Go.Proofs.YtcgbogofmdjddaaDoor
open Go Go.RowKit

def joinB (xs : List ByteArray) : ByteArray := ⟨(Lib.join (xs.map (·.data.toList)) [32]).toArray⟩
/-- What stands behind the parts so far, ahead of the next one. -/
def sepB (xs : List ByteArray) : ByteArray := if joinB xs = ⟨#[]⟩ then ⟨#[]⟩ else joinB xs ++ ⟨#[32]⟩
theorem ba_nil (a : ByteArray) : a ++ ⟨#[]⟩ = a := by
  apply ByteArray.ext
  simp
theorem ba_size (a : ByteArray) : a.size = a.data.toList.length := by rw [Array.length_toList]; rfl
theorem ba_isEmpty {t : ByteArray} (h : t = ⟨#[]⟩) : t.toList.isEmpty = true := by rw [h, ByteArray.toList_eq]; rfl
theorem ba_notEmpty {t : ByteArray} (h : t ≠ ⟨#[]⟩) : t.toList.isEmpty = false := by
  rw [ByteArray.toList_eq]
  cases hl : t.data.toList with
  | nil =>
    refine absurd (ByteArray.ext ?_) h
    exact Array.toList_inj.1 hl
  | cons => rfl
theorem joinB_size (xs : List ByteArray) : (joinB xs).size = (Lib.join (xs.map (·.data.toList)) [32]).length := by rw [ba_size]; rfl
theorem joinB_nil : joinB [] = ⟨#[]⟩ := rfl
theorem joinB_snoc (xs : List ByteArray) (x : ByteArray) (h : ∀ y ∈ xs, 0 < y.size) : joinB (xs ++ [x]) = sepB xs ++ x := by
  cases xs with
  | nil =>
    rw [sepB, if_pos joinB_nil, List.nil_append]
    apply ByteArray.ext
    simp [joinB, Lib.join_one]
  | cons y ys =>
    have hne : joinB (y :: ys) ≠ ⟨#[]⟩ := by
      intro e
      have h1 := joinB_size (y :: ys)
      have h2 := h y (by simp)
      rw [e, List.map_cons, Lib.join_cons, List.length_append, ← ba_size] at h1
      have h3 : (⟨#[]⟩ : ByteArray).size = 0 := rfl
      omega
    rw [sepB, if_neg hne]
    apply ByteArray.ext
    simp [joinB, Lib.join_cons, Lib.joinTail, List.append_assoc]
def tmT (none t : Int) : ByteArray := if t = none then ⟨#[]⟩ else decT t.toNat
theorem tmT_size (a b : Int) : (tmT a b).size ≤ 2 := by
  unfold tmT
  split
  · show 0 ≤ 2; omega
  · exact (decT_size _).2
def oneT (p : PieceD) : ByteArray := ⟨#[symB p.kind.toNat]⟩ ++ tmT 1 p.times
def grpT (p : PieceD) (i : ByteArray) : ByteArray := (((⟨#[40]⟩ : ByteArray) ++ i) ++ ⟨#[41, 42]⟩) ++ tmT 0 p.times
theorem oneT_size (p : PieceD) : 1 ≤ (oneT p).size ∧ (oneT p).size ≤ 3 := by
  have h1 := tmT_size 1 p.times
  have h2 : (⟨#[symB p.kind.toNat]⟩ : ByteArray).size = 1 := rfl
  unfold oneT
  rw [ByteArray.size_append]
  omega
theorem grpT_size (p : PieceD) (i : ByteArray) : 1 ≤ (grpT p i).size ∧ (grpT p i).size ≤ i.size + 5 := by
  have h1 := tmT_size 0 p.times
  have h2 : (⟨#[40]⟩ : ByteArray).size = 1 := rfl
  have h3 : (⟨#[41, 42]⟩ : ByteArray).size = 2 := rfl
  unfold grpT
  simp only [ByteArray.size_append]
  omega
def partsP : List PieceD → List ByteArray
  | [] => []
  | p :: r =>
    if p.kind = 12 then grpT p (joinB (partsP (r.take p.len.toNat))) :: partsP (r.drop p.len.toNat)
    else oneT p :: partsP r
termination_by l => l.length
decreasing_by all_goals (simp; try omega)
def txtP (ps : List PieceD) : ByteArray := joinB (partsP ps)
theorem partsP_nil : partsP [] = [] := by rw [partsP]
theorem partsP_group {p : PieceD} {r : List PieceD} (h : p.kind = 12) : partsP (p :: r) = grpT p (txtP (r.take p.len.toNat)) :: partsP (r.drop p.len.toNat) := by rw [partsP, if_pos h]; rfl
theorem partsP_plain {p : PieceD} {r : List PieceD} (h : p.kind ≠ 12) : partsP (p :: r) = oneT p :: partsP r := by rw [partsP, if_neg h]
theorem parts_at_plain {k : Nat} {ps : List PieceD} {p : PieceD} (hp : ps[k]? = some p) (hk : p.kind ≠ 12) : partsP (ps.drop k) = oneT p :: partsP (ps.drop (k + 1)) := by
  rw [drop_cons hp, partsP_plain hk]
theorem parts_at_group {k n : Nat} {ps : List PieceD} {p : PieceD} (hp : ps[k]? = some p) (hk : p.kind = 12) (hn : p.len = (n : Int)) : partsP (ps.drop k) = grpT p (txtP (segP ps (k + 1) (k + 1 + n))) :: partsP (ps.drop (k + 1 + n)) := by
  rw [drop_cons hp, partsP_group hk, hn, Int.toNat_natCast, List.drop_drop]
  have e : segP ps (k + 1) (k + 1 + n) = (ps.drop (k + 1)).take n := by rw [segP, Nat.add_sub_cancel_left]
  rw [e]
theorem partsP_pos (n : Nat) : ∀ l : List PieceD, l.length ≤ n → ∀ y ∈ partsP l, 0 < y.size := by
  induction n with
  | zero => intro l hl; have : l = [] := by cases l <;> simp_all
            subst this; rw [partsP_nil]; intro y hy; cases hy
  | succ n ih =>
    intro l hl
    cases l with
    | nil => rw [partsP_nil]; intro y hy; cases hy
    | cons p r =>
      simp only [List.length_cons] at hl
      intro y hy
      by_cases hk : p.kind = 12
      · rw [partsP_group hk] at hy
        rcases List.mem_cons.1 hy with rfl | hy
        · exact (grpT_size _ _).1
        · exact ih _ (by simp; omega) y hy
      · rw [partsP_plain hk] at hy
        rcases List.mem_cons.1 hy with rfl | hy
        · exact (oneT_size _).1
        · exact ih _ (by omega) y hy
theorem join_le (xs : List ByteArray) : (joinB xs).size ≤ (xs.map ByteArray.size).sum + xs.length := by
  rw [joinB_size]
  cases xs with
  | nil => simp [Lib.join_nil]
  | cons y ys =>
    have e : Lib.lens ((y :: ys).map (·.data.toList)) = ((y :: ys).map ByteArray.size).sum := by
      unfold Lib.lens
      rw [List.map_map]
      exact congrArg List.sum (List.map_congr_left fun z _ => (ba_size z).symm)
    rw [← e, List.map_cons, Lib.join_length, List.length_map, List.length_cons]
    simp only [List.length_cons, List.length_nil]
    omega
theorem parts_small (n : Nat) : ∀ (d : Nat) (l : List PieceD), l.length ≤ n → Good d l → ((partsP l).map ByteArray.size).sum + (partsP l).length ≤ 8 * l.length := by
  induction n with
  | zero => intro d l hl _; have : l = [] := by cases l <;> simp_all
            subst this; rw [partsP_nil]; simp
  | succ n ih =>
    intro d l hl h
    cases l with
    | nil => rw [partsP_nil]; simp
    | cons p r =>
      simp only [List.length_cons] at hl
      by_cases hk : p.kind = 12
      · obtain ⟨_, h1, h2, _, _, _, h4, h5⟩ := good_group h hk
        have i1 := ih (d + 1) (r.take p.len.toNat) (by simp; omega) h4
        have i2 := ih d (r.drop p.len.toNat) (by simp; omega) h5
        have l1 : (r.take p.len.toNat).length + (r.drop p.len.toNat).length = r.length := by rw [← List.length_append, List.take_append_drop]
        have j1 := join_le (partsP (r.take p.len.toNat))
        have g1 := (grpT_size p (txtP (r.take p.len.toNat))).2
        have g2 : (txtP (r.take p.len.toNat)).size = (joinB (partsP (r.take p.len.toNat))).size := rfl
        rw [partsP_group hk, List.map_cons, List.sum_cons, List.length_cons, List.length_cons]
        omega
      · have i1 := ih d r (by omega) (good_plain h hk).2
        have g1 := (oneT_size p).2
        rw [partsP_plain hk, List.map_cons, List.sum_cons, List.length_cons, List.length_cons]
        omega
theorem txt_small {d : Nat} {l : List PieceD} (h : Good d l) : (txtP l).size ≤ 8 * l.length ∧ (partsP l).length ≤ 8 * l.length := by
  have h1 := parts_small l.length d l (Nat.le_refl _) h
  have h2 := join_le (partsP l)
  have h3 : (txtP l).size = (joinB (partsP l)).size := rfl
  omega
/-- The parts until now, and those to come. -/
theorem parts_size {xs ys zs : List ByteArray} (h : zs = xs ++ ys) : (joinB xs).size ≤ (zs.map ByteArray.size).sum + zs.length := by
  have h1 := join_le xs
  rw [h, List.map_append, List.sum_append, List.length_append]
  omega
theorem txt_sizes {d : Nat} {ps : List PieceD} (h : Good d ps) (hl : ps.length ≤ 100) {xs ys : List ByteArray} (he : partsP ps = xs ++ ys) : (joinB xs).size ≤ 800 ∧ (sepB xs).size ≤ 801 := by
  have h1 := parts_small ps.length d ps (Nat.le_refl _) h
  have h2 := parts_size he
  have h3 : (joinB xs).size ≤ 800 := by omega
  refine ⟨h3, ?_⟩
  unfold sepB
  split
  · show 0 ≤ 801; omega
  · rw [ByteArray.size_append]
    have : (⟨#[32]⟩ : ByteArray).size = 1 := rfl
    omega
theorem sep_next {ps : List PieceD} {xs ys : List ByteArray} (he : partsP ps = xs ++ ys) (x : ByteArray) : joinB (xs ++ [x]) = sepB xs ++ x :=
  joinB_snoc xs x fun y hy => partsP_pos ps.length ps (Nat.le_refl _) y (by rw [he]; exact List.mem_append_left _ hy)
/-- The text of pieces: none where they are not valid. -/
def piecesT (ps : List PieceD) : ByteArray := if piecesB ps then txtP ps else ⟨#[]⟩

end Go.Proofs.YtcgbogofmdjddaaDoor

/- Contracts of the library, laid. -/
namespace Go.Proofs.YtcgbogofmdjddaaDoor
open Go Go.RowKit

def shelf_lays156_ren : Go.Shelf.Ren := ⟨fun | 156 => 91 | 165 => 113 | 166 => 114 | 169 => 115 | 240 => 126 | 241 => 127 | 276 => 132 | 277 => 133 | n => n, fun | 31 => 58 | 9 => 9 | 3 => 3 | 4 => 4 | 0 => 0 | 20 => 20 | 72 => 118 | 76 => 121 | 70 => 116 | 37 => 40 | 75 => 120 | 127 => 131 | 164 => 135 | 5 => 5 | 80 => 115 | n => n, fun | n => n⟩
theorem shelf_lays156 : Go.Proofs.Lays.n156 Tryd.prog shelf_lays156_ren := {
  mixed := by kernel_rfl
  f156 := Tryd.func91.trans (congrArg some (by kernel_rfl))
  f165 := Tryd.func113.trans (congrArg some (by kernel_rfl))
  f166 := Tryd.func114.trans (congrArg some (by kernel_rfl))
  f169 := Tryd.func115.trans (congrArg some (by kernel_rfl))
  f240 := Tryd.func126.trans (congrArg some (by kernel_rfl))
  f241 := Tryd.func127.trans (congrArg some (by kernel_rfl))
  f276 := Tryd.func132.trans (congrArg some (by kernel_rfl))
  f277 := Tryd.func133.trans (congrArg some (by kernel_rfl))
  t0 := Tryd.underlying0
  a0 := Tryd.isAgg0
  z0 := Tryd.sizeOf0
  v0 := Tryd.zeroValue0
  t3 := Tryd.underlying3
  a3 := Tryd.isAgg3
  z3 := Tryd.sizeOf3
  v3 := Tryd.zeroValue3
  t4 := Tryd.underlying4
  a4 := Tryd.isAgg4
  z4 := Tryd.sizeOf4
  v4 := Tryd.zeroValue4
  t9 := Tryd.underlying9
  a9 := Tryd.isAgg9
  z9 := Tryd.sizeOf9
  v9 := Tryd.zeroValue9
  t20 := Tryd.underlying20
  a20 := Tryd.isAgg20
  z20 := Tryd.sizeOf20
  v20 := Tryd.zeroValue20
  t31 := Tryd.underlying58
  a31 := Tryd.isAgg58
  z31 := Tryd.sizeOf58
  v31 := Tryd.zeroValue58
  t37 := Tryd.underlying40
  a37 := Tryd.isAgg40
  z37 := Tryd.sizeOf40
  v37 := Tryd.zeroValue40
  t70 := Tryd.underlying116
  a70 := Tryd.isAgg116
  z70 := Tryd.sizeOf116
  v70 := Tryd.zeroValue116
  t72 := Tryd.underlying118
  a72 := Tryd.isAgg118
  z72 := Tryd.sizeOf118
  v72 := Tryd.zeroValue118
  t75 := Tryd.underlying120
  a75 := Tryd.isAgg120
  z75 := Tryd.sizeOf120
  v75 := Tryd.zeroValue120
  t76 := Tryd.underlying121
  a76 := Tryd.isAgg121
  z76 := Tryd.sizeOf121
  v76 := Tryd.zeroValue121
  t127 := Tryd.underlying131
  a127 := Tryd.isAgg131
  z127 := Tryd.sizeOf131
  v127 := Tryd.zeroValue131
  t164 := Tryd.underlying135
  a164 := Tryd.isAgg135
  z164 := Tryd.sizeOf135
  v164 := Tryd.zeroValue135 }
theorem shelf_Builder_Extra_156 : Builder.Extra Tryd.prog shelf_lays156_ren := {
  sizeBuilder := by kernel_rfl
  liesBuilder := by kernel_rfl
  t5 := Tryd.underlying5
  a5 := Tryd.isAgg5
  z5 := Tryd.sizeOf5
  v5 := Tryd.zeroValue5
  infoByte := by kernel_rfl
  cellsByte := by kernel_rfl
  sizeByte := by kernel_rfl
  neB5 := by decide }
theorem shelf_strings_Join_none (a : Option Addr) (c : Nat) (sep : ByteArray) (w : World) :
    Calls Tryd.prog 91 #[.slice a 0 c, .string sep] w fun e w' => e = .returned (.string ⟨#[]⟩) ∧ w' = w := Any.strings_Join_none shelf_lays156 shelf_Builder_Extra_156 a c sep w
theorem shelf_strings_Join (bk o c : Nat) (xs : List ByteArray) (sep : ByteArray) (w : World) (hcells : ∀ (j : Nat) x, xs[j]? = some x → w.cell? ⟨bk, o + j, none⟩ = some (.string x)) (hbk : bk < w.heap.size) (hN : xs.length ≤ 140737488355328) (hcap : xs.length ≤ c) (hlen : (Lib.join (xs.map (·.data.toList)) sep.data.toList).length ≤ 140737488355328) :
    Calls Tryd.prog 91 #[.slice (some ⟨bk, o, none⟩) xs.length c, .string sep] w fun e w' => e = .returned (.string ⟨(Lib.join (xs.map (·.data.toList)) sep.data.toList).toArray⟩) ∧ Below w.heap.size w w' := Any.strings_Join shelf_lays156 shelf_Builder_Extra_156 bk o c xs sep w hcells hbk hN hcap hlen

end Go.Proofs.YtcgbogofmdjddaaDoor

/- ExpandPieces: the stitches of pieces, the given side. -/
namespace Go.Proofs.YtcgbogofmdjddaaDoor
open Go Go.RowKit

theorem wpList_appendC_at {P : Program} (w : World) {ops : Array Oper} {rest : List Oper} {o : Oper} {a : Act} {Q : Exit → Act → World → Prop} (hgd : o.guard = none) (s x : Operand) (t : TypeId)
    (hop : o.op = .call { callee := .builtin .append, args := #[s, x], argTypes := #[t, t] })
    (e : TypeId) (i : TypeInfo) (z : Value) (size bytes : Nat) (ht : P.underlying t = some (.slice e)) (hi : P.info? e = some i) (hz : i.zero = some z)
    (hsize : i.size = size) (hby : i.bytes = bytes) (hzs : z.cells.size = size) (hsz : 0 < size)
    {lo hi' n c : Nat} {A : Option Addr} {cs : List Value} (hs : a.eval s = .slice A n c) (hown : OwnC w lo hi' e size A n c cs) (hlo : lo ≤ w.heap.size)
    (A2 : Option Addr) (m c2 : Nat) (news : List Value) (hx : a.eval x = .slice A2 m c2) (hl : news.length = m * size)
    (hnews : ∀ j u, news[j]? = some u → ∃ b off, A2 = some ⟨b, off, none⟩ ∧ w.cell? ⟨b, off + j, none⟩ = some u) (h1 : ∀ u ∈ news, u.oneCell' = true)
    (h63 : n + m ≤ maxLen) (hbytes : (n + m) * bytes ≤ 140737488355328)
    (h : ∀ A' c' w', OwnC w' lo w'.heap.size e size A' (n + m) c' (cs ++ news) → w.grownBy w' (Value.slice A n c).ownBlock → Below lo w w' → ((Value.slice A' (n + m) c').ownBlock = (Value.slice A n c).ownBlock ∨ (Value.slice A' (n + m) c').ownBlock = some w.heap.size) → wpList P ops Q rest (a.put o.dst (.slice A' (n + m) c')) w') : wpList P ops Q (o :: rest) a w :=
  wpList_plain hgd fun _ hK => wp_appendC_at w s x t hop e i z size bytes ht hi hz hsize hby hzs hsz hs hown hlo A2 m c2 news hx hl hnews h1 h63 hbytes fun A' c' w' h2 h3 h4 h5 => hK _ _ (h A' c' w' h2 h3 h4 h5)
/-- The two slices do not lie in one block. -/
def Apart (A B : Option Addr) : Prop := ∀ a b, A = some a → B = some b → a.block ≠ b.block
theorem Apart.of {w : World} {lo hi lo' hi' : Nat} {A B : Option Addr} {n c m d : Nat} {xs ys : List Value} (h : OwnC w lo hi 2 1 A n c xs) (h' : OwnC w lo' hi' 2 1 B m d ys) (hh : hi ≤ lo') : Apart A B := by
  intro a b ha hb e
  have h1 := h.lt a ha
  rcases h'.form with ⟨hB, _⟩ | ⟨q, _, hB, h2, _⟩
  · rw [hB] at hb; cases hb
  · rw [hB] at hb
    injection hb with hb
    subst hb
    have : lo' ≤ q := h2
    have e' : a.block = q := e
    omega
theorem Apart.kept {w w' : World} {lo hi : Nat} {A B : Option Addr} {n c m d : Nat} {ys : List Value} (ha : Apart A B) (h : OwnC w lo hi 2 1 B m d ys) (hhi : hi ≤ w.heap.size) (hg : w.grownBy w' (Value.slice A n c).ownBlock) : OwnC w' lo hi 2 1 B m d ys := by
  refine h.keep1 fun q hq => hg.block q ?_ ?_
  · have := h.lt _ hq; exact Nat.lt_of_lt_of_le this hhi
  · intro e
    cases A with
    | none => cases e
    | some a =>
      injection e with e
      exact ha a ⟨q, 0, none⟩ rfl hq e.symm
theorem Apart.next {w : World} {lo hi : Nat} {A A' B : Option Addr} {n c n' c' m d : Nat} {ys : List Value} (ha : Apart A B) (h : OwnC w lo hi 2 1 B m d ys) (hhi : hi ≤ w.heap.size) (hat : (Value.slice A' n' c').ownBlock = (Value.slice A n c).ownBlock ∨ (Value.slice A' n' c').ownBlock = some w.heap.size) : Apart A' B := by
  intro a b hA hB e
  subst hA
  have hb := h.lt b hB
  rcases hat with hat | hat
  · cases A with
    | none => cases hat
    | some a0 =>
      injection hat with hat
      exact ha a0 b rfl hB (by rw [← hat]; exact e)
  · injection hat with hat
    omega

set_option maxHeartbeats 4000000 in
set_option maxRecDepth 10000 in
theorem spec_l16Expand (o : Int) (ho : 0 ≤ o ∧ o ≤ 16) (m : Nat) : ∀ (ps : List PieceD) (A : Option Addr) (c d : Nat) (w : World), ps.length ≤ m → ps.length ≤ 100 → ps.length ≤ c → c ≤ 9223372036854775807 → Pieces w A ps → Good d ps →
    Calls Tryd.prog 104 #[.slice A ps.length c, .int .i64 o] w fun e w' => ∃ A' c', e = .returned (.slice A' (expP o ps).length c') ∧ OwnI w' w.heap.size w'.heap.size A' c' (expP o ps) ∧ Below w.heap.size w w' := by
  obtain ⟨ho0, ho16⟩ := ho
  obtain ⟨iI, hi0, hu0, hu1, hu2⟩ := info_parts info_int64
  induction m using Nat.strongRecOn with
  | ind m ih =>
  intro ps A c d w hm hl hc hcm h hg
  have IH := Lib.hid ih; clear ih
  have HSM : Hid ((expP o ps).length ≤ 30000000) := Lib.hid (by
    have h1 := expP_small ps.length o ho16 d ps (Nat.le_refl _) hg
    have h2 := Nat.mul_le_mul hl (roomOf_le d)
    omega)
  have o1 := (OwnC.lit (w := w) (lo := w.heap.size) (n := 0) 2 1 #[] (Nat.le_refl _) (Nat.zero_le _) rfl).mono (Nat.le_refl _) (show w.heap.size + 1 ≤ (w.alloc (.cells #[] 2)).heap.size by simp)
  have O1 := Lib.hid o1; clear o1
  have hb1 : Below w.heap.size w (w.alloc (.cells #[] 2)) := by (repeat (first | exact Below.refl _ _ | assumption | apply Below.drew | apply below_drewN | (refine Below.alloc ?_ (by first | omega | (simp; done) | (simp; omega)) _) | (refine Below.setCell ?_ (by first | omega | (simp; done) | (simp; omega)) _)))
  go_enter Tryd.func104, Tryd.ntmps104
  go_wp2_with (fail)
  go_loopw [5, 6] (fun ov iv wr => ∃ (k : Nat) (A' : Option Addr) (c' : Nat) (out : List Int), k ≤ ps.length ∧ iv = .int .i64 k ∧ ov = .slice A' out.length c' ∧ OwnI wr w.heap.size wr.heap.size A' c' out ∧ Hid (expP o ps = out ++ expP o (ps.drop k)) ∧ Hid (Good d (ps.drop k)) ∧ Below w.heap.size w wr) (fun _ iv _ => ps.length - (intOf iv).toNat)
  case atStart => exact ⟨0, some ⟨w.heap.size, 0, none⟩, 0, [], Nat.zero_le _, rfl, rfl, O1.out, Lib.hid rfl, Lib.hid hg, hb1⟩
  case round =>
    clear O1 hb1
    obtain ⟨k, A', c', out, hk, rfl, rfl, ho, HS, HG, hb⟩ := hrel
    have hz := hb.size
    by_cases hlt : k < ps.length
    · obtain ⟨b1, off, p, rfl, hp, p0, p1, p2⟩ := (h.below hb) k hlt
      have HP := Lib.hid hp; clear hp
      have j1 : (0 : Int) ≤ (k : Int) := by omega
      have j2 : (k : Int) < (ps.length : Int) := by omega
      by_cases hk12 : p.kind = 12
      · obtain ⟨n, hnl, hn1, hn2, _, _, ht0, ht16, hg2, hg3, _, _⟩ := good_at_group HG.out HP.out hk12
        have HXG : Hid (expP o (ps.drop k) = rep (if p.times = 0 then o else p.times) (expP o (segP ps (k + 1) (k + 1 + n))) ++ expP o (ps.drop (k + 1 + n))) := Lib.hid (exp_at_group HP.out hk12 hnl o)
        have HG3 := Lib.hid hg3; clear hg3
        rw [hnl] at p2
        have i1 : (k : Int) + 1 ≤ (k : Int) + 1 + (n : Int) := by omega
        have i2 : (k : Int) + 1 + (n : Int) ≤ (c : Int) := by omega
        have w1 : IntKind.i64.wrap ((k : Int) + 1) = (k : Int) + 1 := IntWalk.i64_in _ (by omega)
        have w2 : IntKind.i64.wrap ((k : Int) + 1 + (n : Int)) = (k : Int) + 1 + (n : Int) := IntWalk.i64_in _ (by omega)
        have w3 : ((k : Int) + 1).toNat = k + 1 := by omega
        have w4 : ((k : Int) + 1 + (n : Int)).toNat = k + 1 + n := by omega
        have w5 : (0 : Int) ≤ (k : Int) + 1 := by omega
        have w6 : (0 : Int) ≤ (k : Int) + 1 + (n : Int) := by omega
        have w7 : (k : Int) + 1 ≤ max ((k : Int) + 1 + (n : Int)) 0 := by omega
        have w8 : ¬ c = k + 1 := by omega
        have w9 : k + 1 + n - (k + 1) = n := by omega
        have w10 : IntKind.i64.wrap ((k : Int) + (n : Int)) = (k : Int) + (n : Int) := IntWalk.i64_in _ (by omega)
        have hsl : (segP ps (k + 1) (k + 1 + n)).length = n := by rw [segP_length hn2]; omega
        have HPL : Hid ((expP o (segP ps (k + 1) (k + 1 + n))).length ≤ 30000000) := Lib.hid (by
          have h1 := expP_small n o ho16 (d + 1) _ (by rw [hsl]; exact Nat.le_refl _) hg2
          have h2 := Nat.mul_le_mul (show (segP ps (k + 1) (k + 1 + n)).length ≤ 100 by omega) (roomOf_le (d + 1))
          omega)
        have HIC : Hid (∀ (W : World), Below w.heap.size w W → Calls Tryd.prog 104 #[.slice (some ⟨b1, off + (k + 1) * 3, none⟩) n (c - (k + 1)), .int .i64 o] W fun e w' => ∃ A' c', e = .returned (.slice A' (expP o (segP ps (k + 1) (k + 1 + n))).length c') ∧ OwnI w' W.heap.size w'.heap.size A' c' (expP o (segP ps (k + 1) (k + 1 + n))) ∧ Below W.heap.size W w') := Lib.hid (fun W hW => by
          have := IH.out n (by omega) (segP ps (k + 1) (k + 1 + n)) (some ⟨b1, off + (k + 1) * 3, none⟩) (c - (k + 1)) (d + 1) W (by rw [hsl]; exact Nat.le_refl _) (by rw [hsl]; omega) (by rw [hsl]; omega) (by omega) ((Pieces.seg h hn2).below hW) hg2
          rwa [hsl] at this)
        clear hsl hg2 hnl
        have hk' : (p.kind == 12) = true := by simp [hk12]
        clear hk12
        have hba : Below w.heap.size w ((wr.alloc (.cells #[.int .i64 p.kind, .int .i64 p.times, .int .i64 (n : Int)] 45)).alloc (.cells #[.int .i64 p.kind] 2)) := by (repeat (first | exact Below.refl _ _ | assumption | apply Below.drew | apply below_drewN | (refine Below.alloc ?_ (by first | omega | (simp; done) | (simp; omega)) _) | (refine Below.setCell ?_ (by first | omega | (simp; done) | (simp; omega)) _)))
        have kb := (Blk.new wr 45 #[.int .i64 p.kind, .int .i64 p.times, .int .i64 (n : Int)]).alloc (.cells #[.int .i64 p.kind] 2)
        have hoA := (ho.alloc (.cells #[.int .i64 p.kind, .int .i64 p.times, .int .i64 (n : Int)] 45)).alloc (.cells #[.int .i64 p.kind] 2)
        obtain ⟨u0, u1, u2⟩ := kb.c3
        go_wp2_with (fail)
        refine (HIC.out _ hba).mono ?_; rintro e w7 ⟨A7, c7, rfl, o7, b7⟩
        have hb7 : Below w.heap.size w w7 := hba.trans (b7.mono (by simp; omega))
        have kb7 := kb.below b7 (by simp; omega)
        have ho7 := OwnC.below hoA b7 (by simp; omega)
        have o7' : OwnI w7 wr.heap.size w7.heap.size A7 c7 (expP o (segP ps (k + 1) (k + 1 + n))) := OwnC.mono o7 (by simp; omega) (Nat.le_refl _)
        have hz7 : wr.heap.size ≤ w7.heap.size := by have := b7.size; simp at this; omega
        clear u0 u1 u2 kb hoA hba b7 ho o7 HIC
        obtain ⟨v0, v1, v2⟩ := kb7.c3
        have hpl := HPL.out
        generalize expP o (segP ps (k + 1) (k + 1 + n)) = part at o7' hpl HXG ⊢
        clear HPL
        by_cases ht : p.times = 0
        · have HX : Hid (expP o (ps.drop k) = rep o part ++ expP o (ps.drop (k + 1 + n))) := Lib.hid (by rw [HXG.out, if_pos ht])
          have ht' : (p.times == 0) = true := by simp [ht]
          obtain ⟨T, hT⟩ := Int.eq_ofNat_of_zero_le ho0
          have HT := Lib.hid hT
          clear HXG ht hT
          have hap := Apart.of ho7 o7' (Nat.le_refl _)
          have HOL : Hid (out.length + T * (part).length ≤ 30000000) := Lib.hid (by
            have h1 := HSM.out
            rw [HS.out, HX.out, List.length_append, List.length_append, rep_length, HT.out, Int.toNat_natCast] at h1
            omega)
          go_wp2_with (fail)
          go_loopw [5, 9] (fun ov sv ws => ∃ (q : Nat) (A5 : Option Addr) (c5 : Nat), q ≤ T ∧ sv = .int .i64 ((T : Int) - (q : Int)) ∧ ov = .slice A5 (out ++ rep (q : Int) (part)).length c5 ∧ OwnI ws w.heap.size ws.heap.size A5 c5 (out ++ rep (q : Int) (part)) ∧ OwnI ws wr.heap.size w7.heap.size A7 c7 (part) ∧ Apart A5 A7 ∧ w7.heap.size ≤ ws.heap.size ∧ Below w.heap.size w ws) (fun _ sv _ => (intOf sv).toNat)
          case atStart => exact ⟨0, A', c', Nat.zero_le _, by rw [HT.out]; simp, by simp [rep], by simpa [rep] using OwnC.mono ho7 (Nat.le_refl _) hz7, o7', hap, Nat.le_refl _, hb7⟩
          case round =>
            obtain ⟨q, A5, c5, hq, rfl, rfl, hoq, opq, hapq, hzq, hbq⟩ := hrel
            by_cases hqT : q < T
            · have d1 : decide ((0 : Int) < (T : Int) - (q : Int)) = true := decide_eq_true (by omega)
              have HR : Hid (rep ((q : Int) + 1) (part) = rep (q : Int) (part) ++ (part)) := Lib.hid (rep_snoc q (part))
              have hlen : (out ++ rep (q : Int) (part)).length + (part).length ≤ 30000000 := by
                have h1 := HOL.out
                have h2 := Nat.mul_le_mul_right (part).length (show q + 1 ≤ T from hqT)
                rw [Nat.add_mul, Nat.one_mul] at h2
                rw [List.length_append, rep_length, Int.toNat_natCast]
                omega
              have w12 : IntKind.i64.wrap ((T : Int) - (q : Int) - 1) = (T : Int) - (q : Int) - 1 := IntWalk.i64_in _ ⟨by omega, by have := HT.out; omega⟩
              have hap2 : (((out ++ rep (q : Int) (part)).map (Value.int .i64)) ++ ((part).map (Value.int .i64))) = ((out ++ rep ((q : Int) + 1) (part)).map (Value.int .i64)) := by rw [HR.out, ← List.map_append, List.append_assoc]
              have HA2 := Lib.hid hap2; clear hap2
              generalize hOQ : out ++ rep (q : Int) (part) = oq at hoq hlen HA2
              have HOQ := Lib.hid hOQ; clear hOQ
              go_wp2_with (at_builtin; refine wpList_appendC_at wr rfl (.tmp 51) (.tmp 52) _ rfl 2 iI _ 1 8 Tryd.underlying35 hi0 hu0 hu1 hu2 rfl (by decide) rfl hoq (by omega) A7 (part).length c7 ((part).map (Value.int .i64)) rfl (by simp) opq.news (ints_one _) (by unfold maxLen; omega) (by omega) ?_; intro A9 c9 w8 ho8 hg8 hb8 hat8)
              have hz8 := hg8.size
              refine ⟨⟨q + 1, A9, c9, by omega, by first | go_num | (push_cast; go_num), ?_, ?_, hapq.kept opq hzq hg8, hapq.next opq hzq hat8, by omega, hbq.trans hb8⟩, by first | (simp [intOf]; done) | (simp [intOf]; omega)⟩
              · push_cast; rw [HR.out, ← List.append_assoc, HOQ.out, List.length_append]
                all_goals rfl
              · show OwnC _ _ _ _ _ _ _ _ _
                rw [show (((q + 1 : Nat) : Int)) = (q : Int) + 1 by push_cast; rfl, ← HA2.out]
                rw [show (out ++ rep ((q : Int) + 1) (part)).length = oq.length + (part).length by rw [HR.out, ← List.append_assoc, HOQ.out, List.length_append]]
                exact ho8
            · obtain rfl : q = T := by omega
              have d1 : decide ((0 : Int) < (q : Int) - (q : Int)) = false := decide_eq_false (by omega)
              have HO : Hid (expP o ps = (out ++ rep (q : Int) (part)) ++ expP o (ps.drop (k + 1 + n))) := Lib.hid (by rw [HS.out, HX.out, HT.out, List.append_assoc])
              go_wp2_with (fail)
              refine ⟨⟨k + 1 + n, A5, c5, _, by omega, by go_num, rfl, hoq, HO, HG3, hbq⟩, by first | (simp [intOf]; done) | (simp [intOf]; omega)⟩
        · have HX : Hid (expP o (ps.drop k) = rep p.times part ++ expP o (ps.drop (k + 1 + n))) := Lib.hid (by rw [HXG.out, if_neg ht])
          have ht' : (p.times == 0) = false := by simp [ht]
          obtain ⟨T, hT⟩ := Int.eq_ofNat_of_zero_le ht0
          have HT := Lib.hid hT
          clear HXG ht hT
          have hap := Apart.of ho7 o7' (Nat.le_refl _)
          have HOL : Hid (out.length + T * (part).length ≤ 30000000) := Lib.hid (by
            have h1 := HSM.out
            rw [HS.out, HX.out, List.length_append, List.length_append, rep_length, HT.out, Int.toNat_natCast] at h1
            omega)
          go_wp2_with (fail)
          go_loopw [5, 9] (fun ov sv ws => ∃ (q : Nat) (A5 : Option Addr) (c5 : Nat), q ≤ T ∧ sv = .int .i64 ((T : Int) - (q : Int)) ∧ ov = .slice A5 (out ++ rep (q : Int) (part)).length c5 ∧ OwnI ws w.heap.size ws.heap.size A5 c5 (out ++ rep (q : Int) (part)) ∧ OwnI ws wr.heap.size w7.heap.size A7 c7 (part) ∧ Apart A5 A7 ∧ w7.heap.size ≤ ws.heap.size ∧ Below w.heap.size w ws) (fun _ sv _ => (intOf sv).toNat)
          case atStart => exact ⟨0, A', c', Nat.zero_le _, by rw [HT.out]; simp, by simp [rep], by simpa [rep] using OwnC.mono ho7 (Nat.le_refl _) hz7, o7', hap, Nat.le_refl _, hb7⟩
          case round =>
            obtain ⟨q, A5, c5, hq, rfl, rfl, hoq, opq, hapq, hzq, hbq⟩ := hrel
            by_cases hqT : q < T
            · have d1 : decide ((0 : Int) < (T : Int) - (q : Int)) = true := decide_eq_true (by omega)
              have HR : Hid (rep ((q : Int) + 1) (part) = rep (q : Int) (part) ++ (part)) := Lib.hid (rep_snoc q (part))
              have hlen : (out ++ rep (q : Int) (part)).length + (part).length ≤ 30000000 := by
                have h1 := HOL.out
                have h2 := Nat.mul_le_mul_right (part).length (show q + 1 ≤ T from hqT)
                rw [Nat.add_mul, Nat.one_mul] at h2
                rw [List.length_append, rep_length, Int.toNat_natCast]
                omega
              have w12 : IntKind.i64.wrap ((T : Int) - (q : Int) - 1) = (T : Int) - (q : Int) - 1 := IntWalk.i64_in _ ⟨by omega, by have := HT.out; omega⟩
              have hap2 : (((out ++ rep (q : Int) (part)).map (Value.int .i64)) ++ ((part).map (Value.int .i64))) = ((out ++ rep ((q : Int) + 1) (part)).map (Value.int .i64)) := by rw [HR.out, ← List.map_append, List.append_assoc]
              have HA2 := Lib.hid hap2; clear hap2
              generalize hOQ : out ++ rep (q : Int) (part) = oq at hoq hlen HA2
              have HOQ := Lib.hid hOQ; clear hOQ
              go_wp2_with (at_builtin; refine wpList_appendC_at wr rfl (.tmp 51) (.tmp 52) _ rfl 2 iI _ 1 8 Tryd.underlying35 hi0 hu0 hu1 hu2 rfl (by decide) rfl hoq (by omega) A7 (part).length c7 ((part).map (Value.int .i64)) rfl (by simp) opq.news (ints_one _) (by unfold maxLen; omega) (by omega) ?_; intro A9 c9 w8 ho8 hg8 hb8 hat8)
              have hz8 := hg8.size
              refine ⟨⟨q + 1, A9, c9, by omega, by first | go_num | (push_cast; go_num), ?_, ?_, hapq.kept opq hzq hg8, hapq.next opq hzq hat8, by omega, hbq.trans hb8⟩, by first | (simp [intOf]; done) | (simp [intOf]; omega)⟩
              · push_cast; rw [HR.out, ← List.append_assoc, HOQ.out, List.length_append]
                all_goals rfl
              · show OwnC _ _ _ _ _ _ _ _ _
                rw [show (((q + 1 : Nat) : Int)) = (q : Int) + 1 by push_cast; rfl, ← HA2.out]
                rw [show (out ++ rep ((q : Int) + 1) (part)).length = oq.length + (part).length by rw [HR.out, ← List.append_assoc, HOQ.out, List.length_append]]
                exact ho8
            · obtain rfl : q = T := by omega
              have d1 : decide ((0 : Int) < (q : Int) - (q : Int)) = false := decide_eq_false (by omega)
              have HO : Hid (expP o ps = (out ++ rep (q : Int) (part)) ++ expP o (ps.drop (k + 1 + n))) := Lib.hid (by rw [HS.out, HX.out, HT.out, List.append_assoc])
              go_wp2_with (fail)
              refine ⟨⟨k + 1 + n, A5, c5, _, by omega, by go_num, rfl, hoq, HO, HG3, hbq⟩, by first | (simp [intOf]; done) | (simp [intOf]; omega)⟩
      · obtain ⟨hpl0, hg2⟩ := good_at_plain HG.out HP.out hk12
        obtain ⟨t1, t2, hp0, _⟩ := times_of hpl0
        rw [hp0] at p2
        clear hp0
        have HG3 := Lib.hid hg2; clear hg2 hpl0
        have HX : Hid (expP o (ps.drop k) = rep p.times [p.kind] ++ expP o (ps.drop (k + 1))) := Lib.hid (exp_at_plain HP.out hk12 o)
        have hk' : (p.kind == 12) = false := by simp [hk12]
        clear hk12
        obtain ⟨T, hT⟩ := Int.eq_ofNat_of_zero_le (show 0 ≤ p.times by omega)
        have HT := Lib.hid hT
        clear hT
        obtain ⟨w7, hw7⟩ : ∃ w7, w7 = (wr.alloc (.cells #[.int .i64 p.kind, .int .i64 p.times, .int .i64 0] 45)).alloc (.cells #[.int .i64 p.kind] 2) := ⟨_, rfl⟩
        have hb7 : Below w.heap.size w w7 := by rw [hw7]; exact (hb.alloc hz _).alloc (by simp; omega) _
        have ho7 : OwnI w7 w.heap.size wr.heap.size A' c' out := by rw [hw7]; exact OwnC.alloc (OwnC.alloc ho _) _
        have o7' : OwnI w7 wr.heap.size w7.heap.size (some ⟨wr.heap.size + 1, 0, none⟩) 1 [p.kind] := by
          rw [hw7]
          have := (OwnC.lit (w := wr.alloc (.cells #[.int .i64 p.kind, .int .i64 p.times, .int .i64 0] 45)) (lo := wr.heap.size) (n := 1) 2 1 #[.int .i64 p.kind] (by simp) (by decide) rfl).mono (Nat.le_refl _) (show _ ≤ ((wr.alloc (.cells #[.int .i64 p.kind, .int .i64 p.times, .int .i64 0] 45)).alloc (.cells #[.int .i64 p.kind] 2)).heap.size by simp)
          rw [show (wr.alloc (.cells #[.int .i64 p.kind, .int .i64 p.times, .int .i64 0] 45)).heap.size = wr.heap.size + 1 by simp] at this
          exact this
        have hz7 : wr.heap.size ≤ w7.heap.size := by rw [hw7]; simp; omega
        have kb7 : Blk w7 wr.heap.size 45 #[.int .i64 p.kind, .int .i64 p.times, .int .i64 0] := by rw [hw7]; exact (Blk.new wr _ _).alloc _
        obtain ⟨v0, v1, v2⟩ := kb7.c3
        have hpl : ([p.kind] : List Int).length ≤ 30000000 := by simp
        obtain ⟨gL, hgL⟩ : ∃ gL, gL = wr.heap.size + 1 := ⟨_, rfl⟩
        rw [← hgL] at o7'
        go_upto_region 8 with fail
        rw [← hw7, ← hgL]
        clear hw7 ho hgL
        have hap := Apart.of ho7 o7' (Nat.le_refl _)
        have HOL : Hid (out.length + T * ([p.kind]).length ≤ 30000000) := Lib.hid (by
          have h1 := HSM.out
          rw [HS.out, HX.out, List.length_append, List.length_append, rep_length, HT.out, Int.toNat_natCast] at h1
          omega)
        go_wp2_with (fail)
        go_loopw [5, 9] (fun ov sv ws => ∃ (q : Nat) (A5 : Option Addr) (c5 : Nat), q ≤ T ∧ sv = .int .i64 ((T : Int) - (q : Int)) ∧ ov = .slice A5 (out ++ rep (q : Int) ([p.kind])).length c5 ∧ OwnI ws w.heap.size ws.heap.size A5 c5 (out ++ rep (q : Int) ([p.kind])) ∧ OwnI ws wr.heap.size w7.heap.size (some ⟨gL, 0, none⟩) 1 ([p.kind]) ∧ Apart A5 (some ⟨gL, 0, none⟩) ∧ w7.heap.size ≤ ws.heap.size ∧ Below w.heap.size w ws) (fun _ sv _ => (intOf sv).toNat)
        case atStart => exact ⟨0, A', c', Nat.zero_le _, by rw [HT.out]; simp, by simp [rep], by simpa [rep] using OwnC.mono ho7 (Nat.le_refl _) hz7, o7', hap, Nat.le_refl _, hb7⟩
        case round =>
          obtain ⟨q, A5, c5, hq, rfl, rfl, hoq, opq, hapq, hzq, hbq⟩ := hrel
          by_cases hqT : q < T
          · have d1 : decide ((0 : Int) < (T : Int) - (q : Int)) = true := decide_eq_true (by omega)
            have HR : Hid (rep ((q : Int) + 1) ([p.kind]) = rep (q : Int) ([p.kind]) ++ ([p.kind])) := Lib.hid (rep_snoc q ([p.kind]))
            have hlen : (out ++ rep (q : Int) ([p.kind])).length + ([p.kind]).length ≤ 30000000 := by
              have h1 := HOL.out
              have h2 := Nat.mul_le_mul_right ([p.kind]).length (show q + 1 ≤ T from hqT)
              rw [Nat.add_mul, Nat.one_mul] at h2
              rw [List.length_append, rep_length, Int.toNat_natCast]
              omega
            have w12 : IntKind.i64.wrap ((T : Int) - (q : Int) - 1) = (T : Int) - (q : Int) - 1 := IntWalk.i64_in _ ⟨by omega, by have := HT.out; omega⟩
            have hap2 : (((out ++ rep (q : Int) ([p.kind])).map (Value.int .i64)) ++ (([p.kind]).map (Value.int .i64))) = ((out ++ rep ((q : Int) + 1) ([p.kind])).map (Value.int .i64)) := by rw [HR.out, ← List.map_append, List.append_assoc]
            have HA2 := Lib.hid hap2; clear hap2
            generalize hOQ : out ++ rep (q : Int) ([p.kind]) = oq at hoq hlen HA2
            have HOQ := Lib.hid hOQ; clear hOQ
            go_wp2_with (at_builtin; refine wpList_appendC_at wr rfl (.tmp 51) (.tmp 52) _ rfl 2 iI _ 1 8 Tryd.underlying35 hi0 hu0 hu1 hu2 rfl (by decide) rfl hoq (by omega) (some ⟨gL, 0, none⟩) ([p.kind]).length 1 (([p.kind]).map (Value.int .i64)) rfl (by simp) opq.news (ints_one _) (by unfold maxLen; omega) (by omega) ?_; intro A9 c9 w8 ho8 hg8 hb8 hat8)
            have hz8 := hg8.size
            refine ⟨⟨q + 1, A9, c9, by omega, by first | go_num | (push_cast; go_num), ?_, ?_, hapq.kept opq hzq hg8, hapq.next opq hzq hat8, by omega, hbq.trans hb8⟩, by first | (simp [intOf]; done) | (simp [intOf]; omega)⟩
            · push_cast; rw [HR.out, ← List.append_assoc, HOQ.out, List.length_append]
              all_goals rfl
            · show OwnC _ _ _ _ _ _ _ _ _
              rw [show (((q + 1 : Nat) : Int)) = (q : Int) + 1 by push_cast; rfl, ← HA2.out]
              rw [show (out ++ rep ((q : Int) + 1) ([p.kind])).length = oq.length + ([p.kind]).length by rw [HR.out, ← List.append_assoc, HOQ.out, List.length_append]]
              exact ho8
          · obtain rfl : q = T := by omega
            have d1 : decide ((0 : Int) < (q : Int) - (q : Int)) = false := decide_eq_false (by omega)
            have HO : Hid (expP o ps = (out ++ rep (q : Int) ([p.kind])) ++ expP o (ps.drop (k + 1))) := Lib.hid (by rw [HS.out, HX.out, HT.out, List.append_assoc])
            go_wp2_with (fail)
            refine ⟨⟨k + 1, A5, c5, _, by omega, by go_num, rfl, hoq, HO, HG3, hbq⟩, by first | (simp [intOf]; done) | (simp [intOf]; omega)⟩
    · obtain rfl : k = ps.length := by omega
      have he := HS.out
      rw [drop_all (Nat.le_refl _), expP_nil, List.append_nil] at he
      have HE := Lib.hid he; clear he
      go_wp2_with (fail)
      go_ret
      refine ⟨A', c', by rw [HE.out]; rfl, ?_, hb⟩
      rw [HE.out]
      exact ho

end Go.Proofs.YtcgbogofmdjddaaDoor
