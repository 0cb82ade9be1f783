/- ReadStitches. -/
import Derived.Test.YtdnchjchgejkeaaSB
import Derived.Lib.Strings
import Derived.Lib.Walk
import Derived.Lib.Bytealg
namespace Go.Proofs.Ytdnchjchgejkeaa
open Go.RowKit

def symBytes : List UInt8 := [107, 112, 111, 100, 101, 116, 115, 120, 121, 88, 89]
def symB (k : Nat) : UInt8 := symBytes[k - 1]?.getD 0
def kindB (b : UInt8) : Int := if Lib.indexByte (32 :: symBytes) b < 0 then 0 else Lib.indexByte (32 :: symBytes) b
def kinds (s : ByteArray) : List Int := s.data.toList.map kindB
def readOk (s : ByteArray) : Bool := decide (s.size ≤ 16) && (kinds s).all isStitchB
def readP (s : ByteArray) : List Int := if readOk s then kinds s else []
theorem cases11 {k : Nat} (h1 : 1 ≤ k) (h2 : k ≤ 11) : k = 1 ∨ k = 2 ∨ k = 3 ∨ k = 4 ∨ k = 5 ∨ k = 6 ∨ k = 7 ∨ k = 8 ∨ k = 9 ∨ k = 10 ∨ k = 11 := by omega
theorem kindB_found {k : Nat} {b : UInt8} (h1 : 1 ≤ k) (h2 : k ≤ 11) (h : symB k = b) : kindB b = k := by
  subst h
  rcases cases11 h1 h2 with rfl | rfl | rfl | rfl | rfl | rfl | rfl | rfl | rfl | rfl | rfl <;> decide
theorem kindB_none {b : UInt8} (h : ∀ j, 1 ≤ j → j < 12 → symB j ≠ b) : kindB b = 0 := by
  have e : ∀ j, 1 ≤ j → j < 12 → (symB j == b) = false := fun j h1 h2 => by simpa using h j h1 h2
  have e1 : ((107 : UInt8) == b) = false := e 1 (by omega) (by omega)
  have e2 : ((112 : UInt8) == b) = false := e 2 (by omega) (by omega)
  have e3 : ((111 : UInt8) == b) = false := e 3 (by omega) (by omega)
  have e4 : ((100 : UInt8) == b) = false := e 4 (by omega) (by omega)
  have e5 : ((101 : UInt8) == b) = false := e 5 (by omega) (by omega)
  have e6 : ((116 : UInt8) == b) = false := e 6 (by omega) (by omega)
  have e7 : ((115 : UInt8) == b) = false := e 7 (by omega) (by omega)
  have e8 : ((120 : UInt8) == b) = false := e 8 (by omega) (by omega)
  have e9 : ((121 : UInt8) == b) = false := e 9 (by omega) (by omega)
  have e10 : ((88 : UInt8) == b) = false := e 10 (by omega) (by omega)
  have e11 : ((89 : UInt8) == b) = false := e 11 (by omega) (by omega)
  have hi : Lib.indexByte symBytes b = -1 := by
    unfold symBytes
    simp only [Lib.indexByte, e1, e2, e3, e4, e5, e6, e7, e8, e9, e10, e11, Bool.false_eq_true, if_false]
    rfl
  unfold kindB
  rw [Lib.indexByte, hi]
  split
  · rfl
  · split <;> simp_all
theorem kindB_range (b : UInt8) : 0 ≤ kindB b ∧ kindB b ≤ 11 := by
  by_cases h : ∀ j, 1 ≤ j → j < 12 → symB j ≠ b
  · rw [kindB_none h]; omega
  · have : ∃ j, 1 ≤ j ∧ j < 12 ∧ symB j = b := by
      apply Classical.byContradiction
      intro hn
      exact h fun j h1 h2 h3 => hn ⟨j, h1, h2, h3⟩
    obtain ⟨j, h1, h2, h3⟩ := this
    rw [kindB_found h1 (by omega) h3]
    omega
theorem kindB_stitch (b : UInt8) : isStitchB (kindB b) = !decide (kindB b = 0) := by
  have := kindB_range b
  unfold isStitchB inR
  apply Bool.eq_iff_iff.2
  simp
  omega
theorem kinds_length (s : ByteArray) : (kinds s).length = s.size := by simp [kinds]
theorem readP_length (s : ByteArray) : (readP s).length ≤ 16 := by
  unfold readP
  split
  · rename_i h
    unfold readOk at h
    simp only [Bool.and_eq_true, decide_eq_true_eq] at h
    rw [kinds_length]
    exact h.1
  · simp
theorem extract_one {s : ByteArray} {i : Nat} (h : i < s.size) : s.extract i (i + 1) = ⟨#[s.data[i]'h]⟩ := by
  obtain ⟨a⟩ := s
  have h' : i < a.size := h
  rw [show (ByteArray.mk a).extract i (i + 1) = ⟨a.extract i (i + 1)⟩ from by
    apply ByteArray.ext
    simp]
  congr 1
  apply Array.ext
  · simp; omega
  · intro j h1 h2
    simp at h2
    subst h2
    simp
theorem kinds_snoc {s : ByteArray} {i : Nat} (h : i < s.size) : (kinds s).take (i + 1) = (kinds s).take i ++ [kindB (s.data[i]'h)] := by
  apply take_snoc
  unfold kinds
  rw [List.getElem?_map]
  have : s.data.toList[i]? = some (s.data[i]'h) := by
    rw [Array.getElem?_toList]
    exact Array.getElem?_eq_getElem h
  rw [this]
  rfl

set_option maxHeartbeats 2000000 in
theorem spec_SymbolOf (k : Nat) (w : World) (h1 : 1 ≤ k) (h2 : k ≤ 11) : Calls Try.prog 156 #[.int .i64 k] w fun e w' => e = .returned (.string ⟨#[symB k]⟩) ∧ w = w' := by
  rcases cases11 h1 h2 with rfl | rfl | rfl | rfl | rfl | rfl | rfl | rfl | rfl | rfl | rfl
  all_goals
    go_enter Try.func156, Try.ntmps156
    go_wp2_with (first | (go_at_call 162; refine (spec_l14Kind _ _).mono ?_; rintro e _ ⟨rfl, rfl⟩) | go_in)
    go_ret
    exact ⟨rfl, rfl⟩

set_option maxHeartbeats 1000000 in
theorem spec_KindOf (b : UInt8) (w : World) : Calls Try.prog 110 #[.string ⟨#[b]⟩] w fun e w' => e = .returned (.int .i64 (kindB b)) ∧ w = w' := by
  go_enter Try.func110, Try.ntmps110
  go_wp2_with (fail)
  go_loop [3] (fun kv => ∃ k : Nat, 1 ≤ k ∧ k ≤ 12 ∧ kv = .int .i64 k ∧ Hid (∀ j, 1 ≤ j → j < k → symB j ≠ b)) (fun kv => 12 - (intOf kv).toNat)
  case atStart => exact ⟨1, by omega, by omega, rfl, Lib.hid (fun j h1 h2 => by omega)⟩
  case round =>
    obtain ⟨k, hk1, hk2, rfl, HA⟩ := hrel
    by_cases hlt : k ≤ 11
    · have h12 : ((k : Int) ≤ 11) := by omega
      by_cases hb : symB k = b
      · have HF : Hid (kindB b = k) := Lib.hid (kindB_found hk1 hlt hb)
        have hb1 : (symB k == b) = true := by simp [hb]
        clear hb
        go_wp2_with (fail)
        refine (spec_SymbolOf k _ hk1 hlt).mono ?_; rintro e _ ⟨rfl, rfl⟩
        go_wp2_with (fail)
        go_ret
        exact ⟨ret_int HF.out.symm, rfl⟩
      · have hb1 : (symB k == b) = false := by simpa using hb
        have HB := Lib.hid hb; clear hb
        go_wp2_with (fail)
        refine (spec_SymbolOf k _ hk1 hlt).mono ?_; rintro e _ ⟨rfl, rfl⟩
        go_wp2_with (fail)
        go_round
        case rel =>
          refine ⟨k + 1, by omega, by omega, by go_num, Lib.hid (fun j h1 h2 => ?_)⟩
          rcases Nat.lt_or_ge j k with h3 | h3
          · exact HA.out j h1 h3
          · obtain rfl : j = k := by omega
            exact HB.out
        case measure => simp [intOf]; omega
    · obtain rfl : k = 12 := by omega
      have HF : Hid (kindB b = 0) := Lib.hid (kindB_none HA.out)
      go_wp2_with (fail)
      go_ret
      exact ⟨ret_int HF.out.symm, rfl⟩

set_option maxHeartbeats 1000000 in
set_option maxRecDepth 100000 in
theorem stringslite_IndexByte (s : ByteArray) (c : Int) (w : World) :
    Calls Try.prog 182 #[.string s, .int .u8 c] w fun e w' => e = .returned (.int .i64 (Lib.indexByte s.data.toList c.toNat.toUInt8)) ∧ w' = w := by
  go_enter Try.func182, Try.ntmps182
  go_wp2
  rw [run_callFunc_extern Try.func190 (by kernel_rfl) (by kernel_rfl) (by kernel_rfl) (e := Extern.BytealgIndexByte.indexByte) (by kernel_rfl), Lib.run_indexByteString]
  simp only [Result.andThen]
  rw [Oper.upon_value]
  go_wp2
  go_ret
  exact ⟨rfl, rfl⟩
set_option maxHeartbeats 2000000 in
set_option maxRecDepth 100000 in
theorem stringslite_Index_one (s : ByteArray) (c : UInt8) (w : World) :
    Calls Try.prog 176 #[.string s, .string ⟨#[c]⟩] w fun e w' => e = .returned (.int .i64 (Lib.indexByte s.data.toList c)) ∧ w' = w := by
  go_enter Try.func176, Try.ntmps176
  go_wp2_with (go_at_call 182; refine (stringslite_IndexByte _ _ _).mono ?_; rintro e w' ⟨rfl, rfl⟩)
  · have h : ([c] == s.toList) = true := by assumption
    go_ret
    refine ⟨?_, rfl⟩
    have e : s.data.toList = [c] := by rw [← Lib.toList_data]; exact (beq_iff_eq.1 h).symm
    rw [e]
    simp [Lib.indexByte]
  · go_ret
    exact ⟨rfl, rfl⟩

set_option maxHeartbeats 1000000 in
theorem impl_KindOf (b : UInt8) (w : World) : Calls Try.prog 111 #[.string ⟨#[b]⟩] w fun e w' => e = .returned (.int .i64 (kindB b)) ∧ w = w' := by
  have hr := kindB_range b
  have hI := Lib.indexByte_ge (32 :: symBytes) b
  have hk : Hid (kindB b = if Lib.indexByte (32 :: symBytes) b < 0 then 0 else Lib.indexByte (32 :: symBytes) b) := Lib.hid rfl
  go_enter Try.func111, Try.ntmps111
  go_wp2_with (first | (go_at_call 176; refine (stringslite_Index_one _ _ _).mono ?_; rintro e w' ⟨rfl, rfl⟩) | go_in)
  go_ret
  refine ⟨?_, rfl⟩
  show Ending.returned (.int .i64 (max 0 (Lib.indexByte (32 :: symBytes) b))) = _
  exact ret_int (by rw [hk.out]; split <;> omega)

end Go.Proofs.Ytdnchjchgejkeaa
