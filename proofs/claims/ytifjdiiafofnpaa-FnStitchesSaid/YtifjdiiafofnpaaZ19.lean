/- Steps of the proof, joined from several texts: GI KS KR GJ FE EP EV. -/
import Derived.Test.YtifjdiiafofnpaaZ15
import Derived.Test.YtifjdiiafofnpaaZ5
import Derived.Lib.Strings
import Derived.Lib.Walk
import Derived.Lib.Bytealg
import Derived.Test.YtifjdiiafofnpaaZ18
import Derived.Test.YtifjdiiafofnpaaZ1
import Derived.Test.YtifjdiiafofnpaaZ2
import Derived.Deep.DeepCutAuto

/- The draws: stacks, and stitches that take them. -/
namespace Go.Proofs.Ytifjdiiafofnpaa
open Go Go.RowKit

set_option maxHeartbeats 2000000 in
set_option maxRecDepth 10000 in
theorem spec_l14DrawStacks (w : World) (g : Nat) (AB : Option Addr) (cB : Nat) (bs : List Int) (b : Nat) (hsv : Sv w g AB cB bs b) (hb : b ≤ 1152921504606000000) :
    Calls Try.prog 94 #[.pointer (some ⟨g, 0, none⟩)] w fun e w' => ∃ (A' : Option Addr) (c' : Nat) (st : List Int), e = .returned (.slice A' st.length c') ∧ OwnI w' w.heap.size w'.heap.size A' c' st ∧ (∀ x ∈ st, 1 ≤ x ∧ x ≤ 3) ∧ 1 ≤ st.length ∧ st.length ≤ 8 ∧ Sv w' g AB cB bs (b + 9) ∧ w.grownBy w' (some g) := by
  obtain ⟨iI, hi0, hu0, hu1, hu2⟩ := info_parts info_int64
  have hgw := hsv.lt
  have o1 := (OwnC.lit (w := w) (lo := w.heap.size) (n := 0) 2 1 #[] (Nat.le_refl _) (Nat.zero_le _) rfl).mono (Nat.le_refl _) (show w.heap.size + 1 ≤ (w.alloc (.cells #[] 2)).heap.size by simp)
  obtain ⟨w1, hw1⟩ : ∃ w1, w1 = w.alloc (.cells #[] 2) := ⟨_, rfl⟩
  rw [← hw1] at o1
  have hs1 : Sv w1 g AB cB bs b := by rw [hw1]; exact hsv.alloc _
  have hg1 : w.grownBy w1 (some g) := by rw [hw1]; exact World.grownBy_alloc _ _ _
  go_enter Try.func94, Try.ntmps94
  go_upto_region 2 with fail
  rw [← hw1]
  clear hw1
  go_wp2_with (fail)
  refine (sv_pick 8 (by decide) hs1 (by omega)).mono ?_
  rintro e w2 ⟨x, rfl, hx0, hx8, hs2, hg2, hz2⟩
  have hgr2 := hg1.trans hg2
  have o2 := OwnC.grownG o1 hg2 (.inl (by omega))
  rw [← hz2] at o2
  clear o1 hs1 hg1 hg2 hz2
  obtain ⟨m, hm⟩ : ∃ m : Nat, 1 + x = (m : Int) := ⟨(1 + x).toNat, by omega⟩
  have hm1 : 1 ≤ m ∧ m ≤ 8 := by omega
  have hwm : IntKind.i64.wrap (1 + x) = (m : Int) := by rw [hm]; exact IntWalk.i64_in _ ⟨by omega, by omega⟩
  clear hm hx0 hx8
  go_wp2_with (fail)
  go_loopw [3, 4] (fun sv kv wr => ∃ (A3 : Option Addr) (c3 : Nat) (st : List Int) (k : Nat), sv = .slice A3 st.length c3 ∧ kv = .int .i64 (k : Int) ∧ st.length + k = m ∧ OwnI wr w.heap.size wr.heap.size A3 c3 st ∧ Hid (∀ x ∈ st, 1 ≤ x ∧ x ≤ 3) ∧ Sv wr g AB cB bs (b + 1 + st.length) ∧ w.grownBy wr (some g)) (fun _ kv _ => (intOf kv).toNat)
  case atStart => exact ⟨_, 0, [], m, rfl, rfl, by simp, o2, Lib.hid (by simp), by simpa using hs2, hgr2⟩
  case round =>
    clear o2 hs2 hgr2
    obtain ⟨A3, c3, st, k, rfl, rfl, hsk, o3, HK, hs, hgr⟩ := hrel
    have hzr := hgr.size
    by_cases hk0 : 0 < k
    · have dk : decide ((k : Int) > 0) = true := decide_eq_true (by omega)
      have hst8 : st.length ≤ 8 := by omega
      obtain ⟨wL, hwL⟩ : ∃ wL, wL = wr.alloc (.cells #[.int .i64 1, .int .i64 1, .int .i64 1, .int .i64 2, .int .i64 3] 2) := ⟨_, rfl⟩
      have hIL : Ints wL (some ⟨wr.heap.size, 0, none⟩) [1, 1, 1, 2, 3] := by
        rw [hwL]
        exact OwnC.ints (lo := wr.heap.size) (hi := wr.heap.size + 1) (OwnC.lit (w := wr) (lo := wr.heap.size) (n := 5) 2 1 #[.int .i64 1, .int .i64 1, .int .i64 1, .int .i64 2, .int .i64 3] (Nat.le_refl _) (by decide) rfl)
      have hsL : Sv wL g AB cB bs (b + 1 + st.length) := by rw [hwL]; exact hs.alloc _
      have hgL : w.grownBy wL (some g) := by rw [hwL]; exact gb_al hgr _
      have oL : OwnI wL w.heap.size wr.heap.size A3 c3 st := by rw [hwL]; exact OwnC.alloc o3 _
      have hzL : wr.heap.size ≤ wL.heap.size := by rw [hwL]; simp
      go_wp2_with (fail)
      rw [← hwL]
      refine (sv_among [1, 1, 1, 2, 3] (some ⟨wr.heap.size, 0, none⟩) 5 (by decide) hsL (by omega) hIL (fun a ha => by injection ha with ha; subst ha; show wr.heap.size ≠ g; omega)).mono ?_
      rintro e w4 ⟨y, rfl, hy, hs4, hg4, hz4⟩
      have hy3 : 1 ≤ y ∧ y ≤ 3 := by simp at hy; omega
      have HK2 : Hid (∀ x ∈ st ++ [y], 1 ≤ x ∧ x ≤ 3) := Lib.hid (fun x hx => by
        rcases List.mem_append.1 hx with hx | hx
        · exact HK.out x hx
        · rw [List.mem_singleton.1 hx]; exact hy3)
      have hgr4 := hgL.trans hg4
      have o4 := OwnC.grownG oL hg4 (.inl (by omega))
      have hz5 : wr.heap.size ≤ w4.heap.size := by omega
      clear hwL hIL hsL hgL oL hzL hg4 hz4 o3 hs hgr hzr hy hy3 HK
      have hzw := hgr4.size
      have e1 : (k : Int) - 1 = ((k - 1 : Nat) : Int) := by omega
      have wk : IntKind.i64.wrap ((k : Int) - 1) = ((k - 1 : Nat) : Int) := by rw [e1]; exact IntWalk.i64_in _ ⟨by omega, by omega⟩
      clear e1
      go_wp2_with (at_builtin; refine wpList_append1 w4 [.int .i64 y] _ rfl (.tmp 13) (.tmp 17) _ rfl 2 iI _ 1 8 Try.underlying22 hi0 hu0 hu1 hu2 rfl (by decide) rfl o4 hzw 1 rfl rfl (by simp [Value.oneCell']) (by omega) (by decide) ?_; intro A9 c9 w8 ho8 hg8 hb8 hz8)
      refine ⟨⟨A9, c9, st ++ [y], k - 1, by simp, rfl, by simp; omega, ?_, HK2, ?_, ?_⟩, by simp [intOf]; omega⟩
      · show OwnC _ _ _ _ _ _ _ _ _
        rw [List.map_append, List.length_append]
        exact ho8
      · have h1 : Sv w8 g AB cB bs (b + 1 + st.length + 1) := hs4.keep fun q hq => hb8.block q (by omega)
        exact h1.mono (by simp; omega)
      · exact ⟨hb8.os.trans hgr4.os, hb8.tape.trans hgr4.tape, hb8.output.trans hgr4.output, Nat.le_trans hgr4.size hb8.size, fun q hq hne => (hb8.block q (by omega)).trans (hgr4.block q hq hne)⟩
    · have dk : decide ((k : Int) > 0) = false := decide_eq_false (by omega)
      go_wp2_with (fail)
      go_ret
      exact ⟨A3, c3, st, rfl, o3, HK.out, by omega, by omega, hs.mono (by omega), hgr⟩

set_option maxHeartbeats 1000000 in
theorem spec_A2Stacks (A : Option Addr) (c : Nat) (bs : List Int) (w : World) (hby : Bytes w A bs) (hl : bs.length ≤ 1099511627776) :
    Calls Try.prog 40 #[.slice A bs.length c] w fun e w' => ∃ (A1 : Option Addr) (c1 : Nat) (st : List Int) (A2 : Option Addr) (c2 : Nat) (ks : List Int), e = .returned (.tuple #[.slice A1 st.length c1, .slice A2 ks.length c2]) ∧ OwnI w' w.heap.size w'.heap.size A1 c1 st ∧ Ints w' A2 ks ∧ (∀ x ∈ st, 1 ≤ x ∧ x ≤ 3) ∧ st.length ≤ 8 ∧ stitchesB ks = true ∧ takenS ks = st.length ∧ Below w.heap.size w w' := by
  go_enter Try.func40, Try.ntmps40
  go_wp2_with (fail)
  refine (spec_l00From A c bs _ hby hl).mono ?_
  rintro e w2 ⟨rfl, hs2, b2, hz2⟩
  have HZ2 := Lib.hid hz2; clear hz2
  go_wp2_with (fail)
  refine (spec_l14DrawStacks w2 w.heap.size A c bs 0 hs2 (by decide)).mono ?_
  rintro e w3 ⟨A3, c3, st, rfl, o3, hst, hs1, hs8, hs3, hg3⟩
  have HST := Lib.hid hst; clear hst
  have HZ3 := Lib.hid (show w2.heap.size ≤ w3.heap.size from hg3.size)
  go_wp2_with (fail)
  refine (sv_draw14 st.length hs8 hs3 (by decide)).mono ?_
  rintro e w4 ⟨A4, c4, ks, rfl, o4, hks, htk, hs4, hg4⟩
  have HZ4 := Lib.hid (show w3.heap.size ≤ w4.heap.size from hg4.size)
  have HKS := Lib.hid hks; clear hks
  have HTK := Lib.hid htk; clear htk
  have hb4 : Below w.heap.size w w4 := (b2.trans (gb_below hg3 (Nat.le_refl _) (by have := HZ2.out; omega))).trans (gb_below hg4 (Nat.le_refl _) (by have := HZ2.out; have := HZ3.out; omega))
  have o34 := OwnC.grownG o3 hg4 (.inl (by have := HZ2.out; omega))
  go_wp2_with (fail)
  go_ret2
  exact ⟨A3, c3, st, A4, c4, ks, rfl, OwnC.mono o34 (by have := HZ2.out; omega) (by have := HZ4.out; omega), OwnC.ints o4, HST.out, hs8, HKS.out, HTK.out, hb4⟩

end Go.Proofs.Ytifjdiiafofnpaa

/- ReadStitches. -/
namespace Go.Proofs.Ytifjdiiafofnpaa
open Go.RowKit

def symBytes : List UInt8 := [107, 112, 111, 100, 101, 116, 115, 120, 121, 88, 89]
def symB (k : Nat) : UInt8 := symBytes[k - 1]?.getD 0
def kindB (b : UInt8) : Int := if Lib.indexByte (32 :: symBytes) b < 0 then 0 else Lib.indexByte (32 :: symBytes) b
def kinds (s : ByteArray) : List Int := s.data.toList.map kindB
def readOk (s : ByteArray) : Bool := decide (s.size ≤ 16) && (kinds s).all isStitchB
def readP (s : ByteArray) : List Int := if readOk s then kinds s else []
theorem cases11 {k : Nat} (h1 : 1 ≤ k) (h2 : k ≤ 11) : k = 1 ∨ k = 2 ∨ k = 3 ∨ k = 4 ∨ k = 5 ∨ k = 6 ∨ k = 7 ∨ k = 8 ∨ k = 9 ∨ k = 10 ∨ k = 11 := by omega
theorem kindB_found {k : Nat} {b : UInt8} (h1 : 1 ≤ k) (h2 : k ≤ 11) (h : symB k = b) : kindB b = k := by
  subst h
  rcases cases11 h1 h2 with rfl | rfl | rfl | rfl | rfl | rfl | rfl | rfl | rfl | rfl | rfl <;> decide
theorem kindB_none {b : UInt8} (h : ∀ j, 1 ≤ j → j < 12 → symB j ≠ b) : kindB b = 0 := by
  have e : ∀ j, 1 ≤ j → j < 12 → (symB j == b) = false := fun j h1 h2 => by simpa using h j h1 h2
  have e1 : ((107 : UInt8) == b) = false := e 1 (by omega) (by omega)
  have e2 : ((112 : UInt8) == b) = false := e 2 (by omega) (by omega)
  have e3 : ((111 : UInt8) == b) = false := e 3 (by omega) (by omega)
  have e4 : ((100 : UInt8) == b) = false := e 4 (by omega) (by omega)
  have e5 : ((101 : UInt8) == b) = false := e 5 (by omega) (by omega)
  have e6 : ((116 : UInt8) == b) = false := e 6 (by omega) (by omega)
  have e7 : ((115 : UInt8) == b) = false := e 7 (by omega) (by omega)
  have e8 : ((120 : UInt8) == b) = false := e 8 (by omega) (by omega)
  have e9 : ((121 : UInt8) == b) = false := e 9 (by omega) (by omega)
  have e10 : ((88 : UInt8) == b) = false := e 10 (by omega) (by omega)
  have e11 : ((89 : UInt8) == b) = false := e 11 (by omega) (by omega)
  have hi : Lib.indexByte symBytes b = -1 := by
    unfold symBytes
    simp only [Lib.indexByte, e1, e2, e3, e4, e5, e6, e7, e8, e9, e10, e11, Bool.false_eq_true, if_false]
    rfl
  unfold kindB
  rw [Lib.indexByte, hi]
  split
  · rfl
  · split <;> simp_all
theorem kindB_range (b : UInt8) : 0 ≤ kindB b ∧ kindB b ≤ 11 := by
  by_cases h : ∀ j, 1 ≤ j → j < 12 → symB j ≠ b
  · rw [kindB_none h]; omega
  · have : ∃ j, 1 ≤ j ∧ j < 12 ∧ symB j = b := by
      apply Classical.byContradiction
      intro hn
      exact h fun j h1 h2 h3 => hn ⟨j, h1, h2, h3⟩
    obtain ⟨j, h1, h2, h3⟩ := this
    rw [kindB_found h1 (by omega) h3]
    omega
theorem kindB_stitch (b : UInt8) : isStitchB (kindB b) = !decide (kindB b = 0) := by
  have := kindB_range b
  unfold isStitchB inR
  apply Bool.eq_iff_iff.2
  simp
  omega
theorem kinds_length (s : ByteArray) : (kinds s).length = s.size := by simp [kinds]
theorem readP_length (s : ByteArray) : (readP s).length ≤ 16 := by
  unfold readP
  split
  · rename_i h
    unfold readOk at h
    simp only [Bool.and_eq_true, decide_eq_true_eq] at h
    rw [kinds_length]
    exact h.1
  · simp
theorem extract_one {s : ByteArray} {i : Nat} (h : i < s.size) : s.extract i (i + 1) = ⟨#[s.data[i]'h]⟩ := by
  obtain ⟨a⟩ := s
  have h' : i < a.size := h
  rw [show (ByteArray.mk a).extract i (i + 1) = ⟨a.extract i (i + 1)⟩ from by
    apply ByteArray.ext
    simp]
  congr 1
  apply Array.ext
  · simp; omega
  · intro j h1 h2
    simp at h2
    subst h2
    simp
theorem kinds_snoc {s : ByteArray} {i : Nat} (h : i < s.size) : (kinds s).take (i + 1) = (kinds s).take i ++ [kindB (s.data[i]'h)] := by
  apply take_snoc
  unfold kinds
  rw [List.getElem?_map]
  have : s.data.toList[i]? = some (s.data[i]'h) := by
    rw [Array.getElem?_toList]
    exact Array.getElem?_eq_getElem h
  rw [this]
  rfl

set_option maxHeartbeats 1000000 in
set_option maxRecDepth 100000 in
theorem stringslite_IndexByte (s : ByteArray) (c : Int) (w : World) :
    Calls Try.prog 166 #[.string s, .int .u8 c] w fun e w' => e = .returned (.int .i64 (Lib.indexByte s.data.toList c.toNat.toUInt8)) ∧ w' = w := by
  go_enter Try.func166, Try.ntmps166
  go_wp2
  rw [run_callFunc_extern Try.func176 (by kernel_rfl) (by kernel_rfl) (by kernel_rfl) (e := Extern.BytealgIndexByte.indexByte) (by kernel_rfl), Lib.run_indexByteString]
  simp only [Result.andThen]
  rw [Oper.upon_value]
  go_wp2
  go_ret
  exact ⟨rfl, rfl⟩
set_option maxHeartbeats 2000000 in
set_option maxRecDepth 100000 in
theorem stringslite_Index_one (s : ByteArray) (c : UInt8) (w : World) :
    Calls Try.prog 145 #[.string s, .string ⟨#[c]⟩] w fun e w' => e = .returned (.int .i64 (Lib.indexByte s.data.toList c)) ∧ w' = w := by
  go_enter Try.func145, Try.ntmps145
  go_wp2_with (go_at_call 166; refine (stringslite_IndexByte _ _ _).mono ?_; rintro e w' ⟨rfl, rfl⟩)
  · have h : ([c] == s.toList) = true := by assumption
    go_ret
    refine ⟨?_, rfl⟩
    have e : s.data.toList = [c] := by rw [← Lib.toList_data]; exact (beq_iff_eq.1 h).symm
    rw [e]
    simp [Lib.indexByte]
  · go_ret
    exact ⟨rfl, rfl⟩

set_option maxHeartbeats 1000000 in
set_option maxRecDepth 10000 in
theorem impl_KindOf (b : UInt8) (w : World) : Calls Try.prog 47 #[.string ⟨#[b]⟩] w fun e w' => e = .returned (.int .i64 (kindB b)) ∧ w = w' := by
  have hr := kindB_range b
  have hI := Lib.indexByte_ge (32 :: symBytes) b
  have hk : Hid (kindB b = if Lib.indexByte (32 :: symBytes) b < 0 then 0 else Lib.indexByte (32 :: symBytes) b) := Lib.hid rfl
  go_enter Try.func47, Try.ntmps47
  go_wp2_with (first | (go_at_call 145; refine (stringslite_Index_one _ _ _).mono ?_; rintro e w' ⟨rfl, rfl⟩) | go_in)
  go_ret
  refine ⟨?_, rfl⟩
  show Ending.returned (.int .i64 (max 0 (Lib.indexByte (32 :: symBytes) b))) = _
  exact ret_int (by rw [hk.out]; split <;> omega)

end Go.Proofs.Ytifjdiiafofnpaa

/- ReadStitches: the two functions. -/
namespace Go.Proofs.Ytifjdiiafofnpaa
open Go.RowKit

theorem kinds_at {s : ByteArray} {i : Nat} (h : i < s.size) : (kinds s)[i]? = some (kindB (s.data[i]'h)) := by
  unfold kinds
  rw [List.getElem?_map]
  have : s.data.toList[i]? = some (s.data[i]'h) := by
    rw [Array.getElem?_toList]
    exact Array.getElem?_eq_getElem h
  rw [this]
  rfl
theorem readOk_stitches {s : ByteArray} : readOk s = stitchesB (kinds s) := by
  unfold readOk stitchesB
  rw [kinds_length, Bool.and_comm]

set_option maxHeartbeats 1000000 in
set_option maxRecDepth 10000 in
theorem impl_ReadStitches (s : ByteArray) (w : World) (hl : s.size ≤ 9223372036854775807) :
    Calls Try.prog 41 #[.string s] w fun e w' => ∃ A' c', e = .returned (.tuple #[.slice A' (readP s).length c', .bool (readOk s)]) ∧ OwnI w' w.heap.size w'.heap.size A' c' (readP s) ∧ Below w.heap.size w w' := by
  obtain ⟨i0, hi0, hz0, hz1, hz2⟩ := info_parts info_int64
  by_cases h16 : s.size ≤ 16
  · have HR : Hid (readOk s = stitchesB (kinds s)) := Lib.hid (readOk_stitches)
    go_enter Try.func41, Try.ntmps41
    go_wp2_with (fail)
    go_loopw [4, 12] (fun ov iv wr => ∃ (i : Nat) (A' : Option Addr) (c' : Nat) (out : List Int), i ≤ s.size ∧ iv = .int .i64 i ∧ ov = .slice A' out.length c' ∧ OwnI wr w.heap.size wr.heap.size A' c' out ∧ Below w.heap.size w wr ∧ Hid (out = (kinds s).take i) ∧ out.length ≤ 16) (fun _ iv _ => s.size - (intOf iv).toNat)
    case atStart =>
      exact ⟨0, some ⟨w.heap.size, 0, none⟩, 0, [], Nat.zero_le _, rfl, rfl, (OwnC.lit _ 1 #[] (Nat.le_refl _) (Nat.zero_le _) rfl).mono (Nat.le_refl _) (by simp), by (repeat (first | exact Below.refl _ _ | assumption | apply Below.drew | apply below_drewN | (refine Below.alloc ?_ (by first | omega | (simp; done) | (simp; omega)) _) | (refine Below.setCell ?_ (by first | omega | (simp; done) | (simp; omega)) _))), Lib.hid (by simp), by simp⟩
    case round =>
      obtain ⟨i, A', c', out, hi, rfl, rfl, ho, hb, HO, hol⟩ := hrel
      have hzs := hb.size
      by_cases hlt : i < s.size
      · have hcon : ∀ W, Calls Try.prog 47 #[.string (s.extract i (i + 1))] W fun e w' => e = .returned (.int .i64 (kindB (s.data[i]'hlt))) ∧ W = w' := fun W => by rw [extract_one hlt]; exact impl_KindOf _ _
        have HC := Lib.hid hcon; clear hcon
        have HK := Lib.hid (kinds_snoc hlt)
        generalize kindB (s.data[i]'hlt) = k at HC HK
        have hol2 : out.length + 1 ≤ 16 := by rw [HO.out, List.length_take]; omega
        go_wp2_with (fail)
        refine (HC.out _).mono ?_; rintro e _ ⟨rfl, rfl⟩
        go_wp2_with (at_builtin; refine wpList_append1 wr [.int .i64 k] _ rfl (.tmp 15) (.tmp 22) _ rfl 2 i0 _ 1 8 Try.underlying22 hi0 hz0 hz1 hz2 rfl (by decide) rfl ho hzs 1 rfl rfl (by simp [Value.oneCell']) (by omega) (by decide) ?_; intro A2 c2 w2 ho2 hg2 hb2 hz2')
        go_roundw
        case rel =>
          refine ⟨i + 1, A2, c2, out ++ [k], by omega, by go_num, by simp, ?_, hb.trans hb2, Lib.hid (by rw [HK.out, HO.out]), by simp; omega⟩
          show OwnC _ _ _ _ _ _ _ _ _
          rw [List.map_append, List.length_append]
          exact ho2
        case measure => simp [intOf]; omega
      · have hout := HO.out
        rw [take_all (by rw [kinds_length]; omega)] at hout
        rw [← hout] at HR
        have HOUT := Lib.hid hout; clear hout
        have HAR := Lib.hid (impl_areStitches A' c' out wr ho.ints (by omega))
        cases hst : stitchesB out
        · rw [hst] at HAR HR
          have HF : Hid (readOk s = false ∧ readP s = []) := Lib.hid ⟨HR.out, by rw [readP, HR.out]; rfl⟩
          go_wp2_with (fail)
          refine HAR.out.mono ?_; rintro e _ ⟨rfl, rfl⟩
          go_wp2_with (fail)
          go_ret2
          rw [HF.out.1, HF.out.2]
          exact ⟨_, _, rfl, OwnC.nil _ _ _ _ _, hb⟩
        · rw [hst] at HAR HR
          have HF : Hid (readOk s = true ∧ readP s = out) := Lib.hid ⟨HR.out, by rw [readP, if_pos HR.out, HOUT.out]⟩
          go_wp2_with (fail)
          refine HAR.out.mono ?_; rintro e _ ⟨rfl, rfl⟩
          go_wp2_with (fail)
          go_ret2
          rw [HF.out.1, HF.out.2]
          exact ⟨_, _, rfl, ho, hb⟩
  · have HF : Hid (readOk s = false) := Lib.hid (by rw [readOk, decide_eq_false h16, Bool.false_and])
    go_enter Try.func41, Try.ntmps41
    go_wp2_with (fail)
    go_ret2
    rw [show readP s = [] from by rw [readP, HF.out]; rfl, HF.out]
    exact ⟨_, _, rfl, OwnC.nil _ _ _ _ _, Below.refl _ _⟩

end Go.Proofs.Ytifjdiiafofnpaa

/- Texts of stitches, the program's side. -/
namespace Go.Proofs.Ytifjdiiafofnpaa
open Go Go.RowKit

/-- The text of some stitches. -/
def symT (ks : List Int) : ByteArray := ⟨(ks.map fun k => symB k.toNat).toArray⟩
theorem symT_size (ks : List Int) : (symT ks).size = ks.length := by
  show (ks.map fun k => symB k.toNat).toArray.size = _
  simp
theorem symT_snoc (ks : List Int) (k : Int) : symT (ks ++ [k]) = symT ks ++ ⟨#[symB k.toNat]⟩ := by
  apply ByteArray.ext
  simp [symT]
theorem kinds_symT {ks : List Int} (h : ∀ k ∈ ks, isStitchB k = true) : kinds (symT ks) = ks := by
  unfold kinds symT
  simp only [List.map_map]
  conv => rhs; rw [← List.map_id ks]
  refine List.map_congr_left fun k hk => ?_
  have := inR_iff.1 (h k hk)
  show kindB (symB k.toNat) = k
  rw [kindB_found (k := k.toNat) (by omega) (by omega) rfl]
  omega
theorem read_symT {ks : List Int} (h : stitchesB ks = true) : readOk (symT ks) = true ∧ readP (symT ks) = ks := by
  obtain ⟨h1, h2⟩ := stitchesB_of h
  have e : readOk (symT ks) = true := by
    rw [readOk_stitches, kinds_symT h2, h]
  exact ⟨e, by rw [readP, if_pos e, kinds_symT h2]⟩

set_option maxHeartbeats 2000000 in
theorem impl_SymbolOf (k : Int) (w : World) (hk : isStitchB k = true) : Calls Try.prog 48 #[.int .i64 k] w fun e w' => e = .returned (.string ⟨#[symB k.toNat]⟩) ∧ w = w' := by
  rcases stitch_cases hk with rfl | rfl | rfl | rfl | rfl | rfl | rfl | rfl | rfl | rfl | rfl
  all_goals
    go_enter Try.func48, Try.ntmps48
    go_wp2_with (go_at_call 99; refine (impl_isStitch _ _).mono ?_; rintro e _ ⟨rfl, rfl⟩)
    go_ret
    exact ⟨rfl, rfl⟩

set_option maxHeartbeats 1000000 in
theorem impl_stitchesText (ks : List Int) (A : Option Addr) (c : Nat) (w : World) (h : Ints w A ks) (hl : ks.length ≤ 16) (hs : ∀ k ∈ ks, isStitchB k = true) :
    Calls Try.prog 97 #[.slice A ks.length c] w fun e w' => e = .returned (.string (symT ks)) ∧ w = w' := by
  have HS := Lib.hid hs; clear hs
  go_enter Try.func97, Try.ntmps97
  go_wp2_with (fail)
  go_loop [3, 8] (fun tv iv => ∃ i : Nat, i ≤ ks.length ∧ iv = .int .i64 i ∧ tv = .string (symT (ks.take i))) (fun _ iv => ks.length - (intOf iv).toNat)
  case atStart => exact ⟨0, Nat.zero_le _, rfl, rfl⟩
  case round =>
    obtain ⟨i, hi, rfl, rfl⟩ := hrel
    by_cases hil : i < ks.length
    · obtain ⟨b, off, k, rfl, hc, hx⟩ := h i hil
      have hst := HS.out k (List.mem_of_getElem? hx)
      have HX : Hid (symT (ks.take (i + 1)) = symT (ks.take i) ++ ⟨#[symB k.toNat]⟩) := Lib.hid (by rw [take_snoc hx, symT_snoc])
      have hsz : (symT (ks.take i)).size ≤ 16 := by rw [symT_size, List.length_take]; omega
      clear hx
      go_wp2_with (go_at_call 48; refine (impl_SymbolOf k _ hst).mono ?_; rintro e _ ⟨rfl, rfl⟩)
      exact ⟨⟨i + 1, by omega, by go_num, by rw [HX.out]⟩, by simp [intOf]; omega⟩
    · go_wp2_with (fail)
      go_ret
      rw [take_all (by omega)]
      exact ⟨rfl, rfl⟩

theorem impl_StitchesText (ks : List Int) (A : Option Addr) (c : Nat) (w : World) (h : Ints w A ks) (hk : stitchesB ks = true) :
    Calls Try.prog 42 #[.slice A ks.length c] w fun e w' => e = .returned (.string (symT ks)) ∧ w = w' := by
  obtain ⟨h1, h2⟩ := stitchesB_of hk
  go_enter Try.func42, Try.ntmps42
  go_wp2_with (fail)
  refine (impl_areStitches _ _ _ _ h (by omega)).mono ?_; rintro e _ ⟨rfl, rfl⟩
  rw [hk]
  go_wp2_with (fail)
  refine (impl_stitchesText ks A c _ h h1 h2).mono ?_; rintro e _ ⟨rfl, rfl⟩
  go_wp2_with (fail)
  go_ret
  exact ⟨rfl, rfl⟩

theorem impl_TakenBy (ks : List Int) (A : Option Addr) (c : Nat) (w : World) (h : Ints w A ks) (hk : stitchesB ks = true) :
    Calls Try.prog 43 #[.slice A ks.length c] w fun e w' => e = .returned (.int .i64 (takenS ks : Int)) ∧ w = w' := by
  obtain ⟨h1, h2⟩ := stitchesB_of hk
  go_enter Try.func43, Try.ntmps43
  go_wp2_with (fail)
  refine (impl_areStitches _ _ _ _ h (by omega)).mono ?_; rintro e _ ⟨rfl, rfl⟩
  rw [hk]
  go_wp2_with (fail)
  refine (impl_takenBy A c ks _ h hk).mono ?_; rintro e _ ⟨rfl, rfl⟩
  go_wp2_with (fail)
  go_ret
  exact ⟨rfl, rfl⟩

end Go.Proofs.Ytifjdiiafofnpaa

/- Slices of Event: how they are read and owned, and the helpers of the laws on them. -/
namespace Go.Proofs.Ytifjdiiafofnpaa
open Go.RowKit

structure EventD where
  kind : Int
  place : Int
  count : Int
  bed : Int
  carrier : Int
  dir : Int
instance : DecidableEq EventD := fun a b => decidable_of_iff (a.kind = b.kind ∧ a.place = b.place ∧ a.count = b.count ∧ a.bed = b.bed ∧ a.carrier = b.carrier ∧ a.dir = b.dir) ⟨fun h => by cases a; cases b; simp_all, fun h => by simp [h]⟩
def cellsEvent : List EventD → List Value
  | [] => []
  | p :: ps => .int .i64 p.kind :: .int .i64 p.place :: .int .i64 p.count :: .int .i64 p.bed :: .int .i64 p.carrier :: .int .i64 p.dir :: cellsEvent ps

theorem cellsEvent_length (ps : List EventD) : (cellsEvent ps).length = ps.length * 6 := by
  induction ps with
  | nil => rfl
  | cons p ps ih => simp [cellsEvent, ih]; omega
theorem cellsEvent_snoc (ps : List EventD) (p : EventD) : cellsEvent (ps ++ [p]) = cellsEvent ps ++ [.int .i64 p.kind, .int .i64 p.place, .int .i64 p.count, .int .i64 p.bed, .int .i64 p.carrier, .int .i64 p.dir] := by
  induction ps with
  | nil => rfl
  | cons q ps ih => simp [cellsEvent, ih]
theorem cellsEvent_at {ps : List EventD} {i : Nat} {p : EventD} (h : ps[i]? = some p) : (cellsEvent ps)[i * 6]? = some (.int .i64 p.kind) ∧ (cellsEvent ps)[i * 6 + 1]? = some (.int .i64 p.place) ∧ (cellsEvent ps)[i * 6 + 2]? = some (.int .i64 p.count) ∧ (cellsEvent ps)[i * 6 + 3]? = some (.int .i64 p.bed) ∧ (cellsEvent ps)[i * 6 + 4]? = some (.int .i64 p.carrier) ∧ (cellsEvent ps)[i * 6 + 5]? = some (.int .i64 p.dir) := by
  induction ps generalizing i with
  | nil => simp at h
  | cons q ps ih =>
    cases i with
    | zero =>
      simp at h
      subst h
      simp [cellsEvent]
    | succ i =>
      have := ih (i := i) (by simpa using h)
      simp only [Nat.succ_mul, cellsEvent]
      simpa [Nat.add_right_comm] using this
def Events (w : World) (A : Option Addr) (ps : List EventD) : Prop :=
  ∀ k, k < ps.length → ∃ b off p, A = some ⟨b, off, none⟩ ∧ ps[k]? = some p ∧ w.cell? ⟨b, off + k * 6, none⟩ = some (.int .i64 p.kind) ∧ w.cell? ⟨b, off + k * 6 + 1, none⟩ = some (.int .i64 p.place) ∧ w.cell? ⟨b, off + k * 6 + 2, none⟩ = some (.int .i64 p.count) ∧ w.cell? ⟨b, off + k * 6 + 3, none⟩ = some (.int .i64 p.bed) ∧ w.cell? ⟨b, off + k * 6 + 4, none⟩ = some (.int .i64 p.carrier) ∧ w.cell? ⟨b, off + k * 6 + 5, none⟩ = some (.int .i64 p.dir)
theorem Events.of_cells {w w' : World} {A : Option Addr} {ps : List EventD} (h : Events w A ps) (hk : ∀ a v, w.cell? a = some v → w'.cell? a = some v) : Events w' A ps :=
  fun k hk' => by
    obtain ⟨b, off, p, hA, hp, h0, h1, h2, h3, h4, h5⟩ := h k hk'
    exact ⟨b, off, p, hA, hp, hk _ _ h0, hk _ _ h1, hk _ _ h2, hk _ _ h3, hk _ _ h4, hk _ _ h5⟩
theorem Events.below {w w' : World} {A : Option Addr} {ps : List EventD} (h : Events w A ps) (hb : Below w.heap.size w w') : Events w' A ps := h.of_cells (cells_below hb)
theorem Events.drewN {w : World} {A : Option Addr} {ps : List EventD} (h : Events w A ps) (n : Nat) : Events (w.drewN n) A ps := h
theorem Events.nil {w : World} {A : Option Addr} : Events w A [] := fun k hk => by simp at hk

/-- A slice of Event that is the call's own. -/
abbrev OwnEvent (w : World) (lo hi : Nat) (A : Option Addr) (c : Nat) (ps : List EventD) : Prop := OwnC w lo hi 96 6 A ps.length c (cellsEvent ps)
theorem OwnC.events {w : World} {lo hi n : Nat} {A : Option Addr} {c : Nat} {ps : List EventD} (h : OwnC w lo hi 96 6 A n c (cellsEvent ps)) : Events w A ps := by
  intro k hk
  have hp : ps[k]? = some ps[k] := List.getElem?_eq_getElem hk
  obtain ⟨e0, e1, e2, e3, e4, e5⟩ := cellsEvent_at hp
  have hl := cellsEvent_length ps
  have hk3 : k * 6 + 5 < ps.length * 6 := by omega
  obtain ⟨g0, hA0, _, _, c0, _⟩ := h.cell (j := k * 6) (by omega)
  rw [List.getElem?_eq_getElem (by omega)] at e0
  injection e0 with e0
  rw [e0] at c0
  subst hA0
  obtain ⟨g1, hA1, _, _, c1, _⟩ := h.cell (j := k * 6 + 1) (by omega)
  rw [List.getElem?_eq_getElem (by omega)] at e1
  injection e1 with e1
  rw [e1] at c1
  injection hA1 with hA1
  injection hA1 with hA1
  subst hA1
  obtain ⟨g2, hA2, _, _, c2, _⟩ := h.cell (j := k * 6 + 2) (by omega)
  rw [List.getElem?_eq_getElem (by omega)] at e2
  injection e2 with e2
  rw [e2] at c2
  injection hA2 with hA2
  injection hA2 with hA2
  subst hA2
  obtain ⟨g3, hA3, _, _, c3, _⟩ := h.cell (j := k * 6 + 3) (by omega)
  rw [List.getElem?_eq_getElem (by omega)] at e3
  injection e3 with e3
  rw [e3] at c3
  injection hA3 with hA3
  injection hA3 with hA3
  subst hA3
  obtain ⟨g4, hA4, _, _, c4, _⟩ := h.cell (j := k * 6 + 4) (by omega)
  rw [List.getElem?_eq_getElem (by omega)] at e4
  injection e4 with e4
  rw [e4] at c4
  injection hA4 with hA4
  injection hA4 with hA4
  subst hA4
  obtain ⟨g5, hA5, _, _, c5, _⟩ := h.cell (j := k * 6 + 5) (by omega)
  rw [List.getElem?_eq_getElem (by omega)] at e5
  injection e5 with e5
  rw [e5] at c5
  injection hA5 with hA5
  injection hA5 with hA5
  subst hA5
  exact ⟨g0, 0, ps[k], rfl, hp, by simpa using c0, by simpa using c1, by simpa using c2, by simpa using c3, by simpa using c4, by simpa using c5⟩
theorem info_Event : (Try.prog.info? 96).map (fun i => (i.zero, i.size, i.bytes)) = some (some (.agg #[.int .i64 0, .int .i64 0, .int .i64 0, .int .i64 0, .int .i64 0, .int .i64 0]), 6, 48) := by kernel_rfl

theorem laws_eqEvent (x0 x1 x2 x3 x4 x5 y0 y1 y2 y3 y4 y5 : Int) (w : World) : Calls Try.prog 66 #[.agg #[.int .i64 x0, .int .i64 x1, .int .i64 x2, .int .i64 x3, .int .i64 x4, .int .i64 x5], .agg #[.int .i64 y0, .int .i64 y1, .int .i64 y2, .int .i64 y3, .int .i64 y4, .int .i64 y5]] w fun e w' => e = .returned (.bool (decide ((⟨x0, x1, x2, x3, x4, x5⟩ : EventD) = ⟨y0, y1, y2, y3, y4, y5⟩))) ∧ Below w.heap.size w w' := by
  by_cases e0 : x0 = y0
  · subst e0
    by_cases e1 : x1 = y1
    · subst e1
      by_cases e2 : x2 = y2
      · subst e2
        by_cases e3 : x3 = y3
        · subst e3
          by_cases e4 : x4 = y4
          · subst e4
            by_cases e5 : x5 = y5
            · subst e5
              go_enter Try.func66, Try.ntmps66
              go_wp2_with (fail)
              go_ret
              exact ⟨ret_bool (by simp), by (repeat (first | exact Below.refl _ _ | assumption | apply Below.drew | apply below_drewN | (refine Below.alloc ?_ (by first | omega | (simp; done) | (simp; omega)) _) | (refine Below.setCell ?_ (by first | omega | (simp; done) | (simp; omega)) _)))⟩
            · have e' : (x5 != y5) = true := by simpa using e5
              go_enter Try.func66, Try.ntmps66
              go_wp2_with (fail)
              go_ret
              exact ⟨ret_bool (by simp [e5]), by (repeat (first | exact Below.refl _ _ | assumption | apply Below.drew | apply below_drewN | (refine Below.alloc ?_ (by first | omega | (simp; done) | (simp; omega)) _) | (refine Below.setCell ?_ (by first | omega | (simp; done) | (simp; omega)) _)))⟩
          · have e' : (x4 != y4) = true := by simpa using e4
            go_enter Try.func66, Try.ntmps66
            go_wp2_with (fail)
            go_ret
            exact ⟨ret_bool (by simp [e4]), by (repeat (first | exact Below.refl _ _ | assumption | apply Below.drew | apply below_drewN | (refine Below.alloc ?_ (by first | omega | (simp; done) | (simp; omega)) _) | (refine Below.setCell ?_ (by first | omega | (simp; done) | (simp; omega)) _)))⟩
        · have e' : (x3 != y3) = true := by simpa using e3
          go_enter Try.func66, Try.ntmps66
          go_wp2_with (fail)
          go_ret
          exact ⟨ret_bool (by simp [e3]), by (repeat (first | exact Below.refl _ _ | assumption | apply Below.drew | apply below_drewN | (refine Below.alloc ?_ (by first | omega | (simp; done) | (simp; omega)) _) | (refine Below.setCell ?_ (by first | omega | (simp; done) | (simp; omega)) _)))⟩
      · have e' : (x2 != y2) = true := by simpa using e2
        go_enter Try.func66, Try.ntmps66
        go_wp2_with (fail)
        go_ret
        exact ⟨ret_bool (by simp [e2]), by (repeat (first | exact Below.refl _ _ | assumption | apply Below.drew | apply below_drewN | (refine Below.alloc ?_ (by first | omega | (simp; done) | (simp; omega)) _) | (refine Below.setCell ?_ (by first | omega | (simp; done) | (simp; omega)) _)))⟩
    · have e' : (x1 != y1) = true := by simpa using e1
      go_enter Try.func66, Try.ntmps66
      go_wp2_with (fail)
      go_ret
      exact ⟨ret_bool (by simp [e1]), by (repeat (first | exact Below.refl _ _ | assumption | apply Below.drew | apply below_drewN | (refine Below.alloc ?_ (by first | omega | (simp; done) | (simp; omega)) _) | (refine Below.setCell ?_ (by first | omega | (simp; done) | (simp; omega)) _)))⟩
  · have e' : (x0 != y0) = true := by simpa using e0
    go_enter Try.func66, Try.ntmps66
    go_wp2_with (fail)
    go_ret
    exact ⟨ret_bool (by simp [e0]), by (repeat (first | exact Below.refl _ _ | assumption | apply Below.drew | apply below_drewN | (refine Below.alloc ?_ (by first | omega | (simp; done) | (simp; omega)) _) | (refine Below.setCell ?_ (by first | omega | (simp; done) | (simp; omega)) _)))⟩

set_option maxHeartbeats 2000000 in
theorem laws_eqEventS (A B : Option Addr) (c d : Nat) (ps qs : List EventD) (w : World) (h : Events w A ps) (h' : Events w B qs) (hl : ps.length ≤ 1000000000000) (_hl' : qs.length ≤ 1000000000000) :
    Calls Try.prog 14 #[.slice A ps.length c, .slice B qs.length d] w fun e w' => e = .returned (.bool (decide (ps = qs))) ∧ Below w.heap.size w w' := by
  by_cases hle : ps.length = qs.length
  · have HL := Lib.hid hle
    have hle' : ((ps.length : Int) != (qs.length : Int)) = false := by simp [hle]
    clear hle
    go_enter Try.func14, Try.ntmps14
    go_wp2
    go_loopw [5] (fun i wr => ∃ (k : Nat), k ≤ ps.length ∧ i = .int .i64 k ∧ ps.take k = qs.take k ∧ Below w.heap.size w wr) (fun i _ => ps.length - (intOf i).toNat)
    case atStart => exact ⟨0, Nat.zero_le _, rfl, rfl, Below.refl _ _⟩
    case round =>
      obtain ⟨k, hk, rfl, htk, hb⟩ := hrel
      have HT := Lib.hid htk; clear htk
      by_cases hlt : k < ps.length
      · have hlt' : k < qs.length := by rw [← HL.out]; exact hlt
        obtain ⟨b, off, p, rfl, hp, h0, h1, h2, h3, h4, h5⟩ := h k hlt
        obtain ⟨b', off', q, rfl, hq, h0', h1', h2', h3', h4', h5'⟩ := h' k hlt'
        have HP := Lib.hid hp; clear hp
        have HQ := Lib.hid hq; clear hq
        replace h0 := cells_below hb _ _ h0
        replace h0' := cells_below hb _ _ h0'
        replace h1 := cells_below hb _ _ h1
        replace h1' := cells_below hb _ _ h1'
        replace h2 := cells_below hb _ _ h2
        replace h2' := cells_below hb _ _ h2'
        replace h3 := cells_below hb _ _ h3
        replace h3' := cells_below hb _ _ h3'
        replace h4 := cells_below hb _ _ h4
        replace h4' := cells_below hb _ _ h4'
        replace h5 := cells_below hb _ _ h5
        replace h5' := cells_below hb _ _ h5'
        have j1 : (0 : Int) ≤ (k : Int) := by omega
        have j2 : (k : Int) < (ps.length : Int) := by omega
        have j3 : (k : Int) < (qs.length : Int) := by omega
        by_cases hpq : p = q
        · subst hpq
          go_wp2_with (fail)
          go_region_held3 (fun W' => (W'.cell? ⟨b, off + k * 6, none⟩ = some (.int .i64 p.kind) ∧ W'.cell? ⟨b, off + k * 6 + 1, none⟩ = some (.int .i64 p.place) ∧ W'.cell? ⟨b, off + k * 6 + 2, none⟩ = some (.int .i64 p.count) ∧ W'.cell? ⟨b, off + k * 6 + 3, none⟩ = some (.int .i64 p.bed) ∧ W'.cell? ⟨b, off + k * 6 + 4, none⟩ = some (.int .i64 p.carrier) ∧ W'.cell? ⟨b, off + k * 6 + 5, none⟩ = some (.int .i64 p.dir)) ∧ (W'.cell? ⟨b', off' + k * 6, none⟩ = some (.int .i64 p.kind) ∧ W'.cell? ⟨b', off' + k * 6 + 1, none⟩ = some (.int .i64 p.place) ∧ W'.cell? ⟨b', off' + k * 6 + 2, none⟩ = some (.int .i64 p.count) ∧ W'.cell? ⟨b', off' + k * 6 + 3, none⟩ = some (.int .i64 p.bed) ∧ W'.cell? ⟨b', off' + k * 6 + 4, none⟩ = some (.int .i64 p.carrier) ∧ W'.cell? ⟨b', off' + k * 6 + 5, none⟩ = some (.int .i64 p.dir))) (first | exact ⟨⟨h0, h1, h2, h3, h4, h5⟩, h0', h1', h2', h3', h4', h5'⟩ | exact ⟨⟨cells_below b2 _ _ h0, cells_below b2 _ _ h1, cells_below b2 _ _ h2, cells_below b2 _ _ h3, cells_below b2 _ _ h4, cells_below b2 _ _ h5⟩, cells_below b2 _ _ h0', cells_below b2 _ _ h1', cells_below b2 _ _ h2', cells_below b2 _ _ h3', cells_below b2 _ _ h4', cells_below b2 _ _ h5'⟩)
            (first | (go_at_call 66; refine (laws_eqEvent _ _ _ _ _ _ _ _ _ _ _ _ _).mono ?_; rintro e w2 ⟨rfl, b2⟩; replace b2 := undrew b2))
          go_wp2_with (fail)
          go_roundw
          case rel => exact ⟨k + 1, by omega, by go_num, by rw [take_snoc HP.out, take_snoc HQ.out, HT.out], hb.trans (b2.mono hb.size)⟩
          case measure => simp [intOf]; omega
        · have hpq' : decide (p = q) = false := decide_eq_false hpq
          go_wp2_with (fail)
          go_region_held3 (fun W' => (W'.cell? ⟨b, off + k * 6, none⟩ = some (.int .i64 p.kind) ∧ W'.cell? ⟨b, off + k * 6 + 1, none⟩ = some (.int .i64 p.place) ∧ W'.cell? ⟨b, off + k * 6 + 2, none⟩ = some (.int .i64 p.count) ∧ W'.cell? ⟨b, off + k * 6 + 3, none⟩ = some (.int .i64 p.bed) ∧ W'.cell? ⟨b, off + k * 6 + 4, none⟩ = some (.int .i64 p.carrier) ∧ W'.cell? ⟨b, off + k * 6 + 5, none⟩ = some (.int .i64 p.dir)) ∧ (W'.cell? ⟨b', off' + k * 6, none⟩ = some (.int .i64 q.kind) ∧ W'.cell? ⟨b', off' + k * 6 + 1, none⟩ = some (.int .i64 q.place) ∧ W'.cell? ⟨b', off' + k * 6 + 2, none⟩ = some (.int .i64 q.count) ∧ W'.cell? ⟨b', off' + k * 6 + 3, none⟩ = some (.int .i64 q.bed) ∧ W'.cell? ⟨b', off' + k * 6 + 4, none⟩ = some (.int .i64 q.carrier) ∧ W'.cell? ⟨b', off' + k * 6 + 5, none⟩ = some (.int .i64 q.dir))) (first | exact ⟨⟨h0, h1, h2, h3, h4, h5⟩, h0', h1', h2', h3', h4', h5'⟩ | exact ⟨⟨cells_below b2 _ _ h0, cells_below b2 _ _ h1, cells_below b2 _ _ h2, cells_below b2 _ _ h3, cells_below b2 _ _ h4, cells_below b2 _ _ h5⟩, cells_below b2 _ _ h0', cells_below b2 _ _ h1', cells_below b2 _ _ h2', cells_below b2 _ _ h3', cells_below b2 _ _ h4', cells_below b2 _ _ h5'⟩)
            (first | (go_at_call 66; refine (laws_eqEvent _ _ _ _ _ _ _ _ _ _ _ _ _).mono ?_; rintro e w2 ⟨rfl, b2⟩; replace b2 := undrew b2))
          go_wp2_with (fail)
          go_ret
          exact ⟨ret_bool (by simpa using ne_of_getElem? HP.out HQ.out hpq), hb.trans (b2.mono hb.size)⟩
      · go_wp2
        go_ret
        have : k = ps.length := by omega
        subst this
        have e := HT.out
        rw [take_all (Nat.le_refl _), take_all (by rw [HL.out]; exact Nat.le_refl _)] at e
        exact ⟨ret_bool (by simpa using e), hb⟩
  · have hle' : ((ps.length : Int) != (qs.length : Int)) = true := by simp; omega
    go_enter Try.func14, Try.ntmps14
    go_wp2
    go_ret
    exact ⟨ret_bool (by simp; intro e; exact hle (by rw [e])), Below.refl _ _⟩

def marksEvent (k : Int) (m : Nat) : List EventD := (List.range m).map fun (i : Nat) => ⟨k + 6 * i, k + 6 * i + 1, k + 6 * i + 2, k + 6 * i + 3, k + 6 * i + 4, k + 6 * i + 5⟩
theorem marksEvent_length (k : Int) (m : Nat) : (marksEvent k m).length = m := by simp [marksEvent]
theorem marksEvent_snoc (k : Int) (m : Nat) : marksEvent k (m + 1) = marksEvent k m ++ [⟨k + 6 * m, k + 6 * m + 1, k + 6 * m + 2, k + 6 * m + 3, k + 6 * m + 4, k + 6 * m + 5⟩] := by simp [marksEvent, List.range_succ]
theorem marksEvent_at {k : Int} {m i : Nat} {p : EventD} (h : (marksEvent k m)[i]? = some p) : p = ⟨k + 6 * i, k + 6 * i + 1, k + 6 * i + 2, k + 6 * i + 3, k + 6 * i + 4, k + 6 * i + 5⟩ := by
  simp only [marksEvent, List.getElem?_map, Option.map_eq_some_iff] at h
  obtain ⟨j, hj, rfl⟩ := h
  obtain ⟨hl, he⟩ := List.getElem?_eq_some_iff.1 hj
  simp at he
  subst he
  rfl

set_option maxHeartbeats 1000000 in
theorem laws_markEventS (A : Option Addr) (c : Nat) (ps : List EventD) (k0 : Int) (lo hi : Nat) (w : World) (h : OwnEvent w lo hi A c ps) (hk0 : 0 ≤ k0) (hk1 : k0 + 6 * ps.length ≤ 1000000000000) :
    Calls Try.prog 19 #[.slice A ps.length c, .int .i64 k0] w fun e w' => e = .returned (.int .i64 (k0 + 6 * ps.length)) ∧ OwnC w' lo hi 96 6 A ps.length c (cellsEvent (marksEvent k0 ps.length)) ∧ Upd lo hi w w' := by
  have hlen : ps.length ≤ 9223372036854775807 := by omega
  go_enter Try.func19, Try.ntmps19
  go_wp2
  go_loopw [1, 5] (fun kv i wr => ∃ (k : Nat) (cs : List Value), k ≤ ps.length ∧ i = .int .i64 k ∧ kv = .int .i64 (k0 + 6 * k) ∧ OwnC wr lo hi 96 6 A ps.length c cs ∧ cs.take (k * 6) = cellsEvent (marksEvent k0 k) ∧ Upd lo hi w wr) (fun _ i _ => ps.length - (intOf i).toNat)
  case atStart => exact ⟨0, _, Nat.zero_le _, rfl, by simp, h, by simp [marksEvent, cellsEvent], Upd.refl _ _ _⟩
  case round =>
    clear h
    obtain ⟨k, cs, hk, rfl, rfl, ho, htk, hu⟩ := hrel
    have hcl : cs.length = ps.length * 6 := ho.len
    have HT := Lib.hid htk; clear htk
    have HC := Lib.hid hcl; clear hcl
    by_cases hlt : k < ps.length
    · obtain ⟨g, rfl, hg1, hg2, q0, f0⟩ := ho.cell (j := k * 6) (by rw [HC.out]; omega)
      obtain ⟨_, hA1, _, _, q1, f1⟩ := ho.cell (j := k * 6 + 1) (by rw [HC.out]; omega)
      injection hA1 with hA1
      injection hA1 with hA1
      subst hA1
      obtain ⟨_, hA2, _, _, q2, f2⟩ := ho.cell (j := k * 6 + 2) (by rw [HC.out]; omega)
      injection hA2 with hA2
      injection hA2 with hA2
      subst hA2
      obtain ⟨_, hA3, _, _, q3, f3⟩ := ho.cell (j := k * 6 + 3) (by rw [HC.out]; omega)
      injection hA3 with hA3
      injection hA3 with hA3
      subst hA3
      obtain ⟨_, hA4, _, _, q4, f4⟩ := ho.cell (j := k * 6 + 4) (by rw [HC.out]; omega)
      injection hA4 with hA4
      injection hA4 with hA4
      subst hA4
      obtain ⟨_, hA5, _, _, q5, f5⟩ := ho.cell (j := k * 6 + 5) (by rw [HC.out]; omega)
      injection hA5 with hA5
      injection hA5 with hA5
      subst hA5
      go_wp2_with (fail)
      go_roundw
      case rel =>
        refine ⟨k + 1, ((((((cs.set (k * 6) (.int .i64 (k0 + 6 * k))).set (k * 6 + 1) (.int .i64 (k0 + 6 * k + 1))).set (k * 6 + 2) (.int .i64 (k0 + 6 * k + 1 + 1))).set (k * 6 + 3) (.int .i64 (k0 + 6 * k + 1 + 1 + 1))).set (k * 6 + 4) (.int .i64 (k0 + 6 * k + 1 + 1 + 1 + 1))).set (k * 6 + 5) (.int .i64 (k0 + 6 * k + 1 + 1 + 1 + 1 + 1))), by omega, by go_num, by push_cast; go_num, ((((((ho.store _).1.store _).1.store _).1.store _).1.store _).1.store _).1, ?_, Upd.setCell (Upd.setCell (Upd.setCell (Upd.setCell (Upd.setCell (Upd.setCell (hu) hg1 hg2 _) hg1 hg2 _) hg1 hg2 _) hg1 hg2 _) hg1 hg2 _) hg1 hg2 _⟩
        rw [marksEvent_snoc, cellsEvent_snoc, ← HT.out]
        rw [take_set6 cs (k * 6) _ (by rw [Nat.succ_mul]) (by rw [HC.out]; omega)]
        simp [Int.add_assoc]
      case measure => simp [intOf]; omega
    · go_wp2
      go_ret
      have : k = ps.length := by omega
      subst this
      have e : cs = cellsEvent (marksEvent k0 ps.length) := by
        have := HT.out
        rwa [take_all (by rw [HC.out]; exact Nat.le_refl _)] at this
      subst e
      exact ⟨rfl, ho, hu⟩

set_option maxHeartbeats 1000000 in
theorem laws_heldEventS (A : Option Addr) (c m : Nat) (k0 : Int) (w : World) (h : Events w A (marksEvent k0 m)) (hk0 : 0 ≤ k0) (hk1 : k0 + 6 * m ≤ 1000000000000) :
    Calls Try.prog 20 #[.slice A m c, .int .i64 k0] w fun e w' => e = .returned (.int .i64 (k0 + 6 * m)) ∧ w = w' := by
  go_enter Try.func20, Try.ntmps20
  go_wp2
  go_loop [1, 5] (fun kv i => ∃ (k : Nat), k ≤ m ∧ i = .int .i64 k ∧ kv = .int .i64 (k0 + 6 * k)) (fun _ i => m - (intOf i).toNat)
  case atStart => exact ⟨0, Nat.zero_le _, rfl, by simp⟩
  case round =>
    obtain ⟨k, hk, rfl, rfl⟩ := hrel
    by_cases hlt : k < m
    · obtain ⟨b, off, p, rfl, hp, h0, h1, h2, h3, h4, h5⟩ := h k (by rw [marksEvent_length]; exact hlt)
      obtain rfl := marksEvent_at hp
      clear hp
      go_wp2_with (fail)
      go_round
      case rel => exact ⟨k + 1, by omega, by go_num, by push_cast; go_num⟩
      case measure => simp [intOf]; omega
    · go_wp2
      go_ret
      have : k = m := by omega
      subst this
      exact ⟨rfl, rfl⟩

end Go.Proofs.Ytifjdiiafofnpaa

/- Events: the plain functions. -/
namespace Go.Proofs.Ytifjdiiafofnpaa
open Go.RowKit

def plainE (e : EventD) : Bool := decide (e.bed = 0) && decide (e.carrier = 0) && decide (e.dir = 0)
def bedB (b : Int) : Bool := inR b 1 2
def yarnE (e : EventD) : Bool := bedB e.bed && carrierB e.carrier && dirB e.dir
def evOk (e : EventD) (n : Int) : Bool :=
  decide (0 ≤ e.place) && decide (e.place ≤ n) &&
    (if e.kind = 1 then plainE e && (decide (e.count = 1) || decide (e.count = -1)) && decide (e.place + 1 < n)
    else if e.kind = 2 then yarnE e && inR e.count 0 4 && decide (e.place + e.count ≤ n)
    else if e.kind = 3 then yarnE e && decide (e.count = 0)
    else if e.kind = 4 then plainE e && inR e.count 1 4 && decide (e.place + e.count ≤ n)
    else if e.kind = 5 then yarnE e && inR e.count 1 4 && (if e.bed = 1 then decide (e.place + e.count ≤ n) else decide (e.count ≤ e.place))
    else false)
def evNext (e : EventD) (n : Int) : Int := if e.kind = 2 then n - e.count + 1 else if e.kind = 3 ∨ e.kind = 5 then n + 1 else if e.kind = 4 then n - e.count else n
def strands : List EventD → Int → Option Int
  | [], n => some n
  | e :: es, n => if evOk e n && decide (evNext e n ≤ 12) then strands es (evNext e n) else none
def eventsB (es : List EventD) : Bool := (strands es 0).isSome && decide (es.length ≤ 2000)
def eventCounts (es : List EventD) : List Int := es.foldl (fun cs e => bump cs e.kind) [0, 0, 0, 0, 0]
def eventCountsP (es : List EventD) : List Int := if eventsB es then eventCounts es else []
def eventCode (es : List EventD) : Int := if eventsB es then 0 else 1

theorem evNext_ge {e : EventD} {n : Int} (h : evOk e n = true) (hn : 0 ≤ n) : 0 ≤ evNext e n := by
  unfold evOk at h
  unfold evNext
  simp only [Bool.and_eq_true, decide_eq_true_eq] at h
  obtain ⟨⟨h1, h2⟩, h3⟩ := h
  split
  · rename_i h4
    rw [if_neg (by omega), if_pos h4] at h3
    simp only [Bool.and_eq_true, decide_eq_true_eq] at h3
    omega
  · split
    · omega
    · split
      · rename_i h4 h5 h6
        rw [if_neg (by omega), if_neg (by omega), if_neg (by omega), if_pos h6] at h3
        simp only [Bool.and_eq_true, decide_eq_true_eq] at h3
        omega
      · exact hn
theorem evOk_kind {e : EventD} {n : Int} (h : evOk e n = true) : 1 ≤ e.kind ∧ e.kind ≤ 5 := by
  unfold evOk at h
  by_cases h1 : 1 ≤ e.kind ∧ e.kind ≤ 5
  · exact h1
  · rw [if_neg (by omega), if_neg (by omega), if_neg (by omega), if_neg (by omega), if_neg (by omega)] at h
    simp at h
theorem strands_kinds {es : List EventD} {n m : Int} (h : strands es n = some m) : ∀ e ∈ es, 1 ≤ e.kind ∧ e.kind ≤ 5 := by
  induction es generalizing n with
  | nil => simp
  | cons e es ih =>
    rw [strands] at h
    split at h
    · rename_i h1
      simp only [Bool.and_eq_true] at h1
      intro x hx
      rcases List.mem_cons.1 hx with rfl | hx
      · exact evOk_kind h1.1
      · exact ih h x hx
    · cases h
theorem eventsB_kinds {es : List EventD} (h : eventsB es = true) : es.length ≤ 2000 ∧ ∀ e ∈ es, 1 ≤ e.kind ∧ e.kind ≤ 5 := by
  unfold eventsB at h
  simp only [Bool.and_eq_true, decide_eq_true_eq] at h
  obtain ⟨m, hm⟩ := Option.isSome_iff_exists.1 h.1
  exact ⟨h.2, strands_kinds hm⟩
theorem eventCounts_length (es : List EventD) : (eventCounts es).length = 5 := by
  unfold eventCounts
  suffices h : ∀ cs : List Int, (es.foldl (fun cs e => bump cs e.kind) cs).length = cs.length by rw [h]; rfl
  induction es with
  | nil => intro cs; rfl
  | cons e r ih => intro cs; rw [List.foldl_cons, ih]; simp [bump]
theorem eventCountsP_length (es : List EventD) : (eventCountsP es).length ≤ 5 := by
  unfold eventCountsP
  split
  · rw [eventCounts_length]; omega
  · simp
theorem eventCounts_snoc {es : List EventD} {j : Nat} {e : EventD} (h : es[j]? = some e) : eventCounts (es.take (j + 1)) = bump (eventCounts (es.take j)) e.kind := by
  unfold eventCounts
  rw [take_snoc h, List.foldl_append]
  rfl
theorem strands_small {es : List EventD} {n m : Int} (h : strands es n = some m) (h0 : 0 ≤ n) (h1 : n ≤ 12) : 0 ≤ m ∧ m ≤ 12 := by
  induction es generalizing n with
  | nil => injection h with h; omega
  | cons e es ih =>
    rw [strands] at h
    split at h
    · rename_i h2
      simp only [Bool.and_eq_true, decide_eq_true_eq] at h2
      exact ih h (evNext_ge h2.1 h0) h2.2
    · cases h

end Go.Proofs.Ytifjdiiafofnpaa

/- Events: whether they are valid, the given side. -/
namespace Go.Proofs.Ytifjdiiafofnpaa
open Go Go.RowKit

theorem evOk_1 {e : EventD} {n : Int} (h0 : 0 ≤ e.place) (h1 : e.place ≤ n) (k : e.kind = 1) : evOk e n = (plainE e && (decide (e.count = 1) || decide (e.count = -1)) && decide (e.place + 1 < n)) ∧ evNext e n = n := by
  simp [evOk, evNext, h0, h1, k]
theorem evOk_2 {e : EventD} {n : Int} (h0 : 0 ≤ e.place) (h1 : e.place ≤ n) (k : e.kind = 2) : evOk e n = (yarnE e && inR e.count 0 4 && decide (e.place + e.count ≤ n)) ∧ evNext e n = n - e.count + 1 := by
  simp [evOk, evNext, h0, h1, k]
theorem evOk_3 {e : EventD} {n : Int} (h0 : 0 ≤ e.place) (h1 : e.place ≤ n) (k : e.kind = 3) : evOk e n = (yarnE e && decide (e.count = 0)) ∧ evNext e n = n + 1 := by
  simp [evOk, evNext, h0, h1, k]
theorem evOk_4 {e : EventD} {n : Int} (h0 : 0 ≤ e.place) (h1 : e.place ≤ n) (k : e.kind = 4) : evOk e n = (plainE e && inR e.count 1 4 && decide (e.place + e.count ≤ n)) ∧ evNext e n = n - e.count := by
  simp [evOk, evNext, h0, h1, k]
theorem evOk_5 {e : EventD} {n : Int} (h0 : 0 ≤ e.place) (h1 : e.place ≤ n) (k : e.kind = 5) : evOk e n = (yarnE e && inR e.count 1 4 && (if e.bed = 1 then decide (e.place + e.count ≤ n) else decide (e.count ≤ e.place))) ∧ evNext e n = n + 1 := by
  simp [evOk, evNext, h0, h1, k]
theorem evOk_6 {e : EventD} {n : Int} (k1 : ¬ e.kind = 1) (k2 : ¬ e.kind = 2) (k3 : ¬ e.kind = 3) (k4 : ¬ e.kind = 4) (k5 : ¬ e.kind = 5) : evOk e n = false := by
  simp [evOk, k1, k2, k3, k4, k5]
theorem evOk_lo {e : EventD} {n : Int} (h : e.place < 0) : evOk e n = false := by
  have : ¬ 0 ≤ e.place := by omega
  simp [evOk, this]
theorem evOk_hi {e : EventD} {n : Int} (h : n < e.place) : evOk e n = false := by
  have : ¬ e.place ≤ n := by omega
  simp [evOk, this]

theorem ret_vb {v : Int} {b c : Bool} (h : b = c) : (Ending.returned (.tuple #[.int .i64 v, .bool b]) : Ending) = .returned (.tuple #[.int .i64 v, .bool c]) := by rw [h]
theorem bool3 (a b c : Bool) : a = false ∨ (a = true ∧ b = false) ∨ (a = true ∧ b = true ∧ c = false) ∨ (a = true ∧ b = true ∧ c = true) := by cases a <;> cases b <;> cases c <;> simp
theorem int3 (a b c : Int) : ¬ a = 0 ∨ (a = 0 ∧ ¬ b = 0) ∨ (a = 0 ∧ b = 0 ∧ ¬ c = 0) ∨ (a = 0 ∧ b = 0 ∧ c = 0) := by omega
theorem bool2 (a b : Bool) : a = false ∨ (a = true ∧ b = false) ∨ (a = true ∧ b = true) := by cases a <;> cases b <;> simp

end Go.Proofs.Ytifjdiiafofnpaa
