/- Steps of the proof, joined from several texts: XR XS. -/
import Derived.Test.YtfgbhhkmdeljoaaZ12
import Derived.Test.YtfgbhhkmdeljoaaZ7
import Derived.Test.YtfgbhhkmdeljoaaZ15
import Derived.Test.YtfgbhhkmdeljoaaZ13

/- Cables: IsCable. -/
namespace Go.Proofs.Ytfgbhhkmdeljoaa
open Go.RowKit

theorem kinds_plain {k : Int} (h : isStitchB k = true) : decide (k ∈ [1, 2, 8, 9, 10, 11]) = !inR k 3 7 := by
  rcases stitch_cases h with rfl | rfl | rfl | rfl | rfl | rfl | rfl | rfl | rfl | rfl | rfl <;> decide
theorem plainRow_any (s : List Int) : (!s.any (fun n => inR n 3 7)) = plainRow s := by
  rw [plainRow, List.all_eq_not_any_not]
  simp

theorem impl_isCable_1 (n : Int) (w : World) : Calls Try.prog 110 #[.int .i64 n] w fun e w' => e = .returned (.bool (inR n 3 7)) ∧ w = w' := by
  go_enter Try.func110, Try.ntmps110
  go_wp2_with (refine (impl_within _ _ _ _).mono ?_; rintro e w' ⟨rfl, rfl⟩)
  go_ret
  exact ⟨rfl, rfl⟩
theorem indexFunc_isCable_1 (A : Option Addr) (c : Nat) (xs : List Int) (w : World) (h : Ints w A xs) (hl : xs.length ≤ 9223372036854775807) : Calls Try.prog 144 #[.slice A xs.length c, .func (.func 110) #[] #[]] w fun e w' => AnyInt (fun k => decide (0 ≤ k) = xs.any (fun n => inR n 3 7) ∧ k ≤ 9223372036854775807) e ∧ w = w' := by
  go_enter Try.func144, Try.ntmps144
  go_wp2
  go_loop [8] (fun i => ∃ k : Nat, k ≤ xs.length ∧ i = .int .i64 k ∧ (xs.take k).any (fun n => inR n 3 7) = false) (fun i => xs.length - (intOf i).toNat)
  case atStart => exact ⟨0, Nat.zero_le _, rfl, rfl⟩
  case round =>
    obtain ⟨k, hk, rfl, ha⟩ := hrel
    have HA := Lib.hid ha; clear ha
    by_cases hlt : k < xs.length
    · obtain ⟨b, off, x, rfl, hc, hx⟩ := h k hlt
      have HX := Lib.hid hx; clear hx
      go_wp2_with (refine (impl_isCable_1 _ _).mono ?_; rintro e w' ⟨rfl, rfl⟩)
      · have hq : inR x 3 7 = true := by assumption
        go_ret
        refine ⟨⟨_, rfl, ?_, by omega⟩, rfl⟩
        rw [any_true_at HX.out hq]
        simp
      · have hq : inR x 3 7 = false := by assumption
        go_round
        case rel => exact ⟨k + 1, by omega, by go_num, by rw [take_snoc HX.out, List.any_append, HA.out]; simpa using hq⟩
        case measure => simp [intOf]; omega
    · go_wp2
      go_ret
      refine ⟨⟨_, rfl, ?_, by omega⟩, rfl⟩
      have := HA.out
      rw [take_all (by omega)] at this
      rw [this]
      rfl
theorem containsFunc_isCable_1 (A : Option Addr) (c : Nat) (xs : List Int) (w : World) (h : Ints w A xs) (hl : xs.length ≤ 9223372036854775807) : Calls Try.prog 109 #[.slice A xs.length c, .func (.func 110) #[] #[]] w fun e w' => e = .returned (.bool (!plainRow xs)) ∧ w = w' := by
  go_enter Try.func109, Try.ntmps109
  go_wp2_with (refine (indexFunc_isCable_1 _ _ _ _ h hl).mono ?_; rintro e w' ⟨⟨k, rfl, hk, hk'⟩, rfl⟩)
  go_ret
  exact ⟨ret_bool (by rw [← plainRow_any]; simp), rfl⟩

theorem impl_isCable (n : Int) (rs : List RowD) (A : Option Addr) (c : Nat) (w : World) (h : RowsR w A rs) (hl : rs.length ≤ 9223372036854775807) :
    Calls Try.prog 76 #[.agg #[.int .i64 n, .slice A rs.length c]] w fun e w' => e = .returned (.bool (plainB rs)) ∧ Below w.heap.size w w' := by
  go_enter Try.func76, Try.ntmps76
  go_wp2_with (fail)
  go_loopw [8] (fun iv wr => ∃ k : Nat, k ≤ rs.length ∧ iv = .int .i64 k ∧ Below w.heap.size w wr ∧ Hid (plainB (rs.take k) = true)) (fun iv _ => rs.length - (intOf iv).toNat)
  case atStart => exact ⟨0, Nat.zero_le _, rfl, by (repeat (first | exact Below.refl _ _ | assumption | apply Below.drew | apply below_drewN | (refine Below.alloc ?_ (by first | omega | (simp; done) | (simp; omega)) _) | (refine Below.setCell ?_ (by first | omega | (simp; done) | (simp; omega)) _))), Lib.hid rfl⟩
  case round =>
    obtain ⟨k, hk, rfl, hb, HA⟩ := hrel
    have hzs := hb.size
    by_cases hlt : k < rs.length
    · obtain ⟨b, off, A7, c7, q, rfl, hx, f0, f1, f2, hi, hil⟩ := (h.below hb) k hlt
      have HX := Lib.hid hx; clear hx
      have j1 : (0 : Int) ≤ (k : Int) := by omega
      have j2 : (k : Int) < (rs.length : Int) := by omega
      have b2 : Below wr.heap.size wr (wr.alloc (.cells #[.int .i64 q.d, .int .i64 q.r, .slice A7 q.s.length c7] 60)) := by (repeat (first | exact Below.refl _ _ | assumption | apply Below.drew | apply below_drewN | (refine Below.alloc ?_ (by first | omega | (simp; done) | (simp; omega)) _) | (refine Below.setCell ?_ (by first | omega | (simp; done) | (simp; omega)) _)))
      obtain ⟨r0, r1, r2⟩ := (Blk.new wr 60 #[.int .i64 q.d, .int .i64 q.r, .slice A7 q.s.length c7]).c3
      have hi2 := hi.below b2
      have hb2 : Below w.heap.size w (wr.alloc (.cells #[.int .i64 q.d, .int .i64 q.r, .slice A7 q.s.length c7] 60)) := hb.trans (b2.mono hzs)
      cases hp : plainRow q.s
      · have HF : Hid (plainB rs = false) := Lib.hid (by
          rw [plainB, ← Bool.not_eq_true, List.all_eq_true]
          intro hall
          have := hall q (List.mem_of_getElem? HX.out)
          rw [hp] at this; cases this)
        go_wp2_with (refine (containsFunc_isCable_1 _ _ _ _ hi2 hil).mono ?_; rintro e w' ⟨rfl, rfl⟩; rw [hp])
        go_ret
        exact ⟨ret_bool HF.out.symm, hb2⟩
      · have HP := Lib.hid hp
        go_wp2_with (refine (containsFunc_isCable_1 _ _ _ _ hi2 hil).mono ?_; rintro e w' ⟨rfl, rfl⟩; rw [hp])
        go_roundw
        case rel => exact ⟨k + 1, by omega, by go_num, hb2, Lib.hid (by rw [take_snoc HX.out, plainB, List.all_append, ← plainB, HA.out]; simp [HP.out])⟩
        case measure => simp [intOf]; omega
    · go_wp2_with (fail)
      go_ret
      have := HA.out
      rw [take_all (by omega)] at this
      exact ⟨ret_bool this.symm, hb⟩

set_option maxHeartbeats 2000000 in
theorem spec_l18Cable (g o : Nat) (_n : Int) (rs : List RowD) (A : Option Addr) (c : Nat) (w : World) (h : RowsR w A rs) (hl : rs.length ≤ 9223372036854775807) (hv : ∀ r ∈ rs, stitchesB r.s = true)
    (c1 : w.cell? ⟨g, o + 1, none⟩ = some (.slice A rs.length c)) :
    Calls Try.prog 75 #[.pointer (some ⟨g, o, none⟩)] w fun e w' => e = .returned (.bool (plainB rs)) ∧ Below w.heap.size w w' := by
  obtain ⟨w1, hw1⟩ : ∃ w1, w1 = w.alloc (.cells #[.int .i64 1, .int .i64 2, .int .i64 8, .int .i64 9, .int .i64 10, .int .i64 11] 2) := ⟨_, rfl⟩
  have hb : Below w.heap.size w w1 := by rw [hw1]; (repeat (first | exact Below.refl _ _ | assumption | apply Below.drew | apply below_drewN | (refine Below.alloc ?_ (by first | omega | (simp; done) | (simp; omega)) _) | (refine Below.setCell ?_ (by first | omega | (simp; done) | (simp; omega)) _)))
  have hk : Ints w1 (some ⟨w.heap.size, 0, none⟩) [1, 2, 8, 9, 10, 11] := by
    rw [hw1]
    have o := OwnC.lit (w := w) (lo := w.heap.size) (n := 6) 2 1 #[.int .i64 1, .int .i64 2, .int .i64 8, .int .i64 9, .int .i64 10, .int .i64 11] (Nat.le_refl _) (by decide) rfl
    exact OwnC.ints (xs := [1, 2, 8, 9, 10, 11]) o
  have HK := Lib.hid hk; clear hk
  have q1 := cells_below hb _ _ c1
  have HV := Lib.hid hv; clear hv
  have HR := Lib.hid (h.below hb)
  go_enter Try.func75, Try.ntmps75
  go_wp2_with (fail)
  rw [← hw1]
  clear hw1 c1
  go_loop [4] (fun iv => ∃ k : Nat, k ≤ rs.length ∧ iv = .int .i64 k ∧ Hid (plainB (rs.take k) = true)) (fun iv => rs.length - (intOf iv).toNat)
  case atStart => exact ⟨0, Nat.zero_le _, rfl, Lib.hid rfl⟩
  case round =>
    obtain ⟨k, hk, rfl, HA⟩ := hrel
    by_cases hlt : k < rs.length
    · obtain ⟨b, off, A7, c7, q, rfl, hx, f0, f1, f2, hi, hil⟩ := HR.out k hlt
      have HX := Lib.hid hx; clear hx
      have j1 : (0 : Int) ≤ (k : Int) := by omega
      have j2 : (k : Int) < (rs.length : Int) := by omega
      have HS := Lib.hid (stitchesB_of (HV.out q (List.mem_of_getElem? HX.out))).2
      go_wp2_with (fail)
      go_loop [5] (fun jv => ∃ j : Nat, j ≤ q.s.length ∧ jv = .int .i64 j ∧ Hid (plainRow (q.s.take j) = true)) (fun jv => q.s.length - (intOf jv).toNat)
      case atStart => exact ⟨0, Nat.zero_le _, rfl, Lib.hid rfl⟩
      case round =>
        obtain ⟨j, hj, rfl, HB⟩ := hrel
        by_cases hjl : j < q.s.length
        · obtain ⟨b', off', y, rfl, hc, hy⟩ := hi j hjl
          have HY := Lib.hid hy; clear hy
          have HE := Lib.hid (kinds_plain (HS.out y (List.mem_of_getElem? HY.out)))
          have j3 : (0 : Int) ≤ (j : Int) := by omega
          have j4 : (j : Int) < (q.s.length : Int) := by omega
          cases hp : inR y 3 7
          · have HP := Lib.hid hp
            go_wp2_with (go_at_call 108; refine (spec_l00Has _ _ [1, 2, 8, 9, 10, 11] y _ HK.out (by decide)).mono ?_; rintro e _ ⟨rfl, rfl⟩; rw [HE.out, hp])
            go_round
            case rel => exact ⟨j + 1, by omega, by go_num, Lib.hid (by rw [take_snoc HY.out, plainRow, List.all_append, ← plainRow, HB.out]; simp [HP.out])⟩
            case measure => simp [intOf]; omega
          · have HF : Hid (plainB rs = false) := Lib.hid (by
              rw [plainB, ← Bool.not_eq_true, List.all_eq_true]
              intro hall
              have h2 := hall q (List.mem_of_getElem? HX.out)
              rw [plainRow, List.all_eq_true] at h2
              have h3 := h2 y (List.mem_of_getElem? HY.out)
              rw [hp] at h3; cases h3)
            go_wp2_with (go_at_call 108; refine (spec_l00Has _ _ [1, 2, 8, 9, 10, 11] y _ HK.out (by decide)).mono ?_; rintro e _ ⟨rfl, rfl⟩; rw [HE.out, hp])
            go_ret
            exact ⟨ret_bool HF.out.symm, hb⟩
        · have HP : Hid (plainRow q.s = true) := Lib.hid (by have := HB.out; rwa [take_all (by omega)] at this)
          go_wp2_with (fail)
          go_round
          case rel => exact ⟨k + 1, by omega, by go_num, Lib.hid (by rw [take_snoc HX.out, plainB, List.all_append, ← plainB, HA.out]; simp [HP.out])⟩
          case measure => simp [intOf]; omega
    · go_wp2_with (fail)
      go_ret
      have := HA.out
      rw [take_all (by omega)] at this
      exact ⟨ret_bool this.symm, hb⟩

theorem spec_IsCable (n : Int) (rs : List RowD) (A : Option Addr) (c : Nat) (w : World) (h : RowsR w A rs) (hl : rs.length ≤ 9223372036854775807) :
    Calls Try.prog 39 #[.agg #[.int .i64 n, .slice A rs.length c]] w fun e w' => e = .returned (.bool (cableB n rs)) ∧ Below w.heap.size w w' := by
  have hb1 : Below w.heap.size w (w.alloc (.cells #[.int .i64 n, .slice A rs.length c] 29)) := by (repeat (first | exact Below.refl _ _ | assumption | apply Below.drew | apply below_drewN | (refine Below.alloc ?_ (by first | omega | (simp; done) | (simp; omega)) _) | (refine Below.setCell ?_ (by first | omega | (simp; done) | (simp; omega)) _)))
  have ka := Blk.new w 29 #[.int .i64 n, .slice A rs.length c]
  cases hv : chartB n rs
  · have HF : Hid (cableB n rs = false) := Lib.hid (by rw [cableB, hv]; rfl)
    go_enter Try.func39, Try.ntmps39
    go_wp2_with (fail)
    refine (spec_l15Ok _ _ n rs A c _ (h.below hb1) hl ka.c2.1 ka.c2.2).mono ?_; rintro e w2 ⟨rfl, b2⟩
    have hb2 : Below w.heap.size w w2 := hb1.trans (b2.mono (by simp))
    rw [hv]
    go_wp2_with (fail)
    go_ret
    exact ⟨ret_bool HF.out.symm, hb2⟩
  · have HF : Hid (cableB n rs = plainB rs) := Lib.hid (by rw [cableB, hv]; rfl)
    have HV : Hid (∀ r ∈ rs, stitchesB r.s = true) := Lib.hid (fun r hr => (rowB_of ((chartB_of hv).2.2 r hr)).2.2.1)
    go_enter Try.func39, Try.ntmps39
    go_wp2_with (fail)
    refine (spec_l15Ok _ _ n rs A c _ (h.below hb1) hl ka.c2.1 ka.c2.2).mono ?_; rintro e w2 ⟨rfl, b2⟩
    have hb2 : Below w.heap.size w w2 := hb1.trans (b2.mono (by simp))
    have ka2 := ka.below b2 (by simp)
    rw [hv]
    go_wp2_with (fail)
    refine (spec_l18Cable _ _ n rs A c _ (h.below hb2) hl HV.out ka2.c2.2).mono ?_; rintro e w3 ⟨rfl, b3⟩
    have hb3 : Below w.heap.size w w3 := hb2.trans (b3.mono hb2.size)
    go_wp2_with (fail)
    go_ret
    exact ⟨ret_bool HF.out.symm, hb3⟩

theorem impl_IsCable (n : Int) (rs : List RowD) (A : Option Addr) (c : Nat) (w : World) (h : RowsR w A rs) (hl : rs.length ≤ 9223372036854775807) :
    Calls Try.prog 40 #[.agg #[.int .i64 n, .slice A rs.length c]] w fun e w' => e = .returned (.bool (cableB n rs)) ∧ Below w.heap.size w w' := by
  have hb1 : Below w.heap.size w (w.alloc (.cells #[.int .i64 n, .slice A rs.length c] 29)) := by (repeat (first | exact Below.refl _ _ | assumption | apply Below.drew | apply below_drewN | (refine Below.alloc ?_ (by first | omega | (simp; done) | (simp; omega)) _) | (refine Below.setCell ?_ (by first | omega | (simp; done) | (simp; omega)) _)))
  have ka := Blk.new w 29 #[.int .i64 n, .slice A rs.length c]
  cases hv : chartB n rs
  · have HF : Hid (cableB n rs = false) := Lib.hid (by rw [cableB, hv]; rfl)
    go_enter Try.func40, Try.ntmps40
    go_wp2_with (fail)
    refine (impl_ValidChart n rs A c _ (h.below hb1) hl).mono ?_; rintro e w2 ⟨rfl, b2⟩
    have hb2 : Below w.heap.size w w2 := hb1.trans (b2.mono (by simp))
    rw [hv]
    go_wp2_with (fail)
    go_ret
    exact ⟨ret_bool HF.out.symm, hb2⟩
  · have HF : Hid (cableB n rs = plainB rs) := Lib.hid (by rw [cableB, hv]; rfl)
    go_enter Try.func40, Try.ntmps40
    go_wp2_with (fail)
    refine (impl_ValidChart n rs A c _ (h.below hb1) hl).mono ?_; rintro e w2 ⟨rfl, b2⟩
    have hb2 : Below w.heap.size w w2 := hb1.trans (b2.mono (by simp))
    have ka2 := ka.below b2 (by simp)
    obtain ⟨q0, q1⟩ := ka2.c2
    rw [hv]
    go_wp2_with (fail)
    refine (impl_isCable n rs A c _ (h.below hb2) hl).mono ?_; rintro e w3 ⟨rfl, b3⟩
    have hb3 : Below w.heap.size w w3 := hb2.trans (b3.mono hb2.size)
    go_wp2_with (fail)
    go_ret
    exact ⟨ret_bool HF.out.symm, hb3⟩

end Go.Proofs.Ytfgbhhkmdeljoaa

/- Cables: CableBraid. -/
namespace Go.Proofs.Ytfgbhhkmdeljoaa
open Go Go.RowKit

theorem rowsWord_snoc {rs : List RowD} {k : Nat} {q : RowD} (h : rs[k]? = some q) : rowsWord (rs.take (k + 1)) = rowsWord (rs.take k) ++ lettersFrom q.s 0 := by
  rw [take_snoc h, rowsWord, List.flatMap_append]
  simp [rowsWord]
theorem cbCode_1 {n : Int} {rs : List RowD} (h : chartB n rs = false) : cbCode n rs = 1 := by simp [cbCode, h]
theorem cbCode_2 {n : Int} {rs : List RowD} (h : chartB n rs = true) (hp : plainB rs = false) : cbCode n rs = 6 := by simp [cbCode, h, hp]
theorem cbCode_3 {n : Int} {rs : List RowD} (h : chartB n rs = true) (hp : plainB rs = true) : cbCode n rs = if (rowsWord rs).length ≤ 40 then 0 else 5 := by simp [cbCode, h, hp]

set_option maxHeartbeats 4000000 in
set_option maxRecDepth 10000 in
theorem spec_CableBraid (n : Int) (rs : List RowD) (A : Option Addr) (c : Nat) (w : World) (h : RowsR w A rs) (hl : rs.length ≤ 9223372036854775807) :
    Calls Try.prog 41 #[.agg #[.int .i64 n, .slice A rs.length c]] w fun e w' => ∃ A' c', e = .returned (.tuple #[.agg #[.int .i64 (cbX n rs).n, .slice A' (cbX n rs).xs.length c'], .int .i64 (cbCode n rs)]) ∧ OwnI w' w.heap.size w'.heap.size A' c' (cbX n rs).xs ∧ Below w.heap.size w w' := by
  have t1 : (51 : TypeId) ≠ 2 := by decide
  have t2 : (29 : TypeId) ≠ 2 := by decide
  obtain ⟨i0, hi0, hu0, hu1, hu2⟩ := info_parts info_int64
  obtain ⟨w1, hw1⟩ : ∃ w1, w1 = (w.alloc (.cells #[.int .i64 n, .slice A rs.length c] 29)).alloc (.cells #[.int .i64 0, .slice none 0 0] 51) := ⟨_, rfl⟩
  have hb1 : Below w.heap.size w w1 := by rw [hw1]; (repeat (first | exact Below.refl _ _ | assumption | apply Below.drew | apply below_drewN | (refine Below.alloc ?_ (by first | omega | (simp; done) | (simp; omega)) _) | (refine Below.setCell ?_ (by first | omega | (simp; done) | (simp; omega)) _)))
  have ka : Blk w1 w.heap.size 29 #[.int .i64 n, .slice A rs.length c] := by rw [hw1]; exact (Blk.new w _ _).alloc _
  have kz : Blk w1 (w.heap.size + 1) 51 #[.int .i64 0, .slice none 0 0] := by rw [hw1]; simpa using Blk.new (w.alloc (.cells #[.int .i64 n, .slice A rs.length c] 29)) 51 #[.int .i64 0, .slice none 0 0]
  have hz1 : w.heap.size + 2 ≤ w1.heap.size := kz.lt
  cases hv : chartB n rs
  · have HF := Lib.hid (cb_err (cbCode_1 (n := n) hv) (by decide))
    go_enter Try.func41, Try.ntmps41
    go_wp2_with (fail)
    rw [← hw1]
    refine (spec_l15Ok _ _ n rs A c _ (h.below hb1) hl ka.c2.1 ka.c2.2).mono ?_; rintro e w2 ⟨rfl, b2⟩
    have hb2 : Below w.heap.size w w2 := hb1.trans (b2.mono (by omega))
    have kz2 := kz.below b2 (by omega)
    obtain ⟨r0, r1⟩ := kz2.c2
    have g0 := kz2.frozen 0
    have g1 := kz2.frozen 1
    rw [hv]
    clear hw1
    go_wp2_with (fail)
    refine bodyPost_ret (v := .tuple #[.agg #[.int .i64 (cbX n rs).n, .slice none (cbX n rs).xs.length 0], .int .i64 (cbCode n rs)]) (by rw [HF.out.1, HF.out.2]; simp [results, Try.results41, go_sem, r0, r1]) rfl ⟨none, 0, rfl, ?_, ?_⟩
    · rw [HF.out.1]; exact OwnC.nil _ _ _ _ _
    · (repeat (first | exact Below.refl _ _ | assumption | apply Below.drew | apply below_drewN | (refine Below.alloc ?_ (by first | omega | (simp; done) | (simp; omega)) _) | (refine Below.setCell ?_ (by first | omega | (simp; done) | (simp; omega)) _)))
  · have HV : Hid (∀ r ∈ rs, stitchesB r.s = true) := Lib.hid (fun r hr => (rowB_of ((chartB_of hv).2.2 r hr)).2.2.1)
    have HV2 := Lib.hid hv
    obtain ⟨h8, hs8⟩ := lens_of_chart hv
    have HS8 := Lib.hid hs8; clear hs8
    go_enter Try.func41, Try.ntmps41
    go_wp2_with (fail)
    rw [← hw1]
    refine (spec_l15Ok _ _ n rs A c _ (h.below hb1) hl ka.c2.1 ka.c2.2).mono ?_; rintro e w2 ⟨rfl, b2⟩
    have hb2 : Below w.heap.size w w2 := hb1.trans (b2.mono (by omega))
    have ka2 := ka.below b2 (by omega)
    have kz2 := kz.below b2 (by omega)
    have hz2 := b2.size
    rw [hv]
    clear hw1 hv
    go_wp2_with (fail)
    refine (spec_l18Cable _ _ n rs A c _ (h.below hb2) hl HV.out ka2.c2.2).mono ?_; rintro e w3 ⟨rfl, b3⟩
    have hb3 : Below w.heap.size w w3 := hb2.trans (b3.mono (by omega))
    have ka3 := ka2.below b3 (by omega)
    have kz3 := kz2.below b3 (by omega)
    have hz3 := b3.size
    clear ka kz ka2 kz2
    cases hp : plainB rs
    · have HF := Lib.hid (cb_err (cbCode_2 HV2.out hp) (by decide))
      obtain ⟨r0, r1⟩ := kz3.c2
      have g0 := kz3.frozen 0
      have g1 := kz3.frozen 1
      clear hp
      go_wp2_with (fail)
      refine bodyPost_ret (v := .tuple #[.agg #[.int .i64 (cbX n rs).n, .slice none (cbX n rs).xs.length 0], .int .i64 (cbCode n rs)]) (by rw [HF.out.1, HF.out.2]; simp [results, Try.results41, go_sem, r0, r1]) rfl ⟨none, 0, rfl, ?_, ?_⟩
      · rw [HF.out.1]; exact OwnC.nil _ _ _ _ _
      · (repeat (first | exact Below.refl _ _ | assumption | apply Below.drew | apply below_drewN | (refine Below.alloc ?_ (by first | omega | (simp; done) | (simp; omega)) _) | (refine Below.setCell ?_ (by first | omega | (simp; done) | (simp; omega)) _)))
    · have HC := Lib.hid (cbCode_3 HV2.out hp)
      clear hp
      obtain ⟨p0, p1⟩ := ka3.c2
      obtain ⟨p2, p3⟩ := (ka3.alloc (.cells #[] 2)).c2
      go_wp2_with (fail)
      clear p0 p1 p2 p3
      obtain ⟨w4, hw4⟩ : ∃ w4, w4 = (w3.alloc (.cells #[] 2)).alloc (.cells #[.int .i64 n, .slice (some ⟨w3.heap.size, 0, none⟩) 0 0] 51) := ⟨_, rfl⟩
      obtain ⟨gB, hgB⟩ : ∃ gB, gB = w3.heap.size + 1 := ⟨_, rfl⟩
      have hb4 : Below w.heap.size w w4 := by rw [hw4]; (repeat (first | exact Below.refl _ _ | assumption | apply Below.drew | apply below_drewN | (refine Below.alloc ?_ (by first | omega | (simp; done) | (simp; omega)) _) | (refine Below.setCell ?_ (by first | omega | (simp; done) | (simp; omega)) _)))
      have ka4 : Blk w4 w.heap.size 29 #[.int .i64 n, .slice A rs.length c] := by rw [hw4]; exact (ka3.alloc _).alloc _
      have kz4 : Blk w4 (w.heap.size + 1) 51 #[.int .i64 0, .slice none 0 0] := by rw [hw4]; exact (kz3.alloc _).alloc _
      have kx4 : Blk w4 gB 51 #[.int .i64 n, .slice (some ⟨w3.heap.size, 0, none⟩) 0 0] := by rw [hw4, hgB]; simpa using Blk.new (w3.alloc (.cells #[] 2)) 51 #[.int .i64 n, .slice (some ⟨w3.heap.size, 0, none⟩) 0 0]
      have o4 : OwnI w4 w3.heap.size w4.heap.size (some ⟨w3.heap.size, 0, none⟩) 0 [] := by
        rw [hw4]
        exact ((OwnC.lit (w := w3) (lo := w3.heap.size) (n := 0) 2 1 #[] (Nat.le_refl _) (Nat.zero_le _) rfl).alloc _).mono (Nat.le_refl _) (by simp)
      have hgw : w3.heap.size < gB := by omega
      rw [← hgB, ← hw4]
      clear hw4 hgB
      have hz4 : gB < w4.heap.size := kx4.lt
      clear ka3 kz3 hb3 b3
      go_loopw [5] (fun iv wr => ∃ (k : Nat) (A' : Option Addr) (c' : Nat), k ≤ rs.length ∧ iv = .int .i64 k ∧ Blk wr w.heap.size 29 #[.int .i64 n, .slice A rs.length c] ∧ Blk wr (w.heap.size + 1) 51 #[.int .i64 0, .slice none 0 0] ∧ Blk wr gB 51 #[.int .i64 n, .slice A' (rowsWord (rs.take k)).length c'] ∧ OwnI wr w3.heap.size wr.heap.size A' c' (rowsWord (rs.take k)) ∧ Below w.heap.size w wr ∧ (rowsWord (rs.take k)).length ≤ 64 * k) (fun iv _ => rs.length - (intOf iv).toNat)
      case atStart => exact ⟨0, some ⟨w3.heap.size, 0, none⟩, 0, Nat.zero_le _, rfl, ka4, kz4, kx4, o4, hb4, by simp [rowsWord]⟩
      case round =>
        clear ka4 kz4 kx4 o4 hb4 hz4
        obtain ⟨k, A', c', hk, rfl, kar, kzr, kxr, oor, hbr, hln⟩ := hrel
        have hzr := hbr.size
        have hxl := kxr.lt
        by_cases hkl : k < rs.length
        · obtain ⟨b, off, A7, c7, q, rfl, hx, f0, f1, f2, hi, hil⟩ := (h.below hbr) k hkl
          have hqs := HV.out q (List.mem_of_getElem? hx)
          have hq16 := (stitchesB_of hqs).1
          have HX := Lib.hid (rowsWord_snoc hx); clear hx
          have hnl : (lettersFrom q.s 0).length ≤ 64 := by have := lettersFrom_length q.s 0; omega
          generalize rowsWord (rs.take k) = out at kxr oor hln HX ⊢
          have j1 : (0 : Int) ≤ (k : Int) := by omega
          have j2 : (k : Int) < (rs.length : Int) := by omega
          obtain ⟨x0, x1⟩ := kar.c2
          go_wp2_with (fail)
          (refine wp_region_pops 3 (S := (fun W' => W'.cell? ⟨gB, 1, none⟩ = some (.slice A' out.length c') ∧ W'.cell? ⟨w.heap.size, 1, none⟩ = some (.slice (some ⟨b, off, none⟩) rs.length c))) (pre := ?_) (T := ?_) (n := ?_) (by kernel_rfl) (by kernel_rfl) ?_ ?_ ?_ ?_ (fun hHeld => ?_); rotate_left 3; (focus (simp only [pops, List.pop_toArray, List.dropLast_cons_cons, List.dropLast_singleton]; rfl)); (focus (simp only [tailOf, List.pop_toArray, List.dropLast_cons_cons, List.dropLast_singleton, List.back?_toArray, List.getLast?_cons_cons, List.getLast?_singleton, Option.toList_some, List.nil_append, List.cons_append]; rfl)); (focus rfl); (focus (exact ⟨kxr.c2.2, kar.c2.2⟩)))
          ((refine wpAnyH_take (i := 0) (v := ?_) rfl (by kernel_rfl) (by kernel_rfl) (by kernel_rfl) (fun _ _ _ h => h) (Or.inl ⟨by rfl, ?_⟩) (by assumption) ?_; rotate_left; (focus (intro W hSw; (try dsimp only at hSw); go_simp; try (with_reducible rfl)))); (try simp only [List.getElem_toArray, List.getElem_cons_zero, Act.put, List.setIfInBounds_toArray, List.set_cons_zero, List.set_cons_succ]); (refine wpAnyH_take (i := 1) (v := ?_) rfl (by kernel_rfl) (by kernel_rfl) (by kernel_rfl) (fun _ _ _ h => h) (Or.inl ⟨by rfl, ?_⟩) (by assumption) ?_; rotate_left; (focus (intro W hSw; (try dsimp only at hSw); go_simp; try (with_reducible rfl)))); (try simp only [List.getElem_toArray, List.getElem_cons_zero, List.getElem_cons_succ, Act.put, List.setIfInBounds_toArray, List.set_cons_zero, List.set_cons_succ]); (refine wpAnyH_take (i := 2) (v := ?_) rfl (by kernel_rfl) (by kernel_rfl) (by kernel_rfl) (fun _ _ _ h => h) (Or.inl ⟨by rfl, ?_⟩) (by assumption) ?_; rotate_left; (focus (intro W hSw; (try dsimp only at hSw); go_simp; try (with_reducible rfl)))); (try simp only [List.getElem_toArray, List.getElem_cons_zero, List.getElem_cons_succ, Act.put, List.setIfInBounds_toArray, List.set_cons_zero, List.set_cons_succ]); (refine wpAnyH_take (i := 3) (v := ?_) rfl (by kernel_rfl) (by kernel_rfl) (by kernel_rfl) (fun _ _ _ h => h) (Or.inl ⟨by rfl, ?_⟩) (by assumption) ?_; rotate_left; (focus (intro W hSw; (try dsimp only at hSw); go_simp; try (with_reducible rfl)))); (try simp only [List.getElem_toArray, List.getElem_cons_zero, List.getElem_cons_succ, Act.put, List.setIfInBounds_toArray, List.set_cons_zero, List.set_cons_succ]); (refine wpAnyH_take (i := 4) (v := ?_) rfl (by kernel_rfl) (by kernel_rfl) (by kernel_rfl) (fun _ _ _ h => h) (Or.inl ⟨by rfl, ?_⟩) (by assumption) ?_; rotate_left; (focus (intro W hSw; (try dsimp only at hSw); go_simp; try (with_reducible rfl)))); (try simp only [List.getElem_toArray, List.getElem_cons_zero, List.getElem_cons_succ, Act.put, List.setIfInBounds_toArray, List.set_cons_zero, List.set_cons_succ]); (refine wpAnyH_take (i := 5) (v := ?_) rfl (by kernel_rfl) (by kernel_rfl) (by kernel_rfl) (fun _ _ _ h => h) (Or.inl ⟨by rfl, ?_⟩) (by assumption) ?_; rotate_left; (focus (intro W hSw; (try dsimp only at hSw); go_simp; try (with_reducible rfl)))); (try simp only [List.getElem_toArray, List.getElem_cons_zero, List.getElem_cons_succ, Act.put, List.setIfInBounds_toArray, List.set_cons_zero, List.set_cons_succ]))
          (refine wpAnyH_ready (rs := [6]) (by kernel_rfl) (by simp) ?_; refine AllReadyH.cons rfl (fun K hK => ?_) AllReadyH.nil)
          go_simp
          refine (spec_l18Letters b (off + k * 3) A7 c7 q.s _ (Ints.drew1 hi) hqs f2).mono ?_; rintro e w7 ⟨A8, c8, rfl, o7', b7'⟩
          have b7 := undrew b7'
          have o7 : OwnI w7 wr.heap.size w7.heap.size A8 c8 (lettersFrom q.s 0) := o7'
          have hz7 := b7.size
          refine hK.out _ _ ⟨(kxr.below b7 (by omega)).c2.2, (kar.below b7 (by omega)).c2.2⟩ (fun hHeld => ?_)
          clear hK K b7' o7'
          (try simp only [List.getElem_toArray, List.getElem_cons_zero, List.getElem_cons_succ, Act.put, List.setIfInBounds_toArray, List.set_cons_zero, List.set_cons_succ])
          (refine wpAnyH_done (by kernel_rfl) ?_ _; change wpList _ _ _ _ _ _)
          clear hHeld
          have b17 : Below wr.heap.size wr w7 := b7
          have ka7 := kar.below b17 (by omega)
          have kz7 := kzr.below b17 (by omega)
          have kx7 := kxr.below b17 (by omega)
          have oo7 := oor.below b17 (Nat.le_refl _)
          have hb7 : Below w.heap.size w w7 := hbr.trans (b17.mono (by omega))
          generalize lettersFrom q.s 0 = ms at o7 hnl HX ⊢
          have HKX : Hid (∀ w8, w7.grownBy w8 (Value.slice A' out.length c').ownBlock → Blk w8 gB 51 #[.int .i64 n, .slice A' out.length c']) := Lib.hid (fun w8 hg => kx7.grownT oo7 t1 hg)
          go_wp2_with (at_builtin; refine wpList_appendC w7 rfl (.tmp 24) (.tmp 29) _ rfl 2 i0 _ 1 8 Try.underlying33 hi0 hu0 hu1 hu2 rfl (by decide) rfl oo7 (by omega) A8 ms.length c8 (ms.map (Value.int .i64)) rfl (by simp) o7.news (ints_one _) (by unfold maxLen; omega) (by omega) ?_; intro A9 c9 w8 ho8 hg8 hb8; have kx8 := HKX.out w8 hg8; obtain ⟨x0', x1'⟩ := kx8.c2; have x2' := kx8.frozen 1)
          have kx8 := HKX.out w8 hg8
          have ka8 := ka7.grownT oo7 t2 hg8
          have kz8 := kz7.grownT oo7 t1 hg8
          have hz8 := hg8.size
          have hb8' : Below w.heap.size w w8 := hb7.trans (hb8.mono (by omega))
          refine ⟨⟨k + 1, A9, c9, by omega, by go_num, ka8.far (by show w.heap.size ≠ gB; omega) _, kz8.far (by show w.heap.size + 1 ≠ gB; omega) _, ?_, ?_, by (repeat (first | exact Below.refl _ _ | assumption | apply Below.drew | apply below_drewN | (refine Below.alloc ?_ (by first | omega | (simp; done) | (simp; omega)) _) | (refine Below.setCell ?_ (by first | omega | (simp; done) | (simp; omega)) _))), ?_⟩, by first | (simp [intOf]; done) | (simp [intOf]; omega)⟩
          · rw [HX.out, List.length_append]; exact kx8.set21 _
          · rw [HX.out]
            show OwnC _ _ _ _ _ _ _ _ _
            rw [List.map_append, List.length_append]
            exact (ho8.farT kx8 t1 1 _).mono (Nat.le_refl _) (by simp)
          · rw [HX.out, List.length_append]; omega
        · obtain rfl : k = rs.length := by omega
          rw [take_all (Nat.le_refl _)] at kxr oor
          clear hln
          generalize hqs : rowsWord rs = qs at kxr oor HC
          have HQ := Lib.hid hqs; clear hqs
          obtain ⟨x0, x1⟩ := kxr.c2
          obtain ⟨y0, y1⟩ := kar.c2
          obtain ⟨r0, r1⟩ := kzr.c2
          have g0 := kzr.frozen 0
          have g1 := kzr.frozen 1
          by_cases h40 : qs.length ≤ 40
          · have h40' : decide ((40 : Int) < (qs.length : Int)) = false := decide_eq_false (by omega)
            have HF : Hid (cbX n rs = ⟨n, qs⟩ ∧ cbCode n rs = 0) := Lib.hid (by
              have e : cbCode n rs = 0 := by rw [HC.out, if_pos h40]
              exact ⟨by rw [cbX, if_pos e, HQ.out], e⟩)
            clear h40
            go_wp2_with (fail)
            refine bodyPost_ret (v := .tuple #[.agg #[.int .i64 (cbX n rs).n, .slice A' (cbX n rs).xs.length c'], .int .i64 (cbCode n rs)]) (by rw [HF.out.1, HF.out.2]; simp [results, Try.results41, go_sem, r0, r1]) rfl ⟨A', c', rfl, ?_, ?_⟩
            · rw [HF.out.1]
              have k1 := kzr.set20 (.int .i64 n)
              exact OwnC.mono ((oor.farT kzr t1 0 _).farT k1 t1 1 _) (by omega) (by simp)
            · (repeat (first | exact Below.refl _ _ | assumption | apply Below.drew | apply below_drewN | (refine Below.alloc ?_ (by first | omega | (simp; done) | (simp; omega)) _) | (refine Below.setCell ?_ (by first | omega | (simp; done) | (simp; omega)) _)))
          · have h40' : decide ((40 : Int) < (qs.length : Int)) = true := decide_eq_true (by omega)
            have HF := Lib.hid (cb_err (k := 5) (by rw [HC.out, if_neg h40]) (by decide))
            clear h40
            go_wp2_with (fail)
            refine bodyPost_ret (v := .tuple #[.agg #[.int .i64 (cbX n rs).n, .slice none (cbX n rs).xs.length 0], .int .i64 (cbCode n rs)]) (by rw [HF.out.1, HF.out.2]; simp [results, Try.results41, go_sem, r0, r1]) rfl ⟨none, 0, rfl, ?_, ?_⟩
            · rw [HF.out.1]; exact OwnC.nil _ _ _ _ _
            · (repeat (first | exact Below.refl _ _ | assumption | apply Below.drew | apply below_drewN | (refine Below.alloc ?_ (by first | omega | (simp; done) | (simp; omega)) _) | (refine Below.setCell ?_ (by first | omega | (simp; done) | (simp; omega)) _)))


set_option maxHeartbeats 4000000 in
set_option maxRecDepth 10000 in
theorem impl_CableBraid (n : Int) (rs : List RowD) (A : Option Addr) (c : Nat) (w : World) (h : RowsR w A rs) (hl : rs.length ≤ 9223372036854775807) :
    Calls Try.prog 42 #[.agg #[.int .i64 n, .slice A rs.length c]] w fun e w' => ∃ A' c', e = .returned (.tuple #[.agg #[.int .i64 (cbX n rs).n, .slice A' (cbX n rs).xs.length c'], .int .i64 (cbCode n rs)]) ∧ OwnI w' w.heap.size w'.heap.size A' c' (cbX n rs).xs ∧ Below w.heap.size w w' := by
  have t1 : (51 : TypeId) ≠ 2 := by decide
  have t2 : (29 : TypeId) ≠ 2 := by decide
  obtain ⟨i0, hi0, hu0, hu1, hu2⟩ := info_parts info_int64
  obtain ⟨w1, hw1⟩ : ∃ w1, w1 = (w.alloc (.cells #[.int .i64 n, .slice A rs.length c] 29)).alloc (.cells #[.int .i64 0, .slice none 0 0] 51) := ⟨_, rfl⟩
  have hb1 : Below w.heap.size w w1 := by rw [hw1]; (repeat (first | exact Below.refl _ _ | assumption | apply Below.drew | apply below_drewN | (refine Below.alloc ?_ (by first | omega | (simp; done) | (simp; omega)) _) | (refine Below.setCell ?_ (by first | omega | (simp; done) | (simp; omega)) _)))
  have ka : Blk w1 w.heap.size 29 #[.int .i64 n, .slice A rs.length c] := by rw [hw1]; exact (Blk.new w _ _).alloc _
  have kz : Blk w1 (w.heap.size + 1) 51 #[.int .i64 0, .slice none 0 0] := by rw [hw1]; simpa using Blk.new (w.alloc (.cells #[.int .i64 n, .slice A rs.length c] 29)) 51 #[.int .i64 0, .slice none 0 0]
  have hz1 : w.heap.size + 2 ≤ w1.heap.size := kz.lt
  cases hv : chartB n rs
  · have HF := Lib.hid (cb_err (cbCode_1 (n := n) hv) (by decide))
    go_enter Try.func42, Try.ntmps42
    go_wp2_with (fail)
    rw [← hw1]
    refine (impl_ValidChart n rs A c _ (h.below hb1) hl).mono ?_; rintro e w2 ⟨rfl, b2⟩
    have hb2 : Below w.heap.size w w2 := hb1.trans (b2.mono (by omega))
    have kz2 := kz.below b2 (by omega)
    obtain ⟨r0, r1⟩ := kz2.c2
    have g0 := kz2.frozen 0
    have g1 := kz2.frozen 1
    rw [hv]
    clear hw1
    go_wp2_with (fail)
    refine bodyPost_ret (v := .tuple #[.agg #[.int .i64 (cbX n rs).n, .slice none (cbX n rs).xs.length 0], .int .i64 (cbCode n rs)]) (by rw [HF.out.1, HF.out.2]; simp [results, Try.results42, go_sem, r0, r1]) rfl ⟨none, 0, rfl, ?_, ?_⟩
    · rw [HF.out.1]; exact OwnC.nil _ _ _ _ _
    · (repeat (first | exact Below.refl _ _ | assumption | apply Below.drew | apply below_drewN | (refine Below.alloc ?_ (by first | omega | (simp; done) | (simp; omega)) _) | (refine Below.setCell ?_ (by first | omega | (simp; done) | (simp; omega)) _)))
  · have HV : Hid (∀ r ∈ rs, stitchesB r.s = true) := Lib.hid (fun r hr => (rowB_of ((chartB_of hv).2.2 r hr)).2.2.1)
    have HV2 := Lib.hid hv
    obtain ⟨h8, hs8⟩ := lens_of_chart hv
    have HS8 := Lib.hid hs8; clear hs8
    go_enter Try.func42, Try.ntmps42
    go_wp2_with (fail)
    rw [← hw1]
    refine (impl_ValidChart n rs A c _ (h.below hb1) hl).mono ?_; rintro e w2 ⟨rfl, b2⟩
    have hb2 : Below w.heap.size w w2 := hb1.trans (b2.mono (by omega))
    have ka2 := ka.below b2 (by omega)
    have kz2 := kz.below b2 (by omega)
    have hz2 := b2.size
    rw [hv]
    clear hw1 hv
    obtain ⟨q0, q1⟩ := ka2.c2
    go_wp2_with (fail)
    refine (impl_isCable n rs A c _ (h.below hb2) hl).mono ?_; rintro e w3 ⟨rfl, b3⟩
    have hb3 : Below w.heap.size w w3 := hb2.trans (b3.mono (by omega))
    have ka3 := ka2.below b3 (by omega)
    have kz3 := kz2.below b3 (by omega)
    have hz3 := b3.size
    clear ka kz ka2 kz2 q0 q1
    cases hp : plainB rs
    · have HF := Lib.hid (cb_err (cbCode_2 HV2.out hp) (by decide))
      obtain ⟨r0, r1⟩ := kz3.c2
      have g0 := kz3.frozen 0
      have g1 := kz3.frozen 1
      clear hp
      go_wp2_with (fail)
      refine bodyPost_ret (v := .tuple #[.agg #[.int .i64 (cbX n rs).n, .slice none (cbX n rs).xs.length 0], .int .i64 (cbCode n rs)]) (by rw [HF.out.1, HF.out.2]; simp [results, Try.results42, go_sem, r0, r1]) rfl ⟨none, 0, rfl, ?_, ?_⟩
      · rw [HF.out.1]; exact OwnC.nil _ _ _ _ _
      · (repeat (first | exact Below.refl _ _ | assumption | apply Below.drew | apply below_drewN | (refine Below.alloc ?_ (by first | omega | (simp; done) | (simp; omega)) _) | (refine Below.setCell ?_ (by first | omega | (simp; done) | (simp; omega)) _)))
    · have HC := Lib.hid (cbCode_3 HV2.out hp)
      clear hp
      obtain ⟨p0, p1⟩ := ka3.c2
      obtain ⟨p2, p3⟩ := (ka3.alloc (.cells #[.int .i64 n, .slice none 0 0] 51)).c2
      go_wp2_with (fail)
      clear p0 p1 p2 p3
      obtain ⟨w4, hw4⟩ : ∃ w4, w4 = w3.alloc (.cells #[.int .i64 n, .slice none 0 0] 51) := ⟨_, rfl⟩
      obtain ⟨gB, hgB⟩ : ∃ gB, gB = w3.heap.size := ⟨_, rfl⟩
      have hb4 : Below w.heap.size w w4 := by rw [hw4]; (repeat (first | exact Below.refl _ _ | assumption | apply Below.drew | apply below_drewN | (refine Below.alloc ?_ (by first | omega | (simp; done) | (simp; omega)) _) | (refine Below.setCell ?_ (by first | omega | (simp; done) | (simp; omega)) _)))
      have ka4 : Blk w4 w.heap.size 29 #[.int .i64 n, .slice A rs.length c] := by rw [hw4]; exact ka3.alloc _
      have kz4 : Blk w4 (w.heap.size + 1) 51 #[.int .i64 0, .slice none 0 0] := by rw [hw4]; exact kz3.alloc _
      have kx4 : Blk w4 gB 51 #[.int .i64 n, .slice none 0 0] := by rw [hw4, hgB]; exact Blk.new _ _ _
      have o4 : OwnI w4 w3.heap.size w4.heap.size none 0 [] := OwnC.nil _ _ _ _ _
      have hgw : w3.heap.size ≤ gB := by omega
      rw [← hgB, ← hw4]
      clear hw4 hgB
      have hz4 : gB < w4.heap.size := kx4.lt
      clear ka3 kz3 hb3 b3
      go_loopw [21] (fun iv wr => ∃ (k : Nat) (A' : Option Addr) (c' : Nat), k ≤ rs.length ∧ iv = .int .i64 k ∧ Blk wr w.heap.size 29 #[.int .i64 n, .slice A rs.length c] ∧ Blk wr (w.heap.size + 1) 51 #[.int .i64 0, .slice none 0 0] ∧ Blk wr gB 51 #[.int .i64 n, .slice A' (rowsWord (rs.take k)).length c'] ∧ OwnI wr w3.heap.size wr.heap.size A' c' (rowsWord (rs.take k)) ∧ Below w.heap.size w wr ∧ (rowsWord (rs.take k)).length ≤ 64 * k) (fun iv _ => rs.length - (intOf iv).toNat)
      case atStart => exact ⟨0, none, 0, Nat.zero_le _, rfl, ka4, kz4, kx4, o4, hb4, by simp [rowsWord]⟩
      case round =>
        clear ka4 kz4 kx4 o4 hb4 hz4
        obtain ⟨k, A', c', hk, rfl, kar, kzr, kxr, oor, hbr, hln⟩ := hrel
        have hzr := hbr.size
        have hxl := kxr.lt
        by_cases hkl : k < rs.length
        · obtain ⟨b, off, A7, c7, q, rfl, hx, f0, f1, f2, hi, hil⟩ := (h.below hbr) k hkl
          have hqs := HV.out q (List.mem_of_getElem? hx)
          have hq16 := (stitchesB_of hqs).1
          have HX := Lib.hid (rowsWord_snoc hx); clear hx
          have hnl : (lettersFrom q.s 0).length ≤ 64 := by have := lettersFrom_length q.s 0; omega
          generalize rowsWord (rs.take k) = out at kxr oor hln HX ⊢
          have j1 : (0 : Int) ≤ (k : Int) := by omega
          have j2 : (k : Int) < (rs.length : Int) := by omega
          obtain ⟨x0, x1⟩ := kar.c2
          have kr := Blk.new wr 60 #[.int .i64 q.d, .int .i64 q.r, .slice A7 q.s.length c7]
          have hbx : Below wr.heap.size wr (wr.alloc (.cells #[.int .i64 q.d, .int .i64 q.r, .slice A7 q.s.length c7] 60)) := by (repeat (first | exact Below.refl _ _ | assumption | apply Below.drew | apply below_drewN | (refine Below.alloc ?_ (by first | omega | (simp; done) | (simp; omega)) _) | (refine Below.setCell ?_ (by first | omega | (simp; done) | (simp; omega)) _)))
          have kxa := kxr.alloc (.cells #[.int .i64 q.d, .int .i64 q.r, .slice A7 q.s.length c7] 60)
          go_wp2_with (fail)
          (refine wp_region_pops 3 (S := (fun W' => W'.cell? ⟨gB, 1, none⟩ = some (.slice A' out.length c') ∧ (W'.cell? ⟨wr.heap.size, 0, none⟩ = some (.int .i64 q.d) ∧ W'.cell? ⟨wr.heap.size, 1, none⟩ = some (.int .i64 q.r) ∧ W'.cell? ⟨wr.heap.size, 2, none⟩ = some (.slice A7 q.s.length c7)))) (pre := ?_) (T := ?_) (n := ?_) (by kernel_rfl) (by kernel_rfl) ?_ ?_ ?_ ?_ (fun hHeld => ?_); rotate_left 3; (focus (simp only [pops, List.pop_toArray, List.dropLast_cons_cons, List.dropLast_singleton]; rfl)); (focus (simp only [tailOf, List.pop_toArray, List.dropLast_cons_cons, List.dropLast_singleton, List.back?_toArray, List.getLast?_cons_cons, List.getLast?_singleton, Option.toList_some, List.nil_append, List.cons_append]; rfl)); (focus rfl); (focus (exact ⟨kxa.c2.2, kr.c3⟩)))
          ((refine wpAnyH_take (i := 0) (v := ?_) rfl (by kernel_rfl) (by kernel_rfl) (by kernel_rfl) (fun _ _ _ h => h) (Or.inl ⟨by rfl, ?_⟩) (by assumption) ?_; rotate_left; (focus (intro W hSw; (try dsimp only at hSw); go_simp; try (with_reducible rfl)))); (try simp only [List.getElem_toArray, List.getElem_cons_zero, Act.put, List.setIfInBounds_toArray, List.set_cons_zero, List.set_cons_succ]); (refine wpAnyH_take (i := 1) (v := ?_) rfl (by kernel_rfl) (by kernel_rfl) (by kernel_rfl) (fun _ _ _ h => h) (Or.inl ⟨by rfl, ?_⟩) (by assumption) ?_; rotate_left; (focus (intro W hSw; (try dsimp only at hSw); go_simp; try (with_reducible rfl)))); (try simp only [List.getElem_toArray, List.getElem_cons_zero, List.getElem_cons_succ, Act.put, List.setIfInBounds_toArray, List.set_cons_zero, List.set_cons_succ]); (refine wpAnyH_take (i := 2) (v := ?_) rfl (by kernel_rfl) (by kernel_rfl) (by kernel_rfl) (fun _ _ _ h => h) (Or.inl ⟨by rfl, ?_⟩) (by assumption) ?_; rotate_left; (focus (intro W hSw; (try dsimp only at hSw); go_simp; try (with_reducible rfl)))); (try simp only [List.getElem_toArray, List.getElem_cons_zero, List.getElem_cons_succ, Act.put, List.setIfInBounds_toArray, List.set_cons_zero, List.set_cons_succ]))
          (refine wpAnyH_ready (rs := [3]) (by kernel_rfl) (by simp) ?_; refine AllReadyH.cons rfl (fun K hK => ?_) AllReadyH.nil)
          go_simp
          refine (impl_letters q.d q.r q.s A7 c7 _ (Ints.drew1 (hi.below hbx)) hqs).mono ?_; rintro e w7 ⟨A8, c8, rfl, o7', b7'⟩
          have b17 : Below wr.heap.size wr w7 := hbx.trans ((undrew b7').mono (by simp))
          have o7 : OwnI w7 wr.heap.size w7.heap.size A8 c8 (lettersFrom q.s 0) := o7'.mono (show wr.heap.size ≤ (wr.alloc _).heap.size by simp) (Nat.le_refl _)
          have hz7 := b17.size
          refine hK.out _ _ ⟨(kxa.below (undrew b7') (by simp; omega)).c2.2, (kr.below (undrew b7') (by simp)).c3⟩ (fun hHeld => ?_)
          clear hK K b7' o7'
          (try simp only [List.getElem_toArray, List.getElem_cons_zero, List.getElem_cons_succ, Act.put, List.setIfInBounds_toArray, List.set_cons_zero, List.set_cons_succ])
          (refine wpAnyH_done (by kernel_rfl) ?_ _; change wpList _ _ _ _ _ _)
          clear hHeld
          have ka7 := kar.below b17 (by omega)
          have kz7 := kzr.below b17 (by omega)
          have kx7 := kxr.below b17 (by omega)
          have oo7 := oor.below b17 (Nat.le_refl _)
          have hb7 : Below w.heap.size w w7 := hbr.trans (b17.mono (by omega))
          generalize lettersFrom q.s 0 = ms at o7 hnl HX ⊢
          have HKX : Hid (∀ w8, w7.grownBy w8 (Value.slice A' out.length c').ownBlock → Blk w8 gB 51 #[.int .i64 n, .slice A' out.length c']) := Lib.hid (fun w8 hg => kx7.grownT oo7 t1 hg)
          go_wp2_with (at_builtin; refine wpList_appendC w7 rfl (.tmp 26) (.tmp 28) _ rfl 2 i0 _ 1 8 Try.underlying33 hi0 hu0 hu1 hu2 rfl (by decide) rfl oo7 (by omega) A8 ms.length c8 (ms.map (Value.int .i64)) rfl (by simp) o7.news (ints_one _) (by unfold maxLen; omega) (by omega) ?_; intro A9 c9 w8 ho8 hg8 hb8; have kx8 := HKX.out w8 hg8; obtain ⟨x0', x1'⟩ := kx8.c2; have x2' := kx8.frozen 1)
          have kx8 := HKX.out w8 hg8
          have ka8 := ka7.grownT oo7 t2 hg8
          have kz8 := kz7.grownT oo7 t1 hg8
          have hz8 := hg8.size
          have hb8' : Below w.heap.size w w8 := hb7.trans (hb8.mono (by omega))
          refine ⟨⟨k + 1, A9, c9, by omega, by go_num, ka8.far (by show w.heap.size ≠ gB; omega) _, kz8.far (by show w.heap.size + 1 ≠ gB; omega) _, ?_, ?_, by (repeat (first | exact Below.refl _ _ | assumption | apply Below.drew | apply below_drewN | (refine Below.alloc ?_ (by first | omega | (simp; done) | (simp; omega)) _) | (refine Below.setCell ?_ (by first | omega | (simp; done) | (simp; omega)) _))), ?_⟩, by first | (simp [intOf]; done) | (simp [intOf]; omega)⟩
          · rw [HX.out, List.length_append]; exact kx8.set21 _
          · rw [HX.out]
            show OwnC _ _ _ _ _ _ _ _ _
            rw [List.map_append, List.length_append]
            exact (ho8.farT kx8 t1 1 _).mono (Nat.le_refl _) (by simp)
          · rw [HX.out, List.length_append]; omega
        · obtain rfl : k = rs.length := by omega
          rw [take_all (Nat.le_refl _)] at kxr oor
          clear hln
          generalize hqs : rowsWord rs = qs at kxr oor HC
          have HQ := Lib.hid hqs; clear hqs
          obtain ⟨x0, x1⟩ := kxr.c2
          obtain ⟨y0, y1⟩ := kar.c2
          obtain ⟨r0, r1⟩ := kzr.c2
          have g0 := kzr.frozen 0
          have g1 := kzr.frozen 1
          by_cases h40 : qs.length ≤ 40
          · have h40' : decide ((40 : Int) < (qs.length : Int)) = false := decide_eq_false (by omega)
            have HF : Hid (cbX n rs = ⟨n, qs⟩ ∧ cbCode n rs = 0) := Lib.hid (by
              have e : cbCode n rs = 0 := by rw [HC.out, if_pos h40]
              exact ⟨by rw [cbX, if_pos e, HQ.out], e⟩)
            clear h40
            go_wp2_with (fail)
            refine bodyPost_ret (v := .tuple #[.agg #[.int .i64 (cbX n rs).n, .slice A' (cbX n rs).xs.length c'], .int .i64 (cbCode n rs)]) (by rw [HF.out.1, HF.out.2]; simp [results, Try.results42, go_sem, r0, r1]) rfl ⟨A', c', rfl, ?_, ?_⟩
            · rw [HF.out.1]
              have k1 := kzr.set20 (.int .i64 n)
              exact OwnC.mono ((oor.farT kzr t1 0 _).farT k1 t1 1 _) (by omega) (by simp)
            · (repeat (first | exact Below.refl _ _ | assumption | apply Below.drew | apply below_drewN | (refine Below.alloc ?_ (by first | omega | (simp; done) | (simp; omega)) _) | (refine Below.setCell ?_ (by first | omega | (simp; done) | (simp; omega)) _)))
          · have h40' : decide ((40 : Int) < (qs.length : Int)) = true := decide_eq_true (by omega)
            have HF := Lib.hid (cb_err (k := 5) (by rw [HC.out, if_neg h40]) (by decide))
            clear h40
            go_wp2_with (fail)
            refine bodyPost_ret (v := .tuple #[.agg #[.int .i64 (cbX n rs).n, .slice none (cbX n rs).xs.length 0], .int .i64 (cbCode n rs)]) (by rw [HF.out.1, HF.out.2]; simp [results, Try.results42, go_sem, r0, r1]) rfl ⟨none, 0, rfl, ?_, ?_⟩
            · rw [HF.out.1]; exact OwnC.nil _ _ _ _ _
            · (repeat (first | exact Below.refl _ _ | assumption | apply Below.drew | apply below_drewN | (refine Below.alloc ?_ (by first | omega | (simp; done) | (simp; omega)) _) | (refine Below.setCell ?_ (by first | omega | (simp; done) | (simp; omega)) _)))


end Go.Proofs.Ytfgbhhkmdeljoaa
