/- Steps of the proof, joined from several texts: EX EXa EXb EXc EY. -/
import Derived.Test.YtnilglkiojigjaaZ18

/- Events: ValidEvents and EventCounts, the program's side. -/
namespace Go.Proofs.Ytnilglkiojigjaa
open Go Go.RowKit

abbrev aggE (e : EventD) : Value := .agg #[.int .i64 e.kind, .int .i64 e.place, .int .i64 e.count, .int .i64 e.bed, .int .i64 e.carrier, .int .i64 e.dir]
abbrev cellsE (e : EventD) : Array Value := #[.int .i64 e.kind, .int .i64 e.place, .int .i64 e.count, .int .i64 e.bed, .int .i64 e.carrier, .int .i64 e.dir]

theorem evI_1 {e : EventD} {n : Int} (h0 : 0 ≤ e.place) (k : e.kind = 1) : evOk e n = (decide (e.place ≤ n - 2) && (decide (e.count = 1) || decide (e.count = -1)) && plainE e) := by
  rw [Bool.eq_iff_iff]
  cases hy : plainE e <;> simp [evOk, h0, k, hy]
  omega
theorem evI_2 {e : EventD} {n : Int} (h0 : 0 ≤ e.place) (k : e.kind = 2) : evOk e n = (inR e.count 0 4 && decide (e.place ≤ n - e.count) && yarnE e) := by
  rw [Bool.eq_iff_iff]
  cases hy : yarnE e <;> simp [evOk, inR, h0, k, hy]
  omega
theorem evI_3 {e : EventD} {n : Int} (h0 : 0 ≤ e.place) (k : e.kind = 3) : evOk e n = (decide (e.count = 0) && decide (e.place ≤ n) && yarnE e) := by
  rw [Bool.eq_iff_iff]
  cases hy : yarnE e <;> simp [evOk, h0, k, hy]
  omega
theorem evI_4 {e : EventD} {n : Int} (h0 : 0 ≤ e.place) (k : e.kind = 4) : evOk e n = (inR e.count 1 4 && decide (e.place ≤ n - e.count) && plainE e) := by
  rw [Bool.eq_iff_iff]
  cases hy : plainE e <;> simp [evOk, inR, h0, k, hy]
  omega
theorem evI_5a {e : EventD} {n : Int} (h0 : 0 ≤ e.place) (k : e.kind = 5) (hb : e.bed = 1) : evOk e n = (inR e.count 1 4 && yarnE e && decide (e.place ≤ n - e.count)) := by
  rw [Bool.eq_iff_iff]
  cases hy : yarnE e <;> simp [evOk, inR, h0, k, hy, hb]
  omega
theorem evI_5b {e : EventD} {n : Int} (h0 : 0 ≤ e.place) (k : e.kind = 5) (hb : ¬ e.bed = 1) : evOk e n = (inR e.count 1 4 && yarnE e && inR e.place e.count n) := by
  rw [Bool.eq_iff_iff]
  cases hy : yarnE e <;> simp [evOk, inR, h0, k, hy, hb]
  omega
theorem evOk_count {e : EventD} {n : Int} (h : evOk e n = true) : -1 ≤ e.count ∧ e.count ≤ 4 ∧ 1 ≤ e.kind ∧ e.kind ≤ 5 := by
  obtain ⟨k1, k5⟩ := evOk_kind h
  have h0 : 0 ≤ e.place := by
    by_cases h0 : 0 ≤ e.place
    · exact h0
    · rw [evOk_lo (by omega)] at h; cases h
  rcases (by omega : e.kind = 1 ∨ e.kind = 2 ∨ e.kind = 3 ∨ e.kind = 4 ∨ e.kind = 5) with k | k | k | k | k
  · rw [evI_1 h0 k] at h; simp at h; omega
  · rw [evI_2 h0 k] at h; simp [inR] at h; omega
  · rw [evI_3 h0 k] at h; simp at h; omega
  · rw [evI_4 h0 k] at h; simp [inR] at h; omega
  · by_cases hb : e.bed = 1
    · rw [evI_5a h0 k hb] at h; simp [inR] at h; omega
    · rw [evI_5b h0 k hb] at h; simp [inR] at h; omega

theorem impl_isBed (n : Int) (w : World) : Calls Try.prog 221 #[.int .i64 n] w fun e w' => e = .returned (.bool (bedB n)) ∧ w = w' := by
  by_cases h1 : n = 1
  · subst h1
    go_enter Try.func221, Try.ntmps221
    go_wp2
    go_ret
    exact ⟨rfl, rfl⟩
  · have HB : Hid (bedB n = (n == 2)) := Lib.hid (by
      unfold bedB inR
      by_cases h2 : n = 2
      · subst h2; rfl
      · have : (n == 2) = false := by simpa using h2
        rw [this]
        simp
        omega)
    go_enter Try.func221, Try.ntmps221
    go_wp2
    go_ret
    exact ⟨ret_bool (by rw [HB.out]; simp [h1]), rfl⟩

theorem impl_isStitched (a b c : Int) (e : EventD) (w : World) : Calls Try.prog 216 #[.agg #[.int .i64 a, .int .i64 b, .int .i64 c, .int .i64 e.bed, .int .i64 e.carrier, .int .i64 e.dir]] w fun r w' => r = .returned (.bool (yarnE e)) ∧ Below w.heap.size w w' := by
  rcases bool3 (bedB e.bed) (carrierB e.carrier) (dirB e.dir) with hb | ⟨hb, hc⟩ | ⟨hb, hc, hd⟩ | ⟨hb, hc, hd⟩
  all_goals
    go_enter Try.func216, Try.ntmps216
    go_wp2_with (first | (go_at_call 221; refine (impl_isBed _ _).mono ?_; rintro e _ ⟨rfl, rfl⟩) | (go_at_call 129; refine (impl_isCarrier _ _).mono ?_; rintro e _ ⟨rfl, rfl⟩) | (go_at_call 162; refine (impl_isDirection _ _).mono ?_; rintro e _ ⟨rfl, rfl⟩))
    go_ret
    exact ⟨ret_bool (by simp [yarnE, *]), by (repeat (first | exact Below.refl _ _ | assumption | apply Below.drew | apply below_drewN | (refine Below.alloc ?_ (by first | omega | (simp; done) | (simp; omega)) _) | (refine Below.setCell ?_ (by first | omega | (simp; done) | (simp; omega)) _)))⟩

set_option maxHeartbeats 1000000 in
theorem impl_after (e : EventD) (n : Int) (w : World) (hn : 0 ≤ n ∧ n ≤ 12) (hok : evOk e n = true) : Calls Try.prog 189 #[aggE e, .int .i64 n] w fun r w' => r = .returned (.int .i64 (evNext e n)) ∧ Below w.heap.size w w' := by
  obtain ⟨h1, h2, h3, h4⟩ := evOk_count hok
  clear hok
  rcases (by omega : e.kind = 1 ∨ e.kind = 2 ∨ e.kind = 3 ∨ e.kind = 4 ∨ e.kind = 5) with k | k | k | k | k
  · have HE : Hid (evNext e n = n) := Lib.hid (by unfold evNext; simp [k])
    go_enter Try.func189, Try.ntmps189
    go_wp2_with (fail)
    go_ret
    exact ⟨ret_int HE.out.symm, by (repeat (first | exact Below.refl _ _ | assumption | apply Below.drew | apply below_drewN | (refine Below.alloc ?_ (by first | omega | (simp; done) | (simp; omega)) _) | (refine Below.setCell ?_ (by first | omega | (simp; done) | (simp; omega)) _)))⟩
  · have HE : Hid (evNext e n = n - e.count + 1) := Lib.hid (by unfold evNext; simp [k])
    go_enter Try.func189, Try.ntmps189
    go_wp2_with (fail)
    go_ret
    exact ⟨ret_int HE.out.symm, by (repeat (first | exact Below.refl _ _ | assumption | apply Below.drew | apply below_drewN | (refine Below.alloc ?_ (by first | omega | (simp; done) | (simp; omega)) _) | (refine Below.setCell ?_ (by first | omega | (simp; done) | (simp; omega)) _)))⟩
  · have HE : Hid (evNext e n = n + 1) := Lib.hid (by unfold evNext; simp [k])
    go_enter Try.func189, Try.ntmps189
    go_wp2_with (fail)
    go_ret
    exact ⟨ret_int HE.out.symm, by (repeat (first | exact Below.refl _ _ | assumption | apply Below.drew | apply below_drewN | (refine Below.alloc ?_ (by first | omega | (simp; done) | (simp; omega)) _) | (refine Below.setCell ?_ (by first | omega | (simp; done) | (simp; omega)) _)))⟩
  · have HE : Hid (evNext e n = n - e.count) := Lib.hid (by unfold evNext; simp [k])
    go_enter Try.func189, Try.ntmps189
    go_wp2_with (fail)
    go_ret
    exact ⟨ret_int HE.out.symm, by (repeat (first | exact Below.refl _ _ | assumption | apply Below.drew | apply below_drewN | (refine Below.alloc ?_ (by first | omega | (simp; done) | (simp; omega)) _) | (refine Below.setCell ?_ (by first | omega | (simp; done) | (simp; omega)) _)))⟩
  · have HE : Hid (evNext e n = n + 1) := Lib.hid (by unfold evNext; simp [k])
    go_enter Try.func189, Try.ntmps189
    go_wp2_with (fail)
    go_ret
    exact ⟨ret_int HE.out.symm, by (repeat (first | exact Below.refl _ _ | assumption | apply Below.drew | apply below_drewN | (refine Below.alloc ?_ (by first | omega | (simp; done) | (simp; omega)) _) | (refine Below.setCell ?_ (by first | omega | (simp; done) | (simp; omega)) _)))⟩

theorem Blk.c6 {w : World} {g : Nat} {t : TypeId} {a0 a1 a2 a3 a4 a5 : Value} (h : Blk w g t #[a0, a1, a2, a3, a4, a5]) : w.cell? ⟨g, 0, none⟩ = some a0 ∧ w.cell? ⟨g, 1, none⟩ = some a1 ∧ w.cell? ⟨g, 2, none⟩ = some a2 ∧ w.cell? ⟨g, 3, none⟩ = some a3 ∧ w.cell? ⟨g, 4, none⟩ = some a4 ∧ w.cell? ⟨g, 5, none⟩ = some a5 :=
  ⟨by rw [h.cell 0]; rfl, by rw [h.cell 1]; rfl, by rw [h.cell 2]; rfl, by rw [h.cell 3]; rfl, by rw [h.cell 4]; rfl, by rw [h.cell 5]; rfl⟩

end Go.Proofs.Ytnilglkiojigjaa

/- Events: whether they are valid, the program's side (crossings, knits, tucks). -/
namespace Go.Proofs.Ytnilglkiojigjaa
open Go Go.RowKit

set_option maxHeartbeats 4000000 in
set_option maxRecDepth 10000 in
theorem impl_valid_1 (e : EventD) (n : Int) (w : World) (hn : 0 ≤ n ∧ n ≤ 12) (q0 : 0 ≤ e.place) (k1 : e.kind = 1) : Calls Try.prog 188 #[aggE e, .int .i64 n] w fun r w' => r = .returned (.bool (evOk e n)) ∧ Below w.heap.size w w' := by
  obtain ⟨hn0, hn12⟩ := hn
  have HK := Lib.hid k1; clear k1
  obtain ⟨wA, hwA⟩ : ∃ wA, wA = w.alloc (.cells #[.int .i64 e.kind, .int .i64 e.place, .int .i64 e.count, .int .i64 e.bed, .int .i64 e.carrier, .int .i64 e.dir] 97) := ⟨_, rfl⟩
  have hb1 : Below w.heap.size w wA := by rw [hwA]; (repeat (first | exact Below.refl _ _ | assumption | apply Below.drew | apply below_drewN | (refine Below.alloc ?_ (by first | omega | (simp; done) | (simp; omega)) _) | (refine Below.setCell ?_ (by first | omega | (simp; done) | (simp; omega)) _)))
  have kb : Blk wA w.heap.size 97 #[.int .i64 e.kind, .int .i64 e.place, .int .i64 e.count, .int .i64 e.bed, .int .i64 e.carrier, .int .i64 e.dir] := by rw [hwA]; exact Blk.new w _ _
  obtain ⟨d0, d1, d2, d3, d4, d5⟩ := kb.c6
  go_enter Try.func188, Try.ntmps188
  go_upto_region 3 with fail
  rw [← hwA]
  clear hwA
  go_cut [5] (fun y wx => y = .bool (plainE e) ∧ wA = wx)
  case first =>
    rcases int3 e.bed e.carrier e.dir with hb | ⟨hb, hc⟩ | ⟨hb, hc, hd⟩ | ⟨hb, hc, hd⟩
    · have HE : Hid (plainE e = false) := Lib.hid (by simp [plainE, hb])
      go_wp2_with (fail)
      go_meet
      exact ⟨bool_eq HE.out.symm, rfl⟩
    · have HE : Hid (plainE e = false) := Lib.hid (by simp [plainE, hc])
      go_wp2_with (fail)
      go_meet
      exact ⟨bool_eq HE.out.symm, rfl⟩
    · have HE : Hid (plainE e = (e.dir == 0)) := Lib.hid (by simp [plainE, hb, hc, hd])
      go_wp2_with (fail)
      go_meet
      exact ⟨bool_eq HE.out.symm, rfl⟩
    · have HE : Hid (plainE e = true) := Lib.hid (by simp [plainE, hb, hc, hd])
      go_wp2_with (fail)
      go_meet
      exact ⟨bool_eq HE.out.symm, rfl⟩
  case rest =>
  obtain ⟨rfl, rfl⟩ := hcut
  have k1 := HK.out
  have w1 : IntKind.i64.wrap (n - 2) = n - 2 := IntWalk.i64_in _ ⟨by omega, by omega⟩
  rcases (by omega : ¬ e.place ≤ n - 2 ∨ (e.place ≤ n - 2 ∧ e.count = 1) ∨ (e.place ≤ n - 2 ∧ ¬ e.count = 1 ∧ e.count = -1) ∨ (e.place ≤ n - 2 ∧ ¬ e.count = 1 ∧ ¬ e.count = -1)) with h1 | ⟨h1, h2⟩ | ⟨h1, h2, h3⟩ | ⟨h1, h2, h3⟩
  · have HE : Hid (evOk e n = false) := Lib.hid (by rw [evI_1 q0 k1, decide_eq_false h1]; rfl)
    go_wp2_with (fail)
    go_ret
    exact ⟨ret_bool HE.out.symm, hb1⟩
  · have HE : Hid (evOk e n = plainE e) := Lib.hid (by rw [evI_1 q0 k1, decide_eq_true h1, decide_eq_true h2]; rfl)
    go_wp2_with (fail)
    go_ret
    exact ⟨ret_bool HE.out.symm, hb1⟩
  · have HE : Hid (evOk e n = plainE e) := Lib.hid (by rw [evI_1 q0 k1, decide_eq_true h1, decide_eq_false h2, decide_eq_true h3]; rfl)
    go_wp2_with (fail)
    go_ret
    exact ⟨ret_bool HE.out.symm, hb1⟩
  · have HE : Hid (evOk e n = false) := Lib.hid (by rw [evI_1 q0 k1, decide_eq_true h1, decide_eq_false h2, decide_eq_false h3]; rfl)
    go_wp2_with (fail)
    go_ret
    exact ⟨ret_bool HE.out.symm, hb1⟩
set_option maxHeartbeats 4000000 in
set_option maxRecDepth 10000 in
theorem impl_valid_2 (e : EventD) (n : Int) (w : World) (hn : 0 ≤ n ∧ n ≤ 12) (q0 : 0 ≤ e.place) (k2 : e.kind = 2) : Calls Try.prog 188 #[aggE e, .int .i64 n] w fun r w' => r = .returned (.bool (evOk e n)) ∧ Below w.heap.size w w' := by
  obtain ⟨hn0, hn12⟩ := hn
  have HK := Lib.hid k2; clear k2
  obtain ⟨wA, hwA⟩ : ∃ wA, wA = w.alloc (.cells #[.int .i64 e.kind, .int .i64 e.place, .int .i64 e.count, .int .i64 e.bed, .int .i64 e.carrier, .int .i64 e.dir] 97) := ⟨_, rfl⟩
  have hb1 : Below w.heap.size w wA := by rw [hwA]; (repeat (first | exact Below.refl _ _ | assumption | apply Below.drew | apply below_drewN | (refine Below.alloc ?_ (by first | omega | (simp; done) | (simp; omega)) _) | (refine Below.setCell ?_ (by first | omega | (simp; done) | (simp; omega)) _)))
  have kb : Blk wA w.heap.size 97 #[.int .i64 e.kind, .int .i64 e.place, .int .i64 e.count, .int .i64 e.bed, .int .i64 e.carrier, .int .i64 e.dir] := by rw [hwA]; exact Blk.new w _ _
  obtain ⟨d0, d1, d2, d3, d4, d5⟩ := kb.c6
  go_enter Try.func188, Try.ntmps188
  go_upto_region 3 with fail
  rw [← hwA]
  clear hwA
  go_cut [5] (fun y wx => y = .bool (plainE e) ∧ wA = wx)
  case first =>
    rcases int3 e.bed e.carrier e.dir with hb | ⟨hb, hc⟩ | ⟨hb, hc, hd⟩ | ⟨hb, hc, hd⟩
    · have HE : Hid (plainE e = false) := Lib.hid (by simp [plainE, hb])
      go_wp2_with (fail)
      go_meet
      exact ⟨bool_eq HE.out.symm, rfl⟩
    · have HE : Hid (plainE e = false) := Lib.hid (by simp [plainE, hc])
      go_wp2_with (fail)
      go_meet
      exact ⟨bool_eq HE.out.symm, rfl⟩
    · have HE : Hid (plainE e = (e.dir == 0)) := Lib.hid (by simp [plainE, hb, hc, hd])
      go_wp2_with (fail)
      go_meet
      exact ⟨bool_eq HE.out.symm, rfl⟩
    · have HE : Hid (plainE e = true) := Lib.hid (by simp [plainE, hb, hc, hd])
      go_wp2_with (fail)
      go_meet
      exact ⟨bool_eq HE.out.symm, rfl⟩
  case rest =>
  obtain ⟨rfl, rfl⟩ := hcut
  have k2 := HK.out
  cases h1 : inR e.count 0 4
  · have HE : Hid (evOk e n = false) := Lib.hid (by rw [evI_2 q0 k2, h1]; rfl)
    go_wp2_with (first | (go_at_call 83; refine (impl_within _ _ _ _).mono ?_; rintro _ _ ⟨rfl, rfl⟩; rw [h1]))
    go_ret
    exact ⟨ret_bool HE.out.symm, hb1⟩
  · obtain ⟨h2, h3⟩ := inR_iff.1 h1
    have w1 : IntKind.i64.wrap (n - e.count) = n - e.count := IntWalk.i64_in _ ⟨by omega, by omega⟩
    by_cases h4 : e.place ≤ n - e.count
    · have HE : Hid (evOk e n = yarnE e) := Lib.hid (by rw [evI_2 q0 k2, h1, decide_eq_true h4]; rfl)
      go_wp2_with (first | (go_at_call 83; refine (impl_within _ _ _ _).mono ?_; rintro _ _ ⟨rfl, rfl⟩; rw [h1]) | (go_at_call 216; refine (impl_isStitched _ _ _ e _).mono ?_; rintro _ w2 ⟨rfl, b2⟩; have hb2 : Below w.heap.size w w2 := hb1.trans (b2.mono (Nat.le_of_lt kb.lt)); have kb2 := kb.below b2 kb.lt; obtain ⟨x0, x1, x2, x3, x4, x5⟩ := kb2.c6))
      go_ret
      exact ⟨ret_bool HE.out.symm, hb2⟩
    · have HE : Hid (evOk e n = false) := Lib.hid (by rw [evI_2 q0 k2, h1, decide_eq_false h4]; rfl)
      go_wp2_with (first | (go_at_call 83; refine (impl_within _ _ _ _).mono ?_; rintro _ _ ⟨rfl, rfl⟩; rw [h1]))
      go_ret
      exact ⟨ret_bool HE.out.symm, hb1⟩
set_option maxHeartbeats 4000000 in
set_option maxRecDepth 10000 in
theorem impl_valid_3 (e : EventD) (n : Int) (w : World) (hn : 0 ≤ n ∧ n ≤ 12) (q0 : 0 ≤ e.place) (k3 : e.kind = 3) : Calls Try.prog 188 #[aggE e, .int .i64 n] w fun r w' => r = .returned (.bool (evOk e n)) ∧ Below w.heap.size w w' := by
  obtain ⟨hn0, hn12⟩ := hn
  have HK := Lib.hid k3; clear k3
  obtain ⟨wA, hwA⟩ : ∃ wA, wA = w.alloc (.cells #[.int .i64 e.kind, .int .i64 e.place, .int .i64 e.count, .int .i64 e.bed, .int .i64 e.carrier, .int .i64 e.dir] 97) := ⟨_, rfl⟩
  have hb1 : Below w.heap.size w wA := by rw [hwA]; (repeat (first | exact Below.refl _ _ | assumption | apply Below.drew | apply below_drewN | (refine Below.alloc ?_ (by first | omega | (simp; done) | (simp; omega)) _) | (refine Below.setCell ?_ (by first | omega | (simp; done) | (simp; omega)) _)))
  have kb : Blk wA w.heap.size 97 #[.int .i64 e.kind, .int .i64 e.place, .int .i64 e.count, .int .i64 e.bed, .int .i64 e.carrier, .int .i64 e.dir] := by rw [hwA]; exact Blk.new w _ _
  obtain ⟨d0, d1, d2, d3, d4, d5⟩ := kb.c6
  go_enter Try.func188, Try.ntmps188
  go_upto_region 3 with fail
  rw [← hwA]
  clear hwA
  go_cut [5] (fun y wx => y = .bool (plainE e) ∧ wA = wx)
  case first =>
    rcases int3 e.bed e.carrier e.dir with hb | ⟨hb, hc⟩ | ⟨hb, hc, hd⟩ | ⟨hb, hc, hd⟩
    · have HE : Hid (plainE e = false) := Lib.hid (by simp [plainE, hb])
      go_wp2_with (fail)
      go_meet
      exact ⟨bool_eq HE.out.symm, rfl⟩
    · have HE : Hid (plainE e = false) := Lib.hid (by simp [plainE, hc])
      go_wp2_with (fail)
      go_meet
      exact ⟨bool_eq HE.out.symm, rfl⟩
    · have HE : Hid (plainE e = (e.dir == 0)) := Lib.hid (by simp [plainE, hb, hc, hd])
      go_wp2_with (fail)
      go_meet
      exact ⟨bool_eq HE.out.symm, rfl⟩
    · have HE : Hid (plainE e = true) := Lib.hid (by simp [plainE, hb, hc, hd])
      go_wp2_with (fail)
      go_meet
      exact ⟨bool_eq HE.out.symm, rfl⟩
  case rest =>
  obtain ⟨rfl, rfl⟩ := hcut
  have k3 := HK.out
  rcases (by omega : ¬ e.count = 0 ∨ (e.count = 0 ∧ ¬ e.place ≤ n) ∨ (e.count = 0 ∧ e.place ≤ n)) with h1 | ⟨h1, h2⟩ | ⟨h1, h2⟩
  · have HE : Hid (evOk e n = false) := Lib.hid (by rw [evI_3 q0 k3, decide_eq_false h1]; rfl)
    go_wp2_with (fail)
    go_ret
    exact ⟨ret_bool HE.out.symm, hb1⟩
  · have HE : Hid (evOk e n = false) := Lib.hid (by rw [evI_3 q0 k3, decide_eq_true h1, decide_eq_false h2]; rfl)
    go_wp2_with (fail)
    go_ret
    exact ⟨ret_bool HE.out.symm, hb1⟩
  · have HE : Hid (evOk e n = yarnE e) := Lib.hid (by rw [evI_3 q0 k3, decide_eq_true h1, decide_eq_true h2]; rfl)
    go_wp2_with (first | (go_at_call 216; refine (impl_isStitched _ _ _ e _).mono ?_; rintro _ w2 ⟨rfl, b2⟩; have hb2 : Below w.heap.size w w2 := hb1.trans (b2.mono (Nat.le_of_lt kb.lt)); have kb2 := kb.below b2 kb.lt; obtain ⟨x0, x1, x2, x3, x4, x5⟩ := kb2.c6))
    go_ret
    exact ⟨ret_bool HE.out.symm, hb2⟩

end Go.Proofs.Ytnilglkiojigjaa

/- Events: whether they are valid, the program's side (drops, splits). -/
namespace Go.Proofs.Ytnilglkiojigjaa
open Go Go.RowKit

set_option maxHeartbeats 4000000 in
set_option maxRecDepth 10000 in
theorem impl_valid_4 (e : EventD) (n : Int) (w : World) (hn : 0 ≤ n ∧ n ≤ 12) (q0 : 0 ≤ e.place) (k4 : e.kind = 4) : Calls Try.prog 188 #[aggE e, .int .i64 n] w fun r w' => r = .returned (.bool (evOk e n)) ∧ Below w.heap.size w w' := by
  obtain ⟨hn0, hn12⟩ := hn
  have HK := Lib.hid k4; clear k4
  obtain ⟨wA, hwA⟩ : ∃ wA, wA = w.alloc (.cells #[.int .i64 e.kind, .int .i64 e.place, .int .i64 e.count, .int .i64 e.bed, .int .i64 e.carrier, .int .i64 e.dir] 97) := ⟨_, rfl⟩
  have hb1 : Below w.heap.size w wA := by rw [hwA]; (repeat (first | exact Below.refl _ _ | assumption | apply Below.drew | apply below_drewN | (refine Below.alloc ?_ (by first | omega | (simp; done) | (simp; omega)) _) | (refine Below.setCell ?_ (by first | omega | (simp; done) | (simp; omega)) _)))
  have kb : Blk wA w.heap.size 97 #[.int .i64 e.kind, .int .i64 e.place, .int .i64 e.count, .int .i64 e.bed, .int .i64 e.carrier, .int .i64 e.dir] := by rw [hwA]; exact Blk.new w _ _
  obtain ⟨d0, d1, d2, d3, d4, d5⟩ := kb.c6
  go_enter Try.func188, Try.ntmps188
  go_upto_region 3 with fail
  rw [← hwA]
  clear hwA
  go_cut [5] (fun y wx => y = .bool (plainE e) ∧ wA = wx)
  case first =>
    rcases int3 e.bed e.carrier e.dir with hb | ⟨hb, hc⟩ | ⟨hb, hc, hd⟩ | ⟨hb, hc, hd⟩
    · have HE : Hid (plainE e = false) := Lib.hid (by simp [plainE, hb])
      go_wp2_with (fail)
      go_meet
      exact ⟨bool_eq HE.out.symm, rfl⟩
    · have HE : Hid (plainE e = false) := Lib.hid (by simp [plainE, hc])
      go_wp2_with (fail)
      go_meet
      exact ⟨bool_eq HE.out.symm, rfl⟩
    · have HE : Hid (plainE e = (e.dir == 0)) := Lib.hid (by simp [plainE, hb, hc, hd])
      go_wp2_with (fail)
      go_meet
      exact ⟨bool_eq HE.out.symm, rfl⟩
    · have HE : Hid (plainE e = true) := Lib.hid (by simp [plainE, hb, hc, hd])
      go_wp2_with (fail)
      go_meet
      exact ⟨bool_eq HE.out.symm, rfl⟩
  case rest =>
  obtain ⟨rfl, rfl⟩ := hcut
  have k4 := HK.out
  cases h1 : inR e.count 1 4
  · have HE : Hid (evOk e n = false) := Lib.hid (by rw [evI_4 q0 k4, h1]; rfl)
    go_wp2_with (first | (go_at_call 83; refine (impl_within _ _ _ _).mono ?_; rintro _ _ ⟨rfl, rfl⟩; rw [h1]))
    go_ret
    exact ⟨ret_bool HE.out.symm, hb1⟩
  · obtain ⟨h2, h3⟩ := inR_iff.1 h1
    have w1 : IntKind.i64.wrap (n - e.count) = n - e.count := IntWalk.i64_in _ ⟨by omega, by omega⟩
    by_cases h4 : e.place ≤ n - e.count
    · have HE : Hid (evOk e n = plainE e) := Lib.hid (by rw [evI_4 q0 k4, h1, decide_eq_true h4]; rfl)
      go_wp2_with (first | (go_at_call 83; refine (impl_within _ _ _ _).mono ?_; rintro _ _ ⟨rfl, rfl⟩; rw [h1]))
      go_ret
      exact ⟨ret_bool HE.out.symm, hb1⟩
    · have HE : Hid (evOk e n = false) := Lib.hid (by rw [evI_4 q0 k4, h1, decide_eq_false h4]; rfl)
      go_wp2_with (first | (go_at_call 83; refine (impl_within _ _ _ _).mono ?_; rintro _ _ ⟨rfl, rfl⟩; rw [h1]))
      go_ret
      exact ⟨ret_bool HE.out.symm, hb1⟩
set_option maxHeartbeats 4000000 in
set_option maxRecDepth 10000 in
theorem impl_valid_5 (e : EventD) (n : Int) (w : World) (hn : 0 ≤ n ∧ n ≤ 12) (q0 : 0 ≤ e.place) (k5 : e.kind = 5) : Calls Try.prog 188 #[aggE e, .int .i64 n] w fun r w' => r = .returned (.bool (evOk e n)) ∧ Below w.heap.size w w' := by
  obtain ⟨hn0, hn12⟩ := hn
  have HK := Lib.hid k5; clear k5
  obtain ⟨wA, hwA⟩ : ∃ wA, wA = w.alloc (.cells #[.int .i64 e.kind, .int .i64 e.place, .int .i64 e.count, .int .i64 e.bed, .int .i64 e.carrier, .int .i64 e.dir] 97) := ⟨_, rfl⟩
  have hb1 : Below w.heap.size w wA := by rw [hwA]; (repeat (first | exact Below.refl _ _ | assumption | apply Below.drew | apply below_drewN | (refine Below.alloc ?_ (by first | omega | (simp; done) | (simp; omega)) _) | (refine Below.setCell ?_ (by first | omega | (simp; done) | (simp; omega)) _)))
  have kb : Blk wA w.heap.size 97 #[.int .i64 e.kind, .int .i64 e.place, .int .i64 e.count, .int .i64 e.bed, .int .i64 e.carrier, .int .i64 e.dir] := by rw [hwA]; exact Blk.new w _ _
  obtain ⟨d0, d1, d2, d3, d4, d5⟩ := kb.c6
  go_enter Try.func188, Try.ntmps188
  go_upto_region 3 with fail
  rw [← hwA]
  clear hwA
  go_cut [5] (fun y wx => y = .bool (plainE e) ∧ wA = wx)
  case first =>
    rcases int3 e.bed e.carrier e.dir with hb | ⟨hb, hc⟩ | ⟨hb, hc, hd⟩ | ⟨hb, hc, hd⟩
    · have HE : Hid (plainE e = false) := Lib.hid (by simp [plainE, hb])
      go_wp2_with (fail)
      go_meet
      exact ⟨bool_eq HE.out.symm, rfl⟩
    · have HE : Hid (plainE e = false) := Lib.hid (by simp [plainE, hc])
      go_wp2_with (fail)
      go_meet
      exact ⟨bool_eq HE.out.symm, rfl⟩
    · have HE : Hid (plainE e = (e.dir == 0)) := Lib.hid (by simp [plainE, hb, hc, hd])
      go_wp2_with (fail)
      go_meet
      exact ⟨bool_eq HE.out.symm, rfl⟩
    · have HE : Hid (plainE e = true) := Lib.hid (by simp [plainE, hb, hc, hd])
      go_wp2_with (fail)
      go_meet
      exact ⟨bool_eq HE.out.symm, rfl⟩
  case rest =>
  obtain ⟨rfl, rfl⟩ := hcut
  have k5 := HK.out
  cases h1 : inR e.count 1 4
  · have HE : Hid (evOk e n = false) := Lib.hid (by by_cases hb : e.bed = 1 <;> simp [evI_5a q0 k5, evI_5b q0 k5, hb, h1])
    go_wp2_with (first | (go_at_call 83; refine (impl_within _ _ _ _).mono ?_; rintro _ _ ⟨rfl, rfl⟩; rw [h1]))
    go_ret
    exact ⟨ret_bool HE.out.symm, hb1⟩
  · obtain ⟨h2, h3⟩ := inR_iff.1 h1
    have w1 : IntKind.i64.wrap (n - e.count) = n - e.count := IntWalk.i64_in _ ⟨by omega, by omega⟩
    cases hy : yarnE e
    · have HE : Hid (evOk e n = false) := Lib.hid (by by_cases hb : e.bed = 1 <;> simp [evI_5a q0 k5, evI_5b q0 k5, hb, h1, hy])
      go_wp2_with (first | (go_at_call 83; refine (impl_within _ _ _ _).mono ?_; rintro _ _ ⟨rfl, rfl⟩; try rw [h1]) | (go_at_call 216; refine (impl_isStitched _ _ _ e _).mono ?_; rintro _ w2 ⟨rfl, b2⟩; have hb2 : Below w.heap.size w w2 := hb1.trans (b2.mono (Nat.le_of_lt kb.lt)); have kb2 := kb.below b2 kb.lt; obtain ⟨x0, x1, x2, x3, x4, x5⟩ := kb2.c6; rw [hy]))
      go_ret
      exact ⟨ret_bool HE.out.symm, hb2⟩
    · by_cases hb : e.bed = 1
      · have HE : Hid (evOk e n = decide (e.place ≤ n - e.count)) := Lib.hid (by rw [evI_5a q0 k5 hb, h1, hy]; rfl)
        have HBD := Lib.hid hb; clear hb
        go_wp2_with (first | (go_at_call 83; refine (impl_within _ _ _ _).mono ?_; rintro _ _ ⟨rfl, rfl⟩; try rw [h1]) | (go_at_call 216; refine (impl_isStitched _ _ _ e _).mono ?_; rintro _ w2 ⟨rfl, b2⟩; have hb2 : Below w.heap.size w w2 := hb1.trans (b2.mono (Nat.le_of_lt kb.lt)); have kb2 := kb.below b2 kb.lt; obtain ⟨x0, x1, x2, x3, x4, x5⟩ := kb2.c6; have hb := HBD.out; rw [hy]))
        go_ret
        exact ⟨ret_bool HE.out.symm, hb2⟩
      · have HE : Hid (evOk e n = inR e.place e.count n) := Lib.hid (by rw [evI_5b q0 k5 hb, h1, hy]; rfl)
        go_wp2_with (first | (go_at_call 83; refine (impl_within _ _ _ _).mono ?_; rintro _ _ ⟨rfl, rfl⟩; try rw [h1]) | (go_at_call 216; refine (impl_isStitched _ _ _ e _).mono ?_; rintro _ w2 ⟨rfl, b2⟩; have hb2 : Below w.heap.size w w2 := hb1.trans (b2.mono (Nat.le_of_lt kb.lt)); have kb2 := kb.below b2 kb.lt; obtain ⟨x0, x1, x2, x3, x4, x5⟩ := kb2.c6; rw [hy]))
        go_ret
        exact ⟨ret_bool HE.out.symm, hb2⟩

end Go.Proofs.Ytnilglkiojigjaa

/- Events: whether they are valid, the program's side (all). -/
namespace Go.Proofs.Ytnilglkiojigjaa
open Go Go.RowKit

set_option maxHeartbeats 4000000 in
set_option maxRecDepth 10000 in
theorem impl_valid (e : EventD) (n : Int) (w : World) (hn : 0 ≤ n ∧ n ≤ 12) : Calls Try.prog 188 #[aggE e, .int .i64 n] w fun r w' => r = .returned (.bool (evOk e n)) ∧ Below w.heap.size w w' := by
  obtain ⟨hn0, hn12⟩ := hn
  by_cases hp0 : e.place < 0
  · have HE := Lib.hid (evOk_lo (n := n) hp0)
    go_enter Try.func188, Try.ntmps188
    go_wp2_with (fail)
    go_ret
    exact ⟨ret_bool HE.out.symm, by (repeat (first | exact Below.refl _ _ | assumption | apply Below.drew | apply below_drewN | (refine Below.alloc ?_ (by first | omega | (simp; done) | (simp; omega)) _) | (refine Below.setCell ?_ (by first | omega | (simp; done) | (simp; omega)) _)))⟩
  have q0 : 0 ≤ e.place := by omega
  by_cases k1 : e.kind = 1
  · exact impl_valid_1 e n w ⟨hn0, hn12⟩ q0 k1
  by_cases k2 : e.kind = 2
  · exact impl_valid_2 e n w ⟨hn0, hn12⟩ q0 k2
  by_cases k3 : e.kind = 3
  · exact impl_valid_3 e n w ⟨hn0, hn12⟩ q0 k3
  by_cases k4 : e.kind = 4
  · exact impl_valid_4 e n w ⟨hn0, hn12⟩ q0 k4
  by_cases k5 : e.kind = 5
  · exact impl_valid_5 e n w ⟨hn0, hn12⟩ q0 k5
  obtain ⟨wA, hwA⟩ : ∃ wA, wA = w.alloc (.cells #[.int .i64 e.kind, .int .i64 e.place, .int .i64 e.count, .int .i64 e.bed, .int .i64 e.carrier, .int .i64 e.dir] 97) := ⟨_, rfl⟩
  have hb1 : Below w.heap.size w wA := by rw [hwA]; (repeat (first | exact Below.refl _ _ | assumption | apply Below.drew | apply below_drewN | (refine Below.alloc ?_ (by first | omega | (simp; done) | (simp; omega)) _) | (refine Below.setCell ?_ (by first | omega | (simp; done) | (simp; omega)) _)))
  have kb : Blk wA w.heap.size 97 #[.int .i64 e.kind, .int .i64 e.place, .int .i64 e.count, .int .i64 e.bed, .int .i64 e.carrier, .int .i64 e.dir] := by rw [hwA]; exact Blk.new w _ _
  obtain ⟨d0, d1, d2, d3, d4, d5⟩ := kb.c6
  go_enter Try.func188, Try.ntmps188
  go_upto_region 3 with fail
  rw [← hwA]
  clear hwA
  go_cut [5] (fun y wx => y = .bool (plainE e) ∧ wA = wx)
  case first =>
    rcases int3 e.bed e.carrier e.dir with hb | ⟨hb, hc⟩ | ⟨hb, hc, hd⟩ | ⟨hb, hc, hd⟩
    · have HE : Hid (plainE e = false) := Lib.hid (by simp [plainE, hb])
      go_wp2_with (fail)
      go_meet
      exact ⟨bool_eq HE.out.symm, rfl⟩
    · have HE : Hid (plainE e = false) := Lib.hid (by simp [plainE, hc])
      go_wp2_with (fail)
      go_meet
      exact ⟨bool_eq HE.out.symm, rfl⟩
    · have HE : Hid (plainE e = (e.dir == 0)) := Lib.hid (by simp [plainE, hb, hc, hd])
      go_wp2_with (fail)
      go_meet
      exact ⟨bool_eq HE.out.symm, rfl⟩
    · have HE : Hid (plainE e = true) := Lib.hid (by simp [plainE, hb, hc, hd])
      go_wp2_with (fail)
      go_meet
      exact ⟨bool_eq HE.out.symm, rfl⟩
  case rest =>
  obtain ⟨rfl, rfl⟩ := hcut
  have HE := Lib.hid (evOk_6 (n := n) k1 k2 k3 k4 k5)
  go_wp2_with (fail)
  go_ret
  exact ⟨ret_bool HE.out.symm, hb1⟩

end Go.Proofs.Ytnilglkiojigjaa

/- Events: ValidEvents and EventCounts, the program's side. -/
namespace Go.Proofs.Ytnilglkiojigjaa
open Go Go.RowKit

set_option maxHeartbeats 2000000 in
theorem impl_strandsAfter (es : List EventD) (A : Option Addr) (c : Nat) (w : World) (h : Events w A es) (hl : es.length ≤ 9223372036854775807) :
    Calls Try.prog 134 #[.int .i64 0, .slice A es.length c] w fun e w' => (∃ v, e = .returned (.tuple #[.int .i64 v, .bool (strands es 0).isSome])) ∧ Below w.heap.size w w' := by
  go_enter Try.func134, Try.ntmps134
  go_wp2_with (fail)
  go_loopw [0, 10] (fun nv iv wr => ∃ (k : Nat) (n : Int), k ≤ es.length ∧ iv = .int .i64 k ∧ nv = .int .i64 n ∧ (0 ≤ n ∧ n ≤ 12) ∧ Hid (strands es 0 = strands (es.drop k) n) ∧ Below w.heap.size w wr) (fun _ iv _ => es.length - (intOf iv).toNat)
  case atStart => exact ⟨0, 0, Nat.zero_le _, rfl, rfl, by omega, Lib.hid rfl, Below.refl _ _⟩
  case round =>
    obtain ⟨k, n, hk, rfl, rfl, hn, HS, hb⟩ := hrel
    by_cases hlt : k < es.length
    · obtain ⟨b, off, p, rfl, hp, c0, c1, c2, c3, c4, c5⟩ := (h.below hb) k hlt
      have HP := Lib.hid (strands_at (n := n) hp)
      have HG := Lib.hid (fun h => @evNext_ge p n h hn.1)
      clear hp
      have j1 : (0 : Int) ≤ (k : Int) := by omega
      have j2 : (k : Int) < (es.length : Int) := by omega
      obtain ⟨wA, hwA⟩ : ∃ wA, wA = wr.alloc (.cells #[.int .i64 p.kind, .int .i64 p.place, .int .i64 p.count, .int .i64 p.bed, .int .i64 p.carrier, .int .i64 p.dir] 97) := ⟨_, rfl⟩
      have hzr := hb.size
      have hbA : Below w.heap.size w wA := by rw [hwA]; exact hb.alloc (by omega) _
      have kb : Blk wA wr.heap.size 97 #[.int .i64 p.kind, .int .i64 p.place, .int .i64 p.count, .int .i64 p.bed, .int .i64 p.carrier, .int .i64 p.dir] := by rw [hwA]; exact Blk.new wr _ _
      have hzA := kb.lt
      have HVA : Hid (∀ W, Calls Try.prog 188 #[.agg #[.int .i64 p.kind, .int .i64 p.place, .int .i64 p.count, .int .i64 p.bed, .int .i64 p.carrier, .int .i64 p.dir], .int .i64 n] W fun r w' => r = .returned (.bool (evOk p n)) ∧ Below W.heap.size W w') := Lib.hid (fun W => impl_valid p n W hn)
      have HAF : Hid (evOk p n = true → ∀ W, Calls Try.prog 189 #[.agg #[.int .i64 p.kind, .int .i64 p.place, .int .i64 p.count, .int .i64 p.bed, .int .i64 p.carrier, .int .i64 p.dir], .int .i64 n] W fun r w' => r = .returned (.int .i64 (evNext p n)) ∧ Below W.heap.size W w') := Lib.hid (fun hok W => impl_after p n W hn hok)
      obtain ⟨hn0, hn12⟩ := hn
      go_wp2_with (fail)
      rw [← hwA]
      clear hwA c0 c1 c2 c3 c4 c5
      refine (HVA.out _).mono ?_; rintro e w2 ⟨rfl, b2⟩
      have hb2 : Below w.heap.size w w2 := hbA.trans (b2.mono (by omega))
      have kb2 := kb.below b2 (by omega)
      obtain ⟨x0, x1, x2, x3, x4, x5⟩ := kb2.c6
      clear kb HVA
      have hz2 := b2.size
      cases hok : evOk p n
      · have HB : Hid ((strands es 0).isSome = false) := Lib.hid (by rw [HS.out, HP.out, hok]; rfl)
        go_wp2_with (fail)
        go_ret2
        rw [HB.out]
        exact ⟨⟨_, rfl⟩, hb2⟩
      · have h0 := HG.out hok
        have HA2 := Lib.hid (HAF.out hok)
        clear HAF HG
        by_cases h12 : evNext p n ≤ 12
        · have HS2 : Hid (strands es 0 = strands (es.drop (k + 1)) (evNext p n)) := Lib.hid (by rw [HS.out, HP.out, hok, decide_eq_true h12]; rfl)
          generalize evNext p n = m at HS2 h0 h12 HA2 HP
          go_wp2_with (go_at_call 189; refine (HA2.out _).mono ?_; rintro e w3 ⟨rfl, b3⟩)
          have hb3 : Below w.heap.size w w3 := hb2.trans (b3.mono (by omega))
          refine ⟨⟨k + 1, m, by omega, by go_num, rfl, by omega, HS2, hb3⟩, by first | (simp [intOf]; done) | (simp [intOf]; omega)⟩
        · have HB : Hid ((strands es 0).isSome = false) := Lib.hid (by rw [HS.out, HP.out, hok, decide_eq_false h12]; rfl)
          generalize evNext p n = m at h0 h12 HA2 HP
          go_wp2_with (go_at_call 189; refine (HA2.out _).mono ?_; rintro e w3 ⟨rfl, b3⟩)
          have hb3 : Below w.heap.size w w3 := hb2.trans (b3.mono (by omega))
          go_ret2
          rw [HB.out]
          exact ⟨⟨_, rfl⟩, hb3⟩
    · obtain rfl : k = es.length := by omega
      have e0 := HS.out
      rw [drop_all (Nat.le_refl _), strands] at e0
      have HB : Hid ((strands es 0).isSome = true) := Lib.hid (by rw [e0]; rfl)
      clear e0
      go_wp2_with (fail)
      go_ret2
      rw [HB.out]
      exact ⟨⟨_, rfl⟩, hb⟩

theorem impl_ValidEvents (es : List EventD) (A : Option Addr) (c : Nat) (w : World) (h : Events w A es) (hl : es.length ≤ 9223372036854775807) :
    Calls Try.prog 75 #[.slice A es.length c] w fun e w' => e = .returned (.bool (eventsB es)) ∧ Below w.heap.size w w' := by
  cases hs : (strands es 0).isSome
  · have HB : Hid (eventsB es = false) := Lib.hid (by rw [eventsB, hs]; rfl)
    go_enter Try.func75, Try.ntmps75
    go_wp2_with (fail)
    refine (impl_strandsAfter es A c _ h hl).mono ?_; rintro e w2 ⟨⟨v, rfl⟩, b2⟩
    rw [hs]
    go_wp2_with (fail)
    go_ret
    exact ⟨ret_bool HB.out.symm, b2⟩
  · have HB : Hid (eventsB es = decide (es.length ≤ 2000)) := Lib.hid (by rw [eventsB, hs]; rfl)
    go_enter Try.func75, Try.ntmps75
    go_wp2_with (fail)
    refine (impl_strandsAfter es A c _ h hl).mono ?_; rintro e w2 ⟨⟨v, rfl⟩, b2⟩
    rw [hs]
    go_wp2_with (fail)
    go_ret
    exact ⟨ret_bool (by rw [HB.out, decide_eq_decide]; omega), b2⟩

set_option maxHeartbeats 2000000 in
theorem impl_EventCounts (es : List EventD) (A : Option Addr) (c : Nat) (w : World) (h : Events w A es) (hl : es.length ≤ 9223372036854775807) :
    Calls Try.prog 22 #[.slice A es.length c] w fun e w' => ∃ A' c', e = .returned (.tuple #[.slice A' (eventCountsP es).length c', .int .i64 (eventCode es)]) ∧ OwnI w' w.heap.size w'.heap.size A' c' (eventCountsP es) ∧ Below w.heap.size w w' := by
  cases hv : eventsB es
  · have HF : Hid (eventCountsP es = [] ∧ eventCode es = 1) := Lib.hid (by simp [eventCountsP, eventCode, hv])
    go_enter Try.func22, Try.ntmps22
    go_wp2_with (fail)
    refine (impl_ValidEvents es A c _ h hl).mono ?_; rintro e w2 ⟨rfl, b2⟩
    rw [hv]
    go_wp2_with (fail)
    go_ret2
    rw [HF.out.1, HF.out.2]
    exact ⟨none, 0, rfl, OwnC.nil _ _ _ _ _, b2⟩
  · have HF : Hid (eventCountsP es = eventCounts es ∧ eventCode es = 0) := Lib.hid (by simp [eventCountsP, eventCode, hv])
    obtain ⟨h2000, hkinds⟩ := eventsB_kinds hv
    have HKD := Lib.hid hkinds; clear hkinds
    obtain ⟨i0, hi0, hz0, hz1, hz2⟩ := info_parts info_int64
    have t1 : (97 : TypeId) ≠ 2 := by decide
    go_enter Try.func22, Try.ntmps22
    go_wp2_with (fail)
    refine (impl_ValidEvents es A c _ h hl).mono ?_; rintro e w2 ⟨rfl, b2⟩
    have hz2' := b2.size
    have h2 := h.below b2
    rw [hv]
    clear hv
    go_wp2_with (refine wpList_make_full _ rfl _ _ _ rfl w2.heap.size 2 i0 _ 1 Try.underlying22 hi0 hz0 hz1 .i64 .i64 _ _ 5 rfl rfl rfl rfl (by rw [hz2]; omega) (by unfold maxLen; omega) (Nat.le_refl _) ?_; intro w3 hown hg)
    have hb3 : Below w2.heap.size w2 w3 := (Below.refl _ _).grown hg (Nat.le_refl _) (by simp)
    have o3 : OwnC w3 w2.heap.size w3.heap.size 2 1 (some ⟨w2.heap.size, 0, none⟩) 5 5 (([0, 0, 0, 0, 0] : List Int).map (Value.int .i64)) := by
      have := OwnC.of_own hown (Nat.le_refl _)
      rwa [zeros5] at this
    clear hown hg
    go_loopw [13] (fun i wr => ∃ (k : Nat), k ≤ es.length ∧ i = .int .i64 k ∧ OwnC wr w2.heap.size wr.heap.size 2 1 (some ⟨w2.heap.size, 0, none⟩) 5 5 ((eventCounts (es.take k)).map (Value.int .i64)) ∧ Below w2.heap.size w2 wr) (fun i _ => es.length - (intOf i).toNat)
    case atStart => exact ⟨0, Nat.zero_le _, rfl, o3, hb3⟩
    case round =>
      clear o3 hb3
      obtain ⟨k, hk, rfl, hq, hb⟩ := hrel
      by_cases hlt : k < es.length
      · obtain ⟨b, off, p, rfl, hp, c0, c1, c2, c3, c4, c5⟩ := (h2.below hb) k hlt
        obtain ⟨hp1, hp5⟩ := HKD.out p (List.mem_of_getElem? hp)
        have HX := Lib.hid (eventCounts_snoc hp); clear hp
        have HC := Lib.hid (eventCounts_length (es.take k))
        obtain ⟨i, hi4, hki⟩ : ∃ i : Nat, i < 5 ∧ p.kind = (i : Int) + 1 := ⟨(p.kind - 1).toNat, by omega, by omega⟩
        rw [hki] at c0 HX
        generalize eventCounts (es.take k) = cs at hq HX HC
        have hzr := hb.size
        obtain ⟨wA, hwA⟩ : ∃ wA, wA = wr.alloc (.cells #[.int .i64 ((i : Int) + 1), .int .i64 p.place, .int .i64 p.count, .int .i64 p.bed, .int .i64 p.carrier, .int .i64 p.dir] 97) := ⟨_, rfl⟩
        have hbA : Below w2.heap.size w2 wA := by rw [hwA]; exact hb.alloc (by omega) _
        have kb : Blk wA wr.heap.size 97 #[.int .i64 ((i : Int) + 1), .int .i64 p.place, .int .i64 p.count, .int .i64 p.bed, .int .i64 p.carrier, .int .i64 p.dir] := by rw [hwA]; exact Blk.new wr _ _
        have hqA : OwnC wA w2.heap.size wA.heap.size 2 1 (some ⟨w2.heap.size, 0, none⟩) 5 5 (cs.map (Value.int .i64)) := by rw [hwA]; exact (hq.alloc _).mono (Nat.le_refl _) (by simp)
        obtain ⟨x0, _⟩ := kb.c6
        have hvi : cs[i]? = some (cs[i]'(by rw [HC.out]; omega)) := List.getElem?_eq_getElem _
        generalize cs[i]'(by rw [HC.out]; omega) = v at hvi
        obtain ⟨_, hA, _, _, qc, fc⟩ := hqA.cell (j := i) (by simp [HC.out]; omega)
        injection hA with hA
        injection hA with hA
        subst hA
        have e0 : (cs.map (Value.int .i64))[i]? = some (.int .i64 v) := by simp [hvi]
        rw [List.getElem?_eq_getElem (by simp [HC.out]; omega)] at e0
        injection e0 with e0
        rw [e0] at qc
        have HVI := Lib.hid (bump_at hvi); clear hvi e0 hki hp1 hp5
        have i1 : (i : Int) + 1 - 1 = (i : Int) := by omega
        have i2 : IntKind.i64.wrap ((i : Int) + 1 - 1) = (i : Int) := by rw [i1]; exact IntWalk.i64_in _ ⟨by omega, by omega⟩
        have i3 : (0 : Int) ≤ (i : Int) := by omega
        have i4 : (i : Int) < 5 := by omega
        have i5 : ((i : Int)).toNat = i := by omega
        have HQ := Lib.hid hqA; clear hq hqA
        have j1 : (0 : Int) ≤ (k : Int) := by omega
        have j2 : (k : Int) < (es.length : Int) := by omega
        clear h2 h
        go_upto_region 7 with fail
        rw [← hwA]
        clear hwA c0 c1 c2 c3 c4 c5 kb
        set_option maxRecDepth 5000 in go_wp2_with (fail)
        refine ⟨⟨k + 1, by omega, by go_num, ?_, Below.setCell hbA (Nat.le_refl _) _⟩, by first | (simp [intOf]; done) | (simp [intOf]; omega)⟩
        rw [HX.out, HVI.out, List.map_set]
        exact (HQ.out.store (j := i) (.int .i64 (wrap64 (v + 1)))).1.mono (Nat.le_refl _) (by simp)
      · obtain rfl : k = es.length := by omega
        rw [take_all (Nat.le_refl _)] at hq
        have e5 := eventCounts_length es
        have b4 : Below w.heap.size w2 wr := hb.mono hz2'
        go_wp2_with (fail)
        go_ret2
        rw [HF.out.1, HF.out.2]
        refine ⟨_, 5, by rw [e5]; rfl, ?_, b2.trans b4⟩
        show OwnC _ _ _ _ _ _ _ _ _
        rw [e5]
        exact hq.mono hz2' (Nat.le_refl _)

end Go.Proofs.Ytnilglkiojigjaa
