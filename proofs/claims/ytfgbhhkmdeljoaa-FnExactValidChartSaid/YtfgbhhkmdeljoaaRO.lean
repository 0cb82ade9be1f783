/- RowOfLetters. -/
import Derived.Test.YtfgbhhkmdeljoaaRU
namespace Go.Proofs.Ytfgbhhkmdeljoaa
open Go.RowKit

def rowFrom (n : Nat) (xs : List Int) (c : Nat) : List Int :=
  if c < n then (if (c : Int) + 1 ∈ xs then 8 :: rowFrom n xs (c + 2) else if -(c : Int) - 1 ∈ xs then 9 :: rowFrom n xs (c + 2) else 1 :: rowFrom n xs (c + 1)) else []
termination_by n - c
decreasing_by all_goals omega
theorem rowFrom_end {n c : Nat} (xs : List Int) (h : n ≤ c) : rowFrom n xs c = [] := by rw [rowFrom, if_neg (by omega)]
theorem rowFrom_8 {n c : Nat} {xs : List Int} (h : c < n) (h1 : (c : Int) + 1 ∈ xs) : rowFrom n xs c = 8 :: rowFrom n xs (c + 2) := by rw [rowFrom, if_pos h, if_pos h1]
theorem rowFrom_9 {n c : Nat} {xs : List Int} (h : c < n) (h1 : ¬ (c : Int) + 1 ∈ xs) (h2 : -(c : Int) - 1 ∈ xs) : rowFrom n xs c = 9 :: rowFrom n xs (c + 2) := by rw [rowFrom, if_pos h, if_neg h1, if_pos h2]
theorem rowFrom_1 {n c : Nat} {xs : List Int} (h : c < n) (h1 : ¬ (c : Int) + 1 ∈ xs) (h2 : ¬ -(c : Int) - 1 ∈ xs) : rowFrom n xs c = 1 :: rowFrom n xs (c + 1) := by rw [rowFrom, if_pos h, if_neg h1, if_neg h2]
theorem rowFrom_length (n : Nat) (xs : List Int) (m : Nat) : ∀ c, n - c ≤ m → (rowFrom n xs c).length ≤ m := by
  induction m with
  | zero => intro c hc; rw [rowFrom_end xs (by omega)]; simp
  | succ m ih =>
    intro c hc
    rw [rowFrom]
    split
    · split
      · have := ih (c + 2) (by omega); simp; omega
      · split
        · have := ih (c + 2) (by omega); simp; omega
        · have := ih (c + 1) (by omega); simp; omega
    · simp
theorem Blk.set32 {w : World} {g : Nat} {t : TypeId} {a b c : Value} (h : Blk w g t #[a, b, c]) (u : Value) : Blk (w.setCell ⟨g, 2, none⟩ u) g t #[a, b, u] := by
  unfold Blk at h ⊢
  simp [World.setCell, Array.getElem?_modify, h]
theorem Blk.set30 {w : World} {g : Nat} {t : TypeId} {a b c : Value} (h : Blk w g t #[a, b, c]) (u : Value) : Blk (w.setCell ⟨g, 0, none⟩ u) g t #[u, b, c] := by
  unfold Blk at h ⊢
  simp [World.setCell, Array.getElem?_modify, h]
theorem Blk.set31 {w : World} {g : Nat} {t : TypeId} {a b c : Value} (h : Blk w g t #[a, b, c]) (u : Value) : Blk (w.setCell ⟨g, 1, none⟩ u) g t #[a, u, c] := by
  unfold Blk at h ⊢
  simp [World.setCell, Array.getElem?_modify, h]
theorem OwnC.farT {w : World} {lo hi : Nat} {e : TypeId} {sz : Nat} {A : Option Addr} {n c : Nat} {cs : List Value} {g : Nat} {t : TypeId} {bs : Array Value} (h : OwnC w lo hi e sz A n c cs) (hb : Blk w g t bs) (ht : t ≠ e) (j : Nat) (u : Value) : OwnC (w.setCell ⟨g, j, none⟩ u) lo hi e sz A n c cs :=
  h.keepT fun k cur _ _ hk => Below.heap_setCell w ⟨g, j, none⟩ u k (by
    rintro rfl
    unfold Blk at hb
    rw [hb] at hk
    injection hk with hk
    injection hk with _ hk
    exact ht hk)
theorem Blk.grownT {w w' : World} {lo hi : Nat} {e : TypeId} {sz : Nat} {A : Option Addr} {n c : Nat} {cs : List Value} {g : Nat} {t : TypeId} {bs : Array Value} (hb : Blk w g t bs) (h : OwnC w lo hi e sz A n c cs) (ht : t ≠ e) (hg : w.grownBy w' (Value.slice A n c).ownBlock) : Blk w' g t bs :=
  (hg.block g hb.lt fun e' => by
    rcases h.form with ⟨rfl, _⟩ | ⟨q, cur, rfl, _, _, hh, _⟩
    · simp [Value.ownBlock] at e'
    · simp [Value.ownBlock] at e'
      subst e'
      unfold Blk at hb
      rw [hb] at hh
      injection hh with hh
      injection hh with _ hh
      exact ht hh).trans hb

theorem spec_l00Has (A : Option Addr) (c : Nat) (xs : List Int) (x : Int) (w : World) (h : Ints w A xs) (hl : xs.length ≤ 9223372036854775807) :
    Calls Try.prog 108 #[.slice A xs.length c, .int .i64 x] w fun e w' => e = .returned (.bool (decide (x ∈ xs))) ∧ w = w' := by
  go_enter Try.func108, Try.ntmps108
  go_wp2
  go_loop [5] (fun i => ∃ k : Nat, k ≤ xs.length ∧ i = .int .i64 k ∧ Hid (¬ x ∈ xs.take k)) (fun i => xs.length - (intOf i).toNat)
  case atStart => exact ⟨0, Nat.zero_le _, rfl, Lib.hid (by simp)⟩
  case round =>
    obtain ⟨k, hk, rfl, HA⟩ := hrel
    by_cases hlt : k < xs.length
    · obtain ⟨b, off, y, rfl, hc, hy⟩ := h k hlt
      have HY := Lib.hid hy; clear hy
      by_cases hyx : y = x
      · have hyx' : (y == x) = true := by simp [hyx]
        have HYX := Lib.hid hyx; clear hyx
        go_wp2_with (fail)
        go_ret
        exact ⟨ret_bool (decide_eq_true (by rw [← HYX.out]; exact List.mem_of_getElem? HY.out)).symm, rfl⟩
      · have hyx' : (y == x) = false := by simpa using hyx
        have HYX := Lib.hid hyx; clear hyx
        go_wp2_with (fail)
        go_round
        case rel => exact ⟨k + 1, by omega, by go_num, Lib.hid (by rw [take_snoc HY.out, List.mem_append, List.mem_singleton]; rintro (h1 | h1); exact HA.out h1; exact HYX.out h1.symm)⟩
        case measure => simp [intOf]; omega
    · go_wp2_with (fail)
      go_ret
      have := HA.out
      rw [take_all (by omega)] at this
      exact ⟨ret_bool (decide_eq_false this).symm, rfl⟩

theorem slices_Index (A : Option Addr) (c : Nat) (xs : List Int) (x : Int) (w : World) (h : Ints w A xs) (hl : xs.length ≤ 9223372036854775807) :
    Calls Try.prog 163 #[.slice A xs.length c, .int .i64 x] w fun e w' => AnyInt (fun k => decide (0 ≤ k) = decide (x ∈ xs) ∧ k ≤ 9223372036854775807) e ∧ w = w' := by
  go_enter Try.func163, Try.ntmps163
  go_wp2
  go_loop [8] (fun i => ∃ k : Nat, k ≤ xs.length ∧ i = .int .i64 k ∧ Hid (¬ x ∈ xs.take k)) (fun i => xs.length - (intOf i).toNat)
  case atStart => exact ⟨0, Nat.zero_le _, rfl, Lib.hid (by simp)⟩
  case round =>
    obtain ⟨k, hk, rfl, HA⟩ := hrel
    by_cases hlt : k < xs.length
    · obtain ⟨b, off, y, rfl, hc, hy⟩ := h k hlt
      have HY := Lib.hid hy; clear hy
      by_cases hyx : x = y
      · have hyx' : (x == y) = true := by simp [hyx]
        have hyx'' : (y == x) = true := by simp [hyx]
        have HYX := Lib.hid hyx; clear hyx
        go_wp2_with (fail)
        go_ret
        exact ⟨⟨_, rfl, by rw [HYX.out]; exact ⟨fun _ => List.mem_of_getElem? HY.out, fun _ => by omega⟩, by omega⟩, rfl⟩
      · have hyx' : (x == y) = false := by simpa using hyx
        have hyx'' : (y == x) = false := by simpa using fun e => hyx e.symm
        have HYX := Lib.hid hyx; clear hyx
        go_wp2_with (fail)
        go_round
        case rel => exact ⟨k + 1, by omega, by go_num, Lib.hid (by rw [take_snoc HY.out, List.mem_append, List.mem_singleton]; rintro (h1 | h1); exact HA.out h1; exact HYX.out h1)⟩
        case measure => simp [intOf]; omega
    · go_wp2_with (fail)
      go_ret
      have := HA.out
      rw [take_all (by omega)] at this
      exact ⟨⟨_, rfl, ⟨fun h0 => absurd h0 (by decide), fun h1 => absurd h1 this⟩, by omega⟩, rfl⟩
theorem slices_Contains (A : Option Addr) (c : Nat) (xs : List Int) (x : Int) (w : World) (h : Ints w A xs) (hl : xs.length ≤ 9223372036854775807) :
    Calls Try.prog 156 #[.slice A xs.length c, .int .i64 x] w fun e w' => e = .returned (.bool (decide (x ∈ xs))) ∧ w = w' := by
  go_enter Try.func156, Try.ntmps156
  go_wp2_with (refine (slices_Index _ _ _ _ _ h hl).mono ?_; rintro e w' ⟨⟨k, rfl, hk, hk'⟩, rfl⟩)
  go_ret
  exact ⟨rfl, rfl⟩

set_option maxHeartbeats 4000000 in
set_option maxRecDepth 10000 in
theorem spec_l18Row (n : Nat) (xs : List Int) (d r : Int) (A : Option Addr) (c : Nat) (w : World) (h : Ints w A xs) (hl : xs.length ≤ 9223372036854775807) (hn : n ≤ 100) :
    Calls Try.prog 133 #[.int .i64 n, .slice A xs.length c, .int .i64 d, .int .i64 r] w fun e w' => ∃ A' c', e = .returned (.agg #[.int .i64 d, .int .i64 r, .slice A' (rowFrom n xs 0).length c']) ∧ OwnI w' w.heap.size w'.heap.size A' c' (rowFrom n xs 0) ∧ Below w.heap.size w w' := by
  obtain ⟨i0, hi0, hz0, hz1, hz2⟩ := info_parts info_int64
  have ht : (60 : TypeId) ≠ 2 := by decide
  go_enter Try.func133, Try.ntmps133
  go_wp2_with (fail)
  go_loopw [10] (fun cv wr => ∃ (k : Nat) (A' : Option Addr) (c' : Nat) (out : List Int), k ≤ n + 1 ∧ cv = .int .i64 k ∧ Blk wr w.heap.size 60 #[.int .i64 0, .int .i64 0, .slice none 0 0] ∧ Blk wr (w.heap.size + 2) 60 #[.int .i64 d, .int .i64 r, .slice A' out.length c'] ∧ OwnI wr w.heap.size wr.heap.size A' c' out ∧ Below w.heap.size w wr ∧ Hid (rowFrom n xs 0 = out ++ rowFrom n xs k) ∧ out.length ≤ k) (fun cv _ => n + 2 - (intOf cv).toNat)
  case atStart =>
    have o00 : OwnC ((w.alloc (.cells #[.int .i64 0, .int .i64 0, .slice none 0 0] 60)).alloc (.cells #[] 2)) w.heap.size (w.heap.size + 2) 2 1 (some ⟨w.heap.size + 1, 0, none⟩) 0 0 [] := by
      have := OwnC.lit (w := w.alloc (.cells #[.int .i64 0, .int .i64 0, .slice none 0 0] 60)) (lo := w.heap.size) (n := 0) 2 1 #[] (by simp) (Nat.zero_le _) rfl
      simpa using this
    exact ⟨0, some ⟨w.heap.size + 1, 0, none⟩, 0, [], by omega, rfl, ((Blk.new w _ _).alloc _).alloc _, by simpa using Blk.new ((w.alloc (.cells #[.int .i64 0, .int .i64 0, .slice none 0 0] 60)).alloc (.cells #[] 2)) 60 #[.int .i64 d, .int .i64 r, .slice (some ⟨w.heap.size + 1, 0, none⟩) 0 0], (o00.alloc _).mono (Nat.le_refl _) (by simp), by (repeat (first | exact Below.refl _ _ | assumption | apply Below.drew | apply below_drewN | (refine Below.alloc ?_ (by first | omega | (simp; done) | (simp; omega)) _) | (refine Below.setCell ?_ (by first | omega | (simp; done) | (simp; omega)) _))), Lib.hid rfl, by simp⟩
  case round =>
    obtain ⟨k, A', c', out, hk, rfl, hb0, hb9, ho, hb, HA, hol⟩ := hrel
    have hzs := hb.size
    have hz0' := hb0.lt
    have hz9 := hb9.lt
    obtain ⟨q0, q1, q2⟩ := hb9.c3
    have f2 := hb9.frozen 2
    by_cases hlt : k < n
    · by_cases h1 : (k : Int) + 1 ∈ xs
      · have h1' : decide ((k : Int) + 1 ∈ xs) = true := decide_eq_true h1
        have HR : Hid (rowFrom n xs k = 8 :: rowFrom n xs (k + 2)) := Lib.hid (rowFrom_8 hlt h1)
        clear h1
        have a2 := cell_alloc q2 (.cells #[.int .i64 8] 2)
        go_wp2_with (first | (go_at_call 108; refine (spec_l00Has _ _ _ _ _ (h.below hb) hl).mono ?_; rintro e _ ⟨rfl, rfl⟩) | (at_builtin; refine wpList_append1 wr [.int .i64 8] _ rfl (.tmp 31) (.tmp 32) _ rfl 2 i0 _ 1 8 Try.underlying33 hi0 hz0 hz1 hz2 rfl (by decide) rfl ho hzs 1 rfl rfl (by simp [Value.oneCell']) (by omega) (by decide) ?_; intro A2 c2 w2 ho2 hg2 hb2 hz2'; have k9 := (hb9.alloc (.cells #[.int .i64 8] 2)).grownT (ho.alloc (.cells #[.int .i64 8] 2)) ht hg2; obtain ⟨p0, p1, p2⟩ := k9.c3; have f3 := k9.frozen 2))
        have k9 := (hb9.alloc (.cells #[.int .i64 8] 2)).grownT (ho.alloc (.cells #[.int .i64 8] 2)) ht hg2
        have k0 := (hb0.alloc (.cells #[.int .i64 8] 2)).grownT (ho.alloc (.cells #[.int .i64 8] 2)) ht hg2
        have hbb : Below w.heap.size w w2 := hb.trans hb2
        refine ⟨⟨k + 2, A2, c2, out ++ [8], by omega, by go_num, k0.far (by show w.heap.size ≠ w.heap.size + 2; omega) _, by simpa using k9.set32 (.slice A2 (out.length + 1) c2), ?_, by (repeat (first | exact Below.refl _ _ | assumption | apply Below.drew | apply below_drewN | (refine Below.alloc ?_ (by first | omega | (simp; done) | (simp; omega)) _) | (refine Below.setCell ?_ (by first | omega | (simp; done) | (simp; omega)) _))), Lib.hid (by rw [HA.out, HR.out, List.append_assoc]; rfl), by simp; omega⟩, by simp [intOf]; omega⟩
        have o3 : OwnI w2 w.heap.size w2.heap.size A2 c2 (out ++ [8]) := by show OwnC _ _ _ _ _ _ _ _ _; rw [List.map_append, List.length_append]; exact ho2
        exact (o3.farT k9 ht 2 _).mono (Nat.le_refl _) (by simp)
      · have h1' : decide ((k : Int) + 1 ∈ xs) = false := decide_eq_false h1
        by_cases h2 : -(k : Int) - 1 ∈ xs
        · have h2' : decide (-(k : Int) - 1 ∈ xs) = true := decide_eq_true h2
          have HR : Hid (rowFrom n xs k = 9 :: rowFrom n xs (k + 2)) := Lib.hid (rowFrom_9 hlt h1 h2)
          clear h1 h2
          have a2 := cell_alloc q2 (.cells #[.int .i64 9] 2)
          go_wp2_with (first | (go_at_call 108; refine (spec_l00Has _ _ _ _ _ (h.below hb) hl).mono ?_; rintro e _ ⟨rfl, rfl⟩) | (at_builtin; refine wpList_append1 wr [.int .i64 9] _ rfl (.tmp 44) (.tmp 45) _ rfl 2 i0 _ 1 8 Try.underlying33 hi0 hz0 hz1 hz2 rfl (by decide) rfl ho hzs 1 rfl rfl (by simp [Value.oneCell']) (by omega) (by decide) ?_; intro A2 c2 w2 ho2 hg2 hb2 hz2'; have k9 := (hb9.alloc (.cells #[.int .i64 9] 2)).grownT (ho.alloc (.cells #[.int .i64 9] 2)) ht hg2; obtain ⟨p0, p1, p2⟩ := k9.c3; have f3 := k9.frozen 2))
          have k9 := (hb9.alloc (.cells #[.int .i64 9] 2)).grownT (ho.alloc (.cells #[.int .i64 9] 2)) ht hg2
          have k0 := (hb0.alloc (.cells #[.int .i64 9] 2)).grownT (ho.alloc (.cells #[.int .i64 9] 2)) ht hg2
          have hbb : Below w.heap.size w w2 := hb.trans hb2
          refine ⟨⟨k + 2, A2, c2, out ++ [9], by omega, by go_num, k0.far (by show w.heap.size ≠ w.heap.size + 2; omega) _, by simpa using k9.set32 (.slice A2 (out.length + 1) c2), ?_, by (repeat (first | exact Below.refl _ _ | assumption | apply Below.drew | apply below_drewN | (refine Below.alloc ?_ (by first | omega | (simp; done) | (simp; omega)) _) | (refine Below.setCell ?_ (by first | omega | (simp; done) | (simp; omega)) _))), Lib.hid (by rw [HA.out, HR.out, List.append_assoc]; rfl), by simp; omega⟩, by simp [intOf]; omega⟩
          have o3 : OwnI w2 w.heap.size w2.heap.size A2 c2 (out ++ [9]) := by show OwnC _ _ _ _ _ _ _ _ _; rw [List.map_append, List.length_append]; exact ho2
          exact (o3.farT k9 ht 2 _).mono (Nat.le_refl _) (by simp)
        · have h2' : decide (-(k : Int) - 1 ∈ xs) = false := decide_eq_false h2
          have HR : Hid (rowFrom n xs k = 1 :: rowFrom n xs (k + 1)) := Lib.hid (rowFrom_1 hlt h1 h2)
          clear h1 h2
          have a2 := cell_alloc q2 (.cells #[.int .i64 1] 2)
          go_wp2_with (first | (go_at_call 108; refine (spec_l00Has _ _ _ _ _ (h.below hb) hl).mono ?_; rintro e _ ⟨rfl, rfl⟩) | (at_builtin; refine wpList_append1 wr [.int .i64 1] _ rfl (.tmp 19) (.tmp 20) _ rfl 2 i0 _ 1 8 Try.underlying33 hi0 hz0 hz1 hz2 rfl (by decide) rfl ho hzs 1 rfl rfl (by simp [Value.oneCell']) (by omega) (by decide) ?_; intro A2 c2 w2 ho2 hg2 hb2 hz2'; have k9 := (hb9.alloc (.cells #[.int .i64 1] 2)).grownT (ho.alloc (.cells #[.int .i64 1] 2)) ht hg2; obtain ⟨p0, p1, p2⟩ := k9.c3; have f3 := k9.frozen 2))
          have k9 := (hb9.alloc (.cells #[.int .i64 1] 2)).grownT (ho.alloc (.cells #[.int .i64 1] 2)) ht hg2
          have k0 := (hb0.alloc (.cells #[.int .i64 1] 2)).grownT (ho.alloc (.cells #[.int .i64 1] 2)) ht hg2
          have hbb : Below w.heap.size w w2 := hb.trans hb2
          refine ⟨⟨k + 1, A2, c2, out ++ [1], by omega, by go_num, k0.far (by show w.heap.size ≠ w.heap.size + 2; omega) _, by simpa using k9.set32 (.slice A2 (out.length + 1) c2), ?_, by (repeat (first | exact Below.refl _ _ | assumption | apply Below.drew | apply below_drewN | (refine Below.alloc ?_ (by first | omega | (simp; done) | (simp; omega)) _) | (refine Below.setCell ?_ (by first | omega | (simp; done) | (simp; omega)) _))), Lib.hid (by rw [HA.out, HR.out, List.append_assoc]; rfl), by simp; omega⟩, by simp [intOf]; omega⟩
          have o3 : OwnI w2 w.heap.size w2.heap.size A2 c2 (out ++ [1]) := by show OwnC _ _ _ _ _ _ _ _ _; rw [List.map_append, List.length_append]; exact ho2
          exact (o3.farT k9 ht 2 _).mono (Nat.le_refl _) (by simp)
    · have he := HA.out
      rw [rowFrom_end (n := n) (c := k) xs (by omega), List.append_nil] at he
      have HE := Lib.hid he; clear he
      obtain ⟨r0, r1, r2⟩ := hb0.c3
      have g0 := hb0.frozen 0
      have g1 := hb0.frozen 1
      have g2 := hb0.frozen 2
      go_wp2_with (fail)
      refine bodyPost_ret (v := .agg #[.int .i64 d, .int .i64 r, .slice A' out.length c']) (by simp [results, Try.results133, go_sem, r0, r1, r2]) rfl ⟨A', c', by rw [HE.out], ?_, ?_⟩
      · rw [HE.out]
        have o1 := ho.farT hb0 ht 0 (.int .i64 d)
        have k1 := hb0.set30 (.int .i64 d)
        have o2 := o1.farT k1 ht 1 (.int .i64 r)
        have k2 := k1.set31 (.int .i64 r)
        exact (o2.farT k2 ht 2 _).mono (Nat.le_refl _) (by simp)
      · (repeat (first | exact Below.refl _ _ | assumption | apply Below.drew | apply below_drewN | (refine Below.alloc ?_ (by first | omega | (simp; done) | (simp; omega)) _) | (refine Below.setCell ?_ (by first | omega | (simp; done) | (simp; omega)) _)))

set_option maxHeartbeats 4000000 in
set_option maxRecDepth 10000 in
theorem impl_rowOfLetters (n : Nat) (xs : List Int) (d r : Int) (A : Option Addr) (c : Nat) (w : World) (h : Ints w A xs) (hl : xs.length ≤ 9223372036854775807) (hn : n ≤ 100) :
    Calls Try.prog 135 #[.int .i64 n, .slice A xs.length c, .int .i64 d, .int .i64 r] w fun e w' => ∃ A' c', e = .returned (.agg #[.int .i64 d, .int .i64 r, .slice A' (rowFrom n xs 0).length c']) ∧ OwnI w' w.heap.size w'.heap.size A' c' (rowFrom n xs 0) ∧ Below w.heap.size w w' := by
  obtain ⟨i0, hi0, hz0, hz1, hz2⟩ := info_parts info_int64
  have ht : (60 : TypeId) ≠ 2 := by decide
  go_enter Try.func135, Try.ntmps135
  go_wp2_with (fail)
  go_loopw [10] (fun cv wr => ∃ (k : Nat) (A' : Option Addr) (c' : Nat) (out : List Int), k ≤ n + 1 ∧ cv = .int .i64 k ∧ Blk wr w.heap.size 60 #[.int .i64 0, .int .i64 0, .slice none 0 0] ∧ Blk wr (w.heap.size + 1) 60 #[.int .i64 d, .int .i64 r, .slice A' out.length c'] ∧ OwnI wr w.heap.size wr.heap.size A' c' out ∧ Below w.heap.size w wr ∧ Hid (rowFrom n xs 0 = out ++ rowFrom n xs k) ∧ out.length ≤ k) (fun cv _ => n + 2 - (intOf cv).toNat)
  case atStart =>
    exact ⟨0, none, 0, [], by omega, rfl, (Blk.new w _ _).alloc _, by simpa using Blk.new (w.alloc (.cells #[.int .i64 0, .int .i64 0, .slice none 0 0] 60)) 60 #[.int .i64 d, .int .i64 r, .slice none 0 0], OwnC.nil _ _ _ _ _, by (repeat (first | exact Below.refl _ _ | assumption | apply Below.drew | apply below_drewN | (refine Below.alloc ?_ (by first | omega | (simp; done) | (simp; omega)) _) | (refine Below.setCell ?_ (by first | omega | (simp; done) | (simp; omega)) _))), Lib.hid rfl, by simp⟩
  case round =>
    obtain ⟨k, A', c', out, hk, rfl, hb0, hb9, ho, hb, HA, hol⟩ := hrel
    have hzs := hb.size
    have hz0' := hb0.lt
    have hz9 := hb9.lt
    obtain ⟨q0, q1, q2⟩ := hb9.c3
    have f2 := hb9.frozen 2
    by_cases hlt : k < n
    · by_cases h1 : (k : Int) + 1 ∈ xs
      · have h1' : decide ((k : Int) + 1 ∈ xs) = true := decide_eq_true h1
        have HR : Hid (rowFrom n xs k = 8 :: rowFrom n xs (k + 2)) := Lib.hid (rowFrom_8 hlt h1)
        clear h1
        have a2 := cell_alloc q2 (.cells #[.int .i64 8] 2)
        go_wp2_with (first | (go_at_call 156; refine (slices_Contains _ _ _ _ _ (h.below hb) hl).mono ?_; rintro e _ ⟨rfl, rfl⟩) | (at_builtin; refine wpList_append1 wr [.int .i64 8] _ rfl (.tmp 30) (.tmp 31) _ rfl 2 i0 _ 1 8 Try.underlying33 hi0 hz0 hz1 hz2 rfl (by decide) rfl ho hzs 1 rfl rfl (by simp [Value.oneCell']) (by omega) (by decide) ?_; intro A2 c2 w2 ho2 hg2 hb2 hz2'; have k9 := (hb9.alloc (.cells #[.int .i64 8] 2)).grownT (ho.alloc (.cells #[.int .i64 8] 2)) ht hg2; obtain ⟨p0, p1, p2⟩ := k9.c3; have f3 := k9.frozen 2))
        have k9 := (hb9.alloc (.cells #[.int .i64 8] 2)).grownT (ho.alloc (.cells #[.int .i64 8] 2)) ht hg2
        have k0 := (hb0.alloc (.cells #[.int .i64 8] 2)).grownT (ho.alloc (.cells #[.int .i64 8] 2)) ht hg2
        have hbb : Below w.heap.size w w2 := hb.trans hb2
        refine ⟨⟨k + 2, A2, c2, out ++ [8], by omega, by go_num, k0.far (by show w.heap.size ≠ w.heap.size + 1; omega) _, by simpa using k9.set32 (.slice A2 (out.length + 1) c2), ?_, by (repeat (first | exact Below.refl _ _ | assumption | apply Below.drew | apply below_drewN | (refine Below.alloc ?_ (by first | omega | (simp; done) | (simp; omega)) _) | (refine Below.setCell ?_ (by first | omega | (simp; done) | (simp; omega)) _))), Lib.hid (by rw [HA.out, HR.out, List.append_assoc]; rfl), by simp; omega⟩, by simp [intOf]; omega⟩
        have o3 : OwnI w2 w.heap.size w2.heap.size A2 c2 (out ++ [8]) := by show OwnC _ _ _ _ _ _ _ _ _; rw [List.map_append, List.length_append]; exact ho2
        exact (o3.farT k9 ht 2 _).mono (Nat.le_refl _) (by simp)
      · have h1' : decide ((k : Int) + 1 ∈ xs) = false := decide_eq_false h1
        by_cases h2 : -(k : Int) - 1 ∈ xs
        · have h2' : decide (-(k : Int) - 1 ∈ xs) = true := decide_eq_true h2
          have HR : Hid (rowFrom n xs k = 9 :: rowFrom n xs (k + 2)) := Lib.hid (rowFrom_9 hlt h1 h2)
          clear h1 h2
          have a2 := cell_alloc q2 (.cells #[.int .i64 9] 2)
          go_wp2_with (first | (go_at_call 156; refine (slices_Contains _ _ _ _ _ (h.below hb) hl).mono ?_; rintro e _ ⟨rfl, rfl⟩) | (at_builtin; refine wpList_append1 wr [.int .i64 9] _ rfl (.tmp 43) (.tmp 44) _ rfl 2 i0 _ 1 8 Try.underlying33 hi0 hz0 hz1 hz2 rfl (by decide) rfl ho hzs 1 rfl rfl (by simp [Value.oneCell']) (by omega) (by decide) ?_; intro A2 c2 w2 ho2 hg2 hb2 hz2'; have k9 := (hb9.alloc (.cells #[.int .i64 9] 2)).grownT (ho.alloc (.cells #[.int .i64 9] 2)) ht hg2; obtain ⟨p0, p1, p2⟩ := k9.c3; have f3 := k9.frozen 2))
          have k9 := (hb9.alloc (.cells #[.int .i64 9] 2)).grownT (ho.alloc (.cells #[.int .i64 9] 2)) ht hg2
          have k0 := (hb0.alloc (.cells #[.int .i64 9] 2)).grownT (ho.alloc (.cells #[.int .i64 9] 2)) ht hg2
          have hbb : Below w.heap.size w w2 := hb.trans hb2
          refine ⟨⟨k + 2, A2, c2, out ++ [9], by omega, by go_num, k0.far (by show w.heap.size ≠ w.heap.size + 1; omega) _, by simpa using k9.set32 (.slice A2 (out.length + 1) c2), ?_, by (repeat (first | exact Below.refl _ _ | assumption | apply Below.drew | apply below_drewN | (refine Below.alloc ?_ (by first | omega | (simp; done) | (simp; omega)) _) | (refine Below.setCell ?_ (by first | omega | (simp; done) | (simp; omega)) _))), Lib.hid (by rw [HA.out, HR.out, List.append_assoc]; rfl), by simp; omega⟩, by simp [intOf]; omega⟩
          have o3 : OwnI w2 w.heap.size w2.heap.size A2 c2 (out ++ [9]) := by show OwnC _ _ _ _ _ _ _ _ _; rw [List.map_append, List.length_append]; exact ho2
          exact (o3.farT k9 ht 2 _).mono (Nat.le_refl _) (by simp)
        · have h2' : decide (-(k : Int) - 1 ∈ xs) = false := decide_eq_false h2
          have HR : Hid (rowFrom n xs k = 1 :: rowFrom n xs (k + 1)) := Lib.hid (rowFrom_1 hlt h1 h2)
          clear h1 h2
          have a2 := cell_alloc q2 (.cells #[.int .i64 1] 2)
          go_wp2_with (first | (go_at_call 156; refine (slices_Contains _ _ _ _ _ (h.below hb) hl).mono ?_; rintro e _ ⟨rfl, rfl⟩) | (at_builtin; refine wpList_append1 wr [.int .i64 1] _ rfl (.tmp 20) (.tmp 21) _ rfl 2 i0 _ 1 8 Try.underlying33 hi0 hz0 hz1 hz2 rfl (by decide) rfl ho hzs 1 rfl rfl (by simp [Value.oneCell']) (by omega) (by decide) ?_; intro A2 c2 w2 ho2 hg2 hb2 hz2'; have k9 := (hb9.alloc (.cells #[.int .i64 1] 2)).grownT (ho.alloc (.cells #[.int .i64 1] 2)) ht hg2; obtain ⟨p0, p1, p2⟩ := k9.c3; have f3 := k9.frozen 2))
          have k9 := (hb9.alloc (.cells #[.int .i64 1] 2)).grownT (ho.alloc (.cells #[.int .i64 1] 2)) ht hg2
          have k0 := (hb0.alloc (.cells #[.int .i64 1] 2)).grownT (ho.alloc (.cells #[.int .i64 1] 2)) ht hg2
          have hbb : Below w.heap.size w w2 := hb.trans hb2
          refine ⟨⟨k + 1, A2, c2, out ++ [1], by omega, by go_num, k0.far (by show w.heap.size ≠ w.heap.size + 1; omega) _, by simpa using k9.set32 (.slice A2 (out.length + 1) c2), ?_, by (repeat (first | exact Below.refl _ _ | assumption | apply Below.drew | apply below_drewN | (refine Below.alloc ?_ (by first | omega | (simp; done) | (simp; omega)) _) | (refine Below.setCell ?_ (by first | omega | (simp; done) | (simp; omega)) _))), Lib.hid (by rw [HA.out, HR.out, List.append_assoc]; rfl), by simp; omega⟩, by simp [intOf]; omega⟩
          have o3 : OwnI w2 w.heap.size w2.heap.size A2 c2 (out ++ [1]) := by show OwnC _ _ _ _ _ _ _ _ _; rw [List.map_append, List.length_append]; exact ho2
          exact (o3.farT k9 ht 2 _).mono (Nat.le_refl _) (by simp)
    · have he := HA.out
      rw [rowFrom_end (n := n) (c := k) xs (by omega), List.append_nil] at he
      have HE := Lib.hid he; clear he
      obtain ⟨r0, r1, r2⟩ := hb0.c3
      have g0 := hb0.frozen 0
      have g1 := hb0.frozen 1
      have g2 := hb0.frozen 2
      go_wp2_with (fail)
      refine bodyPost_ret (v := .agg #[.int .i64 d, .int .i64 r, .slice A' out.length c']) (by simp [results, Try.results135, go_sem, r0, r1, r2]) rfl ⟨A', c', by rw [HE.out], ?_, ?_⟩
      · rw [HE.out]
        have o1 := ho.farT hb0 ht 0 (.int .i64 d)
        have k1 := hb0.set30 (.int .i64 d)
        have o2 := o1.farT k1 ht 1 (.int .i64 r)
        have k2 := k1.set31 (.int .i64 r)
        exact (o2.farT k2 ht 2 _).mono (Nat.le_refl _) (by simp)
      · (repeat (first | exact Below.refl _ _ | assumption | apply Below.drew | apply below_drewN | (refine Below.alloc ?_ (by first | omega | (simp; done) | (simp; omega)) _) | (refine Below.setCell ?_ (by first | omega | (simp; done) | (simp; omega)) _)))


end Go.Proofs.Ytfgbhhkmdeljoaa
