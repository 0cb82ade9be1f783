/- Steps of the proof, joined from several texts: RU RO ROt MC PKi PKt. -/
import Derived.Test.YtifjdiiafofnpaaZ5
import Derived.Test.YtifjdiiafofnpaaZ3
import Derived.Test.YtifjdiiafofnpaaZ4

/- RowLetters, the program's side. -/
namespace Go.Proofs.Ytifjdiiafofnpaa
open Go.RowKit

set_option maxHeartbeats 4000000 in
set_option maxRecDepth 10000 in
theorem impl_letters (d r : Int) (ks : List Int) (A : Option Addr) (c : Nat) (w : World) (h : Ints w A ks) (hs : stitchesB ks = true) :
    Calls Try.prog 89 #[.agg #[.int .i64 d, .int .i64 r, .slice A ks.length c]] w fun e w' => ∃ A' c', e = .returned (.slice A' (lettersFrom ks 0).length c') ∧ OwnI w' w.heap.size w'.heap.size A' c' (lettersFrom ks 0) ∧ Below w.heap.size w w' := by
  obtain ⟨i0, hi0, hz0, hz1, hz2⟩ := info_parts info_int64
  obtain ⟨hl, hst⟩ := stitchesB_of hs
  have hts := (sums_le hst).1
  have HST := Lib.hid hst; clear hst
  have o00 : OwnC ((w.alloc (.cells #[.int .i64 d, .int .i64 r, .slice A ks.length c] 29)).alloc (.cells #[] 2)) w.heap.size (w.heap.size + 2) 2 1 (some ⟨w.heap.size + 1, 0, none⟩) 0 0 [] := by
    have := OwnC.lit (w := w.alloc (.cells #[.int .i64 d, .int .i64 r, .slice A ks.length c] 29)) (lo := w.heap.size) (n := 0) 2 1 #[] (by simp) (Nat.zero_le _) rfl
    simpa using this
  have O00 := Lib.hid o00; clear o00
  go_enter Try.func89, Try.ntmps89
  go_wp2_with (fail)
  go_loopw [3, 4, 11] (fun ov tv iv wr => ∃ (i t : Nat) (A' : Option Addr) (c' : Nat) (out : List Int), i ≤ ks.length ∧ iv = .int .i64 i ∧ tv = .int .i64 t ∧ ov = .slice A' out.length c' ∧ OwnI wr w.heap.size wr.heap.size A' c' out ∧ Below w.heap.size w wr ∧ Hid (takenS (ks.take i) = t) ∧ Hid (lettersFrom ks 0 = out ++ lettersFrom (ks.drop i) t) ∧ out.length ≤ 4 * i) (fun _ _ iv _ => ks.length - (intOf iv).toNat)
  case atStart =>
    exact ⟨0, 0, some ⟨w.heap.size + 1, 0, none⟩, 0, [], Nat.zero_le _, rfl, rfl, rfl, O00.out.mono (Nat.le_refl _) (by simp), by (repeat (first | exact Below.refl _ _ | assumption | apply Below.drew | apply below_drewN | (refine Below.alloc ?_ (by first | omega | (simp; done) | (simp; omega)) _) | (refine Below.setCell ?_ (by first | omega | (simp; done) | (simp; omega)) _))), Lib.hid rfl, Lib.hid (by simp), by simp⟩
  case round =>
    clear O00
    obtain ⟨i, t, A', c', out, hi, rfl, rfl, rfl, ho, hb, HT, HA, hol⟩ := hrel
    have hzs := hb.size
    by_cases hlt : i < ks.length
    · obtain ⟨b, off, k, rfl, hc, hk⟩ := h i hlt
      replace hc := cells_below hb _ _ hc
      have hq := HST.out k (List.mem_of_getElem? hk)
      have hle : t + takenN k ≤ 64 := by have := takenS_at hk; rw [HT.out] at this; omega
      have HT2 : Hid (takenS (ks.take (i + 1)) = t + takenN k) := Lib.hid (by rw [takenS_snoc hk, HT.out])
      have HA2 : Hid (lettersFrom ks 0 = (out ++ stLetters k t) ++ lettersFrom (ks.drop (i + 1)) ((t + takenN k : Nat) : Int)) := Lib.hid (by rw [HA.out, lettersFrom_drop hk, List.append_assoc]; push_cast; rfl)
      have HB : Hid (takenB k = takenN k) := Lib.hid (takenB_of hq)
      clear hk HT HA
      rcases stitch_cases hq with rfl | rfl | rfl | rfl | rfl | rfl | rfl | rfl | rfl | rfl | rfl
      · go_wp2_with (fail)
        refine (impl_ColumnsTaken _ _).mono ?_; rintro e _ ⟨rfl, rfl⟩
        rw [HB.out]
        go_wp2_with (fail)
        refine ⟨⟨i + 1, t + takenN 1, A', c', out, by omega, by go_num, by push_cast; go_num, rfl, ho, hb, HT2, Lib.hid (by rw [HA2.out]; simp [stLetters]), by omega⟩, by simp [intOf]; omega⟩
      · go_wp2_with (fail)
        refine (impl_ColumnsTaken _ _).mono ?_; rintro e _ ⟨rfl, rfl⟩
        rw [HB.out]
        go_wp2_with (fail)
        refine ⟨⟨i + 1, t + takenN 2, A', c', out, by omega, by go_num, by push_cast; go_num, rfl, ho, hb, HT2, Lib.hid (by rw [HA2.out]; simp [stLetters]), by omega⟩, by simp [intOf]; omega⟩
      · go_wp2_with (fail)
        refine (impl_ColumnsTaken _ _).mono ?_; rintro e _ ⟨rfl, rfl⟩
        rw [HB.out]
        go_wp2_with (fail)
        refine ⟨⟨i + 1, t + takenN 3, A', c', out, by omega, by go_num, by push_cast; go_num, rfl, ho, hb, HT2, Lib.hid (by rw [HA2.out]; simp [stLetters]), by omega⟩, by simp [intOf]; omega⟩
      · go_wp2_with (fail)
        refine (impl_ColumnsTaken _ _).mono ?_; rintro e _ ⟨rfl, rfl⟩
        rw [HB.out]
        go_wp2_with (fail)
        refine ⟨⟨i + 1, t + takenN 4, A', c', out, by omega, by go_num, by push_cast; go_num, rfl, ho, hb, HT2, Lib.hid (by rw [HA2.out]; simp [stLetters]), by omega⟩, by simp [intOf]; omega⟩
      · have hle2 : t ≤ 64 := by omega
        have o2 := OwnC.lit (w := wr) (lo := wr.heap.size) (n := 1) 2 1 #[.int .i64 (-(t : Int) - 1)] (Nat.le_refl _) (by unfold maxLen; omega) rfl
        have O2 := Lib.hid o2; clear o2
        have ho2 := ho.alloc (.cells #[.int .i64 (-(t : Int) - 1)] 2)
        go_wp2_with (at_builtin; refine wpList_appendC (wr.alloc (.cells #[.int .i64 (-(t : Int) - 1)] 2)) rfl (.tmp 26) (.tmp 30) _ rfl 2 i0 _ 1 8 Try.underlying22 hi0 hz0 hz1 hz2 rfl (by decide) rfl ho2 (by simp; omega) (some ⟨wr.heap.size, 0, none⟩) 1 1 [.int .i64 (-(t : Int) - 1)] rfl rfl O2.out.news (by simp [Value.oneCell']) (by unfold maxLen; omega) (by omega) ?_; intro A5 c5 w5 ho5 hg5 hb5)
        have hb6 : Below w.heap.size w w5 := Below.trans (by (repeat (first | exact Below.refl _ _ | assumption | apply Below.drew | apply below_drewN | (refine Below.alloc ?_ (by first | omega | (simp; done) | (simp; omega)) _) | (refine Below.setCell ?_ (by first | omega | (simp; done) | (simp; omega)) _)))) hb5
        refine (impl_ColumnsTaken _ _).mono ?_; rintro e _ ⟨rfl, rfl⟩
        rw [HB.out]
        go_wp2_with (fail)
        refine ⟨⟨i + 1, t + takenN 5, A5, c5, out ++ [-(t : Int) - 1], by omega, by go_num, by push_cast; go_num, by simp, by show OwnC _ _ _ _ _ _ _ _ _; rw [List.map_append, List.length_append]; exact ho5, hb6, HT2, HA2, by simp; omega⟩, by simp [intOf]; omega⟩
      · go_wp2_with (fail)
        refine (impl_ColumnsTaken _ _).mono ?_; rintro e _ ⟨rfl, rfl⟩
        rw [HB.out]
        go_wp2_with (fail)
        refine ⟨⟨i + 1, t + takenN 6, A', c', out, by omega, by go_num, by push_cast; go_num, rfl, ho, hb, HT2, Lib.hid (by rw [HA2.out]; simp [stLetters]), by omega⟩, by simp [intOf]; omega⟩
      · go_wp2_with (fail)
        refine (impl_ColumnsTaken _ _).mono ?_; rintro e _ ⟨rfl, rfl⟩
        rw [HB.out]
        go_wp2_with (fail)
        refine ⟨⟨i + 1, t + takenN 7, A', c', out, by omega, by go_num, by push_cast; go_num, rfl, ho, hb, HT2, Lib.hid (by rw [HA2.out]; simp [stLetters]), by omega⟩, by simp [intOf]; omega⟩
      · have hle2 : t ≤ 64 := by omega
        have o2 := OwnC.lit (w := wr) (lo := wr.heap.size) (n := 1) 2 1 #[.int .i64 ((t : Int) + 1)] (Nat.le_refl _) (by unfold maxLen; omega) rfl
        have O2 := Lib.hid o2; clear o2
        have ho2 := ho.alloc (.cells #[.int .i64 ((t : Int) + 1)] 2)
        go_wp2_with (at_builtin; refine wpList_appendC (wr.alloc (.cells #[.int .i64 ((t : Int) + 1)] 2)) rfl (.tmp 18) (.tmp 21) _ rfl 2 i0 _ 1 8 Try.underlying22 hi0 hz0 hz1 hz2 rfl (by decide) rfl ho2 (by simp; omega) (some ⟨wr.heap.size, 0, none⟩) 1 1 [.int .i64 ((t : Int) + 1)] rfl rfl O2.out.news (by simp [Value.oneCell']) (by unfold maxLen; omega) (by omega) ?_; intro A5 c5 w5 ho5 hg5 hb5)
        have hb6 : Below w.heap.size w w5 := Below.trans (by (repeat (first | exact Below.refl _ _ | assumption | apply Below.drew | apply below_drewN | (refine Below.alloc ?_ (by first | omega | (simp; done) | (simp; omega)) _) | (refine Below.setCell ?_ (by first | omega | (simp; done) | (simp; omega)) _)))) hb5
        refine (impl_ColumnsTaken _ _).mono ?_; rintro e _ ⟨rfl, rfl⟩
        rw [HB.out]
        go_wp2_with (fail)
        refine ⟨⟨i + 1, t + takenN 8, A5, c5, out ++ [(t : Int) + 1], by omega, by go_num, by push_cast; go_num, by simp, by show OwnC _ _ _ _ _ _ _ _ _; rw [List.map_append, List.length_append]; exact ho5, hb6, HT2, HA2, by simp; omega⟩, by simp [intOf]; omega⟩
      · have hle2 : t ≤ 64 := by omega
        have o2 := OwnC.lit (w := wr) (lo := wr.heap.size) (n := 1) 2 1 #[.int .i64 (-(t : Int) - 1)] (Nat.le_refl _) (by unfold maxLen; omega) rfl
        have O2 := Lib.hid o2; clear o2
        have ho2 := ho.alloc (.cells #[.int .i64 (-(t : Int) - 1)] 2)
        go_wp2_with (at_builtin; refine wpList_appendC (wr.alloc (.cells #[.int .i64 (-(t : Int) - 1)] 2)) rfl (.tmp 26) (.tmp 30) _ rfl 2 i0 _ 1 8 Try.underlying22 hi0 hz0 hz1 hz2 rfl (by decide) rfl ho2 (by simp; omega) (some ⟨wr.heap.size, 0, none⟩) 1 1 [.int .i64 (-(t : Int) - 1)] rfl rfl O2.out.news (by simp [Value.oneCell']) (by unfold maxLen; omega) (by omega) ?_; intro A5 c5 w5 ho5 hg5 hb5)
        have hb6 : Below w.heap.size w w5 := Below.trans (by (repeat (first | exact Below.refl _ _ | assumption | apply Below.drew | apply below_drewN | (refine Below.alloc ?_ (by first | omega | (simp; done) | (simp; omega)) _) | (refine Below.setCell ?_ (by first | omega | (simp; done) | (simp; omega)) _)))) hb5
        refine (impl_ColumnsTaken _ _).mono ?_; rintro e _ ⟨rfl, rfl⟩
        rw [HB.out]
        go_wp2_with (fail)
        refine ⟨⟨i + 1, t + takenN 9, A5, c5, out ++ [-(t : Int) - 1], by omega, by go_num, by push_cast; go_num, by simp, by show OwnC _ _ _ _ _ _ _ _ _; rw [List.map_append, List.length_append]; exact ho5, hb6, HT2, HA2, by simp; omega⟩, by simp [intOf]; omega⟩
      · have hle2 : t ≤ 64 := by omega
        have o2 := OwnC.lit (w := wr) (lo := wr.heap.size) (n := 4) 2 1 #[.int .i64 ((t : Int) + 2), .int .i64 ((t : Int) + 1), .int .i64 ((t : Int) + 3), .int .i64 ((t : Int) + 2)] (Nat.le_refl _) (by unfold maxLen; omega) rfl
        have O2 := Lib.hid o2; clear o2
        have ho2 := ho.alloc (.cells #[.int .i64 ((t : Int) + 2), .int .i64 ((t : Int) + 1), .int .i64 ((t : Int) + 3), .int .i64 ((t : Int) + 2)] 2)
        go_wp2_with (at_builtin; refine wpList_appendC (wr.alloc (.cells #[.int .i64 ((t : Int) + 2), .int .i64 ((t : Int) + 1), .int .i64 ((t : Int) + 3), .int .i64 ((t : Int) + 2)] 2)) rfl (.tmp 34) (.tmp 43) _ rfl 2 i0 _ 1 8 Try.underlying22 hi0 hz0 hz1 hz2 rfl (by decide) rfl ho2 (by simp; omega) (some ⟨wr.heap.size, 0, none⟩) 4 4 [.int .i64 ((t : Int) + 2), .int .i64 ((t : Int) + 1), .int .i64 ((t : Int) + 3), .int .i64 ((t : Int) + 2)] rfl rfl O2.out.news (by simp [Value.oneCell']) (by unfold maxLen; omega) (by omega) ?_; intro A5 c5 w5 ho5 hg5 hb5)
        have hb6 : Below w.heap.size w w5 := Below.trans (by (repeat (first | exact Below.refl _ _ | assumption | apply Below.drew | apply below_drewN | (refine Below.alloc ?_ (by first | omega | (simp; done) | (simp; omega)) _) | (refine Below.setCell ?_ (by first | omega | (simp; done) | (simp; omega)) _)))) hb5
        refine (impl_ColumnsTaken _ _).mono ?_; rintro e _ ⟨rfl, rfl⟩
        rw [HB.out]
        go_wp2_with (fail)
        refine ⟨⟨i + 1, t + takenN 10, A5, c5, out ++ [(t : Int) + 2, (t : Int) + 1, (t : Int) + 3, (t : Int) + 2], by omega, by go_num, by push_cast; go_num, by simp, by show OwnC _ _ _ _ _ _ _ _ _; rw [List.map_append, List.length_append]; exact ho5, hb6, HT2, HA2, by simp; omega⟩, by simp [intOf]; omega⟩
      · have hle2 : t ≤ 64 := by omega
        have o2 := OwnC.lit (w := wr) (lo := wr.heap.size) (n := 4) 2 1 #[.int .i64 (-(t : Int) - 2), .int .i64 (-(t : Int) - 1), .int .i64 (-(t : Int) - 3), .int .i64 (-(t : Int) - 2)] (Nat.le_refl _) (by unfold maxLen; omega) rfl
        have O2 := Lib.hid o2; clear o2
        have ho2 := ho.alloc (.cells #[.int .i64 (-(t : Int) - 2), .int .i64 (-(t : Int) - 1), .int .i64 (-(t : Int) - 3), .int .i64 (-(t : Int) - 2)] 2)
        go_wp2_with (at_builtin; refine wpList_appendC (wr.alloc (.cells #[.int .i64 (-(t : Int) - 2), .int .i64 (-(t : Int) - 1), .int .i64 (-(t : Int) - 3), .int .i64 (-(t : Int) - 2)] 2)) rfl (.tmp 47) (.tmp 60) _ rfl 2 i0 _ 1 8 Try.underlying22 hi0 hz0 hz1 hz2 rfl (by decide) rfl ho2 (by simp; omega) (some ⟨wr.heap.size, 0, none⟩) 4 4 [.int .i64 (-(t : Int) - 2), .int .i64 (-(t : Int) - 1), .int .i64 (-(t : Int) - 3), .int .i64 (-(t : Int) - 2)] rfl rfl O2.out.news (by simp [Value.oneCell']) (by unfold maxLen; omega) (by omega) ?_; intro A5 c5 w5 ho5 hg5 hb5)
        have hb6 : Below w.heap.size w w5 := Below.trans (by (repeat (first | exact Below.refl _ _ | assumption | apply Below.drew | apply below_drewN | (refine Below.alloc ?_ (by first | omega | (simp; done) | (simp; omega)) _) | (refine Below.setCell ?_ (by first | omega | (simp; done) | (simp; omega)) _)))) hb5
        refine (impl_ColumnsTaken _ _).mono ?_; rintro e _ ⟨rfl, rfl⟩
        rw [HB.out]
        go_wp2_with (fail)
        refine ⟨⟨i + 1, t + takenN 11, A5, c5, out ++ [-(t : Int) - 2, -(t : Int) - 1, -(t : Int) - 3, -(t : Int) - 2], by omega, by go_num, by push_cast; go_num, by simp, by show OwnC _ _ _ _ _ _ _ _ _; rw [List.map_append, List.length_append]; exact ho5, hb6, HT2, HA2, by simp; omega⟩, by simp [intOf]; omega⟩
    · go_wp2_with (fail)
      go_ret
      have he := HA.out
      rw [drop_all (by omega), lettersFrom, List.append_nil] at he
      rw [he]
      exact ⟨_, _, rfl, ho, hb⟩


end Go.Proofs.Ytifjdiiafofnpaa

/- RowOfLetters. -/
namespace Go.Proofs.Ytifjdiiafofnpaa
open Go.RowKit

def rowFrom (n : Nat) (xs : List Int) (c : Nat) : List Int :=
  if c < n then (if (c : Int) + 1 ∈ xs then 8 :: rowFrom n xs (c + 2) else if -(c : Int) - 1 ∈ xs then 9 :: rowFrom n xs (c + 2) else 1 :: rowFrom n xs (c + 1)) else []
termination_by n - c
decreasing_by all_goals omega
theorem rowFrom_end {n c : Nat} (xs : List Int) (h : n ≤ c) : rowFrom n xs c = [] := by rw [rowFrom, if_neg (by omega)]
theorem rowFrom_8 {n c : Nat} {xs : List Int} (h : c < n) (h1 : (c : Int) + 1 ∈ xs) : rowFrom n xs c = 8 :: rowFrom n xs (c + 2) := by rw [rowFrom, if_pos h, if_pos h1]
theorem rowFrom_9 {n c : Nat} {xs : List Int} (h : c < n) (h1 : ¬ (c : Int) + 1 ∈ xs) (h2 : -(c : Int) - 1 ∈ xs) : rowFrom n xs c = 9 :: rowFrom n xs (c + 2) := by rw [rowFrom, if_pos h, if_neg h1, if_pos h2]
theorem rowFrom_1 {n c : Nat} {xs : List Int} (h : c < n) (h1 : ¬ (c : Int) + 1 ∈ xs) (h2 : ¬ -(c : Int) - 1 ∈ xs) : rowFrom n xs c = 1 :: rowFrom n xs (c + 1) := by rw [rowFrom, if_pos h, if_neg h1, if_neg h2]
theorem rowFrom_length (n : Nat) (xs : List Int) (m : Nat) : ∀ c, n - c ≤ m → (rowFrom n xs c).length ≤ m := by
  induction m with
  | zero => intro c hc; rw [rowFrom_end xs (by omega)]; simp
  | succ m ih =>
    intro c hc
    rw [rowFrom]
    split
    · split
      · have := ih (c + 2) (by omega); simp; omega
      · split
        · have := ih (c + 2) (by omega); simp; omega
        · have := ih (c + 1) (by omega); simp; omega
    · simp
theorem Blk.set32 {w : World} {g : Nat} {t : TypeId} {a b c : Value} (h : Blk w g t #[a, b, c]) (u : Value) : Blk (w.setCell ⟨g, 2, none⟩ u) g t #[a, b, u] := by
  unfold Blk at h ⊢
  simp [World.setCell, Array.getElem?_modify, h]
theorem Blk.set30 {w : World} {g : Nat} {t : TypeId} {a b c : Value} (h : Blk w g t #[a, b, c]) (u : Value) : Blk (w.setCell ⟨g, 0, none⟩ u) g t #[u, b, c] := by
  unfold Blk at h ⊢
  simp [World.setCell, Array.getElem?_modify, h]
theorem Blk.set31 {w : World} {g : Nat} {t : TypeId} {a b c : Value} (h : Blk w g t #[a, b, c]) (u : Value) : Blk (w.setCell ⟨g, 1, none⟩ u) g t #[a, u, c] := by
  unfold Blk at h ⊢
  simp [World.setCell, Array.getElem?_modify, h]
theorem OwnC.farT {w : World} {lo hi : Nat} {e : TypeId} {sz : Nat} {A : Option Addr} {n c : Nat} {cs : List Value} {g : Nat} {t : TypeId} {bs : Array Value} (h : OwnC w lo hi e sz A n c cs) (hb : Blk w g t bs) (ht : t ≠ e) (j : Nat) (u : Value) : OwnC (w.setCell ⟨g, j, none⟩ u) lo hi e sz A n c cs :=
  h.keepT fun k cur _ _ hk => Below.heap_setCell w ⟨g, j, none⟩ u k (by
    rintro rfl
    unfold Blk at hb
    rw [hb] at hk
    injection hk with hk
    injection hk with _ hk
    exact ht hk)
theorem Blk.grownT {w w' : World} {lo hi : Nat} {e : TypeId} {sz : Nat} {A : Option Addr} {n c : Nat} {cs : List Value} {g : Nat} {t : TypeId} {bs : Array Value} (hb : Blk w g t bs) (h : OwnC w lo hi e sz A n c cs) (ht : t ≠ e) (hg : w.grownBy w' (Value.slice A n c).ownBlock) : Blk w' g t bs :=
  (hg.block g hb.lt fun e' => by
    rcases h.form with ⟨rfl, _⟩ | ⟨q, cur, rfl, _, _, hh, _⟩
    · simp [Value.ownBlock] at e'
    · simp [Value.ownBlock] at e'
      subst e'
      unfold Blk at hb
      rw [hb] at hh
      injection hh with hh
      injection hh with _ hh
      exact ht hh).trans hb

theorem slices_Index (A : Option Addr) (c : Nat) (xs : List Int) (x : Int) (w : World) (h : Ints w A xs) (hl : xs.length ≤ 9223372036854775807) :
    Calls Try.prog 171 #[.slice A xs.length c, .int .i64 x] w fun e w' => AnyInt (fun k => decide (0 ≤ k) = decide (x ∈ xs) ∧ k ≤ 9223372036854775807) e ∧ w = w' := by
  go_enter Try.func171, Try.ntmps171
  go_wp2
  go_loop [8] (fun i => ∃ k : Nat, k ≤ xs.length ∧ i = .int .i64 k ∧ Hid (¬ x ∈ xs.take k)) (fun i => xs.length - (intOf i).toNat)
  case atStart => exact ⟨0, Nat.zero_le _, rfl, Lib.hid (by simp)⟩
  case round =>
    obtain ⟨k, hk, rfl, HA⟩ := hrel
    by_cases hlt : k < xs.length
    · obtain ⟨b, off, y, rfl, hc, hy⟩ := h k hlt
      have HY := Lib.hid hy; clear hy
      by_cases hyx : x = y
      · have hyx' : (x == y) = true := by simp [hyx]
        have hyx'' : (y == x) = true := by simp [hyx]
        have HYX := Lib.hid hyx; clear hyx
        go_wp2_with (fail)
        go_ret
        exact ⟨⟨_, rfl, by rw [HYX.out]; exact ⟨fun _ => List.mem_of_getElem? HY.out, fun _ => by omega⟩, by omega⟩, rfl⟩
      · have hyx' : (x == y) = false := by simpa using hyx
        have hyx'' : (y == x) = false := by simpa using fun e => hyx e.symm
        have HYX := Lib.hid hyx; clear hyx
        go_wp2_with (fail)
        go_round
        case rel => exact ⟨k + 1, by omega, by go_num, Lib.hid (by rw [take_snoc HY.out, List.mem_append, List.mem_singleton]; rintro (h1 | h1); exact HA.out h1; exact HYX.out h1)⟩
        case measure => simp [intOf]; omega
    · go_wp2_with (fail)
      go_ret
      have := HA.out
      rw [take_all (by omega)] at this
      exact ⟨⟨_, rfl, ⟨fun h0 => absurd h0 (by decide), fun h1 => absurd h1 this⟩, by omega⟩, rfl⟩
theorem slices_Contains (A : Option Addr) (c : Nat) (xs : List Int) (x : Int) (w : World) (h : Ints w A xs) (hl : xs.length ≤ 9223372036854775807) :
    Calls Try.prog 150 #[.slice A xs.length c, .int .i64 x] w fun e w' => e = .returned (.bool (decide (x ∈ xs))) ∧ w = w' := by
  go_enter Try.func150, Try.ntmps150
  go_wp2_with (refine (slices_Index _ _ _ _ _ h hl).mono ?_; rintro e w' ⟨⟨k, rfl, hk, hk'⟩, rfl⟩)
  go_ret
  exact ⟨rfl, rfl⟩

set_option maxHeartbeats 4000000 in
set_option maxRecDepth 10000 in
theorem impl_rowOfLetters (n : Nat) (xs : List Int) (d r : Int) (A : Option Addr) (c : Nat) (w : World) (h : Ints w A xs) (hl : xs.length ≤ 9223372036854775807) (hn : n ≤ 100) :
    Calls Try.prog 136 #[.int .i64 n, .slice A xs.length c, .int .i64 d, .int .i64 r] w fun e w' => ∃ A' c', e = .returned (.agg #[.int .i64 d, .int .i64 r, .slice A' (rowFrom n xs 0).length c']) ∧ OwnI w' w.heap.size w'.heap.size A' c' (rowFrom n xs 0) ∧ Below w.heap.size w w' := by
  obtain ⟨i0, hi0, hz0, hz1, hz2⟩ := info_parts info_int64
  have ht : (29 : TypeId) ≠ 2 := by decide
  go_enter Try.func136, Try.ntmps136
  go_wp2_with (fail)
  go_loopw [10] (fun cv wr => ∃ (k : Nat) (A' : Option Addr) (c' : Nat) (out : List Int), k ≤ n + 1 ∧ cv = .int .i64 k ∧ Blk wr w.heap.size 29 #[.int .i64 0, .int .i64 0, .slice none 0 0] ∧ Blk wr (w.heap.size + 1) 29 #[.int .i64 d, .int .i64 r, .slice A' out.length c'] ∧ OwnI wr w.heap.size wr.heap.size A' c' out ∧ Below w.heap.size w wr ∧ Hid (rowFrom n xs 0 = out ++ rowFrom n xs k) ∧ out.length ≤ k) (fun cv _ => n + 2 - (intOf cv).toNat)
  case atStart =>
    exact ⟨0, none, 0, [], by omega, rfl, (Blk.new w _ _).alloc _, by simpa using Blk.new (w.alloc (.cells #[.int .i64 0, .int .i64 0, .slice none 0 0] 29)) 29 #[.int .i64 d, .int .i64 r, .slice none 0 0], OwnC.nil _ _ _ _ _, by (repeat (first | exact Below.refl _ _ | assumption | apply Below.drew | apply below_drewN | (refine Below.alloc ?_ (by first | omega | (simp; done) | (simp; omega)) _) | (refine Below.setCell ?_ (by first | omega | (simp; done) | (simp; omega)) _))), Lib.hid rfl, by simp⟩
  case round =>
    obtain ⟨k, A', c', out, hk, rfl, hb0, hb9, ho, hb, HA, hol⟩ := hrel
    have hzs := hb.size
    have hz0' := hb0.lt
    have hz9 := hb9.lt
    obtain ⟨q0, q1, q2⟩ := hb9.c3
    have f2 := hb9.frozen 2
    by_cases hlt : k < n
    · by_cases h1 : (k : Int) + 1 ∈ xs
      · have h1' : decide ((k : Int) + 1 ∈ xs) = true := decide_eq_true h1
        have HR : Hid (rowFrom n xs k = 8 :: rowFrom n xs (k + 2)) := Lib.hid (rowFrom_8 hlt h1)
        clear h1
        have a2 := cell_alloc q2 (.cells #[.int .i64 8] 2)
        go_wp2_with (first | (go_at_call 150; refine (slices_Contains _ _ _ _ _ (h.below hb) hl).mono ?_; rintro e _ ⟨rfl, rfl⟩) | (at_builtin; refine wpList_append1 wr [.int .i64 8] _ rfl (.tmp 30) (.tmp 31) _ rfl 2 i0 _ 1 8 Try.underlying22 hi0 hz0 hz1 hz2 rfl (by decide) rfl ho hzs 1 rfl rfl (by simp [Value.oneCell']) (by omega) (by decide) ?_; intro A2 c2 w2 ho2 hg2 hb2 hz2'; have k9 := (hb9.alloc (.cells #[.int .i64 8] 2)).grownT (ho.alloc (.cells #[.int .i64 8] 2)) ht hg2; obtain ⟨p0, p1, p2⟩ := k9.c3; have f3 := k9.frozen 2))
        have k9 := (hb9.alloc (.cells #[.int .i64 8] 2)).grownT (ho.alloc (.cells #[.int .i64 8] 2)) ht hg2
        have k0 := (hb0.alloc (.cells #[.int .i64 8] 2)).grownT (ho.alloc (.cells #[.int .i64 8] 2)) ht hg2
        have hbb : Below w.heap.size w w2 := hb.trans hb2
        refine ⟨⟨k + 2, A2, c2, out ++ [8], by omega, by go_num, k0.far (by show w.heap.size ≠ w.heap.size + 1; omega) _, by simpa using k9.set32 (.slice A2 (out.length + 1) c2), ?_, by (repeat (first | exact Below.refl _ _ | assumption | apply Below.drew | apply below_drewN | (refine Below.alloc ?_ (by first | omega | (simp; done) | (simp; omega)) _) | (refine Below.setCell ?_ (by first | omega | (simp; done) | (simp; omega)) _))), Lib.hid (by rw [HA.out, HR.out, List.append_assoc]; rfl), by simp; omega⟩, by simp [intOf]; omega⟩
        have o3 : OwnI w2 w.heap.size w2.heap.size A2 c2 (out ++ [8]) := by show OwnC _ _ _ _ _ _ _ _ _; rw [List.map_append, List.length_append]; exact ho2
        exact (o3.farT k9 ht 2 _).mono (Nat.le_refl _) (by simp)
      · have h1' : decide ((k : Int) + 1 ∈ xs) = false := decide_eq_false h1
        by_cases h2 : -(k : Int) - 1 ∈ xs
        · have h2' : decide (-(k : Int) - 1 ∈ xs) = true := decide_eq_true h2
          have HR : Hid (rowFrom n xs k = 9 :: rowFrom n xs (k + 2)) := Lib.hid (rowFrom_9 hlt h1 h2)
          clear h1 h2
          have a2 := cell_alloc q2 (.cells #[.int .i64 9] 2)
          go_wp2_with (first | (go_at_call 150; refine (slices_Contains _ _ _ _ _ (h.below hb) hl).mono ?_; rintro e _ ⟨rfl, rfl⟩) | (at_builtin; refine wpList_append1 wr [.int .i64 9] _ rfl (.tmp 43) (.tmp 44) _ rfl 2 i0 _ 1 8 Try.underlying22 hi0 hz0 hz1 hz2 rfl (by decide) rfl ho hzs 1 rfl rfl (by simp [Value.oneCell']) (by omega) (by decide) ?_; intro A2 c2 w2 ho2 hg2 hb2 hz2'; have k9 := (hb9.alloc (.cells #[.int .i64 9] 2)).grownT (ho.alloc (.cells #[.int .i64 9] 2)) ht hg2; obtain ⟨p0, p1, p2⟩ := k9.c3; have f3 := k9.frozen 2))
          have k9 := (hb9.alloc (.cells #[.int .i64 9] 2)).grownT (ho.alloc (.cells #[.int .i64 9] 2)) ht hg2
          have k0 := (hb0.alloc (.cells #[.int .i64 9] 2)).grownT (ho.alloc (.cells #[.int .i64 9] 2)) ht hg2
          have hbb : Below w.heap.size w w2 := hb.trans hb2
          refine ⟨⟨k + 2, A2, c2, out ++ [9], by omega, by go_num, k0.far (by show w.heap.size ≠ w.heap.size + 1; omega) _, by simpa using k9.set32 (.slice A2 (out.length + 1) c2), ?_, by (repeat (first | exact Below.refl _ _ | assumption | apply Below.drew | apply below_drewN | (refine Below.alloc ?_ (by first | omega | (simp; done) | (simp; omega)) _) | (refine Below.setCell ?_ (by first | omega | (simp; done) | (simp; omega)) _))), Lib.hid (by rw [HA.out, HR.out, List.append_assoc]; rfl), by simp; omega⟩, by simp [intOf]; omega⟩
          have o3 : OwnI w2 w.heap.size w2.heap.size A2 c2 (out ++ [9]) := by show OwnC _ _ _ _ _ _ _ _ _; rw [List.map_append, List.length_append]; exact ho2
          exact (o3.farT k9 ht 2 _).mono (Nat.le_refl _) (by simp)
        · have h2' : decide (-(k : Int) - 1 ∈ xs) = false := decide_eq_false h2
          have HR : Hid (rowFrom n xs k = 1 :: rowFrom n xs (k + 1)) := Lib.hid (rowFrom_1 hlt h1 h2)
          clear h1 h2
          have a2 := cell_alloc q2 (.cells #[.int .i64 1] 2)
          go_wp2_with (first | (go_at_call 150; refine (slices_Contains _ _ _ _ _ (h.below hb) hl).mono ?_; rintro e _ ⟨rfl, rfl⟩) | (at_builtin; refine wpList_append1 wr [.int .i64 1] _ rfl (.tmp 20) (.tmp 21) _ rfl 2 i0 _ 1 8 Try.underlying22 hi0 hz0 hz1 hz2 rfl (by decide) rfl ho hzs 1 rfl rfl (by simp [Value.oneCell']) (by omega) (by decide) ?_; intro A2 c2 w2 ho2 hg2 hb2 hz2'; have k9 := (hb9.alloc (.cells #[.int .i64 1] 2)).grownT (ho.alloc (.cells #[.int .i64 1] 2)) ht hg2; obtain ⟨p0, p1, p2⟩ := k9.c3; have f3 := k9.frozen 2))
          have k9 := (hb9.alloc (.cells #[.int .i64 1] 2)).grownT (ho.alloc (.cells #[.int .i64 1] 2)) ht hg2
          have k0 := (hb0.alloc (.cells #[.int .i64 1] 2)).grownT (ho.alloc (.cells #[.int .i64 1] 2)) ht hg2
          have hbb : Below w.heap.size w w2 := hb.trans hb2
          refine ⟨⟨k + 1, A2, c2, out ++ [1], by omega, by go_num, k0.far (by show w.heap.size ≠ w.heap.size + 1; omega) _, by simpa using k9.set32 (.slice A2 (out.length + 1) c2), ?_, by (repeat (first | exact Below.refl _ _ | assumption | apply Below.drew | apply below_drewN | (refine Below.alloc ?_ (by first | omega | (simp; done) | (simp; omega)) _) | (refine Below.setCell ?_ (by first | omega | (simp; done) | (simp; omega)) _))), Lib.hid (by rw [HA.out, HR.out, List.append_assoc]; rfl), by simp; omega⟩, by simp [intOf]; omega⟩
          have o3 : OwnI w2 w.heap.size w2.heap.size A2 c2 (out ++ [1]) := by show OwnC _ _ _ _ _ _ _ _ _; rw [List.map_append, List.length_append]; exact ho2
          exact (o3.farT k9 ht 2 _).mono (Nat.le_refl _) (by simp)
    · have he := HA.out
      rw [rowFrom_end (n := n) (c := k) xs (by omega), List.append_nil] at he
      have HE := Lib.hid he; clear he
      obtain ⟨r0, r1, r2⟩ := hb0.c3
      have g0 := hb0.frozen 0
      have g1 := hb0.frozen 1
      have g2 := hb0.frozen 2
      go_wp2_with (fail)
      refine bodyPost_ret (v := .agg #[.int .i64 d, .int .i64 r, .slice A' out.length c']) (by simp [results, Try.results136, go_sem, r0, r1, r2]) rfl ⟨A', c', by rw [HE.out], ?_, ?_⟩
      · rw [HE.out]
        have o1 := ho.farT hb0 ht 0 (.int .i64 d)
        have k1 := hb0.set30 (.int .i64 d)
        have o2 := o1.farT k1 ht 1 (.int .i64 r)
        have k2 := k1.set31 (.int .i64 r)
        exact (o2.farT k2 ht 2 _).mono (Nat.le_refl _) (by simp)
      · (repeat (first | exact Below.refl _ _ | assumption | apply Below.drew | apply below_drewN | (refine Below.alloc ?_ (by first | omega | (simp; done) | (simp; omega)) _) | (refine Below.setCell ?_ (by first | omega | (simp; done) | (simp; omega)) _)))


end Go.Proofs.Ytifjdiiafofnpaa

/- RowOfLetters: the two functions. -/
namespace Go.Proofs.Ytifjdiiafofnpaa
open Go.RowKit

structure RowX where
  d : Int
  r : Int
  xs : List Int
def apartAt (xs : List Int) (i : Nat) : Bool := !touchAny (xs.take i) (xs[i]?.getD 0)
def apartB (xs : List Int) : Bool := (List.range xs.length).all (apartAt xs)
def rolCode (n : Int) (xs : List Int) (d r : Int) : Int := if inR n 1 8 && dirB d && carrierB r then (if lettersB n xs then (if apartB xs then 0 else 6) else 1) else 2
def rolRow (n : Int) (xs : List Int) (d r : Int) : RowX := if rolCode n xs d r = 0 then ⟨d, r, rowFrom n.toNat xs 0⟩ else ⟨0, 0, []⟩
theorem rolRow_length (n : Int) (xs : List Int) (d r : Int) : (rolRow n xs d r).xs.length ≤ 8 := by
  unfold rolRow
  split
  · rename_i h
    have hn : inR n 1 8 = true := by
      unfold rolCode at h
      cases e : inR n 1 8
      · rw [e] at h; simp at h
      · rfl
    have := inR_iff.1 hn
    have := rowFrom_length n.toNat xs 8 0 (by omega)
    exact this
  · simp
theorem rol_err {n : Int} {xs : List Int} {d r k : Int} (e : rolCode n xs d r = k) (hk : k ≠ 0) : rolRow n xs d r = ⟨0, 0, []⟩ ∧ rolCode n xs d r = k := ⟨by rw [rolRow, if_neg (by rw [e]; exact hk)], e⟩
theorem letters_small {n : Int} {xs : List Int} (hn : inR n 1 8 = true) (h : lettersB n xs = true) : smallB xs := by
  intro y hy
  have h1 := inR_iff.1 hn
  unfold lettersB letterB at h
  simp only [List.all_eq_true, Bool.and_eq_true] at h
  have h2 := inR_iff.1 (h y hy).2
  omega
theorem smallB_take {xs : List Int} (h : smallB xs) (k : Nat) : smallB (xs.take k) := fun y hy => h y (List.mem_of_mem_take hy)
theorem apart_false {xs : List Int} {k : Nat} {x : Int} (hx : xs[k]? = some x) (h : touchAny (xs.take k) x = true) : apartB xs = false := by
  unfold apartB
  rw [List.all_eq_false]
  refine ⟨k, List.mem_range.2 (List.getElem?_eq_some_iff.1 hx).1, ?_⟩
  simp [apartAt, hx, h]
theorem apart_true {xs : List Int} (h : ∀ j, j < xs.length → apartAt xs j = true) : apartB xs = true := by
  unfold apartB
  rw [List.all_eq_true]
  exact fun j hj => h j (List.mem_range.1 hj)


end Go.Proofs.Ytifjdiiafofnpaa

/- MirrorColours: the plain function, and slices of slices that grow. -/
namespace Go.Proofs.Ytifjdiiafofnpaa
open Go.RowKit

structure ColX where
  n : Int
  xs : List (List Int)
def mirC (n : Int) (xss : List (List Int)) : ColX := if coloursB n xss then ⟨n, xss.map List.reverse⟩ else ⟨0, []⟩
def mirCode (n : Int) (xss : List (List Int)) : Int := if coloursB n xss then 0 else 1
theorem cntII_le {xss : List (List Int)} {m : Nat} (h : ∀ r ∈ xss, r.length ≤ m) : cntII xss ≤ xss.length * m := by
  induction xss with
  | nil => simp [cntII]
  | cons x r ih =>
    have h1 := h x (by simp)
    have h2 := ih fun y hy => h y (by simp [hy])
    simp only [cntII, List.length_cons, Nat.succ_mul]
    omega
theorem mirC_size (n : Int) (xss : List (List Int)) : (mirC n xss).xs.length ≤ 8 ∧ cntII (mirC n xss).xs ≤ 64 := by
  unfold mirC
  split
  · rename_i hv
    have hv' : coloursB n xss = true := hv
    unfold coloursB at hv'
    simp only [Bool.and_eq_true, List.all_eq_true] at hv'
    have h1 := inR_iff.1 hv'.1.1
    have h2 := inR_iff.1 hv'.1.2
    have h3 : ∀ r ∈ xss.map List.reverse, r.length ≤ 8 := by
      intro r hr
      obtain ⟨x, hx, rfl⟩ := List.mem_map.1 hr
      have := hv'.2 x hx
      unfold rowOfB at this
      simp only [Bool.and_eq_true, decide_eq_true_eq] at this
      rw [List.length_reverse]
      omega
    have h4 := cntII_le h3
    simp only [List.length_map] at h4
    refine ⟨by simp; omega, ?_⟩
    have : xss.length ≤ 8 := by omega
    have := Nat.mul_le_mul_right 8 this
    show cntII (xss.map List.reverse) ≤ 64
    omega
  · simp [cntII]
/-- Another slice, of another type, grows. -/
theorem OwnC.grownT {w w' : World} {lo hi : Nat} {e : TypeId} {sz : Nat} {A : Option Addr} {n c : Nat} {cs : List Value} {lo2 hi2 : Nat} {e2 : TypeId} {sz2 : Nat} {B : Option Addr} {n2 c2 : Nat} {cs2 : List Value}
    (h : OwnC w lo hi e sz A n c cs) (h2 : OwnC w lo2 hi2 e2 sz2 B n2 c2 cs2) (ht : e ≠ e2) (hg : w.grownBy w' (Value.slice B n2 c2).ownBlock) : OwnC w' lo hi e sz A n c cs :=
  h.keepT fun k cur _ _ hk => hg.block k (Array.getElem?_eq_some_iff.1 hk).1 fun e' => by
    rcases h2.form with ⟨rfl, _⟩ | ⟨q, cur, rfl, _, _, hh, _⟩
    · simp [Value.ownBlock] at e'
    · simp [Value.ownBlock] at e'
      subst e'
      rw [hk] at hh
      injection hh with hh
      injection hh with _ hh
      exact ht hh
theorem CellsII.grownT {w w' : World} {lo hi : Nat} {cs : List Value} {xss : List (List Int)} {lo2 hi2 : Nat} {e2 : TypeId} {sz2 : Nat} {B : Option Addr} {n2 c2 : Nat} {cs2 : List Value}
    (h : CellsII w lo hi cs xss) (h2 : OwnC w lo2 hi2 e2 sz2 B n2 c2 cs2) (ht : (2 : TypeId) ≠ e2) (hg : w.grownBy w' (Value.slice B n2 c2).ownBlock) : CellsII w' lo hi cs xss :=
  ⟨h.1, fun k xs hx => by obtain ⟨A', c', h1, h3⟩ := h.2.1 k xs hx; exact ⟨A', c', h1, h3.grownT h2 ht hg⟩, h.2.2⟩
theorem CellsII.farT {w : World} {lo hi : Nat} {cs : List Value} {xss : List (List Int)} {g : Nat} {t : TypeId} {bs : Array Value} (h : CellsII w lo hi cs xss) (hb : Blk w g t bs) (ht : t ≠ 2) (j : Nat) (u : Value) : CellsII (w.setCell ⟨g, j, none⟩ u) lo hi cs xss :=
  ⟨h.1, fun k xs hx => by obtain ⟨A', c', h1, h3⟩ := h.2.1 k xs hx; exact ⟨A', c', h1, h3.farT hb ht j u⟩, h.2.2⟩
theorem Blk.set20 {w : World} {g : Nat} {t : TypeId} {a b : Value} (h : Blk w g t #[a, b]) (u : Value) : Blk (w.setCell ⟨g, 0, none⟩ u) g t #[u, b] := by
  unfold Blk at h ⊢
  simp [World.setCell, Array.getElem?_modify, h]
theorem Blk.set21 {w : World} {g : Nat} {t : TypeId} {a b : Value} (h : Blk w g t #[a, b]) (u : Value) : Blk (w.setCell ⟨g, 1, none⟩ u) g t #[a, u] := by
  unfold Blk at h ⊢
  simp [World.setCell, Array.getElem?_modify, h]


end Go.Proofs.Ytifjdiiafofnpaa

/- packed. -/
namespace Go.Proofs.Ytifjdiiafofnpaa
open Go.RowKit

theorem Below.drew' {B : Nat} {w w' : World} (h : Below B w w') : Below B w (World.drew w') := h.trans ⟨rfl, rfl, rfl, Nat.le_refl _, fun _ _ => rfl⟩

set_option maxHeartbeats 4000000 in
set_option maxRecDepth 10000 in
theorem impl_packed (A : Option Addr) (c : Nat) (xs : List Int) (w : World) (h : Ints w A xs) (hl : xs.length ≤ 1000) (hs : smallB xs) :
    Calls Try.prog 135 #[.slice A xs.length c] w fun e w' => ∃ A' c', e = .returned (.slice A' (pack xs).length c') ∧ OwnII w' w.heap.size w'.heap.size A' (pack xs).length c' (pack xs) ∧ Below w.heap.size w w' := by
  have hmf : ∀ (fn : Fn) (first cap : Array Value) (w : World), (Instr.makeFunc fn first cap).run Try.prog w = .ok (.func fn first cap) w := fun _ _ _ _ => rfl
  obtain ⟨i0, hi0, hz0, hz1, hz2⟩ := info_parts info_ints
  obtain ⟨i1, hi1, hy0, hy1, hy2⟩ := info_parts info_int64
  go_enter Try.func135, Try.ntmps135
  go_wp2_with (fail)
  go_loopw [3, 9] (fun ov iv wr => ∃ (k : Nat), k ≤ xs.length ∧ iv = .int .i64 k ∧ Below w.heap.size w wr ∧
      ((packS (xs.take k) = none ∧ ∃ A' c', ov = .slice A' 0 c' ∧ OwnC wr w.heap.size wr.heap.size 22 1 A' 0 c' []) ∨
       (∃ xss l A' c' A2 c2 m cs, packS (xs.take k) = some (xss, l) ∧ ov = .slice A' (xss.length + 1) c' ∧ OwnL wr w.heap.size wr.heap.size A' c' xss l A2 c2 m cs))) (fun _ iv _ => xs.length - (intOf iv).toNat)
  case atStart =>
    exact ⟨0, Nat.zero_le _, rfl, by (repeat (first | exact Below.refl _ _ | assumption | apply Below.drew | apply below_drewN | (refine Below.alloc ?_ (by first | omega | (simp; done) | (simp; omega)) _) | (refine Below.setCell ?_ (by first | omega | (simp; done) | (simp; omega)) _))), .inl ⟨rfl, some ⟨w.heap.size, 0, none⟩, 0, rfl, (OwnC.lit _ 1 #[] (Nat.le_refl _) (Nat.zero_le _) rfl).mono (Nat.le_refl _) (by simp)⟩⟩
  case round =>
    obtain ⟨k, hk, rfl, hb, hrel⟩ := hrel
    have hzs := hb.size
    by_cases hlt : k < xs.length
    · obtain ⟨b, off, x, rfl, hc, hx⟩ := h k hlt
      replace hc := cells_below hb _ _ hc
      have hxs := smallB_at hs hx
      have HT : Hid (xs.take (k + 1) = xs.take k ++ [x]) := Lib.hid (take_snoc hx)
      clear hx
      rcases hrel with ⟨hp, A', c', rfl, ho⟩ | ⟨xss, l, A', c', A2, c2, m, cs, hp, rfl, ho⟩
      · have HP : Hid (packS (xs.take (k + 1)) = some ([], [] ++ [x])) := Lib.hid (by rw [HT.out, packS_none hp]; rfl)
        clear hp
        have ho' := ho.alloc (.cells #[.int .i64 x] 2)
        go_wp2_with (at_builtin; refine wpList_append1q (wr.alloc (.cells #[.int .i64 x] 2)) (wr.heap.size + 1) (by simp) [.slice none 0 0] _ rfl (.tmp 26) (.tmp 27) _ rfl 22 i0 _ 1 24 Try.underlying53 hi0 hz0 hz1 hz2 rfl (by decide) rfl ho' (by simp; omega) 1 rfl rfl (by simp [Value.oneCell']) (by omega) (by decide) ?_; intro A3 c3 w3 ho3 hg3 hb3' hz3)
        have hb3 : Below w.heap.size w w3 := Below.trans (by (repeat (first | exact Below.refl _ _ | assumption | apply Below.drew | apply below_drewN | (refine Below.alloc ?_ (by first | omega | (simp; done) | (simp; omega)) _) | (refine Below.setCell ?_ (by first | omega | (simp; done) | (simp; omega)) _)))) hb3'
        have p5 : w3.cell? ⟨wr.heap.size, 0, none⟩ = some (.int .i64 x) := by
          have k5 : Blk w3 wr.heap.size 2 #[.int .i64 x] := by
            have := ((Blk.new wr 2 #[.int .i64 x]).alloc (.cells #[.slice none 0 0] 22))
            refine (hg3.block _ (by simp only [World.size_alloc]; omega) fun e => ?_).trans this
            have := (ho.own.lt _ e.symm).2
            omega
          exact k5.c1
        have o6 : OwnL w3 w.heap.size w3.heap.size A3 c3 [] [] none 0 w3.heap.size [] := OwnL.one w3.heap.size ho3 (OwnC.nil _ _ _ _ _) (by have := hb3.size; omega) (Nat.le_refl _)
        obtain ⟨g3, rfl, hg1, hg2, s0, f0⟩ := o6.cell
        have HO6 := Lib.hid o6; clear o6
        simp only [List.length_nil] at s0 f0
        have j0 : IntKind.i64.wrap 0 = 0 := rfl
        have q3 : (World.drew (w3.alloc (.cells #[.int .i64 x] 2))).cell? ⟨g3, 0, none⟩ = some (.slice none 0 0) := cell_alloc (w := w3) s0 _
        have q5 : (World.drew (w3.alloc (.cells #[.int .i64 x] 2))).cell? ⟨wr.heap.size, 0, none⟩ = some (.int .i64 x) := cell_alloc (w := w3) p5 _
        go_region_law (refine step_append1d [.int .i64 x] _ rfl (.tmp 38) (.tmp 40) _ rfl 2 i1 _ 1 8 Try.underlying22 hi1 hy0 hy1 hy2 rfl (by decide) (by simp [Act.eval]) (OwnC.keep HO6.out.last fun _ _ _ _ => rfl) (show w3.heap.size ≤ w3.heap.size from HO6.out.mhi) 1 (by simp [Act.eval]) rfl (by simp [Value.oneCell']) (by first | omega | simp) (by decide) ?_; intro A4 c4 w4 ho4 hg4 hb4 hz4; have ho5 : OwnI w4 w3.heap.size w4.heap.size A4 c4 ([] ++ [x]) := (by show OwnC _ _ _ _ _ _ _ _ _; rw [List.map_append, List.length_append]; exact ho4); obtain ⟨hput, s0, s1⟩ := OwnL.put (l2 := [] ++ [x]) (A2 := A4) (c2 := c4) ((HO6.out.alloc (.cells #[.int .i64 x] 2)).keep (w' := World.drew (w3.alloc (.cells #[.int .i64 x] 2))) fun _ _ _ _ => rfl) (show w3.heap.size ≤ (w3.alloc (.cells #[.int .i64 x] 2)).heap.size by simp only [World.size_alloc]; exact Nat.le_succ _) hg4 ho5; try simp only [List.length_nil] at s0 s1)
        all_goals go_wp2_with (fail)
        all_goals
          have hbw : Below w.heap.size w w4 := hb3.trans (hb4.mono HO6.out.lom)
          refine ⟨⟨k + 1, by omega, by go_num, by (repeat (first | exact Below.refl _ _ | assumption | apply Below.drew | apply below_drewN | (refine Below.alloc ?_ (by first | omega | (simp; done) | (simp; omega)) _) | (refine Below.setCell ?_ (by first | omega | (simp; done) | (simp; omega)) _))), .inr ⟨[], [] ++ [x], some ⟨g3, 0, none⟩, c3, A4, c4, w3.heap.size, [], HP.out, by simp, by simpa using hput⟩⟩, by simp [intOf]; omega⟩
      · obtain ⟨hl1, hl2⟩ := packS_len hp
        have hls : smallB l := packS_mem (P := fun y => -1000 ≤ y ∧ y ≤ 1000) hp fun y hy => hs y (List.mem_of_mem_take hy)
        have htk : (xs.take k).length ≤ 1000 := by rw [List.length_take]; omega
        obtain ⟨g, rfl, hg1, hg2, q0, f0⟩ := ho.cell
        have j3 : (0 : Int) ≤ (xss.length : Int) := by omega
        have j7 : IntKind.i64.wrap (xss.length : Int) = (xss.length : Int) := IntWalk.i64_in _ (by omega)
        have j5 : (xss.length : Int) < (xss.length : Int) + 1 := by omega
        have j6 : ((xss.length : Int) + 1 == 0) = false := by simp; omega
        have q1 := cell_alloc q0 (.cells #[.int .i64 x] 2)
        have HI := Lib.hid (ho.last.ints)
        have hll : l.length ≤ 1000 := by omega
        cases ht : touchAny l x
        · have HP : Hid (packS (xs.take (k + 1)) = some (xss, l ++ [x])) := Lib.hid (by rw [HT.out, packS_some hp]; simp [packStep, ht])
          clear hp
          have HO := Lib.hid ho; clear ho
          go_wp2_with (go_at_call 138; refine (containsFunc_impl_packed_1 x wr.heap.size A2 c2 l _ (HI.out.below (by (repeat (first | exact Below.refl _ _ | assumption | apply Below.drew | apply below_drewN | (refine Below.alloc ?_ (by first | omega | (simp; done) | (simp; omega)) _) | (refine Below.setCell ?_ (by first | omega | (simp; done) | (simp; omega)) _))))) (by omega) hls hxs (by simp)).mono ?_; rintro e _ ⟨rfl, rfl⟩)
          have p5 : (wr.alloc (.cells #[.int .i64 x] 2)).cell? ⟨wr.heap.size, 0, none⟩ = some (.int .i64 x) := (Blk.new wr 2 #[.int .i64 x]).c1
          have hb3 : Below w.heap.size w (wr.alloc (.cells #[.int .i64 x] 2)) := by (repeat (first | exact Below.refl _ _ | assumption | apply Below.drew | apply below_drewN | (refine Below.alloc ?_ (by first | omega | (simp; done) | (simp; omega)) _) | (refine Below.setCell ?_ (by first | omega | (simp; done) | (simp; omega)) _)))
          have o6 : OwnL (wr.alloc (.cells #[.int .i64 x] 2)) w.heap.size (wr.alloc (.cells #[.int .i64 x] 2)).heap.size (some ⟨g, 0, none⟩) c' xss l A2 c2 m cs := (HO.out.alloc _).mono' (by simp)
          have s0 := q1
          generalize wr.alloc (.cells #[.int .i64 x] 2) = w3 at p5 hb3 o6 s0 q1 ⊢
          have HO6 := Lib.hid o6; clear o6
          have q3 : (World.drew (w3.alloc (.cells #[.int .i64 x] 2))).cell? ⟨g, xss.length, none⟩ = some (.slice A2 l.length c2) := cell_alloc (w := w3) s0 _
          have q5 : (World.drew (w3.alloc (.cells #[.int .i64 x] 2))).cell? ⟨wr.heap.size, 0, none⟩ = some (.int .i64 x) := cell_alloc (w := w3) p5 _
          go_region_law (refine step_append1d [.int .i64 x] _ rfl (.tmp 38) (.tmp 40) _ rfl 2 i1 _ 1 8 Try.underlying22 hi1 hy0 hy1 hy2 rfl (by decide) (by simp [Act.eval]) (OwnC.keep HO6.out.last fun _ _ _ _ => rfl) (show m ≤ w3.heap.size from HO6.out.mhi) 1 (by simp [Act.eval]) rfl (by simp [Value.oneCell']) (by first | omega | simp) (by decide) ?_; intro A4 c4 w4 ho4 hg4 hb4 hz4; have ho5 : OwnI w4 m w4.heap.size A4 c4 (l ++ [x]) := (by show OwnC _ _ _ _ _ _ _ _ _; rw [List.map_append, List.length_append]; exact ho4); obtain ⟨hput, s0, s1⟩ := OwnL.put (l2 := l ++ [x]) (A2 := A4) (c2 := c4) ((HO6.out.alloc (.cells #[.int .i64 x] 2)).keep (w' := World.drew (w3.alloc (.cells #[.int .i64 x] 2))) fun _ _ _ _ => rfl) (show w3.heap.size ≤ (w3.alloc (.cells #[.int .i64 x] 2)).heap.size by simp only [World.size_alloc]; exact Nat.le_succ _) hg4 ho5; try simp only [List.length_append, List.length_cons, List.length_nil, Nat.zero_add, Nat.add_zero] at s0 s1)
          all_goals go_wp2_with (fail)
          all_goals
            have hbw : Below w.heap.size w w4 := hb3.trans (hb4.mono HO6.out.lom)
            refine ⟨⟨k + 1, by omega, by go_num, by (repeat (first | exact Below.refl _ _ | assumption | apply Below.drew | apply below_drewN | (refine Below.alloc ?_ (by first | omega | (simp; done) | (simp; omega)) _) | (refine Below.setCell ?_ (by first | omega | (simp; done) | (simp; omega)) _))), .inr ⟨xss, l ++ [x], some ⟨g, 0, none⟩, c', A4, c4, m, cs, HP.out, by simp, by simpa using hput⟩⟩, by simp [intOf]; omega⟩
        · have HP : Hid (packS (xs.take (k + 1)) = some (xss ++ [l], [] ++ [x])) := Lib.hid (by rw [HT.out, packS_some hp]; simp [packStep, ht])
          clear hp
          have ho' := ho.out.alloc (.cells #[.int .i64 x] 2)
          have HO := Lib.hid ho; clear ho
          go_wp2_with (first | (go_at_call 138; refine (containsFunc_impl_packed_1 x wr.heap.size A2 c2 l _ (HI.out.below (by (repeat (first | exact Below.refl _ _ | assumption | apply Below.drew | apply below_drewN | (refine Below.alloc ?_ (by first | omega | (simp; done) | (simp; omega)) _) | (refine Below.setCell ?_ (by first | omega | (simp; done) | (simp; omega)) _))))) (by omega) hls hxs (by simp)).mono ?_; rintro e _ ⟨rfl, rfl⟩) | (at_builtin; refine wpList_append1q (wr.alloc (.cells #[.int .i64 x] 2)) (wr.heap.size + 1) (by simp) [.slice none 0 0] _ rfl (.tmp 26) (.tmp 27) _ rfl 22 i0 _ 1 24 Try.underlying53 hi0 hz0 hz1 hz2 rfl (by decide) rfl ho' (by simp; omega) 1 rfl rfl (by simp [Value.oneCell']) (by omega) (by decide) ?_; intro A3 c3 w3 ho3 hg3 hb3' hz3))
          have hb3 : Below w.heap.size w w3 := Below.trans (by (repeat (first | exact Below.refl _ _ | assumption | apply Below.drew | apply below_drewN | (refine Below.alloc ?_ (by first | omega | (simp; done) | (simp; omega)) _) | (refine Below.setCell ?_ (by first | omega | (simp; done) | (simp; omega)) _)))) hb3'
          have p5 : w3.cell? ⟨wr.heap.size, 0, none⟩ = some (.int .i64 x) := by
            have k5 : Blk w3 wr.heap.size 2 #[.int .i64 x] := by
              have := ((Blk.new wr 2 #[.int .i64 x]).alloc (.cells #[.slice none 0 0] 22))
              refine (hg3.block _ (by simp only [World.size_alloc]; omega) fun e => ?_).trans this
              injection e with e
              have e2 : wr.heap.size = g := e
              omega
            exact k5.c1
          have o6 : OwnL w3 w.heap.size w3.heap.size A3 c3 (xss ++ [l]) [] none 0 wr.heap.size (cs ++ [.slice A2 l.length c2]) := by
            refine OwnL.next HO.out (fun q cur h1 h2 h3 => ?_) (by have := hb3'.size; simp at hz3; omega) ho3 (OwnC.nil _ _ _ _ _)
            have hq : q < wr.heap.size := (Array.getElem?_eq_some_iff.1 h3).1
            rw [hg3.block q (by simp only [World.size_alloc]; omega) (fun e => by injection e with e; exact HO.out.ne q cur h3 e), Below.heap_alloc _ _ _ (by simp only [World.size_alloc]; omega), Below.heap_alloc _ _ _ (by omega)]
          obtain ⟨g3, rfl, hg1, hg2, s0, f0⟩ := o6.cell
          have HO6 := Lib.hid o6; clear o6
          simp only [List.length_append, List.length_cons, List.length_nil, Nat.zero_add] at s0 f0
          have j8 : ((xss.length : Int) + 1).toNat = xss.length + 1 := by omega
          have j9 : IntKind.i64.wrap ((xss.length : Int) + 1) = (xss.length : Int) + 1 := IntWalk.i64_in _ (by omega)
          have j10 : (0 : Int) ≤ (xss.length : Int) + 1 := by omega
          have q3 : (World.drew (w3.alloc (.cells #[.int .i64 x] 2))).cell? ⟨g3, xss.length + 1, none⟩ = some (.slice none 0 0) := cell_alloc (w := w3) s0 _
          have q5 : (World.drew (w3.alloc (.cells #[.int .i64 x] 2))).cell? ⟨wr.heap.size, 0, none⟩ = some (.int .i64 x) := cell_alloc (w := w3) p5 _
          go_region_law (refine step_append1d [.int .i64 x] _ rfl (.tmp 38) (.tmp 40) _ rfl 2 i1 _ 1 8 Try.underlying22 hi1 hy0 hy1 hy2 rfl (by decide) (by simp [Act.eval]) (OwnC.keep HO6.out.last fun _ _ _ _ => rfl) (show wr.heap.size ≤ w3.heap.size from HO6.out.mhi) 1 (by simp [Act.eval]) rfl (by simp [Value.oneCell']) (by first | omega | simp) (by decide) ?_; intro A4 c4 w4 ho4 hg4 hb4 hz4; have ho5 : OwnI w4 wr.heap.size w4.heap.size A4 c4 ([] ++ [x]) := (by show OwnC _ _ _ _ _ _ _ _ _; rw [List.map_append, List.length_append]; exact ho4); obtain ⟨hput, s0, s1⟩ := OwnL.put (l2 := [] ++ [x]) (A2 := A4) (c2 := c4) ((HO6.out.alloc (.cells #[.int .i64 x] 2)).keep (w' := World.drew (w3.alloc (.cells #[.int .i64 x] 2))) fun _ _ _ _ => rfl) (show w3.heap.size ≤ (w3.alloc (.cells #[.int .i64 x] 2)).heap.size by simp only [World.size_alloc]; exact Nat.le_succ _) hg4 ho5; try simp only [List.length_append, List.length_cons, List.length_nil, Nat.zero_add] at s0 s1)
          all_goals go_wp2_with (fail)
          all_goals
            have hbw : Below w.heap.size w w4 := hb3.trans (hb4.mono HO6.out.lom)
            refine ⟨⟨k + 1, by omega, by go_num, by (repeat (first | exact Below.refl _ _ | assumption | apply Below.drew | apply below_drewN | (refine Below.alloc ?_ (by first | omega | (simp; done) | (simp; omega)) _) | (refine Below.setCell ?_ (by first | omega | (simp; done) | (simp; omega)) _))), .inr ⟨(xss ++ [l]), [] ++ [x], some ⟨g3, 0, none⟩, c3, A4, c4, wr.heap.size, (cs ++ [.slice A2 l.length c2]), HP.out, by simp, by simpa using hput⟩⟩, by simp [intOf]; omega⟩
    · go_wp2_with (fail)
      go_ret
      rw [take_all (by omega)] at hrel
      rcases hrel with ⟨hp, A', c', rfl, ho⟩ | ⟨xss, l, A', c', A2, c2, m, cs, hp, rfl, ho⟩
      · rw [pack_of_none hp]
        exact ⟨_, _, rfl, ⟨[], ho, ⟨rfl, fun k xs hx => by simp at hx, fun i j v v' g hi' => by simp at hi'⟩⟩, hb⟩
      · rw [pack_of_some hp]
        exact ⟨_, _, by rw [List.length_append]; rfl, ho.toII, hb⟩



end Go.Proofs.Ytifjdiiafofnpaa

/- PackLetters. -/
namespace Go.Proofs.Ytifjdiiafofnpaa
open Go.RowKit


end Go.Proofs.Ytifjdiiafofnpaa
