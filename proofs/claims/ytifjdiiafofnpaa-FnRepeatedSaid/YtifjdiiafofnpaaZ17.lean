/- Steps of the proof, joined from several texts: XH XL XO. -/
import Derived.Test.YtifjdiiafofnpaaZ11
import Derived.Test.YtifjdiiafofnpaaZ12

/- Charts: StackCharts, the program's side. -/
namespace Go.Proofs.Ytifjdiiafofnpaa
open Go Go.RowKit

theorem concat_rows2 (rs ss : List RowD) (A1 A2 : Option Addr) (c1 c2 g lo m hi : Nat) (t : TypeId) (w : World) (o1 : OwnRows w lo m A1 rs.length c1 rs) (o2 : OwnRows w m hi A2 ss.length c2 ss) (h1 : lo ≤ m) (h2 : m ≤ hi) (h3 : hi ≤ w.heap.size)
    (hb : Blk w g t #[.slice A1 rs.length c1, .slice A2 ss.length c2]) (hl1 : rs.length ≤ 1000) (hl2 : ss.length ≤ 1000) :
    Calls Try.prog 74 #[.slice (some ⟨g, 0, none⟩) 2 2] w fun e w' => ∃ A' c', e = .returned (.slice A' (rs ++ ss).length c') ∧ OwnRows w' lo w'.heap.size A' (rs ++ ss).length c' (rs ++ ss) ∧ Below w.heap.size w w' := by
  obtain ⟨cs1, oc1, cr1⟩ := o1.ex
  obtain ⟨cs2, oc2, cr2⟩ := o2.ex
  have hsl : SlicesAt w (some ⟨g, 0, none⟩) 3 [⟨rs.length, cs1⟩, ⟨ss.length, cs2⟩] := by
    intro k hk
    have : k = 0 ∨ k = 1 := by simp at hk; omega
    rcases this with rfl | rfl
    · exact ⟨g, 0, A1, c1, _, rfl, rfl, oc1.len, cr1.one, hb.c2.1, oc1.cellsAt⟩
    · exact ⟨g, 0, A2, c2, _, rfl, rfl, oc2.len, cr2.one, hb.c2.2, oc2.cellsAt⟩
  have hn : partsN [⟨rs.length, cs1⟩, ⟨ss.length, cs2⟩] = (rs ++ ss).length := by simp [partsN]
  have hc : partsC [⟨rs.length, cs1⟩, ⟨ss.length, cs2⟩] = cs1 ++ cs2 := by simp [partsC]
  have hcall := slices_Concat_impl_Row_impl_Row [⟨rs.length, cs1⟩, ⟨ss.length, cs2⟩] _ 2 w hsl (by simp) (by rw [hn, List.length_append]; omega)
  rw [hn, hc] at hcall
  refine hcall.mono ?_
  rintro e w' ⟨A', c', rfl, o, b⟩
  have z := b.size
  refine ⟨A', c', rfl, ⟨cs1 ++ cs2, o.mono (by omega) (Nat.le_refl _), ?_⟩, b⟩
  exact ((cr1.append cr2 h1 h2).keep fun q _ hq _ => b.block q (by omega)).mono (Nat.le_refl _) (by omega)

set_option maxHeartbeats 4000000 in
set_option maxRecDepth 10000 in
theorem impl_StackCharts (n m : Int) (rs ss : List RowD) (A B : Option Addr) (c d : Nat) (w : World) (h : RowsR w A rs) (hl : rs.length ≤ 9223372036854775807) (h' : RowsR w B ss) (hl' : ss.length ≤ 9223372036854775807) :
    Calls Try.prog 25 #[.agg #[.int .i64 n, .slice A rs.length c], .agg #[.int .i64 m, .slice B ss.length d]] w fun e w' => ∃ A' c', e = .returned (.tuple #[.agg #[.int .i64 (stackX n rs m ss).n, .slice A' (stackX n rs m ss).xs.length c'], .int .i64 (stackCode n rs m ss)]) ∧ OwnRows w' w.heap.size w'.heap.size A' (stackX n rs m ss).xs.length c' (stackX n rs m ss).xs ∧ Below w.heap.size w w' := by
  have t1 : (43 : TypeId) ≠ 2 := by decide
  have t2 : (43 : TypeId) ≠ 29 := by decide
  obtain ⟨w1, hw1⟩ : ∃ w1, w1 = ((w.alloc (.cells #[.int .i64 n, .slice A rs.length c] 43)).alloc (.cells #[.int .i64 m, .slice B ss.length d] 43)).alloc (.cells #[.int .i64 0, .slice none 0 0] 43) := ⟨_, rfl⟩
  have hb1 : Below w.heap.size w w1 := by rw [hw1]; (repeat (first | exact Below.refl _ _ | assumption | apply Below.drew | apply below_drewN | (refine Below.alloc ?_ (by first | omega | (simp; done) | (simp; omega)) _) | (refine Below.setCell ?_ (by first | omega | (simp; done) | (simp; omega)) _)))
  have ka : Blk w1 w.heap.size 43 #[.int .i64 n, .slice A rs.length c] := by rw [hw1]; exact ((Blk.new w _ _).alloc _).alloc _
  have kb : Blk w1 (w.heap.size + 1) 43 #[.int .i64 m, .slice B ss.length d] := by rw [hw1]; exact Blk.alloc (by simpa using Blk.new (w.alloc (.cells #[.int .i64 n, .slice A rs.length c] 43)) 43 #[.int .i64 m, .slice B ss.length d]) _
  have kz : Blk w1 (w.heap.size + 2) 43 #[.int .i64 0, .slice none 0 0] := by rw [hw1]; simpa using Blk.new ((w.alloc (.cells #[.int .i64 n, .slice A rs.length c] 43)).alloc (.cells #[.int .i64 m, .slice B ss.length d] 43)) 43 #[.int .i64 0, .slice none 0 0]
  have hz1 : w1.heap.size = w.heap.size + 3 := by rw [hw1]; simp
  have hz1' : w.heap.size + 3 ≤ w1.heap.size := by omega
  clear hz1
  cases hv1 : chartB n rs
  · have HF := Lib.hid (stack_err (stackCode_1 (rs := rs) (ss := ss) (n := n) (m := m) (.inl hv1)) (by decide))
    go_enter Try.func25, Try.ntmps25
    go_wp2_with (fail)
    rw [← hw1]
    refine (impl_ValidChart n rs A c _ (h.below hb1) hl).mono ?_; rintro e w2 ⟨rfl, b2⟩
    have hb2 : Below w.heap.size w w2 := hb1.trans (b2.mono (by omega))
    have kz2 := kz.below b2 (by omega)
    obtain ⟨r0, r1⟩ := kz2.c2
    have g0 := kz2.frozen 0
    have g1 := kz2.frozen 1
    rw [hv1]
    clear hw1
    go_wp2_with (fail)
    refine bodyPost_ret (v := .tuple #[.agg #[.int .i64 (stackX n rs m ss).n, .slice none (stackX n rs m ss).xs.length 0], .int .i64 (stackCode n rs m ss)]) (by rw [HF.out.1, HF.out.2]; simp [results, Try.results25, go_sem, r0, r1]) rfl ⟨none, 0, rfl, ?_, ?_⟩
    · rw [HF.out.1]; exact OwnRows.nil _ _ _
    · (repeat (first | exact Below.refl _ _ | assumption | apply Below.drew | apply below_drewN | (refine Below.alloc ?_ (by first | omega | (simp; done) | (simp; omega)) _) | (refine Below.setCell ?_ (by first | omega | (simp; done) | (simp; omega)) _)))
  · cases hv2 : chartB m ss
    · have HF := Lib.hid (stack_err (stackCode_1 (rs := rs) (ss := ss) (n := n) (m := m) (.inr hv2)) (by decide))
      go_enter Try.func25, Try.ntmps25
      go_wp2_with (fail)
      rw [← hw1]
      refine (impl_ValidChart n rs A c _ (h.below hb1) hl).mono ?_; rintro e w2 ⟨rfl, b2⟩
      have hb2 : Below w.heap.size w w2 := hb1.trans (b2.mono (by omega))
      have kb2 := kb.below b2 (by omega)
      have kz2 := kz.below b2 (by omega)
      have z2 := b2.size
      obtain ⟨q0, q1⟩ := kb2.c2
      rw [hv1]
      clear hw1
      go_wp2_with (fail)
      refine (impl_ValidChart m ss B d _ (h'.below hb2) hl').mono ?_; rintro e w3 ⟨rfl, b3⟩
      have hb3 : Below w.heap.size w w3 := hb2.trans (b3.mono (by omega))
      have kz3 := kz2.below b3 (by omega)
      obtain ⟨r0, r1⟩ := kz3.c2
      have g0 := kz3.frozen 0
      have g1 := kz3.frozen 1
      rw [hv2]
      go_wp2_with (fail)
      refine bodyPost_ret (v := .tuple #[.agg #[.int .i64 (stackX n rs m ss).n, .slice none (stackX n rs m ss).xs.length 0], .int .i64 (stackCode n rs m ss)]) (by rw [HF.out.1, HF.out.2]; simp [results, Try.results25, go_sem, r0, r1]) rfl ⟨none, 0, rfl, ?_, ?_⟩
      · rw [HF.out.1]; exact OwnRows.nil _ _ _
      · (repeat (first | exact Below.refl _ _ | assumption | apply Below.drew | apply below_drewN | (refine Below.alloc ?_ (by first | omega | (simp; done) | (simp; omega)) _) | (refine Below.setCell ?_ (by first | omega | (simp; done) | (simp; omega)) _)))
    · have HC := Lib.hid (stackCode_2 hv1 hv2)
      have h8 := lens_of_chart hv1
      have h8' := lens_of_chart hv2
      obtain ⟨h8, hs8⟩ := h8
      obtain ⟨h8', hs8'⟩ := h8'
      have HS8 := Lib.hid hs8; clear hs8
      have HS8' := Lib.hid hs8'; clear hs8'
      have HV1 := Lib.hid hv1
      go_enter Try.func25, Try.ntmps25
      go_wp2_with (fail)
      rw [← hw1]
      refine (impl_ValidChart n rs A c _ (h.below hb1) hl).mono ?_; rintro e w2 ⟨rfl, b2⟩
      have hb2 : Below w.heap.size w w2 := hb1.trans (b2.mono (by omega))
      have ka2 := ka.below b2 (by omega)
      have kb2 := kb.below b2 (by omega)
      have kz2 := kz.below b2 (by omega)
      have z2 := b2.size
      obtain ⟨q0, q1⟩ := kb2.c2
      rw [hv1]
      clear hw1
      go_wp2_with (fail)
      refine (impl_ValidChart m ss B d _ (h'.below hb2) hl').mono ?_; rintro e w3 ⟨rfl, b3⟩
      have hb3 : Below w.heap.size w w3 := hb2.trans (b3.mono (by omega))
      have ka3 := ka2.below b3 (by omega)
      have kb3 := kb2.below b3 (by omega)
      have kz3 := kz2.below b3 (by omega)
      have z3 := b3.size
      rw [hv2]
      clear hv1 hv2 q0 q1
      go_wp2_with (fail)
      (refine wp_region_pops 0 (S := (fun W' => (W'.cell? ⟨w.heap.size, 0, none⟩ = some (.int .i64 n) ∧ W'.cell? ⟨w.heap.size, 1, none⟩ = some (.slice A rs.length c)) ∧ (W'.cell? ⟨w.heap.size + 1, 0, none⟩ = some (.int .i64 m) ∧ W'.cell? ⟨w.heap.size + 1, 1, none⟩ = some (.slice B ss.length d)))) (pre := ?_) (T := ?_) (n := ?_) (by kernel_rfl) (by kernel_rfl) ?_ ?_ ?_ ?_ (fun hHeld => ?_); rotate_left 3; (focus (simp only [pops]; rfl)); (focus (simp only [tailOf]; rfl)); (focus rfl); (focus (exact ⟨ka3.c2, kb3.c2⟩)))
      ((refine wpAnyH_take (i := 0) (v := ?_) rfl (by kernel_rfl) (by kernel_rfl) (by kernel_rfl) (fun _ _ _ h => h) (Or.inl ⟨by rfl, ?_⟩) (by assumption) ?_; rotate_left; (focus (intro W hSw; (try dsimp only at hSw); go_simp; try (with_reducible rfl)))); (try simp only [List.getElem_toArray, List.getElem_cons_zero, Act.put, List.setIfInBounds_toArray, List.set_cons_zero, List.set_cons_succ]); (refine wpAnyH_take (i := 2) (v := ?_) rfl (by kernel_rfl) (by kernel_rfl) (by kernel_rfl) (fun _ _ _ h => h) (Or.inl ⟨by rfl, ?_⟩) (by assumption) ?_; rotate_left; (focus (intro W hSw; (try dsimp only at hSw); go_simp; try (with_reducible rfl)))); (try simp only [List.getElem_toArray, List.getElem_cons_zero, List.getElem_cons_succ, Act.put, List.setIfInBounds_toArray, List.set_cons_zero, List.set_cons_succ]); (refine wpAnyH_take (i := 3) (v := ?_) rfl (by kernel_rfl) (by kernel_rfl) (by kernel_rfl) (fun _ _ _ h => h) (Or.inl ⟨by rfl, ?_⟩) (by assumption) ?_; rotate_left; (focus (intro W hSw; (try dsimp only at hSw); go_simp; try (with_reducible rfl)))); (try simp only [List.getElem_toArray, List.getElem_cons_zero, List.getElem_cons_succ, Act.put, List.setIfInBounds_toArray, List.set_cons_zero, List.set_cons_succ]))
      (refine wpAnyH_ready (rs := [1]) (by kernel_rfl) (by simp) ?_; refine AllReadyH.cons rfl (fun K hK => ?_) AllReadyH.nil)
      go_simp
      refine (impl_columnsAtEnd n rs A c _ (h.below hb3).drew1 hl HV1.out).mono ?_; rintro e w4 ⟨rfl, b4'⟩
      have b4 := undrew b4'
      have hb4 : Below w.heap.size w w4 := hb3.trans (b4.mono (by omega))
      have ka4 := ka3.below b4 (by omega)
      have kb4 := kb3.below b4 (by omega)
      have kz4 := kz3.below b4 (by omega)
      have z4 := b4.size
      refine hK.out _ _ ⟨ka4.c2, kb4.c2⟩ (fun hHeld => ?_)
      clear hK K b4'
      (try simp only [List.getElem_toArray, List.getElem_cons_zero, List.getElem_cons_succ, Act.put, List.setIfInBounds_toArray, List.set_cons_zero, List.set_cons_succ])
      generalize lastOf n rs = L at HC ⊢
      by_cases hlm : L = m
      · have hlm' : (L != m) = false := by simp [hlm]
        rw [hlm] at HC
        have HLM := Lib.hid hlm; clear hlm
        ((refine wpAnyH_take (i := 4) (v := ?_) rfl (by kernel_rfl) (by kernel_rfl) (by kernel_rfl) (fun _ _ _ h => h) (Or.inl ⟨by rfl, ?_⟩) (by assumption) ?_; rotate_left; (focus (intro W hSw; (try dsimp only at hSw); go_simp; try (with_reducible rfl)))); (try simp only [List.getElem_toArray, List.getElem_cons_zero, List.getElem_cons_succ, Act.put, List.setIfInBounds_toArray, List.set_cons_zero, List.set_cons_succ]))
        (refine wpAnyH_done (by kernel_rfl) ?_ _; change wpList _ _ _ _ _ _)
        go_wp2_with (fail)
        clear hHeld
        (refine wp_region_pops 2 (S := (fun W' => (W'.cell? ⟨w.heap.size, 0, none⟩ = some (.int .i64 n) ∧ W'.cell? ⟨w.heap.size, 1, none⟩ = some (.slice A rs.length c)) ∧ (W'.cell? ⟨w.heap.size + 1, 0, none⟩ = some (.int .i64 m) ∧ W'.cell? ⟨w.heap.size + 1, 1, none⟩ = some (.slice B ss.length d)))) (pre := ?_) (T := ?_) (n := ?_) (by kernel_rfl) (by kernel_rfl) ?_ ?_ ?_ ?_ (fun hHeld => ?_); rotate_left 3; (focus (simp only [pops, List.pop_toArray, List.dropLast_cons_cons, List.dropLast_singleton]; rfl)); (focus (simp only [tailOf, List.pop_toArray, List.dropLast_cons_cons, List.dropLast_singleton, List.back?_toArray, List.getLast?_cons_cons, List.getLast?_singleton, Option.toList_some, List.nil_append, List.cons_append]; rfl)); (focus rfl); (focus (exact ⟨ka4.c2, kb4.c2⟩)))
        ((refine wpAnyH_take (i := 0) (v := ?_) rfl (by kernel_rfl) (by kernel_rfl) (by kernel_rfl) (fun _ _ _ h => h) (Or.inl ⟨by rfl, ?_⟩) (by assumption) ?_; rotate_left; (focus (intro W hSw; (try dsimp only at hSw); go_simp; try (with_reducible rfl)))); (try simp only [List.getElem_toArray, List.getElem_cons_zero, Act.put, List.setIfInBounds_toArray, List.set_cons_zero, List.set_cons_succ]); (refine wpAnyH_take (i := 1) (v := ?_) rfl (by kernel_rfl) (by kernel_rfl) (by kernel_rfl) (fun _ _ _ h => h) (Or.inl ⟨by rfl, ?_⟩) (by assumption) ?_; rotate_left; (focus (intro W hSw; (try dsimp only at hSw); go_simp; try (with_reducible rfl)))); (try simp only [List.getElem_toArray, List.getElem_cons_zero, List.getElem_cons_succ, Act.put, List.setIfInBounds_toArray, List.set_cons_zero, List.set_cons_succ]); (refine wpAnyH_take (i := 2) (v := ?_) rfl (by kernel_rfl) (by kernel_rfl) (by kernel_rfl) (fun _ _ _ h => h) (Or.inl ⟨by rfl, ?_⟩) (by assumption) ?_; rotate_left; (focus (intro W hSw; (try dsimp only at hSw); go_simp; try (with_reducible rfl)))); (try simp only [List.getElem_toArray, List.getElem_cons_zero, List.getElem_cons_succ, Act.put, List.setIfInBounds_toArray, List.set_cons_zero, List.set_cons_succ]); (refine wpAnyH_take (i := 3) (v := ?_) rfl (by kernel_rfl) (by kernel_rfl) (by kernel_rfl) (fun _ _ _ h => h) (Or.inl ⟨by rfl, ?_⟩) (by assumption) ?_; rotate_left; (focus (intro W hSw; (try dsimp only at hSw); go_simp; try (with_reducible rfl)))); (try simp only [List.getElem_toArray, List.getElem_cons_zero, List.getElem_cons_succ, Act.put, List.setIfInBounds_toArray, List.set_cons_zero, List.set_cons_succ]); (refine wpAnyH_take (i := 5) (v := ?_) rfl (by kernel_rfl) (by kernel_rfl) (by kernel_rfl) (fun _ _ _ h => h) (Or.inl ⟨by rfl, ?_⟩) (by assumption) ?_; rotate_left; (focus (intro W hSw; (try dsimp only at hSw); go_simp; try (with_reducible rfl)))); (try simp only [List.getElem_toArray, List.getElem_cons_zero, List.getElem_cons_succ, Act.put, List.setIfInBounds_toArray, List.set_cons_zero, List.set_cons_succ]); (refine wpAnyH_take (i := 6) (v := ?_) rfl (by kernel_rfl) (by kernel_rfl) (by kernel_rfl) (fun _ _ _ h => h) (Or.inl ⟨by rfl, ?_⟩) (by assumption) ?_; rotate_left; (focus (intro W hSw; (try dsimp only at hSw); go_simp; try (with_reducible rfl)))); (try simp only [List.getElem_toArray, List.getElem_cons_zero, List.getElem_cons_succ, Act.put, List.setIfInBounds_toArray, List.set_cons_zero, List.set_cons_succ]))
        (refine wpAnyH_ready (rs := [4]) (by kernel_rfl) (by simp) ?_; refine AllReadyH.cons rfl (fun K hK => ?_) AllReadyH.nil)
        go_simp
        refine (impl_copyRows rs A c _ (h.below hb4).drew1 (by omega) (fun r hr => by have := HS8.out r hr; omega)).mono ?_; rintro e w5 ⟨A5, c5, rfl, o5, b5'⟩
        have b5 := undrew b5'
        replace o5 : OwnRows w5 w4.heap.size w5.heap.size A5 rs.length c5 rs := o5
        have hb5 : Below w.heap.size w w5 := hb4.trans (b5.mono (by omega))
        have ka5 := ka4.below b5 (by omega)
        have kb5 := kb4.below b5 (by omega)
        have kz5 := kz4.below b5 (by omega)
        have z5 := b5.size
        refine hK.out _ _ ⟨ka5.c2, kb5.c2⟩ (fun hHeld => ?_)
        clear hK K b5'
        (try simp only [List.getElem_toArray, List.getElem_cons_zero, List.getElem_cons_succ, Act.put, List.setIfInBounds_toArray, List.set_cons_zero, List.set_cons_succ])
        (refine wpAnyH_ready (rs := [7]) (by kernel_rfl) (by simp) ?_; refine AllReadyH.cons rfl (fun K hK => ?_) AllReadyH.nil)
        go_simp
        refine (impl_copyRows ss B d _ (h'.below hb5) (by omega) (fun r hr => by have := HS8'.out r hr; omega)).mono ?_; rintro e w6 ⟨A6, c6, rfl, o6, b6⟩
        have hb6 : Below w.heap.size w w6 := hb5.trans (b6.mono (by omega))
        have ka6 := ka5.below b6 (by omega)
        have kb6 := kb5.below b6 (by omega)
        have kz6 := kz5.below b6 (by omega)
        have o5b := o5.below b6 (Nat.le_refl _)
        have z6 := b6.size
        refine hK.out _ _ ⟨ka6.c2, kb6.c2⟩ (fun hHeld => ?_)
        clear hK K
        (try simp only [List.getElem_toArray, List.getElem_cons_zero, List.getElem_cons_succ, Act.put, List.setIfInBounds_toArray, List.set_cons_zero, List.set_cons_succ])
        (refine wpAnyH_ready (rs := [8]) (by kernel_rfl) (by simp) ?_; refine AllReadyH.cons rfl (fun K hK => ?_) AllReadyH.nil)
        go_simp
        have kl := Blk.new w6 41 #[.slice A5 rs.length c5, .slice A6 ss.length c6]
        have hb7 : Below w.heap.size w (w6.alloc (.cells #[.slice A5 rs.length c5, .slice A6 ss.length c6] 41)) := hb6.alloc (by omega) _
        have o5c := o5b.alloc (.cells #[.slice A5 rs.length c5, .slice A6 ss.length c6] 41)
        have o6c := o6.alloc (.cells #[.slice A5 rs.length c5, .slice A6 ss.length c6] 41)
        refine hK.out _ _ ⟨(ka6.alloc _).c2, (kb6.alloc _).c2⟩ (fun hHeld => ?_)
        clear hK K
        (try simp only [List.getElem_toArray, List.getElem_cons_zero, List.getElem_cons_succ, Act.put, List.setIfInBounds_toArray, List.set_cons_zero, List.set_cons_succ])
        (refine wpAnyH_ready (rs := [9]) (by kernel_rfl) (by simp) ?_; refine AllReadyH.cons rfl (fun K hK => ?_) AllReadyH.nil)
        go_simp
        refine (concat_rows2 rs ss A5 A6 c5 c6 _ _ _ _ _ _ o5c o6c (by omega) (by omega) (by simp) kl (by omega) (by omega)).mono ?_; rintro e w8 ⟨A8, c8, rfl, o8, b8⟩
        have z8 := b8.size
        simp only [World.size_alloc] at z8
        have hb8 : Below w.heap.size w w8 := hb7.trans (b8.mono (by simp; omega))
        have ka8 := (ka6.alloc (.cells #[.slice A5 rs.length c5, .slice A6 ss.length c6] 41)).below b8 (by simp; omega)
        have kb8 := (kb6.alloc (.cells #[.slice A5 rs.length c5, .slice A6 ss.length c6] 41)).below b8 (by simp; omega)
        have kz8 := (kz6.alloc (.cells #[.slice A5 rs.length c5, .slice A6 ss.length c6] 41)).below b8 (by simp; omega)
        refine hK.out _ _ ⟨ka8.c2, kb8.c2⟩ (fun hHeld => ?_)
        clear hK K
        (try simp only [List.getElem_toArray, List.getElem_cons_zero, List.getElem_cons_succ, Act.put, List.setIfInBounds_toArray, List.set_cons_zero, List.set_cons_succ])
        ((refine wpAnyH_take (i := 10) (v := ?_) rfl (by kernel_rfl) (by kernel_rfl) (by kernel_rfl) (fun _ _ _ h => h) (Or.inl ⟨by rfl, ?_⟩) (by assumption) ?_; rotate_left; (focus (intro W hSw; (try dsimp only at hSw); go_simp; try (with_reducible rfl)))); (try simp only [List.getElem_toArray, List.getElem_cons_zero, List.getElem_cons_succ, Act.put, List.setIfInBounds_toArray, List.set_cons_zero, List.set_cons_succ]))
        (refine wpAnyH_ready (rs := [11]) (by kernel_rfl) (by simp) ?_; refine AllReadyH.cons rfl (fun K hK => ?_) AllReadyH.nil)
        go_simp
        have hlen : (rs ++ ss).length ≤ 16 := by rw [List.length_append]; omega
        try rw [← List.length_append]
        generalize hqs : rs ++ ss = qs at o8 hlen HC ⊢
        have HQ := Lib.hid hqs; clear hqs
        refine (impl_ifChart n qs A8 c8 _ o8.rowsR (by omega)).mono ?_; rintro e w9 ⟨rfl, b9⟩
        have z9 := b9.size
        have hb9 : Below w.heap.size w w9 := hb8.trans (b9.mono (by omega))
        have ka9 := ka8.below b9 (by omega)
        have kb9 := kb8.below b9 (by omega)
        have kz9 := kz8.below b9 (by omega)
        have o9 := o8.below b9 (Nat.le_refl _)
        refine hK.out _ _ ⟨ka9.c2, kb9.c2⟩ (fun hHeld => ?_)
        clear hK K
        (try simp only [List.getElem_toArray, List.getElem_cons_zero, List.getElem_cons_succ, Act.put, List.setIfInBounds_toArray, List.set_cons_zero, List.set_cons_succ])
        ((refine wpAnyH_take (i := 12) (v := ?_) rfl (by kernel_rfl) (by kernel_rfl) (by kernel_rfl) (fun _ _ _ h => h) (Or.inl ⟨by rfl, ?_⟩) (by assumption) ?_; rotate_left; (focus (intro W hSw; (try dsimp only at hSw); go_simp; try (with_reducible rfl)))); (try simp only [List.getElem_toArray, List.getElem_cons_zero, List.getElem_cons_succ, Act.put, List.setIfInBounds_toArray, List.set_cons_zero, List.set_cons_succ]); (refine wpAnyH_take (i := 13) (v := ?_) rfl (by kernel_rfl) (by kernel_rfl) (by kernel_rfl) (fun _ _ _ h => h) (Or.inl ⟨by rfl, ?_⟩) (by assumption) ?_; rotate_left; (focus (intro W hSw; (try dsimp only at hSw); go_simp; try (with_reducible rfl)))); (try simp only [List.getElem_toArray, List.getElem_cons_zero, List.getElem_cons_succ, Act.put, List.setIfInBounds_toArray, List.set_cons_zero, List.set_cons_succ]))
        (refine wpAnyH_done (by kernel_rfl) ?_ _; change wpList _ _ _ _ _ _)
        obtain ⟨r0, r1⟩ := kz9.c2
        have g0 := kz9.frozen 0
        have g1 := kz9.frozen 1
        clear hHeld
        cases hq : chartB n qs
        · have HF : Hid (stackX n rs m ss = ⟨0, []⟩ ∧ stackCode n rs m ss = 5) := Lib.hid (stack_err (by rw [HC.out]; simp [hq]) (by decide))
          go_wp2_with (fail)
          refine bodyPost_ret (v := .tuple #[.agg #[.int .i64 (stackX n rs m ss).n, .slice none (stackX n rs m ss).xs.length 0], .int .i64 (stackCode n rs m ss)]) (by rw [HF.out.1, HF.out.2]; simp [results, Try.results25, go_sem, r0, r1]) rfl ⟨none, 0, rfl, ?_, ?_⟩
          · rw [HF.out.1]; exact OwnRows.nil _ _ _
          · (repeat (first | exact Below.refl _ _ | assumption | apply Below.drew | apply below_drewN | (refine Below.alloc ?_ (by first | omega | (simp; done) | (simp; omega)) _) | (refine Below.setCell ?_ (by first | omega | (simp; done) | (simp; omega)) _)))
        · have HF : Hid (stackX n rs m ss = ⟨n, qs⟩ ∧ stackCode n rs m ss = 0) := Lib.hid (by
            have e : stackCode n rs m ss = 0 := by rw [HC.out]; simp [hq]
            exact ⟨by rw [stackX, if_pos e, HQ.out], e⟩)
          go_wp2_with (fail)
          refine bodyPost_ret (v := .tuple #[.agg #[.int .i64 (stackX n rs m ss).n, .slice A8 (stackX n rs m ss).xs.length c8], .int .i64 (stackCode n rs m ss)]) (by rw [HF.out.1, HF.out.2]; simp [results, Try.results25, go_sem, r0, r1]) rfl ⟨A8, c8, rfl, ?_, ?_⟩
          · rw [HF.out.1]
            have k1 := kz9.set20 (.int .i64 n)
            exact ((o9.farT kz9 t1 t2 0 _).farT k1 t1 t2 1 _).mono (by omega) (by simp; omega)
          · (repeat (first | exact Below.refl _ _ | assumption | apply Below.drew | apply below_drewN | (refine Below.alloc ?_ (by first | omega | (simp; done) | (simp; omega)) _) | (refine Below.setCell ?_ (by first | omega | (simp; done) | (simp; omega)) _)))
      · have hlm' : (L != m) = true := by simpa using hlm
        have HF : Hid (stackX n rs m ss = ⟨0, []⟩ ∧ stackCode n rs m ss = 10) := Lib.hid (stack_err (by rw [HC.out, if_neg hlm]) (by decide))
        clear hlm
        obtain ⟨r0, r1⟩ := kz4.c2
        have g0 := kz4.frozen 0
        have g1 := kz4.frozen 1
        ((refine wpAnyH_take (i := 4) (v := ?_) rfl (by kernel_rfl) (by kernel_rfl) (by kernel_rfl) (fun _ _ _ h => h) (Or.inl ⟨by rfl, ?_⟩) (by assumption) ?_; rotate_left; (focus (intro W hSw; (try dsimp only at hSw); go_simp; try (with_reducible rfl)))); (try simp only [List.getElem_toArray, List.getElem_cons_zero, List.getElem_cons_succ, Act.put, List.setIfInBounds_toArray, List.set_cons_zero, List.set_cons_succ]))
        (refine wpAnyH_done (by kernel_rfl) ?_ _; change wpList _ _ _ _ _ _)
        go_wp2_with (fail)
        refine bodyPost_ret (v := .tuple #[.agg #[.int .i64 (stackX n rs m ss).n, .slice none (stackX n rs m ss).xs.length 0], .int .i64 (stackCode n rs m ss)]) (by rw [HF.out.1, HF.out.2]; simp [results, Try.results25, go_sem, r0, r1]) rfl ⟨none, 0, rfl, ?_, ?_⟩
        · rw [HF.out.1]; exact OwnRows.nil _ _ _
        · (repeat (first | exact Below.refl _ _ | assumption | apply Below.drew | apply below_drewN | (refine Below.alloc ?_ (by first | omega | (simp; done) | (simp; omega)) _) | (refine Below.setCell ?_ (by first | omega | (simp; done) | (simp; omega)) _)))

end Go.Proofs.Ytifjdiiafofnpaa

/- Charts: BesideCharts, the given side. -/
namespace Go.Proofs.Ytifjdiiafofnpaa
open Go Go.RowKit


end Go.Proofs.Ytifjdiiafofnpaa

/- Charts: BesideCharts, the program's side. -/
namespace Go.Proofs.Ytifjdiiafofnpaa
open Go Go.RowKit

theorem concat_ints2 (xs ys : List Int) (A1 A2 : Option Addr) (c1 c2 g : Nat) (t : TypeId) (w : World) (h1 : Ints w A1 xs) (h2 : Ints w A2 ys)
    (hb : Blk w g t #[.slice A1 xs.length c1, .slice A2 ys.length c2]) (hl : xs.length + ys.length ≤ 1000000) :
    Calls Try.prog 78 #[.slice (some ⟨g, 0, none⟩) 2 2] w fun e w' => ∃ A' c', e = .returned (.slice A' (xs ++ ys).length c') ∧ OwnI w' w.heap.size w'.heap.size A' c' (xs ++ ys) ∧ Below w.heap.size w w' := by
  have hsl : SlicesAt w (some ⟨g, 0, none⟩) 1 [partOf xs, partOf ys] := by
    intro k hk
    have : k = 0 ∨ k = 1 := by simp at hk; omega
    rcases this with rfl | rfl
    · exact ⟨g, 0, A1, c1, partOf xs, rfl, rfl, by simp [partOf], ints_one _, hb.c2.1, h1.news⟩
    · exact ⟨g, 0, A2, c2, partOf ys, rfl, rfl, by simp [partOf], ints_one _, hb.c2.2, h2.news⟩
  have hn : partsN [partOf xs, partOf ys] = (xs ++ ys).length := by simp [partsN, partOf]
  have hc : partsC [partOf xs, partOf ys] = (xs ++ ys).map (Value.int .i64) := by simp [partsC, partOf]
  have hcall := slices_Concat_int64_int64 [partOf xs, partOf ys] _ 2 w hsl (by simp) (by rw [hn, List.length_append]; omega)
  rw [hn, hc] at hcall
  exact hcall

set_option maxHeartbeats 4000000 in
set_option maxRecDepth 10000 in
theorem impl_BesideCharts (n m : Int) (rs ss : List RowD) (A B : Option Addr) (c d : Nat) (w : World) (h : RowsR w A rs) (hl : rs.length ≤ 9223372036854775807) (h' : RowsR w B ss) (hl' : ss.length ≤ 9223372036854775807) :
    Calls Try.prog 27 #[.agg #[.int .i64 n, .slice A rs.length c], .agg #[.int .i64 m, .slice B ss.length d]] w fun e w' => ∃ A' c', e = .returned (.tuple #[.agg #[.int .i64 (besX n rs m ss).n, .slice A' (besX n rs m ss).xs.length c'], .int .i64 (besCode n rs m ss)]) ∧ OwnRows w' w.heap.size w'.heap.size A' (besX n rs m ss).xs.length c' (besX n rs m ss).xs ∧ Below w.heap.size w w' := by
  have t1 : (43 : TypeId) ≠ 2 := by decide
  have t2 : (43 : TypeId) ≠ 29 := by decide
  obtain ⟨w1, hw1⟩ : ∃ w1, w1 = ((w.alloc (.cells #[.int .i64 n, .slice A rs.length c] 43)).alloc (.cells #[.int .i64 m, .slice B ss.length d] 43)).alloc (.cells #[.int .i64 0, .slice none 0 0] 43) := ⟨_, rfl⟩
  have hb1 : Below w.heap.size w w1 := by rw [hw1]; (repeat (first | exact Below.refl _ _ | assumption | apply Below.drew | apply below_drewN | (refine Below.alloc ?_ (by first | omega | (simp; done) | (simp; omega)) _) | (refine Below.setCell ?_ (by first | omega | (simp; done) | (simp; omega)) _)))
  have ka : Blk w1 w.heap.size 43 #[.int .i64 n, .slice A rs.length c] := by rw [hw1]; exact ((Blk.new w _ _).alloc _).alloc _
  have kb : Blk w1 (w.heap.size + 1) 43 #[.int .i64 m, .slice B ss.length d] := by rw [hw1]; exact Blk.alloc (by simpa using Blk.new (w.alloc (.cells #[.int .i64 n, .slice A rs.length c] 43)) 43 #[.int .i64 m, .slice B ss.length d]) _
  have kz : Blk w1 (w.heap.size + 2) 43 #[.int .i64 0, .slice none 0 0] := by rw [hw1]; simpa using Blk.new ((w.alloc (.cells #[.int .i64 n, .slice A rs.length c] 43)).alloc (.cells #[.int .i64 m, .slice B ss.length d] 43)) 43 #[.int .i64 0, .slice none 0 0]
  have hz1 : w1.heap.size = w.heap.size + 3 := by rw [hw1]; simp
  have hz1' : w.heap.size + 3 ≤ w1.heap.size := by omega
  clear hz1
  cases hv1 : chartB n rs
  · have HF := Lib.hid (bes_err (besCode_1 (rs := rs) (ss := ss) (n := n) (m := m) (.inl hv1)) (by decide))
    go_enter Try.func27, Try.ntmps27
    go_wp2_with (fail)
    rw [← hw1]
    refine (impl_ValidChart n rs A c _ (h.below hb1) hl).mono ?_; rintro e w2 ⟨rfl, b2⟩
    have hb2 : Below w.heap.size w w2 := hb1.trans (b2.mono (by omega))
    have kz2 := kz.below b2 (by omega)
    obtain ⟨r0, r1⟩ := kz2.c2
    have g0 := kz2.frozen 0
    have g1 := kz2.frozen 1
    rw [hv1]
    clear hw1
    go_wp2_with (fail)
    refine bodyPost_ret (v := .tuple #[.agg #[.int .i64 (besX n rs m ss).n, .slice none (besX n rs m ss).xs.length 0], .int .i64 (besCode n rs m ss)]) (by rw [HF.out.1, HF.out.2]; simp [results, Try.results27, go_sem, r0, r1]) rfl ⟨none, 0, rfl, ?_, ?_⟩
    · rw [HF.out.1]; exact OwnRows.nil _ _ _
    · (repeat (first | exact Below.refl _ _ | assumption | apply Below.drew | apply below_drewN | (refine Below.alloc ?_ (by first | omega | (simp; done) | (simp; omega)) _) | (refine Below.setCell ?_ (by first | omega | (simp; done) | (simp; omega)) _)))
  · cases hv2 : chartB m ss
    · have HF := Lib.hid (bes_err (besCode_1 (rs := rs) (ss := ss) (n := n) (m := m) (.inr hv2)) (by decide))
      go_enter Try.func27, Try.ntmps27
      go_wp2_with (fail)
      rw [← hw1]
      refine (impl_ValidChart n rs A c _ (h.below hb1) hl).mono ?_; rintro e w2 ⟨rfl, b2⟩
      have hb2 : Below w.heap.size w w2 := hb1.trans (b2.mono (by omega))
      have kb2 := kb.below b2 (by omega)
      have kz2 := kz.below b2 (by omega)
      have z2 := b2.size
      obtain ⟨q0, q1⟩ := kb2.c2
      rw [hv1]
      clear hw1
      go_wp2_with (fail)
      refine (impl_ValidChart m ss B d _ (h'.below hb2) hl').mono ?_; rintro e w3 ⟨rfl, b3⟩
      have hb3 : Below w.heap.size w w3 := hb2.trans (b3.mono (by omega))
      have kz3 := kz2.below b3 (by omega)
      obtain ⟨r0, r1⟩ := kz3.c2
      have g0 := kz3.frozen 0
      have g1 := kz3.frozen 1
      rw [hv2]
      go_wp2_with (fail)
      refine bodyPost_ret (v := .tuple #[.agg #[.int .i64 (besX n rs m ss).n, .slice none (besX n rs m ss).xs.length 0], .int .i64 (besCode n rs m ss)]) (by rw [HF.out.1, HF.out.2]; simp [results, Try.results27, go_sem, r0, r1]) rfl ⟨none, 0, rfl, ?_, ?_⟩
      · rw [HF.out.1]; exact OwnRows.nil _ _ _
      · (repeat (first | exact Below.refl _ _ | assumption | apply Below.drew | apply below_drewN | (refine Below.alloc ?_ (by first | omega | (simp; done) | (simp; omega)) _) | (refine Below.setCell ?_ (by first | omega | (simp; done) | (simp; omega)) _)))
    · have HC := Lib.hid (besCode_2 hv1 hv2)
      have h8 := lens_of_chart hv1
      have h8' := lens_of_chart hv2
      obtain ⟨h8, hs8⟩ := h8
      obtain ⟨h8', hs8'⟩ := h8'
      have HS8 := Lib.hid hs8; clear hs8
      have HS8' := Lib.hid hs8'; clear hs8'
      have HV1 := Lib.hid hv1
      go_enter Try.func27, Try.ntmps27
      go_wp2_with (fail)
      rw [← hw1]
      refine (impl_ValidChart n rs A c _ (h.below hb1) hl).mono ?_; rintro e w2 ⟨rfl, b2⟩
      have hb2 : Below w.heap.size w w2 := hb1.trans (b2.mono (by omega))
      have ka2 := ka.below b2 (by omega)
      have kb2 := kb.below b2 (by omega)
      have kz2 := kz.below b2 (by omega)
      have z2 := b2.size
      obtain ⟨q0, q1⟩ := kb2.c2
      rw [hv1]
      clear hw1
      go_wp2_with (fail)
      refine (impl_ValidChart m ss B d _ (h'.below hb2) hl').mono ?_; rintro e w3 ⟨rfl, b3⟩
      have hb3 : Below w.heap.size w w3 := hb2.trans (b3.mono (by omega))
      have ka3 := ka2.below b3 (by omega)
      have kb3 := kb2.below b3 (by omega)
      have kz3 := kz2.below b3 (by omega)
      have z3 := b3.size
      rw [hv2]
      have HLEN0 := Lib.hid (Nat.le_refl 0)
      by_cases hll : rs.length = ss.length
      case neg =>
        have hll' : ((rs.length : Int) != (ss.length : Int)) = true := by simpa using fun e => hll (by omega)
        have HF : Hid (besX n rs m ss = ⟨0, []⟩ ∧ besCode n rs m ss = 6) := Lib.hid (bes_err (by rw [HC.out, if_neg hll]) (by decide))
        clear hll hv1 hv2 q0 q1 HLEN0
        obtain ⟨p0, p1⟩ := ka3.c2
        obtain ⟨q0, q1⟩ := kb3.c2
        obtain ⟨r0, r1⟩ := kz3.c2
        have g0 := kz3.frozen 0
        have g1 := kz3.frozen 1
        go_wp2_with (fail)
        refine bodyPost_ret (v := .tuple #[.agg #[.int .i64 (besX n rs m ss).n, .slice none (besX n rs m ss).xs.length 0], .int .i64 (besCode n rs m ss)]) (by rw [HF.out.1, HF.out.2]; simp [results, Try.results27, go_sem, r0, r1]) rfl ⟨none, 0, rfl, ?_, ?_⟩
        · rw [HF.out.1]; exact OwnRows.nil _ _ _
        · (repeat (first | exact Below.refl _ _ | assumption | apply Below.drew | apply below_drewN | (refine Below.alloc ?_ (by first | omega | (simp; done) | (simp; omega)) _) | (refine Below.setCell ?_ (by first | omega | (simp; done) | (simp; omega)) _)))
      have hll' : ((rs.length : Int) != (ss.length : Int)) = false := by simp [hll]
      have HC1 : Hid (besCode n rs m ss = if sameHeads rs ss then (if chartB (n + m) (joinRows rs ss) then 0 else 5) else 6) := Lib.hid (by rw [HC.out, if_pos hll])
      have HLN := Lib.hid hll; clear hll HLEN0
      have hn8 := (chartB_of HV1.out).1
      have hm8 := (chartB_of hv2).1
      obtain ⟨hn1, hn8⟩ := hn8
      obtain ⟨hm1, hm8⟩ := hm8
      obtain ⟨i0, hi0, hy0, hy1, hy2⟩ := info_parts info_Row
      have t1 : (43 : TypeId) ≠ 2 := by decide
      have t2 : (43 : TypeId) ≠ 29 := by decide
      clear hv1 hv2 q0 q1
      obtain ⟨p0, p1⟩ := ka3.c2
      obtain ⟨q0, q1⟩ := kb3.c2
      obtain ⟨p2, p3⟩ := (ka3.alloc (.cells #[.int .i64 (n + m), .slice none 0 0] 43)).c2
      go_wp2_with (fail)
      clear p0 p1 q0 q1 p2 p3 hll'
      go_loopw [36] (fun iv wr => ∃ k : Nat, k ≤ rs.length ∧ iv = .int .i64 k ∧ Hid (sameHeads rs ss = sameHeads (rs.drop k) (ss.drop k)) ∧ ChartInv (n + m) w3.heap.size w3 wr k (joinRows (rs.take k) (ss.take k))) (fun iv _ => rs.length - (intOf iv).toNat)
      case atStart => exact ⟨0, Nat.zero_le _, rfl, Lib.hid rfl, ChartInv.start _ _⟩
      case round =>
        obtain ⟨k, hk, rfl, HS, hinv⟩ := hrel
        obtain ⟨hdl, hb, hlt, A', c', cs, kk, ho, hcr⟩ := hinv
        have kar := ka3.below hb (by omega)
        have kbr := kb3.below hb (by omega)
        have kzr := kz3.below hb (by omega)
        have hzr := hb.size
        have hbr : Below w.heap.size w wr := hb3.trans (hb.mono (by omega))
        obtain ⟨s0, s1⟩ := kk.c2
        by_cases hkl : k < rs.length
        · have hkl' : k < ss.length := by have := HLN.out; omega
          obtain ⟨b, off, A7, c7, q, rfl, hx, f0, f1, f2, hiq, hql⟩ := (h.below hbr) k hkl
          obtain ⟨b', off', A8, c8, p, rfl, hx', f0', f1', f2', hip, hpl⟩ := (h'.below hbr) k hkl'
          have hps := HS8'.out p (List.mem_of_getElem? hx')
          have hqs := HS8.out q (List.mem_of_getElem? hx)
          have HSH := Lib.hid (sameHeads_drop hx hx')
          have HX : Hid (joinRows (rs.take (k + 1)) (ss.take (k + 1)) = joinRows (rs.take k) (ss.take k) ++ [⟨q.d, q.r, q.s ++ p.s⟩]) := Lib.hid (joinRows_snoc hx hx')
          clear hx hx'
          generalize joinRows (rs.take k) (ss.take k) = done at hdl hcr HX ⊢
          obtain ⟨x0, x1⟩ := kbr.c2
          have j1 : (0 : Int) ≤ (k : Int) := by omega
          have j2 : (k : Int) < (rs.length : Int) := by omega
          have j3 : (k : Int) < (ss.length : Int) := by omega
          have hbx : Below wr.heap.size wr (wr.alloc (.cells #[.int .i64 q.d, .int .i64 q.r, .slice A7 q.s.length c7] 29)) := by (repeat (first | exact Below.refl _ _ | assumption | apply Below.drew | apply below_drewN | (refine Below.alloc ?_ (by first | omega | (simp; done) | (simp; omega)) _) | (refine Below.setCell ?_ (by first | omega | (simp; done) | (simp; omega)) _)))
          obtain ⟨x2, x3⟩ := (kbr.alloc (.cells #[.int .i64 q.d, .int .i64 q.r, .slice A7 q.s.length c7] 29)).c2
          have e0 := cell_alloc f0' (.cells #[.int .i64 q.d, .int .i64 q.r, .slice A7 q.s.length c7] 29)
          have e1 := cell_alloc f1' (.cells #[.int .i64 q.d, .int .i64 q.r, .slice A7 q.s.length c7] 29)
          have e2 := cell_alloc f2' (.cells #[.int .i64 q.d, .int .i64 q.r, .slice A7 q.s.length c7] 29)
          by_cases hd : q.d = p.d
          · have hd' : (q.d != p.d) = false := by simp [hd]
            have HD := Lib.hid hd; clear hd
            by_cases hr : q.r = p.r
            · have hr' : (q.r != p.r) = false := by simp [hr]
              have HRR := Lib.hid hr; clear hr
              have HS2 : Hid (sameHeads rs ss = sameHeads (rs.drop (k + 1)) (ss.drop (k + 1))) := Lib.hid (by rw [HS.out, HSH.out]; simp [sameHead, HD.out, HRR.out])
              have kq6 := (Blk.new wr 29 #[.int .i64 q.d, .int .i64 q.r, .slice A7 q.s.length c7]).alloc (.cells #[.int .i64 p.d, .int .i64 p.r, .slice A8 p.s.length c8] 29)
              have kp6 : Blk ((wr.alloc (.cells #[.int .i64 q.d, .int .i64 q.r, .slice A7 q.s.length c7] 29)).alloc (.cells #[.int .i64 p.d, .int .i64 p.r, .slice A8 p.s.length c8] 29)) (wr.heap.size + 1) 29 #[.int .i64 p.d, .int .i64 p.r, .slice A8 p.s.length c8] := by simpa using Blk.new (wr.alloc (.cells #[.int .i64 q.d, .int .i64 q.r, .slice A7 q.s.length c7] 29)) 29 #[.int .i64 p.d, .int .i64 p.r, .slice A8 p.s.length c8]
              have kk6 := (kk.alloc (.cells #[.int .i64 q.d, .int .i64 q.r, .slice A7 q.s.length c7] 29)).alloc (.cells #[.int .i64 p.d, .int .i64 p.r, .slice A8 p.s.length c8] 29)
              have hb6 : Below wr.heap.size wr ((wr.alloc (.cells #[.int .i64 q.d, .int .i64 q.r, .slice A7 q.s.length c7] 29)).alloc (.cells #[.int .i64 p.d, .int .i64 p.r, .slice A8 p.s.length c8] 29)) := hbx.alloc (by simp) _
              obtain ⟨y0, y1, y2⟩ := kq6.c3
              obtain ⟨u0, u1, u2⟩ := kp6.c3
              go_wp2_with (fail)
              clear y0 y1 y2 u0 u1 u2 x0 x1 x2 x3 e0 e1 e2 s0 s1 f0 f1 f2 f0' f1' f2' hbx hd' hr' kar kbr kzr
              obtain ⟨w6, hw6⟩ : ∃ w6, w6 = (wr.alloc (.cells #[.int .i64 q.d, .int .i64 q.r, .slice A7 q.s.length c7] 29)).alloc (.cells #[.int .i64 p.d, .int .i64 p.r, .slice A8 p.s.length c8] 29) := ⟨_, rfl⟩
              rw [← hw6] at kq6 kp6 kk6 hb6 ⊢
              have hz6 : wr.heap.size + 2 ≤ w6.heap.size := kp6.lt
              clear hw6
              have iq6 := hiq.below hb6
              have ip6 := hip.below hb6
              obtain ⟨y0, y1, y2⟩ := kq6.c3
              obtain ⟨u0, u1, u2⟩ := kp6.c3
              (refine wp_region_pops 3 (S := (fun W' => W'.cell? ⟨w3.heap.size, 1, none⟩ = some (.slice A' k c') ∧ (W'.cell? ⟨wr.heap.size, 0, none⟩ = some (.int .i64 q.d) ∧ W'.cell? ⟨wr.heap.size, 1, none⟩ = some (.int .i64 q.r) ∧ W'.cell? ⟨wr.heap.size, 2, none⟩ = some (.slice A7 q.s.length c7)) ∧ W'.cell? ⟨wr.heap.size + 1, 2, none⟩ = some (.slice A8 p.s.length c8))) (pre := ?_) (T := ?_) (n := ?_) (by kernel_rfl) (by kernel_rfl) ?_ ?_ ?_ ?_ (fun hHeld => ?_); rotate_left 3; (focus (simp only [pops, List.pop_toArray, List.dropLast_cons_cons, List.dropLast_singleton]; rfl)); (focus (simp only [tailOf, List.pop_toArray, List.dropLast_cons_cons, List.dropLast_singleton, List.back?_toArray, List.getLast?_cons_cons, List.getLast?_singleton, Option.toList_some, List.nil_append, List.cons_append]; rfl)); (focus rfl); (focus (exact ⟨kk6.c2.2, ⟨y0, y1, y2⟩, u2⟩)))
              ((refine wpAnyH_take (i := 0) (v := ?_) rfl (by kernel_rfl) (by kernel_rfl) (by kernel_rfl) (fun _ _ _ h => h) (Or.inl ⟨by rfl, ?_⟩) (by assumption) ?_; rotate_left; (focus (intro W hSw; (try dsimp only at hSw); go_simp; try (with_reducible rfl)))); (try simp only [List.getElem_toArray, List.getElem_cons_zero, Act.put, List.setIfInBounds_toArray, List.set_cons_zero, List.set_cons_succ]); (refine wpAnyH_take (i := 1) (v := ?_) rfl (by kernel_rfl) (by kernel_rfl) (by kernel_rfl) (fun _ _ _ h => h) (Or.inl ⟨by rfl, ?_⟩) (by assumption) ?_; rotate_left; (focus (intro W hSw; (try dsimp only at hSw); go_simp; try (with_reducible rfl)))); (try simp only [List.getElem_toArray, List.getElem_cons_zero, List.getElem_cons_succ, Act.put, List.setIfInBounds_toArray, List.set_cons_zero, List.set_cons_succ]); (refine wpAnyH_take (i := 2) (v := ?_) rfl (by kernel_rfl) (by kernel_rfl) (by kernel_rfl) (fun _ _ _ h => h) (Or.inl ⟨by rfl, ?_⟩) (by assumption) ?_; rotate_left; (focus (intro W hSw; (try dsimp only at hSw); go_simp; try (with_reducible rfl)))); (try simp only [List.getElem_toArray, List.getElem_cons_zero, List.getElem_cons_succ, Act.put, List.setIfInBounds_toArray, List.set_cons_zero, List.set_cons_succ]); (refine wpAnyH_take (i := 3) (v := ?_) rfl (by kernel_rfl) (by kernel_rfl) (by kernel_rfl) (fun _ _ _ h => h) (Or.inl ⟨by rfl, ?_⟩) (by assumption) ?_; rotate_left; (focus (intro W hSw; (try dsimp only at hSw); go_simp; try (with_reducible rfl)))); (try simp only [List.getElem_toArray, List.getElem_cons_zero, List.getElem_cons_succ, Act.put, List.setIfInBounds_toArray, List.set_cons_zero, List.set_cons_succ]); (refine wpAnyH_take (i := 4) (v := ?_) rfl (by kernel_rfl) (by kernel_rfl) (by kernel_rfl) (fun _ _ _ h => h) (Or.inl ⟨by rfl, ?_⟩) (by assumption) ?_; rotate_left; (focus (intro W hSw; (try dsimp only at hSw); go_simp; try (with_reducible rfl)))); (try simp only [List.getElem_toArray, List.getElem_cons_zero, List.getElem_cons_succ, Act.put, List.setIfInBounds_toArray, List.set_cons_zero, List.set_cons_succ]); (refine wpAnyH_take (i := 5) (v := ?_) rfl (by kernel_rfl) (by kernel_rfl) (by kernel_rfl) (fun _ _ _ h => h) (Or.inl ⟨by rfl, ?_⟩) (by assumption) ?_; rotate_left; (focus (intro W hSw; (try dsimp only at hSw); go_simp; try (with_reducible rfl)))); (try simp only [List.getElem_toArray, List.getElem_cons_zero, List.getElem_cons_succ, Act.put, List.setIfInBounds_toArray, List.set_cons_zero, List.set_cons_succ]); (refine wpAnyH_take (i := 6) (v := ?_) rfl (by kernel_rfl) (by kernel_rfl) (by kernel_rfl) (fun _ _ _ h => h) (Or.inl ⟨by rfl, ?_⟩) (by assumption) ?_; rotate_left; (focus (intro W hSw; (try dsimp only at hSw); go_simp; try (with_reducible rfl)))); (try simp only [List.getElem_toArray, List.getElem_cons_zero, List.getElem_cons_succ, Act.put, List.setIfInBounds_toArray, List.set_cons_zero, List.set_cons_succ]); (refine wpAnyH_take (i := 7) (v := ?_) rfl (by kernel_rfl) (by kernel_rfl) (by kernel_rfl) (fun _ _ _ h => h) (Or.inl ⟨by rfl, ?_⟩) (by assumption) ?_; rotate_left; (focus (intro W hSw; (try dsimp only at hSw); go_simp; try (with_reducible rfl)))); (try simp only [List.getElem_toArray, List.getElem_cons_zero, List.getElem_cons_succ, Act.put, List.setIfInBounds_toArray, List.set_cons_zero, List.set_cons_succ]); (refine wpAnyH_take (i := 8) (v := ?_) rfl (by kernel_rfl) (by kernel_rfl) (by kernel_rfl) (fun _ _ _ h => h) (Or.inl ⟨by rfl, ?_⟩) (by assumption) ?_; rotate_left; (focus (intro W hSw; (try dsimp only at hSw); go_simp; try (with_reducible rfl)))); (try simp only [List.getElem_toArray, List.getElem_cons_zero, List.getElem_cons_succ, Act.put, List.setIfInBounds_toArray, List.set_cons_zero, List.set_cons_succ]); (refine wpAnyH_take (i := 9) (v := ?_) rfl (by kernel_rfl) (by kernel_rfl) (by kernel_rfl) (fun _ _ _ h => h) (Or.inl ⟨by rfl, ?_⟩) (by assumption) ?_; rotate_left; (focus (intro W hSw; (try dsimp only at hSw); go_simp; try (with_reducible rfl)))); (try simp only [List.getElem_toArray, List.getElem_cons_zero, List.getElem_cons_succ, Act.put, List.setIfInBounds_toArray, List.set_cons_zero, List.set_cons_succ]))
              (refine wpAnyH_ready (rs := [10]) (by kernel_rfl) (by simp) ?_; refine AllReadyH.cons rfl (fun K hK => ?_) AllReadyH.nil)
              go_simp
              have kc7 := Blk.new (World.drew w6) 22 #[.slice A7 q.s.length c7, .slice A8 p.s.length c8]
              refine hK.out _ _ ⟨cell_alloc kk6.c2.2 _, ⟨cell_alloc y0 _, cell_alloc y1 _, cell_alloc y2 _⟩, cell_alloc u2 _⟩ (fun hHeld => ?_)
              clear hK K
              (try simp only [List.getElem_toArray, List.getElem_cons_zero, List.getElem_cons_succ, Act.put, List.setIfInBounds_toArray, List.set_cons_zero, List.set_cons_succ])
              (refine wpAnyH_ready (rs := [11]) (by kernel_rfl) (by simp) ?_; refine AllReadyH.cons rfl (fun K hK => ?_) AllReadyH.nil)
              go_simp
              refine (concat_ints2 q.s p.s A7 A8 c7 c8 _ _ _ (Ints.below (Ints.drew1 iq6) (Below.alloc (Below.refl _ _) (Nat.le_refl _) _)) (Ints.below (Ints.drew1 ip6) (Below.alloc (Below.refl _ _) (Nat.le_refl _) _)) kc7 (by omega)).mono ?_; rintro e w8 ⟨A4, c4, rfl, o8, b8⟩
              have z8 := b8.size
              simp only [World.size_alloc] at z8
              have hz68 : w6.heap.size < w8.heap.size := z8
              have b68 : Below w6.heap.size w6 w8 := undrew (Below.trans (Below.alloc (Below.refl _ _) (Nat.le_refl _) _) (b8.mono (by simp [World.size_alloc])))
              have b4 : Below wr.heap.size wr w8 := hb6.trans (b68.mono (by omega))
              have o4 : OwnI w8 wr.heap.size w8.heap.size A4 c4 (q.s ++ p.s) := o8.mono (by rw [World.size_alloc]; show wr.heap.size ≤ w6.heap.size + 1; omega) (Nat.le_refl _)
              have k1 := (kk6.below b68 (by omega)).c2.2
              have k2 := kq6.below b68 (by omega)
              have k3 := (kp6.below b68 (by omega)).c3.2.2
              refine hK.out _ _ ⟨k1, k2.c3, k3⟩ (fun hHeld => ?_)
              clear hK K
              (try simp only [List.getElem_toArray, List.getElem_cons_zero, List.getElem_cons_succ, Act.put, List.setIfInBounds_toArray, List.set_cons_zero, List.set_cons_succ])
              ((refine wpAnyH_take (i := 12) (v := ?_) rfl (by kernel_rfl) (by kernel_rfl) (by kernel_rfl) (fun _ _ _ h => h) (Or.inl ⟨by rfl, ?_⟩) (by assumption) ?_; rotate_left; (focus (intro W hSw; (try dsimp only at hSw); go_simp; try (with_reducible rfl)))); (try simp only [List.getElem_toArray, List.getElem_cons_zero, List.getElem_cons_succ, Act.put, List.setIfInBounds_toArray, List.set_cons_zero, List.set_cons_succ]))
              (refine wpAnyH_ready (rs := [13]) (by kernel_rfl) (by simp) ?_; refine AllReadyH.cons rfl (fun K hK => ?_) AllReadyH.nil)
              go_simp
              refine hK.out _ _ ⟨cell_alloc k1 _, ⟨cell_alloc k2.c3.1 _, cell_alloc k2.c3.2.1 _, cell_alloc k2.c3.2.2 _⟩, cell_alloc k3 _⟩ (fun hHeld => ?_)
              clear hK K
              (try simp only [List.getElem_toArray, List.getElem_cons_zero, List.getElem_cons_succ, Act.put, List.setIfInBounds_toArray, List.set_cons_zero, List.set_cons_succ])
              (refine wpAnyH_done (by kernel_rfl) ?_ _; change wpList _ _ _ _ _ _)
              have hoo := ho.below b4 (Nat.le_refl _)
              have z4 := b4.size
              have kk8 := kk.below b4 hlt
              clear hHeld
              try rw [← List.length_append]
              go_wp2_with (at_builtin; refine wpList_append1 w8 [.int .i64 q.d, .int .i64 q.r, .slice A4 (q.s ++ p.s).length c4] _ rfl (.tmp 60) (.tmp 72) _ rfl 29 i0 _ 3 40 Try.underlying41 hi0 hy0 hy1 hy2 rfl (by decide) rfl hoo (by omega) 1 rfl rfl (by simp [Value.oneCell']) (by omega) (by decide) ?_; intro A5 c5 w5 ho5 hg5 hb5 hz5; have kb5 := (kk8.alloc (.cells #[.int .i64 q.d, .int .i64 q.r, .slice A4 (q.s ++ p.s).length c4] 29)).grownT (hoo.alloc (.cells #[.int .i64 q.d, .int .i64 q.r, .slice A4 (q.s ++ p.s).length c4] 29)) t2 hg5; obtain ⟨v0, v1⟩ := kb5.c2; have v2 := kb5.frozen 1)
              have hinv' := ChartInv.step ⟨q.d, q.r, q.s ++ p.s⟩ hdl hb hlt kk ho hcr b4 o4 ho5 hg5 hb5 hz5
              refine ⟨⟨k + 1, by omega, by go_num, HS2, by rw [HX.out]; exact hinv'⟩, by simp [intOf]; omega⟩
            · have hr' : (q.r != p.r) = true := by simpa using hr
              have HF : Hid (besX n rs m ss = ⟨0, []⟩ ∧ besCode n rs m ss = 6) := Lib.hid (bes_err (by rw [HC1.out, HS.out, HSH.out, sameHead_r hr]; simp) (by decide))
              clear hr
              have kq6 := (Blk.new wr 29 #[.int .i64 q.d, .int .i64 q.r, .slice A7 q.s.length c7]).alloc (.cells #[.int .i64 p.d, .int .i64 p.r, .slice A8 p.s.length c8] 29)
              have kp6 : Blk ((wr.alloc (.cells #[.int .i64 q.d, .int .i64 q.r, .slice A7 q.s.length c7] 29)).alloc (.cells #[.int .i64 p.d, .int .i64 p.r, .slice A8 p.s.length c8] 29)) (wr.heap.size + 1) 29 #[.int .i64 p.d, .int .i64 p.r, .slice A8 p.s.length c8] := by simpa using Blk.new (wr.alloc (.cells #[.int .i64 q.d, .int .i64 q.r, .slice A7 q.s.length c7] 29)) 29 #[.int .i64 p.d, .int .i64 p.r, .slice A8 p.s.length c8]
              obtain ⟨y0, y1, y2⟩ := kq6.c3
              obtain ⟨u0, u1, u2⟩ := kp6.c3
              have kz9 := (kzr.alloc (.cells #[.int .i64 q.d, .int .i64 q.r, .slice A7 q.s.length c7] 29)).alloc (.cells #[.int .i64 p.d, .int .i64 p.r, .slice A8 p.s.length c8] 29)
              obtain ⟨r0, r1⟩ := kz9.c2
              have g0 := kz9.frozen 0
              have g1 := kz9.frozen 1
              go_wp2_with (fail)
              refine bodyPost_ret (v := .tuple #[.agg #[.int .i64 (besX n rs m ss).n, .slice none (besX n rs m ss).xs.length 0], .int .i64 (besCode n rs m ss)]) (by rw [HF.out.1, HF.out.2]; simp [results, Try.results27, go_sem, r0, r1]) rfl ⟨none, 0, rfl, ?_, ?_⟩
              · rw [HF.out.1]; exact OwnRows.nil _ _ _
              · (repeat (first | exact Below.refl _ _ | assumption | apply Below.drew | apply below_drewN | (refine Below.alloc ?_ (by first | omega | (simp; done) | (simp; omega)) _) | (refine Below.setCell ?_ (by first | omega | (simp; done) | (simp; omega)) _)))
          · have hd' : (q.d != p.d) = true := by simpa using hd
            have HF : Hid (besX n rs m ss = ⟨0, []⟩ ∧ besCode n rs m ss = 6) := Lib.hid (bes_err (by rw [HC1.out, HS.out, HSH.out, sameHead_d hd]; simp) (by decide))
            clear hd
            have kz9 := (kzr.alloc (.cells #[.int .i64 q.d, .int .i64 q.r, .slice A7 q.s.length c7] 29)).alloc (.cells #[.int .i64 p.d, .int .i64 p.r, .slice A8 p.s.length c8] 29)
            obtain ⟨r0, r1⟩ := kz9.c2
            have g0 := kz9.frozen 0
            have g1 := kz9.frozen 1
            go_wp2_with (fail)
            refine bodyPost_ret (v := .tuple #[.agg #[.int .i64 (besX n rs m ss).n, .slice none (besX n rs m ss).xs.length 0], .int .i64 (besCode n rs m ss)]) (by rw [HF.out.1, HF.out.2]; simp [results, Try.results27, go_sem, r0, r1]) rfl ⟨none, 0, rfl, ?_, ?_⟩
            · rw [HF.out.1]; exact OwnRows.nil _ _ _
            · (repeat (first | exact Below.refl _ _ | assumption | apply Below.drew | apply below_drewN | (refine Below.alloc ?_ (by first | omega | (simp; done) | (simp; omega)) _) | (refine Below.setCell ?_ (by first | omega | (simp; done) | (simp; omega)) _)))
        · obtain rfl : k = rs.length := by omega
          have HT : Hid (sameHeads rs ss = true) := Lib.hid (by rw [HS.out, List.drop_length, HLN.out, List.drop_length]; rfl)
          have HC2 : Hid (besCode n rs m ss = if chartB (n + m) (joinRows rs ss) then 0 else 5) := Lib.hid (by rw [HC1.out, if_pos HT.out])
          have hssl : ss.take rs.length = ss := by rw [HLN.out]; exact take_all (Nat.le_refl _)
          rw [hssl, take_all (Nat.le_refl _)] at hcr hdl
          clear hssl
          generalize hqs : joinRows rs ss = qs at hdl hcr HC2
          have HQ := Lib.hid hqs; clear hqs
          obtain ⟨A8, c8, kc, oo⟩ := ChartInv.rows ⟨hdl, hb, hlt, A', c', cs, kk, ho, hcr⟩
          rw [← hdl] at kc oo
          obtain ⟨p0, p1⟩ := kc.c2
          clear s0 s1
          have HDL := Lib.hid hdl; clear hdl
          go_wp2_with (fail)
          refine (impl_ifChart (n + m) qs A8 c8 _ oo.rowsR (by have := HDL.out; omega)).mono ?_; rintro e w10 ⟨rfl, b10⟩
          have z10 := b10.size
          have kz10 := kzr.below b10 (by omega)
          have oo10 := oo.below b10 (Nat.le_refl _)
          have hb10 : Below w.heap.size w w10 := hbr.trans (b10.mono (by omega))
          obtain ⟨r0, r1⟩ := kz10.c2
          have g0 := kz10.frozen 0
          have g1 := kz10.frozen 1
          cases hq : chartB (n + m) qs
          · have HF : Hid (besX n rs m ss = ⟨0, []⟩ ∧ besCode n rs m ss = 5) := Lib.hid (bes_err (by rw [HC2.out]; simp [hq]) (by decide))
            go_wp2_with (fail)
            refine bodyPost_ret (v := .tuple #[.agg #[.int .i64 (besX n rs m ss).n, .slice none (besX n rs m ss).xs.length 0], .int .i64 (besCode n rs m ss)]) (by rw [HF.out.1, HF.out.2]; simp [results, Try.results27, go_sem, r0, r1]) rfl ⟨none, 0, rfl, ?_, ?_⟩
            · rw [HF.out.1]; exact OwnRows.nil _ _ _
            · (repeat (first | exact Below.refl _ _ | assumption | apply Below.drew | apply below_drewN | (refine Below.alloc ?_ (by first | omega | (simp; done) | (simp; omega)) _) | (refine Below.setCell ?_ (by first | omega | (simp; done) | (simp; omega)) _)))
          · have HF : Hid (besX n rs m ss = ⟨n + m, qs⟩ ∧ besCode n rs m ss = 0) := Lib.hid (by
              have e : besCode n rs m ss = 0 := by rw [HC2.out]; simp [hq]
              exact ⟨by rw [besX, if_pos e, HQ.out], e⟩)
            go_wp2_with (fail)
            refine bodyPost_ret (v := .tuple #[.agg #[.int .i64 (besX n rs m ss).n, .slice A8 (besX n rs m ss).xs.length c8], .int .i64 (besCode n rs m ss)]) (by rw [HF.out.1, HF.out.2]; simp [results, Try.results27, go_sem, r0, r1]) rfl ⟨A8, c8, rfl, ?_, ?_⟩
            · rw [HF.out.1]
              have k1 := kz10.set20 (.int .i64 (n + m))
              exact ((oo10.farT kz10 t1 t2 0 _).farT k1 t1 t2 1 _).mono (by omega) (by simp; omega)
            · (repeat (first | exact Below.refl _ _ | assumption | apply Below.drew | apply below_drewN | (refine Below.alloc ?_ (by first | omega | (simp; done) | (simp; omega)) _) | (refine Below.setCell ?_ (by first | omega | (simp; done) | (simp; omega)) _)))

end Go.Proofs.Ytifjdiiafofnpaa
