/- Steps of the proof, joined from several texts: HR. -/
import Derived.Test.YthjamohaeahipaaGreatZ16
import Derived.Laws.CopyOwn

/- Knitting by hand, the program's side: the crossings of a stitch. -/
namespace Go.Proofs.YthjamohaeahipaaGreat
open Go Go.RowKit

theorem cellsEvent_append (a b : List EventD) : cellsEvent (a ++ b) = cellsEvent a ++ cellsEvent b := by
  induction a with
  | nil => rfl
  | cons x r ih => simp [cellsEvent, ih]
theorem cellsEvent_one (ps : List EventD) : ∀ u ∈ cellsEvent ps, u.oneCell' = true := by
  induction ps with
  | nil => intro u hu; simp [cellsEvent] at hu
  | cons x r ih =>
    intro u hu
    simp only [cellsEvent, List.mem_cons] at hu
    rcases hu with rfl | rfl | rfl | rfl | rfl | rfl | hu <;> first | rfl | exact ih u hu

set_option maxHeartbeats 4000000 in
set_option maxRecDepth 10000 in
theorem impl_hcross_5 {lo g q : Nat} {cur : Array Value} {d car : Int} {vk : Value} {s : HS} {w : World} (h : IHd (some (q, cur)) lo g d car vk w s) (hlq : lo ≤ q) {p : Int} (hp : 0 ≤ p ∧ p ≤ 100) {c : List Int} (hlen : c.length = 2) (hnn : NN c) (hsum : sumI c ≤ 100) {l2 h2 c3 : Nat} (ho : OwnC w l2 h2 2 1 (some ⟨q, 0, none⟩) 2 c3 (c.map (Value.int .i64))) (hl : s.evs.length ≤ 50000) :
    Calls Tryz.prog 74 #[.pointer (some ⟨g, 0, none⟩), .int .i64 5, .int .i64 p, .slice (some ⟨q, 0, none⟩) 2 c3] w fun e w' => e = .returned (.tuple #[]) ∧ (∃ cur', IHd (some (q, cur')) lo g d car vk w' ⟨s.evs ++ crossEvs p (-1) (sumI (c.take 1)).toNat (sumI (c.drop 1)).toNat, s.cells⟩) ∧
      OwnC w' l2 h2 2 1 (some ⟨q, 0, none⟩) 2 c3 ((c.drop 1 ++ c.take 1).map (Value.int .i64)) ∧ Below lo w w' ∧ ∀ (k : Nat) (cz : Array Value), k ≠ q → Blk w k 2 cz → Blk w' k 2 cz := by
  have hP := hnn.part 1
  obtain ⟨a, ha⟩ := Int.eq_ofNat_of_zero_le hP.1
  obtain ⟨b, hb⟩ := Int.eq_ofNat_of_zero_le hP.2.2.1
  have ha100 : a ≤ 100 := by omega
  have hb100 : b ≤ 100 := by omega
  have hp' : 0 ≤ p ∧ p ≤ 1000 := by omega
  have ea : (sumI (c.take 1)).toNat = a := by rw [ha]; rfl
  have eb : (sumI (c.drop 1)).toNat = b := by rw [hb]; rfl
  rw [ea, eb]
  have hi : Ints w (some ⟨q, 0, none⟩) c := by
    have : OwnI w l2 h2 (some ⟨q, 0, none⟩) c3 c := by show OwnC _ _ _ _ _ _ _ _ _; rw [hlen]; exact ho
    exact this.ints
  have hcap := ho.cap
  have hapart := h.apart
  have l1 : (c.take 1).length = 1 := by rw [List.length_take]; omega
  have l2' : (c.drop 1).length = 1 := by rw [List.length_drop]; omega
  have hrd : Ints w (some ⟨q, 0 + 1, none⟩) (c.drop 1) := hi.drop 1
  have C1 : Hid (∀ r, Calls Tryz.prog 20 #[.slice (some ⟨q, 0, none⟩) 1 c3] (w.drewN r) fun e w' => e = .returned (.int .i64 (a : Int)) ∧ w.drewN r = w') :=
    Lib.hid (fun r => by
      have := impl_sumOf (some ⟨q, 0, none⟩) c3 (c.take 1) (w.drewN r) (hi.take 1) (by omega)
      rw [l1, sum64_sumI (hnn.take 1) (by omega), ha] at this
      exact this)
  have C2 : Hid (∀ r, Calls Tryz.prog 20 #[.slice (some ⟨q, 1, none⟩) 1 (c3 - 1)] (w.drewN r) fun e w' => e = .returned (.int .i64 (b : Int)) ∧ w.drewN r = w') :=
    Lib.hid (fun r => by
      have := impl_sumOf (some ⟨q, 1, none⟩) (c3 - 1) (c.drop 1) (w.drewN r) hrd (by omega)
      rw [l2', sum64_sumI (hnn.drop 1) (by omega), hb] at this
      exact this)
  -- the two parts, joined
  have HCC : Hid (∀ W W0 : World, Blk W0 q 2 cur → W = W0.alloc (.cells #[.slice (some ⟨q, 1, none⟩) 1 (c3 - 1), .slice (some ⟨q, 0, none⟩) 1 c3] 24) →
      Calls Tryz.prog 51 #[.slice (some ⟨W0.heap.size, 0, none⟩) 2 2] W fun e w' => ∃ g7 c7, e = .returned (.slice (some ⟨g7, 0, none⟩) 2 c7) ∧ CellsAt w' (some ⟨g7, 0, none⟩) ((c.drop 1 ++ c.take 1).map (Value.int .i64)) ∧ Below W.heap.size W w') := Lib.hid (fun W W0 hq hW => by
    have hi2 : Ints W (some ⟨q, 0, none⟩) c := hi.blk hapart (by rw [hW]; exact hq.alloc _)
    have hlit := Blk.new W0 24 #[.slice (some ⟨q, 1, none⟩) 1 (c3 - 1), .slice (some ⟨q, 0, none⟩) 1 c3]
    rw [← hW] at hlit
    obtain ⟨y0, y1⟩ := hlit.c2
    have hI2 : Ints2 W (some ⟨W0.heap.size, 0, none⟩) [c.drop 1, c.take 1] := by
      intro k hk
      match k, hk with
      | 0, _ => exact ⟨_, 0, _, _, _, rfl, rfl, by rw [l2']; exact y0, hi2.drop 1, by rw [l2']; decide⟩
      | 1, _ => exact ⟨_, 0, _, _, _, rfl, rfl, by rw [l1]; exact y1, hi2.take 1, by rw [l1]; decide⟩
    have hs := hI2.slices
    have hN : partsN ([c.drop 1, c.take 1].map partOf) = 2 := by rw [partsN_of]; simp only [cntII, l1, l2']
    have hC : partsC ([c.drop 1, c.take 1].map partOf) = (c.drop 1 ++ c.take 1).map (Value.int .i64) := by rw [partsC_of]; simp
    have := slices_Concat_int64_int64 _ (some ⟨W0.heap.size, 0, none⟩) 2 W hs (by simp) (by rw [hN]; decide)
    rw [hN, hC] at this
    refine this.mono ?_
    rintro e w' ⟨A7, c7, h1, h2, h3⟩
    obtain ⟨g7, rfl, _⟩ := h2.cell (j := 0) (by rw [h2.len]; decide)
    exact ⟨g7, c7, h1, h2.cellsAt, h3⟩)
  have HCL := Lib.hid hlen
  have u1 : (1 : Int) ≤ (c3 : Int) := by omega
  have u2 : (2 : Int) ≤ (c3 : Int) := by omega
  have u3 : ¬ c3 - 1 = 0 := by omega
  have v1 : 1 ≤ c3 := by omega
  have v2 : 0 < c3 := by omega
  have v3 : 2 ≤ c3 := by omega
  have v4 : ¬ c3 = 0 := by omega
  have v5 : ¬ c3 ≤ 1 := by omega
  have v6 : 1 < c3 := by omega
  have v7 : ¬ c3 = 1 := by omega
  obtain ⟨evs, cells⟩ := s
  have H0 := Lib.hid h
  have HO := Lib.hid ho
  have HAP := Lib.hid hapart
  have HRL : Hid ((c.drop 1 ++ c.take 1).length = 2) := Lib.hid (by rw [List.length_append, l1, l2'])
  have HCE : Hid ((crossEvs p (-1) a b).length ≤ 10000) := Lib.hid (by rw [crossEvs_length]; exact Nat.le_trans (Nat.mul_le_mul ha100 hb100) (by decide))
  clear h ho hlen hnn ha hb l1 l2' hrd hi hapart ea eb hP
  obtain ⟨iE, ie0, iz0, iz1, iz2⟩ := info_parts info_Event
  dsimp only at hl
  go_enter Tryz.func74, Tryz.ntmps74
  go_upto_region 4 with fail
  (refine wp_region_pops 0 (S := (fun _ => True)) (pre := ?_) (T := ?_) (n := ?_) (by kernel_rfl) (by kernel_rfl) ?_ ?_ ?_ ?_ (fun hHeld => ?_); rotate_left 3; (focus (simp only [pops]; rfl)); (focus (simp only [tailOf]; rfl)); (focus rfl); (focus (trivial)))
  ((refine wpAnyH_take (i := 0) (v := ?_) rfl (by kernel_rfl) (by kernel_rfl) (by kernel_rfl) (fun _ _ _ h => h) (Or.inl ⟨by rfl, ?_⟩) (by assumption) ?_; rotate_left; (focus (intro W hSw; (try dsimp only at hSw); go_simp; try (with_reducible rfl)))); (try simp only [List.getElem_toArray, List.getElem_cons_zero, Act.put, List.setIfInBounds_toArray, List.set_cons_zero, List.set_cons_succ]); (refine wpAnyH_take (i := 1) (v := ?_) rfl (by kernel_rfl) (by kernel_rfl) (by kernel_rfl) (fun _ _ _ h => h) (Or.inl ⟨by rfl, ?_⟩) (by assumption) ?_; rotate_left; (focus (intro W hSw; (try dsimp only at hSw); go_simp; try (with_reducible rfl)))); (try simp only [List.getElem_toArray, List.getElem_cons_zero, List.getElem_cons_succ, Act.put, List.setIfInBounds_toArray, List.set_cons_zero, List.set_cons_succ]); (refine wpAnyH_take (i := 2) (v := ?_) rfl (by kernel_rfl) (by kernel_rfl) (by kernel_rfl) (fun _ _ _ h => h) (Or.inl ⟨by rfl, ?_⟩) (by assumption) ?_; rotate_left; (focus (intro W hSw; (try dsimp only at hSw); go_simp; try (with_reducible rfl)))); (try simp only [List.getElem_toArray, List.getElem_cons_zero, List.getElem_cons_succ, Act.put, List.setIfInBounds_toArray, List.set_cons_zero, List.set_cons_succ]); (refine wpAnyH_take (i := 4) (v := ?_) rfl (by kernel_rfl) (by kernel_rfl) (by kernel_rfl) (fun _ _ _ h => h) (Or.inl ⟨by rfl, ?_⟩) (by assumption) ?_; rotate_left; (focus (intro W hSw; (try dsimp only at hSw); go_simp; try (with_reducible rfl)))); (try simp only [List.getElem_toArray, List.getElem_cons_zero, List.getElem_cons_succ, Act.put, List.setIfInBounds_toArray, List.set_cons_zero, List.set_cons_succ]); (refine wpAnyH_take (i := 5) (v := ?_) rfl (by kernel_rfl) (by kernel_rfl) (by kernel_rfl) (fun _ _ _ h => h) (Or.inl ⟨by rfl, ?_⟩) (by assumption) ?_; rotate_left; (focus (intro W hSw; (try dsimp only at hSw); go_simp; try (with_reducible rfl)))); (try simp only [List.getElem_toArray, List.getElem_cons_zero, List.getElem_cons_succ, Act.put, List.setIfInBounds_toArray, List.set_cons_zero, List.set_cons_succ]); (refine wpAnyH_take (i := 6) (v := ?_) rfl (by kernel_rfl) (by kernel_rfl) (by kernel_rfl) (fun _ _ _ h => h) (Or.inl ⟨by rfl, ?_⟩) (by assumption) ?_; rotate_left; (focus (intro W hSw; (try dsimp only at hSw); go_simp; try (with_reducible rfl)))); (try simp only [List.getElem_toArray, List.getElem_cons_zero, List.getElem_cons_succ, Act.put, List.setIfInBounds_toArray, List.set_cons_zero, List.set_cons_succ]))
  (refine wpAnyH_ready (rs := [3]) (by kernel_rfl) (by simp) ?_; refine AllReadyH.cons rfl (fun K hK => ?_) AllReadyH.nil)
  go_simp
  refine (C1.out 1).mono ?_; rintro e _ ⟨rfl, rfl⟩
  refine hK.out _ _ trivial (fun hHeld => ?_)
  clear hK K
  (try simp only [List.getElem_toArray, List.getElem_cons_zero, List.getElem_cons_succ, Act.put, List.setIfInBounds_toArray, List.set_cons_zero, List.set_cons_succ])
  (refine wpAnyH_ready (rs := [7]) (by kernel_rfl) (by simp) ?_; refine AllReadyH.cons rfl (fun K hK => ?_) AllReadyH.nil)
  go_simp
  refine (C2.out 1).mono ?_; rintro e _ ⟨rfl, rfl⟩
  refine hK.out _ _ trivial (fun hHeld => ?_)
  clear hK K
  (try simp only [List.getElem_toArray, List.getElem_cons_zero, List.getElem_cons_succ, Act.put, List.setIfInBounds_toArray, List.set_cons_zero, List.set_cons_succ])
  ((refine wpAnyH_take (i := 8) (v := ?_) rfl (by kernel_rfl) (by kernel_rfl) (by kernel_rfl) (fun _ _ _ h => h) (Or.inl ⟨by rfl, ?_⟩) (by assumption) ?_; rotate_left; (focus (intro W hSw; (try dsimp only at hSw); go_simp; try (with_reducible rfl)))); (try simp only [List.getElem_toArray, List.getElem_cons_zero, List.getElem_cons_succ, Act.put, List.setIfInBounds_toArray, List.set_cons_zero, List.set_cons_succ]); (refine wpAnyH_take (i := 9) (v := ?_) rfl (by kernel_rfl) (by kernel_rfl) (by kernel_rfl) (fun _ _ _ h => h) (Or.inl ⟨by rfl, ?_⟩) (by assumption) ?_; rotate_left; (focus (intro W hSw; (try dsimp only at hSw); go_simp; try (with_reducible rfl)))); (try simp only [List.getElem_toArray, List.getElem_cons_zero, List.getElem_cons_succ, Act.put, List.setIfInBounds_toArray, List.set_cons_zero, List.set_cons_succ]))
  (refine wpAnyH_done (by kernel_rfl) ?_ _; change wpList _ _ _ _ _ _)
  clear hHeld C1 C2
  have hb4 : Below w.heap.size w (w.drewN 1) := below_drewN (Below.refl _ _) 1
  generalize w.drewN 1 = W4 at *
  have h4 := H0.out.below hb4
  obtain ⟨⟨AE, cE, AC, cC, hk4, hoE4, hcC4⟩, hlo⟩ := h4
  dsimp only at hk4 hoE4 hcC4
  have p4 := hk4.c5.2.2.2.2
  have hlz4 : lo ≤ W4.heap.size := by have := hk4.lt; omega
  go_upto_region 5 with fail
  (refine wp_region_pops 3 (S := (fun W' => W'.cell? ⟨g, 4, none⟩ = some (.slice AE evs.length cE))) (pre := ?_) (T := ?_) (n := ?_) (by kernel_rfl) (by kernel_rfl) ?_ ?_ ?_ ?_ (fun hHeld => ?_); rotate_left 3; (focus (simp only [pops, List.pop_toArray, List.dropLast_cons_cons, List.dropLast_singleton]; rfl)); (focus (simp only [tailOf, List.pop_toArray, List.dropLast_cons_cons, List.dropLast_singleton, List.back?_toArray, List.getLast?_cons_cons, List.getLast?_singleton, Option.toList_some, List.nil_append, List.cons_append]; rfl)); (focus rfl); (focus (exact p4)))
  ((refine wpAnyH_take (i := 0) (v := ?_) rfl (by kernel_rfl) (by kernel_rfl) (by kernel_rfl) (fun _ _ _ h => h) (Or.inl ⟨by rfl, ?_⟩) (by assumption) ?_; rotate_left; (focus (intro W hSw; (try dsimp only at hSw); go_simp; try (with_reducible rfl)))); (try simp only [List.getElem_toArray, List.getElem_cons_zero, Act.put, List.setIfInBounds_toArray, List.set_cons_zero, List.set_cons_succ]); (refine wpAnyH_take (i := 1) (v := ?_) rfl (by kernel_rfl) (by kernel_rfl) (by kernel_rfl) (fun _ _ _ h => h) (Or.inl ⟨by rfl, ?_⟩) (by assumption) ?_; rotate_left; (focus (intro W hSw; (try dsimp only at hSw); go_simp; try (with_reducible rfl)))); (try simp only [List.getElem_toArray, List.getElem_cons_zero, List.getElem_cons_succ, Act.put, List.setIfInBounds_toArray, List.set_cons_zero, List.set_cons_succ]); (refine wpAnyH_take (i := 2) (v := ?_) rfl (by kernel_rfl) (by kernel_rfl) (by kernel_rfl) (fun _ _ _ h => h) (Or.inl ⟨by rfl, ?_⟩) (by assumption) ?_; rotate_left; (focus (intro W hSw; (try dsimp only at hSw); go_simp; try (with_reducible rfl)))); (try simp only [List.getElem_toArray, List.getElem_cons_zero, List.getElem_cons_succ, Act.put, List.setIfInBounds_toArray, List.set_cons_zero, List.set_cons_succ]); (refine wpAnyH_take (i := 3) (v := ?_) rfl (by kernel_rfl) (by kernel_rfl) (by kernel_rfl) (fun _ _ _ h => h) (Or.inl ⟨by rfl, ?_⟩) (by assumption) ?_; rotate_left; (focus (intro W hSw; (try dsimp only at hSw); go_simp; try (with_reducible rfl)))); (try simp only [List.getElem_toArray, List.getElem_cons_zero, List.getElem_cons_succ, Act.put, List.setIfInBounds_toArray, List.set_cons_zero, List.set_cons_succ]); (refine wpAnyH_take (i := 4) (v := ?_) rfl (by kernel_rfl) (by kernel_rfl) (by kernel_rfl) (fun _ _ _ h => h) (Or.inl ⟨by rfl, ?_⟩) (by assumption) ?_; rotate_left; (focus (intro W hSw; (try dsimp only at hSw); go_simp; try (with_reducible rfl)))); (try simp only [List.getElem_toArray, List.getElem_cons_zero, List.getElem_cons_succ, Act.put, List.setIfInBounds_toArray, List.set_cons_zero, List.set_cons_succ]); (refine wpAnyH_take (i := 5) (v := ?_) rfl (by kernel_rfl) (by kernel_rfl) (by kernel_rfl) (fun _ _ _ h => h) (Or.inl ⟨by rfl, ?_⟩) (by assumption) ?_; rotate_left; (focus (intro W hSw; (try dsimp only at hSw); go_simp; try (with_reducible rfl)))); (try simp only [List.getElem_toArray, List.getElem_cons_zero, List.getElem_cons_succ, Act.put, List.setIfInBounds_toArray, List.set_cons_zero, List.set_cons_succ]); (refine wpAnyH_take (i := 6) (v := ?_) rfl (by kernel_rfl) (by kernel_rfl) (by kernel_rfl) (fun _ _ _ h => h) (Or.inl ⟨by rfl, ?_⟩) (by assumption) ?_; rotate_left; (focus (intro W hSw; (try dsimp only at hSw); go_simp; try (with_reducible rfl)))); (try simp only [List.getElem_toArray, List.getElem_cons_zero, List.getElem_cons_succ, Act.put, List.setIfInBounds_toArray, List.set_cons_zero, List.set_cons_succ]); (refine wpAnyH_take (i := 7) (v := ?_) rfl (by kernel_rfl) (by kernel_rfl) (by kernel_rfl) (fun _ _ _ h => h) (Or.inl ⟨by rfl, ?_⟩) (by assumption) ?_; rotate_left; (focus (intro W hSw; (try dsimp only at hSw); go_simp; try (with_reducible rfl)))); (try simp only [List.getElem_toArray, List.getElem_cons_zero, List.getElem_cons_succ, Act.put, List.setIfInBounds_toArray, List.set_cons_zero, List.set_cons_succ]); (refine wpAnyH_take (i := 8) (v := ?_) rfl (by kernel_rfl) (by kernel_rfl) (by kernel_rfl) (fun _ _ _ h => h) (Or.inl ⟨by rfl, ?_⟩) (by assumption) ?_; rotate_left; (focus (intro W hSw; (try dsimp only at hSw); go_simp; try (with_reducible rfl)))); (try simp only [List.getElem_toArray, List.getElem_cons_zero, List.getElem_cons_succ, Act.put, List.setIfInBounds_toArray, List.set_cons_zero, List.set_cons_succ]))
  (refine wpAnyH_ready (rs := [9]) (by kernel_rfl) (by simp) ?_; refine AllReadyH.cons rfl (fun K hK => ?_) AllReadyH.nil)
  go_simp
  refine (impl_crossings p a b (-1) (World.drew W4) hp' ha100 hb100).mono ?_; rintro e w5 ⟨A5, c5, rfl, o5, b5⟩
  have hb5 : Below W4.heap.size W4 w5 := (Below.drew (Below.refl _ _)).trans b5
  have hk5 := hk4.below hb5 hk4.lt
  have hoE5 := OwnC.below hoE4 hb5 (Nat.le_refl _)
  have hcC5 := hcC4.below hb5 (Nat.le_refl _)
  have hz5 := hb5.size
  refine hK.out _ _ hk5.c5.2.2.2.2 (fun hHeld => ?_)
  clear hK K
  (try simp only [List.getElem_toArray, List.getElem_cons_zero, List.getElem_cons_succ, Act.put, List.setIfInBounds_toArray, List.set_cons_zero, List.set_cons_succ])
  have hce := HCE.out
  (refine wpAnyH_ready (rs := [10]) (by kernel_rfl) (by simp) ?_; refine AllReadyH.cons rfl (fun K hK => ?_) AllReadyH.nil)
  refine wp_appendC_at w5 (.tmp 33) (.tmp 38) _ rfl 40 iE _ 6 48 Tryz.underlying32 ie0 iz0 iz1 iz2 rfl (by decide) (by simp [Act.eval]) hoE5 (by omega) A5 (crossEvs p (-1) a b).length c5 (cellsEvent (crossEvs p (-1) a b)) (by simp [Act.eval]) (OwnC.len o5) (OwnC.cellsAt o5) (cellsEvent_one _) (by unfold maxLen; omega) (by omega) ?_
  intro A9 c9 w8 ho8 hg8 hb8 _
  have ho8' : OwnEvent w8 lo w8.heap.size A9 c9 (evs ++ crossEvs p (-1) a b) := by
    show OwnC _ _ _ _ _ _ _ _ _
    rw [List.length_append, cellsEvent_append]
    exact ho8
  obtain ⟨hk8, hI8, hX8⟩ := IHd.grow hk5 hoE5 hcC5 hlo hz5 ho8' hg8
  rw [List.length_append] at hI8 hX8
  refine hK.out _ _ hk8.c5.2.2.2.2 (fun hHeld => ?_)
  clear hK K
  (try simp only [List.getElem_toArray, List.getElem_cons_zero, List.getElem_cons_succ, Act.put, List.setIfInBounds_toArray, List.set_cons_zero, List.set_cons_succ])
  (refine wpAnyH_done (by kernel_rfl) ?_ _; change wpList _ _ _ _ _ _)
  clear hHeld hce
  obtain ⟨_, _, _, _, y4⟩ := hk8.c5
  have y5 := hk8.frozen 4
  have HX : Hid (∀ (k : Nat) (cz : Array Value), Blk w k 2 cz → Blk (w8.setCell ⟨g, 4, none⟩ (.slice A9 (evs.length + (crossEvs p (-1) a b).length) c9)) k 2 cz) :=
    Lib.hid (fun k cz hkz => (hX8 k _ cz (by decide) (by decide) ((hkz.below hb4 hkz.lt).below hb5 (by have := hb4.size; have := hkz.lt; omega))).2)
  have HOX : Hid (∀ (lo hi n c : Nat) (A : Option Addr) (cs : List Value), OwnC w lo hi 2 1 A n c cs → OwnC (w8.setCell ⟨g, 4, none⟩ (.slice A9 (evs.length + (crossEvs p (-1) a b).length) c9)) lo hi 2 1 A n c cs) :=
    Lib.hid (fun lo hi n c A cs hh => hh.keepT fun k cur _ _ hkk => (HX.out k cur hkk).trans hkk.symm)
  have HB8 : Hid (Below lo w (w8.setCell ⟨g, 4, none⟩ (.slice A9 (evs.length + (crossEvs p (-1) a b).length) c9))) :=
    Lib.hid ((((hb4.mono H0.out.lt).trans (hb5.mono hlz4)).trans hb8).setCell (p := ⟨g, 4, none⟩) hlo _)
  have HI8 := Lib.hid hI8
  clear hI8 hX8 ho8' ho8 hg8 hb8 hk8 hk5 hoE5 hcC5 hk4 hoE4 hcC4 p4 o5 b5 hb5 hb4
  go_upto_region 6 with fail
  generalize w8.setCell ⟨g, 4, none⟩ (.slice A9 (evs.length + (crossEvs p (-1) a b).length) c9) = W5 at *
  have ho5 := HOX.out _ _ _ _ _ _ HO.out
  clear y4 y5
  (refine wp_region_pops 1 (S := (fun _ => True)) (pre := ?_) (T := ?_) (n := ?_) (by kernel_rfl) (by kernel_rfl) ?_ ?_ ?_ ?_ (fun hHeld => ?_); rotate_left 3; (focus (simp only [pops, List.pop_toArray, List.dropLast_cons_cons, List.dropLast_singleton]; rfl)); (focus (simp only [tailOf, List.back?_toArray, List.getLast?_cons_cons, List.getLast?_singleton, Option.toList_some, List.nil_append]; rfl)); (focus rfl); (focus (trivial)))
  ((refine wpAnyH_take (i := 0) (v := ?_) rfl (by kernel_rfl) (by kernel_rfl) (by kernel_rfl) (fun _ _ _ h => h) (Or.inl ⟨by rfl, ?_⟩) (by assumption) ?_; rotate_left; (focus (intro W hSw; (try dsimp only at hSw); go_simp; try (with_reducible rfl)))); (try simp only [List.getElem_toArray, List.getElem_cons_zero, Act.put, List.setIfInBounds_toArray, List.set_cons_zero, List.set_cons_succ]); (refine wpAnyH_take (i := 1) (v := ?_) rfl (by kernel_rfl) (by kernel_rfl) (by kernel_rfl) (fun _ _ _ h => h) (Or.inl ⟨by rfl, ?_⟩) (by assumption) ?_; rotate_left; (focus (intro W hSw; (try dsimp only at hSw); go_simp; try (with_reducible rfl)))); (try simp only [List.getElem_toArray, List.getElem_cons_zero, List.getElem_cons_succ, Act.put, List.setIfInBounds_toArray, List.set_cons_zero, List.set_cons_succ]); (refine wpAnyH_take (i := 2) (v := ?_) rfl (by kernel_rfl) (by kernel_rfl) (by kernel_rfl) (fun _ _ _ h => h) (Or.inl ⟨by rfl, ?_⟩) (by assumption) ?_; rotate_left; (focus (intro W hSw; (try dsimp only at hSw); go_simp; try (with_reducible rfl)))); (try simp only [List.getElem_toArray, List.getElem_cons_zero, List.getElem_cons_succ, Act.put, List.setIfInBounds_toArray, List.set_cons_zero, List.set_cons_succ]); (refine wpAnyH_take (i := 3) (v := ?_) rfl (by kernel_rfl) (by kernel_rfl) (by kernel_rfl) (fun _ _ _ h => h) (Or.inl ⟨by rfl, ?_⟩) (by assumption) ?_; rotate_left; (focus (intro W hSw; (try dsimp only at hSw); go_simp; try (with_reducible rfl)))); (try simp only [List.getElem_toArray, List.getElem_cons_zero, List.getElem_cons_succ, Act.put, List.setIfInBounds_toArray, List.set_cons_zero, List.set_cons_succ]); (refine wpAnyH_take (i := 4) (v := ?_) rfl (by kernel_rfl) (by kernel_rfl) (by kernel_rfl) (fun _ _ _ h => h) (Or.inl ⟨by rfl, ?_⟩) (by assumption) ?_; rotate_left; (focus (intro W hSw; (try dsimp only at hSw); go_simp; try (with_reducible rfl)))); (try simp only [List.getElem_toArray, List.getElem_cons_zero, List.getElem_cons_succ, Act.put, List.setIfInBounds_toArray, List.set_cons_zero, List.set_cons_succ]); (refine wpAnyH_take (i := 5) (v := ?_) rfl (by kernel_rfl) (by kernel_rfl) (by kernel_rfl) (fun _ _ _ h => h) (Or.inl ⟨by rfl, ?_⟩) (by assumption) ?_; rotate_left; (focus (intro W hSw; (try dsimp only at hSw); go_simp; try (with_reducible rfl)))); (try simp only [List.getElem_toArray, List.getElem_cons_zero, List.getElem_cons_succ, Act.put, List.setIfInBounds_toArray, List.set_cons_zero, List.set_cons_succ]); (refine wpAnyH_take (i := 6) (v := ?_) rfl (by kernel_rfl) (by kernel_rfl) (by kernel_rfl) (fun _ _ _ h => h) (Or.inl ⟨by rfl, ?_⟩) (by assumption) ?_; rotate_left; (focus (intro W hSw; (try dsimp only at hSw); go_simp; try (with_reducible rfl)))); (try simp only [List.getElem_toArray, List.getElem_cons_zero, List.getElem_cons_succ, Act.put, List.setIfInBounds_toArray, List.set_cons_zero, List.set_cons_succ]))
  (refine wpAnyH_ready (rs := [7]) (by kernel_rfl) (by simp) ?_; refine AllReadyH.cons rfl (fun K hK => ?_) AllReadyH.nil)
  go_simp
  refine hK.out _ _ trivial (fun hHeld => ?_)
  clear hK K
  (try simp only [List.getElem_toArray, List.getElem_cons_zero, List.getElem_cons_succ, Act.put, List.setIfInBounds_toArray, List.set_cons_zero, List.set_cons_succ])
  (refine wpAnyH_ready (rs := [8]) (by kernel_rfl) (by simp) ?_; refine AllReadyH.cons rfl (fun K hK => ?_) AllReadyH.nil)
  go_simp
  have hb6 : Below W5.heap.size W5 ((World.drew W5).alloc (.cells #[.slice (some ⟨q, 1, none⟩) 1 (c3 - 1), .slice (some ⟨q, 0, none⟩) 1 c3] 24)) := Below.alloc (Below.drew (Below.refl _ _)) (Nat.le_refl _) _
  refine (HCC.out _ (World.drew W5) HI8.out.apart rfl).mono ?_; rintro e w7 ⟨g7, c7, rfl, ho7, b7⟩
  have hb7 : Below W5.heap.size W5 w7 := hb6.trans (b7.mono hb6.size)
  refine hK.out _ _ trivial (fun hHeld => ?_)
  clear hK K
  (try simp only [List.getElem_toArray, List.getElem_cons_zero, List.getElem_cons_succ, Act.put, List.setIfInBounds_toArray, List.set_cons_zero, List.set_cons_succ])
  (refine wpAnyH_done (by kernel_rfl) ?_ _; change wpList _ _ _ _ _ _)
  clear hHeld
  have hI7 := HI8.out.below hb7
  have hq7 := hI7.apart
  have hsz : cur.size = c3 := by
    rcases ho5.form with ⟨h1, _⟩ | ⟨q', cur2, h1, _, _, h4, _, _, h7, _⟩
    · cases h1
    · injection h1 with h1
      injection h1 with h1
      subst h1
      have := h4.symm.trans HI8.out.apart
      injection this with this
      injection this with this
      subst this
      omega
  have hlc : ((c.drop 1 ++ c.take 1).map (Value.int .i64)).length = 2 := by rw [List.length_map, HRL.out]
  refine wpList_copy_own rfl (.tmp 42) (.tmp 50) 24 24 rfl 2 Tryz.underlying24 (by kernel_rfl) q 0 2 c3 ⟨g7, 0, none⟩ 2 c7 (by simp [Act.eval]) (by simp [Act.eval]) cur 2 hq7 ((c.drop 1 ++ c.take 1).map (Value.int .i64)) (by rw [hlc]; decide) (fun j v hv => ?_) (by rw [hlc]; omega) (ints_one _) ?_
  · obtain ⟨b', off', e1, e2⟩ := ho7 j v hv
    injection e1 with e1
    injection e1 with e1 e3
    subst e1 e3
    cases j <;> simpa [Addr.add] using e2
  have HRES := Lib.hid (IHd.reset (cur' := (cur.toList.take 0 ++ (((c.drop 1 ++ c.take 1).map (Value.int .i64)) ++ cur.toList.drop (0 + ((c.drop 1 ++ c.take 1).map (Value.int .i64)).length))).toArray) hI7)
  have hlt5 : q < W5.heap.size := HI8.out.apart.lt
  have HOO := Lib.hid (OwnC.reset (ho5.keepT fun k cur _ _ hkk => hb7.block k (by have := hkk; exact (Array.getElem?_eq_some_iff.1 hkk).1)) hq7 (cs' := (c.drop 1 ++ c.take 1).map (Value.int .i64)) hlc)
  have HBB := Lib.hid (below_setRow (HB8.out.trans (hb7.mono HI8.out.lt)) hlq (cur.toList.take 0 ++ (((c.drop 1 ++ c.take 1).map (Value.int .i64)) ++ cur.toList.drop (0 + ((c.drop 1 ++ c.take 1).map (Value.int .i64)).length))).toArray)
  have HKK : Hid (∀ (k : Nat) (cz : Array Value), k ≠ q → Blk w k 2 cz → Blk (w7.setRow q (cur.toList.take 0 ++ (((c.drop 1 ++ c.take 1).map (Value.int .i64)) ++ cur.toList.drop (0 + ((c.drop 1 ++ c.take 1).map (Value.int .i64)).length))).toArray) k 2 cz) :=
    Lib.hid (fun k cz hne hkz => (setRow_other w7 q k _ hne).trans ((HX.out k cz hkz).below hb7 (HX.out k cz hkz).lt))
  clear hI7 hq7 ho5 ho7 b7 hb6 hb7
  generalize w7.setRow q (cur.toList.take 0 ++ (((c.drop 1 ++ c.take 1).map (Value.int .i64)) ++ cur.toList.drop (0 + ((c.drop 1 ++ c.take 1).map (Value.int .i64)).length))).toArray = W9 at *
  go_wp2_with (fail)
  go_end0
  exact ⟨rfl, ⟨_, HRES.out⟩, by simpa using HOO.out, HBB.out, fun k cz hne hkz => HKK.out k cz hne hkz⟩

set_option maxHeartbeats 4000000 in
set_option maxRecDepth 10000 in
theorem impl_hcross_8 {lo g q : Nat} {cur : Array Value} {d car : Int} {vk : Value} {s : HS} {w : World} (h : IHd (some (q, cur)) lo g d car vk w s) (hlq : lo ≤ q) {p : Int} (hp : 0 ≤ p ∧ p ≤ 100) {c : List Int} (hlen : c.length = 2) (hnn : NN c) (hsum : sumI c ≤ 100) {l2 h2 c3 : Nat} (ho : OwnC w l2 h2 2 1 (some ⟨q, 0, none⟩) 2 c3 (c.map (Value.int .i64))) (hl : s.evs.length ≤ 50000) :
    Calls Tryz.prog 74 #[.pointer (some ⟨g, 0, none⟩), .int .i64 8, .int .i64 p, .slice (some ⟨q, 0, none⟩) 2 c3] w fun e w' => e = .returned (.tuple #[]) ∧ (∃ cur', IHd (some (q, cur')) lo g d car vk w' ⟨s.evs ++ crossEvs p 1 (sumI (c.take 1)).toNat (sumI (c.drop 1)).toNat, s.cells⟩) ∧
      OwnC w' l2 h2 2 1 (some ⟨q, 0, none⟩) 2 c3 ((c.drop 1 ++ c.take 1).map (Value.int .i64)) ∧ Below lo w w' ∧ ∀ (k : Nat) (cz : Array Value), k ≠ q → Blk w k 2 cz → Blk w' k 2 cz := by
  have hP := hnn.part 1
  obtain ⟨a, ha⟩ := Int.eq_ofNat_of_zero_le hP.1
  obtain ⟨b, hb⟩ := Int.eq_ofNat_of_zero_le hP.2.2.1
  have ha100 : a ≤ 100 := by omega
  have hb100 : b ≤ 100 := by omega
  have hp' : 0 ≤ p ∧ p ≤ 1000 := by omega
  have ea : (sumI (c.take 1)).toNat = a := by rw [ha]; rfl
  have eb : (sumI (c.drop 1)).toNat = b := by rw [hb]; rfl
  rw [ea, eb]
  have hi : Ints w (some ⟨q, 0, none⟩) c := by
    have : OwnI w l2 h2 (some ⟨q, 0, none⟩) c3 c := by show OwnC _ _ _ _ _ _ _ _ _; rw [hlen]; exact ho
    exact this.ints
  have hcap := ho.cap
  have hapart := h.apart
  have l1 : (c.take 1).length = 1 := by rw [List.length_take]; omega
  have l2' : (c.drop 1).length = 1 := by rw [List.length_drop]; omega
  have hrd : Ints w (some ⟨q, 0 + 1, none⟩) (c.drop 1) := hi.drop 1
  have C1 : Hid (∀ r, Calls Tryz.prog 20 #[.slice (some ⟨q, 0, none⟩) 1 c3] (w.drewN r) fun e w' => e = .returned (.int .i64 (a : Int)) ∧ w.drewN r = w') :=
    Lib.hid (fun r => by
      have := impl_sumOf (some ⟨q, 0, none⟩) c3 (c.take 1) (w.drewN r) (hi.take 1) (by omega)
      rw [l1, sum64_sumI (hnn.take 1) (by omega), ha] at this
      exact this)
  have C2 : Hid (∀ r, Calls Tryz.prog 20 #[.slice (some ⟨q, 1, none⟩) 1 (c3 - 1)] (w.drewN r) fun e w' => e = .returned (.int .i64 (b : Int)) ∧ w.drewN r = w') :=
    Lib.hid (fun r => by
      have := impl_sumOf (some ⟨q, 1, none⟩) (c3 - 1) (c.drop 1) (w.drewN r) hrd (by omega)
      rw [l2', sum64_sumI (hnn.drop 1) (by omega), hb] at this
      exact this)
  -- the two parts, joined
  have HCC : Hid (∀ W W0 : World, Blk W0 q 2 cur → W = W0.alloc (.cells #[.slice (some ⟨q, 1, none⟩) 1 (c3 - 1), .slice (some ⟨q, 0, none⟩) 1 c3] 24) →
      Calls Tryz.prog 51 #[.slice (some ⟨W0.heap.size, 0, none⟩) 2 2] W fun e w' => ∃ g7 c7, e = .returned (.slice (some ⟨g7, 0, none⟩) 2 c7) ∧ CellsAt w' (some ⟨g7, 0, none⟩) ((c.drop 1 ++ c.take 1).map (Value.int .i64)) ∧ Below W.heap.size W w') := Lib.hid (fun W W0 hq hW => by
    have hi2 : Ints W (some ⟨q, 0, none⟩) c := hi.blk hapart (by rw [hW]; exact hq.alloc _)
    have hlit := Blk.new W0 24 #[.slice (some ⟨q, 1, none⟩) 1 (c3 - 1), .slice (some ⟨q, 0, none⟩) 1 c3]
    rw [← hW] at hlit
    obtain ⟨y0, y1⟩ := hlit.c2
    have hI2 : Ints2 W (some ⟨W0.heap.size, 0, none⟩) [c.drop 1, c.take 1] := by
      intro k hk
      match k, hk with
      | 0, _ => exact ⟨_, 0, _, _, _, rfl, rfl, by rw [l2']; exact y0, hi2.drop 1, by rw [l2']; decide⟩
      | 1, _ => exact ⟨_, 0, _, _, _, rfl, rfl, by rw [l1]; exact y1, hi2.take 1, by rw [l1]; decide⟩
    have hs := hI2.slices
    have hN : partsN ([c.drop 1, c.take 1].map partOf) = 2 := by rw [partsN_of]; simp only [cntII, l1, l2']
    have hC : partsC ([c.drop 1, c.take 1].map partOf) = (c.drop 1 ++ c.take 1).map (Value.int .i64) := by rw [partsC_of]; simp
    have := slices_Concat_int64_int64 _ (some ⟨W0.heap.size, 0, none⟩) 2 W hs (by simp) (by rw [hN]; decide)
    rw [hN, hC] at this
    refine this.mono ?_
    rintro e w' ⟨A7, c7, h1, h2, h3⟩
    obtain ⟨g7, rfl, _⟩ := h2.cell (j := 0) (by rw [h2.len]; decide)
    exact ⟨g7, c7, h1, h2.cellsAt, h3⟩)
  have HCL := Lib.hid hlen
  have u1 : (1 : Int) ≤ (c3 : Int) := by omega
  have u2 : (2 : Int) ≤ (c3 : Int) := by omega
  have u3 : ¬ c3 - 1 = 0 := by omega
  have v1 : 1 ≤ c3 := by omega
  have v2 : 0 < c3 := by omega
  have v3 : 2 ≤ c3 := by omega
  have v4 : ¬ c3 = 0 := by omega
  have v5 : ¬ c3 ≤ 1 := by omega
  have v6 : 1 < c3 := by omega
  have v7 : ¬ c3 = 1 := by omega
  obtain ⟨evs, cells⟩ := s
  have H0 := Lib.hid h
  have HO := Lib.hid ho
  have HAP := Lib.hid hapart
  have HRL : Hid ((c.drop 1 ++ c.take 1).length = 2) := Lib.hid (by rw [List.length_append, l1, l2'])
  have HCE : Hid ((crossEvs p 1 a b).length ≤ 10000) := Lib.hid (by rw [crossEvs_length]; exact Nat.le_trans (Nat.mul_le_mul ha100 hb100) (by decide))
  clear h ho hlen hnn ha hb l1 l2' hrd hi hapart ea eb hP
  obtain ⟨iE, ie0, iz0, iz1, iz2⟩ := info_parts info_Event
  dsimp only at hl
  go_enter Tryz.func74, Tryz.ntmps74
  go_upto_region 4 with fail
  (refine wp_region_pops 0 (S := (fun _ => True)) (pre := ?_) (T := ?_) (n := ?_) (by kernel_rfl) (by kernel_rfl) ?_ ?_ ?_ ?_ (fun hHeld => ?_); rotate_left 3; (focus (simp only [pops]; rfl)); (focus (simp only [tailOf]; rfl)); (focus rfl); (focus (trivial)))
  ((refine wpAnyH_take (i := 0) (v := ?_) rfl (by kernel_rfl) (by kernel_rfl) (by kernel_rfl) (fun _ _ _ h => h) (Or.inl ⟨by rfl, ?_⟩) (by assumption) ?_; rotate_left; (focus (intro W hSw; (try dsimp only at hSw); go_simp; try (with_reducible rfl)))); (try simp only [List.getElem_toArray, List.getElem_cons_zero, Act.put, List.setIfInBounds_toArray, List.set_cons_zero, List.set_cons_succ]); (refine wpAnyH_take (i := 1) (v := ?_) rfl (by kernel_rfl) (by kernel_rfl) (by kernel_rfl) (fun _ _ _ h => h) (Or.inl ⟨by rfl, ?_⟩) (by assumption) ?_; rotate_left; (focus (intro W hSw; (try dsimp only at hSw); go_simp; try (with_reducible rfl)))); (try simp only [List.getElem_toArray, List.getElem_cons_zero, List.getElem_cons_succ, Act.put, List.setIfInBounds_toArray, List.set_cons_zero, List.set_cons_succ]); (refine wpAnyH_take (i := 2) (v := ?_) rfl (by kernel_rfl) (by kernel_rfl) (by kernel_rfl) (fun _ _ _ h => h) (Or.inl ⟨by rfl, ?_⟩) (by assumption) ?_; rotate_left; (focus (intro W hSw; (try dsimp only at hSw); go_simp; try (with_reducible rfl)))); (try simp only [List.getElem_toArray, List.getElem_cons_zero, List.getElem_cons_succ, Act.put, List.setIfInBounds_toArray, List.set_cons_zero, List.set_cons_succ]); (refine wpAnyH_take (i := 4) (v := ?_) rfl (by kernel_rfl) (by kernel_rfl) (by kernel_rfl) (fun _ _ _ h => h) (Or.inl ⟨by rfl, ?_⟩) (by assumption) ?_; rotate_left; (focus (intro W hSw; (try dsimp only at hSw); go_simp; try (with_reducible rfl)))); (try simp only [List.getElem_toArray, List.getElem_cons_zero, List.getElem_cons_succ, Act.put, List.setIfInBounds_toArray, List.set_cons_zero, List.set_cons_succ]); (refine wpAnyH_take (i := 5) (v := ?_) rfl (by kernel_rfl) (by kernel_rfl) (by kernel_rfl) (fun _ _ _ h => h) (Or.inl ⟨by rfl, ?_⟩) (by assumption) ?_; rotate_left; (focus (intro W hSw; (try dsimp only at hSw); go_simp; try (with_reducible rfl)))); (try simp only [List.getElem_toArray, List.getElem_cons_zero, List.getElem_cons_succ, Act.put, List.setIfInBounds_toArray, List.set_cons_zero, List.set_cons_succ]); (refine wpAnyH_take (i := 6) (v := ?_) rfl (by kernel_rfl) (by kernel_rfl) (by kernel_rfl) (fun _ _ _ h => h) (Or.inl ⟨by rfl, ?_⟩) (by assumption) ?_; rotate_left; (focus (intro W hSw; (try dsimp only at hSw); go_simp; try (with_reducible rfl)))); (try simp only [List.getElem_toArray, List.getElem_cons_zero, List.getElem_cons_succ, Act.put, List.setIfInBounds_toArray, List.set_cons_zero, List.set_cons_succ]))
  (refine wpAnyH_ready (rs := [3]) (by kernel_rfl) (by simp) ?_; refine AllReadyH.cons rfl (fun K hK => ?_) AllReadyH.nil)
  go_simp
  refine (C1.out 1).mono ?_; rintro e _ ⟨rfl, rfl⟩
  refine hK.out _ _ trivial (fun hHeld => ?_)
  clear hK K
  (try simp only [List.getElem_toArray, List.getElem_cons_zero, List.getElem_cons_succ, Act.put, List.setIfInBounds_toArray, List.set_cons_zero, List.set_cons_succ])
  (refine wpAnyH_ready (rs := [7]) (by kernel_rfl) (by simp) ?_; refine AllReadyH.cons rfl (fun K hK => ?_) AllReadyH.nil)
  go_simp
  refine (C2.out 1).mono ?_; rintro e _ ⟨rfl, rfl⟩
  refine hK.out _ _ trivial (fun hHeld => ?_)
  clear hK K
  (try simp only [List.getElem_toArray, List.getElem_cons_zero, List.getElem_cons_succ, Act.put, List.setIfInBounds_toArray, List.set_cons_zero, List.set_cons_succ])
  ((refine wpAnyH_take (i := 8) (v := ?_) rfl (by kernel_rfl) (by kernel_rfl) (by kernel_rfl) (fun _ _ _ h => h) (Or.inl ⟨by rfl, ?_⟩) (by assumption) ?_; rotate_left; (focus (intro W hSw; (try dsimp only at hSw); go_simp; try (with_reducible rfl)))); (try simp only [List.getElem_toArray, List.getElem_cons_zero, List.getElem_cons_succ, Act.put, List.setIfInBounds_toArray, List.set_cons_zero, List.set_cons_succ]); (refine wpAnyH_take (i := 9) (v := ?_) rfl (by kernel_rfl) (by kernel_rfl) (by kernel_rfl) (fun _ _ _ h => h) (Or.inl ⟨by rfl, ?_⟩) (by assumption) ?_; rotate_left; (focus (intro W hSw; (try dsimp only at hSw); go_simp; try (with_reducible rfl)))); (try simp only [List.getElem_toArray, List.getElem_cons_zero, List.getElem_cons_succ, Act.put, List.setIfInBounds_toArray, List.set_cons_zero, List.set_cons_succ]))
  (refine wpAnyH_done (by kernel_rfl) ?_ _; change wpList _ _ _ _ _ _)
  clear hHeld C1 C2
  have hb4 : Below w.heap.size w (w.drewN 1) := below_drewN (Below.refl _ _) 1
  generalize w.drewN 1 = W4 at *
  have h4 := H0.out.below hb4
  obtain ⟨⟨AE, cE, AC, cC, hk4, hoE4, hcC4⟩, hlo⟩ := h4
  dsimp only at hk4 hoE4 hcC4
  have p4 := hk4.c5.2.2.2.2
  have hlz4 : lo ≤ W4.heap.size := by have := hk4.lt; omega
  go_upto_region 5 with fail
  (refine wp_region_pops 3 (S := (fun W' => W'.cell? ⟨g, 4, none⟩ = some (.slice AE evs.length cE))) (pre := ?_) (T := ?_) (n := ?_) (by kernel_rfl) (by kernel_rfl) ?_ ?_ ?_ ?_ (fun hHeld => ?_); rotate_left 3; (focus (simp only [pops, List.pop_toArray, List.dropLast_cons_cons, List.dropLast_singleton]; rfl)); (focus (simp only [tailOf, List.pop_toArray, List.dropLast_cons_cons, List.dropLast_singleton, List.back?_toArray, List.getLast?_cons_cons, List.getLast?_singleton, Option.toList_some, List.nil_append, List.cons_append]; rfl)); (focus rfl); (focus (exact p4)))
  ((refine wpAnyH_take (i := 0) (v := ?_) rfl (by kernel_rfl) (by kernel_rfl) (by kernel_rfl) (fun _ _ _ h => h) (Or.inl ⟨by rfl, ?_⟩) (by assumption) ?_; rotate_left; (focus (intro W hSw; (try dsimp only at hSw); go_simp; try (with_reducible rfl)))); (try simp only [List.getElem_toArray, List.getElem_cons_zero, Act.put, List.setIfInBounds_toArray, List.set_cons_zero, List.set_cons_succ]); (refine wpAnyH_take (i := 1) (v := ?_) rfl (by kernel_rfl) (by kernel_rfl) (by kernel_rfl) (fun _ _ _ h => h) (Or.inl ⟨by rfl, ?_⟩) (by assumption) ?_; rotate_left; (focus (intro W hSw; (try dsimp only at hSw); go_simp; try (with_reducible rfl)))); (try simp only [List.getElem_toArray, List.getElem_cons_zero, List.getElem_cons_succ, Act.put, List.setIfInBounds_toArray, List.set_cons_zero, List.set_cons_succ]); (refine wpAnyH_take (i := 2) (v := ?_) rfl (by kernel_rfl) (by kernel_rfl) (by kernel_rfl) (fun _ _ _ h => h) (Or.inl ⟨by rfl, ?_⟩) (by assumption) ?_; rotate_left; (focus (intro W hSw; (try dsimp only at hSw); go_simp; try (with_reducible rfl)))); (try simp only [List.getElem_toArray, List.getElem_cons_zero, List.getElem_cons_succ, Act.put, List.setIfInBounds_toArray, List.set_cons_zero, List.set_cons_succ]); (refine wpAnyH_take (i := 3) (v := ?_) rfl (by kernel_rfl) (by kernel_rfl) (by kernel_rfl) (fun _ _ _ h => h) (Or.inl ⟨by rfl, ?_⟩) (by assumption) ?_; rotate_left; (focus (intro W hSw; (try dsimp only at hSw); go_simp; try (with_reducible rfl)))); (try simp only [List.getElem_toArray, List.getElem_cons_zero, List.getElem_cons_succ, Act.put, List.setIfInBounds_toArray, List.set_cons_zero, List.set_cons_succ]); (refine wpAnyH_take (i := 4) (v := ?_) rfl (by kernel_rfl) (by kernel_rfl) (by kernel_rfl) (fun _ _ _ h => h) (Or.inl ⟨by rfl, ?_⟩) (by assumption) ?_; rotate_left; (focus (intro W hSw; (try dsimp only at hSw); go_simp; try (with_reducible rfl)))); (try simp only [List.getElem_toArray, List.getElem_cons_zero, List.getElem_cons_succ, Act.put, List.setIfInBounds_toArray, List.set_cons_zero, List.set_cons_succ]); (refine wpAnyH_take (i := 5) (v := ?_) rfl (by kernel_rfl) (by kernel_rfl) (by kernel_rfl) (fun _ _ _ h => h) (Or.inl ⟨by rfl, ?_⟩) (by assumption) ?_; rotate_left; (focus (intro W hSw; (try dsimp only at hSw); go_simp; try (with_reducible rfl)))); (try simp only [List.getElem_toArray, List.getElem_cons_zero, List.getElem_cons_succ, Act.put, List.setIfInBounds_toArray, List.set_cons_zero, List.set_cons_succ]); (refine wpAnyH_take (i := 6) (v := ?_) rfl (by kernel_rfl) (by kernel_rfl) (by kernel_rfl) (fun _ _ _ h => h) (Or.inl ⟨by rfl, ?_⟩) (by assumption) ?_; rotate_left; (focus (intro W hSw; (try dsimp only at hSw); go_simp; try (with_reducible rfl)))); (try simp only [List.getElem_toArray, List.getElem_cons_zero, List.getElem_cons_succ, Act.put, List.setIfInBounds_toArray, List.set_cons_zero, List.set_cons_succ]); (refine wpAnyH_take (i := 7) (v := ?_) rfl (by kernel_rfl) (by kernel_rfl) (by kernel_rfl) (fun _ _ _ h => h) (Or.inl ⟨by rfl, ?_⟩) (by assumption) ?_; rotate_left; (focus (intro W hSw; (try dsimp only at hSw); go_simp; try (with_reducible rfl)))); (try simp only [List.getElem_toArray, List.getElem_cons_zero, List.getElem_cons_succ, Act.put, List.setIfInBounds_toArray, List.set_cons_zero, List.set_cons_succ]); (refine wpAnyH_take (i := 8) (v := ?_) rfl (by kernel_rfl) (by kernel_rfl) (by kernel_rfl) (fun _ _ _ h => h) (Or.inl ⟨by rfl, ?_⟩) (by assumption) ?_; rotate_left; (focus (intro W hSw; (try dsimp only at hSw); go_simp; try (with_reducible rfl)))); (try simp only [List.getElem_toArray, List.getElem_cons_zero, List.getElem_cons_succ, Act.put, List.setIfInBounds_toArray, List.set_cons_zero, List.set_cons_succ]))
  (refine wpAnyH_ready (rs := [9]) (by kernel_rfl) (by simp) ?_; refine AllReadyH.cons rfl (fun K hK => ?_) AllReadyH.nil)
  go_simp
  refine (impl_crossings p a b 1 (World.drew W4) hp' ha100 hb100).mono ?_; rintro e w5 ⟨A5, c5, rfl, o5, b5⟩
  have hb5 : Below W4.heap.size W4 w5 := (Below.drew (Below.refl _ _)).trans b5
  have hk5 := hk4.below hb5 hk4.lt
  have hoE5 := OwnC.below hoE4 hb5 (Nat.le_refl _)
  have hcC5 := hcC4.below hb5 (Nat.le_refl _)
  have hz5 := hb5.size
  refine hK.out _ _ hk5.c5.2.2.2.2 (fun hHeld => ?_)
  clear hK K
  (try simp only [List.getElem_toArray, List.getElem_cons_zero, List.getElem_cons_succ, Act.put, List.setIfInBounds_toArray, List.set_cons_zero, List.set_cons_succ])
  have hce := HCE.out
  (refine wpAnyH_ready (rs := [10]) (by kernel_rfl) (by simp) ?_; refine AllReadyH.cons rfl (fun K hK => ?_) AllReadyH.nil)
  refine wp_appendC_at w5 (.tmp 33) (.tmp 38) _ rfl 40 iE _ 6 48 Tryz.underlying32 ie0 iz0 iz1 iz2 rfl (by decide) (by simp [Act.eval]) hoE5 (by omega) A5 (crossEvs p 1 a b).length c5 (cellsEvent (crossEvs p 1 a b)) (by simp [Act.eval]) (OwnC.len o5) (OwnC.cellsAt o5) (cellsEvent_one _) (by unfold maxLen; omega) (by omega) ?_
  intro A9 c9 w8 ho8 hg8 hb8 _
  have ho8' : OwnEvent w8 lo w8.heap.size A9 c9 (evs ++ crossEvs p 1 a b) := by
    show OwnC _ _ _ _ _ _ _ _ _
    rw [List.length_append, cellsEvent_append]
    exact ho8
  obtain ⟨hk8, hI8, hX8⟩ := IHd.grow hk5 hoE5 hcC5 hlo hz5 ho8' hg8
  rw [List.length_append] at hI8 hX8
  refine hK.out _ _ hk8.c5.2.2.2.2 (fun hHeld => ?_)
  clear hK K
  (try simp only [List.getElem_toArray, List.getElem_cons_zero, List.getElem_cons_succ, Act.put, List.setIfInBounds_toArray, List.set_cons_zero, List.set_cons_succ])
  (refine wpAnyH_done (by kernel_rfl) ?_ _; change wpList _ _ _ _ _ _)
  clear hHeld hce
  obtain ⟨_, _, _, _, y4⟩ := hk8.c5
  have y5 := hk8.frozen 4
  have HX : Hid (∀ (k : Nat) (cz : Array Value), Blk w k 2 cz → Blk (w8.setCell ⟨g, 4, none⟩ (.slice A9 (evs.length + (crossEvs p 1 a b).length) c9)) k 2 cz) :=
    Lib.hid (fun k cz hkz => (hX8 k _ cz (by decide) (by decide) ((hkz.below hb4 hkz.lt).below hb5 (by have := hb4.size; have := hkz.lt; omega))).2)
  have HOX : Hid (∀ (lo hi n c : Nat) (A : Option Addr) (cs : List Value), OwnC w lo hi 2 1 A n c cs → OwnC (w8.setCell ⟨g, 4, none⟩ (.slice A9 (evs.length + (crossEvs p 1 a b).length) c9)) lo hi 2 1 A n c cs) :=
    Lib.hid (fun lo hi n c A cs hh => hh.keepT fun k cur _ _ hkk => (HX.out k cur hkk).trans hkk.symm)
  have HB8 : Hid (Below lo w (w8.setCell ⟨g, 4, none⟩ (.slice A9 (evs.length + (crossEvs p 1 a b).length) c9))) :=
    Lib.hid ((((hb4.mono H0.out.lt).trans (hb5.mono hlz4)).trans hb8).setCell (p := ⟨g, 4, none⟩) hlo _)
  have HI8 := Lib.hid hI8
  clear hI8 hX8 ho8' ho8 hg8 hb8 hk8 hk5 hoE5 hcC5 hk4 hoE4 hcC4 p4 o5 b5 hb5 hb4
  go_upto_region 6 with fail
  generalize w8.setCell ⟨g, 4, none⟩ (.slice A9 (evs.length + (crossEvs p 1 a b).length) c9) = W5 at *
  have ho5 := HOX.out _ _ _ _ _ _ HO.out
  clear y4 y5
  (refine wp_region_pops 1 (S := (fun _ => True)) (pre := ?_) (T := ?_) (n := ?_) (by kernel_rfl) (by kernel_rfl) ?_ ?_ ?_ ?_ (fun hHeld => ?_); rotate_left 3; (focus (simp only [pops, List.pop_toArray, List.dropLast_cons_cons, List.dropLast_singleton]; rfl)); (focus (simp only [tailOf, List.back?_toArray, List.getLast?_cons_cons, List.getLast?_singleton, Option.toList_some, List.nil_append]; rfl)); (focus rfl); (focus (trivial)))
  ((refine wpAnyH_take (i := 0) (v := ?_) rfl (by kernel_rfl) (by kernel_rfl) (by kernel_rfl) (fun _ _ _ h => h) (Or.inl ⟨by rfl, ?_⟩) (by assumption) ?_; rotate_left; (focus (intro W hSw; (try dsimp only at hSw); go_simp; try (with_reducible rfl)))); (try simp only [List.getElem_toArray, List.getElem_cons_zero, Act.put, List.setIfInBounds_toArray, List.set_cons_zero, List.set_cons_succ]); (refine wpAnyH_take (i := 1) (v := ?_) rfl (by kernel_rfl) (by kernel_rfl) (by kernel_rfl) (fun _ _ _ h => h) (Or.inl ⟨by rfl, ?_⟩) (by assumption) ?_; rotate_left; (focus (intro W hSw; (try dsimp only at hSw); go_simp; try (with_reducible rfl)))); (try simp only [List.getElem_toArray, List.getElem_cons_zero, List.getElem_cons_succ, Act.put, List.setIfInBounds_toArray, List.set_cons_zero, List.set_cons_succ]); (refine wpAnyH_take (i := 2) (v := ?_) rfl (by kernel_rfl) (by kernel_rfl) (by kernel_rfl) (fun _ _ _ h => h) (Or.inl ⟨by rfl, ?_⟩) (by assumption) ?_; rotate_left; (focus (intro W hSw; (try dsimp only at hSw); go_simp; try (with_reducible rfl)))); (try simp only [List.getElem_toArray, List.getElem_cons_zero, List.getElem_cons_succ, Act.put, List.setIfInBounds_toArray, List.set_cons_zero, List.set_cons_succ]); (refine wpAnyH_take (i := 3) (v := ?_) rfl (by kernel_rfl) (by kernel_rfl) (by kernel_rfl) (fun _ _ _ h => h) (Or.inl ⟨by rfl, ?_⟩) (by assumption) ?_; rotate_left; (focus (intro W hSw; (try dsimp only at hSw); go_simp; try (with_reducible rfl)))); (try simp only [List.getElem_toArray, List.getElem_cons_zero, List.getElem_cons_succ, Act.put, List.setIfInBounds_toArray, List.set_cons_zero, List.set_cons_succ]); (refine wpAnyH_take (i := 4) (v := ?_) rfl (by kernel_rfl) (by kernel_rfl) (by kernel_rfl) (fun _ _ _ h => h) (Or.inl ⟨by rfl, ?_⟩) (by assumption) ?_; rotate_left; (focus (intro W hSw; (try dsimp only at hSw); go_simp; try (with_reducible rfl)))); (try simp only [List.getElem_toArray, List.getElem_cons_zero, List.getElem_cons_succ, Act.put, List.setIfInBounds_toArray, List.set_cons_zero, List.set_cons_succ]); (refine wpAnyH_take (i := 5) (v := ?_) rfl (by kernel_rfl) (by kernel_rfl) (by kernel_rfl) (fun _ _ _ h => h) (Or.inl ⟨by rfl, ?_⟩) (by assumption) ?_; rotate_left; (focus (intro W hSw; (try dsimp only at hSw); go_simp; try (with_reducible rfl)))); (try simp only [List.getElem_toArray, List.getElem_cons_zero, List.getElem_cons_succ, Act.put, List.setIfInBounds_toArray, List.set_cons_zero, List.set_cons_succ]); (refine wpAnyH_take (i := 6) (v := ?_) rfl (by kernel_rfl) (by kernel_rfl) (by kernel_rfl) (fun _ _ _ h => h) (Or.inl ⟨by rfl, ?_⟩) (by assumption) ?_; rotate_left; (focus (intro W hSw; (try dsimp only at hSw); go_simp; try (with_reducible rfl)))); (try simp only [List.getElem_toArray, List.getElem_cons_zero, List.getElem_cons_succ, Act.put, List.setIfInBounds_toArray, List.set_cons_zero, List.set_cons_succ]))
  (refine wpAnyH_ready (rs := [7]) (by kernel_rfl) (by simp) ?_; refine AllReadyH.cons rfl (fun K hK => ?_) AllReadyH.nil)
  go_simp
  refine hK.out _ _ trivial (fun hHeld => ?_)
  clear hK K
  (try simp only [List.getElem_toArray, List.getElem_cons_zero, List.getElem_cons_succ, Act.put, List.setIfInBounds_toArray, List.set_cons_zero, List.set_cons_succ])
  (refine wpAnyH_ready (rs := [8]) (by kernel_rfl) (by simp) ?_; refine AllReadyH.cons rfl (fun K hK => ?_) AllReadyH.nil)
  go_simp
  have hb6 : Below W5.heap.size W5 ((World.drew W5).alloc (.cells #[.slice (some ⟨q, 1, none⟩) 1 (c3 - 1), .slice (some ⟨q, 0, none⟩) 1 c3] 24)) := Below.alloc (Below.drew (Below.refl _ _)) (Nat.le_refl _) _
  refine (HCC.out _ (World.drew W5) HI8.out.apart rfl).mono ?_; rintro e w7 ⟨g7, c7, rfl, ho7, b7⟩
  have hb7 : Below W5.heap.size W5 w7 := hb6.trans (b7.mono hb6.size)
  refine hK.out _ _ trivial (fun hHeld => ?_)
  clear hK K
  (try simp only [List.getElem_toArray, List.getElem_cons_zero, List.getElem_cons_succ, Act.put, List.setIfInBounds_toArray, List.set_cons_zero, List.set_cons_succ])
  (refine wpAnyH_done (by kernel_rfl) ?_ _; change wpList _ _ _ _ _ _)
  clear hHeld
  have hI7 := HI8.out.below hb7
  have hq7 := hI7.apart
  have hsz : cur.size = c3 := by
    rcases ho5.form with ⟨h1, _⟩ | ⟨q', cur2, h1, _, _, h4, _, _, h7, _⟩
    · cases h1
    · injection h1 with h1
      injection h1 with h1
      subst h1
      have := h4.symm.trans HI8.out.apart
      injection this with this
      injection this with this
      subst this
      omega
  have hlc : ((c.drop 1 ++ c.take 1).map (Value.int .i64)).length = 2 := by rw [List.length_map, HRL.out]
  refine wpList_copy_own rfl (.tmp 42) (.tmp 50) 24 24 rfl 2 Tryz.underlying24 (by kernel_rfl) q 0 2 c3 ⟨g7, 0, none⟩ 2 c7 (by simp [Act.eval]) (by simp [Act.eval]) cur 2 hq7 ((c.drop 1 ++ c.take 1).map (Value.int .i64)) (by rw [hlc]; decide) (fun j v hv => ?_) (by rw [hlc]; omega) (ints_one _) ?_
  · obtain ⟨b', off', e1, e2⟩ := ho7 j v hv
    injection e1 with e1
    injection e1 with e1 e3
    subst e1 e3
    cases j <;> simpa [Addr.add] using e2
  have HRES := Lib.hid (IHd.reset (cur' := (cur.toList.take 0 ++ (((c.drop 1 ++ c.take 1).map (Value.int .i64)) ++ cur.toList.drop (0 + ((c.drop 1 ++ c.take 1).map (Value.int .i64)).length))).toArray) hI7)
  have hlt5 : q < W5.heap.size := HI8.out.apart.lt
  have HOO := Lib.hid (OwnC.reset (ho5.keepT fun k cur _ _ hkk => hb7.block k (by have := hkk; exact (Array.getElem?_eq_some_iff.1 hkk).1)) hq7 (cs' := (c.drop 1 ++ c.take 1).map (Value.int .i64)) hlc)
  have HBB := Lib.hid (below_setRow (HB8.out.trans (hb7.mono HI8.out.lt)) hlq (cur.toList.take 0 ++ (((c.drop 1 ++ c.take 1).map (Value.int .i64)) ++ cur.toList.drop (0 + ((c.drop 1 ++ c.take 1).map (Value.int .i64)).length))).toArray)
  have HKK : Hid (∀ (k : Nat) (cz : Array Value), k ≠ q → Blk w k 2 cz → Blk (w7.setRow q (cur.toList.take 0 ++ (((c.drop 1 ++ c.take 1).map (Value.int .i64)) ++ cur.toList.drop (0 + ((c.drop 1 ++ c.take 1).map (Value.int .i64)).length))).toArray) k 2 cz) :=
    Lib.hid (fun k cz hne hkz => (setRow_other w7 q k _ hne).trans ((HX.out k cz hkz).below hb7 (HX.out k cz hkz).lt))
  clear hI7 hq7 ho5 ho7 b7 hb6 hb7
  generalize w7.setRow q (cur.toList.take 0 ++ (((c.drop 1 ++ c.take 1).map (Value.int .i64)) ++ cur.toList.drop (0 + ((c.drop 1 ++ c.take 1).map (Value.int .i64)).length))).toArray = W9 at *
  go_wp2_with (fail)
  go_end0
  exact ⟨rfl, ⟨_, HRES.out⟩, by simpa using HOO.out, HBB.out, fun k cz hne hkz => HKK.out k cz hne hkz⟩

set_option maxHeartbeats 4000000 in
set_option maxRecDepth 10000 in
theorem impl_hcross_9 {lo g q : Nat} {cur : Array Value} {d car : Int} {vk : Value} {s : HS} {w : World} (h : IHd (some (q, cur)) lo g d car vk w s) (hlq : lo ≤ q) {p : Int} (hp : 0 ≤ p ∧ p ≤ 100) {c : List Int} (hlen : c.length = 2) (hnn : NN c) (hsum : sumI c ≤ 100) {l2 h2 c3 : Nat} (ho : OwnC w l2 h2 2 1 (some ⟨q, 0, none⟩) 2 c3 (c.map (Value.int .i64))) (hl : s.evs.length ≤ 50000) :
    Calls Tryz.prog 74 #[.pointer (some ⟨g, 0, none⟩), .int .i64 9, .int .i64 p, .slice (some ⟨q, 0, none⟩) 2 c3] w fun e w' => e = .returned (.tuple #[]) ∧ (∃ cur', IHd (some (q, cur')) lo g d car vk w' ⟨s.evs ++ crossEvs p (-1) (sumI (c.take 1)).toNat (sumI (c.drop 1)).toNat, s.cells⟩) ∧
      OwnC w' l2 h2 2 1 (some ⟨q, 0, none⟩) 2 c3 ((c.drop 1 ++ c.take 1).map (Value.int .i64)) ∧ Below lo w w' ∧ ∀ (k : Nat) (cz : Array Value), k ≠ q → Blk w k 2 cz → Blk w' k 2 cz := by
  have hP := hnn.part 1
  obtain ⟨a, ha⟩ := Int.eq_ofNat_of_zero_le hP.1
  obtain ⟨b, hb⟩ := Int.eq_ofNat_of_zero_le hP.2.2.1
  have ha100 : a ≤ 100 := by omega
  have hb100 : b ≤ 100 := by omega
  have hp' : 0 ≤ p ∧ p ≤ 1000 := by omega
  have ea : (sumI (c.take 1)).toNat = a := by rw [ha]; rfl
  have eb : (sumI (c.drop 1)).toNat = b := by rw [hb]; rfl
  rw [ea, eb]
  have hi : Ints w (some ⟨q, 0, none⟩) c := by
    have : OwnI w l2 h2 (some ⟨q, 0, none⟩) c3 c := by show OwnC _ _ _ _ _ _ _ _ _; rw [hlen]; exact ho
    exact this.ints
  have hcap := ho.cap
  have hapart := h.apart
  have l1 : (c.take 1).length = 1 := by rw [List.length_take]; omega
  have l2' : (c.drop 1).length = 1 := by rw [List.length_drop]; omega
  have hrd : Ints w (some ⟨q, 0 + 1, none⟩) (c.drop 1) := hi.drop 1
  have C1 : Hid (∀ r, Calls Tryz.prog 20 #[.slice (some ⟨q, 0, none⟩) 1 c3] (w.drewN r) fun e w' => e = .returned (.int .i64 (a : Int)) ∧ w.drewN r = w') :=
    Lib.hid (fun r => by
      have := impl_sumOf (some ⟨q, 0, none⟩) c3 (c.take 1) (w.drewN r) (hi.take 1) (by omega)
      rw [l1, sum64_sumI (hnn.take 1) (by omega), ha] at this
      exact this)
  have C2 : Hid (∀ r, Calls Tryz.prog 20 #[.slice (some ⟨q, 1, none⟩) 1 (c3 - 1)] (w.drewN r) fun e w' => e = .returned (.int .i64 (b : Int)) ∧ w.drewN r = w') :=
    Lib.hid (fun r => by
      have := impl_sumOf (some ⟨q, 1, none⟩) (c3 - 1) (c.drop 1) (w.drewN r) hrd (by omega)
      rw [l2', sum64_sumI (hnn.drop 1) (by omega), hb] at this
      exact this)
  -- the two parts, joined
  have HCC : Hid (∀ W W0 : World, Blk W0 q 2 cur → W = W0.alloc (.cells #[.slice (some ⟨q, 1, none⟩) 1 (c3 - 1), .slice (some ⟨q, 0, none⟩) 1 c3] 24) →
      Calls Tryz.prog 51 #[.slice (some ⟨W0.heap.size, 0, none⟩) 2 2] W fun e w' => ∃ g7 c7, e = .returned (.slice (some ⟨g7, 0, none⟩) 2 c7) ∧ CellsAt w' (some ⟨g7, 0, none⟩) ((c.drop 1 ++ c.take 1).map (Value.int .i64)) ∧ Below W.heap.size W w') := Lib.hid (fun W W0 hq hW => by
    have hi2 : Ints W (some ⟨q, 0, none⟩) c := hi.blk hapart (by rw [hW]; exact hq.alloc _)
    have hlit := Blk.new W0 24 #[.slice (some ⟨q, 1, none⟩) 1 (c3 - 1), .slice (some ⟨q, 0, none⟩) 1 c3]
    rw [← hW] at hlit
    obtain ⟨y0, y1⟩ := hlit.c2
    have hI2 : Ints2 W (some ⟨W0.heap.size, 0, none⟩) [c.drop 1, c.take 1] := by
      intro k hk
      match k, hk with
      | 0, _ => exact ⟨_, 0, _, _, _, rfl, rfl, by rw [l2']; exact y0, hi2.drop 1, by rw [l2']; decide⟩
      | 1, _ => exact ⟨_, 0, _, _, _, rfl, rfl, by rw [l1]; exact y1, hi2.take 1, by rw [l1]; decide⟩
    have hs := hI2.slices
    have hN : partsN ([c.drop 1, c.take 1].map partOf) = 2 := by rw [partsN_of]; simp only [cntII, l1, l2']
    have hC : partsC ([c.drop 1, c.take 1].map partOf) = (c.drop 1 ++ c.take 1).map (Value.int .i64) := by rw [partsC_of]; simp
    have := slices_Concat_int64_int64 _ (some ⟨W0.heap.size, 0, none⟩) 2 W hs (by simp) (by rw [hN]; decide)
    rw [hN, hC] at this
    refine this.mono ?_
    rintro e w' ⟨A7, c7, h1, h2, h3⟩
    obtain ⟨g7, rfl, _⟩ := h2.cell (j := 0) (by rw [h2.len]; decide)
    exact ⟨g7, c7, h1, h2.cellsAt, h3⟩)
  have HCL := Lib.hid hlen
  have u1 : (1 : Int) ≤ (c3 : Int) := by omega
  have u2 : (2 : Int) ≤ (c3 : Int) := by omega
  have u3 : ¬ c3 - 1 = 0 := by omega
  have v1 : 1 ≤ c3 := by omega
  have v2 : 0 < c3 := by omega
  have v3 : 2 ≤ c3 := by omega
  have v4 : ¬ c3 = 0 := by omega
  have v5 : ¬ c3 ≤ 1 := by omega
  have v6 : 1 < c3 := by omega
  have v7 : ¬ c3 = 1 := by omega
  obtain ⟨evs, cells⟩ := s
  have H0 := Lib.hid h
  have HO := Lib.hid ho
  have HAP := Lib.hid hapart
  have HRL : Hid ((c.drop 1 ++ c.take 1).length = 2) := Lib.hid (by rw [List.length_append, l1, l2'])
  have HCE : Hid ((crossEvs p (-1) a b).length ≤ 10000) := Lib.hid (by rw [crossEvs_length]; exact Nat.le_trans (Nat.mul_le_mul ha100 hb100) (by decide))
  clear h ho hlen hnn ha hb l1 l2' hrd hi hapart ea eb hP
  obtain ⟨iE, ie0, iz0, iz1, iz2⟩ := info_parts info_Event
  dsimp only at hl
  go_enter Tryz.func74, Tryz.ntmps74
  go_upto_region 4 with fail
  (refine wp_region_pops 0 (S := (fun _ => True)) (pre := ?_) (T := ?_) (n := ?_) (by kernel_rfl) (by kernel_rfl) ?_ ?_ ?_ ?_ (fun hHeld => ?_); rotate_left 3; (focus (simp only [pops]; rfl)); (focus (simp only [tailOf]; rfl)); (focus rfl); (focus (trivial)))
  ((refine wpAnyH_take (i := 0) (v := ?_) rfl (by kernel_rfl) (by kernel_rfl) (by kernel_rfl) (fun _ _ _ h => h) (Or.inl ⟨by rfl, ?_⟩) (by assumption) ?_; rotate_left; (focus (intro W hSw; (try dsimp only at hSw); go_simp; try (with_reducible rfl)))); (try simp only [List.getElem_toArray, List.getElem_cons_zero, Act.put, List.setIfInBounds_toArray, List.set_cons_zero, List.set_cons_succ]); (refine wpAnyH_take (i := 1) (v := ?_) rfl (by kernel_rfl) (by kernel_rfl) (by kernel_rfl) (fun _ _ _ h => h) (Or.inl ⟨by rfl, ?_⟩) (by assumption) ?_; rotate_left; (focus (intro W hSw; (try dsimp only at hSw); go_simp; try (with_reducible rfl)))); (try simp only [List.getElem_toArray, List.getElem_cons_zero, List.getElem_cons_succ, Act.put, List.setIfInBounds_toArray, List.set_cons_zero, List.set_cons_succ]); (refine wpAnyH_take (i := 2) (v := ?_) rfl (by kernel_rfl) (by kernel_rfl) (by kernel_rfl) (fun _ _ _ h => h) (Or.inl ⟨by rfl, ?_⟩) (by assumption) ?_; rotate_left; (focus (intro W hSw; (try dsimp only at hSw); go_simp; try (with_reducible rfl)))); (try simp only [List.getElem_toArray, List.getElem_cons_zero, List.getElem_cons_succ, Act.put, List.setIfInBounds_toArray, List.set_cons_zero, List.set_cons_succ]); (refine wpAnyH_take (i := 4) (v := ?_) rfl (by kernel_rfl) (by kernel_rfl) (by kernel_rfl) (fun _ _ _ h => h) (Or.inl ⟨by rfl, ?_⟩) (by assumption) ?_; rotate_left; (focus (intro W hSw; (try dsimp only at hSw); go_simp; try (with_reducible rfl)))); (try simp only [List.getElem_toArray, List.getElem_cons_zero, List.getElem_cons_succ, Act.put, List.setIfInBounds_toArray, List.set_cons_zero, List.set_cons_succ]); (refine wpAnyH_take (i := 5) (v := ?_) rfl (by kernel_rfl) (by kernel_rfl) (by kernel_rfl) (fun _ _ _ h => h) (Or.inl ⟨by rfl, ?_⟩) (by assumption) ?_; rotate_left; (focus (intro W hSw; (try dsimp only at hSw); go_simp; try (with_reducible rfl)))); (try simp only [List.getElem_toArray, List.getElem_cons_zero, List.getElem_cons_succ, Act.put, List.setIfInBounds_toArray, List.set_cons_zero, List.set_cons_succ]); (refine wpAnyH_take (i := 6) (v := ?_) rfl (by kernel_rfl) (by kernel_rfl) (by kernel_rfl) (fun _ _ _ h => h) (Or.inl ⟨by rfl, ?_⟩) (by assumption) ?_; rotate_left; (focus (intro W hSw; (try dsimp only at hSw); go_simp; try (with_reducible rfl)))); (try simp only [List.getElem_toArray, List.getElem_cons_zero, List.getElem_cons_succ, Act.put, List.setIfInBounds_toArray, List.set_cons_zero, List.set_cons_succ]))
  (refine wpAnyH_ready (rs := [3]) (by kernel_rfl) (by simp) ?_; refine AllReadyH.cons rfl (fun K hK => ?_) AllReadyH.nil)
  go_simp
  refine (C1.out 1).mono ?_; rintro e _ ⟨rfl, rfl⟩
  refine hK.out _ _ trivial (fun hHeld => ?_)
  clear hK K
  (try simp only [List.getElem_toArray, List.getElem_cons_zero, List.getElem_cons_succ, Act.put, List.setIfInBounds_toArray, List.set_cons_zero, List.set_cons_succ])
  (refine wpAnyH_ready (rs := [7]) (by kernel_rfl) (by simp) ?_; refine AllReadyH.cons rfl (fun K hK => ?_) AllReadyH.nil)
  go_simp
  refine (C2.out 1).mono ?_; rintro e _ ⟨rfl, rfl⟩
  refine hK.out _ _ trivial (fun hHeld => ?_)
  clear hK K
  (try simp only [List.getElem_toArray, List.getElem_cons_zero, List.getElem_cons_succ, Act.put, List.setIfInBounds_toArray, List.set_cons_zero, List.set_cons_succ])
  ((refine wpAnyH_take (i := 8) (v := ?_) rfl (by kernel_rfl) (by kernel_rfl) (by kernel_rfl) (fun _ _ _ h => h) (Or.inl ⟨by rfl, ?_⟩) (by assumption) ?_; rotate_left; (focus (intro W hSw; (try dsimp only at hSw); go_simp; try (with_reducible rfl)))); (try simp only [List.getElem_toArray, List.getElem_cons_zero, List.getElem_cons_succ, Act.put, List.setIfInBounds_toArray, List.set_cons_zero, List.set_cons_succ]); (refine wpAnyH_take (i := 9) (v := ?_) rfl (by kernel_rfl) (by kernel_rfl) (by kernel_rfl) (fun _ _ _ h => h) (Or.inl ⟨by rfl, ?_⟩) (by assumption) ?_; rotate_left; (focus (intro W hSw; (try dsimp only at hSw); go_simp; try (with_reducible rfl)))); (try simp only [List.getElem_toArray, List.getElem_cons_zero, List.getElem_cons_succ, Act.put, List.setIfInBounds_toArray, List.set_cons_zero, List.set_cons_succ]))
  (refine wpAnyH_done (by kernel_rfl) ?_ _; change wpList _ _ _ _ _ _)
  clear hHeld C1 C2
  have hb4 : Below w.heap.size w (w.drewN 1) := below_drewN (Below.refl _ _) 1
  generalize w.drewN 1 = W4 at *
  have h4 := H0.out.below hb4
  obtain ⟨⟨AE, cE, AC, cC, hk4, hoE4, hcC4⟩, hlo⟩ := h4
  dsimp only at hk4 hoE4 hcC4
  have p4 := hk4.c5.2.2.2.2
  have hlz4 : lo ≤ W4.heap.size := by have := hk4.lt; omega
  go_upto_region 5 with fail
  (refine wp_region_pops 3 (S := (fun W' => W'.cell? ⟨g, 4, none⟩ = some (.slice AE evs.length cE))) (pre := ?_) (T := ?_) (n := ?_) (by kernel_rfl) (by kernel_rfl) ?_ ?_ ?_ ?_ (fun hHeld => ?_); rotate_left 3; (focus (simp only [pops, List.pop_toArray, List.dropLast_cons_cons, List.dropLast_singleton]; rfl)); (focus (simp only [tailOf, List.pop_toArray, List.dropLast_cons_cons, List.dropLast_singleton, List.back?_toArray, List.getLast?_cons_cons, List.getLast?_singleton, Option.toList_some, List.nil_append, List.cons_append]; rfl)); (focus rfl); (focus (exact p4)))
  ((refine wpAnyH_take (i := 0) (v := ?_) rfl (by kernel_rfl) (by kernel_rfl) (by kernel_rfl) (fun _ _ _ h => h) (Or.inl ⟨by rfl, ?_⟩) (by assumption) ?_; rotate_left; (focus (intro W hSw; (try dsimp only at hSw); go_simp; try (with_reducible rfl)))); (try simp only [List.getElem_toArray, List.getElem_cons_zero, Act.put, List.setIfInBounds_toArray, List.set_cons_zero, List.set_cons_succ]); (refine wpAnyH_take (i := 1) (v := ?_) rfl (by kernel_rfl) (by kernel_rfl) (by kernel_rfl) (fun _ _ _ h => h) (Or.inl ⟨by rfl, ?_⟩) (by assumption) ?_; rotate_left; (focus (intro W hSw; (try dsimp only at hSw); go_simp; try (with_reducible rfl)))); (try simp only [List.getElem_toArray, List.getElem_cons_zero, List.getElem_cons_succ, Act.put, List.setIfInBounds_toArray, List.set_cons_zero, List.set_cons_succ]); (refine wpAnyH_take (i := 2) (v := ?_) rfl (by kernel_rfl) (by kernel_rfl) (by kernel_rfl) (fun _ _ _ h => h) (Or.inl ⟨by rfl, ?_⟩) (by assumption) ?_; rotate_left; (focus (intro W hSw; (try dsimp only at hSw); go_simp; try (with_reducible rfl)))); (try simp only [List.getElem_toArray, List.getElem_cons_zero, List.getElem_cons_succ, Act.put, List.setIfInBounds_toArray, List.set_cons_zero, List.set_cons_succ]); (refine wpAnyH_take (i := 3) (v := ?_) rfl (by kernel_rfl) (by kernel_rfl) (by kernel_rfl) (fun _ _ _ h => h) (Or.inl ⟨by rfl, ?_⟩) (by assumption) ?_; rotate_left; (focus (intro W hSw; (try dsimp only at hSw); go_simp; try (with_reducible rfl)))); (try simp only [List.getElem_toArray, List.getElem_cons_zero, List.getElem_cons_succ, Act.put, List.setIfInBounds_toArray, List.set_cons_zero, List.set_cons_succ]); (refine wpAnyH_take (i := 4) (v := ?_) rfl (by kernel_rfl) (by kernel_rfl) (by kernel_rfl) (fun _ _ _ h => h) (Or.inl ⟨by rfl, ?_⟩) (by assumption) ?_; rotate_left; (focus (intro W hSw; (try dsimp only at hSw); go_simp; try (with_reducible rfl)))); (try simp only [List.getElem_toArray, List.getElem_cons_zero, List.getElem_cons_succ, Act.put, List.setIfInBounds_toArray, List.set_cons_zero, List.set_cons_succ]); (refine wpAnyH_take (i := 5) (v := ?_) rfl (by kernel_rfl) (by kernel_rfl) (by kernel_rfl) (fun _ _ _ h => h) (Or.inl ⟨by rfl, ?_⟩) (by assumption) ?_; rotate_left; (focus (intro W hSw; (try dsimp only at hSw); go_simp; try (with_reducible rfl)))); (try simp only [List.getElem_toArray, List.getElem_cons_zero, List.getElem_cons_succ, Act.put, List.setIfInBounds_toArray, List.set_cons_zero, List.set_cons_succ]); (refine wpAnyH_take (i := 6) (v := ?_) rfl (by kernel_rfl) (by kernel_rfl) (by kernel_rfl) (fun _ _ _ h => h) (Or.inl ⟨by rfl, ?_⟩) (by assumption) ?_; rotate_left; (focus (intro W hSw; (try dsimp only at hSw); go_simp; try (with_reducible rfl)))); (try simp only [List.getElem_toArray, List.getElem_cons_zero, List.getElem_cons_succ, Act.put, List.setIfInBounds_toArray, List.set_cons_zero, List.set_cons_succ]); (refine wpAnyH_take (i := 7) (v := ?_) rfl (by kernel_rfl) (by kernel_rfl) (by kernel_rfl) (fun _ _ _ h => h) (Or.inl ⟨by rfl, ?_⟩) (by assumption) ?_; rotate_left; (focus (intro W hSw; (try dsimp only at hSw); go_simp; try (with_reducible rfl)))); (try simp only [List.getElem_toArray, List.getElem_cons_zero, List.getElem_cons_succ, Act.put, List.setIfInBounds_toArray, List.set_cons_zero, List.set_cons_succ]); (refine wpAnyH_take (i := 8) (v := ?_) rfl (by kernel_rfl) (by kernel_rfl) (by kernel_rfl) (fun _ _ _ h => h) (Or.inl ⟨by rfl, ?_⟩) (by assumption) ?_; rotate_left; (focus (intro W hSw; (try dsimp only at hSw); go_simp; try (with_reducible rfl)))); (try simp only [List.getElem_toArray, List.getElem_cons_zero, List.getElem_cons_succ, Act.put, List.setIfInBounds_toArray, List.set_cons_zero, List.set_cons_succ]))
  (refine wpAnyH_ready (rs := [9]) (by kernel_rfl) (by simp) ?_; refine AllReadyH.cons rfl (fun K hK => ?_) AllReadyH.nil)
  go_simp
  refine (impl_crossings p a b (-1) (World.drew W4) hp' ha100 hb100).mono ?_; rintro e w5 ⟨A5, c5, rfl, o5, b5⟩
  have hb5 : Below W4.heap.size W4 w5 := (Below.drew (Below.refl _ _)).trans b5
  have hk5 := hk4.below hb5 hk4.lt
  have hoE5 := OwnC.below hoE4 hb5 (Nat.le_refl _)
  have hcC5 := hcC4.below hb5 (Nat.le_refl _)
  have hz5 := hb5.size
  refine hK.out _ _ hk5.c5.2.2.2.2 (fun hHeld => ?_)
  clear hK K
  (try simp only [List.getElem_toArray, List.getElem_cons_zero, List.getElem_cons_succ, Act.put, List.setIfInBounds_toArray, List.set_cons_zero, List.set_cons_succ])
  have hce := HCE.out
  (refine wpAnyH_ready (rs := [10]) (by kernel_rfl) (by simp) ?_; refine AllReadyH.cons rfl (fun K hK => ?_) AllReadyH.nil)
  refine wp_appendC_at w5 (.tmp 33) (.tmp 38) _ rfl 40 iE _ 6 48 Tryz.underlying32 ie0 iz0 iz1 iz2 rfl (by decide) (by simp [Act.eval]) hoE5 (by omega) A5 (crossEvs p (-1) a b).length c5 (cellsEvent (crossEvs p (-1) a b)) (by simp [Act.eval]) (OwnC.len o5) (OwnC.cellsAt o5) (cellsEvent_one _) (by unfold maxLen; omega) (by omega) ?_
  intro A9 c9 w8 ho8 hg8 hb8 _
  have ho8' : OwnEvent w8 lo w8.heap.size A9 c9 (evs ++ crossEvs p (-1) a b) := by
    show OwnC _ _ _ _ _ _ _ _ _
    rw [List.length_append, cellsEvent_append]
    exact ho8
  obtain ⟨hk8, hI8, hX8⟩ := IHd.grow hk5 hoE5 hcC5 hlo hz5 ho8' hg8
  rw [List.length_append] at hI8 hX8
  refine hK.out _ _ hk8.c5.2.2.2.2 (fun hHeld => ?_)
  clear hK K
  (try simp only [List.getElem_toArray, List.getElem_cons_zero, List.getElem_cons_succ, Act.put, List.setIfInBounds_toArray, List.set_cons_zero, List.set_cons_succ])
  (refine wpAnyH_done (by kernel_rfl) ?_ _; change wpList _ _ _ _ _ _)
  clear hHeld hce
  obtain ⟨_, _, _, _, y4⟩ := hk8.c5
  have y5 := hk8.frozen 4
  have HX : Hid (∀ (k : Nat) (cz : Array Value), Blk w k 2 cz → Blk (w8.setCell ⟨g, 4, none⟩ (.slice A9 (evs.length + (crossEvs p (-1) a b).length) c9)) k 2 cz) :=
    Lib.hid (fun k cz hkz => (hX8 k _ cz (by decide) (by decide) ((hkz.below hb4 hkz.lt).below hb5 (by have := hb4.size; have := hkz.lt; omega))).2)
  have HOX : Hid (∀ (lo hi n c : Nat) (A : Option Addr) (cs : List Value), OwnC w lo hi 2 1 A n c cs → OwnC (w8.setCell ⟨g, 4, none⟩ (.slice A9 (evs.length + (crossEvs p (-1) a b).length) c9)) lo hi 2 1 A n c cs) :=
    Lib.hid (fun lo hi n c A cs hh => hh.keepT fun k cur _ _ hkk => (HX.out k cur hkk).trans hkk.symm)
  have HB8 : Hid (Below lo w (w8.setCell ⟨g, 4, none⟩ (.slice A9 (evs.length + (crossEvs p (-1) a b).length) c9))) :=
    Lib.hid ((((hb4.mono H0.out.lt).trans (hb5.mono hlz4)).trans hb8).setCell (p := ⟨g, 4, none⟩) hlo _)
  have HI8 := Lib.hid hI8
  clear hI8 hX8 ho8' ho8 hg8 hb8 hk8 hk5 hoE5 hcC5 hk4 hoE4 hcC4 p4 o5 b5 hb5 hb4
  go_upto_region 6 with fail
  generalize w8.setCell ⟨g, 4, none⟩ (.slice A9 (evs.length + (crossEvs p (-1) a b).length) c9) = W5 at *
  have ho5 := HOX.out _ _ _ _ _ _ HO.out
  clear y4 y5
  (refine wp_region_pops 1 (S := (fun _ => True)) (pre := ?_) (T := ?_) (n := ?_) (by kernel_rfl) (by kernel_rfl) ?_ ?_ ?_ ?_ (fun hHeld => ?_); rotate_left 3; (focus (simp only [pops, List.pop_toArray, List.dropLast_cons_cons, List.dropLast_singleton]; rfl)); (focus (simp only [tailOf, List.back?_toArray, List.getLast?_cons_cons, List.getLast?_singleton, Option.toList_some, List.nil_append]; rfl)); (focus rfl); (focus (trivial)))
  ((refine wpAnyH_take (i := 0) (v := ?_) rfl (by kernel_rfl) (by kernel_rfl) (by kernel_rfl) (fun _ _ _ h => h) (Or.inl ⟨by rfl, ?_⟩) (by assumption) ?_; rotate_left; (focus (intro W hSw; (try dsimp only at hSw); go_simp; try (with_reducible rfl)))); (try simp only [List.getElem_toArray, List.getElem_cons_zero, Act.put, List.setIfInBounds_toArray, List.set_cons_zero, List.set_cons_succ]); (refine wpAnyH_take (i := 1) (v := ?_) rfl (by kernel_rfl) (by kernel_rfl) (by kernel_rfl) (fun _ _ _ h => h) (Or.inl ⟨by rfl, ?_⟩) (by assumption) ?_; rotate_left; (focus (intro W hSw; (try dsimp only at hSw); go_simp; try (with_reducible rfl)))); (try simp only [List.getElem_toArray, List.getElem_cons_zero, List.getElem_cons_succ, Act.put, List.setIfInBounds_toArray, List.set_cons_zero, List.set_cons_succ]); (refine wpAnyH_take (i := 2) (v := ?_) rfl (by kernel_rfl) (by kernel_rfl) (by kernel_rfl) (fun _ _ _ h => h) (Or.inl ⟨by rfl, ?_⟩) (by assumption) ?_; rotate_left; (focus (intro W hSw; (try dsimp only at hSw); go_simp; try (with_reducible rfl)))); (try simp only [List.getElem_toArray, List.getElem_cons_zero, List.getElem_cons_succ, Act.put, List.setIfInBounds_toArray, List.set_cons_zero, List.set_cons_succ]); (refine wpAnyH_take (i := 3) (v := ?_) rfl (by kernel_rfl) (by kernel_rfl) (by kernel_rfl) (fun _ _ _ h => h) (Or.inl ⟨by rfl, ?_⟩) (by assumption) ?_; rotate_left; (focus (intro W hSw; (try dsimp only at hSw); go_simp; try (with_reducible rfl)))); (try simp only [List.getElem_toArray, List.getElem_cons_zero, List.getElem_cons_succ, Act.put, List.setIfInBounds_toArray, List.set_cons_zero, List.set_cons_succ]); (refine wpAnyH_take (i := 4) (v := ?_) rfl (by kernel_rfl) (by kernel_rfl) (by kernel_rfl) (fun _ _ _ h => h) (Or.inl ⟨by rfl, ?_⟩) (by assumption) ?_; rotate_left; (focus (intro W hSw; (try dsimp only at hSw); go_simp; try (with_reducible rfl)))); (try simp only [List.getElem_toArray, List.getElem_cons_zero, List.getElem_cons_succ, Act.put, List.setIfInBounds_toArray, List.set_cons_zero, List.set_cons_succ]); (refine wpAnyH_take (i := 5) (v := ?_) rfl (by kernel_rfl) (by kernel_rfl) (by kernel_rfl) (fun _ _ _ h => h) (Or.inl ⟨by rfl, ?_⟩) (by assumption) ?_; rotate_left; (focus (intro W hSw; (try dsimp only at hSw); go_simp; try (with_reducible rfl)))); (try simp only [List.getElem_toArray, List.getElem_cons_zero, List.getElem_cons_succ, Act.put, List.setIfInBounds_toArray, List.set_cons_zero, List.set_cons_succ]); (refine wpAnyH_take (i := 6) (v := ?_) rfl (by kernel_rfl) (by kernel_rfl) (by kernel_rfl) (fun _ _ _ h => h) (Or.inl ⟨by rfl, ?_⟩) (by assumption) ?_; rotate_left; (focus (intro W hSw; (try dsimp only at hSw); go_simp; try (with_reducible rfl)))); (try simp only [List.getElem_toArray, List.getElem_cons_zero, List.getElem_cons_succ, Act.put, List.setIfInBounds_toArray, List.set_cons_zero, List.set_cons_succ]))
  (refine wpAnyH_ready (rs := [7]) (by kernel_rfl) (by simp) ?_; refine AllReadyH.cons rfl (fun K hK => ?_) AllReadyH.nil)
  go_simp
  refine hK.out _ _ trivial (fun hHeld => ?_)
  clear hK K
  (try simp only [List.getElem_toArray, List.getElem_cons_zero, List.getElem_cons_succ, Act.put, List.setIfInBounds_toArray, List.set_cons_zero, List.set_cons_succ])
  (refine wpAnyH_ready (rs := [8]) (by kernel_rfl) (by simp) ?_; refine AllReadyH.cons rfl (fun K hK => ?_) AllReadyH.nil)
  go_simp
  have hb6 : Below W5.heap.size W5 ((World.drew W5).alloc (.cells #[.slice (some ⟨q, 1, none⟩) 1 (c3 - 1), .slice (some ⟨q, 0, none⟩) 1 c3] 24)) := Below.alloc (Below.drew (Below.refl _ _)) (Nat.le_refl _) _
  refine (HCC.out _ (World.drew W5) HI8.out.apart rfl).mono ?_; rintro e w7 ⟨g7, c7, rfl, ho7, b7⟩
  have hb7 : Below W5.heap.size W5 w7 := hb6.trans (b7.mono hb6.size)
  refine hK.out _ _ trivial (fun hHeld => ?_)
  clear hK K
  (try simp only [List.getElem_toArray, List.getElem_cons_zero, List.getElem_cons_succ, Act.put, List.setIfInBounds_toArray, List.set_cons_zero, List.set_cons_succ])
  (refine wpAnyH_done (by kernel_rfl) ?_ _; change wpList _ _ _ _ _ _)
  clear hHeld
  have hI7 := HI8.out.below hb7
  have hq7 := hI7.apart
  have hsz : cur.size = c3 := by
    rcases ho5.form with ⟨h1, _⟩ | ⟨q', cur2, h1, _, _, h4, _, _, h7, _⟩
    · cases h1
    · injection h1 with h1
      injection h1 with h1
      subst h1
      have := h4.symm.trans HI8.out.apart
      injection this with this
      injection this with this
      subst this
      omega
  have hlc : ((c.drop 1 ++ c.take 1).map (Value.int .i64)).length = 2 := by rw [List.length_map, HRL.out]
  refine wpList_copy_own rfl (.tmp 42) (.tmp 50) 24 24 rfl 2 Tryz.underlying24 (by kernel_rfl) q 0 2 c3 ⟨g7, 0, none⟩ 2 c7 (by simp [Act.eval]) (by simp [Act.eval]) cur 2 hq7 ((c.drop 1 ++ c.take 1).map (Value.int .i64)) (by rw [hlc]; decide) (fun j v hv => ?_) (by rw [hlc]; omega) (ints_one _) ?_
  · obtain ⟨b', off', e1, e2⟩ := ho7 j v hv
    injection e1 with e1
    injection e1 with e1 e3
    subst e1 e3
    cases j <;> simpa [Addr.add] using e2
  have HRES := Lib.hid (IHd.reset (cur' := (cur.toList.take 0 ++ (((c.drop 1 ++ c.take 1).map (Value.int .i64)) ++ cur.toList.drop (0 + ((c.drop 1 ++ c.take 1).map (Value.int .i64)).length))).toArray) hI7)
  have hlt5 : q < W5.heap.size := HI8.out.apart.lt
  have HOO := Lib.hid (OwnC.reset (ho5.keepT fun k cur _ _ hkk => hb7.block k (by have := hkk; exact (Array.getElem?_eq_some_iff.1 hkk).1)) hq7 (cs' := (c.drop 1 ++ c.take 1).map (Value.int .i64)) hlc)
  have HBB := Lib.hid (below_setRow (HB8.out.trans (hb7.mono HI8.out.lt)) hlq (cur.toList.take 0 ++ (((c.drop 1 ++ c.take 1).map (Value.int .i64)) ++ cur.toList.drop (0 + ((c.drop 1 ++ c.take 1).map (Value.int .i64)).length))).toArray)
  have HKK : Hid (∀ (k : Nat) (cz : Array Value), k ≠ q → Blk w k 2 cz → Blk (w7.setRow q (cur.toList.take 0 ++ (((c.drop 1 ++ c.take 1).map (Value.int .i64)) ++ cur.toList.drop (0 + ((c.drop 1 ++ c.take 1).map (Value.int .i64)).length))).toArray) k 2 cz) :=
    Lib.hid (fun k cz hne hkz => (setRow_other w7 q k _ hne).trans ((HX.out k cz hkz).below hb7 (HX.out k cz hkz).lt))
  clear hI7 hq7 ho5 ho7 b7 hb6 hb7
  generalize w7.setRow q (cur.toList.take 0 ++ (((c.drop 1 ++ c.take 1).map (Value.int .i64)) ++ cur.toList.drop (0 + ((c.drop 1 ++ c.take 1).map (Value.int .i64)).length))).toArray = W9 at *
  go_wp2_with (fail)
  go_end0
  exact ⟨rfl, ⟨_, HRES.out⟩, by simpa using HOO.out, HBB.out, fun k cz hne hkz => HKK.out k cz hne hkz⟩

set_option maxHeartbeats 4000000 in
set_option maxRecDepth 10000 in
theorem impl_hcross_10 {lo g q : Nat} {cur : Array Value} {d car : Int} {vk : Value} {s : HS} {w : World} (h : IHd (some (q, cur)) lo g d car vk w s) (hlq : lo ≤ q) {p : Int} (hp : 0 ≤ p ∧ p ≤ 100) {c : List Int} (hlen : c.length = 4) (hnn : NN c) (hsum : sumI c ≤ 100) {l2 h2 c3 : Nat} (ho : OwnC w l2 h2 2 1 (some ⟨q, 0, none⟩) 4 c3 (c.map (Value.int .i64))) (hl : s.evs.length ≤ 50000) :
    Calls Tryz.prog 74 #[.pointer (some ⟨g, 0, none⟩), .int .i64 10, .int .i64 p, .slice (some ⟨q, 0, none⟩) 4 c3] w fun e w' => e = .returned (.tuple #[]) ∧ (∃ cur', IHd (some (q, cur')) lo g d car vk w' ⟨s.evs ++ crossEvs p 1 (sumI (c.take 2)).toNat (sumI (c.drop 2)).toNat, s.cells⟩) ∧
      OwnC w' l2 h2 2 1 (some ⟨q, 0, none⟩) 4 c3 ((c.drop 2 ++ c.take 2).map (Value.int .i64)) ∧ Below lo w w' ∧ ∀ (k : Nat) (cz : Array Value), k ≠ q → Blk w k 2 cz → Blk w' k 2 cz := by
  have hP := hnn.part 2
  obtain ⟨a, ha⟩ := Int.eq_ofNat_of_zero_le hP.1
  obtain ⟨b, hb⟩ := Int.eq_ofNat_of_zero_le hP.2.2.1
  have ha100 : a ≤ 100 := by omega
  have hb100 : b ≤ 100 := by omega
  have hp' : 0 ≤ p ∧ p ≤ 1000 := by omega
  have ea : (sumI (c.take 2)).toNat = a := by rw [ha]; rfl
  have eb : (sumI (c.drop 2)).toNat = b := by rw [hb]; rfl
  rw [ea, eb]
  have hi : Ints w (some ⟨q, 0, none⟩) c := by
    have : OwnI w l2 h2 (some ⟨q, 0, none⟩) c3 c := by show OwnC _ _ _ _ _ _ _ _ _; rw [hlen]; exact ho
    exact this.ints
  have hcap := ho.cap
  have hapart := h.apart
  have l1 : (c.take 2).length = 2 := by rw [List.length_take]; omega
  have l2' : (c.drop 2).length = 2 := by rw [List.length_drop]; omega
  have hrd : Ints w (some ⟨q, 0 + 2, none⟩) (c.drop 2) := hi.drop 2
  have C1 : Hid (∀ r, Calls Tryz.prog 20 #[.slice (some ⟨q, 0, none⟩) 2 c3] (w.drewN r) fun e w' => e = .returned (.int .i64 (a : Int)) ∧ w.drewN r = w') :=
    Lib.hid (fun r => by
      have := impl_sumOf (some ⟨q, 0, none⟩) c3 (c.take 2) (w.drewN r) (hi.take 2) (by omega)
      rw [l1, sum64_sumI (hnn.take 2) (by omega), ha] at this
      exact this)
  have C2 : Hid (∀ r, Calls Tryz.prog 20 #[.slice (some ⟨q, 2, none⟩) 2 (c3 - 2)] (w.drewN r) fun e w' => e = .returned (.int .i64 (b : Int)) ∧ w.drewN r = w') :=
    Lib.hid (fun r => by
      have := impl_sumOf (some ⟨q, 2, none⟩) (c3 - 2) (c.drop 2) (w.drewN r) hrd (by omega)
      rw [l2', sum64_sumI (hnn.drop 2) (by omega), hb] at this
      exact this)
  -- the two parts, joined
  have HCC : Hid (∀ W W0 : World, Blk W0 q 2 cur → W = W0.alloc (.cells #[.slice (some ⟨q, 2, none⟩) 2 (c3 - 2), .slice (some ⟨q, 0, none⟩) 2 c3] 24) →
      Calls Tryz.prog 51 #[.slice (some ⟨W0.heap.size, 0, none⟩) 2 2] W fun e w' => ∃ g7 c7, e = .returned (.slice (some ⟨g7, 0, none⟩) 4 c7) ∧ CellsAt w' (some ⟨g7, 0, none⟩) ((c.drop 2 ++ c.take 2).map (Value.int .i64)) ∧ Below W.heap.size W w') := Lib.hid (fun W W0 hq hW => by
    have hi2 : Ints W (some ⟨q, 0, none⟩) c := hi.blk hapart (by rw [hW]; exact hq.alloc _)
    have hlit := Blk.new W0 24 #[.slice (some ⟨q, 2, none⟩) 2 (c3 - 2), .slice (some ⟨q, 0, none⟩) 2 c3]
    rw [← hW] at hlit
    obtain ⟨y0, y1⟩ := hlit.c2
    have hI2 : Ints2 W (some ⟨W0.heap.size, 0, none⟩) [c.drop 2, c.take 2] := by
      intro k hk
      match k, hk with
      | 0, _ => exact ⟨_, 0, _, _, _, rfl, rfl, by rw [l2']; exact y0, hi2.drop 2, by rw [l2']; decide⟩
      | 1, _ => exact ⟨_, 0, _, _, _, rfl, rfl, by rw [l1]; exact y1, hi2.take 2, by rw [l1]; decide⟩
    have hs := hI2.slices
    have hN : partsN ([c.drop 2, c.take 2].map partOf) = 4 := by rw [partsN_of]; simp only [cntII, l1, l2']
    have hC : partsC ([c.drop 2, c.take 2].map partOf) = (c.drop 2 ++ c.take 2).map (Value.int .i64) := by rw [partsC_of]; simp
    have := slices_Concat_int64_int64 _ (some ⟨W0.heap.size, 0, none⟩) 2 W hs (by simp) (by rw [hN]; decide)
    rw [hN, hC] at this
    refine this.mono ?_
    rintro e w' ⟨A7, c7, h1, h2, h3⟩
    obtain ⟨g7, rfl, _⟩ := h2.cell (j := 0) (by rw [h2.len]; decide)
    exact ⟨g7, c7, h1, h2.cellsAt, h3⟩)
  have HCL := Lib.hid hlen
  have u1 : (2 : Int) ≤ (c3 : Int) := by omega
  have u2 : (4 : Int) ≤ (c3 : Int) := by omega
  have u3 : ¬ c3 - 2 = 0 := by omega
  have v1 : 2 ≤ c3 := by omega
  have v2 : 0 < c3 := by omega
  have v3 : 4 ≤ c3 := by omega
  have v4 : ¬ c3 = 0 := by omega
  have v5 : ¬ c3 ≤ 2 := by omega
  have v6 : 2 < c3 := by omega
  have v7 : ¬ c3 = 2 := by omega
  obtain ⟨evs, cells⟩ := s
  have H0 := Lib.hid h
  have HO := Lib.hid ho
  have HAP := Lib.hid hapart
  have HRL : Hid ((c.drop 2 ++ c.take 2).length = 4) := Lib.hid (by rw [List.length_append, l1, l2'])
  have HCE : Hid ((crossEvs p 1 a b).length ≤ 10000) := Lib.hid (by rw [crossEvs_length]; exact Nat.le_trans (Nat.mul_le_mul ha100 hb100) (by decide))
  clear h ho hlen hnn ha hb l1 l2' hrd hi hapart ea eb hP
  obtain ⟨iE, ie0, iz0, iz1, iz2⟩ := info_parts info_Event
  dsimp only at hl
  go_enter Tryz.func74, Tryz.ntmps74
  go_upto_region 4 with fail
  (refine wp_region_pops 0 (S := (fun _ => True)) (pre := ?_) (T := ?_) (n := ?_) (by kernel_rfl) (by kernel_rfl) ?_ ?_ ?_ ?_ (fun hHeld => ?_); rotate_left 3; (focus (simp only [pops]; rfl)); (focus (simp only [tailOf]; rfl)); (focus rfl); (focus (trivial)))
  ((refine wpAnyH_take (i := 0) (v := ?_) rfl (by kernel_rfl) (by kernel_rfl) (by kernel_rfl) (fun _ _ _ h => h) (Or.inl ⟨by rfl, ?_⟩) (by assumption) ?_; rotate_left; (focus (intro W hSw; (try dsimp only at hSw); go_simp; try (with_reducible rfl)))); (try simp only [List.getElem_toArray, List.getElem_cons_zero, Act.put, List.setIfInBounds_toArray, List.set_cons_zero, List.set_cons_succ]); (refine wpAnyH_take (i := 1) (v := ?_) rfl (by kernel_rfl) (by kernel_rfl) (by kernel_rfl) (fun _ _ _ h => h) (Or.inl ⟨by rfl, ?_⟩) (by assumption) ?_; rotate_left; (focus (intro W hSw; (try dsimp only at hSw); go_simp; try (with_reducible rfl)))); (try simp only [List.getElem_toArray, List.getElem_cons_zero, List.getElem_cons_succ, Act.put, List.setIfInBounds_toArray, List.set_cons_zero, List.set_cons_succ]); (refine wpAnyH_take (i := 2) (v := ?_) rfl (by kernel_rfl) (by kernel_rfl) (by kernel_rfl) (fun _ _ _ h => h) (Or.inl ⟨by rfl, ?_⟩) (by assumption) ?_; rotate_left; (focus (intro W hSw; (try dsimp only at hSw); go_simp; try (with_reducible rfl)))); (try simp only [List.getElem_toArray, List.getElem_cons_zero, List.getElem_cons_succ, Act.put, List.setIfInBounds_toArray, List.set_cons_zero, List.set_cons_succ]); (refine wpAnyH_take (i := 4) (v := ?_) rfl (by kernel_rfl) (by kernel_rfl) (by kernel_rfl) (fun _ _ _ h => h) (Or.inl ⟨by rfl, ?_⟩) (by assumption) ?_; rotate_left; (focus (intro W hSw; (try dsimp only at hSw); go_simp; try (with_reducible rfl)))); (try simp only [List.getElem_toArray, List.getElem_cons_zero, List.getElem_cons_succ, Act.put, List.setIfInBounds_toArray, List.set_cons_zero, List.set_cons_succ]); (refine wpAnyH_take (i := 5) (v := ?_) rfl (by kernel_rfl) (by kernel_rfl) (by kernel_rfl) (fun _ _ _ h => h) (Or.inl ⟨by rfl, ?_⟩) (by assumption) ?_; rotate_left; (focus (intro W hSw; (try dsimp only at hSw); go_simp; try (with_reducible rfl)))); (try simp only [List.getElem_toArray, List.getElem_cons_zero, List.getElem_cons_succ, Act.put, List.setIfInBounds_toArray, List.set_cons_zero, List.set_cons_succ]); (refine wpAnyH_take (i := 6) (v := ?_) rfl (by kernel_rfl) (by kernel_rfl) (by kernel_rfl) (fun _ _ _ h => h) (Or.inl ⟨by rfl, ?_⟩) (by assumption) ?_; rotate_left; (focus (intro W hSw; (try dsimp only at hSw); go_simp; try (with_reducible rfl)))); (try simp only [List.getElem_toArray, List.getElem_cons_zero, List.getElem_cons_succ, Act.put, List.setIfInBounds_toArray, List.set_cons_zero, List.set_cons_succ]))
  (refine wpAnyH_ready (rs := [3]) (by kernel_rfl) (by simp) ?_; refine AllReadyH.cons rfl (fun K hK => ?_) AllReadyH.nil)
  go_simp
  refine (C1.out 1).mono ?_; rintro e _ ⟨rfl, rfl⟩
  refine hK.out _ _ trivial (fun hHeld => ?_)
  clear hK K
  (try simp only [List.getElem_toArray, List.getElem_cons_zero, List.getElem_cons_succ, Act.put, List.setIfInBounds_toArray, List.set_cons_zero, List.set_cons_succ])
  (refine wpAnyH_ready (rs := [7]) (by kernel_rfl) (by simp) ?_; refine AllReadyH.cons rfl (fun K hK => ?_) AllReadyH.nil)
  go_simp
  refine (C2.out 1).mono ?_; rintro e _ ⟨rfl, rfl⟩
  refine hK.out _ _ trivial (fun hHeld => ?_)
  clear hK K
  (try simp only [List.getElem_toArray, List.getElem_cons_zero, List.getElem_cons_succ, Act.put, List.setIfInBounds_toArray, List.set_cons_zero, List.set_cons_succ])
  ((refine wpAnyH_take (i := 8) (v := ?_) rfl (by kernel_rfl) (by kernel_rfl) (by kernel_rfl) (fun _ _ _ h => h) (Or.inl ⟨by rfl, ?_⟩) (by assumption) ?_; rotate_left; (focus (intro W hSw; (try dsimp only at hSw); go_simp; try (with_reducible rfl)))); (try simp only [List.getElem_toArray, List.getElem_cons_zero, List.getElem_cons_succ, Act.put, List.setIfInBounds_toArray, List.set_cons_zero, List.set_cons_succ]); (refine wpAnyH_take (i := 9) (v := ?_) rfl (by kernel_rfl) (by kernel_rfl) (by kernel_rfl) (fun _ _ _ h => h) (Or.inl ⟨by rfl, ?_⟩) (by assumption) ?_; rotate_left; (focus (intro W hSw; (try dsimp only at hSw); go_simp; try (with_reducible rfl)))); (try simp only [List.getElem_toArray, List.getElem_cons_zero, List.getElem_cons_succ, Act.put, List.setIfInBounds_toArray, List.set_cons_zero, List.set_cons_succ]))
  (refine wpAnyH_done (by kernel_rfl) ?_ _; change wpList _ _ _ _ _ _)
  clear hHeld C1 C2
  have hb4 : Below w.heap.size w (w.drewN 1) := below_drewN (Below.refl _ _) 1
  generalize w.drewN 1 = W4 at *
  have h4 := H0.out.below hb4
  obtain ⟨⟨AE, cE, AC, cC, hk4, hoE4, hcC4⟩, hlo⟩ := h4
  dsimp only at hk4 hoE4 hcC4
  have p4 := hk4.c5.2.2.2.2
  have hlz4 : lo ≤ W4.heap.size := by have := hk4.lt; omega
  go_upto_region 5 with fail
  (refine wp_region_pops 3 (S := (fun W' => W'.cell? ⟨g, 4, none⟩ = some (.slice AE evs.length cE))) (pre := ?_) (T := ?_) (n := ?_) (by kernel_rfl) (by kernel_rfl) ?_ ?_ ?_ ?_ (fun hHeld => ?_); rotate_left 3; (focus (simp only [pops, List.pop_toArray, List.dropLast_cons_cons, List.dropLast_singleton]; rfl)); (focus (simp only [tailOf, List.pop_toArray, List.dropLast_cons_cons, List.dropLast_singleton, List.back?_toArray, List.getLast?_cons_cons, List.getLast?_singleton, Option.toList_some, List.nil_append, List.cons_append]; rfl)); (focus rfl); (focus (exact p4)))
  ((refine wpAnyH_take (i := 0) (v := ?_) rfl (by kernel_rfl) (by kernel_rfl) (by kernel_rfl) (fun _ _ _ h => h) (Or.inl ⟨by rfl, ?_⟩) (by assumption) ?_; rotate_left; (focus (intro W hSw; (try dsimp only at hSw); go_simp; try (with_reducible rfl)))); (try simp only [List.getElem_toArray, List.getElem_cons_zero, Act.put, List.setIfInBounds_toArray, List.set_cons_zero, List.set_cons_succ]); (refine wpAnyH_take (i := 1) (v := ?_) rfl (by kernel_rfl) (by kernel_rfl) (by kernel_rfl) (fun _ _ _ h => h) (Or.inl ⟨by rfl, ?_⟩) (by assumption) ?_; rotate_left; (focus (intro W hSw; (try dsimp only at hSw); go_simp; try (with_reducible rfl)))); (try simp only [List.getElem_toArray, List.getElem_cons_zero, List.getElem_cons_succ, Act.put, List.setIfInBounds_toArray, List.set_cons_zero, List.set_cons_succ]); (refine wpAnyH_take (i := 2) (v := ?_) rfl (by kernel_rfl) (by kernel_rfl) (by kernel_rfl) (fun _ _ _ h => h) (Or.inl ⟨by rfl, ?_⟩) (by assumption) ?_; rotate_left; (focus (intro W hSw; (try dsimp only at hSw); go_simp; try (with_reducible rfl)))); (try simp only [List.getElem_toArray, List.getElem_cons_zero, List.getElem_cons_succ, Act.put, List.setIfInBounds_toArray, List.set_cons_zero, List.set_cons_succ]); (refine wpAnyH_take (i := 3) (v := ?_) rfl (by kernel_rfl) (by kernel_rfl) (by kernel_rfl) (fun _ _ _ h => h) (Or.inl ⟨by rfl, ?_⟩) (by assumption) ?_; rotate_left; (focus (intro W hSw; (try dsimp only at hSw); go_simp; try (with_reducible rfl)))); (try simp only [List.getElem_toArray, List.getElem_cons_zero, List.getElem_cons_succ, Act.put, List.setIfInBounds_toArray, List.set_cons_zero, List.set_cons_succ]); (refine wpAnyH_take (i := 4) (v := ?_) rfl (by kernel_rfl) (by kernel_rfl) (by kernel_rfl) (fun _ _ _ h => h) (Or.inl ⟨by rfl, ?_⟩) (by assumption) ?_; rotate_left; (focus (intro W hSw; (try dsimp only at hSw); go_simp; try (with_reducible rfl)))); (try simp only [List.getElem_toArray, List.getElem_cons_zero, List.getElem_cons_succ, Act.put, List.setIfInBounds_toArray, List.set_cons_zero, List.set_cons_succ]); (refine wpAnyH_take (i := 5) (v := ?_) rfl (by kernel_rfl) (by kernel_rfl) (by kernel_rfl) (fun _ _ _ h => h) (Or.inl ⟨by rfl, ?_⟩) (by assumption) ?_; rotate_left; (focus (intro W hSw; (try dsimp only at hSw); go_simp; try (with_reducible rfl)))); (try simp only [List.getElem_toArray, List.getElem_cons_zero, List.getElem_cons_succ, Act.put, List.setIfInBounds_toArray, List.set_cons_zero, List.set_cons_succ]); (refine wpAnyH_take (i := 6) (v := ?_) rfl (by kernel_rfl) (by kernel_rfl) (by kernel_rfl) (fun _ _ _ h => h) (Or.inl ⟨by rfl, ?_⟩) (by assumption) ?_; rotate_left; (focus (intro W hSw; (try dsimp only at hSw); go_simp; try (with_reducible rfl)))); (try simp only [List.getElem_toArray, List.getElem_cons_zero, List.getElem_cons_succ, Act.put, List.setIfInBounds_toArray, List.set_cons_zero, List.set_cons_succ]); (refine wpAnyH_take (i := 7) (v := ?_) rfl (by kernel_rfl) (by kernel_rfl) (by kernel_rfl) (fun _ _ _ h => h) (Or.inl ⟨by rfl, ?_⟩) (by assumption) ?_; rotate_left; (focus (intro W hSw; (try dsimp only at hSw); go_simp; try (with_reducible rfl)))); (try simp only [List.getElem_toArray, List.getElem_cons_zero, List.getElem_cons_succ, Act.put, List.setIfInBounds_toArray, List.set_cons_zero, List.set_cons_succ]); (refine wpAnyH_take (i := 8) (v := ?_) rfl (by kernel_rfl) (by kernel_rfl) (by kernel_rfl) (fun _ _ _ h => h) (Or.inl ⟨by rfl, ?_⟩) (by assumption) ?_; rotate_left; (focus (intro W hSw; (try dsimp only at hSw); go_simp; try (with_reducible rfl)))); (try simp only [List.getElem_toArray, List.getElem_cons_zero, List.getElem_cons_succ, Act.put, List.setIfInBounds_toArray, List.set_cons_zero, List.set_cons_succ]))
  (refine wpAnyH_ready (rs := [9]) (by kernel_rfl) (by simp) ?_; refine AllReadyH.cons rfl (fun K hK => ?_) AllReadyH.nil)
  go_simp
  refine (impl_crossings p a b 1 (World.drew W4) hp' ha100 hb100).mono ?_; rintro e w5 ⟨A5, c5, rfl, o5, b5⟩
  have hb5 : Below W4.heap.size W4 w5 := (Below.drew (Below.refl _ _)).trans b5
  have hk5 := hk4.below hb5 hk4.lt
  have hoE5 := OwnC.below hoE4 hb5 (Nat.le_refl _)
  have hcC5 := hcC4.below hb5 (Nat.le_refl _)
  have hz5 := hb5.size
  refine hK.out _ _ hk5.c5.2.2.2.2 (fun hHeld => ?_)
  clear hK K
  (try simp only [List.getElem_toArray, List.getElem_cons_zero, List.getElem_cons_succ, Act.put, List.setIfInBounds_toArray, List.set_cons_zero, List.set_cons_succ])
  have hce := HCE.out
  (refine wpAnyH_ready (rs := [10]) (by kernel_rfl) (by simp) ?_; refine AllReadyH.cons rfl (fun K hK => ?_) AllReadyH.nil)
  refine wp_appendC_at w5 (.tmp 33) (.tmp 38) _ rfl 40 iE _ 6 48 Tryz.underlying32 ie0 iz0 iz1 iz2 rfl (by decide) (by simp [Act.eval]) hoE5 (by omega) A5 (crossEvs p 1 a b).length c5 (cellsEvent (crossEvs p 1 a b)) (by simp [Act.eval]) (OwnC.len o5) (OwnC.cellsAt o5) (cellsEvent_one _) (by unfold maxLen; omega) (by omega) ?_
  intro A9 c9 w8 ho8 hg8 hb8 _
  have ho8' : OwnEvent w8 lo w8.heap.size A9 c9 (evs ++ crossEvs p 1 a b) := by
    show OwnC _ _ _ _ _ _ _ _ _
    rw [List.length_append, cellsEvent_append]
    exact ho8
  obtain ⟨hk8, hI8, hX8⟩ := IHd.grow hk5 hoE5 hcC5 hlo hz5 ho8' hg8
  rw [List.length_append] at hI8 hX8
  refine hK.out _ _ hk8.c5.2.2.2.2 (fun hHeld => ?_)
  clear hK K
  (try simp only [List.getElem_toArray, List.getElem_cons_zero, List.getElem_cons_succ, Act.put, List.setIfInBounds_toArray, List.set_cons_zero, List.set_cons_succ])
  (refine wpAnyH_done (by kernel_rfl) ?_ _; change wpList _ _ _ _ _ _)
  clear hHeld hce
  obtain ⟨_, _, _, _, y4⟩ := hk8.c5
  have y5 := hk8.frozen 4
  have HX : Hid (∀ (k : Nat) (cz : Array Value), Blk w k 2 cz → Blk (w8.setCell ⟨g, 4, none⟩ (.slice A9 (evs.length + (crossEvs p 1 a b).length) c9)) k 2 cz) :=
    Lib.hid (fun k cz hkz => (hX8 k _ cz (by decide) (by decide) ((hkz.below hb4 hkz.lt).below hb5 (by have := hb4.size; have := hkz.lt; omega))).2)
  have HOX : Hid (∀ (lo hi n c : Nat) (A : Option Addr) (cs : List Value), OwnC w lo hi 2 1 A n c cs → OwnC (w8.setCell ⟨g, 4, none⟩ (.slice A9 (evs.length + (crossEvs p 1 a b).length) c9)) lo hi 2 1 A n c cs) :=
    Lib.hid (fun lo hi n c A cs hh => hh.keepT fun k cur _ _ hkk => (HX.out k cur hkk).trans hkk.symm)
  have HB8 : Hid (Below lo w (w8.setCell ⟨g, 4, none⟩ (.slice A9 (evs.length + (crossEvs p 1 a b).length) c9))) :=
    Lib.hid ((((hb4.mono H0.out.lt).trans (hb5.mono hlz4)).trans hb8).setCell (p := ⟨g, 4, none⟩) hlo _)
  have HI8 := Lib.hid hI8
  clear hI8 hX8 ho8' ho8 hg8 hb8 hk8 hk5 hoE5 hcC5 hk4 hoE4 hcC4 p4 o5 b5 hb5 hb4
  go_upto_region 6 with fail
  generalize w8.setCell ⟨g, 4, none⟩ (.slice A9 (evs.length + (crossEvs p 1 a b).length) c9) = W5 at *
  have ho5 := HOX.out _ _ _ _ _ _ HO.out
  clear y4 y5
  (refine wp_region_pops 1 (S := (fun _ => True)) (pre := ?_) (T := ?_) (n := ?_) (by kernel_rfl) (by kernel_rfl) ?_ ?_ ?_ ?_ (fun hHeld => ?_); rotate_left 3; (focus (simp only [pops, List.pop_toArray, List.dropLast_cons_cons, List.dropLast_singleton]; rfl)); (focus (simp only [tailOf, List.back?_toArray, List.getLast?_cons_cons, List.getLast?_singleton, Option.toList_some, List.nil_append]; rfl)); (focus rfl); (focus (trivial)))
  ((refine wpAnyH_take (i := 0) (v := ?_) rfl (by kernel_rfl) (by kernel_rfl) (by kernel_rfl) (fun _ _ _ h => h) (Or.inl ⟨by rfl, ?_⟩) (by assumption) ?_; rotate_left; (focus (intro W hSw; (try dsimp only at hSw); go_simp; try (with_reducible rfl)))); (try simp only [List.getElem_toArray, List.getElem_cons_zero, Act.put, List.setIfInBounds_toArray, List.set_cons_zero, List.set_cons_succ]); (refine wpAnyH_take (i := 1) (v := ?_) rfl (by kernel_rfl) (by kernel_rfl) (by kernel_rfl) (fun _ _ _ h => h) (Or.inl ⟨by rfl, ?_⟩) (by assumption) ?_; rotate_left; (focus (intro W hSw; (try dsimp only at hSw); go_simp; try (with_reducible rfl)))); (try simp only [List.getElem_toArray, List.getElem_cons_zero, List.getElem_cons_succ, Act.put, List.setIfInBounds_toArray, List.set_cons_zero, List.set_cons_succ]); (refine wpAnyH_take (i := 2) (v := ?_) rfl (by kernel_rfl) (by kernel_rfl) (by kernel_rfl) (fun _ _ _ h => h) (Or.inl ⟨by rfl, ?_⟩) (by assumption) ?_; rotate_left; (focus (intro W hSw; (try dsimp only at hSw); go_simp; try (with_reducible rfl)))); (try simp only [List.getElem_toArray, List.getElem_cons_zero, List.getElem_cons_succ, Act.put, List.setIfInBounds_toArray, List.set_cons_zero, List.set_cons_succ]); (refine wpAnyH_take (i := 3) (v := ?_) rfl (by kernel_rfl) (by kernel_rfl) (by kernel_rfl) (fun _ _ _ h => h) (Or.inl ⟨by rfl, ?_⟩) (by assumption) ?_; rotate_left; (focus (intro W hSw; (try dsimp only at hSw); go_simp; try (with_reducible rfl)))); (try simp only [List.getElem_toArray, List.getElem_cons_zero, List.getElem_cons_succ, Act.put, List.setIfInBounds_toArray, List.set_cons_zero, List.set_cons_succ]); (refine wpAnyH_take (i := 4) (v := ?_) rfl (by kernel_rfl) (by kernel_rfl) (by kernel_rfl) (fun _ _ _ h => h) (Or.inl ⟨by rfl, ?_⟩) (by assumption) ?_; rotate_left; (focus (intro W hSw; (try dsimp only at hSw); go_simp; try (with_reducible rfl)))); (try simp only [List.getElem_toArray, List.getElem_cons_zero, List.getElem_cons_succ, Act.put, List.setIfInBounds_toArray, List.set_cons_zero, List.set_cons_succ]); (refine wpAnyH_take (i := 5) (v := ?_) rfl (by kernel_rfl) (by kernel_rfl) (by kernel_rfl) (fun _ _ _ h => h) (Or.inl ⟨by rfl, ?_⟩) (by assumption) ?_; rotate_left; (focus (intro W hSw; (try dsimp only at hSw); go_simp; try (with_reducible rfl)))); (try simp only [List.getElem_toArray, List.getElem_cons_zero, List.getElem_cons_succ, Act.put, List.setIfInBounds_toArray, List.set_cons_zero, List.set_cons_succ]); (refine wpAnyH_take (i := 6) (v := ?_) rfl (by kernel_rfl) (by kernel_rfl) (by kernel_rfl) (fun _ _ _ h => h) (Or.inl ⟨by rfl, ?_⟩) (by assumption) ?_; rotate_left; (focus (intro W hSw; (try dsimp only at hSw); go_simp; try (with_reducible rfl)))); (try simp only [List.getElem_toArray, List.getElem_cons_zero, List.getElem_cons_succ, Act.put, List.setIfInBounds_toArray, List.set_cons_zero, List.set_cons_succ]))
  (refine wpAnyH_ready (rs := [7]) (by kernel_rfl) (by simp) ?_; refine AllReadyH.cons rfl (fun K hK => ?_) AllReadyH.nil)
  go_simp
  refine hK.out _ _ trivial (fun hHeld => ?_)
  clear hK K
  (try simp only [List.getElem_toArray, List.getElem_cons_zero, List.getElem_cons_succ, Act.put, List.setIfInBounds_toArray, List.set_cons_zero, List.set_cons_succ])
  (refine wpAnyH_ready (rs := [8]) (by kernel_rfl) (by simp) ?_; refine AllReadyH.cons rfl (fun K hK => ?_) AllReadyH.nil)
  go_simp
  have hb6 : Below W5.heap.size W5 ((World.drew W5).alloc (.cells #[.slice (some ⟨q, 2, none⟩) 2 (c3 - 2), .slice (some ⟨q, 0, none⟩) 2 c3] 24)) := Below.alloc (Below.drew (Below.refl _ _)) (Nat.le_refl _) _
  refine (HCC.out _ (World.drew W5) HI8.out.apart rfl).mono ?_; rintro e w7 ⟨g7, c7, rfl, ho7, b7⟩
  have hb7 : Below W5.heap.size W5 w7 := hb6.trans (b7.mono hb6.size)
  refine hK.out _ _ trivial (fun hHeld => ?_)
  clear hK K
  (try simp only [List.getElem_toArray, List.getElem_cons_zero, List.getElem_cons_succ, Act.put, List.setIfInBounds_toArray, List.set_cons_zero, List.set_cons_succ])
  (refine wpAnyH_done (by kernel_rfl) ?_ _; change wpList _ _ _ _ _ _)
  clear hHeld
  have hI7 := HI8.out.below hb7
  have hq7 := hI7.apart
  have hsz : cur.size = c3 := by
    rcases ho5.form with ⟨h1, _⟩ | ⟨q', cur2, h1, _, _, h4, _, _, h7, _⟩
    · cases h1
    · injection h1 with h1
      injection h1 with h1
      subst h1
      have := h4.symm.trans HI8.out.apart
      injection this with this
      injection this with this
      subst this
      omega
  have hlc : ((c.drop 2 ++ c.take 2).map (Value.int .i64)).length = 4 := by rw [List.length_map, HRL.out]
  refine wpList_copy_own rfl (.tmp 42) (.tmp 50) 24 24 rfl 2 Tryz.underlying24 (by kernel_rfl) q 0 4 c3 ⟨g7, 0, none⟩ 4 c7 (by simp [Act.eval]) (by simp [Act.eval]) cur 2 hq7 ((c.drop 2 ++ c.take 2).map (Value.int .i64)) (by rw [hlc]; decide) (fun j v hv => ?_) (by rw [hlc]; omega) (ints_one _) ?_
  · obtain ⟨b', off', e1, e2⟩ := ho7 j v hv
    injection e1 with e1
    injection e1 with e1 e3
    subst e1 e3
    cases j <;> simpa [Addr.add] using e2
  have HRES := Lib.hid (IHd.reset (cur' := (cur.toList.take 0 ++ (((c.drop 2 ++ c.take 2).map (Value.int .i64)) ++ cur.toList.drop (0 + ((c.drop 2 ++ c.take 2).map (Value.int .i64)).length))).toArray) hI7)
  have hlt5 : q < W5.heap.size := HI8.out.apart.lt
  have HOO := Lib.hid (OwnC.reset (ho5.keepT fun k cur _ _ hkk => hb7.block k (by have := hkk; exact (Array.getElem?_eq_some_iff.1 hkk).1)) hq7 (cs' := (c.drop 2 ++ c.take 2).map (Value.int .i64)) hlc)
  have HBB := Lib.hid (below_setRow (HB8.out.trans (hb7.mono HI8.out.lt)) hlq (cur.toList.take 0 ++ (((c.drop 2 ++ c.take 2).map (Value.int .i64)) ++ cur.toList.drop (0 + ((c.drop 2 ++ c.take 2).map (Value.int .i64)).length))).toArray)
  have HKK : Hid (∀ (k : Nat) (cz : Array Value), k ≠ q → Blk w k 2 cz → Blk (w7.setRow q (cur.toList.take 0 ++ (((c.drop 2 ++ c.take 2).map (Value.int .i64)) ++ cur.toList.drop (0 + ((c.drop 2 ++ c.take 2).map (Value.int .i64)).length))).toArray) k 2 cz) :=
    Lib.hid (fun k cz hne hkz => (setRow_other w7 q k _ hne).trans ((HX.out k cz hkz).below hb7 (HX.out k cz hkz).lt))
  clear hI7 hq7 ho5 ho7 b7 hb6 hb7
  generalize w7.setRow q (cur.toList.take 0 ++ (((c.drop 2 ++ c.take 2).map (Value.int .i64)) ++ cur.toList.drop (0 + ((c.drop 2 ++ c.take 2).map (Value.int .i64)).length))).toArray = W9 at *
  go_wp2_with (fail)
  go_end0
  exact ⟨rfl, ⟨_, HRES.out⟩, by simpa using HOO.out, HBB.out, fun k cz hne hkz => HKK.out k cz hne hkz⟩

set_option maxHeartbeats 4000000 in
set_option maxRecDepth 10000 in
theorem impl_hcross_11 {lo g q : Nat} {cur : Array Value} {d car : Int} {vk : Value} {s : HS} {w : World} (h : IHd (some (q, cur)) lo g d car vk w s) (hlq : lo ≤ q) {p : Int} (hp : 0 ≤ p ∧ p ≤ 100) {c : List Int} (hlen : c.length = 4) (hnn : NN c) (hsum : sumI c ≤ 100) {l2 h2 c3 : Nat} (ho : OwnC w l2 h2 2 1 (some ⟨q, 0, none⟩) 4 c3 (c.map (Value.int .i64))) (hl : s.evs.length ≤ 50000) :
    Calls Tryz.prog 74 #[.pointer (some ⟨g, 0, none⟩), .int .i64 11, .int .i64 p, .slice (some ⟨q, 0, none⟩) 4 c3] w fun e w' => e = .returned (.tuple #[]) ∧ (∃ cur', IHd (some (q, cur')) lo g d car vk w' ⟨s.evs ++ crossEvs p (-1) (sumI (c.take 2)).toNat (sumI (c.drop 2)).toNat, s.cells⟩) ∧
      OwnC w' l2 h2 2 1 (some ⟨q, 0, none⟩) 4 c3 ((c.drop 2 ++ c.take 2).map (Value.int .i64)) ∧ Below lo w w' ∧ ∀ (k : Nat) (cz : Array Value), k ≠ q → Blk w k 2 cz → Blk w' k 2 cz := by
  have hP := hnn.part 2
  obtain ⟨a, ha⟩ := Int.eq_ofNat_of_zero_le hP.1
  obtain ⟨b, hb⟩ := Int.eq_ofNat_of_zero_le hP.2.2.1
  have ha100 : a ≤ 100 := by omega
  have hb100 : b ≤ 100 := by omega
  have hp' : 0 ≤ p ∧ p ≤ 1000 := by omega
  have ea : (sumI (c.take 2)).toNat = a := by rw [ha]; rfl
  have eb : (sumI (c.drop 2)).toNat = b := by rw [hb]; rfl
  rw [ea, eb]
  have hi : Ints w (some ⟨q, 0, none⟩) c := by
    have : OwnI w l2 h2 (some ⟨q, 0, none⟩) c3 c := by show OwnC _ _ _ _ _ _ _ _ _; rw [hlen]; exact ho
    exact this.ints
  have hcap := ho.cap
  have hapart := h.apart
  have l1 : (c.take 2).length = 2 := by rw [List.length_take]; omega
  have l2' : (c.drop 2).length = 2 := by rw [List.length_drop]; omega
  have hrd : Ints w (some ⟨q, 0 + 2, none⟩) (c.drop 2) := hi.drop 2
  have C1 : Hid (∀ r, Calls Tryz.prog 20 #[.slice (some ⟨q, 0, none⟩) 2 c3] (w.drewN r) fun e w' => e = .returned (.int .i64 (a : Int)) ∧ w.drewN r = w') :=
    Lib.hid (fun r => by
      have := impl_sumOf (some ⟨q, 0, none⟩) c3 (c.take 2) (w.drewN r) (hi.take 2) (by omega)
      rw [l1, sum64_sumI (hnn.take 2) (by omega), ha] at this
      exact this)
  have C2 : Hid (∀ r, Calls Tryz.prog 20 #[.slice (some ⟨q, 2, none⟩) 2 (c3 - 2)] (w.drewN r) fun e w' => e = .returned (.int .i64 (b : Int)) ∧ w.drewN r = w') :=
    Lib.hid (fun r => by
      have := impl_sumOf (some ⟨q, 2, none⟩) (c3 - 2) (c.drop 2) (w.drewN r) hrd (by omega)
      rw [l2', sum64_sumI (hnn.drop 2) (by omega), hb] at this
      exact this)
  -- the two parts, joined
  have HCC : Hid (∀ W W0 : World, Blk W0 q 2 cur → W = W0.alloc (.cells #[.slice (some ⟨q, 2, none⟩) 2 (c3 - 2), .slice (some ⟨q, 0, none⟩) 2 c3] 24) →
      Calls Tryz.prog 51 #[.slice (some ⟨W0.heap.size, 0, none⟩) 2 2] W fun e w' => ∃ g7 c7, e = .returned (.slice (some ⟨g7, 0, none⟩) 4 c7) ∧ CellsAt w' (some ⟨g7, 0, none⟩) ((c.drop 2 ++ c.take 2).map (Value.int .i64)) ∧ Below W.heap.size W w') := Lib.hid (fun W W0 hq hW => by
    have hi2 : Ints W (some ⟨q, 0, none⟩) c := hi.blk hapart (by rw [hW]; exact hq.alloc _)
    have hlit := Blk.new W0 24 #[.slice (some ⟨q, 2, none⟩) 2 (c3 - 2), .slice (some ⟨q, 0, none⟩) 2 c3]
    rw [← hW] at hlit
    obtain ⟨y0, y1⟩ := hlit.c2
    have hI2 : Ints2 W (some ⟨W0.heap.size, 0, none⟩) [c.drop 2, c.take 2] := by
      intro k hk
      match k, hk with
      | 0, _ => exact ⟨_, 0, _, _, _, rfl, rfl, by rw [l2']; exact y0, hi2.drop 2, by rw [l2']; decide⟩
      | 1, _ => exact ⟨_, 0, _, _, _, rfl, rfl, by rw [l1]; exact y1, hi2.take 2, by rw [l1]; decide⟩
    have hs := hI2.slices
    have hN : partsN ([c.drop 2, c.take 2].map partOf) = 4 := by rw [partsN_of]; simp only [cntII, l1, l2']
    have hC : partsC ([c.drop 2, c.take 2].map partOf) = (c.drop 2 ++ c.take 2).map (Value.int .i64) := by rw [partsC_of]; simp
    have := slices_Concat_int64_int64 _ (some ⟨W0.heap.size, 0, none⟩) 2 W hs (by simp) (by rw [hN]; decide)
    rw [hN, hC] at this
    refine this.mono ?_
    rintro e w' ⟨A7, c7, h1, h2, h3⟩
    obtain ⟨g7, rfl, _⟩ := h2.cell (j := 0) (by rw [h2.len]; decide)
    exact ⟨g7, c7, h1, h2.cellsAt, h3⟩)
  have HCL := Lib.hid hlen
  have u1 : (2 : Int) ≤ (c3 : Int) := by omega
  have u2 : (4 : Int) ≤ (c3 : Int) := by omega
  have u3 : ¬ c3 - 2 = 0 := by omega
  have v1 : 2 ≤ c3 := by omega
  have v2 : 0 < c3 := by omega
  have v3 : 4 ≤ c3 := by omega
  have v4 : ¬ c3 = 0 := by omega
  have v5 : ¬ c3 ≤ 2 := by omega
  have v6 : 2 < c3 := by omega
  have v7 : ¬ c3 = 2 := by omega
  obtain ⟨evs, cells⟩ := s
  have H0 := Lib.hid h
  have HO := Lib.hid ho
  have HAP := Lib.hid hapart
  have HRL : Hid ((c.drop 2 ++ c.take 2).length = 4) := Lib.hid (by rw [List.length_append, l1, l2'])
  have HCE : Hid ((crossEvs p (-1) a b).length ≤ 10000) := Lib.hid (by rw [crossEvs_length]; exact Nat.le_trans (Nat.mul_le_mul ha100 hb100) (by decide))
  clear h ho hlen hnn ha hb l1 l2' hrd hi hapart ea eb hP
  obtain ⟨iE, ie0, iz0, iz1, iz2⟩ := info_parts info_Event
  dsimp only at hl
  go_enter Tryz.func74, Tryz.ntmps74
  go_upto_region 4 with fail
  (refine wp_region_pops 0 (S := (fun _ => True)) (pre := ?_) (T := ?_) (n := ?_) (by kernel_rfl) (by kernel_rfl) ?_ ?_ ?_ ?_ (fun hHeld => ?_); rotate_left 3; (focus (simp only [pops]; rfl)); (focus (simp only [tailOf]; rfl)); (focus rfl); (focus (trivial)))
  ((refine wpAnyH_take (i := 0) (v := ?_) rfl (by kernel_rfl) (by kernel_rfl) (by kernel_rfl) (fun _ _ _ h => h) (Or.inl ⟨by rfl, ?_⟩) (by assumption) ?_; rotate_left; (focus (intro W hSw; (try dsimp only at hSw); go_simp; try (with_reducible rfl)))); (try simp only [List.getElem_toArray, List.getElem_cons_zero, Act.put, List.setIfInBounds_toArray, List.set_cons_zero, List.set_cons_succ]); (refine wpAnyH_take (i := 1) (v := ?_) rfl (by kernel_rfl) (by kernel_rfl) (by kernel_rfl) (fun _ _ _ h => h) (Or.inl ⟨by rfl, ?_⟩) (by assumption) ?_; rotate_left; (focus (intro W hSw; (try dsimp only at hSw); go_simp; try (with_reducible rfl)))); (try simp only [List.getElem_toArray, List.getElem_cons_zero, List.getElem_cons_succ, Act.put, List.setIfInBounds_toArray, List.set_cons_zero, List.set_cons_succ]); (refine wpAnyH_take (i := 2) (v := ?_) rfl (by kernel_rfl) (by kernel_rfl) (by kernel_rfl) (fun _ _ _ h => h) (Or.inl ⟨by rfl, ?_⟩) (by assumption) ?_; rotate_left; (focus (intro W hSw; (try dsimp only at hSw); go_simp; try (with_reducible rfl)))); (try simp only [List.getElem_toArray, List.getElem_cons_zero, List.getElem_cons_succ, Act.put, List.setIfInBounds_toArray, List.set_cons_zero, List.set_cons_succ]); (refine wpAnyH_take (i := 4) (v := ?_) rfl (by kernel_rfl) (by kernel_rfl) (by kernel_rfl) (fun _ _ _ h => h) (Or.inl ⟨by rfl, ?_⟩) (by assumption) ?_; rotate_left; (focus (intro W hSw; (try dsimp only at hSw); go_simp; try (with_reducible rfl)))); (try simp only [List.getElem_toArray, List.getElem_cons_zero, List.getElem_cons_succ, Act.put, List.setIfInBounds_toArray, List.set_cons_zero, List.set_cons_succ]); (refine wpAnyH_take (i := 5) (v := ?_) rfl (by kernel_rfl) (by kernel_rfl) (by kernel_rfl) (fun _ _ _ h => h) (Or.inl ⟨by rfl, ?_⟩) (by assumption) ?_; rotate_left; (focus (intro W hSw; (try dsimp only at hSw); go_simp; try (with_reducible rfl)))); (try simp only [List.getElem_toArray, List.getElem_cons_zero, List.getElem_cons_succ, Act.put, List.setIfInBounds_toArray, List.set_cons_zero, List.set_cons_succ]); (refine wpAnyH_take (i := 6) (v := ?_) rfl (by kernel_rfl) (by kernel_rfl) (by kernel_rfl) (fun _ _ _ h => h) (Or.inl ⟨by rfl, ?_⟩) (by assumption) ?_; rotate_left; (focus (intro W hSw; (try dsimp only at hSw); go_simp; try (with_reducible rfl)))); (try simp only [List.getElem_toArray, List.getElem_cons_zero, List.getElem_cons_succ, Act.put, List.setIfInBounds_toArray, List.set_cons_zero, List.set_cons_succ]))
  (refine wpAnyH_ready (rs := [3]) (by kernel_rfl) (by simp) ?_; refine AllReadyH.cons rfl (fun K hK => ?_) AllReadyH.nil)
  go_simp
  refine (C1.out 1).mono ?_; rintro e _ ⟨rfl, rfl⟩
  refine hK.out _ _ trivial (fun hHeld => ?_)
  clear hK K
  (try simp only [List.getElem_toArray, List.getElem_cons_zero, List.getElem_cons_succ, Act.put, List.setIfInBounds_toArray, List.set_cons_zero, List.set_cons_succ])
  (refine wpAnyH_ready (rs := [7]) (by kernel_rfl) (by simp) ?_; refine AllReadyH.cons rfl (fun K hK => ?_) AllReadyH.nil)
  go_simp
  refine (C2.out 1).mono ?_; rintro e _ ⟨rfl, rfl⟩
  refine hK.out _ _ trivial (fun hHeld => ?_)
  clear hK K
  (try simp only [List.getElem_toArray, List.getElem_cons_zero, List.getElem_cons_succ, Act.put, List.setIfInBounds_toArray, List.set_cons_zero, List.set_cons_succ])
  ((refine wpAnyH_take (i := 8) (v := ?_) rfl (by kernel_rfl) (by kernel_rfl) (by kernel_rfl) (fun _ _ _ h => h) (Or.inl ⟨by rfl, ?_⟩) (by assumption) ?_; rotate_left; (focus (intro W hSw; (try dsimp only at hSw); go_simp; try (with_reducible rfl)))); (try simp only [List.getElem_toArray, List.getElem_cons_zero, List.getElem_cons_succ, Act.put, List.setIfInBounds_toArray, List.set_cons_zero, List.set_cons_succ]); (refine wpAnyH_take (i := 9) (v := ?_) rfl (by kernel_rfl) (by kernel_rfl) (by kernel_rfl) (fun _ _ _ h => h) (Or.inl ⟨by rfl, ?_⟩) (by assumption) ?_; rotate_left; (focus (intro W hSw; (try dsimp only at hSw); go_simp; try (with_reducible rfl)))); (try simp only [List.getElem_toArray, List.getElem_cons_zero, List.getElem_cons_succ, Act.put, List.setIfInBounds_toArray, List.set_cons_zero, List.set_cons_succ]))
  (refine wpAnyH_done (by kernel_rfl) ?_ _; change wpList _ _ _ _ _ _)
  clear hHeld C1 C2
  have hb4 : Below w.heap.size w (w.drewN 1) := below_drewN (Below.refl _ _) 1
  generalize w.drewN 1 = W4 at *
  have h4 := H0.out.below hb4
  obtain ⟨⟨AE, cE, AC, cC, hk4, hoE4, hcC4⟩, hlo⟩ := h4
  dsimp only at hk4 hoE4 hcC4
  have p4 := hk4.c5.2.2.2.2
  have hlz4 : lo ≤ W4.heap.size := by have := hk4.lt; omega
  go_upto_region 5 with fail
  (refine wp_region_pops 3 (S := (fun W' => W'.cell? ⟨g, 4, none⟩ = some (.slice AE evs.length cE))) (pre := ?_) (T := ?_) (n := ?_) (by kernel_rfl) (by kernel_rfl) ?_ ?_ ?_ ?_ (fun hHeld => ?_); rotate_left 3; (focus (simp only [pops, List.pop_toArray, List.dropLast_cons_cons, List.dropLast_singleton]; rfl)); (focus (simp only [tailOf, List.pop_toArray, List.dropLast_cons_cons, List.dropLast_singleton, List.back?_toArray, List.getLast?_cons_cons, List.getLast?_singleton, Option.toList_some, List.nil_append, List.cons_append]; rfl)); (focus rfl); (focus (exact p4)))
  ((refine wpAnyH_take (i := 0) (v := ?_) rfl (by kernel_rfl) (by kernel_rfl) (by kernel_rfl) (fun _ _ _ h => h) (Or.inl ⟨by rfl, ?_⟩) (by assumption) ?_; rotate_left; (focus (intro W hSw; (try dsimp only at hSw); go_simp; try (with_reducible rfl)))); (try simp only [List.getElem_toArray, List.getElem_cons_zero, Act.put, List.setIfInBounds_toArray, List.set_cons_zero, List.set_cons_succ]); (refine wpAnyH_take (i := 1) (v := ?_) rfl (by kernel_rfl) (by kernel_rfl) (by kernel_rfl) (fun _ _ _ h => h) (Or.inl ⟨by rfl, ?_⟩) (by assumption) ?_; rotate_left; (focus (intro W hSw; (try dsimp only at hSw); go_simp; try (with_reducible rfl)))); (try simp only [List.getElem_toArray, List.getElem_cons_zero, List.getElem_cons_succ, Act.put, List.setIfInBounds_toArray, List.set_cons_zero, List.set_cons_succ]); (refine wpAnyH_take (i := 2) (v := ?_) rfl (by kernel_rfl) (by kernel_rfl) (by kernel_rfl) (fun _ _ _ h => h) (Or.inl ⟨by rfl, ?_⟩) (by assumption) ?_; rotate_left; (focus (intro W hSw; (try dsimp only at hSw); go_simp; try (with_reducible rfl)))); (try simp only [List.getElem_toArray, List.getElem_cons_zero, List.getElem_cons_succ, Act.put, List.setIfInBounds_toArray, List.set_cons_zero, List.set_cons_succ]); (refine wpAnyH_take (i := 3) (v := ?_) rfl (by kernel_rfl) (by kernel_rfl) (by kernel_rfl) (fun _ _ _ h => h) (Or.inl ⟨by rfl, ?_⟩) (by assumption) ?_; rotate_left; (focus (intro W hSw; (try dsimp only at hSw); go_simp; try (with_reducible rfl)))); (try simp only [List.getElem_toArray, List.getElem_cons_zero, List.getElem_cons_succ, Act.put, List.setIfInBounds_toArray, List.set_cons_zero, List.set_cons_succ]); (refine wpAnyH_take (i := 4) (v := ?_) rfl (by kernel_rfl) (by kernel_rfl) (by kernel_rfl) (fun _ _ _ h => h) (Or.inl ⟨by rfl, ?_⟩) (by assumption) ?_; rotate_left; (focus (intro W hSw; (try dsimp only at hSw); go_simp; try (with_reducible rfl)))); (try simp only [List.getElem_toArray, List.getElem_cons_zero, List.getElem_cons_succ, Act.put, List.setIfInBounds_toArray, List.set_cons_zero, List.set_cons_succ]); (refine wpAnyH_take (i := 5) (v := ?_) rfl (by kernel_rfl) (by kernel_rfl) (by kernel_rfl) (fun _ _ _ h => h) (Or.inl ⟨by rfl, ?_⟩) (by assumption) ?_; rotate_left; (focus (intro W hSw; (try dsimp only at hSw); go_simp; try (with_reducible rfl)))); (try simp only [List.getElem_toArray, List.getElem_cons_zero, List.getElem_cons_succ, Act.put, List.setIfInBounds_toArray, List.set_cons_zero, List.set_cons_succ]); (refine wpAnyH_take (i := 6) (v := ?_) rfl (by kernel_rfl) (by kernel_rfl) (by kernel_rfl) (fun _ _ _ h => h) (Or.inl ⟨by rfl, ?_⟩) (by assumption) ?_; rotate_left; (focus (intro W hSw; (try dsimp only at hSw); go_simp; try (with_reducible rfl)))); (try simp only [List.getElem_toArray, List.getElem_cons_zero, List.getElem_cons_succ, Act.put, List.setIfInBounds_toArray, List.set_cons_zero, List.set_cons_succ]); (refine wpAnyH_take (i := 7) (v := ?_) rfl (by kernel_rfl) (by kernel_rfl) (by kernel_rfl) (fun _ _ _ h => h) (Or.inl ⟨by rfl, ?_⟩) (by assumption) ?_; rotate_left; (focus (intro W hSw; (try dsimp only at hSw); go_simp; try (with_reducible rfl)))); (try simp only [List.getElem_toArray, List.getElem_cons_zero, List.getElem_cons_succ, Act.put, List.setIfInBounds_toArray, List.set_cons_zero, List.set_cons_succ]); (refine wpAnyH_take (i := 8) (v := ?_) rfl (by kernel_rfl) (by kernel_rfl) (by kernel_rfl) (fun _ _ _ h => h) (Or.inl ⟨by rfl, ?_⟩) (by assumption) ?_; rotate_left; (focus (intro W hSw; (try dsimp only at hSw); go_simp; try (with_reducible rfl)))); (try simp only [List.getElem_toArray, List.getElem_cons_zero, List.getElem_cons_succ, Act.put, List.setIfInBounds_toArray, List.set_cons_zero, List.set_cons_succ]))
  (refine wpAnyH_ready (rs := [9]) (by kernel_rfl) (by simp) ?_; refine AllReadyH.cons rfl (fun K hK => ?_) AllReadyH.nil)
  go_simp
  refine (impl_crossings p a b (-1) (World.drew W4) hp' ha100 hb100).mono ?_; rintro e w5 ⟨A5, c5, rfl, o5, b5⟩
  have hb5 : Below W4.heap.size W4 w5 := (Below.drew (Below.refl _ _)).trans b5
  have hk5 := hk4.below hb5 hk4.lt
  have hoE5 := OwnC.below hoE4 hb5 (Nat.le_refl _)
  have hcC5 := hcC4.below hb5 (Nat.le_refl _)
  have hz5 := hb5.size
  refine hK.out _ _ hk5.c5.2.2.2.2 (fun hHeld => ?_)
  clear hK K
  (try simp only [List.getElem_toArray, List.getElem_cons_zero, List.getElem_cons_succ, Act.put, List.setIfInBounds_toArray, List.set_cons_zero, List.set_cons_succ])
  have hce := HCE.out
  (refine wpAnyH_ready (rs := [10]) (by kernel_rfl) (by simp) ?_; refine AllReadyH.cons rfl (fun K hK => ?_) AllReadyH.nil)
  refine wp_appendC_at w5 (.tmp 33) (.tmp 38) _ rfl 40 iE _ 6 48 Tryz.underlying32 ie0 iz0 iz1 iz2 rfl (by decide) (by simp [Act.eval]) hoE5 (by omega) A5 (crossEvs p (-1) a b).length c5 (cellsEvent (crossEvs p (-1) a b)) (by simp [Act.eval]) (OwnC.len o5) (OwnC.cellsAt o5) (cellsEvent_one _) (by unfold maxLen; omega) (by omega) ?_
  intro A9 c9 w8 ho8 hg8 hb8 _
  have ho8' : OwnEvent w8 lo w8.heap.size A9 c9 (evs ++ crossEvs p (-1) a b) := by
    show OwnC _ _ _ _ _ _ _ _ _
    rw [List.length_append, cellsEvent_append]
    exact ho8
  obtain ⟨hk8, hI8, hX8⟩ := IHd.grow hk5 hoE5 hcC5 hlo hz5 ho8' hg8
  rw [List.length_append] at hI8 hX8
  refine hK.out _ _ hk8.c5.2.2.2.2 (fun hHeld => ?_)
  clear hK K
  (try simp only [List.getElem_toArray, List.getElem_cons_zero, List.getElem_cons_succ, Act.put, List.setIfInBounds_toArray, List.set_cons_zero, List.set_cons_succ])
  (refine wpAnyH_done (by kernel_rfl) ?_ _; change wpList _ _ _ _ _ _)
  clear hHeld hce
  obtain ⟨_, _, _, _, y4⟩ := hk8.c5
  have y5 := hk8.frozen 4
  have HX : Hid (∀ (k : Nat) (cz : Array Value), Blk w k 2 cz → Blk (w8.setCell ⟨g, 4, none⟩ (.slice A9 (evs.length + (crossEvs p (-1) a b).length) c9)) k 2 cz) :=
    Lib.hid (fun k cz hkz => (hX8 k _ cz (by decide) (by decide) ((hkz.below hb4 hkz.lt).below hb5 (by have := hb4.size; have := hkz.lt; omega))).2)
  have HOX : Hid (∀ (lo hi n c : Nat) (A : Option Addr) (cs : List Value), OwnC w lo hi 2 1 A n c cs → OwnC (w8.setCell ⟨g, 4, none⟩ (.slice A9 (evs.length + (crossEvs p (-1) a b).length) c9)) lo hi 2 1 A n c cs) :=
    Lib.hid (fun lo hi n c A cs hh => hh.keepT fun k cur _ _ hkk => (HX.out k cur hkk).trans hkk.symm)
  have HB8 : Hid (Below lo w (w8.setCell ⟨g, 4, none⟩ (.slice A9 (evs.length + (crossEvs p (-1) a b).length) c9))) :=
    Lib.hid ((((hb4.mono H0.out.lt).trans (hb5.mono hlz4)).trans hb8).setCell (p := ⟨g, 4, none⟩) hlo _)
  have HI8 := Lib.hid hI8
  clear hI8 hX8 ho8' ho8 hg8 hb8 hk8 hk5 hoE5 hcC5 hk4 hoE4 hcC4 p4 o5 b5 hb5 hb4
  go_upto_region 6 with fail
  generalize w8.setCell ⟨g, 4, none⟩ (.slice A9 (evs.length + (crossEvs p (-1) a b).length) c9) = W5 at *
  have ho5 := HOX.out _ _ _ _ _ _ HO.out
  clear y4 y5
  (refine wp_region_pops 1 (S := (fun _ => True)) (pre := ?_) (T := ?_) (n := ?_) (by kernel_rfl) (by kernel_rfl) ?_ ?_ ?_ ?_ (fun hHeld => ?_); rotate_left 3; (focus (simp only [pops, List.pop_toArray, List.dropLast_cons_cons, List.dropLast_singleton]; rfl)); (focus (simp only [tailOf, List.back?_toArray, List.getLast?_cons_cons, List.getLast?_singleton, Option.toList_some, List.nil_append]; rfl)); (focus rfl); (focus (trivial)))
  ((refine wpAnyH_take (i := 0) (v := ?_) rfl (by kernel_rfl) (by kernel_rfl) (by kernel_rfl) (fun _ _ _ h => h) (Or.inl ⟨by rfl, ?_⟩) (by assumption) ?_; rotate_left; (focus (intro W hSw; (try dsimp only at hSw); go_simp; try (with_reducible rfl)))); (try simp only [List.getElem_toArray, List.getElem_cons_zero, Act.put, List.setIfInBounds_toArray, List.set_cons_zero, List.set_cons_succ]); (refine wpAnyH_take (i := 1) (v := ?_) rfl (by kernel_rfl) (by kernel_rfl) (by kernel_rfl) (fun _ _ _ h => h) (Or.inl ⟨by rfl, ?_⟩) (by assumption) ?_; rotate_left; (focus (intro W hSw; (try dsimp only at hSw); go_simp; try (with_reducible rfl)))); (try simp only [List.getElem_toArray, List.getElem_cons_zero, List.getElem_cons_succ, Act.put, List.setIfInBounds_toArray, List.set_cons_zero, List.set_cons_succ]); (refine wpAnyH_take (i := 2) (v := ?_) rfl (by kernel_rfl) (by kernel_rfl) (by kernel_rfl) (fun _ _ _ h => h) (Or.inl ⟨by rfl, ?_⟩) (by assumption) ?_; rotate_left; (focus (intro W hSw; (try dsimp only at hSw); go_simp; try (with_reducible rfl)))); (try simp only [List.getElem_toArray, List.getElem_cons_zero, List.getElem_cons_succ, Act.put, List.setIfInBounds_toArray, List.set_cons_zero, List.set_cons_succ]); (refine wpAnyH_take (i := 3) (v := ?_) rfl (by kernel_rfl) (by kernel_rfl) (by kernel_rfl) (fun _ _ _ h => h) (Or.inl ⟨by rfl, ?_⟩) (by assumption) ?_; rotate_left; (focus (intro W hSw; (try dsimp only at hSw); go_simp; try (with_reducible rfl)))); (try simp only [List.getElem_toArray, List.getElem_cons_zero, List.getElem_cons_succ, Act.put, List.setIfInBounds_toArray, List.set_cons_zero, List.set_cons_succ]); (refine wpAnyH_take (i := 4) (v := ?_) rfl (by kernel_rfl) (by kernel_rfl) (by kernel_rfl) (fun _ _ _ h => h) (Or.inl ⟨by rfl, ?_⟩) (by assumption) ?_; rotate_left; (focus (intro W hSw; (try dsimp only at hSw); go_simp; try (with_reducible rfl)))); (try simp only [List.getElem_toArray, List.getElem_cons_zero, List.getElem_cons_succ, Act.put, List.setIfInBounds_toArray, List.set_cons_zero, List.set_cons_succ]); (refine wpAnyH_take (i := 5) (v := ?_) rfl (by kernel_rfl) (by kernel_rfl) (by kernel_rfl) (fun _ _ _ h => h) (Or.inl ⟨by rfl, ?_⟩) (by assumption) ?_; rotate_left; (focus (intro W hSw; (try dsimp only at hSw); go_simp; try (with_reducible rfl)))); (try simp only [List.getElem_toArray, List.getElem_cons_zero, List.getElem_cons_succ, Act.put, List.setIfInBounds_toArray, List.set_cons_zero, List.set_cons_succ]); (refine wpAnyH_take (i := 6) (v := ?_) rfl (by kernel_rfl) (by kernel_rfl) (by kernel_rfl) (fun _ _ _ h => h) (Or.inl ⟨by rfl, ?_⟩) (by assumption) ?_; rotate_left; (focus (intro W hSw; (try dsimp only at hSw); go_simp; try (with_reducible rfl)))); (try simp only [List.getElem_toArray, List.getElem_cons_zero, List.getElem_cons_succ, Act.put, List.setIfInBounds_toArray, List.set_cons_zero, List.set_cons_succ]))
  (refine wpAnyH_ready (rs := [7]) (by kernel_rfl) (by simp) ?_; refine AllReadyH.cons rfl (fun K hK => ?_) AllReadyH.nil)
  go_simp
  refine hK.out _ _ trivial (fun hHeld => ?_)
  clear hK K
  (try simp only [List.getElem_toArray, List.getElem_cons_zero, List.getElem_cons_succ, Act.put, List.setIfInBounds_toArray, List.set_cons_zero, List.set_cons_succ])
  (refine wpAnyH_ready (rs := [8]) (by kernel_rfl) (by simp) ?_; refine AllReadyH.cons rfl (fun K hK => ?_) AllReadyH.nil)
  go_simp
  have hb6 : Below W5.heap.size W5 ((World.drew W5).alloc (.cells #[.slice (some ⟨q, 2, none⟩) 2 (c3 - 2), .slice (some ⟨q, 0, none⟩) 2 c3] 24)) := Below.alloc (Below.drew (Below.refl _ _)) (Nat.le_refl _) _
  refine (HCC.out _ (World.drew W5) HI8.out.apart rfl).mono ?_; rintro e w7 ⟨g7, c7, rfl, ho7, b7⟩
  have hb7 : Below W5.heap.size W5 w7 := hb6.trans (b7.mono hb6.size)
  refine hK.out _ _ trivial (fun hHeld => ?_)
  clear hK K
  (try simp only [List.getElem_toArray, List.getElem_cons_zero, List.getElem_cons_succ, Act.put, List.setIfInBounds_toArray, List.set_cons_zero, List.set_cons_succ])
  (refine wpAnyH_done (by kernel_rfl) ?_ _; change wpList _ _ _ _ _ _)
  clear hHeld
  have hI7 := HI8.out.below hb7
  have hq7 := hI7.apart
  have hsz : cur.size = c3 := by
    rcases ho5.form with ⟨h1, _⟩ | ⟨q', cur2, h1, _, _, h4, _, _, h7, _⟩
    · cases h1
    · injection h1 with h1
      injection h1 with h1
      subst h1
      have := h4.symm.trans HI8.out.apart
      injection this with this
      injection this with this
      subst this
      omega
  have hlc : ((c.drop 2 ++ c.take 2).map (Value.int .i64)).length = 4 := by rw [List.length_map, HRL.out]
  refine wpList_copy_own rfl (.tmp 42) (.tmp 50) 24 24 rfl 2 Tryz.underlying24 (by kernel_rfl) q 0 4 c3 ⟨g7, 0, none⟩ 4 c7 (by simp [Act.eval]) (by simp [Act.eval]) cur 2 hq7 ((c.drop 2 ++ c.take 2).map (Value.int .i64)) (by rw [hlc]; decide) (fun j v hv => ?_) (by rw [hlc]; omega) (ints_one _) ?_
  · obtain ⟨b', off', e1, e2⟩ := ho7 j v hv
    injection e1 with e1
    injection e1 with e1 e3
    subst e1 e3
    cases j <;> simpa [Addr.add] using e2
  have HRES := Lib.hid (IHd.reset (cur' := (cur.toList.take 0 ++ (((c.drop 2 ++ c.take 2).map (Value.int .i64)) ++ cur.toList.drop (0 + ((c.drop 2 ++ c.take 2).map (Value.int .i64)).length))).toArray) hI7)
  have hlt5 : q < W5.heap.size := HI8.out.apart.lt
  have HOO := Lib.hid (OwnC.reset (ho5.keepT fun k cur _ _ hkk => hb7.block k (by have := hkk; exact (Array.getElem?_eq_some_iff.1 hkk).1)) hq7 (cs' := (c.drop 2 ++ c.take 2).map (Value.int .i64)) hlc)
  have HBB := Lib.hid (below_setRow (HB8.out.trans (hb7.mono HI8.out.lt)) hlq (cur.toList.take 0 ++ (((c.drop 2 ++ c.take 2).map (Value.int .i64)) ++ cur.toList.drop (0 + ((c.drop 2 ++ c.take 2).map (Value.int .i64)).length))).toArray)
  have HKK : Hid (∀ (k : Nat) (cz : Array Value), k ≠ q → Blk w k 2 cz → Blk (w7.setRow q (cur.toList.take 0 ++ (((c.drop 2 ++ c.take 2).map (Value.int .i64)) ++ cur.toList.drop (0 + ((c.drop 2 ++ c.take 2).map (Value.int .i64)).length))).toArray) k 2 cz) :=
    Lib.hid (fun k cz hne hkz => (setRow_other w7 q k _ hne).trans ((HX.out k cz hkz).below hb7 (HX.out k cz hkz).lt))
  clear hI7 hq7 ho5 ho7 b7 hb6 hb7
  generalize w7.setRow q (cur.toList.take 0 ++ (((c.drop 2 ++ c.take 2).map (Value.int .i64)) ++ cur.toList.drop (0 + ((c.drop 2 ++ c.take 2).map (Value.int .i64)).length))).toArray = W9 at *
  go_wp2_with (fail)
  go_end0
  exact ⟨rfl, ⟨_, HRES.out⟩, by simpa using HOO.out, HBB.out, fun k cz hne hkz => HKK.out k cz hne hkz⟩

end Go.Proofs.YthjamohaeahipaaGreat
