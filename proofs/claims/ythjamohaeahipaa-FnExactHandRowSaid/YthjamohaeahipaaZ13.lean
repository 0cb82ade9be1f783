/- Steps of the proof, joined from several texts: HG. -/
import Derived.Test.YthjamohaeahipaaZ12
import Derived.Test.YthjamohaeahipaaZ4
import Derived.Deep.RegionWith

/- Knitting by hand, the given side: the crossings of a stitch. -/
namespace Go.Proofs.Ythjamohaeahipaa
open Go Go.RowKit

theorem Ints.newsM {w : World} {A : Option Addr} {xs : List Int} (h : Ints w A xs) : ∀ (j : Nat) (u : Value), (xs.map (Value.int .i64))[j]? = some u → ∃ b off, A = some ⟨b, off, none⟩ ∧ w.cell? ⟨b, off + j, none⟩ = some u := by
  intro j u hu
  rw [List.getElem?_map] at hu
  cases hx : xs[j]? with
  | none => rw [hx] at hu; simp at hu
  | some x =>
    rw [hx] at hu
    simp at hu
    obtain ⟨b, off, y, hA, hc, hy⟩ := h j (List.getElem?_eq_some_iff.1 hx).1
    rw [hx] at hy
    injection hy with hy
    subst hy
    exact ⟨b, off, hA, by rw [hc, ← hu]⟩
theorem cross_word {p Z : Int} {a b t : Nat} {y : Int} (h : (swTo p Z a b)[t]? = some y) : ∃ x, p + 1 ≤ x ∧ x ≤ p + a + b ∧ y = Z * x ∧ (crossEvs p Z a b)[t]? = some (evCross Z x) := by
  rw [swTo_sign, List.getElem?_map] at h
  cases hx : (swTo p 1 a b)[t]? with
  | none => rw [hx] at h; simp at h
  | some x =>
    rw [hx] at h
    simp at h
    have hm := swTo_mem (List.mem_of_getElem? hx)
    exact ⟨x, hm.1, hm.2, h.symm, by rw [crossEvs, List.getElem?_map, hx]; rfl⟩

set_option maxHeartbeats 4000000 in
set_option maxRecDepth 10000 in
theorem spec_cross_5 {z : Option (Nat × Array Value)} {lo g m : Nat} {s : HS} {S : Int} {w : World} (h : SHd z lo g w s) (hG : GoodC m s.cells S) (hS : S ≤ 100) (hm : m ≤ 16) {i : Nat} {c : List Int} (hx : s.cells[i]? = some c) (hlen : c.length = 2) (hl : s.evs.length ≤ 50000) :
    Calls Try.prog 34 #[.pointer (some ⟨g, 0, none⟩), .int .i64 (i : Int), .int .i64 5] w fun e w' =>
      e = .returned (.tuple #[]) ∧ SHd z lo g w' (crossTo 5 i c s) ∧ Below lo w w' := by
  have him := hG.lt hx
  have hic : i < s.cells.length := by rw [hG.len]; exact him
  obtain ⟨hnn, h4, hle, h0⟩ := hG.at_ hx
  have hT0 := (hG.take i).1
  have hP := hnn.part 1
  obtain ⟨x, hy⟩ : ∃ x, c[0]? = some x := ⟨_, List.getElem?_eq_getElem (by omega)⟩
  obtain ⟨gC, cC, gR, c3, q1, q2, _, _, hrow, hcap, _⟩ := h.setAt hx hy
  obtain ⟨a, ha⟩ := Int.eq_ofNat_of_zero_le hP.1
  obtain ⟨b, hb⟩ := Int.eq_ofNat_of_zero_le hP.2.2.1
  have ha100 : a ≤ 100 := by omega
  have hb100 : b ≤ 100 := by omega
  have hpl : 0 ≤ tot (s.cells.take i) ∧ tot (s.cells.take i) ≤ 1000 := by omega
  have HM : Hid (crossTo 5 i c s = ⟨s.evs ++ crossEvs (tot (s.cells.take i)) (-1) a b, s.cells.set i (c.drop 1 ++ c.take 1)⟩) := Lib.hid (by
    unfold crossTo
    rw [if_neg (by decide), hlen]
    show (⟨s.evs ++ crossEvs (tot (s.cells.take i)) (-1) (sumI (c.take 1)).toNat (sumI (c.drop 1)).toNat, _⟩ : HS) = _
    rw [ha, hb]
    rfl)
  have CB : Hid (∀ q, Calls Try.prog 37 #[.pointer (some ⟨g, 0, none⟩), .int .i64 (i : Int)] (w.drewN q) fun e w' => e = .returned (.int .i64 (tot (s.cells.take i))) ∧ w.drewN q = w') :=
    Lib.hid (fun q => spec_before (h.drewN q) hG (by omega) hm i (by omega))
  have l1 : (c.take 1).length = 1 := by rw [List.length_take]; omega
  have l2 : (c.drop 1).length = 1 := by rw [List.length_drop]; omega
  have hrd : Ints w (some ⟨gR, 0 + 1, none⟩) (c.drop 1) := hrow.drop 1
  have C1 : Hid (∀ q, Calls Try.prog 29 #[.slice (some ⟨gR, 0, none⟩) 1 c3] (w.drewN q) fun e w' => e = .returned (.int .i64 (a : Int)) ∧ w.drewN q = w') :=
    Lib.hid (fun q => by
      have := spec_l17Sum (some ⟨gR, 0, none⟩) c3 (c.take 1) (w.drewN q) (hrow.take 1) (by omega)
      rw [l1, sum64_sumI (hnn.take 1) (by omega), ha] at this
      exact this)
  have C2 : Hid (∀ q, Calls Try.prog 29 #[.slice (some ⟨gR, 1, none⟩) 1 (c3 - 1)] (w.drewN q) fun e w' => e = .returned (.int .i64 (b : Int)) ∧ w.drewN q = w') :=
    Lib.hid (fun q => by
      have := spec_l17Sum (some ⟨gR, 1, none⟩) (c3 - 1) (c.drop 1) (w.drewN q) hrd (by omega)
      rw [l2, sum64_sumI (hnn.drop 1) (by omega), hb] at this
      exact this)
  have HX := Lib.hid hx
  have H0 := Lib.hid h
  have HCL := Lib.hid hlen
  rw [hlen] at hcap
  have u1 : (1 : Int) ≤ (c3 : Int) := by omega
  have u2 : (2 : Int) ≤ (c3 : Int) := by omega
  have u3 : ¬ c3 - 1 = 0 := by omega
  have v1 : 1 ≤ c3 := by omega
  have v2 : 0 < c3 := by omega
  have v3 : 2 ≤ c3 := by omega
  have v4 : ¬ c3 = 0 := by omega
  have v5 : ¬ c3 ≤ 1 := by omega
  have v6 : 1 < c3 := by omega
  have v7 : ¬ c3 = 1 := by omega
  have j1 : (0 : Int) ≤ (i : Int) := by omega
  have j3 : (i : Int) < (s.cells.length : Int) := by omega
  have hp100 : tot (s.cells.take i) ≤ 100 := by omega
  obtain ⟨_, _, _, _, _, curR, z1, z2, _, _, bR⟩ := h.two hx hy
  rw [q1] at z1
  injection z1 with z1
  injection z1 with z1 _ z1c
  injection z1 with z1
  injection z1 with z1
  subst z1 z1c
  rw [q2] at z2
  injection z2 with z2
  injection z2 with z2 _ z2c
  injection z2 with z2
  injection z2 with z2
  subst z2 z2c
  have HROW := Lib.hid hrow
  have BR := Lib.hid bR; clear bR
  generalize hpe : tot (s.cells.take i) = p at *
  have HPE := Lib.hid hpe; clear hpe
  rw [hlen] at q2
  have L1 := Lib.hid l1; have L2 := Lib.hid l2
  clear h hx hlen hnn ha hb hy l1 l2 hrd hrow hG
  go_enter Try.func34, Try.ntmps34
  go_wp2_with (fail)
  refine (spec_l17Sign 5 (by decide) w).mono ?_; rintro e _ ⟨rfl, rfl⟩
  rw [show signI 5 = (-1) from rfl]
  go_upto_region 4 with fail
  (refine wp_region_pops 0 (S := (fun _ => True)) (pre := ?_) (T := ?_) (n := ?_) (by kernel_rfl) (by kernel_rfl) ?_ ?_ ?_ ?_ (fun hHeld => ?_); rotate_left 3; (focus (simp only [pops]; rfl)); (focus (simp only [tailOf]; rfl)); (focus rfl); (focus (trivial)))
  ((refine wpAnyH_take (i := 0) (v := ?_) rfl (by kernel_rfl) (by kernel_rfl) (by kernel_rfl) (fun _ _ _ h => h) (Or.inl ⟨by rfl, ?_⟩) (by assumption) ?_; rotate_left; (focus (intro W hSw; (try dsimp only at hSw); go_simp; try (with_reducible rfl)))); (try simp only [List.getElem_toArray, List.getElem_cons_zero, Act.put, List.setIfInBounds_toArray, List.set_cons_zero, List.set_cons_succ]); (refine wpAnyH_take (i := 1) (v := ?_) rfl (by kernel_rfl) (by kernel_rfl) (by kernel_rfl) (fun _ _ _ h => h) (Or.inl ⟨by rfl, ?_⟩) (by assumption) ?_; rotate_left; (focus (intro W hSw; (try dsimp only at hSw); go_simp; try (with_reducible rfl)))); (try simp only [List.getElem_toArray, List.getElem_cons_zero, List.getElem_cons_succ, Act.put, List.setIfInBounds_toArray, List.set_cons_zero, List.set_cons_succ]); (refine wpAnyH_take (i := 3) (v := ?_) rfl (by kernel_rfl) (by kernel_rfl) (by kernel_rfl) (fun _ _ _ h => h) (Or.inl ⟨by rfl, ?_⟩) (by assumption) ?_; rotate_left; (focus (intro W hSw; (try dsimp only at hSw); go_simp; try (with_reducible rfl)))); (try simp only [List.getElem_toArray, List.getElem_cons_zero, List.getElem_cons_succ, Act.put, List.setIfInBounds_toArray, List.set_cons_zero, List.set_cons_succ]); (refine wpAnyH_take (i := 4) (v := ?_) rfl (by kernel_rfl) (by kernel_rfl) (by kernel_rfl) (fun _ _ _ h => h) (Or.inl ⟨by rfl, ?_⟩) (by assumption) ?_; rotate_left; (focus (intro W hSw; (try dsimp only at hSw); go_simp; try (with_reducible rfl)))); (try simp only [List.getElem_toArray, List.getElem_cons_zero, List.getElem_cons_succ, Act.put, List.setIfInBounds_toArray, List.set_cons_zero, List.set_cons_succ]); (refine wpAnyH_take (i := 5) (v := ?_) rfl (by kernel_rfl) (by kernel_rfl) (by kernel_rfl) (fun _ _ _ h => h) (Or.inl ⟨by rfl, ?_⟩) (by assumption) ?_; rotate_left; (focus (intro W hSw; (try dsimp only at hSw); go_simp; try (with_reducible rfl)))); (try simp only [List.getElem_toArray, List.getElem_cons_zero, List.getElem_cons_succ, Act.put, List.setIfInBounds_toArray, List.set_cons_zero, List.set_cons_succ]); (refine wpAnyH_take (i := 7) (v := ?_) rfl (by kernel_rfl) (by kernel_rfl) (by kernel_rfl) (fun _ _ _ h => h) (Or.inl ⟨by rfl, ?_⟩) (by assumption) ?_; rotate_left; (focus (intro W hSw; (try dsimp only at hSw); go_simp; try (with_reducible rfl)))); (try simp only [List.getElem_toArray, List.getElem_cons_zero, List.getElem_cons_succ, Act.put, List.setIfInBounds_toArray, List.set_cons_zero, List.set_cons_succ]); (refine wpAnyH_take (i := 8) (v := ?_) rfl (by kernel_rfl) (by kernel_rfl) (by kernel_rfl) (fun _ _ _ h => h) (Or.inl ⟨by rfl, ?_⟩) (by assumption) ?_; rotate_left; (focus (intro W hSw; (try dsimp only at hSw); go_simp; try (with_reducible rfl)))); (try simp only [List.getElem_toArray, List.getElem_cons_zero, List.getElem_cons_succ, Act.put, List.setIfInBounds_toArray, List.set_cons_zero, List.set_cons_succ]); (refine wpAnyH_take (i := 9) (v := ?_) rfl (by kernel_rfl) (by kernel_rfl) (by kernel_rfl) (fun _ _ _ h => h) (Or.inl ⟨by rfl, ?_⟩) (by assumption) ?_; rotate_left; (focus (intro W hSw; (try dsimp only at hSw); go_simp; try (with_reducible rfl)))); (try simp only [List.getElem_toArray, List.getElem_cons_zero, List.getElem_cons_succ, Act.put, List.setIfInBounds_toArray, List.set_cons_zero, List.set_cons_succ]); (refine wpAnyH_take (i := 11) (v := ?_) rfl (by kernel_rfl) (by kernel_rfl) (by kernel_rfl) (fun _ _ _ h => h) (Or.inl ⟨by rfl, ?_⟩) (by assumption) ?_; rotate_left; (focus (intro W hSw; (try dsimp only at hSw); go_simp; try (with_reducible rfl)))); (try simp only [List.getElem_toArray, List.getElem_cons_zero, List.getElem_cons_succ, Act.put, List.setIfInBounds_toArray, List.set_cons_zero, List.set_cons_succ]))
  (refine wpAnyH_ready (rs := [2]) (by kernel_rfl) (by simp) ?_; refine AllReadyH.cons rfl (fun K hK => ?_) AllReadyH.nil)
  go_simp
  refine (CB.out 1).mono ?_; rintro e _ ⟨rfl, rfl⟩
  refine hK.out _ _ trivial (fun hHeld => ?_)
  clear hK K
  (try simp only [List.getElem_toArray, List.getElem_cons_zero, List.getElem_cons_succ, Act.put, List.setIfInBounds_toArray, List.set_cons_zero, List.set_cons_succ])
  (refine wpAnyH_ready (rs := [6]) (by kernel_rfl) (by simp) ?_; refine AllReadyH.cons rfl (fun K hK => ?_) AllReadyH.nil)
  go_simp
  refine (C1.out 1).mono ?_; rintro e _ ⟨rfl, rfl⟩
  refine hK.out _ _ trivial (fun hHeld => ?_)
  clear hK K
  (try simp only [List.getElem_toArray, List.getElem_cons_zero, List.getElem_cons_succ, Act.put, List.setIfInBounds_toArray, List.set_cons_zero, List.set_cons_succ])
  (refine wpAnyH_ready (rs := [10]) (by kernel_rfl) (by simp) ?_; refine AllReadyH.cons rfl (fun K hK => ?_) AllReadyH.nil)
  go_simp
  refine (C2.out 1).mono ?_; rintro e _ ⟨rfl, rfl⟩
  refine hK.out _ _ trivial (fun hHeld => ?_)
  clear hK K
  (try simp only [List.getElem_toArray, List.getElem_cons_zero, List.getElem_cons_succ, Act.put, List.setIfInBounds_toArray, List.set_cons_zero, List.set_cons_succ])
  (refine wpAnyH_ready (rs := [12]) (by kernel_rfl) (by simp) ?_; refine AllReadyH.cons rfl (fun K hK => ?_) AllReadyH.nil)
  go_simp
  refine (spec_l03Swap p a b (-1) (w.drewN 1) (by decide) hpl ha100 hb100).mono ?_; rintro e w5 ⟨A5, c5, rfl, o5, b5⟩
  refine hK.out _ _ trivial (fun hHeld => ?_)
  clear hK K
  (try simp only [List.getElem_toArray, List.getElem_cons_zero, List.getElem_cons_succ, Act.put, List.setIfInBounds_toArray, List.set_cons_zero, List.set_cons_succ])
  ((refine wpAnyH_take (i := 13) (v := ?_) rfl (by kernel_rfl) (by kernel_rfl) (by kernel_rfl) (fun _ _ _ h => h) (Or.inl ⟨by rfl, ?_⟩) (by assumption) ?_; rotate_left; (focus (intro W hSw; (try dsimp only at hSw); go_simp; try (with_reducible rfl)))); (try simp only [List.getElem_toArray, List.getElem_cons_zero, List.getElem_cons_succ, Act.put, List.setIfInBounds_toArray, List.set_cons_zero, List.set_cons_succ]))
  (refine wpAnyH_done (by kernel_rfl) ?_ _; change wpList _ _ _ _ _ _)
  clear hHeld CB C1 C2
  have hb5 : Below w.heap.size w w5 := (below_drewN (Below.refl _ _) 1).trans b5
  have hlz0 := H0.out.lt
  have H5 : SHd z lo g w5 s := H0.out.below hb5
  have bR5 := BR.out.below hb5 BR.out.lt
  have hB5 : Below lo w w5 := hb5.mono hlz0
  have hz5 := hb5.size
  have HWD : Hid (∀ t y, (swTo p (-1) a b)[t]? = some y → ∃ x, p + 1 ≤ x ∧ x ≤ p + a + b ∧ y = (-1) * x ∧ (crossEvs p (-1) a b)[t]? = some (evCross (-1) x)) := Lib.hid (fun t y hy => cross_word hy)
  have hWl : (swTo p (-1) a b).length ≤ 10000 := by rw [swTo_length]; exact Nat.le_trans (Nat.mul_le_mul ha100 hb100) (by decide)
  have HWL : Hid ((crossEvs p (-1) a b).length = (swTo p (-1) a b).length) := Lib.hid (by rw [crossEvs_length, swTo_length])
  have o5' : OwnC w5 w.heap.size w5.heap.size 2 1 A5 (swTo p (-1) a b).length c5 ((swTo p (-1) a b).map (Value.int .i64)) := o5
  clear o5 b5 hb5
  generalize swTo p (-1) a b = Wd at *
  generalize crossEvs p (-1) a b = Ce at *
  obtain ⟨iE, ie0, iz0, iz1, iz2⟩ := info_parts info_Event
  go_wp2_with (fail)
  go_loopw [10] (fun kv wr => ∃ (t : Nat) (E : List EventD), t ≤ Wd.length ∧ kv = .int .i64 t ∧ Hid (E = s.evs ++ Ce.take t) ∧ E.length ≤ 50000 + t ∧ SHd z lo g wr ⟨E, s.cells⟩ ∧ OwnC wr w.heap.size w5.heap.size 2 1 A5 Wd.length c5 (Wd.map (Value.int .i64)) ∧ Blk wr gR 2 curR ∧ Below lo w wr) (fun kv _ => Wd.length - (intOf kv).toNat)
  case atStart => exact ⟨0, s.evs, Nat.zero_le _, rfl, Lib.hid (by simp), by omega, H5, o5', bR5, hB5⟩
  case round =>
    clear H5 o5' bR5 hB5
    obtain ⟨t, E, ht, rfl, HE, hEl, hst, ow, bRr, hbr⟩ := hrel
    by_cases htl : t < Wd.length
    · obtain ⟨gW, rfl, _, _, hcy, _⟩ := ow.cell (j := t) (by simpa using htl)
      obtain ⟨curW, bW, _, _⟩ := ow.blkEx
      obtain ⟨y, hy⟩ : ∃ y, Wd[t]? = some y := ⟨_, List.getElem?_eq_getElem htl⟩
      have hcy2 : wr.cell? ⟨gW, t, none⟩ = some (.int .i64 y) := by
        rw [hcy]
        rw [List.getElem?_eq_getElem htl] at hy
        injection hy with hy
        simp [hy]
      obtain ⟨x, hx1, hx2, hyx, hce⟩ := HWD.out t y hy
      have HAB : Hid (∀ W, Calls Try.prog 55 #[.int .i64 y] W fun e w' => e = .returned (.int .i64 x) ∧ W = w') := Lib.hid (fun W => by rw [hyx]; exact spec_abs_sign (-1) x (by decide) W (by omega) (by omega))
      have HCE : Hid (Ce.take (t + 1) = Ce.take t ++ [evCross (-1) x]) := Lib.hid (take_snoc hce)
      obtain ⟨⟨AE, cE, AC, cC2, hk, ho, hc⟩, hlo⟩ := hst
      dsimp only at hk ho hc
      have p0 := hk.c2.1
      have hwz := hk.lt
      have wx : IntKind.i64.wrap (x - 1) = x - 1 := IntWalk.i64_in _ ⟨by omega, by omega⟩
      have dk : decide ((t : Int) < (Wd.length : Int)) = true := decide_eq_true (by omega)
      have j4 : (0 : Int) ≤ (t : Int) := by omega
      have j5 : (t : Int) < (Wd.length : Int) := by omega
      clear hcy hy hyx hce
      go_upto_region 8 with fail
      (refine wp_region_pops 3 (S := (fun W' => W'.cell? ⟨g, 0, none⟩ = some (.slice AE E.length cE) ∧ W'.cell? ⟨gW, t, none⟩ = some (.int .i64 y))) (pre := ?_) (T := ?_) (n := ?_) (by kernel_rfl) (by kernel_rfl) ?_ ?_ ?_ ?_ (fun hHeld => ?_); rotate_left 3; (focus (simp only [pops, List.pop_toArray, List.dropLast_cons_cons, List.dropLast_singleton]; rfl)); (focus (simp only [tailOf, List.pop_toArray, List.dropLast_cons_cons, List.dropLast_singleton, List.back?_toArray, List.getLast?_cons_cons, List.getLast?_singleton, Option.toList_some, List.nil_append, List.cons_append]; rfl)); (focus rfl); (focus (exact ⟨p0, hcy2⟩)))
      ((refine wpAnyH_take (i := 0) (v := ?_) rfl (by kernel_rfl) (by kernel_rfl) (by kernel_rfl) (fun _ _ _ h => h) (Or.inl ⟨by rfl, ?_⟩) (by assumption) ?_; rotate_left; (focus (intro W hSw; (try dsimp only at hSw); go_simp; try (with_reducible rfl)))); (try simp only [List.getElem_toArray, List.getElem_cons_zero, Act.put, List.setIfInBounds_toArray, List.set_cons_zero, List.set_cons_succ]); (refine wpAnyH_take (i := 1) (v := ?_) rfl (by kernel_rfl) (by kernel_rfl) (by kernel_rfl) (fun _ _ _ h => h) (Or.inl ⟨by rfl, ?_⟩) (by assumption) ?_; rotate_left; (focus (intro W hSw; (try dsimp only at hSw); go_simp; try (with_reducible rfl)))); (try simp only [List.getElem_toArray, List.getElem_cons_zero, List.getElem_cons_succ, Act.put, List.setIfInBounds_toArray, List.set_cons_zero, List.set_cons_succ]); (refine wpAnyH_take (i := 2) (v := ?_) rfl (by kernel_rfl) (by kernel_rfl) (by kernel_rfl) (fun _ _ _ h => h) (Or.inl ⟨by rfl, ?_⟩) (by assumption) ?_; rotate_left; (focus (intro W hSw; (try dsimp only at hSw); go_simp; try (with_reducible rfl)))); (try simp only [List.getElem_toArray, List.getElem_cons_zero, List.getElem_cons_succ, Act.put, List.setIfInBounds_toArray, List.set_cons_zero, List.set_cons_succ]); (refine wpAnyH_take (i := 3) (v := ?_) rfl (by kernel_rfl) (by kernel_rfl) (by kernel_rfl) (fun _ _ _ h => h) (Or.inl ⟨by rfl, ?_⟩) (by assumption) ?_; rotate_left; (focus (intro W hSw; (try dsimp only at hSw); go_simp; try (with_reducible rfl)))); (try simp only [List.getElem_toArray, List.getElem_cons_zero, List.getElem_cons_succ, Act.put, List.setIfInBounds_toArray, List.set_cons_zero, List.set_cons_succ]); (refine wpAnyH_take (i := 4) (v := ?_) rfl (by kernel_rfl) (by kernel_rfl) (by kernel_rfl) (fun _ _ _ h => h) (Or.inl ⟨by rfl, ?_⟩) (by assumption) ?_; rotate_left; (focus (intro W hSw; (try dsimp only at hSw); go_simp; try (with_reducible rfl)))); (try simp only [List.getElem_toArray, List.getElem_cons_zero, List.getElem_cons_succ, Act.put, List.setIfInBounds_toArray, List.set_cons_zero, List.set_cons_succ]); (refine wpAnyH_take (i := 5) (v := ?_) rfl (by kernel_rfl) (by kernel_rfl) (by kernel_rfl) (fun _ _ _ h => h) (Or.inl ⟨by rfl, ?_⟩) (by assumption) ?_; rotate_left; (focus (intro W hSw; (try dsimp only at hSw); go_simp; try (with_reducible rfl)))); (try simp only [List.getElem_toArray, List.getElem_cons_zero, List.getElem_cons_succ, Act.put, List.setIfInBounds_toArray, List.set_cons_zero, List.set_cons_succ]); (refine wpAnyH_take (i := 6) (v := ?_) rfl (by kernel_rfl) (by kernel_rfl) (by kernel_rfl) (fun _ _ _ h => h) (Or.inl ⟨by rfl, ?_⟩) (by assumption) ?_; rotate_left; (focus (intro W hSw; (try dsimp only at hSw); go_simp; try (with_reducible rfl)))); (try simp only [List.getElem_toArray, List.getElem_cons_zero, List.getElem_cons_succ, Act.put, List.setIfInBounds_toArray, List.set_cons_zero, List.set_cons_succ]); (refine wpAnyH_take (i := 7) (v := ?_) rfl (by kernel_rfl) (by kernel_rfl) (by kernel_rfl) (fun _ _ _ h => h) (Or.inl ⟨by rfl, ?_⟩) (by assumption) ?_; rotate_left; (focus (intro W hSw; (try dsimp only at hSw); go_simp; try (with_reducible rfl)))); (try simp only [List.getElem_toArray, List.getElem_cons_zero, List.getElem_cons_succ, Act.put, List.setIfInBounds_toArray, List.set_cons_zero, List.set_cons_succ]); (refine wpAnyH_take (i := 8) (v := ?_) rfl (by kernel_rfl) (by kernel_rfl) (by kernel_rfl) (fun _ _ _ h => h) (Or.inl ⟨by rfl, ?_⟩) (by assumption) ?_; rotate_left; (focus (intro W hSw; (try dsimp only at hSw); go_simp; try (with_reducible rfl)))); (try simp only [List.getElem_toArray, List.getElem_cons_zero, List.getElem_cons_succ, Act.put, List.setIfInBounds_toArray, List.set_cons_zero, List.set_cons_succ]); (refine wpAnyH_take (i := 11) (v := ?_) rfl (by kernel_rfl) (by kernel_rfl) (by kernel_rfl) (fun _ _ _ h => h) (Or.inl ⟨by rfl, ?_⟩) (by assumption) ?_; rotate_left; (focus (intro W hSw; (try dsimp only at hSw); go_simp; try (with_reducible rfl)))); (try simp only [List.getElem_toArray, List.getElem_cons_zero, List.getElem_cons_succ, Act.put, List.setIfInBounds_toArray, List.set_cons_zero, List.set_cons_succ]))
      (refine wpAnyH_ready (rs := [9]) (by kernel_rfl) (by simp) ?_; refine AllReadyH.cons rfl (fun K hK => ?_) AllReadyH.nil)
      go_simp
      refine (HAB.out _).mono ?_; rintro e _ ⟨rfl, rfl⟩
      refine hK.out _ _ ⟨p0, hcy2⟩ (fun hHeld => ?_)
      clear hK K
      (try simp only [List.getElem_toArray, List.getElem_cons_zero, List.getElem_cons_succ, Act.put, List.setIfInBounds_toArray, List.set_cons_zero, List.set_cons_succ])
      ((refine wpAnyH_take (i := 10) (v := ?_) rfl (by kernel_rfl) (by kernel_rfl) (by kernel_rfl) (fun _ _ _ h => h) (Or.inl ⟨by rfl, ?_⟩) (by assumption) ?_; rotate_left; (focus (intro W hSw; (try dsimp only at hSw); go_simp; try (with_reducible rfl)))); (try simp only [List.getElem_toArray, List.getElem_cons_zero, List.getElem_cons_succ, Act.put, List.setIfInBounds_toArray, List.set_cons_zero, List.set_cons_succ]); (refine wpAnyH_take (i := 12) (v := ?_) rfl (by kernel_rfl) (by kernel_rfl) (by kernel_rfl) (fun _ _ _ h => h) (Or.inl ⟨by rfl, ?_⟩) (by assumption) ?_; rotate_left; (focus (intro W hSw; (try dsimp only at hSw); go_simp; try (with_reducible rfl)))); (try simp only [List.getElem_toArray, List.getElem_cons_zero, List.getElem_cons_succ, Act.put, List.setIfInBounds_toArray, List.set_cons_zero, List.set_cons_succ]))
      (refine wpAnyH_ready (rs := [13]) (by kernel_rfl) (by simp) ?_; refine AllReadyH.cons rfl (fun K hK => ?_) AllReadyH.nil)
      go_simp
      refine hK.out _ _ ⟨(hk.drew1.alloc _).c2.1, cell_alloc (show (World.drew wr).cell? ⟨gW, t, none⟩ = _ from hcy2) _⟩ (fun hHeld => ?_)
      clear hK K
      (try simp only [List.getElem_toArray, List.getElem_cons_zero, List.getElem_cons_succ, Act.put, List.setIfInBounds_toArray, List.set_cons_zero, List.set_cons_succ])
      have hlz : lo ≤ ((World.drew wr).alloc (.cells #[.int .i64 1, .int .i64 (x - 1), .int .i64 (-1), .int .i64 0, .int .i64 0, .int .i64 0] 49)).heap.size := by have e : (World.drew wr).heap.size = wr.heap.size := rfl; rw [World.size_alloc, e]; omega
      have olit := OwnC.news (OwnC.lit (w := World.drew wr) (lo := lo) (n := 1) 49 6 #[.int .i64 1, .int .i64 (x - 1), .int .i64 (-1), .int .i64 0, .int .i64 0, .int .i64 0] (by have e : (World.drew wr).heap.size = wr.heap.size := rfl; omega) (by decide) rfl)
      (refine wpAnyH_ready (rs := [14]) (by kernel_rfl) (by simp) ?_; refine AllReadyH.cons rfl (fun K hK => ?_) AllReadyH.nil)
      refine wp_appendC_at ((World.drew wr).alloc (.cells #[.int .i64 1, .int .i64 (x - 1), .int .i64 (-1), .int .i64 0, .int .i64 0, .int .i64 0] 49)) (.tmp 48) (.tmp 57) _ rfl 49 iE _ 6 48 Try.underlying26 ie0 iz0 iz1 iz2 rfl (by decide) (by simp [Act.eval]) ((OwnC.drew1 ho).alloc _) hlz (some ⟨wr.heap.size, 0, none⟩) 1 1 [.int .i64 1, .int .i64 (x - 1), .int .i64 (-1), .int .i64 0, .int .i64 0, .int .i64 0] (by simp [Act.eval]) (by simp) olit (by simp [Value.oneCell']) (by unfold maxLen; omega) (by omega) ?_
      intro A9 c9 w8 ho8 hg8 hb8 _
      obtain ⟨hk8, hS8, hB8, hX8⟩ := SHd.push (e := evCross (-1) x) hk ho hc hlo ho8 hg8 hb8
      refine hK.out _ _ ⟨hk8.c2.1, cell_blk bW (hX8 _ _ _ (by decide) (by decide) bW).1 t hcy2⟩ (fun hHeld => ?_)
      clear hK K
      (try simp only [List.getElem_toArray, List.getElem_cons_zero, List.getElem_cons_succ, Act.put, List.setIfInBounds_toArray, List.set_cons_zero, List.set_cons_succ])
      (refine wpAnyH_done (by kernel_rfl) ?_ _; change wpList _ _ _ _ _ _)
      clear hHeld
      obtain ⟨y0, y1⟩ := hk8.c2
      have y2 := hk8.frozen 0
      have how := ow.keepT (w' := w8.setCell ⟨g, 0, none⟩ (.slice A9 (E.length + 1) c9)) (fun k cur _ _ hkk => ((hX8 k 2 cur (by decide) (by decide) hkk).2).trans hkk.symm)
      have hRr := (hX8 _ _ _ (by decide) (by decide) bRr).2
      have HS8 := Lib.hid hS8; clear hS8
      have HOW := Lib.hid how; clear how
      have HRR := Lib.hid hRr; clear hRr
      have HB8 := Lib.hid hB8; clear hB8
      clear hX8 ho8 hg8 hb8 olit hlz hk8
      go_wp2_with (fail)
      exact ⟨⟨t + 1, E ++ [evCross (-1) x], by omega, by go_num, Lib.hid (by rw [HCE.out, HE.out, List.append_assoc]), by simp; omega, HS8.out, HOW.out, HRR.out, hbr.trans HB8.out⟩, by first | (simp [intOf]; done) | (simp [intOf]; omega)⟩
    · obtain rfl : t = Wd.length := by omega
      have dk : decide ((Wd.length : Int) < (Wd.length : Int)) = false := decide_eq_false (by omega)
      have hrw : Ints wr (some ⟨gR, 0, none⟩) c := HROW.out.blk BR.out bRr
      obtain ⟨AC, cC3, p1, hi2⟩ := hst.read
      obtain ⟨b9, off9, _, _, _, rfl, _, _, _, _⟩ := hi2 i hic
      dsimp only at p1
      have hzr := hst.lt
      have CO : Hid (Calls Try.prog 56 #[.slice (some ⟨gR, 1, none⟩) 1 (c3 - 1)] (wr.drewN 1) fun e w' => ∃ A' c', e = .returned (.slice A' 1 c') ∧ OwnC w' wr.heap.size w'.heap.size 2 1 A' 1 c' ((c.drop 1).map (Value.int .i64)) ∧ Below wr.heap.size wr w') := Lib.hid (by
        have hrd : Ints wr (some ⟨gR, 0 + 1, none⟩) (c.drop 1) := hrw.drop 1
        have := spec_l00Own (some ⟨gR, 1, none⟩) (c3 - 1) (c.drop 1) (wr.drewN 1) hrd (by rw [L2.out]; decide)
        rw [L2.out] at this
        refine this.mono ?_
        rintro e w' ⟨A', c', h1, h2, h3⟩
        refine ⟨A', c', h1, ?_, (below_drewN (Below.refl _ _) 1).trans h3⟩
        have h2' : OwnC w' wr.heap.size w'.heap.size 2 1 A' (c.drop 1).length c' ((c.drop 1).map (Value.int .i64)) := h2
        rw [L2.out] at h2'
        exact h2')
      obtain ⟨i0, hi0, hz0, hz1, hz2⟩ := info_parts info_int64
      have HST := Lib.hid hst
      clear hi2 hst
      go_upto_region 9 with fail
      (refine wp_region_pops 2 (S := (fun W' => W'.cell? ⟨g, 1, none⟩ = some (.slice (some ⟨b9, off9, none⟩) s.cells.length cC3))) (pre := ?_) (T := ?_) (n := ?_) (by kernel_rfl) (by kernel_rfl) ?_ ?_ ?_ ?_ (fun hHeld => ?_); rotate_left 3; (focus (simp only [pops, List.pop_toArray, List.dropLast_cons_cons, List.dropLast_singleton]; rfl)); (focus (simp only [tailOf, List.pop_toArray, List.dropLast_cons_cons, List.dropLast_singleton, List.back?_toArray, List.getLast?_cons_cons, List.getLast?_singleton, Option.toList_some, List.nil_append, List.cons_append]; rfl)); (focus rfl); (focus (exact p1)))
      ((refine wpAnyH_take (i := 0) (v := ?_) rfl (by kernel_rfl) (by kernel_rfl) (by kernel_rfl) (fun _ _ _ h => h) (Or.inl ⟨by rfl, ?_⟩) (by assumption) ?_; rotate_left; (focus (intro W hSw; (try dsimp only at hSw); go_simp; try (with_reducible rfl)))); (try simp only [List.getElem_toArray, List.getElem_cons_zero, Act.put, List.setIfInBounds_toArray, List.set_cons_zero, List.set_cons_succ]); (refine wpAnyH_take (i := 1) (v := ?_) rfl (by kernel_rfl) (by kernel_rfl) (by kernel_rfl) (fun _ _ _ h => h) (Or.inl ⟨by rfl, ?_⟩) (by assumption) ?_; rotate_left; (focus (intro W hSw; (try dsimp only at hSw); go_simp; try (with_reducible rfl)))); (try simp only [List.getElem_toArray, List.getElem_cons_zero, List.getElem_cons_succ, Act.put, List.setIfInBounds_toArray, List.set_cons_zero, List.set_cons_succ]); (refine wpAnyH_take (i := 2) (v := ?_) rfl (by kernel_rfl) (by kernel_rfl) (by kernel_rfl) (fun _ _ _ h => h) (Or.inl ⟨by rfl, ?_⟩) (by assumption) ?_; rotate_left; (focus (intro W hSw; (try dsimp only at hSw); go_simp; try (with_reducible rfl)))); (try simp only [List.getElem_toArray, List.getElem_cons_zero, List.getElem_cons_succ, Act.put, List.setIfInBounds_toArray, List.set_cons_zero, List.set_cons_succ]); (refine wpAnyH_take (i := 3) (v := ?_) rfl (by kernel_rfl) (by kernel_rfl) (by kernel_rfl) (fun _ _ _ h => h) (Or.inl ⟨by rfl, ?_⟩) (by assumption) ?_; rotate_left; (focus (intro W hSw; (try dsimp only at hSw); go_simp; try (with_reducible rfl)))); (try simp only [List.getElem_toArray, List.getElem_cons_zero, List.getElem_cons_succ, Act.put, List.setIfInBounds_toArray, List.set_cons_zero, List.set_cons_succ]); (refine wpAnyH_take (i := 4) (v := ?_) rfl (by kernel_rfl) (by kernel_rfl) (by kernel_rfl) (fun _ _ _ h => h) (Or.inl ⟨by rfl, ?_⟩) (by assumption) ?_; rotate_left; (focus (intro W hSw; (try dsimp only at hSw); go_simp; try (with_reducible rfl)))); (try simp only [List.getElem_toArray, List.getElem_cons_zero, List.getElem_cons_succ, Act.put, List.setIfInBounds_toArray, List.set_cons_zero, List.set_cons_succ]); (refine wpAnyH_take (i := 5) (v := ?_) rfl (by kernel_rfl) (by kernel_rfl) (by kernel_rfl) (fun _ _ _ h => h) (Or.inl ⟨by rfl, ?_⟩) (by assumption) ?_; rotate_left; (focus (intro W hSw; (try dsimp only at hSw); go_simp; try (with_reducible rfl)))); (try simp only [List.getElem_toArray, List.getElem_cons_zero, List.getElem_cons_succ, Act.put, List.setIfInBounds_toArray, List.set_cons_zero, List.set_cons_succ]); (refine wpAnyH_take (i := 6) (v := ?_) rfl (by kernel_rfl) (by kernel_rfl) (by kernel_rfl) (fun _ _ _ h => h) (Or.inl ⟨by rfl, ?_⟩) (by assumption) ?_; rotate_left; (focus (intro W hSw; (try dsimp only at hSw); go_simp; try (with_reducible rfl)))); (try simp only [List.getElem_toArray, List.getElem_cons_zero, List.getElem_cons_succ, Act.put, List.setIfInBounds_toArray, List.set_cons_zero, List.set_cons_succ]); (refine wpAnyH_take (i := 7) (v := ?_) rfl (by kernel_rfl) (by kernel_rfl) (by kernel_rfl) (fun _ _ _ h => h) (Or.inl ⟨by rfl, ?_⟩) (by assumption) ?_; rotate_left; (focus (intro W hSw; (try dsimp only at hSw); go_simp; try (with_reducible rfl)))); (try simp only [List.getElem_toArray, List.getElem_cons_zero, List.getElem_cons_succ, Act.put, List.setIfInBounds_toArray, List.set_cons_zero, List.set_cons_succ]); (refine wpAnyH_take (i := 9) (v := ?_) rfl (by kernel_rfl) (by kernel_rfl) (by kernel_rfl) (fun _ _ _ h => h) (Or.inl ⟨by rfl, ?_⟩) (by assumption) ?_; rotate_left; (focus (intro W hSw; (try dsimp only at hSw); go_simp; try (with_reducible rfl)))); (try simp only [List.getElem_toArray, List.getElem_cons_zero, List.getElem_cons_succ, Act.put, List.setIfInBounds_toArray, List.set_cons_zero, List.set_cons_succ]); (refine wpAnyH_take (i := 10) (v := ?_) rfl (by kernel_rfl) (by kernel_rfl) (by kernel_rfl) (fun _ _ _ h => h) (Or.inl ⟨by rfl, ?_⟩) (by assumption) ?_; rotate_left; (focus (intro W hSw; (try dsimp only at hSw); go_simp; try (with_reducible rfl)))); (try simp only [List.getElem_toArray, List.getElem_cons_zero, List.getElem_cons_succ, Act.put, List.setIfInBounds_toArray, List.set_cons_zero, List.set_cons_succ]); (refine wpAnyH_take (i := 11) (v := ?_) rfl (by kernel_rfl) (by kernel_rfl) (by kernel_rfl) (fun _ _ _ h => h) (Or.inl ⟨by rfl, ?_⟩) (by assumption) ?_; rotate_left; (focus (intro W hSw; (try dsimp only at hSw); go_simp; try (with_reducible rfl)))); (try simp only [List.getElem_toArray, List.getElem_cons_zero, List.getElem_cons_succ, Act.put, List.setIfInBounds_toArray, List.set_cons_zero, List.set_cons_succ]))
      (refine wpAnyH_ready (rs := [8]) (by kernel_rfl) (by simp) ?_; refine AllReadyH.cons rfl (fun K hK => ?_) AllReadyH.nil)
      go_simp
      refine CO.out.mono ?_; rintro e w6 ⟨A6, c6, rfl, o6, b6⟩
      refine hK.out _ _ (cells_below b6 _ _ p1) (fun hHeld => ?_)
      clear hK K
      (try simp only [List.getElem_toArray, List.getElem_cons_zero, List.getElem_cons_succ, Act.put, List.setIfInBounds_toArray, List.set_cons_zero, List.set_cons_succ])
      have hlz6 := b6.size
      have hr6 := (hrw.below b6).take 1
      have L1' := Lib.hid (show ((c.take 1).map (Value.int .i64)).length = 1 * 1 by rw [List.length_map, L1.out])
      (refine wpAnyH_ready (rs := [12]) (by kernel_rfl) (by simp) ?_; refine AllReadyH.cons rfl (fun K hK => ?_) AllReadyH.nil)
      refine wp_appendC_at w6 (.tmp 69) (.tmp 72) _ rfl 2 i0 _ 1 8 Try.underlying22 hi0 hz0 hz1 hz2 rfl (by decide) (by simp [Act.eval]) o6 hlz6 (some ⟨gR, 0, none⟩) 1 c3 ((c.take 1).map (Value.int .i64)) (by simp [Act.eval]) L1'.out hr6.newsM (fun u hu => by obtain ⟨z, _, rfl⟩ := List.mem_map.1 hu; rfl) (by unfold maxLen; omega) (by omega) ?_
      intro A7 c7 w7 ho7 hg7 hb7 _
      have hb67 : Below wr.heap.size wr w7 := b6.trans hb7
      refine hK.out _ _ (cells_below hb67 _ _ p1) (fun hHeld => ?_)
      clear hK K
      (try simp only [List.getElem_toArray, List.getElem_cons_zero, List.getElem_cons_succ, Act.put, List.setIfInBounds_toArray, List.set_cons_zero, List.set_cons_succ])
      (refine wpAnyH_done (by kernel_rfl) ?_ _; change wpList _ _ _ _ _ _)
      clear hHeld
      have hrl : (c.drop 1 ++ c.take 1).length = 1 + 1 := by rw [List.length_append, L1.out, L2.out]
      have ho7' : OwnI w7 wr.heap.size w7.heap.size A7 c7 (c.drop 1 ++ c.take 1) := by
        show OwnC _ _ _ _ _ _ _ _ _
        rw [hrl, List.map_append]
        exact ho7
      obtain ⟨gC4, cC4, y1, ⟨v, y2⟩, y3, hs3, hb3⟩ := HST.out.setRow (i := i) hic hb67 ho7'
      rw [hrl] at hs3 hb3
      dsimp only at y1
      rw [p1] at y1
      injection y1 with y1
      injection y1 with y1 _ y1c
      injection y1 with y1
      injection y1 with y1 y1b
      subst y1 y1b y1c
      have HS3 := Lib.hid hs3; clear hs3
      have HB3 := Lib.hid hb3; clear hb3
      clear CO o6 b6 hr6 ho7 hg7 hb7 ho7' hrl hb67 p1 hrw
      go_wp2_with (fail)
      go_end0
      rw [HM.out]
      have hE : E = s.evs ++ Ce := by rw [HE.out, ← HWL.out, List.take_of_length_le (Nat.le_refl _)]
      rw [← hE]
      exact ⟨rfl, HS3.out, hbr.trans HB3.out⟩

set_option maxHeartbeats 4000000 in
set_option maxRecDepth 10000 in
theorem spec_cross_8 {z : Option (Nat × Array Value)} {lo g m : Nat} {s : HS} {S : Int} {w : World} (h : SHd z lo g w s) (hG : GoodC m s.cells S) (hS : S ≤ 100) (hm : m ≤ 16) {i : Nat} {c : List Int} (hx : s.cells[i]? = some c) (hlen : c.length = 2) (hl : s.evs.length ≤ 50000) :
    Calls Try.prog 34 #[.pointer (some ⟨g, 0, none⟩), .int .i64 (i : Int), .int .i64 8] w fun e w' =>
      e = .returned (.tuple #[]) ∧ SHd z lo g w' (crossTo 8 i c s) ∧ Below lo w w' := by
  have him := hG.lt hx
  have hic : i < s.cells.length := by rw [hG.len]; exact him
  obtain ⟨hnn, h4, hle, h0⟩ := hG.at_ hx
  have hT0 := (hG.take i).1
  have hP := hnn.part 1
  obtain ⟨x, hy⟩ : ∃ x, c[0]? = some x := ⟨_, List.getElem?_eq_getElem (by omega)⟩
  obtain ⟨gC, cC, gR, c3, q1, q2, _, _, hrow, hcap, _⟩ := h.setAt hx hy
  obtain ⟨a, ha⟩ := Int.eq_ofNat_of_zero_le hP.1
  obtain ⟨b, hb⟩ := Int.eq_ofNat_of_zero_le hP.2.2.1
  have ha100 : a ≤ 100 := by omega
  have hb100 : b ≤ 100 := by omega
  have hpl : 0 ≤ tot (s.cells.take i) ∧ tot (s.cells.take i) ≤ 1000 := by omega
  have HM : Hid (crossTo 8 i c s = ⟨s.evs ++ crossEvs (tot (s.cells.take i)) 1 a b, s.cells.set i (c.drop 1 ++ c.take 1)⟩) := Lib.hid (by
    unfold crossTo
    rw [if_neg (by decide), hlen]
    show (⟨s.evs ++ crossEvs (tot (s.cells.take i)) 1 (sumI (c.take 1)).toNat (sumI (c.drop 1)).toNat, _⟩ : HS) = _
    rw [ha, hb]
    rfl)
  have CB : Hid (∀ q, Calls Try.prog 37 #[.pointer (some ⟨g, 0, none⟩), .int .i64 (i : Int)] (w.drewN q) fun e w' => e = .returned (.int .i64 (tot (s.cells.take i))) ∧ w.drewN q = w') :=
    Lib.hid (fun q => spec_before (h.drewN q) hG (by omega) hm i (by omega))
  have l1 : (c.take 1).length = 1 := by rw [List.length_take]; omega
  have l2 : (c.drop 1).length = 1 := by rw [List.length_drop]; omega
  have hrd : Ints w (some ⟨gR, 0 + 1, none⟩) (c.drop 1) := hrow.drop 1
  have C1 : Hid (∀ q, Calls Try.prog 29 #[.slice (some ⟨gR, 0, none⟩) 1 c3] (w.drewN q) fun e w' => e = .returned (.int .i64 (a : Int)) ∧ w.drewN q = w') :=
    Lib.hid (fun q => by
      have := spec_l17Sum (some ⟨gR, 0, none⟩) c3 (c.take 1) (w.drewN q) (hrow.take 1) (by omega)
      rw [l1, sum64_sumI (hnn.take 1) (by omega), ha] at this
      exact this)
  have C2 : Hid (∀ q, Calls Try.prog 29 #[.slice (some ⟨gR, 1, none⟩) 1 (c3 - 1)] (w.drewN q) fun e w' => e = .returned (.int .i64 (b : Int)) ∧ w.drewN q = w') :=
    Lib.hid (fun q => by
      have := spec_l17Sum (some ⟨gR, 1, none⟩) (c3 - 1) (c.drop 1) (w.drewN q) hrd (by omega)
      rw [l2, sum64_sumI (hnn.drop 1) (by omega), hb] at this
      exact this)
  have HX := Lib.hid hx
  have H0 := Lib.hid h
  have HCL := Lib.hid hlen
  rw [hlen] at hcap
  have u1 : (1 : Int) ≤ (c3 : Int) := by omega
  have u2 : (2 : Int) ≤ (c3 : Int) := by omega
  have u3 : ¬ c3 - 1 = 0 := by omega
  have v1 : 1 ≤ c3 := by omega
  have v2 : 0 < c3 := by omega
  have v3 : 2 ≤ c3 := by omega
  have v4 : ¬ c3 = 0 := by omega
  have v5 : ¬ c3 ≤ 1 := by omega
  have v6 : 1 < c3 := by omega
  have v7 : ¬ c3 = 1 := by omega
  have j1 : (0 : Int) ≤ (i : Int) := by omega
  have j3 : (i : Int) < (s.cells.length : Int) := by omega
  have hp100 : tot (s.cells.take i) ≤ 100 := by omega
  obtain ⟨_, _, _, _, _, curR, z1, z2, _, _, bR⟩ := h.two hx hy
  rw [q1] at z1
  injection z1 with z1
  injection z1 with z1 _ z1c
  injection z1 with z1
  injection z1 with z1
  subst z1 z1c
  rw [q2] at z2
  injection z2 with z2
  injection z2 with z2 _ z2c
  injection z2 with z2
  injection z2 with z2
  subst z2 z2c
  have HROW := Lib.hid hrow
  have BR := Lib.hid bR; clear bR
  generalize hpe : tot (s.cells.take i) = p at *
  have HPE := Lib.hid hpe; clear hpe
  rw [hlen] at q2
  have L1 := Lib.hid l1; have L2 := Lib.hid l2
  clear h hx hlen hnn ha hb hy l1 l2 hrd hrow hG
  go_enter Try.func34, Try.ntmps34
  go_wp2_with (fail)
  refine (spec_l17Sign 8 (by decide) w).mono ?_; rintro e _ ⟨rfl, rfl⟩
  rw [show signI 8 = 1 from rfl]
  go_upto_region 4 with fail
  (refine wp_region_pops 0 (S := (fun _ => True)) (pre := ?_) (T := ?_) (n := ?_) (by kernel_rfl) (by kernel_rfl) ?_ ?_ ?_ ?_ (fun hHeld => ?_); rotate_left 3; (focus (simp only [pops]; rfl)); (focus (simp only [tailOf]; rfl)); (focus rfl); (focus (trivial)))
  ((refine wpAnyH_take (i := 0) (v := ?_) rfl (by kernel_rfl) (by kernel_rfl) (by kernel_rfl) (fun _ _ _ h => h) (Or.inl ⟨by rfl, ?_⟩) (by assumption) ?_; rotate_left; (focus (intro W hSw; (try dsimp only at hSw); go_simp; try (with_reducible rfl)))); (try simp only [List.getElem_toArray, List.getElem_cons_zero, Act.put, List.setIfInBounds_toArray, List.set_cons_zero, List.set_cons_succ]); (refine wpAnyH_take (i := 1) (v := ?_) rfl (by kernel_rfl) (by kernel_rfl) (by kernel_rfl) (fun _ _ _ h => h) (Or.inl ⟨by rfl, ?_⟩) (by assumption) ?_; rotate_left; (focus (intro W hSw; (try dsimp only at hSw); go_simp; try (with_reducible rfl)))); (try simp only [List.getElem_toArray, List.getElem_cons_zero, List.getElem_cons_succ, Act.put, List.setIfInBounds_toArray, List.set_cons_zero, List.set_cons_succ]); (refine wpAnyH_take (i := 3) (v := ?_) rfl (by kernel_rfl) (by kernel_rfl) (by kernel_rfl) (fun _ _ _ h => h) (Or.inl ⟨by rfl, ?_⟩) (by assumption) ?_; rotate_left; (focus (intro W hSw; (try dsimp only at hSw); go_simp; try (with_reducible rfl)))); (try simp only [List.getElem_toArray, List.getElem_cons_zero, List.getElem_cons_succ, Act.put, List.setIfInBounds_toArray, List.set_cons_zero, List.set_cons_succ]); (refine wpAnyH_take (i := 4) (v := ?_) rfl (by kernel_rfl) (by kernel_rfl) (by kernel_rfl) (fun _ _ _ h => h) (Or.inl ⟨by rfl, ?_⟩) (by assumption) ?_; rotate_left; (focus (intro W hSw; (try dsimp only at hSw); go_simp; try (with_reducible rfl)))); (try simp only [List.getElem_toArray, List.getElem_cons_zero, List.getElem_cons_succ, Act.put, List.setIfInBounds_toArray, List.set_cons_zero, List.set_cons_succ]); (refine wpAnyH_take (i := 5) (v := ?_) rfl (by kernel_rfl) (by kernel_rfl) (by kernel_rfl) (fun _ _ _ h => h) (Or.inl ⟨by rfl, ?_⟩) (by assumption) ?_; rotate_left; (focus (intro W hSw; (try dsimp only at hSw); go_simp; try (with_reducible rfl)))); (try simp only [List.getElem_toArray, List.getElem_cons_zero, List.getElem_cons_succ, Act.put, List.setIfInBounds_toArray, List.set_cons_zero, List.set_cons_succ]); (refine wpAnyH_take (i := 7) (v := ?_) rfl (by kernel_rfl) (by kernel_rfl) (by kernel_rfl) (fun _ _ _ h => h) (Or.inl ⟨by rfl, ?_⟩) (by assumption) ?_; rotate_left; (focus (intro W hSw; (try dsimp only at hSw); go_simp; try (with_reducible rfl)))); (try simp only [List.getElem_toArray, List.getElem_cons_zero, List.getElem_cons_succ, Act.put, List.setIfInBounds_toArray, List.set_cons_zero, List.set_cons_succ]); (refine wpAnyH_take (i := 8) (v := ?_) rfl (by kernel_rfl) (by kernel_rfl) (by kernel_rfl) (fun _ _ _ h => h) (Or.inl ⟨by rfl, ?_⟩) (by assumption) ?_; rotate_left; (focus (intro W hSw; (try dsimp only at hSw); go_simp; try (with_reducible rfl)))); (try simp only [List.getElem_toArray, List.getElem_cons_zero, List.getElem_cons_succ, Act.put, List.setIfInBounds_toArray, List.set_cons_zero, List.set_cons_succ]); (refine wpAnyH_take (i := 9) (v := ?_) rfl (by kernel_rfl) (by kernel_rfl) (by kernel_rfl) (fun _ _ _ h => h) (Or.inl ⟨by rfl, ?_⟩) (by assumption) ?_; rotate_left; (focus (intro W hSw; (try dsimp only at hSw); go_simp; try (with_reducible rfl)))); (try simp only [List.getElem_toArray, List.getElem_cons_zero, List.getElem_cons_succ, Act.put, List.setIfInBounds_toArray, List.set_cons_zero, List.set_cons_succ]); (refine wpAnyH_take (i := 11) (v := ?_) rfl (by kernel_rfl) (by kernel_rfl) (by kernel_rfl) (fun _ _ _ h => h) (Or.inl ⟨by rfl, ?_⟩) (by assumption) ?_; rotate_left; (focus (intro W hSw; (try dsimp only at hSw); go_simp; try (with_reducible rfl)))); (try simp only [List.getElem_toArray, List.getElem_cons_zero, List.getElem_cons_succ, Act.put, List.setIfInBounds_toArray, List.set_cons_zero, List.set_cons_succ]))
  (refine wpAnyH_ready (rs := [2]) (by kernel_rfl) (by simp) ?_; refine AllReadyH.cons rfl (fun K hK => ?_) AllReadyH.nil)
  go_simp
  refine (CB.out 1).mono ?_; rintro e _ ⟨rfl, rfl⟩
  refine hK.out _ _ trivial (fun hHeld => ?_)
  clear hK K
  (try simp only [List.getElem_toArray, List.getElem_cons_zero, List.getElem_cons_succ, Act.put, List.setIfInBounds_toArray, List.set_cons_zero, List.set_cons_succ])
  (refine wpAnyH_ready (rs := [6]) (by kernel_rfl) (by simp) ?_; refine AllReadyH.cons rfl (fun K hK => ?_) AllReadyH.nil)
  go_simp
  refine (C1.out 1).mono ?_; rintro e _ ⟨rfl, rfl⟩
  refine hK.out _ _ trivial (fun hHeld => ?_)
  clear hK K
  (try simp only [List.getElem_toArray, List.getElem_cons_zero, List.getElem_cons_succ, Act.put, List.setIfInBounds_toArray, List.set_cons_zero, List.set_cons_succ])
  (refine wpAnyH_ready (rs := [10]) (by kernel_rfl) (by simp) ?_; refine AllReadyH.cons rfl (fun K hK => ?_) AllReadyH.nil)
  go_simp
  refine (C2.out 1).mono ?_; rintro e _ ⟨rfl, rfl⟩
  refine hK.out _ _ trivial (fun hHeld => ?_)
  clear hK K
  (try simp only [List.getElem_toArray, List.getElem_cons_zero, List.getElem_cons_succ, Act.put, List.setIfInBounds_toArray, List.set_cons_zero, List.set_cons_succ])
  (refine wpAnyH_ready (rs := [12]) (by kernel_rfl) (by simp) ?_; refine AllReadyH.cons rfl (fun K hK => ?_) AllReadyH.nil)
  go_simp
  refine (spec_l03Swap p a b 1 (w.drewN 1) (by decide) hpl ha100 hb100).mono ?_; rintro e w5 ⟨A5, c5, rfl, o5, b5⟩
  refine hK.out _ _ trivial (fun hHeld => ?_)
  clear hK K
  (try simp only [List.getElem_toArray, List.getElem_cons_zero, List.getElem_cons_succ, Act.put, List.setIfInBounds_toArray, List.set_cons_zero, List.set_cons_succ])
  ((refine wpAnyH_take (i := 13) (v := ?_) rfl (by kernel_rfl) (by kernel_rfl) (by kernel_rfl) (fun _ _ _ h => h) (Or.inl ⟨by rfl, ?_⟩) (by assumption) ?_; rotate_left; (focus (intro W hSw; (try dsimp only at hSw); go_simp; try (with_reducible rfl)))); (try simp only [List.getElem_toArray, List.getElem_cons_zero, List.getElem_cons_succ, Act.put, List.setIfInBounds_toArray, List.set_cons_zero, List.set_cons_succ]))
  (refine wpAnyH_done (by kernel_rfl) ?_ _; change wpList _ _ _ _ _ _)
  clear hHeld CB C1 C2
  have hb5 : Below w.heap.size w w5 := (below_drewN (Below.refl _ _) 1).trans b5
  have hlz0 := H0.out.lt
  have H5 : SHd z lo g w5 s := H0.out.below hb5
  have bR5 := BR.out.below hb5 BR.out.lt
  have hB5 : Below lo w w5 := hb5.mono hlz0
  have hz5 := hb5.size
  have HWD : Hid (∀ t y, (swTo p 1 a b)[t]? = some y → ∃ x, p + 1 ≤ x ∧ x ≤ p + a + b ∧ y = 1 * x ∧ (crossEvs p 1 a b)[t]? = some (evCross 1 x)) := Lib.hid (fun t y hy => cross_word hy)
  have hWl : (swTo p 1 a b).length ≤ 10000 := by rw [swTo_length]; exact Nat.le_trans (Nat.mul_le_mul ha100 hb100) (by decide)
  have HWL : Hid ((crossEvs p 1 a b).length = (swTo p 1 a b).length) := Lib.hid (by rw [crossEvs_length, swTo_length])
  have o5' : OwnC w5 w.heap.size w5.heap.size 2 1 A5 (swTo p 1 a b).length c5 ((swTo p 1 a b).map (Value.int .i64)) := o5
  clear o5 b5 hb5
  generalize swTo p 1 a b = Wd at *
  generalize crossEvs p 1 a b = Ce at *
  obtain ⟨iE, ie0, iz0, iz1, iz2⟩ := info_parts info_Event
  go_wp2_with (fail)
  go_loopw [10] (fun kv wr => ∃ (t : Nat) (E : List EventD), t ≤ Wd.length ∧ kv = .int .i64 t ∧ Hid (E = s.evs ++ Ce.take t) ∧ E.length ≤ 50000 + t ∧ SHd z lo g wr ⟨E, s.cells⟩ ∧ OwnC wr w.heap.size w5.heap.size 2 1 A5 Wd.length c5 (Wd.map (Value.int .i64)) ∧ Blk wr gR 2 curR ∧ Below lo w wr) (fun kv _ => Wd.length - (intOf kv).toNat)
  case atStart => exact ⟨0, s.evs, Nat.zero_le _, rfl, Lib.hid (by simp), by omega, H5, o5', bR5, hB5⟩
  case round =>
    clear H5 o5' bR5 hB5
    obtain ⟨t, E, ht, rfl, HE, hEl, hst, ow, bRr, hbr⟩ := hrel
    by_cases htl : t < Wd.length
    · obtain ⟨gW, rfl, _, _, hcy, _⟩ := ow.cell (j := t) (by simpa using htl)
      obtain ⟨curW, bW, _, _⟩ := ow.blkEx
      obtain ⟨y, hy⟩ : ∃ y, Wd[t]? = some y := ⟨_, List.getElem?_eq_getElem htl⟩
      have hcy2 : wr.cell? ⟨gW, t, none⟩ = some (.int .i64 y) := by
        rw [hcy]
        rw [List.getElem?_eq_getElem htl] at hy
        injection hy with hy
        simp [hy]
      obtain ⟨x, hx1, hx2, hyx, hce⟩ := HWD.out t y hy
      have HAB : Hid (∀ W, Calls Try.prog 55 #[.int .i64 y] W fun e w' => e = .returned (.int .i64 x) ∧ W = w') := Lib.hid (fun W => by rw [hyx]; exact spec_abs_sign 1 x (by decide) W (by omega) (by omega))
      have HCE : Hid (Ce.take (t + 1) = Ce.take t ++ [evCross 1 x]) := Lib.hid (take_snoc hce)
      obtain ⟨⟨AE, cE, AC, cC2, hk, ho, hc⟩, hlo⟩ := hst
      dsimp only at hk ho hc
      have p0 := hk.c2.1
      have hwz := hk.lt
      have wx : IntKind.i64.wrap (x - 1) = x - 1 := IntWalk.i64_in _ ⟨by omega, by omega⟩
      have dk : decide ((t : Int) < (Wd.length : Int)) = true := decide_eq_true (by omega)
      have j4 : (0 : Int) ≤ (t : Int) := by omega
      have j5 : (t : Int) < (Wd.length : Int) := by omega
      clear hcy hy hyx hce
      go_upto_region 8 with fail
      (refine wp_region_pops 3 (S := (fun W' => W'.cell? ⟨g, 0, none⟩ = some (.slice AE E.length cE) ∧ W'.cell? ⟨gW, t, none⟩ = some (.int .i64 y))) (pre := ?_) (T := ?_) (n := ?_) (by kernel_rfl) (by kernel_rfl) ?_ ?_ ?_ ?_ (fun hHeld => ?_); rotate_left 3; (focus (simp only [pops, List.pop_toArray, List.dropLast_cons_cons, List.dropLast_singleton]; rfl)); (focus (simp only [tailOf, List.pop_toArray, List.dropLast_cons_cons, List.dropLast_singleton, List.back?_toArray, List.getLast?_cons_cons, List.getLast?_singleton, Option.toList_some, List.nil_append, List.cons_append]; rfl)); (focus rfl); (focus (exact ⟨p0, hcy2⟩)))
      ((refine wpAnyH_take (i := 0) (v := ?_) rfl (by kernel_rfl) (by kernel_rfl) (by kernel_rfl) (fun _ _ _ h => h) (Or.inl ⟨by rfl, ?_⟩) (by assumption) ?_; rotate_left; (focus (intro W hSw; (try dsimp only at hSw); go_simp; try (with_reducible rfl)))); (try simp only [List.getElem_toArray, List.getElem_cons_zero, Act.put, List.setIfInBounds_toArray, List.set_cons_zero, List.set_cons_succ]); (refine wpAnyH_take (i := 1) (v := ?_) rfl (by kernel_rfl) (by kernel_rfl) (by kernel_rfl) (fun _ _ _ h => h) (Or.inl ⟨by rfl, ?_⟩) (by assumption) ?_; rotate_left; (focus (intro W hSw; (try dsimp only at hSw); go_simp; try (with_reducible rfl)))); (try simp only [List.getElem_toArray, List.getElem_cons_zero, List.getElem_cons_succ, Act.put, List.setIfInBounds_toArray, List.set_cons_zero, List.set_cons_succ]); (refine wpAnyH_take (i := 2) (v := ?_) rfl (by kernel_rfl) (by kernel_rfl) (by kernel_rfl) (fun _ _ _ h => h) (Or.inl ⟨by rfl, ?_⟩) (by assumption) ?_; rotate_left; (focus (intro W hSw; (try dsimp only at hSw); go_simp; try (with_reducible rfl)))); (try simp only [List.getElem_toArray, List.getElem_cons_zero, List.getElem_cons_succ, Act.put, List.setIfInBounds_toArray, List.set_cons_zero, List.set_cons_succ]); (refine wpAnyH_take (i := 3) (v := ?_) rfl (by kernel_rfl) (by kernel_rfl) (by kernel_rfl) (fun _ _ _ h => h) (Or.inl ⟨by rfl, ?_⟩) (by assumption) ?_; rotate_left; (focus (intro W hSw; (try dsimp only at hSw); go_simp; try (with_reducible rfl)))); (try simp only [List.getElem_toArray, List.getElem_cons_zero, List.getElem_cons_succ, Act.put, List.setIfInBounds_toArray, List.set_cons_zero, List.set_cons_succ]); (refine wpAnyH_take (i := 4) (v := ?_) rfl (by kernel_rfl) (by kernel_rfl) (by kernel_rfl) (fun _ _ _ h => h) (Or.inl ⟨by rfl, ?_⟩) (by assumption) ?_; rotate_left; (focus (intro W hSw; (try dsimp only at hSw); go_simp; try (with_reducible rfl)))); (try simp only [List.getElem_toArray, List.getElem_cons_zero, List.getElem_cons_succ, Act.put, List.setIfInBounds_toArray, List.set_cons_zero, List.set_cons_succ]); (refine wpAnyH_take (i := 5) (v := ?_) rfl (by kernel_rfl) (by kernel_rfl) (by kernel_rfl) (fun _ _ _ h => h) (Or.inl ⟨by rfl, ?_⟩) (by assumption) ?_; rotate_left; (focus (intro W hSw; (try dsimp only at hSw); go_simp; try (with_reducible rfl)))); (try simp only [List.getElem_toArray, List.getElem_cons_zero, List.getElem_cons_succ, Act.put, List.setIfInBounds_toArray, List.set_cons_zero, List.set_cons_succ]); (refine wpAnyH_take (i := 6) (v := ?_) rfl (by kernel_rfl) (by kernel_rfl) (by kernel_rfl) (fun _ _ _ h => h) (Or.inl ⟨by rfl, ?_⟩) (by assumption) ?_; rotate_left; (focus (intro W hSw; (try dsimp only at hSw); go_simp; try (with_reducible rfl)))); (try simp only [List.getElem_toArray, List.getElem_cons_zero, List.getElem_cons_succ, Act.put, List.setIfInBounds_toArray, List.set_cons_zero, List.set_cons_succ]); (refine wpAnyH_take (i := 7) (v := ?_) rfl (by kernel_rfl) (by kernel_rfl) (by kernel_rfl) (fun _ _ _ h => h) (Or.inl ⟨by rfl, ?_⟩) (by assumption) ?_; rotate_left; (focus (intro W hSw; (try dsimp only at hSw); go_simp; try (with_reducible rfl)))); (try simp only [List.getElem_toArray, List.getElem_cons_zero, List.getElem_cons_succ, Act.put, List.setIfInBounds_toArray, List.set_cons_zero, List.set_cons_succ]); (refine wpAnyH_take (i := 8) (v := ?_) rfl (by kernel_rfl) (by kernel_rfl) (by kernel_rfl) (fun _ _ _ h => h) (Or.inl ⟨by rfl, ?_⟩) (by assumption) ?_; rotate_left; (focus (intro W hSw; (try dsimp only at hSw); go_simp; try (with_reducible rfl)))); (try simp only [List.getElem_toArray, List.getElem_cons_zero, List.getElem_cons_succ, Act.put, List.setIfInBounds_toArray, List.set_cons_zero, List.set_cons_succ]); (refine wpAnyH_take (i := 11) (v := ?_) rfl (by kernel_rfl) (by kernel_rfl) (by kernel_rfl) (fun _ _ _ h => h) (Or.inl ⟨by rfl, ?_⟩) (by assumption) ?_; rotate_left; (focus (intro W hSw; (try dsimp only at hSw); go_simp; try (with_reducible rfl)))); (try simp only [List.getElem_toArray, List.getElem_cons_zero, List.getElem_cons_succ, Act.put, List.setIfInBounds_toArray, List.set_cons_zero, List.set_cons_succ]))
      (refine wpAnyH_ready (rs := [9]) (by kernel_rfl) (by simp) ?_; refine AllReadyH.cons rfl (fun K hK => ?_) AllReadyH.nil)
      go_simp
      refine (HAB.out _).mono ?_; rintro e _ ⟨rfl, rfl⟩
      refine hK.out _ _ ⟨p0, hcy2⟩ (fun hHeld => ?_)
      clear hK K
      (try simp only [List.getElem_toArray, List.getElem_cons_zero, List.getElem_cons_succ, Act.put, List.setIfInBounds_toArray, List.set_cons_zero, List.set_cons_succ])
      ((refine wpAnyH_take (i := 10) (v := ?_) rfl (by kernel_rfl) (by kernel_rfl) (by kernel_rfl) (fun _ _ _ h => h) (Or.inl ⟨by rfl, ?_⟩) (by assumption) ?_; rotate_left; (focus (intro W hSw; (try dsimp only at hSw); go_simp; try (with_reducible rfl)))); (try simp only [List.getElem_toArray, List.getElem_cons_zero, List.getElem_cons_succ, Act.put, List.setIfInBounds_toArray, List.set_cons_zero, List.set_cons_succ]); (refine wpAnyH_take (i := 12) (v := ?_) rfl (by kernel_rfl) (by kernel_rfl) (by kernel_rfl) (fun _ _ _ h => h) (Or.inl ⟨by rfl, ?_⟩) (by assumption) ?_; rotate_left; (focus (intro W hSw; (try dsimp only at hSw); go_simp; try (with_reducible rfl)))); (try simp only [List.getElem_toArray, List.getElem_cons_zero, List.getElem_cons_succ, Act.put, List.setIfInBounds_toArray, List.set_cons_zero, List.set_cons_succ]))
      (refine wpAnyH_ready (rs := [13]) (by kernel_rfl) (by simp) ?_; refine AllReadyH.cons rfl (fun K hK => ?_) AllReadyH.nil)
      go_simp
      refine hK.out _ _ ⟨(hk.drew1.alloc _).c2.1, cell_alloc (show (World.drew wr).cell? ⟨gW, t, none⟩ = _ from hcy2) _⟩ (fun hHeld => ?_)
      clear hK K
      (try simp only [List.getElem_toArray, List.getElem_cons_zero, List.getElem_cons_succ, Act.put, List.setIfInBounds_toArray, List.set_cons_zero, List.set_cons_succ])
      have hlz : lo ≤ ((World.drew wr).alloc (.cells #[.int .i64 1, .int .i64 (x - 1), .int .i64 1, .int .i64 0, .int .i64 0, .int .i64 0] 49)).heap.size := by have e : (World.drew wr).heap.size = wr.heap.size := rfl; rw [World.size_alloc, e]; omega
      have olit := OwnC.news (OwnC.lit (w := World.drew wr) (lo := lo) (n := 1) 49 6 #[.int .i64 1, .int .i64 (x - 1), .int .i64 1, .int .i64 0, .int .i64 0, .int .i64 0] (by have e : (World.drew wr).heap.size = wr.heap.size := rfl; omega) (by decide) rfl)
      (refine wpAnyH_ready (rs := [14]) (by kernel_rfl) (by simp) ?_; refine AllReadyH.cons rfl (fun K hK => ?_) AllReadyH.nil)
      refine wp_appendC_at ((World.drew wr).alloc (.cells #[.int .i64 1, .int .i64 (x - 1), .int .i64 1, .int .i64 0, .int .i64 0, .int .i64 0] 49)) (.tmp 48) (.tmp 57) _ rfl 49 iE _ 6 48 Try.underlying26 ie0 iz0 iz1 iz2 rfl (by decide) (by simp [Act.eval]) ((OwnC.drew1 ho).alloc _) hlz (some ⟨wr.heap.size, 0, none⟩) 1 1 [.int .i64 1, .int .i64 (x - 1), .int .i64 1, .int .i64 0, .int .i64 0, .int .i64 0] (by simp [Act.eval]) (by simp) olit (by simp [Value.oneCell']) (by unfold maxLen; omega) (by omega) ?_
      intro A9 c9 w8 ho8 hg8 hb8 _
      obtain ⟨hk8, hS8, hB8, hX8⟩ := SHd.push (e := evCross 1 x) hk ho hc hlo ho8 hg8 hb8
      refine hK.out _ _ ⟨hk8.c2.1, cell_blk bW (hX8 _ _ _ (by decide) (by decide) bW).1 t hcy2⟩ (fun hHeld => ?_)
      clear hK K
      (try simp only [List.getElem_toArray, List.getElem_cons_zero, List.getElem_cons_succ, Act.put, List.setIfInBounds_toArray, List.set_cons_zero, List.set_cons_succ])
      (refine wpAnyH_done (by kernel_rfl) ?_ _; change wpList _ _ _ _ _ _)
      clear hHeld
      obtain ⟨y0, y1⟩ := hk8.c2
      have y2 := hk8.frozen 0
      have how := ow.keepT (w' := w8.setCell ⟨g, 0, none⟩ (.slice A9 (E.length + 1) c9)) (fun k cur _ _ hkk => ((hX8 k 2 cur (by decide) (by decide) hkk).2).trans hkk.symm)
      have hRr := (hX8 _ _ _ (by decide) (by decide) bRr).2
      have HS8 := Lib.hid hS8; clear hS8
      have HOW := Lib.hid how; clear how
      have HRR := Lib.hid hRr; clear hRr
      have HB8 := Lib.hid hB8; clear hB8
      clear hX8 ho8 hg8 hb8 olit hlz hk8
      go_wp2_with (fail)
      exact ⟨⟨t + 1, E ++ [evCross 1 x], by omega, by go_num, Lib.hid (by rw [HCE.out, HE.out, List.append_assoc]), by simp; omega, HS8.out, HOW.out, HRR.out, hbr.trans HB8.out⟩, by first | (simp [intOf]; done) | (simp [intOf]; omega)⟩
    · obtain rfl : t = Wd.length := by omega
      have dk : decide ((Wd.length : Int) < (Wd.length : Int)) = false := decide_eq_false (by omega)
      have hrw : Ints wr (some ⟨gR, 0, none⟩) c := HROW.out.blk BR.out bRr
      obtain ⟨AC, cC3, p1, hi2⟩ := hst.read
      obtain ⟨b9, off9, _, _, _, rfl, _, _, _, _⟩ := hi2 i hic
      dsimp only at p1
      have hzr := hst.lt
      have CO : Hid (Calls Try.prog 56 #[.slice (some ⟨gR, 1, none⟩) 1 (c3 - 1)] (wr.drewN 1) fun e w' => ∃ A' c', e = .returned (.slice A' 1 c') ∧ OwnC w' wr.heap.size w'.heap.size 2 1 A' 1 c' ((c.drop 1).map (Value.int .i64)) ∧ Below wr.heap.size wr w') := Lib.hid (by
        have hrd : Ints wr (some ⟨gR, 0 + 1, none⟩) (c.drop 1) := hrw.drop 1
        have := spec_l00Own (some ⟨gR, 1, none⟩) (c3 - 1) (c.drop 1) (wr.drewN 1) hrd (by rw [L2.out]; decide)
        rw [L2.out] at this
        refine this.mono ?_
        rintro e w' ⟨A', c', h1, h2, h3⟩
        refine ⟨A', c', h1, ?_, (below_drewN (Below.refl _ _) 1).trans h3⟩
        have h2' : OwnC w' wr.heap.size w'.heap.size 2 1 A' (c.drop 1).length c' ((c.drop 1).map (Value.int .i64)) := h2
        rw [L2.out] at h2'
        exact h2')
      obtain ⟨i0, hi0, hz0, hz1, hz2⟩ := info_parts info_int64
      have HST := Lib.hid hst
      clear hi2 hst
      go_upto_region 9 with fail
      (refine wp_region_pops 2 (S := (fun W' => W'.cell? ⟨g, 1, none⟩ = some (.slice (some ⟨b9, off9, none⟩) s.cells.length cC3))) (pre := ?_) (T := ?_) (n := ?_) (by kernel_rfl) (by kernel_rfl) ?_ ?_ ?_ ?_ (fun hHeld => ?_); rotate_left 3; (focus (simp only [pops, List.pop_toArray, List.dropLast_cons_cons, List.dropLast_singleton]; rfl)); (focus (simp only [tailOf, List.pop_toArray, List.dropLast_cons_cons, List.dropLast_singleton, List.back?_toArray, List.getLast?_cons_cons, List.getLast?_singleton, Option.toList_some, List.nil_append, List.cons_append]; rfl)); (focus rfl); (focus (exact p1)))
      ((refine wpAnyH_take (i := 0) (v := ?_) rfl (by kernel_rfl) (by kernel_rfl) (by kernel_rfl) (fun _ _ _ h => h) (Or.inl ⟨by rfl, ?_⟩) (by assumption) ?_; rotate_left; (focus (intro W hSw; (try dsimp only at hSw); go_simp; try (with_reducible rfl)))); (try simp only [List.getElem_toArray, List.getElem_cons_zero, Act.put, List.setIfInBounds_toArray, List.set_cons_zero, List.set_cons_succ]); (refine wpAnyH_take (i := 1) (v := ?_) rfl (by kernel_rfl) (by kernel_rfl) (by kernel_rfl) (fun _ _ _ h => h) (Or.inl ⟨by rfl, ?_⟩) (by assumption) ?_; rotate_left; (focus (intro W hSw; (try dsimp only at hSw); go_simp; try (with_reducible rfl)))); (try simp only [List.getElem_toArray, List.getElem_cons_zero, List.getElem_cons_succ, Act.put, List.setIfInBounds_toArray, List.set_cons_zero, List.set_cons_succ]); (refine wpAnyH_take (i := 2) (v := ?_) rfl (by kernel_rfl) (by kernel_rfl) (by kernel_rfl) (fun _ _ _ h => h) (Or.inl ⟨by rfl, ?_⟩) (by assumption) ?_; rotate_left; (focus (intro W hSw; (try dsimp only at hSw); go_simp; try (with_reducible rfl)))); (try simp only [List.getElem_toArray, List.getElem_cons_zero, List.getElem_cons_succ, Act.put, List.setIfInBounds_toArray, List.set_cons_zero, List.set_cons_succ]); (refine wpAnyH_take (i := 3) (v := ?_) rfl (by kernel_rfl) (by kernel_rfl) (by kernel_rfl) (fun _ _ _ h => h) (Or.inl ⟨by rfl, ?_⟩) (by assumption) ?_; rotate_left; (focus (intro W hSw; (try dsimp only at hSw); go_simp; try (with_reducible rfl)))); (try simp only [List.getElem_toArray, List.getElem_cons_zero, List.getElem_cons_succ, Act.put, List.setIfInBounds_toArray, List.set_cons_zero, List.set_cons_succ]); (refine wpAnyH_take (i := 4) (v := ?_) rfl (by kernel_rfl) (by kernel_rfl) (by kernel_rfl) (fun _ _ _ h => h) (Or.inl ⟨by rfl, ?_⟩) (by assumption) ?_; rotate_left; (focus (intro W hSw; (try dsimp only at hSw); go_simp; try (with_reducible rfl)))); (try simp only [List.getElem_toArray, List.getElem_cons_zero, List.getElem_cons_succ, Act.put, List.setIfInBounds_toArray, List.set_cons_zero, List.set_cons_succ]); (refine wpAnyH_take (i := 5) (v := ?_) rfl (by kernel_rfl) (by kernel_rfl) (by kernel_rfl) (fun _ _ _ h => h) (Or.inl ⟨by rfl, ?_⟩) (by assumption) ?_; rotate_left; (focus (intro W hSw; (try dsimp only at hSw); go_simp; try (with_reducible rfl)))); (try simp only [List.getElem_toArray, List.getElem_cons_zero, List.getElem_cons_succ, Act.put, List.setIfInBounds_toArray, List.set_cons_zero, List.set_cons_succ]); (refine wpAnyH_take (i := 6) (v := ?_) rfl (by kernel_rfl) (by kernel_rfl) (by kernel_rfl) (fun _ _ _ h => h) (Or.inl ⟨by rfl, ?_⟩) (by assumption) ?_; rotate_left; (focus (intro W hSw; (try dsimp only at hSw); go_simp; try (with_reducible rfl)))); (try simp only [List.getElem_toArray, List.getElem_cons_zero, List.getElem_cons_succ, Act.put, List.setIfInBounds_toArray, List.set_cons_zero, List.set_cons_succ]); (refine wpAnyH_take (i := 7) (v := ?_) rfl (by kernel_rfl) (by kernel_rfl) (by kernel_rfl) (fun _ _ _ h => h) (Or.inl ⟨by rfl, ?_⟩) (by assumption) ?_; rotate_left; (focus (intro W hSw; (try dsimp only at hSw); go_simp; try (with_reducible rfl)))); (try simp only [List.getElem_toArray, List.getElem_cons_zero, List.getElem_cons_succ, Act.put, List.setIfInBounds_toArray, List.set_cons_zero, List.set_cons_succ]); (refine wpAnyH_take (i := 9) (v := ?_) rfl (by kernel_rfl) (by kernel_rfl) (by kernel_rfl) (fun _ _ _ h => h) (Or.inl ⟨by rfl, ?_⟩) (by assumption) ?_; rotate_left; (focus (intro W hSw; (try dsimp only at hSw); go_simp; try (with_reducible rfl)))); (try simp only [List.getElem_toArray, List.getElem_cons_zero, List.getElem_cons_succ, Act.put, List.setIfInBounds_toArray, List.set_cons_zero, List.set_cons_succ]); (refine wpAnyH_take (i := 10) (v := ?_) rfl (by kernel_rfl) (by kernel_rfl) (by kernel_rfl) (fun _ _ _ h => h) (Or.inl ⟨by rfl, ?_⟩) (by assumption) ?_; rotate_left; (focus (intro W hSw; (try dsimp only at hSw); go_simp; try (with_reducible rfl)))); (try simp only [List.getElem_toArray, List.getElem_cons_zero, List.getElem_cons_succ, Act.put, List.setIfInBounds_toArray, List.set_cons_zero, List.set_cons_succ]); (refine wpAnyH_take (i := 11) (v := ?_) rfl (by kernel_rfl) (by kernel_rfl) (by kernel_rfl) (fun _ _ _ h => h) (Or.inl ⟨by rfl, ?_⟩) (by assumption) ?_; rotate_left; (focus (intro W hSw; (try dsimp only at hSw); go_simp; try (with_reducible rfl)))); (try simp only [List.getElem_toArray, List.getElem_cons_zero, List.getElem_cons_succ, Act.put, List.setIfInBounds_toArray, List.set_cons_zero, List.set_cons_succ]))
      (refine wpAnyH_ready (rs := [8]) (by kernel_rfl) (by simp) ?_; refine AllReadyH.cons rfl (fun K hK => ?_) AllReadyH.nil)
      go_simp
      refine CO.out.mono ?_; rintro e w6 ⟨A6, c6, rfl, o6, b6⟩
      refine hK.out _ _ (cells_below b6 _ _ p1) (fun hHeld => ?_)
      clear hK K
      (try simp only [List.getElem_toArray, List.getElem_cons_zero, List.getElem_cons_succ, Act.put, List.setIfInBounds_toArray, List.set_cons_zero, List.set_cons_succ])
      have hlz6 := b6.size
      have hr6 := (hrw.below b6).take 1
      have L1' := Lib.hid (show ((c.take 1).map (Value.int .i64)).length = 1 * 1 by rw [List.length_map, L1.out])
      (refine wpAnyH_ready (rs := [12]) (by kernel_rfl) (by simp) ?_; refine AllReadyH.cons rfl (fun K hK => ?_) AllReadyH.nil)
      refine wp_appendC_at w6 (.tmp 69) (.tmp 72) _ rfl 2 i0 _ 1 8 Try.underlying22 hi0 hz0 hz1 hz2 rfl (by decide) (by simp [Act.eval]) o6 hlz6 (some ⟨gR, 0, none⟩) 1 c3 ((c.take 1).map (Value.int .i64)) (by simp [Act.eval]) L1'.out hr6.newsM (fun u hu => by obtain ⟨z, _, rfl⟩ := List.mem_map.1 hu; rfl) (by unfold maxLen; omega) (by omega) ?_
      intro A7 c7 w7 ho7 hg7 hb7 _
      have hb67 : Below wr.heap.size wr w7 := b6.trans hb7
      refine hK.out _ _ (cells_below hb67 _ _ p1) (fun hHeld => ?_)
      clear hK K
      (try simp only [List.getElem_toArray, List.getElem_cons_zero, List.getElem_cons_succ, Act.put, List.setIfInBounds_toArray, List.set_cons_zero, List.set_cons_succ])
      (refine wpAnyH_done (by kernel_rfl) ?_ _; change wpList _ _ _ _ _ _)
      clear hHeld
      have hrl : (c.drop 1 ++ c.take 1).length = 1 + 1 := by rw [List.length_append, L1.out, L2.out]
      have ho7' : OwnI w7 wr.heap.size w7.heap.size A7 c7 (c.drop 1 ++ c.take 1) := by
        show OwnC _ _ _ _ _ _ _ _ _
        rw [hrl, List.map_append]
        exact ho7
      obtain ⟨gC4, cC4, y1, ⟨v, y2⟩, y3, hs3, hb3⟩ := HST.out.setRow (i := i) hic hb67 ho7'
      rw [hrl] at hs3 hb3
      dsimp only at y1
      rw [p1] at y1
      injection y1 with y1
      injection y1 with y1 _ y1c
      injection y1 with y1
      injection y1 with y1 y1b
      subst y1 y1b y1c
      have HS3 := Lib.hid hs3; clear hs3
      have HB3 := Lib.hid hb3; clear hb3
      clear CO o6 b6 hr6 ho7 hg7 hb7 ho7' hrl hb67 p1 hrw
      go_wp2_with (fail)
      go_end0
      rw [HM.out]
      have hE : E = s.evs ++ Ce := by rw [HE.out, ← HWL.out, List.take_of_length_le (Nat.le_refl _)]
      rw [← hE]
      exact ⟨rfl, HS3.out, hbr.trans HB3.out⟩

set_option maxHeartbeats 4000000 in
set_option maxRecDepth 10000 in
theorem spec_cross_9 {z : Option (Nat × Array Value)} {lo g m : Nat} {s : HS} {S : Int} {w : World} (h : SHd z lo g w s) (hG : GoodC m s.cells S) (hS : S ≤ 100) (hm : m ≤ 16) {i : Nat} {c : List Int} (hx : s.cells[i]? = some c) (hlen : c.length = 2) (hl : s.evs.length ≤ 50000) :
    Calls Try.prog 34 #[.pointer (some ⟨g, 0, none⟩), .int .i64 (i : Int), .int .i64 9] w fun e w' =>
      e = .returned (.tuple #[]) ∧ SHd z lo g w' (crossTo 9 i c s) ∧ Below lo w w' := by
  have him := hG.lt hx
  have hic : i < s.cells.length := by rw [hG.len]; exact him
  obtain ⟨hnn, h4, hle, h0⟩ := hG.at_ hx
  have hT0 := (hG.take i).1
  have hP := hnn.part 1
  obtain ⟨x, hy⟩ : ∃ x, c[0]? = some x := ⟨_, List.getElem?_eq_getElem (by omega)⟩
  obtain ⟨gC, cC, gR, c3, q1, q2, _, _, hrow, hcap, _⟩ := h.setAt hx hy
  obtain ⟨a, ha⟩ := Int.eq_ofNat_of_zero_le hP.1
  obtain ⟨b, hb⟩ := Int.eq_ofNat_of_zero_le hP.2.2.1
  have ha100 : a ≤ 100 := by omega
  have hb100 : b ≤ 100 := by omega
  have hpl : 0 ≤ tot (s.cells.take i) ∧ tot (s.cells.take i) ≤ 1000 := by omega
  have HM : Hid (crossTo 9 i c s = ⟨s.evs ++ crossEvs (tot (s.cells.take i)) (-1) a b, s.cells.set i (c.drop 1 ++ c.take 1)⟩) := Lib.hid (by
    unfold crossTo
    rw [if_neg (by decide), hlen]
    show (⟨s.evs ++ crossEvs (tot (s.cells.take i)) (-1) (sumI (c.take 1)).toNat (sumI (c.drop 1)).toNat, _⟩ : HS) = _
    rw [ha, hb]
    rfl)
  have CB : Hid (∀ q, Calls Try.prog 37 #[.pointer (some ⟨g, 0, none⟩), .int .i64 (i : Int)] (w.drewN q) fun e w' => e = .returned (.int .i64 (tot (s.cells.take i))) ∧ w.drewN q = w') :=
    Lib.hid (fun q => spec_before (h.drewN q) hG (by omega) hm i (by omega))
  have l1 : (c.take 1).length = 1 := by rw [List.length_take]; omega
  have l2 : (c.drop 1).length = 1 := by rw [List.length_drop]; omega
  have hrd : Ints w (some ⟨gR, 0 + 1, none⟩) (c.drop 1) := hrow.drop 1
  have C1 : Hid (∀ q, Calls Try.prog 29 #[.slice (some ⟨gR, 0, none⟩) 1 c3] (w.drewN q) fun e w' => e = .returned (.int .i64 (a : Int)) ∧ w.drewN q = w') :=
    Lib.hid (fun q => by
      have := spec_l17Sum (some ⟨gR, 0, none⟩) c3 (c.take 1) (w.drewN q) (hrow.take 1) (by omega)
      rw [l1, sum64_sumI (hnn.take 1) (by omega), ha] at this
      exact this)
  have C2 : Hid (∀ q, Calls Try.prog 29 #[.slice (some ⟨gR, 1, none⟩) 1 (c3 - 1)] (w.drewN q) fun e w' => e = .returned (.int .i64 (b : Int)) ∧ w.drewN q = w') :=
    Lib.hid (fun q => by
      have := spec_l17Sum (some ⟨gR, 1, none⟩) (c3 - 1) (c.drop 1) (w.drewN q) hrd (by omega)
      rw [l2, sum64_sumI (hnn.drop 1) (by omega), hb] at this
      exact this)
  have HX := Lib.hid hx
  have H0 := Lib.hid h
  have HCL := Lib.hid hlen
  rw [hlen] at hcap
  have u1 : (1 : Int) ≤ (c3 : Int) := by omega
  have u2 : (2 : Int) ≤ (c3 : Int) := by omega
  have u3 : ¬ c3 - 1 = 0 := by omega
  have v1 : 1 ≤ c3 := by omega
  have v2 : 0 < c3 := by omega
  have v3 : 2 ≤ c3 := by omega
  have v4 : ¬ c3 = 0 := by omega
  have v5 : ¬ c3 ≤ 1 := by omega
  have v6 : 1 < c3 := by omega
  have v7 : ¬ c3 = 1 := by omega
  have j1 : (0 : Int) ≤ (i : Int) := by omega
  have j3 : (i : Int) < (s.cells.length : Int) := by omega
  have hp100 : tot (s.cells.take i) ≤ 100 := by omega
  obtain ⟨_, _, _, _, _, curR, z1, z2, _, _, bR⟩ := h.two hx hy
  rw [q1] at z1
  injection z1 with z1
  injection z1 with z1 _ z1c
  injection z1 with z1
  injection z1 with z1
  subst z1 z1c
  rw [q2] at z2
  injection z2 with z2
  injection z2 with z2 _ z2c
  injection z2 with z2
  injection z2 with z2
  subst z2 z2c
  have HROW := Lib.hid hrow
  have BR := Lib.hid bR; clear bR
  generalize hpe : tot (s.cells.take i) = p at *
  have HPE := Lib.hid hpe; clear hpe
  rw [hlen] at q2
  have L1 := Lib.hid l1; have L2 := Lib.hid l2
  clear h hx hlen hnn ha hb hy l1 l2 hrd hrow hG
  go_enter Try.func34, Try.ntmps34
  go_wp2_with (fail)
  refine (spec_l17Sign 9 (by decide) w).mono ?_; rintro e _ ⟨rfl, rfl⟩
  rw [show signI 9 = (-1) from rfl]
  go_upto_region 4 with fail
  (refine wp_region_pops 0 (S := (fun _ => True)) (pre := ?_) (T := ?_) (n := ?_) (by kernel_rfl) (by kernel_rfl) ?_ ?_ ?_ ?_ (fun hHeld => ?_); rotate_left 3; (focus (simp only [pops]; rfl)); (focus (simp only [tailOf]; rfl)); (focus rfl); (focus (trivial)))
  ((refine wpAnyH_take (i := 0) (v := ?_) rfl (by kernel_rfl) (by kernel_rfl) (by kernel_rfl) (fun _ _ _ h => h) (Or.inl ⟨by rfl, ?_⟩) (by assumption) ?_; rotate_left; (focus (intro W hSw; (try dsimp only at hSw); go_simp; try (with_reducible rfl)))); (try simp only [List.getElem_toArray, List.getElem_cons_zero, Act.put, List.setIfInBounds_toArray, List.set_cons_zero, List.set_cons_succ]); (refine wpAnyH_take (i := 1) (v := ?_) rfl (by kernel_rfl) (by kernel_rfl) (by kernel_rfl) (fun _ _ _ h => h) (Or.inl ⟨by rfl, ?_⟩) (by assumption) ?_; rotate_left; (focus (intro W hSw; (try dsimp only at hSw); go_simp; try (with_reducible rfl)))); (try simp only [List.getElem_toArray, List.getElem_cons_zero, List.getElem_cons_succ, Act.put, List.setIfInBounds_toArray, List.set_cons_zero, List.set_cons_succ]); (refine wpAnyH_take (i := 3) (v := ?_) rfl (by kernel_rfl) (by kernel_rfl) (by kernel_rfl) (fun _ _ _ h => h) (Or.inl ⟨by rfl, ?_⟩) (by assumption) ?_; rotate_left; (focus (intro W hSw; (try dsimp only at hSw); go_simp; try (with_reducible rfl)))); (try simp only [List.getElem_toArray, List.getElem_cons_zero, List.getElem_cons_succ, Act.put, List.setIfInBounds_toArray, List.set_cons_zero, List.set_cons_succ]); (refine wpAnyH_take (i := 4) (v := ?_) rfl (by kernel_rfl) (by kernel_rfl) (by kernel_rfl) (fun _ _ _ h => h) (Or.inl ⟨by rfl, ?_⟩) (by assumption) ?_; rotate_left; (focus (intro W hSw; (try dsimp only at hSw); go_simp; try (with_reducible rfl)))); (try simp only [List.getElem_toArray, List.getElem_cons_zero, List.getElem_cons_succ, Act.put, List.setIfInBounds_toArray, List.set_cons_zero, List.set_cons_succ]); (refine wpAnyH_take (i := 5) (v := ?_) rfl (by kernel_rfl) (by kernel_rfl) (by kernel_rfl) (fun _ _ _ h => h) (Or.inl ⟨by rfl, ?_⟩) (by assumption) ?_; rotate_left; (focus (intro W hSw; (try dsimp only at hSw); go_simp; try (with_reducible rfl)))); (try simp only [List.getElem_toArray, List.getElem_cons_zero, List.getElem_cons_succ, Act.put, List.setIfInBounds_toArray, List.set_cons_zero, List.set_cons_succ]); (refine wpAnyH_take (i := 7) (v := ?_) rfl (by kernel_rfl) (by kernel_rfl) (by kernel_rfl) (fun _ _ _ h => h) (Or.inl ⟨by rfl, ?_⟩) (by assumption) ?_; rotate_left; (focus (intro W hSw; (try dsimp only at hSw); go_simp; try (with_reducible rfl)))); (try simp only [List.getElem_toArray, List.getElem_cons_zero, List.getElem_cons_succ, Act.put, List.setIfInBounds_toArray, List.set_cons_zero, List.set_cons_succ]); (refine wpAnyH_take (i := 8) (v := ?_) rfl (by kernel_rfl) (by kernel_rfl) (by kernel_rfl) (fun _ _ _ h => h) (Or.inl ⟨by rfl, ?_⟩) (by assumption) ?_; rotate_left; (focus (intro W hSw; (try dsimp only at hSw); go_simp; try (with_reducible rfl)))); (try simp only [List.getElem_toArray, List.getElem_cons_zero, List.getElem_cons_succ, Act.put, List.setIfInBounds_toArray, List.set_cons_zero, List.set_cons_succ]); (refine wpAnyH_take (i := 9) (v := ?_) rfl (by kernel_rfl) (by kernel_rfl) (by kernel_rfl) (fun _ _ _ h => h) (Or.inl ⟨by rfl, ?_⟩) (by assumption) ?_; rotate_left; (focus (intro W hSw; (try dsimp only at hSw); go_simp; try (with_reducible rfl)))); (try simp only [List.getElem_toArray, List.getElem_cons_zero, List.getElem_cons_succ, Act.put, List.setIfInBounds_toArray, List.set_cons_zero, List.set_cons_succ]); (refine wpAnyH_take (i := 11) (v := ?_) rfl (by kernel_rfl) (by kernel_rfl) (by kernel_rfl) (fun _ _ _ h => h) (Or.inl ⟨by rfl, ?_⟩) (by assumption) ?_; rotate_left; (focus (intro W hSw; (try dsimp only at hSw); go_simp; try (with_reducible rfl)))); (try simp only [List.getElem_toArray, List.getElem_cons_zero, List.getElem_cons_succ, Act.put, List.setIfInBounds_toArray, List.set_cons_zero, List.set_cons_succ]))
  (refine wpAnyH_ready (rs := [2]) (by kernel_rfl) (by simp) ?_; refine AllReadyH.cons rfl (fun K hK => ?_) AllReadyH.nil)
  go_simp
  refine (CB.out 1).mono ?_; rintro e _ ⟨rfl, rfl⟩
  refine hK.out _ _ trivial (fun hHeld => ?_)
  clear hK K
  (try simp only [List.getElem_toArray, List.getElem_cons_zero, List.getElem_cons_succ, Act.put, List.setIfInBounds_toArray, List.set_cons_zero, List.set_cons_succ])
  (refine wpAnyH_ready (rs := [6]) (by kernel_rfl) (by simp) ?_; refine AllReadyH.cons rfl (fun K hK => ?_) AllReadyH.nil)
  go_simp
  refine (C1.out 1).mono ?_; rintro e _ ⟨rfl, rfl⟩
  refine hK.out _ _ trivial (fun hHeld => ?_)
  clear hK K
  (try simp only [List.getElem_toArray, List.getElem_cons_zero, List.getElem_cons_succ, Act.put, List.setIfInBounds_toArray, List.set_cons_zero, List.set_cons_succ])
  (refine wpAnyH_ready (rs := [10]) (by kernel_rfl) (by simp) ?_; refine AllReadyH.cons rfl (fun K hK => ?_) AllReadyH.nil)
  go_simp
  refine (C2.out 1).mono ?_; rintro e _ ⟨rfl, rfl⟩
  refine hK.out _ _ trivial (fun hHeld => ?_)
  clear hK K
  (try simp only [List.getElem_toArray, List.getElem_cons_zero, List.getElem_cons_succ, Act.put, List.setIfInBounds_toArray, List.set_cons_zero, List.set_cons_succ])
  (refine wpAnyH_ready (rs := [12]) (by kernel_rfl) (by simp) ?_; refine AllReadyH.cons rfl (fun K hK => ?_) AllReadyH.nil)
  go_simp
  refine (spec_l03Swap p a b (-1) (w.drewN 1) (by decide) hpl ha100 hb100).mono ?_; rintro e w5 ⟨A5, c5, rfl, o5, b5⟩
  refine hK.out _ _ trivial (fun hHeld => ?_)
  clear hK K
  (try simp only [List.getElem_toArray, List.getElem_cons_zero, List.getElem_cons_succ, Act.put, List.setIfInBounds_toArray, List.set_cons_zero, List.set_cons_succ])
  ((refine wpAnyH_take (i := 13) (v := ?_) rfl (by kernel_rfl) (by kernel_rfl) (by kernel_rfl) (fun _ _ _ h => h) (Or.inl ⟨by rfl, ?_⟩) (by assumption) ?_; rotate_left; (focus (intro W hSw; (try dsimp only at hSw); go_simp; try (with_reducible rfl)))); (try simp only [List.getElem_toArray, List.getElem_cons_zero, List.getElem_cons_succ, Act.put, List.setIfInBounds_toArray, List.set_cons_zero, List.set_cons_succ]))
  (refine wpAnyH_done (by kernel_rfl) ?_ _; change wpList _ _ _ _ _ _)
  clear hHeld CB C1 C2
  have hb5 : Below w.heap.size w w5 := (below_drewN (Below.refl _ _) 1).trans b5
  have hlz0 := H0.out.lt
  have H5 : SHd z lo g w5 s := H0.out.below hb5
  have bR5 := BR.out.below hb5 BR.out.lt
  have hB5 : Below lo w w5 := hb5.mono hlz0
  have hz5 := hb5.size
  have HWD : Hid (∀ t y, (swTo p (-1) a b)[t]? = some y → ∃ x, p + 1 ≤ x ∧ x ≤ p + a + b ∧ y = (-1) * x ∧ (crossEvs p (-1) a b)[t]? = some (evCross (-1) x)) := Lib.hid (fun t y hy => cross_word hy)
  have hWl : (swTo p (-1) a b).length ≤ 10000 := by rw [swTo_length]; exact Nat.le_trans (Nat.mul_le_mul ha100 hb100) (by decide)
  have HWL : Hid ((crossEvs p (-1) a b).length = (swTo p (-1) a b).length) := Lib.hid (by rw [crossEvs_length, swTo_length])
  have o5' : OwnC w5 w.heap.size w5.heap.size 2 1 A5 (swTo p (-1) a b).length c5 ((swTo p (-1) a b).map (Value.int .i64)) := o5
  clear o5 b5 hb5
  generalize swTo p (-1) a b = Wd at *
  generalize crossEvs p (-1) a b = Ce at *
  obtain ⟨iE, ie0, iz0, iz1, iz2⟩ := info_parts info_Event
  go_wp2_with (fail)
  go_loopw [10] (fun kv wr => ∃ (t : Nat) (E : List EventD), t ≤ Wd.length ∧ kv = .int .i64 t ∧ Hid (E = s.evs ++ Ce.take t) ∧ E.length ≤ 50000 + t ∧ SHd z lo g wr ⟨E, s.cells⟩ ∧ OwnC wr w.heap.size w5.heap.size 2 1 A5 Wd.length c5 (Wd.map (Value.int .i64)) ∧ Blk wr gR 2 curR ∧ Below lo w wr) (fun kv _ => Wd.length - (intOf kv).toNat)
  case atStart => exact ⟨0, s.evs, Nat.zero_le _, rfl, Lib.hid (by simp), by omega, H5, o5', bR5, hB5⟩
  case round =>
    clear H5 o5' bR5 hB5
    obtain ⟨t, E, ht, rfl, HE, hEl, hst, ow, bRr, hbr⟩ := hrel
    by_cases htl : t < Wd.length
    · obtain ⟨gW, rfl, _, _, hcy, _⟩ := ow.cell (j := t) (by simpa using htl)
      obtain ⟨curW, bW, _, _⟩ := ow.blkEx
      obtain ⟨y, hy⟩ : ∃ y, Wd[t]? = some y := ⟨_, List.getElem?_eq_getElem htl⟩
      have hcy2 : wr.cell? ⟨gW, t, none⟩ = some (.int .i64 y) := by
        rw [hcy]
        rw [List.getElem?_eq_getElem htl] at hy
        injection hy with hy
        simp [hy]
      obtain ⟨x, hx1, hx2, hyx, hce⟩ := HWD.out t y hy
      have HAB : Hid (∀ W, Calls Try.prog 55 #[.int .i64 y] W fun e w' => e = .returned (.int .i64 x) ∧ W = w') := Lib.hid (fun W => by rw [hyx]; exact spec_abs_sign (-1) x (by decide) W (by omega) (by omega))
      have HCE : Hid (Ce.take (t + 1) = Ce.take t ++ [evCross (-1) x]) := Lib.hid (take_snoc hce)
      obtain ⟨⟨AE, cE, AC, cC2, hk, ho, hc⟩, hlo⟩ := hst
      dsimp only at hk ho hc
      have p0 := hk.c2.1
      have hwz := hk.lt
      have wx : IntKind.i64.wrap (x - 1) = x - 1 := IntWalk.i64_in _ ⟨by omega, by omega⟩
      have dk : decide ((t : Int) < (Wd.length : Int)) = true := decide_eq_true (by omega)
      have j4 : (0 : Int) ≤ (t : Int) := by omega
      have j5 : (t : Int) < (Wd.length : Int) := by omega
      clear hcy hy hyx hce
      go_upto_region 8 with fail
      (refine wp_region_pops 3 (S := (fun W' => W'.cell? ⟨g, 0, none⟩ = some (.slice AE E.length cE) ∧ W'.cell? ⟨gW, t, none⟩ = some (.int .i64 y))) (pre := ?_) (T := ?_) (n := ?_) (by kernel_rfl) (by kernel_rfl) ?_ ?_ ?_ ?_ (fun hHeld => ?_); rotate_left 3; (focus (simp only [pops, List.pop_toArray, List.dropLast_cons_cons, List.dropLast_singleton]; rfl)); (focus (simp only [tailOf, List.pop_toArray, List.dropLast_cons_cons, List.dropLast_singleton, List.back?_toArray, List.getLast?_cons_cons, List.getLast?_singleton, Option.toList_some, List.nil_append, List.cons_append]; rfl)); (focus rfl); (focus (exact ⟨p0, hcy2⟩)))
      ((refine wpAnyH_take (i := 0) (v := ?_) rfl (by kernel_rfl) (by kernel_rfl) (by kernel_rfl) (fun _ _ _ h => h) (Or.inl ⟨by rfl, ?_⟩) (by assumption) ?_; rotate_left; (focus (intro W hSw; (try dsimp only at hSw); go_simp; try (with_reducible rfl)))); (try simp only [List.getElem_toArray, List.getElem_cons_zero, Act.put, List.setIfInBounds_toArray, List.set_cons_zero, List.set_cons_succ]); (refine wpAnyH_take (i := 1) (v := ?_) rfl (by kernel_rfl) (by kernel_rfl) (by kernel_rfl) (fun _ _ _ h => h) (Or.inl ⟨by rfl, ?_⟩) (by assumption) ?_; rotate_left; (focus (intro W hSw; (try dsimp only at hSw); go_simp; try (with_reducible rfl)))); (try simp only [List.getElem_toArray, List.getElem_cons_zero, List.getElem_cons_succ, Act.put, List.setIfInBounds_toArray, List.set_cons_zero, List.set_cons_succ]); (refine wpAnyH_take (i := 2) (v := ?_) rfl (by kernel_rfl) (by kernel_rfl) (by kernel_rfl) (fun _ _ _ h => h) (Or.inl ⟨by rfl, ?_⟩) (by assumption) ?_; rotate_left; (focus (intro W hSw; (try dsimp only at hSw); go_simp; try (with_reducible rfl)))); (try simp only [List.getElem_toArray, List.getElem_cons_zero, List.getElem_cons_succ, Act.put, List.setIfInBounds_toArray, List.set_cons_zero, List.set_cons_succ]); (refine wpAnyH_take (i := 3) (v := ?_) rfl (by kernel_rfl) (by kernel_rfl) (by kernel_rfl) (fun _ _ _ h => h) (Or.inl ⟨by rfl, ?_⟩) (by assumption) ?_; rotate_left; (focus (intro W hSw; (try dsimp only at hSw); go_simp; try (with_reducible rfl)))); (try simp only [List.getElem_toArray, List.getElem_cons_zero, List.getElem_cons_succ, Act.put, List.setIfInBounds_toArray, List.set_cons_zero, List.set_cons_succ]); (refine wpAnyH_take (i := 4) (v := ?_) rfl (by kernel_rfl) (by kernel_rfl) (by kernel_rfl) (fun _ _ _ h => h) (Or.inl ⟨by rfl, ?_⟩) (by assumption) ?_; rotate_left; (focus (intro W hSw; (try dsimp only at hSw); go_simp; try (with_reducible rfl)))); (try simp only [List.getElem_toArray, List.getElem_cons_zero, List.getElem_cons_succ, Act.put, List.setIfInBounds_toArray, List.set_cons_zero, List.set_cons_succ]); (refine wpAnyH_take (i := 5) (v := ?_) rfl (by kernel_rfl) (by kernel_rfl) (by kernel_rfl) (fun _ _ _ h => h) (Or.inl ⟨by rfl, ?_⟩) (by assumption) ?_; rotate_left; (focus (intro W hSw; (try dsimp only at hSw); go_simp; try (with_reducible rfl)))); (try simp only [List.getElem_toArray, List.getElem_cons_zero, List.getElem_cons_succ, Act.put, List.setIfInBounds_toArray, List.set_cons_zero, List.set_cons_succ]); (refine wpAnyH_take (i := 6) (v := ?_) rfl (by kernel_rfl) (by kernel_rfl) (by kernel_rfl) (fun _ _ _ h => h) (Or.inl ⟨by rfl, ?_⟩) (by assumption) ?_; rotate_left; (focus (intro W hSw; (try dsimp only at hSw); go_simp; try (with_reducible rfl)))); (try simp only [List.getElem_toArray, List.getElem_cons_zero, List.getElem_cons_succ, Act.put, List.setIfInBounds_toArray, List.set_cons_zero, List.set_cons_succ]); (refine wpAnyH_take (i := 7) (v := ?_) rfl (by kernel_rfl) (by kernel_rfl) (by kernel_rfl) (fun _ _ _ h => h) (Or.inl ⟨by rfl, ?_⟩) (by assumption) ?_; rotate_left; (focus (intro W hSw; (try dsimp only at hSw); go_simp; try (with_reducible rfl)))); (try simp only [List.getElem_toArray, List.getElem_cons_zero, List.getElem_cons_succ, Act.put, List.setIfInBounds_toArray, List.set_cons_zero, List.set_cons_succ]); (refine wpAnyH_take (i := 8) (v := ?_) rfl (by kernel_rfl) (by kernel_rfl) (by kernel_rfl) (fun _ _ _ h => h) (Or.inl ⟨by rfl, ?_⟩) (by assumption) ?_; rotate_left; (focus (intro W hSw; (try dsimp only at hSw); go_simp; try (with_reducible rfl)))); (try simp only [List.getElem_toArray, List.getElem_cons_zero, List.getElem_cons_succ, Act.put, List.setIfInBounds_toArray, List.set_cons_zero, List.set_cons_succ]); (refine wpAnyH_take (i := 11) (v := ?_) rfl (by kernel_rfl) (by kernel_rfl) (by kernel_rfl) (fun _ _ _ h => h) (Or.inl ⟨by rfl, ?_⟩) (by assumption) ?_; rotate_left; (focus (intro W hSw; (try dsimp only at hSw); go_simp; try (with_reducible rfl)))); (try simp only [List.getElem_toArray, List.getElem_cons_zero, List.getElem_cons_succ, Act.put, List.setIfInBounds_toArray, List.set_cons_zero, List.set_cons_succ]))
      (refine wpAnyH_ready (rs := [9]) (by kernel_rfl) (by simp) ?_; refine AllReadyH.cons rfl (fun K hK => ?_) AllReadyH.nil)
      go_simp
      refine (HAB.out _).mono ?_; rintro e _ ⟨rfl, rfl⟩
      refine hK.out _ _ ⟨p0, hcy2⟩ (fun hHeld => ?_)
      clear hK K
      (try simp only [List.getElem_toArray, List.getElem_cons_zero, List.getElem_cons_succ, Act.put, List.setIfInBounds_toArray, List.set_cons_zero, List.set_cons_succ])
      ((refine wpAnyH_take (i := 10) (v := ?_) rfl (by kernel_rfl) (by kernel_rfl) (by kernel_rfl) (fun _ _ _ h => h) (Or.inl ⟨by rfl, ?_⟩) (by assumption) ?_; rotate_left; (focus (intro W hSw; (try dsimp only at hSw); go_simp; try (with_reducible rfl)))); (try simp only [List.getElem_toArray, List.getElem_cons_zero, List.getElem_cons_succ, Act.put, List.setIfInBounds_toArray, List.set_cons_zero, List.set_cons_succ]); (refine wpAnyH_take (i := 12) (v := ?_) rfl (by kernel_rfl) (by kernel_rfl) (by kernel_rfl) (fun _ _ _ h => h) (Or.inl ⟨by rfl, ?_⟩) (by assumption) ?_; rotate_left; (focus (intro W hSw; (try dsimp only at hSw); go_simp; try (with_reducible rfl)))); (try simp only [List.getElem_toArray, List.getElem_cons_zero, List.getElem_cons_succ, Act.put, List.setIfInBounds_toArray, List.set_cons_zero, List.set_cons_succ]))
      (refine wpAnyH_ready (rs := [13]) (by kernel_rfl) (by simp) ?_; refine AllReadyH.cons rfl (fun K hK => ?_) AllReadyH.nil)
      go_simp
      refine hK.out _ _ ⟨(hk.drew1.alloc _).c2.1, cell_alloc (show (World.drew wr).cell? ⟨gW, t, none⟩ = _ from hcy2) _⟩ (fun hHeld => ?_)
      clear hK K
      (try simp only [List.getElem_toArray, List.getElem_cons_zero, List.getElem_cons_succ, Act.put, List.setIfInBounds_toArray, List.set_cons_zero, List.set_cons_succ])
      have hlz : lo ≤ ((World.drew wr).alloc (.cells #[.int .i64 1, .int .i64 (x - 1), .int .i64 (-1), .int .i64 0, .int .i64 0, .int .i64 0] 49)).heap.size := by have e : (World.drew wr).heap.size = wr.heap.size := rfl; rw [World.size_alloc, e]; omega
      have olit := OwnC.news (OwnC.lit (w := World.drew wr) (lo := lo) (n := 1) 49 6 #[.int .i64 1, .int .i64 (x - 1), .int .i64 (-1), .int .i64 0, .int .i64 0, .int .i64 0] (by have e : (World.drew wr).heap.size = wr.heap.size := rfl; omega) (by decide) rfl)
      (refine wpAnyH_ready (rs := [14]) (by kernel_rfl) (by simp) ?_; refine AllReadyH.cons rfl (fun K hK => ?_) AllReadyH.nil)
      refine wp_appendC_at ((World.drew wr).alloc (.cells #[.int .i64 1, .int .i64 (x - 1), .int .i64 (-1), .int .i64 0, .int .i64 0, .int .i64 0] 49)) (.tmp 48) (.tmp 57) _ rfl 49 iE _ 6 48 Try.underlying26 ie0 iz0 iz1 iz2 rfl (by decide) (by simp [Act.eval]) ((OwnC.drew1 ho).alloc _) hlz (some ⟨wr.heap.size, 0, none⟩) 1 1 [.int .i64 1, .int .i64 (x - 1), .int .i64 (-1), .int .i64 0, .int .i64 0, .int .i64 0] (by simp [Act.eval]) (by simp) olit (by simp [Value.oneCell']) (by unfold maxLen; omega) (by omega) ?_
      intro A9 c9 w8 ho8 hg8 hb8 _
      obtain ⟨hk8, hS8, hB8, hX8⟩ := SHd.push (e := evCross (-1) x) hk ho hc hlo ho8 hg8 hb8
      refine hK.out _ _ ⟨hk8.c2.1, cell_blk bW (hX8 _ _ _ (by decide) (by decide) bW).1 t hcy2⟩ (fun hHeld => ?_)
      clear hK K
      (try simp only [List.getElem_toArray, List.getElem_cons_zero, List.getElem_cons_succ, Act.put, List.setIfInBounds_toArray, List.set_cons_zero, List.set_cons_succ])
      (refine wpAnyH_done (by kernel_rfl) ?_ _; change wpList _ _ _ _ _ _)
      clear hHeld
      obtain ⟨y0, y1⟩ := hk8.c2
      have y2 := hk8.frozen 0
      have how := ow.keepT (w' := w8.setCell ⟨g, 0, none⟩ (.slice A9 (E.length + 1) c9)) (fun k cur _ _ hkk => ((hX8 k 2 cur (by decide) (by decide) hkk).2).trans hkk.symm)
      have hRr := (hX8 _ _ _ (by decide) (by decide) bRr).2
      have HS8 := Lib.hid hS8; clear hS8
      have HOW := Lib.hid how; clear how
      have HRR := Lib.hid hRr; clear hRr
      have HB8 := Lib.hid hB8; clear hB8
      clear hX8 ho8 hg8 hb8 olit hlz hk8
      go_wp2_with (fail)
      exact ⟨⟨t + 1, E ++ [evCross (-1) x], by omega, by go_num, Lib.hid (by rw [HCE.out, HE.out, List.append_assoc]), by simp; omega, HS8.out, HOW.out, HRR.out, hbr.trans HB8.out⟩, by first | (simp [intOf]; done) | (simp [intOf]; omega)⟩
    · obtain rfl : t = Wd.length := by omega
      have dk : decide ((Wd.length : Int) < (Wd.length : Int)) = false := decide_eq_false (by omega)
      have hrw : Ints wr (some ⟨gR, 0, none⟩) c := HROW.out.blk BR.out bRr
      obtain ⟨AC, cC3, p1, hi2⟩ := hst.read
      obtain ⟨b9, off9, _, _, _, rfl, _, _, _, _⟩ := hi2 i hic
      dsimp only at p1
      have hzr := hst.lt
      have CO : Hid (Calls Try.prog 56 #[.slice (some ⟨gR, 1, none⟩) 1 (c3 - 1)] (wr.drewN 1) fun e w' => ∃ A' c', e = .returned (.slice A' 1 c') ∧ OwnC w' wr.heap.size w'.heap.size 2 1 A' 1 c' ((c.drop 1).map (Value.int .i64)) ∧ Below wr.heap.size wr w') := Lib.hid (by
        have hrd : Ints wr (some ⟨gR, 0 + 1, none⟩) (c.drop 1) := hrw.drop 1
        have := spec_l00Own (some ⟨gR, 1, none⟩) (c3 - 1) (c.drop 1) (wr.drewN 1) hrd (by rw [L2.out]; decide)
        rw [L2.out] at this
        refine this.mono ?_
        rintro e w' ⟨A', c', h1, h2, h3⟩
        refine ⟨A', c', h1, ?_, (below_drewN (Below.refl _ _) 1).trans h3⟩
        have h2' : OwnC w' wr.heap.size w'.heap.size 2 1 A' (c.drop 1).length c' ((c.drop 1).map (Value.int .i64)) := h2
        rw [L2.out] at h2'
        exact h2')
      obtain ⟨i0, hi0, hz0, hz1, hz2⟩ := info_parts info_int64
      have HST := Lib.hid hst
      clear hi2 hst
      go_upto_region 9 with fail
      (refine wp_region_pops 2 (S := (fun W' => W'.cell? ⟨g, 1, none⟩ = some (.slice (some ⟨b9, off9, none⟩) s.cells.length cC3))) (pre := ?_) (T := ?_) (n := ?_) (by kernel_rfl) (by kernel_rfl) ?_ ?_ ?_ ?_ (fun hHeld => ?_); rotate_left 3; (focus (simp only [pops, List.pop_toArray, List.dropLast_cons_cons, List.dropLast_singleton]; rfl)); (focus (simp only [tailOf, List.pop_toArray, List.dropLast_cons_cons, List.dropLast_singleton, List.back?_toArray, List.getLast?_cons_cons, List.getLast?_singleton, Option.toList_some, List.nil_append, List.cons_append]; rfl)); (focus rfl); (focus (exact p1)))
      ((refine wpAnyH_take (i := 0) (v := ?_) rfl (by kernel_rfl) (by kernel_rfl) (by kernel_rfl) (fun _ _ _ h => h) (Or.inl ⟨by rfl, ?_⟩) (by assumption) ?_; rotate_left; (focus (intro W hSw; (try dsimp only at hSw); go_simp; try (with_reducible rfl)))); (try simp only [List.getElem_toArray, List.getElem_cons_zero, Act.put, List.setIfInBounds_toArray, List.set_cons_zero, List.set_cons_succ]); (refine wpAnyH_take (i := 1) (v := ?_) rfl (by kernel_rfl) (by kernel_rfl) (by kernel_rfl) (fun _ _ _ h => h) (Or.inl ⟨by rfl, ?_⟩) (by assumption) ?_; rotate_left; (focus (intro W hSw; (try dsimp only at hSw); go_simp; try (with_reducible rfl)))); (try simp only [List.getElem_toArray, List.getElem_cons_zero, List.getElem_cons_succ, Act.put, List.setIfInBounds_toArray, List.set_cons_zero, List.set_cons_succ]); (refine wpAnyH_take (i := 2) (v := ?_) rfl (by kernel_rfl) (by kernel_rfl) (by kernel_rfl) (fun _ _ _ h => h) (Or.inl ⟨by rfl, ?_⟩) (by assumption) ?_; rotate_left; (focus (intro W hSw; (try dsimp only at hSw); go_simp; try (with_reducible rfl)))); (try simp only [List.getElem_toArray, List.getElem_cons_zero, List.getElem_cons_succ, Act.put, List.setIfInBounds_toArray, List.set_cons_zero, List.set_cons_succ]); (refine wpAnyH_take (i := 3) (v := ?_) rfl (by kernel_rfl) (by kernel_rfl) (by kernel_rfl) (fun _ _ _ h => h) (Or.inl ⟨by rfl, ?_⟩) (by assumption) ?_; rotate_left; (focus (intro W hSw; (try dsimp only at hSw); go_simp; try (with_reducible rfl)))); (try simp only [List.getElem_toArray, List.getElem_cons_zero, List.getElem_cons_succ, Act.put, List.setIfInBounds_toArray, List.set_cons_zero, List.set_cons_succ]); (refine wpAnyH_take (i := 4) (v := ?_) rfl (by kernel_rfl) (by kernel_rfl) (by kernel_rfl) (fun _ _ _ h => h) (Or.inl ⟨by rfl, ?_⟩) (by assumption) ?_; rotate_left; (focus (intro W hSw; (try dsimp only at hSw); go_simp; try (with_reducible rfl)))); (try simp only [List.getElem_toArray, List.getElem_cons_zero, List.getElem_cons_succ, Act.put, List.setIfInBounds_toArray, List.set_cons_zero, List.set_cons_succ]); (refine wpAnyH_take (i := 5) (v := ?_) rfl (by kernel_rfl) (by kernel_rfl) (by kernel_rfl) (fun _ _ _ h => h) (Or.inl ⟨by rfl, ?_⟩) (by assumption) ?_; rotate_left; (focus (intro W hSw; (try dsimp only at hSw); go_simp; try (with_reducible rfl)))); (try simp only [List.getElem_toArray, List.getElem_cons_zero, List.getElem_cons_succ, Act.put, List.setIfInBounds_toArray, List.set_cons_zero, List.set_cons_succ]); (refine wpAnyH_take (i := 6) (v := ?_) rfl (by kernel_rfl) (by kernel_rfl) (by kernel_rfl) (fun _ _ _ h => h) (Or.inl ⟨by rfl, ?_⟩) (by assumption) ?_; rotate_left; (focus (intro W hSw; (try dsimp only at hSw); go_simp; try (with_reducible rfl)))); (try simp only [List.getElem_toArray, List.getElem_cons_zero, List.getElem_cons_succ, Act.put, List.setIfInBounds_toArray, List.set_cons_zero, List.set_cons_succ]); (refine wpAnyH_take (i := 7) (v := ?_) rfl (by kernel_rfl) (by kernel_rfl) (by kernel_rfl) (fun _ _ _ h => h) (Or.inl ⟨by rfl, ?_⟩) (by assumption) ?_; rotate_left; (focus (intro W hSw; (try dsimp only at hSw); go_simp; try (with_reducible rfl)))); (try simp only [List.getElem_toArray, List.getElem_cons_zero, List.getElem_cons_succ, Act.put, List.setIfInBounds_toArray, List.set_cons_zero, List.set_cons_succ]); (refine wpAnyH_take (i := 9) (v := ?_) rfl (by kernel_rfl) (by kernel_rfl) (by kernel_rfl) (fun _ _ _ h => h) (Or.inl ⟨by rfl, ?_⟩) (by assumption) ?_; rotate_left; (focus (intro W hSw; (try dsimp only at hSw); go_simp; try (with_reducible rfl)))); (try simp only [List.getElem_toArray, List.getElem_cons_zero, List.getElem_cons_succ, Act.put, List.setIfInBounds_toArray, List.set_cons_zero, List.set_cons_succ]); (refine wpAnyH_take (i := 10) (v := ?_) rfl (by kernel_rfl) (by kernel_rfl) (by kernel_rfl) (fun _ _ _ h => h) (Or.inl ⟨by rfl, ?_⟩) (by assumption) ?_; rotate_left; (focus (intro W hSw; (try dsimp only at hSw); go_simp; try (with_reducible rfl)))); (try simp only [List.getElem_toArray, List.getElem_cons_zero, List.getElem_cons_succ, Act.put, List.setIfInBounds_toArray, List.set_cons_zero, List.set_cons_succ]); (refine wpAnyH_take (i := 11) (v := ?_) rfl (by kernel_rfl) (by kernel_rfl) (by kernel_rfl) (fun _ _ _ h => h) (Or.inl ⟨by rfl, ?_⟩) (by assumption) ?_; rotate_left; (focus (intro W hSw; (try dsimp only at hSw); go_simp; try (with_reducible rfl)))); (try simp only [List.getElem_toArray, List.getElem_cons_zero, List.getElem_cons_succ, Act.put, List.setIfInBounds_toArray, List.set_cons_zero, List.set_cons_succ]))
      (refine wpAnyH_ready (rs := [8]) (by kernel_rfl) (by simp) ?_; refine AllReadyH.cons rfl (fun K hK => ?_) AllReadyH.nil)
      go_simp
      refine CO.out.mono ?_; rintro e w6 ⟨A6, c6, rfl, o6, b6⟩
      refine hK.out _ _ (cells_below b6 _ _ p1) (fun hHeld => ?_)
      clear hK K
      (try simp only [List.getElem_toArray, List.getElem_cons_zero, List.getElem_cons_succ, Act.put, List.setIfInBounds_toArray, List.set_cons_zero, List.set_cons_succ])
      have hlz6 := b6.size
      have hr6 := (hrw.below b6).take 1
      have L1' := Lib.hid (show ((c.take 1).map (Value.int .i64)).length = 1 * 1 by rw [List.length_map, L1.out])
      (refine wpAnyH_ready (rs := [12]) (by kernel_rfl) (by simp) ?_; refine AllReadyH.cons rfl (fun K hK => ?_) AllReadyH.nil)
      refine wp_appendC_at w6 (.tmp 69) (.tmp 72) _ rfl 2 i0 _ 1 8 Try.underlying22 hi0 hz0 hz1 hz2 rfl (by decide) (by simp [Act.eval]) o6 hlz6 (some ⟨gR, 0, none⟩) 1 c3 ((c.take 1).map (Value.int .i64)) (by simp [Act.eval]) L1'.out hr6.newsM (fun u hu => by obtain ⟨z, _, rfl⟩ := List.mem_map.1 hu; rfl) (by unfold maxLen; omega) (by omega) ?_
      intro A7 c7 w7 ho7 hg7 hb7 _
      have hb67 : Below wr.heap.size wr w7 := b6.trans hb7
      refine hK.out _ _ (cells_below hb67 _ _ p1) (fun hHeld => ?_)
      clear hK K
      (try simp only [List.getElem_toArray, List.getElem_cons_zero, List.getElem_cons_succ, Act.put, List.setIfInBounds_toArray, List.set_cons_zero, List.set_cons_succ])
      (refine wpAnyH_done (by kernel_rfl) ?_ _; change wpList _ _ _ _ _ _)
      clear hHeld
      have hrl : (c.drop 1 ++ c.take 1).length = 1 + 1 := by rw [List.length_append, L1.out, L2.out]
      have ho7' : OwnI w7 wr.heap.size w7.heap.size A7 c7 (c.drop 1 ++ c.take 1) := by
        show OwnC _ _ _ _ _ _ _ _ _
        rw [hrl, List.map_append]
        exact ho7
      obtain ⟨gC4, cC4, y1, ⟨v, y2⟩, y3, hs3, hb3⟩ := HST.out.setRow (i := i) hic hb67 ho7'
      rw [hrl] at hs3 hb3
      dsimp only at y1
      rw [p1] at y1
      injection y1 with y1
      injection y1 with y1 _ y1c
      injection y1 with y1
      injection y1 with y1 y1b
      subst y1 y1b y1c
      have HS3 := Lib.hid hs3; clear hs3
      have HB3 := Lib.hid hb3; clear hb3
      clear CO o6 b6 hr6 ho7 hg7 hb7 ho7' hrl hb67 p1 hrw
      go_wp2_with (fail)
      go_end0
      rw [HM.out]
      have hE : E = s.evs ++ Ce := by rw [HE.out, ← HWL.out, List.take_of_length_le (Nat.le_refl _)]
      rw [← hE]
      exact ⟨rfl, HS3.out, hbr.trans HB3.out⟩

set_option maxHeartbeats 4000000 in
set_option maxRecDepth 10000 in
theorem spec_cross_10 {z : Option (Nat × Array Value)} {lo g m : Nat} {s : HS} {S : Int} {w : World} (h : SHd z lo g w s) (hG : GoodC m s.cells S) (hS : S ≤ 100) (hm : m ≤ 16) {i : Nat} {c : List Int} (hx : s.cells[i]? = some c) (hlen : c.length = 4) (hl : s.evs.length ≤ 50000) :
    Calls Try.prog 34 #[.pointer (some ⟨g, 0, none⟩), .int .i64 (i : Int), .int .i64 10] w fun e w' =>
      e = .returned (.tuple #[]) ∧ SHd z lo g w' (crossTo 10 i c s) ∧ Below lo w w' := by
  have him := hG.lt hx
  have hic : i < s.cells.length := by rw [hG.len]; exact him
  obtain ⟨hnn, h4, hle, h0⟩ := hG.at_ hx
  have hT0 := (hG.take i).1
  have hP := hnn.part 2
  obtain ⟨x, hy⟩ : ∃ x, c[0]? = some x := ⟨_, List.getElem?_eq_getElem (by omega)⟩
  obtain ⟨gC, cC, gR, c3, q1, q2, _, _, hrow, hcap, _⟩ := h.setAt hx hy
  obtain ⟨a, ha⟩ := Int.eq_ofNat_of_zero_le hP.1
  obtain ⟨b, hb⟩ := Int.eq_ofNat_of_zero_le hP.2.2.1
  have ha100 : a ≤ 100 := by omega
  have hb100 : b ≤ 100 := by omega
  have hpl : 0 ≤ tot (s.cells.take i) ∧ tot (s.cells.take i) ≤ 1000 := by omega
  have HM : Hid (crossTo 10 i c s = ⟨s.evs ++ crossEvs (tot (s.cells.take i)) 1 a b, s.cells.set i (c.drop 2 ++ c.take 2)⟩) := Lib.hid (by
    unfold crossTo
    rw [if_neg (by decide), hlen]
    show (⟨s.evs ++ crossEvs (tot (s.cells.take i)) 1 (sumI (c.take 2)).toNat (sumI (c.drop 2)).toNat, _⟩ : HS) = _
    rw [ha, hb]
    rfl)
  have CB : Hid (∀ q, Calls Try.prog 37 #[.pointer (some ⟨g, 0, none⟩), .int .i64 (i : Int)] (w.drewN q) fun e w' => e = .returned (.int .i64 (tot (s.cells.take i))) ∧ w.drewN q = w') :=
    Lib.hid (fun q => spec_before (h.drewN q) hG (by omega) hm i (by omega))
  have l1 : (c.take 2).length = 2 := by rw [List.length_take]; omega
  have l2 : (c.drop 2).length = 2 := by rw [List.length_drop]; omega
  have hrd : Ints w (some ⟨gR, 0 + 2, none⟩) (c.drop 2) := hrow.drop 2
  have C1 : Hid (∀ q, Calls Try.prog 29 #[.slice (some ⟨gR, 0, none⟩) 2 c3] (w.drewN q) fun e w' => e = .returned (.int .i64 (a : Int)) ∧ w.drewN q = w') :=
    Lib.hid (fun q => by
      have := spec_l17Sum (some ⟨gR, 0, none⟩) c3 (c.take 2) (w.drewN q) (hrow.take 2) (by omega)
      rw [l1, sum64_sumI (hnn.take 2) (by omega), ha] at this
      exact this)
  have C2 : Hid (∀ q, Calls Try.prog 29 #[.slice (some ⟨gR, 2, none⟩) 2 (c3 - 2)] (w.drewN q) fun e w' => e = .returned (.int .i64 (b : Int)) ∧ w.drewN q = w') :=
    Lib.hid (fun q => by
      have := spec_l17Sum (some ⟨gR, 2, none⟩) (c3 - 2) (c.drop 2) (w.drewN q) hrd (by omega)
      rw [l2, sum64_sumI (hnn.drop 2) (by omega), hb] at this
      exact this)
  have HX := Lib.hid hx
  have H0 := Lib.hid h
  have HCL := Lib.hid hlen
  rw [hlen] at hcap
  have u1 : (2 : Int) ≤ (c3 : Int) := by omega
  have u2 : (4 : Int) ≤ (c3 : Int) := by omega
  have u3 : ¬ c3 - 2 = 0 := by omega
  have v1 : 2 ≤ c3 := by omega
  have v2 : 0 < c3 := by omega
  have v3 : 4 ≤ c3 := by omega
  have v4 : ¬ c3 = 0 := by omega
  have v5 : ¬ c3 ≤ 2 := by omega
  have v6 : 2 < c3 := by omega
  have v7 : ¬ c3 = 2 := by omega
  have j1 : (0 : Int) ≤ (i : Int) := by omega
  have j3 : (i : Int) < (s.cells.length : Int) := by omega
  have hp100 : tot (s.cells.take i) ≤ 100 := by omega
  obtain ⟨_, _, _, _, _, curR, z1, z2, _, _, bR⟩ := h.two hx hy
  rw [q1] at z1
  injection z1 with z1
  injection z1 with z1 _ z1c
  injection z1 with z1
  injection z1 with z1
  subst z1 z1c
  rw [q2] at z2
  injection z2 with z2
  injection z2 with z2 _ z2c
  injection z2 with z2
  injection z2 with z2
  subst z2 z2c
  have HROW := Lib.hid hrow
  have BR := Lib.hid bR; clear bR
  generalize hpe : tot (s.cells.take i) = p at *
  have HPE := Lib.hid hpe; clear hpe
  rw [hlen] at q2
  have L1 := Lib.hid l1; have L2 := Lib.hid l2
  clear h hx hlen hnn ha hb hy l1 l2 hrd hrow hG
  go_enter Try.func34, Try.ntmps34
  go_wp2_with (fail)
  refine (spec_l17Sign 10 (by decide) w).mono ?_; rintro e _ ⟨rfl, rfl⟩
  rw [show signI 10 = 1 from rfl]
  go_upto_region 4 with fail
  (refine wp_region_pops 0 (S := (fun _ => True)) (pre := ?_) (T := ?_) (n := ?_) (by kernel_rfl) (by kernel_rfl) ?_ ?_ ?_ ?_ (fun hHeld => ?_); rotate_left 3; (focus (simp only [pops]; rfl)); (focus (simp only [tailOf]; rfl)); (focus rfl); (focus (trivial)))
  ((refine wpAnyH_take (i := 0) (v := ?_) rfl (by kernel_rfl) (by kernel_rfl) (by kernel_rfl) (fun _ _ _ h => h) (Or.inl ⟨by rfl, ?_⟩) (by assumption) ?_; rotate_left; (focus (intro W hSw; (try dsimp only at hSw); go_simp; try (with_reducible rfl)))); (try simp only [List.getElem_toArray, List.getElem_cons_zero, Act.put, List.setIfInBounds_toArray, List.set_cons_zero, List.set_cons_succ]); (refine wpAnyH_take (i := 1) (v := ?_) rfl (by kernel_rfl) (by kernel_rfl) (by kernel_rfl) (fun _ _ _ h => h) (Or.inl ⟨by rfl, ?_⟩) (by assumption) ?_; rotate_left; (focus (intro W hSw; (try dsimp only at hSw); go_simp; try (with_reducible rfl)))); (try simp only [List.getElem_toArray, List.getElem_cons_zero, List.getElem_cons_succ, Act.put, List.setIfInBounds_toArray, List.set_cons_zero, List.set_cons_succ]); (refine wpAnyH_take (i := 3) (v := ?_) rfl (by kernel_rfl) (by kernel_rfl) (by kernel_rfl) (fun _ _ _ h => h) (Or.inl ⟨by rfl, ?_⟩) (by assumption) ?_; rotate_left; (focus (intro W hSw; (try dsimp only at hSw); go_simp; try (with_reducible rfl)))); (try simp only [List.getElem_toArray, List.getElem_cons_zero, List.getElem_cons_succ, Act.put, List.setIfInBounds_toArray, List.set_cons_zero, List.set_cons_succ]); (refine wpAnyH_take (i := 4) (v := ?_) rfl (by kernel_rfl) (by kernel_rfl) (by kernel_rfl) (fun _ _ _ h => h) (Or.inl ⟨by rfl, ?_⟩) (by assumption) ?_; rotate_left; (focus (intro W hSw; (try dsimp only at hSw); go_simp; try (with_reducible rfl)))); (try simp only [List.getElem_toArray, List.getElem_cons_zero, List.getElem_cons_succ, Act.put, List.setIfInBounds_toArray, List.set_cons_zero, List.set_cons_succ]); (refine wpAnyH_take (i := 5) (v := ?_) rfl (by kernel_rfl) (by kernel_rfl) (by kernel_rfl) (fun _ _ _ h => h) (Or.inl ⟨by rfl, ?_⟩) (by assumption) ?_; rotate_left; (focus (intro W hSw; (try dsimp only at hSw); go_simp; try (with_reducible rfl)))); (try simp only [List.getElem_toArray, List.getElem_cons_zero, List.getElem_cons_succ, Act.put, List.setIfInBounds_toArray, List.set_cons_zero, List.set_cons_succ]); (refine wpAnyH_take (i := 7) (v := ?_) rfl (by kernel_rfl) (by kernel_rfl) (by kernel_rfl) (fun _ _ _ h => h) (Or.inl ⟨by rfl, ?_⟩) (by assumption) ?_; rotate_left; (focus (intro W hSw; (try dsimp only at hSw); go_simp; try (with_reducible rfl)))); (try simp only [List.getElem_toArray, List.getElem_cons_zero, List.getElem_cons_succ, Act.put, List.setIfInBounds_toArray, List.set_cons_zero, List.set_cons_succ]); (refine wpAnyH_take (i := 8) (v := ?_) rfl (by kernel_rfl) (by kernel_rfl) (by kernel_rfl) (fun _ _ _ h => h) (Or.inl ⟨by rfl, ?_⟩) (by assumption) ?_; rotate_left; (focus (intro W hSw; (try dsimp only at hSw); go_simp; try (with_reducible rfl)))); (try simp only [List.getElem_toArray, List.getElem_cons_zero, List.getElem_cons_succ, Act.put, List.setIfInBounds_toArray, List.set_cons_zero, List.set_cons_succ]); (refine wpAnyH_take (i := 9) (v := ?_) rfl (by kernel_rfl) (by kernel_rfl) (by kernel_rfl) (fun _ _ _ h => h) (Or.inl ⟨by rfl, ?_⟩) (by assumption) ?_; rotate_left; (focus (intro W hSw; (try dsimp only at hSw); go_simp; try (with_reducible rfl)))); (try simp only [List.getElem_toArray, List.getElem_cons_zero, List.getElem_cons_succ, Act.put, List.setIfInBounds_toArray, List.set_cons_zero, List.set_cons_succ]); (refine wpAnyH_take (i := 11) (v := ?_) rfl (by kernel_rfl) (by kernel_rfl) (by kernel_rfl) (fun _ _ _ h => h) (Or.inl ⟨by rfl, ?_⟩) (by assumption) ?_; rotate_left; (focus (intro W hSw; (try dsimp only at hSw); go_simp; try (with_reducible rfl)))); (try simp only [List.getElem_toArray, List.getElem_cons_zero, List.getElem_cons_succ, Act.put, List.setIfInBounds_toArray, List.set_cons_zero, List.set_cons_succ]))
  (refine wpAnyH_ready (rs := [2]) (by kernel_rfl) (by simp) ?_; refine AllReadyH.cons rfl (fun K hK => ?_) AllReadyH.nil)
  go_simp
  refine (CB.out 1).mono ?_; rintro e _ ⟨rfl, rfl⟩
  refine hK.out _ _ trivial (fun hHeld => ?_)
  clear hK K
  (try simp only [List.getElem_toArray, List.getElem_cons_zero, List.getElem_cons_succ, Act.put, List.setIfInBounds_toArray, List.set_cons_zero, List.set_cons_succ])
  (refine wpAnyH_ready (rs := [6]) (by kernel_rfl) (by simp) ?_; refine AllReadyH.cons rfl (fun K hK => ?_) AllReadyH.nil)
  go_simp
  refine (C1.out 1).mono ?_; rintro e _ ⟨rfl, rfl⟩
  refine hK.out _ _ trivial (fun hHeld => ?_)
  clear hK K
  (try simp only [List.getElem_toArray, List.getElem_cons_zero, List.getElem_cons_succ, Act.put, List.setIfInBounds_toArray, List.set_cons_zero, List.set_cons_succ])
  (refine wpAnyH_ready (rs := [10]) (by kernel_rfl) (by simp) ?_; refine AllReadyH.cons rfl (fun K hK => ?_) AllReadyH.nil)
  go_simp
  refine (C2.out 1).mono ?_; rintro e _ ⟨rfl, rfl⟩
  refine hK.out _ _ trivial (fun hHeld => ?_)
  clear hK K
  (try simp only [List.getElem_toArray, List.getElem_cons_zero, List.getElem_cons_succ, Act.put, List.setIfInBounds_toArray, List.set_cons_zero, List.set_cons_succ])
  (refine wpAnyH_ready (rs := [12]) (by kernel_rfl) (by simp) ?_; refine AllReadyH.cons rfl (fun K hK => ?_) AllReadyH.nil)
  go_simp
  refine (spec_l03Swap p a b 1 (w.drewN 1) (by decide) hpl ha100 hb100).mono ?_; rintro e w5 ⟨A5, c5, rfl, o5, b5⟩
  refine hK.out _ _ trivial (fun hHeld => ?_)
  clear hK K
  (try simp only [List.getElem_toArray, List.getElem_cons_zero, List.getElem_cons_succ, Act.put, List.setIfInBounds_toArray, List.set_cons_zero, List.set_cons_succ])
  ((refine wpAnyH_take (i := 13) (v := ?_) rfl (by kernel_rfl) (by kernel_rfl) (by kernel_rfl) (fun _ _ _ h => h) (Or.inl ⟨by rfl, ?_⟩) (by assumption) ?_; rotate_left; (focus (intro W hSw; (try dsimp only at hSw); go_simp; try (with_reducible rfl)))); (try simp only [List.getElem_toArray, List.getElem_cons_zero, List.getElem_cons_succ, Act.put, List.setIfInBounds_toArray, List.set_cons_zero, List.set_cons_succ]))
  (refine wpAnyH_done (by kernel_rfl) ?_ _; change wpList _ _ _ _ _ _)
  clear hHeld CB C1 C2
  have hb5 : Below w.heap.size w w5 := (below_drewN (Below.refl _ _) 1).trans b5
  have hlz0 := H0.out.lt
  have H5 : SHd z lo g w5 s := H0.out.below hb5
  have bR5 := BR.out.below hb5 BR.out.lt
  have hB5 : Below lo w w5 := hb5.mono hlz0
  have hz5 := hb5.size
  have HWD : Hid (∀ t y, (swTo p 1 a b)[t]? = some y → ∃ x, p + 1 ≤ x ∧ x ≤ p + a + b ∧ y = 1 * x ∧ (crossEvs p 1 a b)[t]? = some (evCross 1 x)) := Lib.hid (fun t y hy => cross_word hy)
  have hWl : (swTo p 1 a b).length ≤ 10000 := by rw [swTo_length]; exact Nat.le_trans (Nat.mul_le_mul ha100 hb100) (by decide)
  have HWL : Hid ((crossEvs p 1 a b).length = (swTo p 1 a b).length) := Lib.hid (by rw [crossEvs_length, swTo_length])
  have o5' : OwnC w5 w.heap.size w5.heap.size 2 1 A5 (swTo p 1 a b).length c5 ((swTo p 1 a b).map (Value.int .i64)) := o5
  clear o5 b5 hb5
  generalize swTo p 1 a b = Wd at *
  generalize crossEvs p 1 a b = Ce at *
  obtain ⟨iE, ie0, iz0, iz1, iz2⟩ := info_parts info_Event
  go_wp2_with (fail)
  go_loopw [10] (fun kv wr => ∃ (t : Nat) (E : List EventD), t ≤ Wd.length ∧ kv = .int .i64 t ∧ Hid (E = s.evs ++ Ce.take t) ∧ E.length ≤ 50000 + t ∧ SHd z lo g wr ⟨E, s.cells⟩ ∧ OwnC wr w.heap.size w5.heap.size 2 1 A5 Wd.length c5 (Wd.map (Value.int .i64)) ∧ Blk wr gR 2 curR ∧ Below lo w wr) (fun kv _ => Wd.length - (intOf kv).toNat)
  case atStart => exact ⟨0, s.evs, Nat.zero_le _, rfl, Lib.hid (by simp), by omega, H5, o5', bR5, hB5⟩
  case round =>
    clear H5 o5' bR5 hB5
    obtain ⟨t, E, ht, rfl, HE, hEl, hst, ow, bRr, hbr⟩ := hrel
    by_cases htl : t < Wd.length
    · obtain ⟨gW, rfl, _, _, hcy, _⟩ := ow.cell (j := t) (by simpa using htl)
      obtain ⟨curW, bW, _, _⟩ := ow.blkEx
      obtain ⟨y, hy⟩ : ∃ y, Wd[t]? = some y := ⟨_, List.getElem?_eq_getElem htl⟩
      have hcy2 : wr.cell? ⟨gW, t, none⟩ = some (.int .i64 y) := by
        rw [hcy]
        rw [List.getElem?_eq_getElem htl] at hy
        injection hy with hy
        simp [hy]
      obtain ⟨x, hx1, hx2, hyx, hce⟩ := HWD.out t y hy
      have HAB : Hid (∀ W, Calls Try.prog 55 #[.int .i64 y] W fun e w' => e = .returned (.int .i64 x) ∧ W = w') := Lib.hid (fun W => by rw [hyx]; exact spec_abs_sign 1 x (by decide) W (by omega) (by omega))
      have HCE : Hid (Ce.take (t + 1) = Ce.take t ++ [evCross 1 x]) := Lib.hid (take_snoc hce)
      obtain ⟨⟨AE, cE, AC, cC2, hk, ho, hc⟩, hlo⟩ := hst
      dsimp only at hk ho hc
      have p0 := hk.c2.1
      have hwz := hk.lt
      have wx : IntKind.i64.wrap (x - 1) = x - 1 := IntWalk.i64_in _ ⟨by omega, by omega⟩
      have dk : decide ((t : Int) < (Wd.length : Int)) = true := decide_eq_true (by omega)
      have j4 : (0 : Int) ≤ (t : Int) := by omega
      have j5 : (t : Int) < (Wd.length : Int) := by omega
      clear hcy hy hyx hce
      go_upto_region 8 with fail
      (refine wp_region_pops 3 (S := (fun W' => W'.cell? ⟨g, 0, none⟩ = some (.slice AE E.length cE) ∧ W'.cell? ⟨gW, t, none⟩ = some (.int .i64 y))) (pre := ?_) (T := ?_) (n := ?_) (by kernel_rfl) (by kernel_rfl) ?_ ?_ ?_ ?_ (fun hHeld => ?_); rotate_left 3; (focus (simp only [pops, List.pop_toArray, List.dropLast_cons_cons, List.dropLast_singleton]; rfl)); (focus (simp only [tailOf, List.pop_toArray, List.dropLast_cons_cons, List.dropLast_singleton, List.back?_toArray, List.getLast?_cons_cons, List.getLast?_singleton, Option.toList_some, List.nil_append, List.cons_append]; rfl)); (focus rfl); (focus (exact ⟨p0, hcy2⟩)))
      ((refine wpAnyH_take (i := 0) (v := ?_) rfl (by kernel_rfl) (by kernel_rfl) (by kernel_rfl) (fun _ _ _ h => h) (Or.inl ⟨by rfl, ?_⟩) (by assumption) ?_; rotate_left; (focus (intro W hSw; (try dsimp only at hSw); go_simp; try (with_reducible rfl)))); (try simp only [List.getElem_toArray, List.getElem_cons_zero, Act.put, List.setIfInBounds_toArray, List.set_cons_zero, List.set_cons_succ]); (refine wpAnyH_take (i := 1) (v := ?_) rfl (by kernel_rfl) (by kernel_rfl) (by kernel_rfl) (fun _ _ _ h => h) (Or.inl ⟨by rfl, ?_⟩) (by assumption) ?_; rotate_left; (focus (intro W hSw; (try dsimp only at hSw); go_simp; try (with_reducible rfl)))); (try simp only [List.getElem_toArray, List.getElem_cons_zero, List.getElem_cons_succ, Act.put, List.setIfInBounds_toArray, List.set_cons_zero, List.set_cons_succ]); (refine wpAnyH_take (i := 2) (v := ?_) rfl (by kernel_rfl) (by kernel_rfl) (by kernel_rfl) (fun _ _ _ h => h) (Or.inl ⟨by rfl, ?_⟩) (by assumption) ?_; rotate_left; (focus (intro W hSw; (try dsimp only at hSw); go_simp; try (with_reducible rfl)))); (try simp only [List.getElem_toArray, List.getElem_cons_zero, List.getElem_cons_succ, Act.put, List.setIfInBounds_toArray, List.set_cons_zero, List.set_cons_succ]); (refine wpAnyH_take (i := 3) (v := ?_) rfl (by kernel_rfl) (by kernel_rfl) (by kernel_rfl) (fun _ _ _ h => h) (Or.inl ⟨by rfl, ?_⟩) (by assumption) ?_; rotate_left; (focus (intro W hSw; (try dsimp only at hSw); go_simp; try (with_reducible rfl)))); (try simp only [List.getElem_toArray, List.getElem_cons_zero, List.getElem_cons_succ, Act.put, List.setIfInBounds_toArray, List.set_cons_zero, List.set_cons_succ]); (refine wpAnyH_take (i := 4) (v := ?_) rfl (by kernel_rfl) (by kernel_rfl) (by kernel_rfl) (fun _ _ _ h => h) (Or.inl ⟨by rfl, ?_⟩) (by assumption) ?_; rotate_left; (focus (intro W hSw; (try dsimp only at hSw); go_simp; try (with_reducible rfl)))); (try simp only [List.getElem_toArray, List.getElem_cons_zero, List.getElem_cons_succ, Act.put, List.setIfInBounds_toArray, List.set_cons_zero, List.set_cons_succ]); (refine wpAnyH_take (i := 5) (v := ?_) rfl (by kernel_rfl) (by kernel_rfl) (by kernel_rfl) (fun _ _ _ h => h) (Or.inl ⟨by rfl, ?_⟩) (by assumption) ?_; rotate_left; (focus (intro W hSw; (try dsimp only at hSw); go_simp; try (with_reducible rfl)))); (try simp only [List.getElem_toArray, List.getElem_cons_zero, List.getElem_cons_succ, Act.put, List.setIfInBounds_toArray, List.set_cons_zero, List.set_cons_succ]); (refine wpAnyH_take (i := 6) (v := ?_) rfl (by kernel_rfl) (by kernel_rfl) (by kernel_rfl) (fun _ _ _ h => h) (Or.inl ⟨by rfl, ?_⟩) (by assumption) ?_; rotate_left; (focus (intro W hSw; (try dsimp only at hSw); go_simp; try (with_reducible rfl)))); (try simp only [List.getElem_toArray, List.getElem_cons_zero, List.getElem_cons_succ, Act.put, List.setIfInBounds_toArray, List.set_cons_zero, List.set_cons_succ]); (refine wpAnyH_take (i := 7) (v := ?_) rfl (by kernel_rfl) (by kernel_rfl) (by kernel_rfl) (fun _ _ _ h => h) (Or.inl ⟨by rfl, ?_⟩) (by assumption) ?_; rotate_left; (focus (intro W hSw; (try dsimp only at hSw); go_simp; try (with_reducible rfl)))); (try simp only [List.getElem_toArray, List.getElem_cons_zero, List.getElem_cons_succ, Act.put, List.setIfInBounds_toArray, List.set_cons_zero, List.set_cons_succ]); (refine wpAnyH_take (i := 8) (v := ?_) rfl (by kernel_rfl) (by kernel_rfl) (by kernel_rfl) (fun _ _ _ h => h) (Or.inl ⟨by rfl, ?_⟩) (by assumption) ?_; rotate_left; (focus (intro W hSw; (try dsimp only at hSw); go_simp; try (with_reducible rfl)))); (try simp only [List.getElem_toArray, List.getElem_cons_zero, List.getElem_cons_succ, Act.put, List.setIfInBounds_toArray, List.set_cons_zero, List.set_cons_succ]); (refine wpAnyH_take (i := 11) (v := ?_) rfl (by kernel_rfl) (by kernel_rfl) (by kernel_rfl) (fun _ _ _ h => h) (Or.inl ⟨by rfl, ?_⟩) (by assumption) ?_; rotate_left; (focus (intro W hSw; (try dsimp only at hSw); go_simp; try (with_reducible rfl)))); (try simp only [List.getElem_toArray, List.getElem_cons_zero, List.getElem_cons_succ, Act.put, List.setIfInBounds_toArray, List.set_cons_zero, List.set_cons_succ]))
      (refine wpAnyH_ready (rs := [9]) (by kernel_rfl) (by simp) ?_; refine AllReadyH.cons rfl (fun K hK => ?_) AllReadyH.nil)
      go_simp
      refine (HAB.out _).mono ?_; rintro e _ ⟨rfl, rfl⟩
      refine hK.out _ _ ⟨p0, hcy2⟩ (fun hHeld => ?_)
      clear hK K
      (try simp only [List.getElem_toArray, List.getElem_cons_zero, List.getElem_cons_succ, Act.put, List.setIfInBounds_toArray, List.set_cons_zero, List.set_cons_succ])
      ((refine wpAnyH_take (i := 10) (v := ?_) rfl (by kernel_rfl) (by kernel_rfl) (by kernel_rfl) (fun _ _ _ h => h) (Or.inl ⟨by rfl, ?_⟩) (by assumption) ?_; rotate_left; (focus (intro W hSw; (try dsimp only at hSw); go_simp; try (with_reducible rfl)))); (try simp only [List.getElem_toArray, List.getElem_cons_zero, List.getElem_cons_succ, Act.put, List.setIfInBounds_toArray, List.set_cons_zero, List.set_cons_succ]); (refine wpAnyH_take (i := 12) (v := ?_) rfl (by kernel_rfl) (by kernel_rfl) (by kernel_rfl) (fun _ _ _ h => h) (Or.inl ⟨by rfl, ?_⟩) (by assumption) ?_; rotate_left; (focus (intro W hSw; (try dsimp only at hSw); go_simp; try (with_reducible rfl)))); (try simp only [List.getElem_toArray, List.getElem_cons_zero, List.getElem_cons_succ, Act.put, List.setIfInBounds_toArray, List.set_cons_zero, List.set_cons_succ]))
      (refine wpAnyH_ready (rs := [13]) (by kernel_rfl) (by simp) ?_; refine AllReadyH.cons rfl (fun K hK => ?_) AllReadyH.nil)
      go_simp
      refine hK.out _ _ ⟨(hk.drew1.alloc _).c2.1, cell_alloc (show (World.drew wr).cell? ⟨gW, t, none⟩ = _ from hcy2) _⟩ (fun hHeld => ?_)
      clear hK K
      (try simp only [List.getElem_toArray, List.getElem_cons_zero, List.getElem_cons_succ, Act.put, List.setIfInBounds_toArray, List.set_cons_zero, List.set_cons_succ])
      have hlz : lo ≤ ((World.drew wr).alloc (.cells #[.int .i64 1, .int .i64 (x - 1), .int .i64 1, .int .i64 0, .int .i64 0, .int .i64 0] 49)).heap.size := by have e : (World.drew wr).heap.size = wr.heap.size := rfl; rw [World.size_alloc, e]; omega
      have olit := OwnC.news (OwnC.lit (w := World.drew wr) (lo := lo) (n := 1) 49 6 #[.int .i64 1, .int .i64 (x - 1), .int .i64 1, .int .i64 0, .int .i64 0, .int .i64 0] (by have e : (World.drew wr).heap.size = wr.heap.size := rfl; omega) (by decide) rfl)
      (refine wpAnyH_ready (rs := [14]) (by kernel_rfl) (by simp) ?_; refine AllReadyH.cons rfl (fun K hK => ?_) AllReadyH.nil)
      refine wp_appendC_at ((World.drew wr).alloc (.cells #[.int .i64 1, .int .i64 (x - 1), .int .i64 1, .int .i64 0, .int .i64 0, .int .i64 0] 49)) (.tmp 48) (.tmp 57) _ rfl 49 iE _ 6 48 Try.underlying26 ie0 iz0 iz1 iz2 rfl (by decide) (by simp [Act.eval]) ((OwnC.drew1 ho).alloc _) hlz (some ⟨wr.heap.size, 0, none⟩) 1 1 [.int .i64 1, .int .i64 (x - 1), .int .i64 1, .int .i64 0, .int .i64 0, .int .i64 0] (by simp [Act.eval]) (by simp) olit (by simp [Value.oneCell']) (by unfold maxLen; omega) (by omega) ?_
      intro A9 c9 w8 ho8 hg8 hb8 _
      obtain ⟨hk8, hS8, hB8, hX8⟩ := SHd.push (e := evCross 1 x) hk ho hc hlo ho8 hg8 hb8
      refine hK.out _ _ ⟨hk8.c2.1, cell_blk bW (hX8 _ _ _ (by decide) (by decide) bW).1 t hcy2⟩ (fun hHeld => ?_)
      clear hK K
      (try simp only [List.getElem_toArray, List.getElem_cons_zero, List.getElem_cons_succ, Act.put, List.setIfInBounds_toArray, List.set_cons_zero, List.set_cons_succ])
      (refine wpAnyH_done (by kernel_rfl) ?_ _; change wpList _ _ _ _ _ _)
      clear hHeld
      obtain ⟨y0, y1⟩ := hk8.c2
      have y2 := hk8.frozen 0
      have how := ow.keepT (w' := w8.setCell ⟨g, 0, none⟩ (.slice A9 (E.length + 1) c9)) (fun k cur _ _ hkk => ((hX8 k 2 cur (by decide) (by decide) hkk).2).trans hkk.symm)
      have hRr := (hX8 _ _ _ (by decide) (by decide) bRr).2
      have HS8 := Lib.hid hS8; clear hS8
      have HOW := Lib.hid how; clear how
      have HRR := Lib.hid hRr; clear hRr
      have HB8 := Lib.hid hB8; clear hB8
      clear hX8 ho8 hg8 hb8 olit hlz hk8
      go_wp2_with (fail)
      exact ⟨⟨t + 1, E ++ [evCross 1 x], by omega, by go_num, Lib.hid (by rw [HCE.out, HE.out, List.append_assoc]), by simp; omega, HS8.out, HOW.out, HRR.out, hbr.trans HB8.out⟩, by first | (simp [intOf]; done) | (simp [intOf]; omega)⟩
    · obtain rfl : t = Wd.length := by omega
      have dk : decide ((Wd.length : Int) < (Wd.length : Int)) = false := decide_eq_false (by omega)
      have hrw : Ints wr (some ⟨gR, 0, none⟩) c := HROW.out.blk BR.out bRr
      obtain ⟨AC, cC3, p1, hi2⟩ := hst.read
      obtain ⟨b9, off9, _, _, _, rfl, _, _, _, _⟩ := hi2 i hic
      dsimp only at p1
      have hzr := hst.lt
      have CO : Hid (Calls Try.prog 56 #[.slice (some ⟨gR, 2, none⟩) 2 (c3 - 2)] (wr.drewN 1) fun e w' => ∃ A' c', e = .returned (.slice A' 2 c') ∧ OwnC w' wr.heap.size w'.heap.size 2 1 A' 2 c' ((c.drop 2).map (Value.int .i64)) ∧ Below wr.heap.size wr w') := Lib.hid (by
        have hrd : Ints wr (some ⟨gR, 0 + 2, none⟩) (c.drop 2) := hrw.drop 2
        have := spec_l00Own (some ⟨gR, 2, none⟩) (c3 - 2) (c.drop 2) (wr.drewN 1) hrd (by rw [L2.out]; decide)
        rw [L2.out] at this
        refine this.mono ?_
        rintro e w' ⟨A', c', h1, h2, h3⟩
        refine ⟨A', c', h1, ?_, (below_drewN (Below.refl _ _) 1).trans h3⟩
        have h2' : OwnC w' wr.heap.size w'.heap.size 2 1 A' (c.drop 2).length c' ((c.drop 2).map (Value.int .i64)) := h2
        rw [L2.out] at h2'
        exact h2')
      obtain ⟨i0, hi0, hz0, hz1, hz2⟩ := info_parts info_int64
      have HST := Lib.hid hst
      clear hi2 hst
      go_upto_region 9 with fail
      (refine wp_region_pops 2 (S := (fun W' => W'.cell? ⟨g, 1, none⟩ = some (.slice (some ⟨b9, off9, none⟩) s.cells.length cC3))) (pre := ?_) (T := ?_) (n := ?_) (by kernel_rfl) (by kernel_rfl) ?_ ?_ ?_ ?_ (fun hHeld => ?_); rotate_left 3; (focus (simp only [pops, List.pop_toArray, List.dropLast_cons_cons, List.dropLast_singleton]; rfl)); (focus (simp only [tailOf, List.pop_toArray, List.dropLast_cons_cons, List.dropLast_singleton, List.back?_toArray, List.getLast?_cons_cons, List.getLast?_singleton, Option.toList_some, List.nil_append, List.cons_append]; rfl)); (focus rfl); (focus (exact p1)))
      ((refine wpAnyH_take (i := 0) (v := ?_) rfl (by kernel_rfl) (by kernel_rfl) (by kernel_rfl) (fun _ _ _ h => h) (Or.inl ⟨by rfl, ?_⟩) (by assumption) ?_; rotate_left; (focus (intro W hSw; (try dsimp only at hSw); go_simp; try (with_reducible rfl)))); (try simp only [List.getElem_toArray, List.getElem_cons_zero, Act.put, List.setIfInBounds_toArray, List.set_cons_zero, List.set_cons_succ]); (refine wpAnyH_take (i := 1) (v := ?_) rfl (by kernel_rfl) (by kernel_rfl) (by kernel_rfl) (fun _ _ _ h => h) (Or.inl ⟨by rfl, ?_⟩) (by assumption) ?_; rotate_left; (focus (intro W hSw; (try dsimp only at hSw); go_simp; try (with_reducible rfl)))); (try simp only [List.getElem_toArray, List.getElem_cons_zero, List.getElem_cons_succ, Act.put, List.setIfInBounds_toArray, List.set_cons_zero, List.set_cons_succ]); (refine wpAnyH_take (i := 2) (v := ?_) rfl (by kernel_rfl) (by kernel_rfl) (by kernel_rfl) (fun _ _ _ h => h) (Or.inl ⟨by rfl, ?_⟩) (by assumption) ?_; rotate_left; (focus (intro W hSw; (try dsimp only at hSw); go_simp; try (with_reducible rfl)))); (try simp only [List.getElem_toArray, List.getElem_cons_zero, List.getElem_cons_succ, Act.put, List.setIfInBounds_toArray, List.set_cons_zero, List.set_cons_succ]); (refine wpAnyH_take (i := 3) (v := ?_) rfl (by kernel_rfl) (by kernel_rfl) (by kernel_rfl) (fun _ _ _ h => h) (Or.inl ⟨by rfl, ?_⟩) (by assumption) ?_; rotate_left; (focus (intro W hSw; (try dsimp only at hSw); go_simp; try (with_reducible rfl)))); (try simp only [List.getElem_toArray, List.getElem_cons_zero, List.getElem_cons_succ, Act.put, List.setIfInBounds_toArray, List.set_cons_zero, List.set_cons_succ]); (refine wpAnyH_take (i := 4) (v := ?_) rfl (by kernel_rfl) (by kernel_rfl) (by kernel_rfl) (fun _ _ _ h => h) (Or.inl ⟨by rfl, ?_⟩) (by assumption) ?_; rotate_left; (focus (intro W hSw; (try dsimp only at hSw); go_simp; try (with_reducible rfl)))); (try simp only [List.getElem_toArray, List.getElem_cons_zero, List.getElem_cons_succ, Act.put, List.setIfInBounds_toArray, List.set_cons_zero, List.set_cons_succ]); (refine wpAnyH_take (i := 5) (v := ?_) rfl (by kernel_rfl) (by kernel_rfl) (by kernel_rfl) (fun _ _ _ h => h) (Or.inl ⟨by rfl, ?_⟩) (by assumption) ?_; rotate_left; (focus (intro W hSw; (try dsimp only at hSw); go_simp; try (with_reducible rfl)))); (try simp only [List.getElem_toArray, List.getElem_cons_zero, List.getElem_cons_succ, Act.put, List.setIfInBounds_toArray, List.set_cons_zero, List.set_cons_succ]); (refine wpAnyH_take (i := 6) (v := ?_) rfl (by kernel_rfl) (by kernel_rfl) (by kernel_rfl) (fun _ _ _ h => h) (Or.inl ⟨by rfl, ?_⟩) (by assumption) ?_; rotate_left; (focus (intro W hSw; (try dsimp only at hSw); go_simp; try (with_reducible rfl)))); (try simp only [List.getElem_toArray, List.getElem_cons_zero, List.getElem_cons_succ, Act.put, List.setIfInBounds_toArray, List.set_cons_zero, List.set_cons_succ]); (refine wpAnyH_take (i := 7) (v := ?_) rfl (by kernel_rfl) (by kernel_rfl) (by kernel_rfl) (fun _ _ _ h => h) (Or.inl ⟨by rfl, ?_⟩) (by assumption) ?_; rotate_left; (focus (intro W hSw; (try dsimp only at hSw); go_simp; try (with_reducible rfl)))); (try simp only [List.getElem_toArray, List.getElem_cons_zero, List.getElem_cons_succ, Act.put, List.setIfInBounds_toArray, List.set_cons_zero, List.set_cons_succ]); (refine wpAnyH_take (i := 9) (v := ?_) rfl (by kernel_rfl) (by kernel_rfl) (by kernel_rfl) (fun _ _ _ h => h) (Or.inl ⟨by rfl, ?_⟩) (by assumption) ?_; rotate_left; (focus (intro W hSw; (try dsimp only at hSw); go_simp; try (with_reducible rfl)))); (try simp only [List.getElem_toArray, List.getElem_cons_zero, List.getElem_cons_succ, Act.put, List.setIfInBounds_toArray, List.set_cons_zero, List.set_cons_succ]); (refine wpAnyH_take (i := 10) (v := ?_) rfl (by kernel_rfl) (by kernel_rfl) (by kernel_rfl) (fun _ _ _ h => h) (Or.inl ⟨by rfl, ?_⟩) (by assumption) ?_; rotate_left; (focus (intro W hSw; (try dsimp only at hSw); go_simp; try (with_reducible rfl)))); (try simp only [List.getElem_toArray, List.getElem_cons_zero, List.getElem_cons_succ, Act.put, List.setIfInBounds_toArray, List.set_cons_zero, List.set_cons_succ]); (refine wpAnyH_take (i := 11) (v := ?_) rfl (by kernel_rfl) (by kernel_rfl) (by kernel_rfl) (fun _ _ _ h => h) (Or.inl ⟨by rfl, ?_⟩) (by assumption) ?_; rotate_left; (focus (intro W hSw; (try dsimp only at hSw); go_simp; try (with_reducible rfl)))); (try simp only [List.getElem_toArray, List.getElem_cons_zero, List.getElem_cons_succ, Act.put, List.setIfInBounds_toArray, List.set_cons_zero, List.set_cons_succ]))
      (refine wpAnyH_ready (rs := [8]) (by kernel_rfl) (by simp) ?_; refine AllReadyH.cons rfl (fun K hK => ?_) AllReadyH.nil)
      go_simp
      refine CO.out.mono ?_; rintro e w6 ⟨A6, c6, rfl, o6, b6⟩
      refine hK.out _ _ (cells_below b6 _ _ p1) (fun hHeld => ?_)
      clear hK K
      (try simp only [List.getElem_toArray, List.getElem_cons_zero, List.getElem_cons_succ, Act.put, List.setIfInBounds_toArray, List.set_cons_zero, List.set_cons_succ])
      have hlz6 := b6.size
      have hr6 := (hrw.below b6).take 2
      have L1' := Lib.hid (show ((c.take 2).map (Value.int .i64)).length = 2 * 1 by rw [List.length_map, L1.out])
      (refine wpAnyH_ready (rs := [12]) (by kernel_rfl) (by simp) ?_; refine AllReadyH.cons rfl (fun K hK => ?_) AllReadyH.nil)
      refine wp_appendC_at w6 (.tmp 69) (.tmp 72) _ rfl 2 i0 _ 1 8 Try.underlying22 hi0 hz0 hz1 hz2 rfl (by decide) (by simp [Act.eval]) o6 hlz6 (some ⟨gR, 0, none⟩) 2 c3 ((c.take 2).map (Value.int .i64)) (by simp [Act.eval]) L1'.out hr6.newsM (fun u hu => by obtain ⟨z, _, rfl⟩ := List.mem_map.1 hu; rfl) (by unfold maxLen; omega) (by omega) ?_
      intro A7 c7 w7 ho7 hg7 hb7 _
      have hb67 : Below wr.heap.size wr w7 := b6.trans hb7
      refine hK.out _ _ (cells_below hb67 _ _ p1) (fun hHeld => ?_)
      clear hK K
      (try simp only [List.getElem_toArray, List.getElem_cons_zero, List.getElem_cons_succ, Act.put, List.setIfInBounds_toArray, List.set_cons_zero, List.set_cons_succ])
      (refine wpAnyH_done (by kernel_rfl) ?_ _; change wpList _ _ _ _ _ _)
      clear hHeld
      have hrl : (c.drop 2 ++ c.take 2).length = 2 + 2 := by rw [List.length_append, L1.out, L2.out]
      have ho7' : OwnI w7 wr.heap.size w7.heap.size A7 c7 (c.drop 2 ++ c.take 2) := by
        show OwnC _ _ _ _ _ _ _ _ _
        rw [hrl, List.map_append]
        exact ho7
      obtain ⟨gC4, cC4, y1, ⟨v, y2⟩, y3, hs3, hb3⟩ := HST.out.setRow (i := i) hic hb67 ho7'
      rw [hrl] at hs3 hb3
      dsimp only at y1
      rw [p1] at y1
      injection y1 with y1
      injection y1 with y1 _ y1c
      injection y1 with y1
      injection y1 with y1 y1b
      subst y1 y1b y1c
      have HS3 := Lib.hid hs3; clear hs3
      have HB3 := Lib.hid hb3; clear hb3
      clear CO o6 b6 hr6 ho7 hg7 hb7 ho7' hrl hb67 p1 hrw
      go_wp2_with (fail)
      go_end0
      rw [HM.out]
      have hE : E = s.evs ++ Ce := by rw [HE.out, ← HWL.out, List.take_of_length_le (Nat.le_refl _)]
      rw [← hE]
      exact ⟨rfl, HS3.out, hbr.trans HB3.out⟩

set_option maxHeartbeats 4000000 in
set_option maxRecDepth 10000 in
theorem spec_cross_11 {z : Option (Nat × Array Value)} {lo g m : Nat} {s : HS} {S : Int} {w : World} (h : SHd z lo g w s) (hG : GoodC m s.cells S) (hS : S ≤ 100) (hm : m ≤ 16) {i : Nat} {c : List Int} (hx : s.cells[i]? = some c) (hlen : c.length = 4) (hl : s.evs.length ≤ 50000) :
    Calls Try.prog 34 #[.pointer (some ⟨g, 0, none⟩), .int .i64 (i : Int), .int .i64 11] w fun e w' =>
      e = .returned (.tuple #[]) ∧ SHd z lo g w' (crossTo 11 i c s) ∧ Below lo w w' := by
  have him := hG.lt hx
  have hic : i < s.cells.length := by rw [hG.len]; exact him
  obtain ⟨hnn, h4, hle, h0⟩ := hG.at_ hx
  have hT0 := (hG.take i).1
  have hP := hnn.part 2
  obtain ⟨x, hy⟩ : ∃ x, c[0]? = some x := ⟨_, List.getElem?_eq_getElem (by omega)⟩
  obtain ⟨gC, cC, gR, c3, q1, q2, _, _, hrow, hcap, _⟩ := h.setAt hx hy
  obtain ⟨a, ha⟩ := Int.eq_ofNat_of_zero_le hP.1
  obtain ⟨b, hb⟩ := Int.eq_ofNat_of_zero_le hP.2.2.1
  have ha100 : a ≤ 100 := by omega
  have hb100 : b ≤ 100 := by omega
  have hpl : 0 ≤ tot (s.cells.take i) ∧ tot (s.cells.take i) ≤ 1000 := by omega
  have HM : Hid (crossTo 11 i c s = ⟨s.evs ++ crossEvs (tot (s.cells.take i)) (-1) a b, s.cells.set i (c.drop 2 ++ c.take 2)⟩) := Lib.hid (by
    unfold crossTo
    rw [if_neg (by decide), hlen]
    show (⟨s.evs ++ crossEvs (tot (s.cells.take i)) (-1) (sumI (c.take 2)).toNat (sumI (c.drop 2)).toNat, _⟩ : HS) = _
    rw [ha, hb]
    rfl)
  have CB : Hid (∀ q, Calls Try.prog 37 #[.pointer (some ⟨g, 0, none⟩), .int .i64 (i : Int)] (w.drewN q) fun e w' => e = .returned (.int .i64 (tot (s.cells.take i))) ∧ w.drewN q = w') :=
    Lib.hid (fun q => spec_before (h.drewN q) hG (by omega) hm i (by omega))
  have l1 : (c.take 2).length = 2 := by rw [List.length_take]; omega
  have l2 : (c.drop 2).length = 2 := by rw [List.length_drop]; omega
  have hrd : Ints w (some ⟨gR, 0 + 2, none⟩) (c.drop 2) := hrow.drop 2
  have C1 : Hid (∀ q, Calls Try.prog 29 #[.slice (some ⟨gR, 0, none⟩) 2 c3] (w.drewN q) fun e w' => e = .returned (.int .i64 (a : Int)) ∧ w.drewN q = w') :=
    Lib.hid (fun q => by
      have := spec_l17Sum (some ⟨gR, 0, none⟩) c3 (c.take 2) (w.drewN q) (hrow.take 2) (by omega)
      rw [l1, sum64_sumI (hnn.take 2) (by omega), ha] at this
      exact this)
  have C2 : Hid (∀ q, Calls Try.prog 29 #[.slice (some ⟨gR, 2, none⟩) 2 (c3 - 2)] (w.drewN q) fun e w' => e = .returned (.int .i64 (b : Int)) ∧ w.drewN q = w') :=
    Lib.hid (fun q => by
      have := spec_l17Sum (some ⟨gR, 2, none⟩) (c3 - 2) (c.drop 2) (w.drewN q) hrd (by omega)
      rw [l2, sum64_sumI (hnn.drop 2) (by omega), hb] at this
      exact this)
  have HX := Lib.hid hx
  have H0 := Lib.hid h
  have HCL := Lib.hid hlen
  rw [hlen] at hcap
  have u1 : (2 : Int) ≤ (c3 : Int) := by omega
  have u2 : (4 : Int) ≤ (c3 : Int) := by omega
  have u3 : ¬ c3 - 2 = 0 := by omega
  have v1 : 2 ≤ c3 := by omega
  have v2 : 0 < c3 := by omega
  have v3 : 4 ≤ c3 := by omega
  have v4 : ¬ c3 = 0 := by omega
  have v5 : ¬ c3 ≤ 2 := by omega
  have v6 : 2 < c3 := by omega
  have v7 : ¬ c3 = 2 := by omega
  have j1 : (0 : Int) ≤ (i : Int) := by omega
  have j3 : (i : Int) < (s.cells.length : Int) := by omega
  have hp100 : tot (s.cells.take i) ≤ 100 := by omega
  obtain ⟨_, _, _, _, _, curR, z1, z2, _, _, bR⟩ := h.two hx hy
  rw [q1] at z1
  injection z1 with z1
  injection z1 with z1 _ z1c
  injection z1 with z1
  injection z1 with z1
  subst z1 z1c
  rw [q2] at z2
  injection z2 with z2
  injection z2 with z2 _ z2c
  injection z2 with z2
  injection z2 with z2
  subst z2 z2c
  have HROW := Lib.hid hrow
  have BR := Lib.hid bR; clear bR
  generalize hpe : tot (s.cells.take i) = p at *
  have HPE := Lib.hid hpe; clear hpe
  rw [hlen] at q2
  have L1 := Lib.hid l1; have L2 := Lib.hid l2
  clear h hx hlen hnn ha hb hy l1 l2 hrd hrow hG
  go_enter Try.func34, Try.ntmps34
  go_wp2_with (fail)
  refine (spec_l17Sign 11 (by decide) w).mono ?_; rintro e _ ⟨rfl, rfl⟩
  rw [show signI 11 = (-1) from rfl]
  go_upto_region 4 with fail
  (refine wp_region_pops 0 (S := (fun _ => True)) (pre := ?_) (T := ?_) (n := ?_) (by kernel_rfl) (by kernel_rfl) ?_ ?_ ?_ ?_ (fun hHeld => ?_); rotate_left 3; (focus (simp only [pops]; rfl)); (focus (simp only [tailOf]; rfl)); (focus rfl); (focus (trivial)))
  ((refine wpAnyH_take (i := 0) (v := ?_) rfl (by kernel_rfl) (by kernel_rfl) (by kernel_rfl) (fun _ _ _ h => h) (Or.inl ⟨by rfl, ?_⟩) (by assumption) ?_; rotate_left; (focus (intro W hSw; (try dsimp only at hSw); go_simp; try (with_reducible rfl)))); (try simp only [List.getElem_toArray, List.getElem_cons_zero, Act.put, List.setIfInBounds_toArray, List.set_cons_zero, List.set_cons_succ]); (refine wpAnyH_take (i := 1) (v := ?_) rfl (by kernel_rfl) (by kernel_rfl) (by kernel_rfl) (fun _ _ _ h => h) (Or.inl ⟨by rfl, ?_⟩) (by assumption) ?_; rotate_left; (focus (intro W hSw; (try dsimp only at hSw); go_simp; try (with_reducible rfl)))); (try simp only [List.getElem_toArray, List.getElem_cons_zero, List.getElem_cons_succ, Act.put, List.setIfInBounds_toArray, List.set_cons_zero, List.set_cons_succ]); (refine wpAnyH_take (i := 3) (v := ?_) rfl (by kernel_rfl) (by kernel_rfl) (by kernel_rfl) (fun _ _ _ h => h) (Or.inl ⟨by rfl, ?_⟩) (by assumption) ?_; rotate_left; (focus (intro W hSw; (try dsimp only at hSw); go_simp; try (with_reducible rfl)))); (try simp only [List.getElem_toArray, List.getElem_cons_zero, List.getElem_cons_succ, Act.put, List.setIfInBounds_toArray, List.set_cons_zero, List.set_cons_succ]); (refine wpAnyH_take (i := 4) (v := ?_) rfl (by kernel_rfl) (by kernel_rfl) (by kernel_rfl) (fun _ _ _ h => h) (Or.inl ⟨by rfl, ?_⟩) (by assumption) ?_; rotate_left; (focus (intro W hSw; (try dsimp only at hSw); go_simp; try (with_reducible rfl)))); (try simp only [List.getElem_toArray, List.getElem_cons_zero, List.getElem_cons_succ, Act.put, List.setIfInBounds_toArray, List.set_cons_zero, List.set_cons_succ]); (refine wpAnyH_take (i := 5) (v := ?_) rfl (by kernel_rfl) (by kernel_rfl) (by kernel_rfl) (fun _ _ _ h => h) (Or.inl ⟨by rfl, ?_⟩) (by assumption) ?_; rotate_left; (focus (intro W hSw; (try dsimp only at hSw); go_simp; try (with_reducible rfl)))); (try simp only [List.getElem_toArray, List.getElem_cons_zero, List.getElem_cons_succ, Act.put, List.setIfInBounds_toArray, List.set_cons_zero, List.set_cons_succ]); (refine wpAnyH_take (i := 7) (v := ?_) rfl (by kernel_rfl) (by kernel_rfl) (by kernel_rfl) (fun _ _ _ h => h) (Or.inl ⟨by rfl, ?_⟩) (by assumption) ?_; rotate_left; (focus (intro W hSw; (try dsimp only at hSw); go_simp; try (with_reducible rfl)))); (try simp only [List.getElem_toArray, List.getElem_cons_zero, List.getElem_cons_succ, Act.put, List.setIfInBounds_toArray, List.set_cons_zero, List.set_cons_succ]); (refine wpAnyH_take (i := 8) (v := ?_) rfl (by kernel_rfl) (by kernel_rfl) (by kernel_rfl) (fun _ _ _ h => h) (Or.inl ⟨by rfl, ?_⟩) (by assumption) ?_; rotate_left; (focus (intro W hSw; (try dsimp only at hSw); go_simp; try (with_reducible rfl)))); (try simp only [List.getElem_toArray, List.getElem_cons_zero, List.getElem_cons_succ, Act.put, List.setIfInBounds_toArray, List.set_cons_zero, List.set_cons_succ]); (refine wpAnyH_take (i := 9) (v := ?_) rfl (by kernel_rfl) (by kernel_rfl) (by kernel_rfl) (fun _ _ _ h => h) (Or.inl ⟨by rfl, ?_⟩) (by assumption) ?_; rotate_left; (focus (intro W hSw; (try dsimp only at hSw); go_simp; try (with_reducible rfl)))); (try simp only [List.getElem_toArray, List.getElem_cons_zero, List.getElem_cons_succ, Act.put, List.setIfInBounds_toArray, List.set_cons_zero, List.set_cons_succ]); (refine wpAnyH_take (i := 11) (v := ?_) rfl (by kernel_rfl) (by kernel_rfl) (by kernel_rfl) (fun _ _ _ h => h) (Or.inl ⟨by rfl, ?_⟩) (by assumption) ?_; rotate_left; (focus (intro W hSw; (try dsimp only at hSw); go_simp; try (with_reducible rfl)))); (try simp only [List.getElem_toArray, List.getElem_cons_zero, List.getElem_cons_succ, Act.put, List.setIfInBounds_toArray, List.set_cons_zero, List.set_cons_succ]))
  (refine wpAnyH_ready (rs := [2]) (by kernel_rfl) (by simp) ?_; refine AllReadyH.cons rfl (fun K hK => ?_) AllReadyH.nil)
  go_simp
  refine (CB.out 1).mono ?_; rintro e _ ⟨rfl, rfl⟩
  refine hK.out _ _ trivial (fun hHeld => ?_)
  clear hK K
  (try simp only [List.getElem_toArray, List.getElem_cons_zero, List.getElem_cons_succ, Act.put, List.setIfInBounds_toArray, List.set_cons_zero, List.set_cons_succ])
  (refine wpAnyH_ready (rs := [6]) (by kernel_rfl) (by simp) ?_; refine AllReadyH.cons rfl (fun K hK => ?_) AllReadyH.nil)
  go_simp
  refine (C1.out 1).mono ?_; rintro e _ ⟨rfl, rfl⟩
  refine hK.out _ _ trivial (fun hHeld => ?_)
  clear hK K
  (try simp only [List.getElem_toArray, List.getElem_cons_zero, List.getElem_cons_succ, Act.put, List.setIfInBounds_toArray, List.set_cons_zero, List.set_cons_succ])
  (refine wpAnyH_ready (rs := [10]) (by kernel_rfl) (by simp) ?_; refine AllReadyH.cons rfl (fun K hK => ?_) AllReadyH.nil)
  go_simp
  refine (C2.out 1).mono ?_; rintro e _ ⟨rfl, rfl⟩
  refine hK.out _ _ trivial (fun hHeld => ?_)
  clear hK K
  (try simp only [List.getElem_toArray, List.getElem_cons_zero, List.getElem_cons_succ, Act.put, List.setIfInBounds_toArray, List.set_cons_zero, List.set_cons_succ])
  (refine wpAnyH_ready (rs := [12]) (by kernel_rfl) (by simp) ?_; refine AllReadyH.cons rfl (fun K hK => ?_) AllReadyH.nil)
  go_simp
  refine (spec_l03Swap p a b (-1) (w.drewN 1) (by decide) hpl ha100 hb100).mono ?_; rintro e w5 ⟨A5, c5, rfl, o5, b5⟩
  refine hK.out _ _ trivial (fun hHeld => ?_)
  clear hK K
  (try simp only [List.getElem_toArray, List.getElem_cons_zero, List.getElem_cons_succ, Act.put, List.setIfInBounds_toArray, List.set_cons_zero, List.set_cons_succ])
  ((refine wpAnyH_take (i := 13) (v := ?_) rfl (by kernel_rfl) (by kernel_rfl) (by kernel_rfl) (fun _ _ _ h => h) (Or.inl ⟨by rfl, ?_⟩) (by assumption) ?_; rotate_left; (focus (intro W hSw; (try dsimp only at hSw); go_simp; try (with_reducible rfl)))); (try simp only [List.getElem_toArray, List.getElem_cons_zero, List.getElem_cons_succ, Act.put, List.setIfInBounds_toArray, List.set_cons_zero, List.set_cons_succ]))
  (refine wpAnyH_done (by kernel_rfl) ?_ _; change wpList _ _ _ _ _ _)
  clear hHeld CB C1 C2
  have hb5 : Below w.heap.size w w5 := (below_drewN (Below.refl _ _) 1).trans b5
  have hlz0 := H0.out.lt
  have H5 : SHd z lo g w5 s := H0.out.below hb5
  have bR5 := BR.out.below hb5 BR.out.lt
  have hB5 : Below lo w w5 := hb5.mono hlz0
  have hz5 := hb5.size
  have HWD : Hid (∀ t y, (swTo p (-1) a b)[t]? = some y → ∃ x, p + 1 ≤ x ∧ x ≤ p + a + b ∧ y = (-1) * x ∧ (crossEvs p (-1) a b)[t]? = some (evCross (-1) x)) := Lib.hid (fun t y hy => cross_word hy)
  have hWl : (swTo p (-1) a b).length ≤ 10000 := by rw [swTo_length]; exact Nat.le_trans (Nat.mul_le_mul ha100 hb100) (by decide)
  have HWL : Hid ((crossEvs p (-1) a b).length = (swTo p (-1) a b).length) := Lib.hid (by rw [crossEvs_length, swTo_length])
  have o5' : OwnC w5 w.heap.size w5.heap.size 2 1 A5 (swTo p (-1) a b).length c5 ((swTo p (-1) a b).map (Value.int .i64)) := o5
  clear o5 b5 hb5
  generalize swTo p (-1) a b = Wd at *
  generalize crossEvs p (-1) a b = Ce at *
  obtain ⟨iE, ie0, iz0, iz1, iz2⟩ := info_parts info_Event
  go_wp2_with (fail)
  go_loopw [10] (fun kv wr => ∃ (t : Nat) (E : List EventD), t ≤ Wd.length ∧ kv = .int .i64 t ∧ Hid (E = s.evs ++ Ce.take t) ∧ E.length ≤ 50000 + t ∧ SHd z lo g wr ⟨E, s.cells⟩ ∧ OwnC wr w.heap.size w5.heap.size 2 1 A5 Wd.length c5 (Wd.map (Value.int .i64)) ∧ Blk wr gR 2 curR ∧ Below lo w wr) (fun kv _ => Wd.length - (intOf kv).toNat)
  case atStart => exact ⟨0, s.evs, Nat.zero_le _, rfl, Lib.hid (by simp), by omega, H5, o5', bR5, hB5⟩
  case round =>
    clear H5 o5' bR5 hB5
    obtain ⟨t, E, ht, rfl, HE, hEl, hst, ow, bRr, hbr⟩ := hrel
    by_cases htl : t < Wd.length
    · obtain ⟨gW, rfl, _, _, hcy, _⟩ := ow.cell (j := t) (by simpa using htl)
      obtain ⟨curW, bW, _, _⟩ := ow.blkEx
      obtain ⟨y, hy⟩ : ∃ y, Wd[t]? = some y := ⟨_, List.getElem?_eq_getElem htl⟩
      have hcy2 : wr.cell? ⟨gW, t, none⟩ = some (.int .i64 y) := by
        rw [hcy]
        rw [List.getElem?_eq_getElem htl] at hy
        injection hy with hy
        simp [hy]
      obtain ⟨x, hx1, hx2, hyx, hce⟩ := HWD.out t y hy
      have HAB : Hid (∀ W, Calls Try.prog 55 #[.int .i64 y] W fun e w' => e = .returned (.int .i64 x) ∧ W = w') := Lib.hid (fun W => by rw [hyx]; exact spec_abs_sign (-1) x (by decide) W (by omega) (by omega))
      have HCE : Hid (Ce.take (t + 1) = Ce.take t ++ [evCross (-1) x]) := Lib.hid (take_snoc hce)
      obtain ⟨⟨AE, cE, AC, cC2, hk, ho, hc⟩, hlo⟩ := hst
      dsimp only at hk ho hc
      have p0 := hk.c2.1
      have hwz := hk.lt
      have wx : IntKind.i64.wrap (x - 1) = x - 1 := IntWalk.i64_in _ ⟨by omega, by omega⟩
      have dk : decide ((t : Int) < (Wd.length : Int)) = true := decide_eq_true (by omega)
      have j4 : (0 : Int) ≤ (t : Int) := by omega
      have j5 : (t : Int) < (Wd.length : Int) := by omega
      clear hcy hy hyx hce
      go_upto_region 8 with fail
      (refine wp_region_pops 3 (S := (fun W' => W'.cell? ⟨g, 0, none⟩ = some (.slice AE E.length cE) ∧ W'.cell? ⟨gW, t, none⟩ = some (.int .i64 y))) (pre := ?_) (T := ?_) (n := ?_) (by kernel_rfl) (by kernel_rfl) ?_ ?_ ?_ ?_ (fun hHeld => ?_); rotate_left 3; (focus (simp only [pops, List.pop_toArray, List.dropLast_cons_cons, List.dropLast_singleton]; rfl)); (focus (simp only [tailOf, List.pop_toArray, List.dropLast_cons_cons, List.dropLast_singleton, List.back?_toArray, List.getLast?_cons_cons, List.getLast?_singleton, Option.toList_some, List.nil_append, List.cons_append]; rfl)); (focus rfl); (focus (exact ⟨p0, hcy2⟩)))
      ((refine wpAnyH_take (i := 0) (v := ?_) rfl (by kernel_rfl) (by kernel_rfl) (by kernel_rfl) (fun _ _ _ h => h) (Or.inl ⟨by rfl, ?_⟩) (by assumption) ?_; rotate_left; (focus (intro W hSw; (try dsimp only at hSw); go_simp; try (with_reducible rfl)))); (try simp only [List.getElem_toArray, List.getElem_cons_zero, Act.put, List.setIfInBounds_toArray, List.set_cons_zero, List.set_cons_succ]); (refine wpAnyH_take (i := 1) (v := ?_) rfl (by kernel_rfl) (by kernel_rfl) (by kernel_rfl) (fun _ _ _ h => h) (Or.inl ⟨by rfl, ?_⟩) (by assumption) ?_; rotate_left; (focus (intro W hSw; (try dsimp only at hSw); go_simp; try (with_reducible rfl)))); (try simp only [List.getElem_toArray, List.getElem_cons_zero, List.getElem_cons_succ, Act.put, List.setIfInBounds_toArray, List.set_cons_zero, List.set_cons_succ]); (refine wpAnyH_take (i := 2) (v := ?_) rfl (by kernel_rfl) (by kernel_rfl) (by kernel_rfl) (fun _ _ _ h => h) (Or.inl ⟨by rfl, ?_⟩) (by assumption) ?_; rotate_left; (focus (intro W hSw; (try dsimp only at hSw); go_simp; try (with_reducible rfl)))); (try simp only [List.getElem_toArray, List.getElem_cons_zero, List.getElem_cons_succ, Act.put, List.setIfInBounds_toArray, List.set_cons_zero, List.set_cons_succ]); (refine wpAnyH_take (i := 3) (v := ?_) rfl (by kernel_rfl) (by kernel_rfl) (by kernel_rfl) (fun _ _ _ h => h) (Or.inl ⟨by rfl, ?_⟩) (by assumption) ?_; rotate_left; (focus (intro W hSw; (try dsimp only at hSw); go_simp; try (with_reducible rfl)))); (try simp only [List.getElem_toArray, List.getElem_cons_zero, List.getElem_cons_succ, Act.put, List.setIfInBounds_toArray, List.set_cons_zero, List.set_cons_succ]); (refine wpAnyH_take (i := 4) (v := ?_) rfl (by kernel_rfl) (by kernel_rfl) (by kernel_rfl) (fun _ _ _ h => h) (Or.inl ⟨by rfl, ?_⟩) (by assumption) ?_; rotate_left; (focus (intro W hSw; (try dsimp only at hSw); go_simp; try (with_reducible rfl)))); (try simp only [List.getElem_toArray, List.getElem_cons_zero, List.getElem_cons_succ, Act.put, List.setIfInBounds_toArray, List.set_cons_zero, List.set_cons_succ]); (refine wpAnyH_take (i := 5) (v := ?_) rfl (by kernel_rfl) (by kernel_rfl) (by kernel_rfl) (fun _ _ _ h => h) (Or.inl ⟨by rfl, ?_⟩) (by assumption) ?_; rotate_left; (focus (intro W hSw; (try dsimp only at hSw); go_simp; try (with_reducible rfl)))); (try simp only [List.getElem_toArray, List.getElem_cons_zero, List.getElem_cons_succ, Act.put, List.setIfInBounds_toArray, List.set_cons_zero, List.set_cons_succ]); (refine wpAnyH_take (i := 6) (v := ?_) rfl (by kernel_rfl) (by kernel_rfl) (by kernel_rfl) (fun _ _ _ h => h) (Or.inl ⟨by rfl, ?_⟩) (by assumption) ?_; rotate_left; (focus (intro W hSw; (try dsimp only at hSw); go_simp; try (with_reducible rfl)))); (try simp only [List.getElem_toArray, List.getElem_cons_zero, List.getElem_cons_succ, Act.put, List.setIfInBounds_toArray, List.set_cons_zero, List.set_cons_succ]); (refine wpAnyH_take (i := 7) (v := ?_) rfl (by kernel_rfl) (by kernel_rfl) (by kernel_rfl) (fun _ _ _ h => h) (Or.inl ⟨by rfl, ?_⟩) (by assumption) ?_; rotate_left; (focus (intro W hSw; (try dsimp only at hSw); go_simp; try (with_reducible rfl)))); (try simp only [List.getElem_toArray, List.getElem_cons_zero, List.getElem_cons_succ, Act.put, List.setIfInBounds_toArray, List.set_cons_zero, List.set_cons_succ]); (refine wpAnyH_take (i := 8) (v := ?_) rfl (by kernel_rfl) (by kernel_rfl) (by kernel_rfl) (fun _ _ _ h => h) (Or.inl ⟨by rfl, ?_⟩) (by assumption) ?_; rotate_left; (focus (intro W hSw; (try dsimp only at hSw); go_simp; try (with_reducible rfl)))); (try simp only [List.getElem_toArray, List.getElem_cons_zero, List.getElem_cons_succ, Act.put, List.setIfInBounds_toArray, List.set_cons_zero, List.set_cons_succ]); (refine wpAnyH_take (i := 11) (v := ?_) rfl (by kernel_rfl) (by kernel_rfl) (by kernel_rfl) (fun _ _ _ h => h) (Or.inl ⟨by rfl, ?_⟩) (by assumption) ?_; rotate_left; (focus (intro W hSw; (try dsimp only at hSw); go_simp; try (with_reducible rfl)))); (try simp only [List.getElem_toArray, List.getElem_cons_zero, List.getElem_cons_succ, Act.put, List.setIfInBounds_toArray, List.set_cons_zero, List.set_cons_succ]))
      (refine wpAnyH_ready (rs := [9]) (by kernel_rfl) (by simp) ?_; refine AllReadyH.cons rfl (fun K hK => ?_) AllReadyH.nil)
      go_simp
      refine (HAB.out _).mono ?_; rintro e _ ⟨rfl, rfl⟩
      refine hK.out _ _ ⟨p0, hcy2⟩ (fun hHeld => ?_)
      clear hK K
      (try simp only [List.getElem_toArray, List.getElem_cons_zero, List.getElem_cons_succ, Act.put, List.setIfInBounds_toArray, List.set_cons_zero, List.set_cons_succ])
      ((refine wpAnyH_take (i := 10) (v := ?_) rfl (by kernel_rfl) (by kernel_rfl) (by kernel_rfl) (fun _ _ _ h => h) (Or.inl ⟨by rfl, ?_⟩) (by assumption) ?_; rotate_left; (focus (intro W hSw; (try dsimp only at hSw); go_simp; try (with_reducible rfl)))); (try simp only [List.getElem_toArray, List.getElem_cons_zero, List.getElem_cons_succ, Act.put, List.setIfInBounds_toArray, List.set_cons_zero, List.set_cons_succ]); (refine wpAnyH_take (i := 12) (v := ?_) rfl (by kernel_rfl) (by kernel_rfl) (by kernel_rfl) (fun _ _ _ h => h) (Or.inl ⟨by rfl, ?_⟩) (by assumption) ?_; rotate_left; (focus (intro W hSw; (try dsimp only at hSw); go_simp; try (with_reducible rfl)))); (try simp only [List.getElem_toArray, List.getElem_cons_zero, List.getElem_cons_succ, Act.put, List.setIfInBounds_toArray, List.set_cons_zero, List.set_cons_succ]))
      (refine wpAnyH_ready (rs := [13]) (by kernel_rfl) (by simp) ?_; refine AllReadyH.cons rfl (fun K hK => ?_) AllReadyH.nil)
      go_simp
      refine hK.out _ _ ⟨(hk.drew1.alloc _).c2.1, cell_alloc (show (World.drew wr).cell? ⟨gW, t, none⟩ = _ from hcy2) _⟩ (fun hHeld => ?_)
      clear hK K
      (try simp only [List.getElem_toArray, List.getElem_cons_zero, List.getElem_cons_succ, Act.put, List.setIfInBounds_toArray, List.set_cons_zero, List.set_cons_succ])
      have hlz : lo ≤ ((World.drew wr).alloc (.cells #[.int .i64 1, .int .i64 (x - 1), .int .i64 (-1), .int .i64 0, .int .i64 0, .int .i64 0] 49)).heap.size := by have e : (World.drew wr).heap.size = wr.heap.size := rfl; rw [World.size_alloc, e]; omega
      have olit := OwnC.news (OwnC.lit (w := World.drew wr) (lo := lo) (n := 1) 49 6 #[.int .i64 1, .int .i64 (x - 1), .int .i64 (-1), .int .i64 0, .int .i64 0, .int .i64 0] (by have e : (World.drew wr).heap.size = wr.heap.size := rfl; omega) (by decide) rfl)
      (refine wpAnyH_ready (rs := [14]) (by kernel_rfl) (by simp) ?_; refine AllReadyH.cons rfl (fun K hK => ?_) AllReadyH.nil)
      refine wp_appendC_at ((World.drew wr).alloc (.cells #[.int .i64 1, .int .i64 (x - 1), .int .i64 (-1), .int .i64 0, .int .i64 0, .int .i64 0] 49)) (.tmp 48) (.tmp 57) _ rfl 49 iE _ 6 48 Try.underlying26 ie0 iz0 iz1 iz2 rfl (by decide) (by simp [Act.eval]) ((OwnC.drew1 ho).alloc _) hlz (some ⟨wr.heap.size, 0, none⟩) 1 1 [.int .i64 1, .int .i64 (x - 1), .int .i64 (-1), .int .i64 0, .int .i64 0, .int .i64 0] (by simp [Act.eval]) (by simp) olit (by simp [Value.oneCell']) (by unfold maxLen; omega) (by omega) ?_
      intro A9 c9 w8 ho8 hg8 hb8 _
      obtain ⟨hk8, hS8, hB8, hX8⟩ := SHd.push (e := evCross (-1) x) hk ho hc hlo ho8 hg8 hb8
      refine hK.out _ _ ⟨hk8.c2.1, cell_blk bW (hX8 _ _ _ (by decide) (by decide) bW).1 t hcy2⟩ (fun hHeld => ?_)
      clear hK K
      (try simp only [List.getElem_toArray, List.getElem_cons_zero, List.getElem_cons_succ, Act.put, List.setIfInBounds_toArray, List.set_cons_zero, List.set_cons_succ])
      (refine wpAnyH_done (by kernel_rfl) ?_ _; change wpList _ _ _ _ _ _)
      clear hHeld
      obtain ⟨y0, y1⟩ := hk8.c2
      have y2 := hk8.frozen 0
      have how := ow.keepT (w' := w8.setCell ⟨g, 0, none⟩ (.slice A9 (E.length + 1) c9)) (fun k cur _ _ hkk => ((hX8 k 2 cur (by decide) (by decide) hkk).2).trans hkk.symm)
      have hRr := (hX8 _ _ _ (by decide) (by decide) bRr).2
      have HS8 := Lib.hid hS8; clear hS8
      have HOW := Lib.hid how; clear how
      have HRR := Lib.hid hRr; clear hRr
      have HB8 := Lib.hid hB8; clear hB8
      clear hX8 ho8 hg8 hb8 olit hlz hk8
      go_wp2_with (fail)
      exact ⟨⟨t + 1, E ++ [evCross (-1) x], by omega, by go_num, Lib.hid (by rw [HCE.out, HE.out, List.append_assoc]), by simp; omega, HS8.out, HOW.out, HRR.out, hbr.trans HB8.out⟩, by first | (simp [intOf]; done) | (simp [intOf]; omega)⟩
    · obtain rfl : t = Wd.length := by omega
      have dk : decide ((Wd.length : Int) < (Wd.length : Int)) = false := decide_eq_false (by omega)
      have hrw : Ints wr (some ⟨gR, 0, none⟩) c := HROW.out.blk BR.out bRr
      obtain ⟨AC, cC3, p1, hi2⟩ := hst.read
      obtain ⟨b9, off9, _, _, _, rfl, _, _, _, _⟩ := hi2 i hic
      dsimp only at p1
      have hzr := hst.lt
      have CO : Hid (Calls Try.prog 56 #[.slice (some ⟨gR, 2, none⟩) 2 (c3 - 2)] (wr.drewN 1) fun e w' => ∃ A' c', e = .returned (.slice A' 2 c') ∧ OwnC w' wr.heap.size w'.heap.size 2 1 A' 2 c' ((c.drop 2).map (Value.int .i64)) ∧ Below wr.heap.size wr w') := Lib.hid (by
        have hrd : Ints wr (some ⟨gR, 0 + 2, none⟩) (c.drop 2) := hrw.drop 2
        have := spec_l00Own (some ⟨gR, 2, none⟩) (c3 - 2) (c.drop 2) (wr.drewN 1) hrd (by rw [L2.out]; decide)
        rw [L2.out] at this
        refine this.mono ?_
        rintro e w' ⟨A', c', h1, h2, h3⟩
        refine ⟨A', c', h1, ?_, (below_drewN (Below.refl _ _) 1).trans h3⟩
        have h2' : OwnC w' wr.heap.size w'.heap.size 2 1 A' (c.drop 2).length c' ((c.drop 2).map (Value.int .i64)) := h2
        rw [L2.out] at h2'
        exact h2')
      obtain ⟨i0, hi0, hz0, hz1, hz2⟩ := info_parts info_int64
      have HST := Lib.hid hst
      clear hi2 hst
      go_upto_region 9 with fail
      (refine wp_region_pops 2 (S := (fun W' => W'.cell? ⟨g, 1, none⟩ = some (.slice (some ⟨b9, off9, none⟩) s.cells.length cC3))) (pre := ?_) (T := ?_) (n := ?_) (by kernel_rfl) (by kernel_rfl) ?_ ?_ ?_ ?_ (fun hHeld => ?_); rotate_left 3; (focus (simp only [pops, List.pop_toArray, List.dropLast_cons_cons, List.dropLast_singleton]; rfl)); (focus (simp only [tailOf, List.pop_toArray, List.dropLast_cons_cons, List.dropLast_singleton, List.back?_toArray, List.getLast?_cons_cons, List.getLast?_singleton, Option.toList_some, List.nil_append, List.cons_append]; rfl)); (focus rfl); (focus (exact p1)))
      ((refine wpAnyH_take (i := 0) (v := ?_) rfl (by kernel_rfl) (by kernel_rfl) (by kernel_rfl) (fun _ _ _ h => h) (Or.inl ⟨by rfl, ?_⟩) (by assumption) ?_; rotate_left; (focus (intro W hSw; (try dsimp only at hSw); go_simp; try (with_reducible rfl)))); (try simp only [List.getElem_toArray, List.getElem_cons_zero, Act.put, List.setIfInBounds_toArray, List.set_cons_zero, List.set_cons_succ]); (refine wpAnyH_take (i := 1) (v := ?_) rfl (by kernel_rfl) (by kernel_rfl) (by kernel_rfl) (fun _ _ _ h => h) (Or.inl ⟨by rfl, ?_⟩) (by assumption) ?_; rotate_left; (focus (intro W hSw; (try dsimp only at hSw); go_simp; try (with_reducible rfl)))); (try simp only [List.getElem_toArray, List.getElem_cons_zero, List.getElem_cons_succ, Act.put, List.setIfInBounds_toArray, List.set_cons_zero, List.set_cons_succ]); (refine wpAnyH_take (i := 2) (v := ?_) rfl (by kernel_rfl) (by kernel_rfl) (by kernel_rfl) (fun _ _ _ h => h) (Or.inl ⟨by rfl, ?_⟩) (by assumption) ?_; rotate_left; (focus (intro W hSw; (try dsimp only at hSw); go_simp; try (with_reducible rfl)))); (try simp only [List.getElem_toArray, List.getElem_cons_zero, List.getElem_cons_succ, Act.put, List.setIfInBounds_toArray, List.set_cons_zero, List.set_cons_succ]); (refine wpAnyH_take (i := 3) (v := ?_) rfl (by kernel_rfl) (by kernel_rfl) (by kernel_rfl) (fun _ _ _ h => h) (Or.inl ⟨by rfl, ?_⟩) (by assumption) ?_; rotate_left; (focus (intro W hSw; (try dsimp only at hSw); go_simp; try (with_reducible rfl)))); (try simp only [List.getElem_toArray, List.getElem_cons_zero, List.getElem_cons_succ, Act.put, List.setIfInBounds_toArray, List.set_cons_zero, List.set_cons_succ]); (refine wpAnyH_take (i := 4) (v := ?_) rfl (by kernel_rfl) (by kernel_rfl) (by kernel_rfl) (fun _ _ _ h => h) (Or.inl ⟨by rfl, ?_⟩) (by assumption) ?_; rotate_left; (focus (intro W hSw; (try dsimp only at hSw); go_simp; try (with_reducible rfl)))); (try simp only [List.getElem_toArray, List.getElem_cons_zero, List.getElem_cons_succ, Act.put, List.setIfInBounds_toArray, List.set_cons_zero, List.set_cons_succ]); (refine wpAnyH_take (i := 5) (v := ?_) rfl (by kernel_rfl) (by kernel_rfl) (by kernel_rfl) (fun _ _ _ h => h) (Or.inl ⟨by rfl, ?_⟩) (by assumption) ?_; rotate_left; (focus (intro W hSw; (try dsimp only at hSw); go_simp; try (with_reducible rfl)))); (try simp only [List.getElem_toArray, List.getElem_cons_zero, List.getElem_cons_succ, Act.put, List.setIfInBounds_toArray, List.set_cons_zero, List.set_cons_succ]); (refine wpAnyH_take (i := 6) (v := ?_) rfl (by kernel_rfl) (by kernel_rfl) (by kernel_rfl) (fun _ _ _ h => h) (Or.inl ⟨by rfl, ?_⟩) (by assumption) ?_; rotate_left; (focus (intro W hSw; (try dsimp only at hSw); go_simp; try (with_reducible rfl)))); (try simp only [List.getElem_toArray, List.getElem_cons_zero, List.getElem_cons_succ, Act.put, List.setIfInBounds_toArray, List.set_cons_zero, List.set_cons_succ]); (refine wpAnyH_take (i := 7) (v := ?_) rfl (by kernel_rfl) (by kernel_rfl) (by kernel_rfl) (fun _ _ _ h => h) (Or.inl ⟨by rfl, ?_⟩) (by assumption) ?_; rotate_left; (focus (intro W hSw; (try dsimp only at hSw); go_simp; try (with_reducible rfl)))); (try simp only [List.getElem_toArray, List.getElem_cons_zero, List.getElem_cons_succ, Act.put, List.setIfInBounds_toArray, List.set_cons_zero, List.set_cons_succ]); (refine wpAnyH_take (i := 9) (v := ?_) rfl (by kernel_rfl) (by kernel_rfl) (by kernel_rfl) (fun _ _ _ h => h) (Or.inl ⟨by rfl, ?_⟩) (by assumption) ?_; rotate_left; (focus (intro W hSw; (try dsimp only at hSw); go_simp; try (with_reducible rfl)))); (try simp only [List.getElem_toArray, List.getElem_cons_zero, List.getElem_cons_succ, Act.put, List.setIfInBounds_toArray, List.set_cons_zero, List.set_cons_succ]); (refine wpAnyH_take (i := 10) (v := ?_) rfl (by kernel_rfl) (by kernel_rfl) (by kernel_rfl) (fun _ _ _ h => h) (Or.inl ⟨by rfl, ?_⟩) (by assumption) ?_; rotate_left; (focus (intro W hSw; (try dsimp only at hSw); go_simp; try (with_reducible rfl)))); (try simp only [List.getElem_toArray, List.getElem_cons_zero, List.getElem_cons_succ, Act.put, List.setIfInBounds_toArray, List.set_cons_zero, List.set_cons_succ]); (refine wpAnyH_take (i := 11) (v := ?_) rfl (by kernel_rfl) (by kernel_rfl) (by kernel_rfl) (fun _ _ _ h => h) (Or.inl ⟨by rfl, ?_⟩) (by assumption) ?_; rotate_left; (focus (intro W hSw; (try dsimp only at hSw); go_simp; try (with_reducible rfl)))); (try simp only [List.getElem_toArray, List.getElem_cons_zero, List.getElem_cons_succ, Act.put, List.setIfInBounds_toArray, List.set_cons_zero, List.set_cons_succ]))
      (refine wpAnyH_ready (rs := [8]) (by kernel_rfl) (by simp) ?_; refine AllReadyH.cons rfl (fun K hK => ?_) AllReadyH.nil)
      go_simp
      refine CO.out.mono ?_; rintro e w6 ⟨A6, c6, rfl, o6, b6⟩
      refine hK.out _ _ (cells_below b6 _ _ p1) (fun hHeld => ?_)
      clear hK K
      (try simp only [List.getElem_toArray, List.getElem_cons_zero, List.getElem_cons_succ, Act.put, List.setIfInBounds_toArray, List.set_cons_zero, List.set_cons_succ])
      have hlz6 := b6.size
      have hr6 := (hrw.below b6).take 2
      have L1' := Lib.hid (show ((c.take 2).map (Value.int .i64)).length = 2 * 1 by rw [List.length_map, L1.out])
      (refine wpAnyH_ready (rs := [12]) (by kernel_rfl) (by simp) ?_; refine AllReadyH.cons rfl (fun K hK => ?_) AllReadyH.nil)
      refine wp_appendC_at w6 (.tmp 69) (.tmp 72) _ rfl 2 i0 _ 1 8 Try.underlying22 hi0 hz0 hz1 hz2 rfl (by decide) (by simp [Act.eval]) o6 hlz6 (some ⟨gR, 0, none⟩) 2 c3 ((c.take 2).map (Value.int .i64)) (by simp [Act.eval]) L1'.out hr6.newsM (fun u hu => by obtain ⟨z, _, rfl⟩ := List.mem_map.1 hu; rfl) (by unfold maxLen; omega) (by omega) ?_
      intro A7 c7 w7 ho7 hg7 hb7 _
      have hb67 : Below wr.heap.size wr w7 := b6.trans hb7
      refine hK.out _ _ (cells_below hb67 _ _ p1) (fun hHeld => ?_)
      clear hK K
      (try simp only [List.getElem_toArray, List.getElem_cons_zero, List.getElem_cons_succ, Act.put, List.setIfInBounds_toArray, List.set_cons_zero, List.set_cons_succ])
      (refine wpAnyH_done (by kernel_rfl) ?_ _; change wpList _ _ _ _ _ _)
      clear hHeld
      have hrl : (c.drop 2 ++ c.take 2).length = 2 + 2 := by rw [List.length_append, L1.out, L2.out]
      have ho7' : OwnI w7 wr.heap.size w7.heap.size A7 c7 (c.drop 2 ++ c.take 2) := by
        show OwnC _ _ _ _ _ _ _ _ _
        rw [hrl, List.map_append]
        exact ho7
      obtain ⟨gC4, cC4, y1, ⟨v, y2⟩, y3, hs3, hb3⟩ := HST.out.setRow (i := i) hic hb67 ho7'
      rw [hrl] at hs3 hb3
      dsimp only at y1
      rw [p1] at y1
      injection y1 with y1
      injection y1 with y1 _ y1c
      injection y1 with y1
      injection y1 with y1 y1b
      subst y1 y1b y1c
      have HS3 := Lib.hid hs3; clear hs3
      have HB3 := Lib.hid hb3; clear hb3
      clear CO o6 b6 hr6 ho7 hg7 hb7 ho7' hrl hb67 p1 hrw
      go_wp2_with (fail)
      go_end0
      rw [HM.out]
      have hE : E = s.evs ++ Ce := by rw [HE.out, ← HWL.out, List.take_of_length_le (Nat.le_refl _)]
      rw [← hE]
      exact ⟨rfl, HS3.out, hbr.trans HB3.out⟩

end Go.Proofs.Ythjamohaeahipaa
