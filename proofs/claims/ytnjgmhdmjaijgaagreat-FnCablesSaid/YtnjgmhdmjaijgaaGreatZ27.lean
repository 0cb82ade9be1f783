/- Steps of the proof, joined from several texts: QW QY QZ QA QX RA GH RB. -/
import Derived.Test.YtnjgmhdmjaijgaaGreatZ26
import Derived.Test.YtnjgmhdmjaijgaaGreatZ20
import Derived.Test.YtnjgmhdmjaijgaaGreatZ15
import Derived.Test.YtnjgmhdmjaijgaaGreatZ25
import Derived.Test.YtnjgmhdmjaijgaaGreatZ16
import Derived.Deep.RegionHeld3
import Derived.Deep.DeepCutAuto

/- A drawn braid, the given side. -/
namespace Go.Proofs.YtnjgmhdmjaijgaaGreat
open Go Go.RowKit

set_option maxHeartbeats 4000000 in
set_option maxRecDepth 10000 in
theorem spec_l03Draw (most : Nat) (w : World) (g : Nat) (AB : Option Addr) (cB : Nat) (bs : List Int) (b : Nat) (hsv : Sv w g AB cB bs b) (hb : b ≤ 900000) (hm : most ≤ 20) :
    Calls Tryz.prog 80 #[.pointer (some ⟨g, 0, none⟩), .int .i64 (most : Int)] w fun e w' => ∃ (n : Nat) (xs : List Int) (A' : Option Addr) (c' : Nat), e = .returned (.agg #[.int .i64 (n : Int), .slice A' xs.length c']) ∧ n ≤ 5 ∧ OwnC w' w.heap.size w'.heap.size 2 1 A' xs.length c' (xs.map (Value.int .i64)) ∧ xs.length ≤ most ∧ Sv w' g AB cB bs (b + 2 + 2 * most) ∧ w.grownBy w' (some g) := by
  have t1 : (38 : TypeId) ≠ 2 := by decide
  have hgw := hsv.lt
  have kz1 : Blk (w.alloc (.cells #[.int .i64 0, .slice none 0 0] 38)) w.heap.size 38 #[.int .i64 0, .slice none 0 0] := Blk.new w _ _
  have hs1 := hsv.alloc (.cells #[.int .i64 0, .slice none 0 0] 38)
  have hg1 : w.grownBy (w.alloc (.cells #[.int .i64 0, .slice none 0 0] 38)) (some g) := World.grownBy_alloc _ _ _
  obtain ⟨w1, hw1⟩ : ∃ w1, w1 = w.alloc (.cells #[.int .i64 0, .slice none 0 0] 38) := ⟨_, rfl⟩
  have hz1 : w1.heap.size = w.heap.size + 1 := by rw [hw1]; simp
  rw [← hw1] at kz1 hs1 hg1
  have HZ1 := Lib.hid hz1
  clear hz1
  go_enter Tryz.func80, Tryz.ntmps80
  go_upto_region 1 with fail
  rw [← hw1]
  clear hw1
  have HL : Hid (Ints (w1.alloc (.cells #[.int .i64 2, .int .i64 3, .int .i64 3, .int .i64 4, .int .i64 4, .int .i64 5, .int .i64 1, .int .i64 0] 2)) (some ⟨w1.heap.size, 0, none⟩) [2, 3, 3, 4, 4, 5, 1, 0]) := Lib.hid (OwnC.ints (OwnC.lit (w := w1) (lo := w1.heap.size) (n := 8) 2 1 #[.int .i64 2, .int .i64 3, .int .i64 3, .int .i64 4, .int .i64 4, .int .i64 5, .int .i64 1, .int .i64 0] (Nat.le_refl _) (by decide) rfl))
  go_wp2_with (fail)
  refine (sv_among [2, 3, 3, 4, 4, 5, 1, 0] (some ⟨w1.heap.size, 0, none⟩) 8 (by decide) (hs1.alloc _) (by omega) HL.out (fun a ha => by injection ha with ha; subst ha; show w1.heap.size ≠ g; have := HZ1.out; omega)).mono ?_
  rintro e w2 ⟨y, rfl, hy, hs2, hg2, hz2⟩
  obtain ⟨n, hn⟩ : ∃ n : Nat, y = (n : Int) ∧ n ≤ 5 := by
    simp only [List.mem_cons, List.not_mem_nil, or_false] at hy
    rcases hy with rfl | rfl | rfl | rfl | rfl | rfl | rfl | rfl
    · exact ⟨2, rfl, by omega⟩
    · exact ⟨3, rfl, by omega⟩
    · exact ⟨3, rfl, by omega⟩
    · exact ⟨4, rfl, by omega⟩
    · exact ⟨4, rfl, by omega⟩
    · exact ⟨5, rfl, by omega⟩
    · exact ⟨1, rfl, by omega⟩
    · exact ⟨0, rfl, by omega⟩
  obtain ⟨rfl, hn5⟩ := hn
  have kz2 := (kz1.alloc (.cells #[.int .i64 2, .int .i64 3, .int .i64 3, .int .i64 4, .int .i64 4, .int .i64 5, .int .i64 1, .int .i64 0] 2)).grownG hg2 (by omega)
  have hgw2 := (gb_al hg1 (.cells #[.int .i64 2, .int .i64 3, .int .i64 3, .int .i64 4, .int .i64 4, .int .i64 5, .int .i64 1, .int .i64 0] 2)).trans hg2
  clear hg2 hz2 hy kz1 hs1 hg1 HL
  have hlt2 := kz2.lt
  go_wp2_with (fail)
  refine (spec_l03DrawWord n most w2 g AB cB bs (b + 1) hs2 (by omega) (by omega) hm).mono ?_
  rintro e w3 ⟨xs, A', c', rfl, o3, hl3, hs3, hg3⟩
  have kz3 := kz2.grownG hg3 (by omega)
  have hgw3 := hgw2.trans hg3
  have o4 := o3.farT kz3 t1
  have HS3 := Lib.hid (show Sv w3 g AB cB bs (b + 2 + 2 * most) from hs3.mono (by omega))
  obtain ⟨r0, r1⟩ := kz3.c2
  have fz0 := kz3.frozen 0
  have fz1 := kz3.frozen 1
  have HL3 := Lib.hid hl3
  generalize hLL : xs.length = L at *
  have HLL := Lib.hid hLL
  clear hLL hl3
  go_wp2_with (fail)
  have k1 := kz3.set20 (.int .i64 (n : Int))
  have k2 := k1.set21 (.slice A' L c')
  obtain ⟨r0, r1⟩ := k2.c2
  refine bodyPost_ret (v := .agg #[.int .i64 (n : Int), .slice A' L c']) (by simp [results, Tryz.results80, go_sem, r0, r1]) rfl ⟨n, xs, A', c', by rw [HLL.out], hn5, ?_, by rw [HLL.out]; exact HL3.out, ?_, ?_⟩
  · rw [HLL.out]
    exact (((o3.farT kz3 t1 0 _).farT k1 t1 1 _).mono (by omega) (by simp))
  · exact ((HS3.out.store (by show g < w.heap.size; omega) _).store (by show g < w.heap.size; omega) _)
  · exact gb_set (gb_set hgw3 (by show w.heap.size ≤ w.heap.size; omega) _) (by show w.heap.size ≤ w.heap.size; omega) _

end Go.Proofs.YtnjgmhdmjaijgaaGreat

/- A braid that is often not valid, drawn, the given side. -/
namespace Go.Proofs.YtnjgmhdmjaijgaaGreat
open Go Go.RowKit

theorem OwnC.prefix1 {w : World} {lo hi : Nat} {e : TypeId} {sz : Nat} {A : Option Addr} {n c m : Nat} {cs : List Value} (h : OwnC w lo hi e sz A n c cs) (hm : m ≤ n) : OwnC w lo hi e sz A m c (cs.take (m * sz)) := by
  have hmn := Nat.mul_le_mul_right sz hm
  refine ⟨⟨?_, ?_⟩, h.lt⟩
  · rw [List.length_take, h.len]; omega
  · rcases h.form with ⟨rfl, rfl, rfl, rfl⟩ | ⟨g, cur, rfl, h1, h2, h3, h4, h5, h6, h7⟩
    · obtain rfl : m = 0 := by omega
      exact .inl ⟨rfl, rfl⟩
    · refine .inr ⟨g, c, cur, rfl, h1, h3, by omega, h5, h6, ?_⟩
      rw [← h7, List.take_take, Nat.min_eq_left hmn]

set_option maxHeartbeats 8000000 in
set_option maxRecDepth 10000 in
theorem spec_l03Bent (w : World) (g : Nat) (AB : Option Addr) (cB : Nat) (bs : List Int) (b : Nat) (hsv : Sv w g AB cB bs b) (hb : b ≤ 800000) :
    Calls Tryz.prog 38 #[.pointer (some ⟨g, 0, none⟩), .int .i64 9] w fun e w' => ∃ (z : Int) (xs : List Int) (A' : Option Addr) (c' : Nat), e = .returned (.agg #[.int .i64 z, .slice A' xs.length c']) ∧ (-20 ≤ z ∧ z ≤ 20) ∧ OwnC w' w.heap.size w'.heap.size 2 1 A' xs.length c' (xs.map (Value.int .i64)) ∧ xs.length ≤ 50 ∧ Sv w' g AB cB bs (b + 100) ∧ w.grownBy w' (some g) := by
  have t1 : (38 : TypeId) ≠ 2 := by decide
  have hgw0 := hsv.lt
  obtain ⟨i1, hi1, hu0, hu1, hu2⟩ := info_parts info_int64
  have kz1 : Blk (w.alloc (.cells #[.int .i64 0, .slice none 0 0] 38)) w.heap.size 38 #[.int .i64 0, .slice none 0 0] := Blk.new w _ _
  have hs1 := hsv.alloc (.cells #[.int .i64 0, .slice none 0 0] 38)
  have hg1 : w.grownBy (w.alloc (.cells #[.int .i64 0, .slice none 0 0] 38)) (some g) := World.grownBy_alloc _ _ _
  obtain ⟨w1, hw1⟩ : ∃ w1, w1 = w.alloc (.cells #[.int .i64 0, .slice none 0 0] 38) := ⟨_, rfl⟩
  rw [← hw1] at kz1 hs1 hg1
  go_enter Tryz.func38, Tryz.ntmps38
  go_upto_region 1 with fail
  rw [← hw1]
  clear hw1
  go_wp2_with (fail)
  refine (spec_l03Draw 9 w1 g AB cB bs b hs1 (by omega) (by omega)).mono ?_
  rintro e w2 ⟨n, xs, A', c', rfl, hn5, o2, hl2, hs2, hg2⟩
  have hz12 := kz1.lt
  have kz2 := kz1.grownG hg2 (by omega)
  have hgw2 := hg1.trans hg2
  generalize hLL : xs.length = L at *
  have HLL := Lib.hid hLL
  clear hLL
  have kb3 : Blk (w2.alloc (.cells #[.int .i64 (n : Int), .slice A' L c'] 38)) w2.heap.size 38 #[.int .i64 (n : Int), .slice A' L c'] := Blk.new w2 _ _
  have kz3 := kz2.alloc (.cells #[.int .i64 (n : Int), .slice A' L c'] 38)
  have o3 := OwnC.alloc o2 (.cells #[.int .i64 (n : Int), .slice A' L c'] 38)
  have hs3 := hs2.alloc (.cells #[.int .i64 (n : Int), .slice A' L c'] 38)
  have hgw3 := gb_al hgw2 (.cells #[.int .i64 (n : Int), .slice A' L c'] 38)
  have hB : w.heap.size < w2.heap.size := kz2.lt
  obtain ⟨gB, hgB⟩ : ∃ gB, gB = w2.heap.size := ⟨_, rfl⟩
  have hlo : w1.heap.size ≤ gB := by have := hg2.size; omega
  obtain ⟨w3, hw3⟩ : ∃ w3, w3 = w2.alloc (.cells #[.int .i64 (n : Int), .slice A' L c'] 38) := ⟨_, rfl⟩
  go_upto_region 2 with fail
  rw [← hw3, ← hgB]
  rw [← hw3] at kb3 kz3 o3 hs3 hgw3
  rw [← hgB] at kb3 o3 hB
  clear hw3 hgB hg2 o2 hs2 kz2 hgw2 kz1 hs1 hg1
  go_wp2_with (fail)
  refine (sv_pick 14 (by decide) hs3 (by omega)).mono ?_
  rintro e w4 ⟨x, rfl, hx0, hx1, hs, hg4, hz4⟩
  have kz := kz3.grownG hg4 (by omega)
  have kb := kb3.grownG hg4 (by omega)
  have hgw := hgw3.trans hg4
  have o : OwnC w4 w1.heap.size gB 2 1 A' L c' (xs.map (Value.int .i64)) := o3.grownG hg4 (.inl (by omega))
  have hlt4 := kb.lt
  clear kz3 kb3 hgw3 o3 hs3 hg4 hz4
  by_cases e0 : x = 0
  · subst e0
    have d0 : ((0 : Int) == 0) = true := by decide
    have HL : Hid (Ints (w4.alloc (.cells #[.int .i64 (-1), .int .i64 12, .int .i64 13, .int .i64 1] 2)) (some ⟨w4.heap.size, 0, none⟩) [-1, 12, 13, 1]) := Lib.hid (OwnC.ints (OwnC.lit (w := w4) (lo := w4.heap.size) (n := 4) 2 1 #[.int .i64 (-1), .int .i64 12, .int .i64 13, .int .i64 1] (Nat.le_refl _) (by decide) rfl))
    have q0 := kb.c2.1
    go_wp2_with (fail)
    refine (sv_among [-1, 12, 13, 1] (some ⟨w4.heap.size, 0, none⟩) 4 (by decide) (hs.alloc _) (by omega) HL.out (fun a ha => by injection ha with ha; subst ha; show w4.heap.size ≠ g; omega)).mono ?_
    rintro e w5 ⟨z, rfl, hz, hs5, hg5, hz5⟩
    have hzz : -20 ≤ z ∧ z ≤ 20 := by
      simp only [List.mem_cons, List.not_mem_nil, or_false] at hz
      omega
    have kz5 := (kz.alloc (.cells #[.int .i64 (-1), .int .i64 12, .int .i64 13, .int .i64 1] 2)).grownG hg5 (by omega)
    have kb5 := (kb.alloc (.cells #[.int .i64 (-1), .int .i64 12, .int .i64 13, .int .i64 1] 2)).grownG hg5 (by omega)
    have o5 := OwnC.grownG (OwnC.alloc o (.cells #[.int .i64 (-1), .int .i64 12, .int .i64 13, .int .i64 1] 2)) hg5 (.inl (by omega))
    have hgw5 := (gb_al hgw (.cells #[.int .i64 (-1), .int .i64 12, .int .i64 13, .int .i64 1] 2)).trans hg5
    have q0 := kb5.c2.1
    have fr0 := kb5.frozen 0
    have hb6 : Blk (w5.setCell ⟨gB, 0, none⟩ (.int .i64 z)) gB 38 #[.int .i64 z, .slice A' L c'] := kb5.set20 _
    have hz6 : Blk (w5.setCell ⟨gB, 0, none⟩ (.int .i64 z)) w.heap.size 38 #[.int .i64 0, .slice none 0 0] := kz5.far (p := ⟨gB, 0, none⟩) (by show w.heap.size ≠ gB; omega) _
    have o6 : OwnC (w5.setCell ⟨gB, 0, none⟩ (.int .i64 z)) w1.heap.size gB 2 1 A' L c' (xs.map (Value.int .i64)) := o5.farT kb5 t1 0 _
    have hs6 := hs5.store (q := gB) (j := 0) (by omega) (.int .i64 z)
    have hg6 := gb_set hgw5 (p := ⟨gB, 0, none⟩) (by show w.heap.size ≤ gB; omega) (.int .i64 z)
    go_upto_region 11 with fail
    obtain ⟨w6, hw6⟩ : ∃ w6, w6 = w5.setCell ⟨gB, 0, none⟩ (.int .i64 z) := ⟨_, rfl⟩
    rw [← hw6] at hb6 hz6 o6 hs6 hg6 ⊢
    clear hw6 kb kz o hs hgw q0 fr0 kz5 kb5 o5 hgw5 hs5 hg5 hz5 hz HL hlt4
    have kb := hb6; have kz := hz6; have o := o6; have hs := hs6; have hgw := hg6
    have hlt4 := kb.lt
    clear hb6 hz6 o6 hs6 hg6
    obtain ⟨p0, p1⟩ := kb.c2
    obtain ⟨r0, r1⟩ := kz.c2
    have fz0 := kz.frozen 0
    have fz1 := kz.frozen 1
    have hne : ¬ w.heap.size = gB := by omega
    have hne2 : ¬ gB = w.heap.size := by omega
    go_wp2_with (fail)
    have k1 := kz.set20 (.int .i64 z)
    have k2 := k1.set21 (.slice A' L c')
    obtain ⟨r0, r1⟩ := k2.c2
    refine bodyPost_ret (v := .agg #[.int .i64 z, .slice A' L c']) (by simp [results, Tryz.results38, go_sem, r0, r1]) rfl ⟨z, xs, A', c', by rw [HLL.out], by omega, ?_, by rw [HLL.out]; omega, ?_, ?_⟩
    · rw [HLL.out]
      exact ((o.farT kz t1 0 _).farT k1 t1 1 _).mono (by omega) (by first | (simp; done) | (simp; omega))
    · exact ((hs.mono (by omega)).store (by show g < w.heap.size; omega) _).store (by show g < w.heap.size; omega) _
    · exact gb_set (gb_set hgw (by show w.heap.size ≤ w.heap.size; omega) _) (by show w.heap.size ≤ w.heap.size; omega) _
  · have d0 : (x == 0) = false := by simpa using e0
    by_cases e1 : x = 1
    · subst e1
      have d0 : ((1 : Int) == 0) = false := by decide
      have d1 : ((1 : Int) == 1) = true := by decide
      have wn : IntKind.i64.wrap (-(n : Int)) = -(n : Int) := IntWalk.i64_in _ ⟨by omega, by omega⟩
      obtain ⟨q0, q1⟩ := kb.c2
      have HL : Hid (∀ W : World, Ints (W.alloc (.cells #[.int .i64 0, .int .i64 (n : Int), .int .i64 (-(n : Int)), .int .i64 (-9223372036854775808)] 2)) (some ⟨W.heap.size, 0, none⟩) [0, (n : Int), -(n : Int), -9223372036854775808]) := Lib.hid (fun W => OwnC.ints (OwnC.lit (w := W) (lo := W.heap.size) (n := 4) 2 1 #[.int .i64 0, .int .i64 (n : Int), .int .i64 (-(n : Int)), .int .i64 (-9223372036854775808)] (Nat.le_refl _) (by decide) rfl))
      go_wp2_with (fail)
      (refine wp_region_pops 1 (S := (fun W' => W'.cell? ⟨gB, 0, none⟩ = some (.int .i64 (n : Int)) ∧ W'.cell? ⟨gB, 1, none⟩ = some (.slice A' L c'))) (pre := ?_) (T := ?_) (n := ?_) (by kernel_rfl) (by kernel_rfl) ?_ ?_ ?_ ?_ (fun hHeld => ?_); rotate_left 3; (focus (simp only [pops, List.pop_toArray, List.dropLast_cons_cons, List.dropLast_singleton]; rfl)); (focus (simp only [tailOf, List.back?_toArray, List.getLast?_cons_cons, List.getLast?_singleton, Option.toList_some, List.nil_append]; rfl)); (focus rfl); (focus (exact ⟨q0, q1⟩)))
      ((refine wpAnyH_take (i := 0) (v := ?_) rfl (by kernel_rfl) (by kernel_rfl) (by kernel_rfl) (fun _ _ _ h => h) (Or.inl ⟨by rfl, ?_⟩) (by assumption) ?_; rotate_left; (focus (intro W hSw; (try dsimp only at hSw); go_simp; try (with_reducible rfl)))); (try simp only [List.getElem_toArray, List.getElem_cons_zero, Act.put, List.setIfInBounds_toArray, List.set_cons_zero, List.set_cons_succ]); (refine wpAnyH_take (i := 1) (v := ?_) rfl (by kernel_rfl) (by kernel_rfl) (by kernel_rfl) (fun _ _ _ h => h) (Or.inl ⟨by rfl, ?_⟩) (by assumption) ?_; rotate_left; (focus (intro W hSw; (try dsimp only at hSw); go_simp; try (with_reducible rfl)))); (try simp only [List.getElem_toArray, List.getElem_cons_zero, List.getElem_cons_succ, Act.put, List.setIfInBounds_toArray, List.set_cons_zero, List.set_cons_succ]); (refine wpAnyH_take (i := 2) (v := ?_) rfl (by kernel_rfl) (by kernel_rfl) (by kernel_rfl) (fun _ _ _ h => h) (Or.inl ⟨by rfl, ?_⟩) (by assumption) ?_; rotate_left; (focus (intro W hSw; (try dsimp only at hSw); go_simp; try (with_reducible rfl)))); (try simp only [List.getElem_toArray, List.getElem_cons_zero, List.getElem_cons_succ, Act.put, List.setIfInBounds_toArray, List.set_cons_zero, List.set_cons_succ]); (refine wpAnyH_take (i := 3) (v := ?_) rfl (by kernel_rfl) (by kernel_rfl) (by kernel_rfl) (fun _ _ _ h => h) (Or.inl ⟨by rfl, ?_⟩) (by assumption) ?_; rotate_left; (focus (intro W hSw; (try dsimp only at hSw); go_simp; try (with_reducible rfl)))); (try simp only [List.getElem_toArray, List.getElem_cons_zero, List.getElem_cons_succ, Act.put, List.setIfInBounds_toArray, List.set_cons_zero, List.set_cons_succ]); (refine wpAnyH_take (i := 4) (v := ?_) rfl (by kernel_rfl) (by kernel_rfl) (by kernel_rfl) (fun _ _ _ h => h) (Or.inl ⟨by rfl, ?_⟩) (by assumption) ?_; rotate_left; (focus (intro W hSw; (try dsimp only at hSw); go_simp; try (with_reducible rfl)))); (try simp only [List.getElem_toArray, List.getElem_cons_zero, List.getElem_cons_succ, Act.put, List.setIfInBounds_toArray, List.set_cons_zero, List.set_cons_succ]); (refine wpAnyH_take (i := 5) (v := ?_) rfl (by kernel_rfl) (by kernel_rfl) (by kernel_rfl) (fun _ _ _ h => h) (Or.inl ⟨by rfl, ?_⟩) (by assumption) ?_; rotate_left; (focus (intro W hSw; (try dsimp only at hSw); go_simp; try (with_reducible rfl)))); (try simp only [List.getElem_toArray, List.getElem_cons_zero, List.getElem_cons_succ, Act.put, List.setIfInBounds_toArray, List.set_cons_zero, List.set_cons_succ]); (refine wpAnyH_take (i := 6) (v := ?_) rfl (by kernel_rfl) (by kernel_rfl) (by kernel_rfl) (fun _ _ _ h => h) (Or.inl ⟨by rfl, ?_⟩) (by assumption) ?_; rotate_left; (focus (intro W hSw; (try dsimp only at hSw); go_simp; try (with_reducible rfl)))); (try simp only [List.getElem_toArray, List.getElem_cons_zero, List.getElem_cons_succ, Act.put, List.setIfInBounds_toArray, List.set_cons_zero, List.set_cons_succ]); (refine wpAnyH_take (i := 7) (v := ?_) rfl (by kernel_rfl) (by kernel_rfl) (by kernel_rfl) (fun _ _ _ h => h) (Or.inl ⟨by rfl, ?_⟩) (by assumption) ?_; rotate_left; (focus (intro W hSw; (try dsimp only at hSw); go_simp; try (with_reducible rfl)))); (try simp only [List.getElem_toArray, List.getElem_cons_zero, List.getElem_cons_succ, Act.put, List.setIfInBounds_toArray, List.set_cons_zero, List.set_cons_succ]))
      (refine wpAnyH_ready (rs := [8]) (by kernel_rfl) (by simp) ?_; refine AllReadyH.cons rfl (fun K hK => ?_) AllReadyH.nil)
      go_simp
      refine hK.out _ _ ⟨cell_alloc q0 _, cell_alloc q1 _⟩ (fun hHeld => ?_)
      clear hK K
      (try simp only [List.getElem_toArray, List.getElem_cons_zero, List.getElem_cons_succ, Act.put, List.setIfInBounds_toArray, List.set_cons_zero, List.set_cons_succ])
      (refine wpAnyH_ready (rs := [9]) (by kernel_rfl) (by simp) ?_; refine AllReadyH.cons rfl (fun K hK => ?_) AllReadyH.nil)
      go_simp
      refine (sv_among [0, (n : Int), -(n : Int), -9223372036854775808] (some ⟨w4.heap.size, 0, none⟩) 4 (by simp) ((hs.drewN 1).alloc _) (by omega) (HL.out w4.drew) (fun a ha => by injection ha with ha; subst ha; show w4.heap.size ≠ g; omega)).mono ?_
      rintro e w5 ⟨z, rfl, _, hs5, hg5, hz5⟩
      clear hz5
      have kz5 := ((kz.drewN 1).alloc (.cells #[.int .i64 0, .int .i64 (n : Int), .int .i64 (-(n : Int)), .int .i64 (-9223372036854775808)] 2)).grownG hg5 (by omega)
      have kb5 := ((kb.drewN 1).alloc (.cells #[.int .i64 0, .int .i64 (n : Int), .int .i64 (-(n : Int)), .int .i64 (-9223372036854775808)] 2)).grownG hg5 (by omega)
      have o5 := OwnC.grownG (OwnC.alloc (OwnC.drew1 o) (.cells #[.int .i64 0, .int .i64 (n : Int), .int .i64 (-(n : Int)), .int .i64 (-9223372036854775808)] 2)) hg5 (.inl (by omega))
      have hgw5 := (gb_al (gb_bel hgw (below_drewN (Below.refl _ _) 1)) (.cells #[.int .i64 0, .int .i64 (n : Int), .int .i64 (-(n : Int)), .int .i64 (-9223372036854775808)] 2)).trans hg5
      refine hK.out _ _ kb5.c2 (fun hHeld => ?_)
      clear hK K
      (try simp only [List.getElem_toArray, List.getElem_cons_zero, List.getElem_cons_succ, Act.put, List.setIfInBounds_toArray, List.set_cons_zero, List.set_cons_succ])
      (refine wpAnyH_ready (rs := [10]) (by kernel_rfl) (by simp) ?_; refine AllReadyH.cons rfl (fun K hK => ?_) AllReadyH.nil)
      go_simp
      refine hK.out _ _ ⟨cell_alloc kb5.c2.1 _, cell_alloc kb5.c2.2 _⟩ (fun hHeld => ?_)
      clear hK K
      (try simp only [List.getElem_toArray, List.getElem_cons_zero, List.getElem_cons_succ, Act.put, List.setIfInBounds_toArray, List.set_cons_zero, List.set_cons_succ])
      have hz51 : w1.heap.size ≤ (w5.alloc (.cells #[.int .i64 z] 2)).heap.size := by have := kb5.lt; rw [World.size_alloc]; omega
      have olit := OwnC.news (OwnC.lit (w := w5) (lo := w5.heap.size) (n := 1) 2 1 #[.int .i64 z] (Nat.le_refl _) (by decide) rfl)
      (refine wpAnyH_ready (rs := [11]) (by kernel_rfl) (by simp) ?_; refine AllReadyH.cons rfl (fun K hK => ?_) AllReadyH.nil)
      refine wp_appendC_at (w5.alloc (.cells #[.int .i64 z] 2)) (.tmp 20) (.tmp 29) _ rfl 2 i1 _ 1 8 Tryz.underlying36 hi1 hu0 hu1 hu2 rfl (by decide) (by simp [Act.eval]) (OwnC.alloc o5 _) hz51 (some ⟨w5.heap.size, 0, none⟩) 1 1 [.int .i64 z] (by simp [Act.eval]) (by simp) olit (by simp [Value.oneCell']) (by unfold maxLen; omega) (by omega) ?_
      intro A9 c9 w8 ho8 hg8 hb8 _
      have hr : ∀ q, (Value.slice A' L c').ownBlock = some q → w1.heap.size ≤ q := fun q hq => by
        rcases o5.form with ⟨hA, _⟩ | ⟨g2, _, hA, h1, _⟩
        · rw [hA] at hq; cases hq
        · rw [hA] at hq; injection hq with hq; exact hq ▸ h1
      have kb8 := (kb5.alloc (.cells #[.int .i64 z] 2)).grownT (OwnC.alloc o5 (.cells #[.int .i64 z] 2)) t1 hg8
      have kz8 := (kz5.alloc (.cells #[.int .i64 z] 2)).grownT (OwnC.alloc o5 (.cells #[.int .i64 z] 2)) t1 hg8
      have hs8 := (hs5.alloc (.cells #[.int .i64 z] 2)).grown hg8 (fun q hq => by have := hr q hq; omega)
      have hgw8 := gb_app (gb_al hgw5 (.cells #[.int .i64 z] 2)) hg8 (fun q hq => by have := hr q hq; omega)
      refine hK.out _ _ kb8.c2 (fun hHeld => ?_)
      clear hK K
      (try simp only [List.getElem_toArray, List.getElem_cons_zero, List.getElem_cons_succ, Act.put, List.setIfInBounds_toArray, List.set_cons_zero, List.set_cons_succ])
      ((refine wpAnyH_take (i := 12) (v := ?_) rfl (by kernel_rfl) (by kernel_rfl) (by kernel_rfl) (fun _ _ _ h => h) (Or.inl ⟨by rfl, ?_⟩) (by assumption) ?_; rotate_left; (focus (intro W hSw; (try dsimp only at hSw); go_simp; try (with_reducible rfl)))); (try simp only [List.getElem_toArray, List.getElem_cons_zero, List.getElem_cons_succ, Act.put, List.setIfInBounds_toArray, List.set_cons_zero, List.set_cons_succ]))
      (refine wpAnyH_done (by kernel_rfl) ?_ _; change wpList _ _ _ _ _ _)
      clear hHeld
      obtain ⟨q0, q1⟩ := kb8.c2
      have fr1 := kb8.frozen 1
      have HLL9 : Hid ((xs ++ [z]).length = L + 1) := Lib.hid (by rw [List.length_append, List.length_singleton, HLL.out])
      have kb9 := kb8.set21 (.slice A9 (L + 1) c9)
      have kz9 := kz8.far (p := ⟨gB, 1, none⟩) (by show w.heap.size ≠ gB; omega) (.slice A9 (L + 1) c9)
      have o9 : OwnC (w8.setCell ⟨gB, 1, none⟩ (.slice A9 (L + 1) c9)) w1.heap.size w8.heap.size 2 1 A9 (L + 1) c9 ((xs ++ [z]).map (Value.int .i64)) := by
        have h9 := OwnC.farT ho8 kb8 t1 1 (.slice A9 (L + 1) c9)
        simpa using h9
      have hs9 := hs8.store (q := gB) (j := 1) (by omega) (.slice A9 (L + 1) c9)
      have hg9 := gb_set hgw8 (p := ⟨gB, 1, none⟩) (by show w.heap.size ≤ gB; omega) (.slice A9 (L + 1) c9)
      go_upto_region 11 with fail
      obtain ⟨w9, hw9⟩ : ∃ w9, w9 = w8.setCell ⟨gB, 1, none⟩ (.slice A9 (L + 1) c9) := ⟨_, rfl⟩
      have hz9 : w8.heap.size ≤ w9.heap.size := by rw [hw9]; simp
      rw [← hw9] at kb9 kz9 o9 hs9 hg9 ⊢
      clear hw9 kb kz o hs hgw q0 q1 fr1 kz5 kb5 o5 hgw5 hs5 hg5 kb8 kz8 hs8 hgw8 ho8 hg8 hb8 olit hlt4
      have kb := kb9; have kz := kz9; have o := o9.mono (Nat.le_refl _) hz9; have hs := hs9; have hgw := hg9
      have hlt4 := kb.lt
      clear kb9 kz9 o9 hs9 hg9
      obtain ⟨p0, p1⟩ := kb.c2
      obtain ⟨r0, r1⟩ := kz.c2
      have fz0 := kz.frozen 0
      have fz1 := kz.frozen 1
      have hne : ¬ w.heap.size = gB := by omega
      have hne2 : ¬ gB = w.heap.size := by omega
      go_wp2_with (fail)
      have k1 := kz.set20 (.int .i64 (n : Int))
      have k2 := k1.set21 (.slice A9 (L + 1) c9)
      obtain ⟨r0, r1⟩ := k2.c2
      refine bodyPost_ret (v := .agg #[.int .i64 (n : Int), .slice A9 (L + 1) c9]) (by simp [results, Tryz.results38, go_sem, r0, r1]) rfl ⟨n, xs ++ [z], A9, c9, by rw [HLL9.out], by omega, ?_, by rw [HLL9.out]; omega, ?_, ?_⟩
      · rw [HLL9.out]
        exact ((o.farT kz t1 0 _).farT k1 t1 1 _).mono (by omega) (by first | (simp; done) | (simp; omega))
      · exact ((hs.mono (by omega)).store (by show g < w.heap.size; omega) _).store (by show g < w.heap.size; omega) _
      · exact gb_set (gb_set hgw (by show w.heap.size ≤ w.heap.size; omega) _) (by show w.heap.size ≤ w.heap.size; omega) _
    · have d1 : (x == 1) = false := by simpa using e1
      by_cases e2 : x = 2
      · subst e2
        have d0 : ((2 : Int) == 0) = false := by decide
        have d1 : ((2 : Int) == 1) = false := by decide
        have d2 : ((2 : Int) == 2) = true := by decide
        have hgB : gB ≤ w4.heap.size := by omega
        have o' := o.mono (Nat.le_refl _) hgB
        have HB := Lib.hid hB
        clear o
        go_wp2_with (fail)
        go_loopg [34] 41 (fun gk _ wr => ∃ (ys : List Int) (A3 : Option Addr) (c3 M : Nat), Hid (M = ys.length) ∧ M ≤ 41 ∧ 41 ≤ gk + M ∧ Blk wr gB 38 #[.int .i64 (n : Int), .slice A3 M c3] ∧ Blk wr w.heap.size 38 #[.int .i64 0, .slice none 0 0] ∧ OwnC wr w1.heap.size wr.heap.size 2 1 A3 M c3 (ys.map (Value.int .i64)) ∧ Sv wr g AB cB bs (b + 60) ∧ w.grownBy wr (some g))
        case atStart => exact ⟨xs, A', c', L, Lib.hid HLL.out.symm, by omega, by omega, kb, kz, o', hs.mono (by omega), hgw⟩
        case round =>
          clear kb kz o' hs hgw hlt4 hgB
          obtain ⟨ys, A3, c3, M, HM, hM, hgk, kb, kz, o, hs, hgw⟩ := hrel
          obtain ⟨q0, q1⟩ := kb.c2
          have fr1 := kb.frozen 1
          have hltw := kb.lt
          have hlo2 : w1.heap.size ≤ wr.heap.size := by omega
          by_cases h40 : M ≤ 40
          · have dM : decide ((M : Int) ≤ 40) = true := decide_eq_true (by omega)
            have HY : Hid (M + 1 = (ys ++ [1]).length) := Lib.hid (by rw [List.length_append, List.length_singleton, HM.out])
            go_wp2_with (at_builtin; refine wpList_append1 wr [.int .i64 1] _ rfl (.tmp 39) (.tmp 40) _ rfl 2 i1 _ 1 8 Tryz.underlying36 hi1 hu0 hu1 hu2 rfl (by decide) rfl o hlo2 1 rfl rfl (by simp [Value.oneCell']) (by omega) (by decide) ?_; intro A6 c6 w6 ho6 hg6 hb6 hz6; have kr6 := (kb.alloc (.cells #[.int .i64 1] 2)).grownT (o.alloc (.cells #[.int .i64 1] 2)) t1 hg6; obtain ⟨y0', y1'⟩ := kr6.c2; have y3' := kr6.frozen 1)
            have kr6 := (kb.alloc (.cells #[.int .i64 1] 2)).grownT (o.alloc (.cells #[.int .i64 1] 2)) t1 hg6
            have kz6 := (kz.alloc (.cells #[.int .i64 1] 2)).grownT (o.alloc (.cells #[.int .i64 1] 2)) t1 hg6
            have hr : ∀ q, (Value.slice A3 M c3).ownBlock = some q → w1.heap.size ≤ q := fun q hq => by
              rcases o.form with ⟨hA, _⟩ | ⟨g2, _, hA, h1, _⟩
              · rw [hA] at hq; cases hq
              · rw [hA] at hq; injection hq with hq; exact hq ▸ h1
            have hs6 := (hs.alloc (.cells #[.int .i64 1] 2)).grown hg6 (fun q hq => by have := hr q hq; omega)
            have hgw6 := gb_app (gb_al hgw (.cells #[.int .i64 1] 2)) hg6 (fun q hq => by have := hr q hq; omega)
            have HB1 := HB.out
            obtain ⟨gm, rfl⟩ : ∃ gm, gk = gm + 1 := ⟨gk - 1, by omega⟩
            have h9 := (OwnC.farT ho6 kr6 t1 1 (.slice A6 (M + 1) c6)).mono (Nat.le_refl _) (show w6.heap.size ≤ (w6.setCell ⟨gB, 1, none⟩ (.slice A6 (M + 1) c6)).heap.size by simp)
            go_roundg gm
            case measure => omega
            case rel => exact ⟨ys ++ [1], A6, c6, M + 1, HY, by omega, by omega, kr6.set21 (.slice A6 (M + 1) c6), kz6.far (p := ⟨gB, 1, none⟩) (by show w.heap.size ≠ gB; omega) _, by simpa using h9, hs6.store (q := gB) (j := 1) (by omega) _, gb_set hgw6 (p := ⟨gB, 1, none⟩) (by show w.heap.size ≤ gB; omega) _⟩
          · obtain rfl : M = 41 := by omega
            have dM : decide (((41 : Nat) : Int) ≤ 40) = false := by decide
            have hHB := HB.out
            have hc3 := o.cap
            go_wp2_with (fail)
            (refine wp_region_pops 1 (S := (fun W' => W'.cell? ⟨gB, 1, none⟩ = some (.slice A3 41 c3))) (pre := ?_) (T := ?_) (n := ?_) (by kernel_rfl) (by kernel_rfl) ?_ ?_ ?_ ?_ (fun hHeld => ?_); rotate_left 3; (focus (simp only [pops, List.pop_toArray, List.dropLast_cons_cons, List.dropLast_singleton]; rfl)); (focus (simp only [tailOf, List.back?_toArray, List.getLast?_cons_cons, List.getLast?_singleton, Option.toList_some, List.nil_append]; rfl)); (focus rfl); (focus (exact q1)))
            ((refine wpAnyH_take (i := 0) (v := ?_) rfl (by kernel_rfl) (by kernel_rfl) (by kernel_rfl) (fun _ _ _ h => h) (Or.inl ⟨by rfl, ?_⟩) (by assumption) ?_; rotate_left; (focus (intro W hSw; (try dsimp only at hSw); go_simp; try (with_reducible rfl)))); (try simp only [List.getElem_toArray, List.getElem_cons_zero, Act.put, List.setIfInBounds_toArray, List.set_cons_zero, List.set_cons_succ]); (refine wpAnyH_take (i := 1) (v := ?_) rfl (by kernel_rfl) (by kernel_rfl) (by kernel_rfl) (fun _ _ _ h => h) (Or.inl ⟨by rfl, ?_⟩) (by assumption) ?_; rotate_left; (focus (intro W hSw; (try dsimp only at hSw); go_simp; try (with_reducible rfl)))); (try simp only [List.getElem_toArray, List.getElem_cons_zero, List.getElem_cons_succ, Act.put, List.setIfInBounds_toArray, List.set_cons_zero, List.set_cons_succ]); (refine wpAnyH_take (i := 2) (v := ?_) rfl (by kernel_rfl) (by kernel_rfl) (by kernel_rfl) (fun _ _ _ h => h) (Or.inl ⟨by rfl, ?_⟩) (by assumption) ?_; rotate_left; (focus (intro W hSw; (try dsimp only at hSw); go_simp; try (with_reducible rfl)))); (try simp only [List.getElem_toArray, List.getElem_cons_zero, List.getElem_cons_succ, Act.put, List.setIfInBounds_toArray, List.set_cons_zero, List.set_cons_succ]))
            (refine wpAnyH_ready (rs := [3]) (by kernel_rfl) (by simp) ?_; refine AllReadyH.cons rfl (fun K hK => ?_) AllReadyH.nil)
            go_simp
            refine (sv_pick 3 (by decide) (hs.drewN 1) (by omega)).mono ?_
            rintro e w5 ⟨z, rfl, hz0, hz1, hs5, hg5, hz5⟩
            have kz5 := (kz.drewN 1).grownG hg5 (by omega)
            have kb5 := (kb.drewN 1).grownG hg5 (by omega)
            have o5 := (OwnC.drew1 o).grownG hg5 (.inl (by omega))
            have hgw5 := (gb_bel hgw (below_drewN (Below.refl _ _) 1)).trans hg5
            obtain ⟨zn, hzn⟩ : ∃ zn : Nat, z = zn := ⟨z.toNat, by omega⟩
            subst hzn
            have wz : IntKind.i64.wrap (39 + (zn : Int)) = 39 + (zn : Int) := IntWalk.i64_in _ ⟨by omega, by omega⟩
            have s1 : (0 : Int) ≤ 39 + (zn : Int) := by omega
            have s2 : 39 + (zn : Int) ≤ (c3 : Int) := by omega
            have s3 : (39 + (zn : Int)).toNat = 39 + zn := by omega
            refine hK.out _ _ kb5.c2.2 (fun hHeld => ?_)
            clear hK K
            (try simp only [List.getElem_toArray, List.getElem_cons_zero, List.getElem_cons_succ, Act.put, List.setIfInBounds_toArray, List.set_cons_zero, List.set_cons_succ])
            ((refine wpAnyH_take (i := 4) (v := ?_) rfl (by kernel_rfl) (by kernel_rfl) (by kernel_rfl) (fun _ _ _ h => h) (Or.inl ⟨by rfl, ?_⟩) (by assumption) ?_; rotate_left; (focus (intro W hSw; (try dsimp only at hSw); go_simp; try (with_reducible rfl)))); (try simp only [List.getElem_toArray, List.getElem_cons_zero, List.getElem_cons_succ, Act.put, List.setIfInBounds_toArray, List.set_cons_zero, List.set_cons_succ]); (refine wpAnyH_take (i := 5) (v := ?_) rfl (by kernel_rfl) (by kernel_rfl) (by kernel_rfl) (fun _ _ _ h => h) (Or.inl ⟨by rfl, ?_⟩) (by assumption) ?_; rotate_left; (focus (intro W hSw; (try dsimp only at hSw); go_simp; try (with_reducible rfl)))); (try simp only [List.getElem_toArray, List.getElem_cons_zero, List.getElem_cons_succ, Act.put, List.setIfInBounds_toArray, List.set_cons_zero, List.set_cons_succ]); (refine wpAnyH_take (i := 6) (v := ?_) rfl (by kernel_rfl) (by kernel_rfl) (by kernel_rfl) (fun _ _ _ h => h) (Or.inl ⟨by rfl, ?_⟩) (by assumption) ?_; rotate_left; (focus (intro W hSw; (try dsimp only at hSw); go_simp; try (with_reducible rfl)))); (try simp only [List.getElem_toArray, List.getElem_cons_zero, List.getElem_cons_succ, Act.put, List.setIfInBounds_toArray, List.set_cons_zero, List.set_cons_succ]))
            (refine wpAnyH_done (by kernel_rfl) ?_ _; change wpList _ _ _ _ _ _)
            clear hHeld
            obtain ⟨q0, q1⟩ := kb5.c2
            have fr1 := kb5.frozen 1
            have HLL9 : Hid ((ys.take (39 + zn)).length = 39 + zn) := Lib.hid (by rw [List.length_take]; have := HM.out; omega)
            have kb9 := kb5.set21 (.slice A3 (39 + zn) c3)
            have kz9 := kz5.far (p := ⟨gB, 1, none⟩) (by show w.heap.size ≠ gB; omega) (.slice A3 (39 + zn) c3)
            have o9 : OwnC (w5.setCell ⟨gB, 1, none⟩ (.slice A3 (39 + zn) c3)) w1.heap.size wr.heap.size 2 1 A3 (39 + zn) c3 ((ys.take (39 + zn)).map (Value.int .i64)) := by
              have h9 := (OwnC.prefix1 (OwnC.farT o5 kb5 t1 1 (.slice A3 (39 + zn) c3)) (m := 39 + zn) (by omega))
              rw [Nat.mul_one, ← List.map_take] at h9
              exact h9
            have hs9 := hs5.store (q := gB) (j := 1) (by omega) (.slice A3 (39 + zn) c3)
            have hg9 := gb_set hgw5 (p := ⟨gB, 1, none⟩) (by show w.heap.size ≤ gB; omega) (.slice A3 (39 + zn) c3)
            go_upto_region 11 with fail
            obtain ⟨w9, hw9⟩ : ∃ w9, w9 = w5.setCell ⟨gB, 1, none⟩ (.slice A3 (39 + zn) c3) := ⟨_, rfl⟩
            have hz9 : wr.heap.size ≤ w9.heap.size := by rw [hw9]; have := hg5.size; simpa using this
            rw [← hw9] at kb9 kz9 o9 hs9 hg9 ⊢
            clear hw9 kb kz o hs hgw q0 q1 fr1 kz5 kb5 o5 hgw5 hs5 hg5 hz5
            have kb := kb9; have kz := kz9; have o := o9.mono (Nat.le_refl _) hz9; have hs := hs9; have hgw := hg9
            have hlt4 := kb.lt
            clear kb9 kz9 o9 hs9 hg9
            obtain ⟨p0, p1⟩ := kb.c2
            obtain ⟨r0, r1⟩ := kz.c2
            have fz0 := kz.frozen 0
            have fz1 := kz.frozen 1
            have hne : ¬ w.heap.size = gB := by omega
            have hne2 : ¬ gB = w.heap.size := by omega
            go_wp2_with (fail)
            have k1 := kz.set20 (.int .i64 (n : Int))
            have k2 := k1.set21 (.slice A3 (39 + zn) c3)
            obtain ⟨r0, r1⟩ := k2.c2
            refine bodyPost_ret (v := .agg #[.int .i64 (n : Int), .slice A3 (39 + zn) c3]) (by simp [results, Tryz.results38, go_sem, r0, r1]) rfl ⟨n, ys.take (39 + zn), A3, c3, by rw [HLL9.out], by omega, ?_, by rw [HLL9.out]; omega, ?_, ?_⟩
            · rw [HLL9.out]
              exact ((o.farT kz t1 0 _).farT k1 t1 1 _).mono (by omega) (by first | (simp; done) | (simp; omega))
            · exact ((hs.mono (by omega)).store (by show g < w.heap.size; omega) _).store (by show g < w.heap.size; omega) _
            · exact gb_set (gb_set hgw (by show w.heap.size ≤ w.heap.size; omega) _) (by show w.heap.size ≤ w.heap.size; omega) _
      · have d2 : (x == 2) = false := by simpa using e2
        clear e0 e1 e2
        obtain ⟨p0, p1⟩ := kb.c2
        obtain ⟨r0, r1⟩ := kz.c2
        have fz0 := kz.frozen 0
        have fz1 := kz.frozen 1
        have hne : ¬ w.heap.size = gB := by omega
        have hne2 : ¬ gB = w.heap.size := by omega
        go_wp2_with (fail)
        have k1 := kz.set20 (.int .i64 (n : Int))
        have k2 := k1.set21 (.slice A' L c')
        obtain ⟨r0, r1⟩ := k2.c2
        refine bodyPost_ret (v := .agg #[.int .i64 (n : Int), .slice A' L c']) (by simp [results, Tryz.results38, go_sem, r0, r1]) rfl ⟨n, xs, A', c', by rw [HLL.out], by omega, ?_, by rw [HLL.out]; omega, ?_, ?_⟩
        · rw [HLL.out]
          exact ((o.farT kz t1 0 _).farT k1 t1 1 _).mono (by omega) (by first | (simp; done) | (simp; omega))
        · exact ((hs.mono (by omega)).store (by show g < w.heap.size; omega) _).store (by show g < w.heap.size; omega) _
        · exact gb_set (gb_set hgw (by show w.heap.size ≤ w.heap.size; omega) _) (by show w.heap.size ≤ w.heap.size; omega) _

end Go.Proofs.YtnjgmhdmjaijgaaGreat

/- A braid and a carrier, drawn, the given side. -/
namespace Go.Proofs.YtnjgmhdmjaijgaaGreat
open Go Go.RowKit

set_option maxHeartbeats 4000000 in
set_option maxRecDepth 10000 in
theorem spec_DrawChartOfBraid (A : Option Addr) (c : Nat) (bs : List Int) (w : World) (hby : Bytes w A bs) (hl : bs.length ≤ 1099511627776) :
    Calls Tryz.prog 12 #[.slice A bs.length c] w fun e w' => ∃ (z : Int) (xs : List Int) (A' : Option Addr) (c' : Nat) (car : Int), e = .returned (.tuple #[.agg #[.int .i64 z, .slice A' xs.length c'], .int .i64 car]) ∧ OwnC w' w.heap.size w'.heap.size 2 1 A' xs.length c' (xs.map (Value.int .i64)) ∧ xs.length ≤ 50 ∧ Below w.heap.size w w' := by
  have t1 : (38 : TypeId) ≠ 2 := by decide
  have hb1 : Below w.heap.size w (w.alloc (.cells #[.int .i64 0, .slice none 0 0] 38)) := by (repeat (first | exact Below.refl _ _ | assumption | apply Below.drew | apply below_drewN | (refine Below.alloc ?_ (by first | omega | (simp; done) | (simp; omega)) _) | (refine Below.setCell ?_ (by first | omega | (simp; done) | (simp; omega)) _)))
  have kz := Blk.new w 38 #[.int .i64 0, .slice none 0 0]
  go_enter Tryz.func12, Tryz.ntmps12
  go_wp2_with (fail)
  refine (spec_l00From A c bs _ (hby.of_cells (cells_below hb1)) hl).mono ?_
  rintro e w2 ⟨rfl, hs2, b2, hz2⟩
  have hb2 : Below w.heap.size w w2 := hb1.trans (b2.mono (by simp))
  have kz2 := kz.below b2 (by simp)
  have hz1 : (w.alloc (.cells #[.int .i64 0, .slice none 0 0] 38)).heap.size = w.heap.size + 1 := by simp
  rw [hz1] at hs2 hz2 ⊢
  have HZ2 := Lib.hid hz2; clear hz2
  clear kz hb1 b2 hz1
  go_wp2_with (fail)
  refine (spec_l03Bent w2 (w.heap.size + 1) A c bs 0 hs2 (by decide)).mono ?_
  rintro e w3 ⟨z, xs, A3, c3, rfl, _, o3, hx50, hs3, hg3⟩
  have kz3 := kz2.grownG hg3 (by omega)
  have hb3 : Below w.heap.size w w3 := hb2.trans (gb_below hg3 (by omega) (by have := HZ2.out; omega))
  have HZ3 := Lib.hid (show w2.heap.size ≤ w3.heap.size from hg3.size)
  clear kz2 hs2 hb2 hg3
  have kb4 : Blk (w3.alloc (.cells #[.int .i64 z, .slice A3 xs.length c3] 38)) w3.heap.size 38 #[.int .i64 z, .slice A3 xs.length c3] := Blk.new w3 _ _
  have kz4 := kz3.alloc (.cells #[.int .i64 z, .slice A3 xs.length c3] 38)
  have o4 := OwnC.alloc o3 (.cells #[.int .i64 z, .slice A3 xs.length c3] 38)
  have hs4 := hs3.alloc (.cells #[.int .i64 z, .slice A3 xs.length c3] 38)
  have hb4 : Below w.heap.size w (w3.alloc (.cells #[.int .i64 z, .slice A3 xs.length c3] 38)) := Below.alloc hb3 hb3.size _
  obtain ⟨gB, hgB⟩ : ∃ gB, gB = w3.heap.size := ⟨_, rfl⟩
  obtain ⟨w4, hw4⟩ : ∃ w4, w4 = w3.alloc (.cells #[.int .i64 z, .slice A3 xs.length c3] 38) := ⟨_, rfl⟩
  have hzB : w.heap.size + 1 < gB := by rw [hgB]; exact hs3.lt
  have hz34 : w4.heap.size = gB + 1 := by rw [hw4, hgB]; simp
  have HZ34 := Lib.hid hz34; clear hz34
  go_upto_region 3 with fail
  rw [← hw4, ← hgB]
  rw [← hw4] at kb4 kz4 o4 hs4 hb4
  rw [← hgB] at kb4 o4
  have HGB : Hid (w2.heap.size ≤ gB) := Lib.hid (by rw [hgB]; exact HZ3.out)
  clear hw4 hgB kz3 o3 hs3 hb3 HZ3
  generalize hLL : xs.length = L at *
  have HLL := Lib.hid hLL; clear hLL
  obtain ⟨q0, q1⟩ := kb4.c2
  have HL : Hid (∀ W : World, Ints (W.alloc (.cells #[.int .i64 1, .int .i64 2, .int .i64 1, .int .i64 4, .int .i64 5, .int .i64 1] 2)) (some ⟨W.heap.size, 0, none⟩) [1, 2, 1, 4, 5, 1]) := Lib.hid (fun W => OwnC.ints (OwnC.lit (w := W) (lo := W.heap.size) (n := 6) 2 1 #[.int .i64 1, .int .i64 2, .int .i64 1, .int .i64 4, .int .i64 5, .int .i64 1] (Nat.le_refl _) (by decide) rfl))
  (refine wp_region_pops 2 (S := (fun W' => W'.cell? ⟨gB, 0, none⟩ = some (.int .i64 z) ∧ W'.cell? ⟨gB, 1, none⟩ = some (.slice A3 L c3))) (pre := ?_) (T := ?_) (n := ?_) (by kernel_rfl) (by kernel_rfl) ?_ ?_ ?_ ?_ (fun hHeld => ?_); rotate_left 3; (focus (simp only [pops, List.pop_toArray, List.dropLast_cons_cons, List.dropLast_singleton]; rfl)); (focus (simp only [tailOf, List.pop_toArray, List.dropLast_cons_cons, List.dropLast_singleton, List.back?_toArray, List.getLast?_cons_cons, List.getLast?_singleton, Option.toList_some, List.nil_append, List.cons_append]; rfl)); (focus rfl); (focus (exact ⟨q0, q1⟩)))
  ((refine wpAnyH_take (i := 0) (v := ?_) rfl (by kernel_rfl) (by kernel_rfl) (by kernel_rfl) (fun _ _ _ h => h) (Or.inl ⟨by rfl, ?_⟩) (by assumption) ?_; rotate_left; (focus (intro W hSw; (try dsimp only at hSw); go_simp; try (with_reducible rfl)))); (try simp only [List.getElem_toArray, List.getElem_cons_zero, Act.put, List.setIfInBounds_toArray, List.set_cons_zero, List.set_cons_succ]); (refine wpAnyH_take (i := 1) (v := ?_) rfl (by kernel_rfl) (by kernel_rfl) (by kernel_rfl) (fun _ _ _ h => h) (Or.inl ⟨by rfl, ?_⟩) (by assumption) ?_; rotate_left; (focus (intro W hSw; (try dsimp only at hSw); go_simp; try (with_reducible rfl)))); (try simp only [List.getElem_toArray, List.getElem_cons_zero, List.getElem_cons_succ, Act.put, List.setIfInBounds_toArray, List.set_cons_zero, List.set_cons_succ]))
  (refine wpAnyH_ready (rs := [2]) (by kernel_rfl) (by simp) ?_; refine AllReadyH.cons rfl (fun K hK => ?_) AllReadyH.nil)
  go_simp
  refine hK.out _ _ ⟨cell_alloc q0 _, cell_alloc q1 _⟩ (fun hHeld => ?_)
  clear hK K
  (try simp only [List.getElem_toArray, List.getElem_cons_zero, List.getElem_cons_succ, Act.put, List.setIfInBounds_toArray, List.set_cons_zero, List.set_cons_succ])
  (refine wpAnyH_ready (rs := [3]) (by kernel_rfl) (by simp) ?_; refine AllReadyH.cons rfl (fun K hK => ?_) AllReadyH.nil)
  go_simp
  refine (sv_among [1, 2, 1, 4, 5, 1] (some ⟨w4.heap.size, 0, none⟩) 6 (by simp) ((hs4.drewN 1).alloc _) (by omega) (HL.out w4.drew) (fun a ha => by injection ha with ha; subst ha; show w4.heap.size ≠ w.heap.size + 1; have := HZ34.out; omega)).mono ?_
  rintro e w5 ⟨car, rfl, _, hs5, hg5, hz5⟩
  clear hz5
  have kz5 := ((kz4.drewN 1).alloc (.cells #[.int .i64 1, .int .i64 2, .int .i64 1, .int .i64 4, .int .i64 5, .int .i64 1] 2)).grownG hg5 (by omega)
  have kb5 := ((kb4.drewN 1).alloc (.cells #[.int .i64 1, .int .i64 2, .int .i64 1, .int .i64 4, .int .i64 5, .int .i64 1] 2)).grownG hg5 (by omega)
  have o5 := OwnC.grownG (OwnC.alloc (OwnC.drew1 o4) (.cells #[.int .i64 1, .int .i64 2, .int .i64 1, .int .i64 4, .int .i64 5, .int .i64 1] 2)) hg5 (.inl (by have := HZ2.out; omega))
  have hb5 : Below w.heap.size w w5 := (Below.alloc (below_drewN hb4 1) (by have := hb4.size; exact this) (.cells #[.int .i64 1, .int .i64 2, .int .i64 1, .int .i64 4, .int .i64 5, .int .i64 1] 2)).trans (gb_below hg5 (by omega) (by have := hb4.size; simp; omega))
  refine hK.out _ _ kb5.c2 (fun hHeld => ?_)
  clear hK K
  (try simp only [List.getElem_toArray, List.getElem_cons_zero, List.getElem_cons_succ, Act.put, List.setIfInBounds_toArray, List.set_cons_zero, List.set_cons_succ])
  (refine wpAnyH_done (by kernel_rfl) ?_ _; change wpList _ _ _ _ _ _)
  clear hHeld
  obtain ⟨y0, y1⟩ := kz5.c2
  have g0 := kz5.frozen 0
  have g1 := kz5.frozen 1
  go_wp2_with (fail)
  have k1 := kz5.set20 (.int .i64 z)
  have k2 := k1.set21 (.slice A3 L c3)
  obtain ⟨r0, r1⟩ := k2.c2
  refine bodyPost_ret (v := .tuple #[.agg #[.int .i64 z, .slice A3 L c3], .int .i64 car]) (by simp [results, Tryz.results12, go_sem, r0, r1]) rfl ⟨z, xs, A3, c3, car, by rw [HLL.out], ?_, by rw [HLL.out]; exact hx50, ?_⟩
  · rw [HLL.out]
    exact ((o5.farT kz5 t1 0 _).farT k1 t1 1 _).mono (by have := HZ2.out; omega) (by have h5 := hg5.size; rw [World.size_alloc] at h5; have h6 : w4.heap.size + 1 ≤ w5.heap.size := h5; have := HZ34.out; simp; omega)
  · (repeat (first | exact Below.refl _ _ | assumption | apply Below.drew | apply below_drewN | (refine Below.alloc ?_ (by first | omega | (simp; done) | (simp; omega)) _) | (refine Below.setCell ?_ (by first | omega | (simp; done) | (simp; omega)) _)))

end Go.Proofs.YtnjgmhdmjaijgaaGreat

/- Cables of braids, plain: the letters of the rows are those of the word, in an order that differs only where letters do not touch. -/
namespace Go.Proofs.YtnjgmhdmjaijgaaGreat
open Go Go.RowKit
open Br (FarQ farI)

theorem far_over {x : Int} : ∀ (u v : List Int), (∀ z ∈ u, farI x z) → FarQ (x :: (u ++ v)) (u ++ x :: v)
  | [], _, _ => .refl _
  | z :: u, v, h => (FarQ.one [] (u ++ v) (h z (by simp))).trans ((far_over u v fun y hy => h y (by simp [hy])).pre [z])
theorem apart_far : ∀ (a b : List Int), Apart2 a → Apart2 b → (∀ y, y ∈ a ↔ y ∈ b) → FarQ a b
  | [], b, _, _, h => by
    have : b = [] := by
      cases b with
      | nil => rfl
      | cons x b => exact absurd ((h x).2 (by simp)) (by simp)
    subst this
    exact .refl _
  | x :: a, b, ha, hb, h => by
    obtain ⟨u, v, rfl⟩ := List.append_of_mem ((h x).1 (by simp))
    obtain ⟨h1, h2⟩ := List.pairwise_cons.1 ha
    have hb' := hb
    unfold Apart2 at hb'
    rw [List.pairwise_append, List.pairwise_cons] at hb'
    obtain ⟨p1, ⟨p2, p3⟩, p4⟩ := hb'
    have hu : ∀ z ∈ u, farI x z := fun z hz => by have := p4 z hz x (by simp); unfold farI Br.apart; omega
    have hb2 : Apart2 (u ++ v) := by
      unfold Apart2
      rw [List.pairwise_append]
      exact ⟨p1, p3, fun y hy z hz => p4 y hy z (by simp [hz])⟩
    have hm : ∀ y, y ∈ a ↔ y ∈ u ++ v := by
      intro y
      constructor
      · intro hy
        have h3 := (h y).1 (by simp [hy])
        rw [List.mem_append, List.mem_cons] at h3
        rcases h3 with h3 | rfl | h3
        · simp [h3]
        · have := h1 y hy; omega
        · simp [h3]
      · intro hy
        have h3 := (h y).2 (by rw [List.mem_append, List.mem_cons]; rcases List.mem_append.1 hy with h | h <;> simp [h])
        rcases List.mem_cons.1 h3 with rfl | h3
        · rcases List.mem_append.1 hy with h | h
          · have := p4 y h y (by simp); omega
          · have := p2 y h; omega
        · exact h3
    exact ((apart_far a (u ++ v) h2 hb2 hm).pre [x]).trans (far_over u v hu)
theorem far_rows {n : Nat} : ∀ (gs : List (List Int)), (∀ g ∈ gs, Letters n g) → (∀ g ∈ gs, Apart2 g) → FarQ gs.flatten (gs.flatMap fun g => rowL n g 0)
  | [], _, _ => .refl _
  | g :: gs, hL, hA => by
    obtain ⟨h1, h2, _⟩ := rowL_whole (hL g (by simp)) (hA g (by simp))
    rw [List.flatten_cons, List.flatMap_cons]
    exact (apart_far g _ (hA g (by simp)) h2 fun y => (h1 y).symm).app (far_rows gs (fun x hx => hL x (by simp [hx])) fun x hx => hA x (by simp [hx]))
theorem far_cable {n : Nat} {xs : List Int} (h : Letters n xs) (car d : Int) : FarQ xs (rowsWord (rowsFrom n car (groupsOf xs) d)) := by
  obtain ⟨h1, h2, _⟩ := groups_facts xs
  have h3 := far_rows (groupsOf xs) (groups_letters h) h1
  rw [h2] at h3
  rw [rowsWord_from]
  exact h3

end Go.Proofs.YtnjgmhdmjaijgaaGreat

/- A cable's word and the word it was made of are equal braids. -/
namespace Go.Proofs.YtnjgmhdmjaijgaaGreat
open Go Go.RowKit
open Br (idl halfl Pm wd prod LW Eqv Dp Lt winv FarQ)

theorem eqW_far {n : Nat} {a b : List Int} (ha : ∀ x ∈ a, Lt n x) (h : FarQ a b) : eqW n a b = true := by
  have hb : ∀ c ∈ b, Lt n c := fun c hc => ha c ((List.Perm.mem_iff h.perm).2 hc)
  have hab : ∀ x ∈ a ++ winv b, Lt n x := fun x hx => by
    rcases List.mem_append.1 hx with hx | hx
    · exact ha x hx
    · exact Br.Lt.winv hb x hx
  have wc := (facs_facts hab (a ++ winv b).length (Nat.le_refl _)).2.2
  rw [take_all (Nat.le_refl _)] at wc
  exact decide_eq_true (Br.equal_far h ha wc)
theorem eqW_refl {n : Nat} {a : List Int} (ha : ∀ x ∈ a, Lt n x) : eqW n a a = true := eqW_far ha (.refl a)
/-- The cable of a braid is this braid. -/
theorem eqW_cable {n : Nat} {xs : List Int} (h : Letters n xs) (car d : Int) : eqW n (rowsWord (rowsFrom n car (groupsOf xs) d)) xs = true := by
  have h1 := far_cable h car d
  refine eqW_far (fun x hx => ?_) h1.symm
  have h2 := h x ((List.Perm.mem_iff h1.perm).2 hx)
  unfold Br.Lt
  omega
end Go.Proofs.YtnjgmhdmjaijgaaGreat

/- FnCables, plain: what the law asks of the cable of a braid. -/
namespace Go.Proofs.YtnjgmhdmjaijgaaGreat
open Go Go.RowKit

theorem pack_facts (xs : List Int) : (∀ g ∈ pack xs, Apart2 g) ∧ (pack xs).flatten = xs := by
  obtain ⟨h1, h2, _⟩ := groups_facts xs
  by_cases h : pack xs = []
  · rw [groupsOf, if_pos h] at h2
    rw [h]
    exact ⟨fun g hg => (by cases hg), h2⟩
  · rw [groupsOf, if_neg h] at h1 h2
    exact ⟨h1, h2⟩
theorem apart2_apartB {g : List Int} (h : Apart2 g) : apartB g = true := by
  refine apart_true fun j hj => ?_
  unfold apartAt
  rw [List.getElem?_eq_getElem hj, Option.getD_some]
  have : touchAny (g.take j) (g[j]'hj) = false := by
    unfold touchAny
    rw [List.any_eq_false]
    intro y hy
    rw [Bool.not_eq_true, touchB_iff]
    have e : g.take j ++ g.drop j = g := List.take_append_drop j g
    unfold Apart2 at h
    rw [← e, List.pairwise_append] at h
    refine h.2.2 y hy _ ?_
    rw [List.drop_eq_getElem_cons hj]
    exact List.mem_cons_self
  rw [this]; rfl
theorem letters_lettersB {m : Nat} {g : List Int} (h : Letters m g) : lettersB m g = true := by
  unfold lettersB
  rw [List.all_eq_true]
  intro x hx
  have := h x hx
  exact letterB_of (by omega) (by omega) (by omega)
theorem plain_cable {ks : List Int} (h : OnlyPlain ks) {m : Nat} (ht : takenS ks = m) (h1 : 1 ≤ m) (h8 : m ≤ 8) (hl : ks.length ≤ 16) : laidB ks = true := by
  have hs := plain_stitches h hl
  have hp : plainRow ks = true := by
    unfold plainRow
    rw [List.all_eq_true]
    intro k hk
    rcases h k hk with rfl | rfl | rfl <;> decide
  have hm := plain_made (stitchesB_of hs).2 hp
  unfold laidB takenP madeP
  rw [if_pos hs, if_pos hs, hm, ht, Bool.and_eq_true]
  exact ⟨inR_iff.2 (by omega), inR_iff.2 (by omega)⟩
/-- The row of a group of letters has these letters. -/
theorem group_row {m : Nat} {g : List Int} (hL : Letters m g) (hA : Apart2 g) (h1 : 1 ≤ m) (h8 : m ≤ 8) :
    rolCode m g 1 1 = 0 ∧ rolRow m g 1 1 = ⟨1, 1, rowFrom m g 0⟩ ∧ rowCodeP 1 1 (rowFrom m g 0) = 0 ∧ (rowLettersP 1 1 (rowFrom m g 0)).length = g.length ∧ ∀ y ∈ rowLettersP 1 1 (rowFrom m g 0), y ∈ g := by
  have e1 : rolCode m g 1 1 = 0 := by
    unfold rolCode
    rw [if_pos (by rw [Bool.and_eq_true, Bool.and_eq_true]; exact ⟨⟨inR_iff.2 (by omega), by decide⟩, by decide⟩), if_pos (letters_lettersB hL), if_pos (apart2_apartB hA)]
  obtain ⟨p1, p2⟩ := rowFrom_plain hL m 0 (by omega) (by omega)
  have pl := rowFrom_length m g m 0 (by omega)
  have hlaid := plain_cable p1 (show takenS (rowFrom m g 0) = m by rw [p2]; omega) h1 h8 (by omega)
  have hrow : rowB 1 1 (rowFrom m g 0) = true := by
    unfold rowB
    rw [plain_stitches p1 (by omega)]
    decide
  have e2 : rowCodeP 1 1 (rowFrom m g 0) = 0 := by
    unfold rowCodeP
    rw [if_pos hrow, if_pos hlaid]
  have e3 : rowLettersP 1 1 (rowFrom m g 0) = rowL m g 0 := by
    unfold rowLettersP
    rw [if_pos e2]
    rfl
  obtain ⟨w1, _, w3⟩ := rowL_whole hL hA
  refine ⟨e1, by rw [rolRow, if_pos e1]; rfl, e2, by rw [e3, w3], ?_⟩
  rw [e3]
  exact fun y hy => (w1 y).1 hy
theorem fc_facts {n : Int} {xs : List Int} {car : Int} (h : cobCode n xs car = 0) :
    ∃ (m : Nat) (rs : List RowD) (W : List Int), n = (m : Int) ∧ (1 ≤ m ∧ m ≤ 8) ∧ xs.length ≤ 40 ∧ rs.length ≤ 8 ∧ W.length ≤ 40 ∧ braidB m xs = true ∧ cobX n xs car = ⟨m, rs⟩ ∧ chartB m rs = true ∧ cableB m rs = true ∧ cbCode m rs = 0 ∧ cbX m rs = ⟨m, W⟩ ∧ braidB m W = true ∧ eqW m W xs = true ∧ scCode m m rs rs = 0 ∧ scB m m rs rs = true ∧ packP m xs = pack xs ∧ (pack xs).flatten = xs ∧ ∀ g ∈ pack xs, Letters m g ∧ Apart2 g := by
  have hb : braidB n xs = true := by
    cases hb : braidB n xs
    · rw [cobCode, if_neg (by rw [hb]; decide)] at h; simp at h
    · rfl
  have hr : (inR n 1 8 && carrierB car) = true := by
    cases hr : inR n 1 8 && carrierB car
    · rw [cobCode, if_pos hb, if_neg (by rw [hr]; decide)] at h; simp at h
    · rfl
  have hk : (pack xs).length ≤ 8 := by
    apply Classical.byContradiction
    intro hk
    rw [cobCode, if_pos hb, if_pos hr, if_neg hk] at h
    simp at h
  rw [Bool.and_eq_true] at hr
  have hn := inR_iff.1 hr.1
  obtain ⟨m, rfl⟩ := Int.eq_ofNat_of_zero_le (show (0 : Int) ≤ n by omega)
  have hL := letters_of_braid hb
  obtain ⟨_, _, h40, _⟩ := braidB_of hb
  obtain ⟨c1, c2, c3, c4, c5⟩ := cable_of (car := car) hL h40 hk (by omega) hr.2
  have hX : cobX m xs car = ⟨m, rowsFrom m car (groupsOf xs) (-1)⟩ := by
    rw [cobX, if_pos h]; rfl
  have hW : rowsWord (rowsFrom m car (groupsOf xs) (-1)) = (groupsOf xs).flatMap fun g => rowL m g 0 := rowsWord_from ..
  have he := eqW_cable hL car (-1)
  have hbW := (cb_braid c3).2.2
  obtain ⟨s1, s2⟩ := sc_4 c3 c3
  obtain ⟨p1, p2⟩ := pack_facts xs
  rw [c4] at hbW
  refine ⟨m, rowsFrom m car (groupsOf xs) (-1), (groupsOf xs).flatMap fun g => rowL m g 0, rfl, by omega, h40, (chartB_of c1).2.1.2, by rw [c5]; exact h40, hb, hX, c1, ?_, c3, c4, hbW, by rw [← hW]; exact he, s1, ?_, by rw [packP, if_pos hb], p2, fun g hg => ⟨?_, p1 g hg⟩⟩
  · rw [cableB, c1, c2]; rfl
  · rw [s2]
    exact eqW_refl (lt_braid (by rw [c4]; exact hbW))
  · intro x hx
    exact hL x (by rw [← p2]; exact List.mem_flatten.2 ⟨g, hg, hx⟩)
end Go.Proofs.YtnjgmhdmjaijgaaGreat

/- The laws over draws: what they compare with. -/
namespace Go.Proofs.YtnjgmhdmjaijgaaGreat
open Go Go.RowKit

theorem laws_b10Nums (A B : Option Addr) (c d : Nat) (xs ys : List Int) (w : World) (h : Ints w A xs) (h' : Ints w B ys) (hl : xs.length ≤ 9223372036854775807) (_hl' : ys.length ≤ 9223372036854775807) :
    Calls Tryz.prog 23 #[.slice A xs.length c, .slice B ys.length d] w fun e w' => e = .returned (.bool (decide (xs = ys))) ∧ ∃ n, w' = w.drewN n := by
  by_cases hle : xs.length = ys.length
  · have HL := Lib.hid hle
    have hle' : ((xs.length : Int) != (ys.length : Int)) = false := by simp [hle]
    clear hle
    go_enter Tryz.func23, Tryz.ntmps23
    go_wp2
    go_loopw [5] (fun i wr => ∃ (k : Nat), k ≤ xs.length ∧ i = .int .i64 k ∧ xs.take k = ys.take k ∧ ∃ n, wr = w.drewN n) (fun i _ => xs.length - (intOf i).toNat)
    case atStart => exact ⟨0, Nat.zero_le _, rfl, rfl, 0, rfl⟩
    case round =>
      obtain ⟨k, hk, rfl, htk, n, rfl⟩ := hrel
      have HT := Lib.hid htk; clear htk
      by_cases hlt : k < xs.length
      · have hlt' : k < ys.length := by rw [← HL.out]; exact hlt
        obtain ⟨b, off, x, rfl, hc, hx⟩ := h k hlt
        obtain ⟨b', off', y, rfl, hc', hy⟩ := h' k hlt'
        by_cases hxy : x = y
        · subst hxy
          go_wp2
          go_quiet (fail)
          go_wp2
          go_roundw
          case rel => exact ⟨k + 1, by omega, by go_num, by rw [take_snoc hx, take_snoc hy, HT.out], (by first | exact drew2 _ _ _ | exact ⟨_, rfl⟩)⟩
          case measure => simp [intOf]; omega
        · have hxy' : (x != y) = true := by simpa using hxy
          go_wp2
          go_quiet (fail)
          go_wp2
          go_ret
          exact ⟨ret_bool (by simpa using ne_of_getElem? hx hy hxy), (by first | exact drew2 _ _ _ | exact ⟨_, rfl⟩)⟩
      · go_wp2
        go_ret
        have : k = xs.length := by omega
        subst this
        have e := HT.out
        rw [take_all (Nat.le_refl _), take_all (by rw [HL.out]; exact Nat.le_refl _)] at e
        exact ⟨ret_bool (by simpa using e), _, rfl⟩
  · have hle' : ((xs.length : Int) != (ys.length : Int)) = true := by simp; omega
    go_enter Tryz.func23, Tryz.ntmps23
    go_wp2
    go_ret
    exact ⟨ret_bool (by simp; intro e; exact hle (by rw [e])), 0, rfl⟩

theorem laws_b10Long (A : Option Addr) (n c : Nat) (w : World) : Calls Tryz.prog 11 #[.slice A n c] w fun e w' => e = .returned (.bool (decide (1048576 < n))) ∧ w = w' := by
  go_enter Tryz.func11, Tryz.ntmps11
  go_wp2_with (fail)
  go_ret
  exact ⟨ret_bool (decide_eq_decide.2 (by omega)), rfl⟩

end Go.Proofs.YtnjgmhdmjaijgaaGreat

/- FnCables: what the law compares with. -/
namespace Go.Proofs.YtnjgmhdmjaijgaaGreat
open Go Go.RowKit

def endQ2 (S : World → Prop) (Q : Exit → Act → World → Prop) : Exit → Act → World → Prop
  | .normal, a, w => S w ∧ Q .normal a w
  | e, a, w => Q e a w
theorem endQ2_mk {S : World → Prop} {Q : Exit → Act → World → Prop} {a : Act} {w : World} (hS : S w) (hQ : Q .normal a w) : endQ2 S Q .normal a w := ⟨hS, hQ⟩
theorem wpAnyH_last2 {P : Program} {md : Region.Mode} {ops : Array Oper} {Q : Exit → Act → World → Prop} {S : World → Prop} {fuel : Nat} {listed : Array Bool} {a : Act} {w : World} {i : Nat} {o : Oper}
    (hr : Region.ready md ops listed = [i]) (ho : ops[i]? = some o) (hg : o.guard = none) (hall : Region.ready md ops (listed.setIfInBounds i true) = []) (h : wpList P #[] (endQ2 S Q) [o] a w) : wpAnyH P md ops Q S (fuel + 1) listed a w :=
  wpAnyH_ready hr (by simp) (fun j hj => by
    obtain rfl := List.mem_singleton.1 hj
    unfold wpOp
    rw [ho]
    have hw : Region.wanted o (yielded ops a.tmps) = true := by simp [Region.wanted, hg]
    have hw0 : Region.wanted o (yielded #[] a.tmps) = true := by simp [Region.wanted, hg]
    simp only [hw, if_true]
    unfold wpList at h
    simp only [hw0, if_true] at h
    rcases h with h | ⟨h1, h2⟩
    · exact .inl (Oper.wp_le (fun a w hq => ⟨hq.1, wpAnyH_done hall hq.2 _⟩) (fun _ _ _ h => h) (fun ⟨a, w, h⟩ => ⟨a, w, h⟩) h)
    · exact .inr ⟨h1, h2.imp fun a h => h.imp fun w h => h⟩)

theorem laws_b10Has (A : Option Addr) (c : Nat) (xs : List Int) (x : Int) (w : World) (h : Ints w A xs) (hl : xs.length ≤ 9223372036854775807) :
    Calls Tryz.prog 22 #[.slice A xs.length c, .int .i64 x] w fun e w' => e = .returned (.bool (decide (x ∈ xs))) ∧ w = w' := by
  go_enter Tryz.func22, Tryz.ntmps22
  go_wp2
  go_loop [5] (fun i => ∃ k : Nat, k ≤ xs.length ∧ i = .int .i64 k ∧ Hid (¬ x ∈ xs.take k)) (fun i => xs.length - (intOf i).toNat)
  case atStart => exact ⟨0, Nat.zero_le _, rfl, Lib.hid (by simp)⟩
  case round =>
    obtain ⟨k, hk, rfl, HA⟩ := hrel
    by_cases hlt : k < xs.length
    · obtain ⟨b, off, y, rfl, hc, hy⟩ := h k hlt
      have HY := Lib.hid hy; clear hy
      by_cases hyx : y = x
      · have hyx' : (y == x) = true := by simp [hyx]
        have HYX := Lib.hid hyx; clear hyx
        go_wp2_with (fail)
        go_ret
        exact ⟨ret_bool (decide_eq_true (by rw [← HYX.out]; exact List.mem_of_getElem? HY.out)).symm, rfl⟩
      · have hyx' : (y == x) = false := by simpa using hyx
        have HYX := Lib.hid hyx; clear hyx
        go_wp2_with (fail)
        go_round
        case rel => exact ⟨k + 1, by omega, by go_num, Lib.hid (by rw [take_snoc HY.out, List.mem_append, List.mem_singleton]; rintro (h1 | h1); exact HA.out h1; exact HYX.out h1.symm)⟩
        case measure => simp [intOf]; omega
    · go_wp2_with (fail)
      go_ret
      have := HA.out
      rw [take_all (by omega)] at this
      exact ⟨ret_bool (decide_eq_false this).symm, rfl⟩

theorem spec_SameBraid (n : Int) (a b : List Int) (A B : Option Addr) (c d : Nat) (w : World) (h : Ints w A a) (h' : Ints w B b) (hl : a.length ≤ 9223372036854775807) (hl' : b.length ≤ 9223372036854775807) :
    Calls Tryz.prog 17 #[.agg #[.int .i64 n, .slice A a.length c], .agg #[.int .i64 n, .slice B b.length d]] w fun e w' => e = .returned (.bool (decide (a = b))) ∧ Below w.heap.size w w' := by
  have hb1 : Below w.heap.size w ((w.alloc (.cells #[.int .i64 n, .slice A a.length c] 38)).alloc (.cells #[.int .i64 n, .slice B b.length d] 38)) := by (repeat (first | exact Below.refl _ _ | assumption | apply Below.drew | apply below_drewN | (refine Below.alloc ?_ (by first | omega | (simp; done) | (simp; omega)) _) | (refine Below.setCell ?_ (by first | omega | (simp; done) | (simp; omega)) _)))
  have he : (n == n) = true := by simp
  go_enter Tryz.func17, Tryz.ntmps17
  go_wp2_with (fail)
  refine (spec_l00Same A B c d a b _ (h.below hb1) (h'.below hb1) (by omega) (by omega)).mono ?_
  rintro e w2 ⟨rfl, q, rfl⟩
  go_wp2_with (fail)
  go_ret
  exact ⟨by simp, below_drewN hb1 q⟩

end Go.Proofs.YtnjgmhdmjaijgaaGreat
