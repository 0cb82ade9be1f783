/- packed. -/
import Derived.Test.YtfgbhhkmdeljoaaPKs
namespace Go.Proofs.Ytfgbhhkmdeljoaa
open Go.RowKit

theorem Below.drew' {B : Nat} {w w' : World} (h : Below B w w') : Below B w (World.drew w') := h.trans ⟨rfl, rfl, rfl, Nat.le_refl _, fun _ _ => rfl⟩

set_option maxHeartbeats 4000000 in
set_option maxRecDepth 10000 in
theorem impl_packed (A : Option Addr) (c : Nat) (xs : List Int) (w : World) (h : Ints w A xs) (hl : xs.length ≤ 1000) (hs : smallB xs) :
    Calls Try.prog 134 #[.slice A xs.length c] w fun e w' => ∃ A' c', e = .returned (.slice A' (pack xs).length c') ∧ OwnII w' w.heap.size w'.heap.size A' (pack xs).length c' (pack xs) ∧ Below w.heap.size w w' := by
  have hmf : ∀ (fn : Fn) (first cap : Array Value) (w : World), (Instr.makeFunc fn first cap).run Try.prog w = .ok (.func fn first cap) w := fun _ _ _ _ => rfl
  obtain ⟨i0, hi0, hz0, hz1, hz2⟩ := info_parts info_ints
  obtain ⟨i1, hi1, hy0, hy1, hy2⟩ := info_parts info_int64
  go_enter Try.func134, Try.ntmps134
  go_wp2_with (fail)
  go_loopw [3, 9] (fun ov iv wr => ∃ (k : Nat), k ≤ xs.length ∧ iv = .int .i64 k ∧ Below w.heap.size w wr ∧
      ((packS (xs.take k) = none ∧ ∃ A' c', ov = .slice A' 0 c' ∧ OwnC wr w.heap.size wr.heap.size 33 1 A' 0 c' []) ∨
       (∃ xss l A' c' A2 c2 m cs, packS (xs.take k) = some (xss, l) ∧ ov = .slice A' (xss.length + 1) c' ∧ OwnL wr w.heap.size wr.heap.size A' c' xss l A2 c2 m cs))) (fun _ iv _ => xs.length - (intOf iv).toNat)
  case atStart =>
    exact ⟨0, Nat.zero_le _, rfl, by (repeat (first | exact Below.refl _ _ | assumption | apply Below.drew | apply below_drewN | (refine Below.alloc ?_ (by first | omega | (simp; done) | (simp; omega)) _) | (refine Below.setCell ?_ (by first | omega | (simp; done) | (simp; omega)) _))), .inl ⟨rfl, some ⟨w.heap.size, 0, none⟩, 0, rfl, (OwnC.lit _ 1 #[] (Nat.le_refl _) (Nat.zero_le _) rfl).mono (Nat.le_refl _) (by simp)⟩⟩
  case round =>
    obtain ⟨k, hk, rfl, hb, hrel⟩ := hrel
    have hzs := hb.size
    by_cases hlt : k < xs.length
    · obtain ⟨b, off, x, rfl, hc, hx⟩ := h k hlt
      replace hc := cells_below hb _ _ hc
      have hxs := smallB_at hs hx
      have HT : Hid (xs.take (k + 1) = xs.take k ++ [x]) := Lib.hid (take_snoc hx)
      clear hx
      rcases hrel with ⟨hp, A', c', rfl, ho⟩ | ⟨xss, l, A', c', A2, c2, m, cs, hp, rfl, ho⟩
      · have HP : Hid (packS (xs.take (k + 1)) = some ([], [] ++ [x])) := Lib.hid (by rw [HT.out, packS_none hp]; rfl)
        clear hp
        have ho' := ho.alloc (.cells #[.int .i64 x] 2)
        go_wp2_with (at_builtin; refine wpList_append1q (wr.alloc (.cells #[.int .i64 x] 2)) (wr.heap.size + 1) (by simp) [.slice none 0 0] _ rfl (.tmp 26) (.tmp 27) _ rfl 33 i0 _ 1 24 Try.underlying39 hi0 hz0 hz1 hz2 rfl (by decide) rfl ho' (by simp; omega) 1 rfl rfl (by simp [Value.oneCell']) (by omega) (by decide) ?_; intro A3 c3 w3 ho3 hg3 hb3' hz3)
        have hb3 : Below w.heap.size w w3 := Below.trans (by (repeat (first | exact Below.refl _ _ | assumption | apply Below.drew | apply below_drewN | (refine Below.alloc ?_ (by first | omega | (simp; done) | (simp; omega)) _) | (refine Below.setCell ?_ (by first | omega | (simp; done) | (simp; omega)) _)))) hb3'
        have p5 : w3.cell? ⟨wr.heap.size, 0, none⟩ = some (.int .i64 x) := by
          have k5 : Blk w3 wr.heap.size 2 #[.int .i64 x] := by
            have := ((Blk.new wr 2 #[.int .i64 x]).alloc (.cells #[.slice none 0 0] 33))
            refine (hg3.block _ (by simp only [World.size_alloc]; omega) fun e => ?_).trans this
            have := (ho.own.lt _ e.symm).2
            omega
          exact k5.c1
        have o6 : OwnL w3 w.heap.size w3.heap.size A3 c3 [] [] none 0 w3.heap.size [] := OwnL.one w3.heap.size ho3 (OwnC.nil _ _ _ _ _) (by have := hb3.size; omega) (Nat.le_refl _)
        obtain ⟨g3, rfl, hg1, hg2, s0, f0⟩ := o6.cell
        have HO6 := Lib.hid o6; clear o6
        simp only [List.length_nil] at s0 f0
        have j0 : IntKind.i64.wrap 0 = 0 := rfl
        have q3 : (World.drew (w3.alloc (.cells #[.int .i64 x] 2))).cell? ⟨g3, 0, none⟩ = some (.slice none 0 0) := cell_alloc (w := w3) s0 _
        have q5 : (World.drew (w3.alloc (.cells #[.int .i64 x] 2))).cell? ⟨wr.heap.size, 0, none⟩ = some (.int .i64 x) := cell_alloc (w := w3) p5 _
        go_region_law (refine step_append1d [.int .i64 x] _ rfl (.tmp 38) (.tmp 40) _ rfl 2 i1 _ 1 8 Try.underlying33 hi1 hy0 hy1 hy2 rfl (by decide) (by simp [Act.eval]) (OwnC.keep HO6.out.last fun _ _ _ _ => rfl) (show w3.heap.size ≤ w3.heap.size from HO6.out.mhi) 1 (by simp [Act.eval]) rfl (by simp [Value.oneCell']) (by first | omega | simp) (by decide) ?_; intro A4 c4 w4 ho4 hg4 hb4 hz4; have ho5 : OwnI w4 w3.heap.size w4.heap.size A4 c4 ([] ++ [x]) := (by show OwnC _ _ _ _ _ _ _ _ _; rw [List.map_append, List.length_append]; exact ho4); obtain ⟨hput, s0, s1⟩ := OwnL.put (l2 := [] ++ [x]) (A2 := A4) (c2 := c4) ((HO6.out.alloc (.cells #[.int .i64 x] 2)).keep (w' := World.drew (w3.alloc (.cells #[.int .i64 x] 2))) fun _ _ _ _ => rfl) (show w3.heap.size ≤ (w3.alloc (.cells #[.int .i64 x] 2)).heap.size by simp only [World.size_alloc]; exact Nat.le_succ _) hg4 ho5; try simp only [List.length_append, List.length_cons, List.length_nil, Nat.zero_add, Nat.add_zero] at s0 s1)
        all_goals go_wp2_with (fail)
        all_goals
          have hbw : Below w.heap.size w w4 := hb3.trans (hb4.mono HO6.out.lom)
          refine ⟨⟨k + 1, by omega, by go_num, by (repeat (first | exact Below.refl _ _ | assumption | apply Below.drew | apply below_drewN | (refine Below.alloc ?_ (by first | omega | (simp; done) | (simp; omega)) _) | (refine Below.setCell ?_ (by first | omega | (simp; done) | (simp; omega)) _))), .inr ⟨[], [] ++ [x], some ⟨g3, 0, none⟩, c3, A4, c4, w3.heap.size, [], HP.out, by simp, by simpa using hput⟩⟩, by simp [intOf]; omega⟩
      · obtain ⟨hl1, hl2⟩ := packS_len hp
        have hls : smallB l := packS_mem (P := fun y => -1000 ≤ y ∧ y ≤ 1000) hp fun y hy => hs y (List.mem_of_mem_take hy)
        have htk : (xs.take k).length ≤ 1000 := by rw [List.length_take]; omega
        obtain ⟨g, rfl, hg1, hg2, q0, f0⟩ := ho.cell
        have j3 : (0 : Int) ≤ (xss.length : Int) := by omega
        have j7 : IntKind.i64.wrap (xss.length : Int) = (xss.length : Int) := IntWalk.i64_in _ (by omega)
        have j5 : (xss.length : Int) < (xss.length : Int) + 1 := by omega
        have j6 : ((xss.length : Int) + 1 == 0) = false := by simp; omega
        have q1 := cell_alloc q0 (.cells #[.int .i64 x] 2)
        have HI := Lib.hid (ho.last.ints)
        have hll : l.length ≤ 1000 := by omega
        cases ht : touchAny l x
        · have HP : Hid (packS (xs.take (k + 1)) = some (xss, l ++ [x])) := Lib.hid (by rw [HT.out, packS_some hp]; simp [packStep, ht])
          clear hp
          have HO := Lib.hid ho; clear ho
          go_wp2_with (go_at_call 109; refine (containsFunc_impl_packed_1 x wr.heap.size A2 c2 l _ (HI.out.below (by (repeat (first | exact Below.refl _ _ | assumption | apply Below.drew | apply below_drewN | (refine Below.alloc ?_ (by first | omega | (simp; done) | (simp; omega)) _) | (refine Below.setCell ?_ (by first | omega | (simp; done) | (simp; omega)) _))))) (by omega) hls hxs (by simp)).mono ?_; rintro e _ ⟨rfl, rfl⟩)
          have p5 : (wr.alloc (.cells #[.int .i64 x] 2)).cell? ⟨wr.heap.size, 0, none⟩ = some (.int .i64 x) := (Blk.new wr 2 #[.int .i64 x]).c1
          have hb3 : Below w.heap.size w (wr.alloc (.cells #[.int .i64 x] 2)) := by (repeat (first | exact Below.refl _ _ | assumption | apply Below.drew | apply below_drewN | (refine Below.alloc ?_ (by first | omega | (simp; done) | (simp; omega)) _) | (refine Below.setCell ?_ (by first | omega | (simp; done) | (simp; omega)) _)))
          have o6 : OwnL (wr.alloc (.cells #[.int .i64 x] 2)) w.heap.size (wr.alloc (.cells #[.int .i64 x] 2)).heap.size (some ⟨g, 0, none⟩) c' xss l A2 c2 m cs := (HO.out.alloc _).mono' (by simp)
          have s0 := q1
          generalize wr.alloc (.cells #[.int .i64 x] 2) = w3 at p5 hb3 o6 s0 q1 ⊢
          have HO6 := Lib.hid o6; clear o6
          have q3 : (World.drew (w3.alloc (.cells #[.int .i64 x] 2))).cell? ⟨g, xss.length, none⟩ = some (.slice A2 l.length c2) := cell_alloc (w := w3) s0 _
          have q5 : (World.drew (w3.alloc (.cells #[.int .i64 x] 2))).cell? ⟨wr.heap.size, 0, none⟩ = some (.int .i64 x) := cell_alloc (w := w3) p5 _
          go_region_law (refine step_append1d [.int .i64 x] _ rfl (.tmp 38) (.tmp 40) _ rfl 2 i1 _ 1 8 Try.underlying33 hi1 hy0 hy1 hy2 rfl (by decide) (by simp [Act.eval]) (OwnC.keep HO6.out.last fun _ _ _ _ => rfl) (show m ≤ w3.heap.size from HO6.out.mhi) 1 (by simp [Act.eval]) rfl (by simp [Value.oneCell']) (by first | omega | simp) (by decide) ?_; intro A4 c4 w4 ho4 hg4 hb4 hz4; have ho5 : OwnI w4 m w4.heap.size A4 c4 (l ++ [x]) := (by show OwnC _ _ _ _ _ _ _ _ _; rw [List.map_append, List.length_append]; exact ho4); obtain ⟨hput, s0, s1⟩ := OwnL.put (l2 := l ++ [x]) (A2 := A4) (c2 := c4) ((HO6.out.alloc (.cells #[.int .i64 x] 2)).keep (w' := World.drew (w3.alloc (.cells #[.int .i64 x] 2))) fun _ _ _ _ => rfl) (show w3.heap.size ≤ (w3.alloc (.cells #[.int .i64 x] 2)).heap.size by simp only [World.size_alloc]; exact Nat.le_succ _) hg4 ho5; try simp only [List.length_append, List.length_cons, List.length_nil, Nat.zero_add, Nat.add_zero] at s0 s1)
          all_goals go_wp2_with (fail)
          all_goals
            have hbw : Below w.heap.size w w4 := hb3.trans (hb4.mono HO6.out.lom)
            refine ⟨⟨k + 1, by omega, by go_num, by (repeat (first | exact Below.refl _ _ | assumption | apply Below.drew | apply below_drewN | (refine Below.alloc ?_ (by first | omega | (simp; done) | (simp; omega)) _) | (refine Below.setCell ?_ (by first | omega | (simp; done) | (simp; omega)) _))), .inr ⟨xss, l ++ [x], some ⟨g, 0, none⟩, c', A4, c4, m, cs, HP.out, by simp, by simpa using hput⟩⟩, by simp [intOf]; omega⟩
        · have HP : Hid (packS (xs.take (k + 1)) = some (xss ++ [l], [] ++ [x])) := Lib.hid (by rw [HT.out, packS_some hp]; simp [packStep, ht])
          clear hp
          have ho' := ho.out.alloc (.cells #[.int .i64 x] 2)
          have HO := Lib.hid ho; clear ho
          go_wp2_with (first | (go_at_call 109; refine (containsFunc_impl_packed_1 x wr.heap.size A2 c2 l _ (HI.out.below (by (repeat (first | exact Below.refl _ _ | assumption | apply Below.drew | apply below_drewN | (refine Below.alloc ?_ (by first | omega | (simp; done) | (simp; omega)) _) | (refine Below.setCell ?_ (by first | omega | (simp; done) | (simp; omega)) _))))) (by omega) hls hxs (by simp)).mono ?_; rintro e _ ⟨rfl, rfl⟩) | (at_builtin; refine wpList_append1q (wr.alloc (.cells #[.int .i64 x] 2)) (wr.heap.size + 1) (by simp) [.slice none 0 0] _ rfl (.tmp 26) (.tmp 27) _ rfl 33 i0 _ 1 24 Try.underlying39 hi0 hz0 hz1 hz2 rfl (by decide) rfl ho' (by simp; omega) 1 rfl rfl (by simp [Value.oneCell']) (by omega) (by decide) ?_; intro A3 c3 w3 ho3 hg3 hb3' hz3))
          have hb3 : Below w.heap.size w w3 := Below.trans (by (repeat (first | exact Below.refl _ _ | assumption | apply Below.drew | apply below_drewN | (refine Below.alloc ?_ (by first | omega | (simp; done) | (simp; omega)) _) | (refine Below.setCell ?_ (by first | omega | (simp; done) | (simp; omega)) _)))) hb3'
          have p5 : w3.cell? ⟨wr.heap.size, 0, none⟩ = some (.int .i64 x) := by
            have k5 : Blk w3 wr.heap.size 2 #[.int .i64 x] := by
              have := ((Blk.new wr 2 #[.int .i64 x]).alloc (.cells #[.slice none 0 0] 33))
              refine (hg3.block _ (by simp only [World.size_alloc]; omega) fun e => ?_).trans this
              injection e with e
              have e2 : wr.heap.size = g := e
              omega
            exact k5.c1
          have o6 : OwnL w3 w.heap.size w3.heap.size A3 c3 (xss ++ [l]) [] none 0 wr.heap.size (cs ++ [.slice A2 l.length c2]) := by
            refine OwnL.next HO.out (fun q cur h1 h2 h3 => ?_) (by have := hb3'.size; simp at hz3; omega) ho3 (OwnC.nil _ _ _ _ _)
            have hq : q < wr.heap.size := (Array.getElem?_eq_some_iff.1 h3).1
            rw [hg3.block q (by simp only [World.size_alloc]; omega) (fun e => by injection e with e; exact HO.out.ne q cur h3 e), Below.heap_alloc _ _ _ (by simp only [World.size_alloc]; omega), Below.heap_alloc _ _ _ (by omega)]
          obtain ⟨g3, rfl, hg1, hg2, s0, f0⟩ := o6.cell
          have HO6 := Lib.hid o6; clear o6
          simp only [List.length_append, List.length_cons, List.length_nil, Nat.zero_add] at s0 f0
          have j8 : ((xss.length : Int) + 1).toNat = xss.length + 1 := by omega
          have j9 : IntKind.i64.wrap ((xss.length : Int) + 1) = (xss.length : Int) + 1 := IntWalk.i64_in _ (by omega)
          have j10 : (0 : Int) ≤ (xss.length : Int) + 1 := by omega
          have q3 : (World.drew (w3.alloc (.cells #[.int .i64 x] 2))).cell? ⟨g3, xss.length + 1, none⟩ = some (.slice none 0 0) := cell_alloc (w := w3) s0 _
          have q5 : (World.drew (w3.alloc (.cells #[.int .i64 x] 2))).cell? ⟨wr.heap.size, 0, none⟩ = some (.int .i64 x) := cell_alloc (w := w3) p5 _
          go_region_law (refine step_append1d [.int .i64 x] _ rfl (.tmp 38) (.tmp 40) _ rfl 2 i1 _ 1 8 Try.underlying33 hi1 hy0 hy1 hy2 rfl (by decide) (by simp [Act.eval]) (OwnC.keep HO6.out.last fun _ _ _ _ => rfl) (show wr.heap.size ≤ w3.heap.size from HO6.out.mhi) 1 (by simp [Act.eval]) rfl (by simp [Value.oneCell']) (by first | omega | simp) (by decide) ?_; intro A4 c4 w4 ho4 hg4 hb4 hz4; have ho5 : OwnI w4 wr.heap.size w4.heap.size A4 c4 ([] ++ [x]) := (by show OwnC _ _ _ _ _ _ _ _ _; rw [List.map_append, List.length_append]; exact ho4); obtain ⟨hput, s0, s1⟩ := OwnL.put (l2 := [] ++ [x]) (A2 := A4) (c2 := c4) ((HO6.out.alloc (.cells #[.int .i64 x] 2)).keep (w' := World.drew (w3.alloc (.cells #[.int .i64 x] 2))) fun _ _ _ _ => rfl) (show w3.heap.size ≤ (w3.alloc (.cells #[.int .i64 x] 2)).heap.size by simp only [World.size_alloc]; exact Nat.le_succ _) hg4 ho5; try simp only [List.length_append, List.length_cons, List.length_nil, Nat.zero_add, Nat.add_zero] at s0 s1)
          all_goals go_wp2_with (fail)
          all_goals
            have hbw : Below w.heap.size w w4 := hb3.trans (hb4.mono HO6.out.lom)
            refine ⟨⟨k + 1, by omega, by go_num, by (repeat (first | exact Below.refl _ _ | assumption | apply Below.drew | apply below_drewN | (refine Below.alloc ?_ (by first | omega | (simp; done) | (simp; omega)) _) | (refine Below.setCell ?_ (by first | omega | (simp; done) | (simp; omega)) _))), .inr ⟨(xss ++ [l]), [] ++ [x], some ⟨g3, 0, none⟩, c3, A4, c4, wr.heap.size, (cs ++ [.slice A2 l.length c2]), HP.out, by simp, by simpa using hput⟩⟩, by simp [intOf]; omega⟩
    · go_wp2_with (fail)
      go_ret
      rw [take_all (by omega)] at hrel
      rcases hrel with ⟨hp, A', c', rfl, ho⟩ | ⟨xss, l, A', c', A2, c2, m, cs, hp, rfl, ho⟩
      · rw [pack_of_none hp]
        exact ⟨_, _, rfl, ⟨[], ho, ⟨rfl, fun k xs hx => by simp at hx, fun i j v v' g hi' => by simp at hi'⟩⟩, hb⟩
      · rw [pack_of_some hp]
        exact ⟨_, _, by rw [List.length_append]; rfl, ho.toII, hb⟩



end Go.Proofs.Ytfgbhhkmdeljoaa
