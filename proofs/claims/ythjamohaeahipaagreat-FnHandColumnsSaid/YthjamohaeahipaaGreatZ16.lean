/- Steps of the proof, joined from several texts: HO HG HP HQ. -/
import Derived.Test.YthjamohaeahipaaGreatZ15
import Derived.Test.YthjamohaeahipaaGreatZ13
import Derived.Test.YthjamohaeahipaaGreatZ5
import Derived.Deep.RegionWith

/- Knitting by hand: the hand of the program's side in memory; add. -/
namespace Go.Proofs.YthjamohaeahipaaGreat
open Go Go.RowKit

theorem Blk.c5 {w : World} {g : Nat} {t : TypeId} {a0 a1 a2 a3 a4 : Value} (h : Blk w g t #[a0, a1, a2, a3, a4]) : w.cell? ⟨g, 0, none⟩ = some a0 ∧ w.cell? ⟨g, 1, none⟩ = some a1 ∧ w.cell? ⟨g, 2, none⟩ = some a2 ∧ w.cell? ⟨g, 3, none⟩ = some a3 ∧ w.cell? ⟨g, 4, none⟩ = some a4 := ⟨h.cell 0, h.cell 1, h.cell 2, h.cell 3, h.cell 4⟩
theorem Blk.setJ {w : World} {g : Nat} {t : TypeId} {cs : Array Value} (h : Blk w g t cs) (j : Nat) (u : Value) : Blk (w.setCell ⟨g, j, none⟩ u) g t (cs.setIfInBounds j u) := by
  unfold Blk at h ⊢
  simp [World.setCell, Array.getElem?_modify, h]
theorem Blk.set53 {w : World} {g : Nat} {t : TypeId} {a0 a1 a2 a3 a4 : Value} (h : Blk w g t #[a0, a1, a2, a3, a4]) (u : Value) : Blk (w.setCell ⟨g, 3, none⟩ u) g t #[a0, a1, a2, u, a4] := h.setJ 3 u
theorem Blk.set54 {w : World} {g : Nat} {t : TypeId} {a0 a1 a2 a3 a4 : Value} (h : Blk w g t #[a0, a1, a2, a3, a4]) (u : Value) : Blk (w.setCell ⟨g, 4, none⟩ u) g t #[a0, a1, a2, a3, u] := h.setJ 4 u
theorem Blk.ne {w : World} {g k : Nat} {t t' : TypeId} {cs cs' : Array Value} (h : Blk w g t cs) (h' : Blk w k t' cs') (ht : t ≠ t') : g ≠ k := by
  rintro rfl
  have := h.symm.trans h'
  injection this with this
  injection this with _ this
  exact ht this

structure IHd (z : Option (Nat × Array Value)) (lo g : Nat) (d car : Int) (vk : Value) (w : World) (s : HS) : Prop where
  ex : ∃ AE cE AC cC, Blk w g 73 #[.int .i64 d, .int .i64 car, vk, .slice AC s.cells.length cC, .slice AE s.evs.length cE] ∧ OwnEvent w lo w.heap.size AE cE s.evs ∧ OwnIIz z w lo w.heap.size AC s.cells.length cC s.cells
  hlo : lo ≤ g
section
variable {z : Option (Nat × Array Value)} {lo g : Nat} {d car : Int} {vk : Value} {w w' w1 : World} {s : HS}
theorem IHd.below (h : IHd z lo g d car vk w s) (hb : Below w.heap.size w w') : IHd z lo g d car vk w' s := by
  obtain ⟨⟨AE, cE, AC, cC, hk, ho, hc⟩, hlo⟩ := h
  exact ⟨⟨AE, cE, AC, cC, hk.below hb hk.lt, (OwnC.below ho hb (Nat.le_refl _)).mono (Nat.le_refl _) hb.size, (hc.below hb (Nat.le_refl _)).mono (Nat.le_refl _) hb.size⟩, hlo⟩
theorem IHd.drewN (h : IHd z lo g d car vk w s) (n : Nat) : IHd z lo g d car vk (w.drewN n) s := h.below (below_drewN (Below.refl _ _) n)
theorem IHd.lt (h : IHd z lo g d car vk w s) : lo ≤ w.heap.size := by
  obtain ⟨⟨AE, cE, AC, cC, hk, _⟩, hlo⟩ := h
  have := hk.lt
  omega
theorem IHd.read (h : IHd z lo g d car vk w s) : ∃ AC cC, w.cell? ⟨g, 0, none⟩ = some (.int .i64 d) ∧ w.cell? ⟨g, 1, none⟩ = some (.int .i64 car) ∧ w.cell? ⟨g, 2, none⟩ = some vk ∧ w.cell? ⟨g, 3, none⟩ = some (.slice AC s.cells.length cC) ∧ Ints2 w AC s.cells ∧ s.cells.length ≤ cC := by
  obtain ⟨⟨AE, cE, AC, cC, hk, _, hc⟩, _⟩ := h
  obtain ⟨h0, h1, h2, h3, _⟩ := hk.c5
  exact ⟨AC, cC, h0, h1, h2, h3, hc.ints2, hc.two.cap⟩
theorem IHd.apart {q : Nat} {cur : Array Value} (h : IHd (some (q, cur)) lo g d car vk w s) : Blk w q 2 cur := by
  obtain ⟨⟨AE, cE, AC, cC, hk, _, hc⟩, _⟩ := h
  obtain ⟨cs, _, _, h3⟩ := hc.ex
  exact (h3 q cur rfl).1
theorem IHd.seal_ (h : IHd none lo g d car vk w s) (hb : Below w.heap.size w w') {q : Nat} {cur : Array Value} (hq : w.heap.size ≤ q) (hk : Blk w' q 2 cur) : IHd (some (q, cur)) lo g d car vk w' s := by
  obtain ⟨⟨AE, cE, AC, cC, hkg, ho, hc⟩, hlo⟩ := h
  obtain ⟨cs, h1, h2, _⟩ := hc.ex
  refine ⟨⟨AE, cE, AC, cC, hkg.below hb hkg.lt, (OwnC.below ho hb (Nat.le_refl _)).mono (Nat.le_refl _) hb.size, ⟨cs, (h1.below hb (Nat.le_refl _)).mono (Nat.le_refl _) hb.size, (h2.keep fun k _ h2 _ => hb.block k (by omega)).mono (Nat.le_refl _) hb.size, ?_⟩⟩, hlo⟩
  intro q' cur' hz
  injection hz with hz
  injection hz with hz1 hz2
  subst hz1 hz2
  refine ⟨hk, fun v hv e => ?_⟩
  obtain ⟨i, hi, rfl⟩ := List.mem_iff_getElem.1 hv
  have hil : i < s.cells.length := by rw [← h2.1]; exact hi
  obtain ⟨A', c', e1, e2⟩ := h2.2.1 i _ (List.getElem?_eq_getElem hil)
  rw [List.getElem?_eq_getElem hi] at e1
  injection e1 with e1
  rw [e1] at e
  have := e2.own.lt q e
  omega
/-- The events grow: what holds behind the store of the box. -/
theorem IHd.grow {wp w8 : World} {evs evs' : List EventD} {cells : List (List Int)} {AE AC A9 : Option Addr} {cE cC c9 m : Nat}
    (hk : Blk wp g 73 #[.int .i64 d, .int .i64 car, vk, .slice AC cells.length cC, .slice AE evs.length cE]) (ho : OwnEvent wp lo m AE cE evs) (hc : OwnIIz z wp lo m AC cells.length cC cells) (hlo : lo ≤ g) (hm : m ≤ wp.heap.size)
    (ho8 : OwnEvent w8 lo w8.heap.size A9 c9 evs') (hg8 : wp.grownBy w8 (Value.slice AE evs.length cE).ownBlock) :
    Blk w8 g 73 #[.int .i64 d, .int .i64 car, vk, .slice AC cells.length cC, .slice AE evs.length cE] ∧ IHd z lo g d car vk (w8.setCell ⟨g, 4, none⟩ (.slice A9 evs'.length c9)) ⟨evs', cells⟩ ∧
      ∀ (k : Nat) (t : TypeId) (cur : Array Value), t ≠ 40 → t ≠ 73 → Blk wp k t cur → Blk w8 k t cur ∧ Blk (w8.setCell ⟨g, 4, none⟩ (.slice A9 evs'.length c9)) k t cur := by
  have hk8 := hk.grownT ho (by decide) hg8
  have hc8 : OwnIIz z w8 lo m AC cells.length cC cells := by
    obtain ⟨cs, h1, h2, h3⟩ := hc.ex
    exact ⟨cs, h1.grownT ho (by decide) hg8, h2.grownT ho (by decide) hg8, h3.step fun q cur hq => hq.grownT ho (by decide) hg8⟩
  refine ⟨hk8, ⟨⟨A9, c9, AC, cC, ?_, ?_, ?_⟩, hlo⟩, fun k t cur he1 he2 hb => ?_⟩
  · exact hk8.set54 _
  · exact (OwnC.farT ho8 hk8 (by decide) 4 _).mono (Nat.le_refl _) (by simp)
  · exact (OwnIIz.farT hc8 hk8 (by decide) (by decide) 4 _).mono (Nat.le_refl _) (by have := hg8.size; simp; omega)
  · have h1 := hb.grownT ho he1 hg8
    exact ⟨h1, h1.far (p := ⟨g, 4, none⟩) (h1.ne hk8 he2) _⟩
end

set_option maxHeartbeats 2000000 in
set_option maxRecDepth 10000 in
theorem impl_hadd {z : Option (Nat × Array Value)} {lo g : Nat} {d car : Int} {vk : Value} {s : HS} {w : World} (h : IHd z lo g d car vk w s) (kind place count bed : Int) (hl : s.evs.length ≤ 100000) :
    Calls Tryz.prog 77 #[.pointer (some ⟨g, 0, none⟩), .int .i64 kind, .int .i64 place, .int .i64 count, .int .i64 bed] w fun e w' =>
      e = .returned (.tuple #[]) ∧ IHd z lo g d car vk w' ⟨s.evs ++ [evYarn d car kind place count bed], s.cells⟩ ∧ Below lo w w' ∧ Hid ((∀ v, w.cell? ⟨g, 3, none⟩ = some v → w'.cell? ⟨g, 3, none⟩ = some v) ∧
        ∀ (k : Nat) (e : TypeId) (cur : Array Value), e ≠ 40 → e ≠ 73 → Blk w k e cur → Blk w' k e cur) := by
  obtain ⟨iE, hi0, hz0, hz1, hz2⟩ := info_parts info_Event
  have hlz0 := h.lt
  obtain ⟨⟨AE, cE, AC, cC, hk, ho, hc⟩, hlo⟩ := h
  obtain ⟨evs, cells⟩ := s
  obtain ⟨r0, r1, _, p3, p0⟩ := hk.c5
  dsimp only at *
  go_enter Tryz.func77, Tryz.ntmps77
  go_upto_region 0 with fail
  (refine wp_region_pops 3 (S := (fun W' => W'.cell? ⟨g, 4, none⟩ = some (.slice AE evs.length cE) ∧ W'.cell? ⟨g, 0, none⟩ = some (.int .i64 d) ∧ W'.cell? ⟨g, 1, none⟩ = some (.int .i64 car))) (pre := ?_) (T := ?_) (n := ?_) (by kernel_rfl) (by kernel_rfl) ?_ ?_ ?_ ?_ (fun hHeld => ?_); rotate_left 3; (focus (simp only [pops, List.pop_toArray, List.dropLast_cons_cons, List.dropLast_singleton]; rfl)); (focus (simp only [tailOf, List.pop_toArray, List.dropLast_cons_cons, List.dropLast_singleton, List.back?_toArray, List.getLast?_cons_cons, List.getLast?_singleton, Option.toList_some, List.nil_append, List.cons_append]; rfl)); (focus rfl); (focus (exact ⟨p0, r0, r1⟩)))
  ((refine wpAnyH_take (i := 0) (v := ?_) rfl (by kernel_rfl) (by kernel_rfl) (by kernel_rfl) (fun _ _ _ h => h) (Or.inl ⟨by rfl, ?_⟩) (by assumption) ?_; rotate_left; (focus (intro W hSw; (try dsimp only at hSw); go_simp; try (with_reducible rfl)))); (try simp only [List.getElem_toArray, List.getElem_cons_zero, Act.put, List.setIfInBounds_toArray, List.set_cons_zero, List.set_cons_succ]); (refine wpAnyH_take (i := 1) (v := ?_) rfl (by kernel_rfl) (by kernel_rfl) (by kernel_rfl) (fun _ _ _ h => h) (Or.inl ⟨by rfl, ?_⟩) (by assumption) ?_; rotate_left; (focus (intro W hSw; (try dsimp only at hSw); go_simp; try (with_reducible rfl)))); (try simp only [List.getElem_toArray, List.getElem_cons_zero, List.getElem_cons_succ, Act.put, List.setIfInBounds_toArray, List.set_cons_zero, List.set_cons_succ]); (refine wpAnyH_take (i := 2) (v := ?_) rfl (by kernel_rfl) (by kernel_rfl) (by kernel_rfl) (fun _ _ _ h => h) (Or.inl ⟨by rfl, ?_⟩) (by assumption) ?_; rotate_left; (focus (intro W hSw; (try dsimp only at hSw); go_simp; try (with_reducible rfl)))); (try simp only [List.getElem_toArray, List.getElem_cons_zero, List.getElem_cons_succ, Act.put, List.setIfInBounds_toArray, List.set_cons_zero, List.set_cons_succ]); (refine wpAnyH_take (i := 3) (v := ?_) rfl (by kernel_rfl) (by kernel_rfl) (by kernel_rfl) (fun _ _ _ h => h) (Or.inl ⟨by rfl, ?_⟩) (by assumption) ?_; rotate_left; (focus (intro W hSw; (try dsimp only at hSw); go_simp; try (with_reducible rfl)))); (try simp only [List.getElem_toArray, List.getElem_cons_zero, List.getElem_cons_succ, Act.put, List.setIfInBounds_toArray, List.set_cons_zero, List.set_cons_succ]); (refine wpAnyH_take (i := 4) (v := ?_) rfl (by kernel_rfl) (by kernel_rfl) (by kernel_rfl) (fun _ _ _ h => h) (Or.inl ⟨by rfl, ?_⟩) (by assumption) ?_; rotate_left; (focus (intro W hSw; (try dsimp only at hSw); go_simp; try (with_reducible rfl)))); (try simp only [List.getElem_toArray, List.getElem_cons_zero, List.getElem_cons_succ, Act.put, List.setIfInBounds_toArray, List.set_cons_zero, List.set_cons_succ]); (refine wpAnyH_take (i := 5) (v := ?_) rfl (by kernel_rfl) (by kernel_rfl) (by kernel_rfl) (fun _ _ _ h => h) (Or.inl ⟨by rfl, ?_⟩) (by assumption) ?_; rotate_left; (focus (intro W hSw; (try dsimp only at hSw); go_simp; try (with_reducible rfl)))); (try simp only [List.getElem_toArray, List.getElem_cons_zero, List.getElem_cons_succ, Act.put, List.setIfInBounds_toArray, List.set_cons_zero, List.set_cons_succ]); (refine wpAnyH_take (i := 6) (v := ?_) rfl (by kernel_rfl) (by kernel_rfl) (by kernel_rfl) (fun _ _ _ h => h) (Or.inl ⟨by rfl, ?_⟩) (by assumption) ?_; rotate_left; (focus (intro W hSw; (try dsimp only at hSw); go_simp; try (with_reducible rfl)))); (try simp only [List.getElem_toArray, List.getElem_cons_zero, List.getElem_cons_succ, Act.put, List.setIfInBounds_toArray, List.set_cons_zero, List.set_cons_succ]); (refine wpAnyH_take (i := 7) (v := ?_) rfl (by kernel_rfl) (by kernel_rfl) (by kernel_rfl) (fun _ _ _ h => h) (Or.inl ⟨by rfl, ?_⟩) (by assumption) ?_; rotate_left; (focus (intro W hSw; (try dsimp only at hSw); go_simp; try (with_reducible rfl)))); (try simp only [List.getElem_toArray, List.getElem_cons_zero, List.getElem_cons_succ, Act.put, List.setIfInBounds_toArray, List.set_cons_zero, List.set_cons_succ]); (refine wpAnyH_take (i := 8) (v := ?_) rfl (by kernel_rfl) (by kernel_rfl) (by kernel_rfl) (fun _ _ _ h => h) (Or.inl ⟨by rfl, ?_⟩) (by assumption) ?_; rotate_left; (focus (intro W hSw; (try dsimp only at hSw); go_simp; try (with_reducible rfl)))); (try simp only [List.getElem_toArray, List.getElem_cons_zero, List.getElem_cons_succ, Act.put, List.setIfInBounds_toArray, List.set_cons_zero, List.set_cons_succ]); (refine wpAnyH_take (i := 9) (v := ?_) rfl (by kernel_rfl) (by kernel_rfl) (by kernel_rfl) (fun _ _ _ h => h) (Or.inl ⟨by rfl, ?_⟩) (by assumption) ?_; rotate_left; (focus (intro W hSw; (try dsimp only at hSw); go_simp; try (with_reducible rfl)))); (try simp only [List.getElem_toArray, List.getElem_cons_zero, List.getElem_cons_succ, Act.put, List.setIfInBounds_toArray, List.set_cons_zero, List.set_cons_succ]); (refine wpAnyH_take (i := 10) (v := ?_) rfl (by kernel_rfl) (by kernel_rfl) (by kernel_rfl) (fun _ _ _ h => h) (Or.inl ⟨by rfl, ?_⟩) (by assumption) ?_; rotate_left; (focus (intro W hSw; (try dsimp only at hSw); go_simp; try (with_reducible rfl)))); (try simp only [List.getElem_toArray, List.getElem_cons_zero, List.getElem_cons_succ, Act.put, List.setIfInBounds_toArray, List.set_cons_zero, List.set_cons_succ]); (refine wpAnyH_take (i := 11) (v := ?_) rfl (by kernel_rfl) (by kernel_rfl) (by kernel_rfl) (fun _ _ _ h => h) (Or.inl ⟨by rfl, ?_⟩) (by assumption) ?_; rotate_left; (focus (intro W hSw; (try dsimp only at hSw); go_simp; try (with_reducible rfl)))); (try simp only [List.getElem_toArray, List.getElem_cons_zero, List.getElem_cons_succ, Act.put, List.setIfInBounds_toArray, List.set_cons_zero, List.set_cons_succ]); (refine wpAnyH_take (i := 12) (v := ?_) rfl (by kernel_rfl) (by kernel_rfl) (by kernel_rfl) (fun _ _ _ h => h) (Or.inl ⟨by rfl, ?_⟩) (by assumption) ?_; rotate_left; (focus (intro W hSw; (try dsimp only at hSw); go_simp; try (with_reducible rfl)))); (try simp only [List.getElem_toArray, List.getElem_cons_zero, List.getElem_cons_succ, Act.put, List.setIfInBounds_toArray, List.set_cons_zero, List.set_cons_succ]); (refine wpAnyH_take (i := 13) (v := ?_) rfl (by kernel_rfl) (by kernel_rfl) (by kernel_rfl) (fun _ _ _ h => h) (Or.inl ⟨by rfl, ?_⟩) (by assumption) ?_; rotate_left; (focus (intro W hSw; (try dsimp only at hSw); go_simp; try (with_reducible rfl)))); (try simp only [List.getElem_toArray, List.getElem_cons_zero, List.getElem_cons_succ, Act.put, List.setIfInBounds_toArray, List.set_cons_zero, List.set_cons_succ]); (refine wpAnyH_take (i := 14) (v := ?_) rfl (by kernel_rfl) (by kernel_rfl) (by kernel_rfl) (fun _ _ _ h => h) (Or.inl ⟨by rfl, ?_⟩) (by assumption) ?_; rotate_left; (focus (intro W hSw; (try dsimp only at hSw); go_simp; try (with_reducible rfl)))); (try simp only [List.getElem_toArray, List.getElem_cons_zero, List.getElem_cons_succ, Act.put, List.setIfInBounds_toArray, List.set_cons_zero, List.set_cons_succ]); (refine wpAnyH_take (i := 15) (v := ?_) rfl (by kernel_rfl) (by kernel_rfl) (by kernel_rfl) (fun _ _ _ h => h) (Or.inl ⟨by rfl, ?_⟩) (by assumption) ?_; rotate_left; (focus (intro W hSw; (try dsimp only at hSw); go_simp; try (with_reducible rfl)))); (try simp only [List.getElem_toArray, List.getElem_cons_zero, List.getElem_cons_succ, Act.put, List.setIfInBounds_toArray, List.set_cons_zero, List.set_cons_succ]); (refine wpAnyH_take (i := 16) (v := ?_) rfl (by kernel_rfl) (by kernel_rfl) (by kernel_rfl) (fun _ _ _ h => h) (Or.inl ⟨by rfl, ?_⟩) (by assumption) ?_; rotate_left; (focus (intro W hSw; (try dsimp only at hSw); go_simp; try (with_reducible rfl)))); (try simp only [List.getElem_toArray, List.getElem_cons_zero, List.getElem_cons_succ, Act.put, List.setIfInBounds_toArray, List.set_cons_zero, List.set_cons_succ]); (refine wpAnyH_take (i := 17) (v := ?_) rfl (by kernel_rfl) (by kernel_rfl) (by kernel_rfl) (fun _ _ _ h => h) (Or.inl ⟨by rfl, ?_⟩) (by assumption) ?_; rotate_left; (focus (intro W hSw; (try dsimp only at hSw); go_simp; try (with_reducible rfl)))); (try simp only [List.getElem_toArray, List.getElem_cons_zero, List.getElem_cons_succ, Act.put, List.setIfInBounds_toArray, List.set_cons_zero, List.set_cons_succ]); (refine wpAnyH_take (i := 18) (v := ?_) rfl (by kernel_rfl) (by kernel_rfl) (by kernel_rfl) (fun _ _ _ h => h) (Or.inl ⟨by rfl, ?_⟩) (by assumption) ?_; rotate_left; (focus (intro W hSw; (try dsimp only at hSw); go_simp; try (with_reducible rfl)))); (try simp only [List.getElem_toArray, List.getElem_cons_zero, List.getElem_cons_succ, Act.put, List.setIfInBounds_toArray, List.set_cons_zero, List.set_cons_succ]); (refine wpAnyH_take (i := 19) (v := ?_) rfl (by kernel_rfl) (by kernel_rfl) (by kernel_rfl) (fun _ _ _ h => h) (Or.inl ⟨by rfl, ?_⟩) (by assumption) ?_; rotate_left; (focus (intro W hSw; (try dsimp only at hSw); go_simp; try (with_reducible rfl)))); (try simp only [List.getElem_toArray, List.getElem_cons_zero, List.getElem_cons_succ, Act.put, List.setIfInBounds_toArray, List.set_cons_zero, List.set_cons_succ]))
  (refine wpAnyH_ready (rs := [20]) (by kernel_rfl) (by simp) ?_; refine AllReadyH.cons rfl (fun K hK => ?_) AllReadyH.nil)
  go_simp
  have hka := hk.drew1.alloc (.cells #[.int .i64 kind, .int .i64 place, .int .i64 count, .int .i64 bed, .int .i64 car, .int .i64 d] 40)
  refine hK.out _ _ ⟨hka.c5.2.2.2.2, hka.c5.1, hka.c5.2.1⟩ (fun hHeld => ?_)
  clear hK K
  (try simp only [List.getElem_toArray, List.getElem_cons_zero, List.getElem_cons_succ, Act.put, List.setIfInBounds_toArray, List.set_cons_zero, List.set_cons_succ])
  have hlz : lo ≤ ((World.drew w).alloc (.cells #[.int .i64 kind, .int .i64 place, .int .i64 count, .int .i64 bed, .int .i64 car, .int .i64 d] 40)).heap.size := by have e : (World.drew w).heap.size = w.heap.size := rfl; rw [World.size_alloc, e]; omega
  have olit := OwnC.news (OwnC.lit (w := World.drew w) (lo := lo) (n := 1) 40 6 #[.int .i64 kind, .int .i64 place, .int .i64 count, .int .i64 bed, .int .i64 car, .int .i64 d] (by have e : (World.drew w).heap.size = w.heap.size := rfl; omega) (by decide) rfl)
  (refine wpAnyH_ready (rs := [21]) (by kernel_rfl) (by simp) ?_; refine AllReadyH.cons rfl (fun K hK => ?_) AllReadyH.nil)
  refine wp_appendC_at ((World.drew w).alloc (.cells #[.int .i64 kind, .int .i64 place, .int .i64 count, .int .i64 bed, .int .i64 car, .int .i64 d] 40)) (.tmp 14) (.tmp 30) _ rfl 40 iE _ 6 48 Tryz.underlying32 hi0 hz0 hz1 hz2 rfl (by decide) (by simp [Act.eval]) ((OwnC.drew1 ho).alloc _) hlz (some ⟨w.heap.size, 0, none⟩) 1 1 [.int .i64 kind, .int .i64 place, .int .i64 count, .int .i64 bed, .int .i64 car, .int .i64 d] (by simp [Act.eval]) (by simp) olit (by simp [Value.oneCell']) (by unfold maxLen; omega) (by omega) ?_
  intro A9 c9 w8 ho8 hg8 hb8 _
  have hca : OwnIIz z ((World.drew w).alloc (.cells #[.int .i64 kind, .int .i64 place, .int .i64 count, .int .i64 bed, .int .i64 car, .int .i64 d] 40)) lo w.heap.size AC cells.length cC cells := hc.below (Below.alloc (Below.drew (Below.refl _ _)) (Nat.le_refl _) _) (Nat.le_refl _)
  have hcat : (evs ++ [evYarn d car kind place count bed]).length = evs.length + 1 := by simp
  have ho8' : OwnEvent w8 lo w8.heap.size A9 c9 (evs ++ [evYarn d car kind place count bed]) := by
    show OwnC _ _ _ _ _ _ _ _ _
    rw [hcat, cellsEvent_snoc]
    exact ho8
  obtain ⟨hk8, hI8, hX8⟩ := IHd.grow hka ((OwnC.drew1 ho).alloc _) hca hlo (by have e : (World.drew w).heap.size = w.heap.size := rfl; rw [World.size_alloc, e]; omega) ho8' hg8
  rw [hcat] at hI8 hX8
  have HB0 := Lib.hid (((Below.alloc (Below.drew (Below.refl _ _)) hlz0 _).trans hb8).setCell (p := ⟨g, 4, none⟩) hlo (.slice A9 (evs.length + 1) c9))
  refine hK.out _ _ ⟨hk8.c5.2.2.2.2, hk8.c5.1, hk8.c5.2.1⟩ (fun hHeld => ?_)
  clear hK K
  (try simp only [List.getElem_toArray, List.getElem_cons_zero, List.getElem_cons_succ, Act.put, List.setIfInBounds_toArray, List.set_cons_zero, List.set_cons_succ])
  (refine wpAnyH_done (by kernel_rfl) ?_ _; change wpList _ _ _ _ _ _)
  clear hHeld
  have HXX : Hid ((∀ v, w.cell? ⟨g, 3, none⟩ = some v → (w8.setCell ⟨g, 4, none⟩ (.slice A9 (evs.length + 1) c9)).cell? ⟨g, 3, none⟩ = some v) ∧
      ∀ (k : Nat) (e : TypeId) (cur : Array Value), e ≠ 40 → e ≠ 73 → Blk w k e cur → Blk (w8.setCell ⟨g, 4, none⟩ (.slice A9 (evs.length + 1) c9)) k e cur) := Lib.hid ⟨fun v hv => by
        rw [p3] at hv
        rw [← hv]
        exact (hk8.set54 _).c5.2.2.2.1, fun k e cur he1 he2 hb => (hX8 k e cur he1 he2 (hb.drew1.alloc _)).2⟩
  have HI8 := Lib.hid hI8; clear hI8 hX8
  obtain ⟨v0, v1, v2, v3, v4⟩ := hk8.c5
  have e2 := hk8.frozen 4
  clear ho8 ho8' hg8 hb8 hca hcat hka hk8
  go_wp2_with (fail)
  go_end0
  exact ⟨rfl, HI8.out, HB0.out, Lib.hid ⟨HXX.out.1 _ p3, HXX.out.2⟩⟩

end Go.Proofs.YthjamohaeahipaaGreat

/- Knitting by hand, the given side: the crossings of a stitch. -/
namespace Go.Proofs.YthjamohaeahipaaGreat
open Go Go.RowKit

theorem Ints.newsM {w : World} {A : Option Addr} {xs : List Int} (h : Ints w A xs) : ∀ (j : Nat) (u : Value), (xs.map (Value.int .i64))[j]? = some u → ∃ b off, A = some ⟨b, off, none⟩ ∧ w.cell? ⟨b, off + j, none⟩ = some u := by
  intro j u hu
  rw [List.getElem?_map] at hu
  cases hx : xs[j]? with
  | none => rw [hx] at hu; simp at hu
  | some x =>
    rw [hx] at hu
    simp at hu
    obtain ⟨b, off, y, hA, hc, hy⟩ := h j (List.getElem?_eq_some_iff.1 hx).1
    rw [hx] at hy
    injection hy with hy
    subst hy
    exact ⟨b, off, hA, by rw [hc, ← hu]⟩
theorem cross_word {p Z : Int} {a b t : Nat} {y : Int} (h : (swTo p Z a b)[t]? = some y) : ∃ x, p + 1 ≤ x ∧ x ≤ p + a + b ∧ y = Z * x ∧ (crossEvs p Z a b)[t]? = some (evCross Z x) := by
  rw [swTo_sign, List.getElem?_map] at h
  cases hx : (swTo p 1 a b)[t]? with
  | none => rw [hx] at h; simp at h
  | some x =>
    rw [hx] at h
    simp at h
    have hm := swTo_in (List.mem_of_getElem? hx)
    exact ⟨x, hm.1, hm.2, h.symm, by rw [crossEvs, List.getElem?_map, hx]; rfl⟩

end Go.Proofs.YthjamohaeahipaaGreat

/- Knitting by hand, the program's side: crossings; stores into the hand. -/
namespace Go.Proofs.YthjamohaeahipaaGreat
open Go Go.RowKit

set_option maxHeartbeats 2000000 in
set_option maxRecDepth 10000 in
theorem impl_crossings (p : Int) (a b : Nat) (s : Int) (w : World) (hp : 0 ≤ p ∧ p ≤ 1000) (ha : a ≤ 100) (hb : b ≤ 100) :
    Calls Tryz.prog 89 #[.int .i64 p, .int .i64 a, .int .i64 b, .int .i64 s] w fun e w' => ∃ A' c', e = .returned (.slice A' (crossEvs p s a b).length c') ∧ OwnEvent w' w.heap.size w'.heap.size A' c' (crossEvs p s a b) ∧ Below w.heap.size w w' := by
  obtain ⟨iE, ie0, iz0, iz1, iz2⟩ := info_parts info_Event
  obtain ⟨w1, hw1⟩ : ∃ w1, w1 = w.alloc (.cells #[] 40) := ⟨_, rfl⟩
  have o1 : OwnC w1 w.heap.size w1.heap.size 40 6 (some ⟨w.heap.size, 0, none⟩) 0 0 [] := by rw [hw1]; exact (OwnC.lit (w := w) (lo := w.heap.size) (n := 0) 40 6 #[] (Nat.le_refl _) (Nat.zero_le _) rfl).mono (Nat.le_refl _) (by simp)
  have b1 : Below w.heap.size w w1 := by rw [hw1]; (repeat (first | exact Below.refl _ _ | assumption | apply Below.drew | apply below_drewN | (refine Below.alloc ?_ (by first | omega | (simp; done) | (simp; omega)) _) | (refine Below.setCell ?_ (by first | omega | (simp; done) | (simp; omega)) _)))
  have hz1 := b1.size
  have HWD : Hid (∀ t y, (swTo p 1 a b)[t]? = some y → p + 1 ≤ y ∧ y ≤ p + a + b ∧ (crossEvs p s a b)[t]? = some (evCross s y)) := Lib.hid (fun t y hy => by
    have hm := swTo_in (List.mem_of_getElem? hy)
    exact ⟨hm.1, hm.2, by rw [crossEvs, List.getElem?_map, hy]; rfl⟩)
  have HWL : Hid ((crossEvs p s a b).length = (swTo p 1 a b).length) := Lib.hid (by rw [crossEvs_length, swTo_length])
  have hWl : (swTo p 1 a b).length ≤ 10000 := by rw [swTo_length]; exact Nat.le_trans (Nat.mul_le_mul ha hb) (by decide)
  have CB := Lib.hid (fun w' => impl_blockLetters p a b 1 w' (.inl rfl) hp ha hb)
  generalize swTo p 1 a b = Wd at *
  generalize crossEvs p s a b = Ce at *
  go_enter Tryz.func89, Tryz.ntmps89
  go_wp2_with (fail)
  rw [← hw1]
  clear hw1
  refine (CB.out w1).mono ?_; rintro e w2 ⟨A2, c2, rfl, o2, b2⟩
  have oW : OwnC w2 w1.heap.size w2.heap.size 2 1 A2 Wd.length c2 (Wd.map (Value.int .i64)) := o2
  have B2 : Below w.heap.size w w2 := b1.trans (b2.mono hz1)
  have o12 := (o1.below b2 (Nat.le_refl _)).mono (Nat.le_refl _) b2.size
  clear o1 o2
  go_wp2_with (fail)
  go_loopw [9, 18] (fun ov kv wr => ∃ (t : Nat) (A3 : Option Addr) (c3 : Nat), t ≤ Wd.length ∧ kv = .int .i64 t ∧ ov = .slice A3 t c3 ∧ OwnC wr w.heap.size wr.heap.size 40 6 A3 t c3 (cellsEvent (Ce.take t)) ∧ OwnC wr w1.heap.size w2.heap.size 2 1 A2 Wd.length c2 (Wd.map (Value.int .i64)) ∧ Below w.heap.size w wr) (fun _ kv _ => Wd.length - (intOf kv).toNat)
  case atStart => exact ⟨0, _, _, Nat.zero_le _, rfl, rfl, o12, oW, B2⟩
  case round =>
    clear o12 oW B2
    obtain ⟨t, A3, c3, ht, rfl, rfl, ho, ow, hbr⟩ := hrel
    have hzs := hbr.size
    by_cases htl : t < Wd.length
    · obtain ⟨gW, rfl, _, _, hcy, _⟩ := ow.cell (j := t) (by simpa using htl)
      obtain ⟨y, hy⟩ : ∃ y, Wd[t]? = some y := ⟨_, List.getElem?_eq_getElem htl⟩
      have hcy2 : wr.cell? ⟨gW, t, none⟩ = some (.int .i64 y) := by
        rw [hcy]
        rw [List.getElem?_eq_getElem htl] at hy
        injection hy with hy
        simp [hy]
      obtain ⟨hx1, hx2, hce⟩ := HWD.out t y hy
      have HCE : Hid (cellsEvent (Ce.take (t + 1)) = cellsEvent (Ce.take t) ++ [.int .i64 1, .int .i64 (y - 1), .int .i64 s, .int .i64 0, .int .i64 0, .int .i64 0]) := Lib.hid (by rw [take_snoc hce, cellsEvent_snoc]; rfl)
      have wx : IntKind.i64.wrap (y - 1) = y - 1 := IntWalk.i64_in _ ⟨by omega, by omega⟩
      have dk : decide ((t : Int) < (Wd.length : Int)) = true := decide_eq_true (by omega)
      have j4 : (0 : Int) ≤ (t : Int) := by omega
      have j5 : (t : Int) < (Wd.length : Int) := by omega
      clear hy hce hcy
      go_wp2_with (at_builtin; refine wpList_append1 wr [.int .i64 1, .int .i64 (y - 1), .int .i64 s, .int .i64 0, .int .i64 0, .int .i64 0] _ rfl (.tmp 22) (.tmp 27) _ rfl 40 iE _ 6 48 Tryz.underlying32 ie0 iz0 iz1 iz2 rfl (by decide) rfl ho hzs 1 rfl rfl (by simp [Value.oneCell']) (by omega) (by decide) ?_; intro A5 c5 w5 ho5 hg5 hb5 hz5)
      have ow5 := (ow.alloc (.cells #[.int .i64 1, .int .i64 (y - 1), .int .i64 s, .int .i64 0, .int .i64 0, .int .i64 0] 40)).grownT (ho.alloc (.cells #[.int .i64 1, .int .i64 (y - 1), .int .i64 s, .int .i64 0, .int .i64 0, .int .i64 0] 40)) (by decide) hg5
      exact ⟨⟨t + 1, A5, c5, by omega, by go_num, rfl, by rw [HCE.out]; exact ho5, ow5, hbr.trans hb5⟩, by first | (simp [intOf]; done) | (simp [intOf]; omega)⟩
    · obtain rfl : t = Wd.length := by omega
      have dk : decide ((Wd.length : Int) < (Wd.length : Int)) = false := decide_eq_false (by omega)
      go_wp2_with (fail)
      go_ret
      rw [← HWL.out, List.take_of_length_le (Nat.le_refl _)] at ho
      refine ⟨A3, c3, by rw [HWL.out]; rfl, ?_, hbr⟩
      exact ho

end Go.Proofs.YthjamohaeahipaaGreat

/- Knitting by hand, the program's side: stores into the hand. -/
namespace Go.Proofs.YthjamohaeahipaaGreat
open Go Go.RowKit

section
variable {z : Option (Nat × Array Value)} {lo g : Nat} {d car : Int} {vk : Value} {w w' w1 : World} {s : HS}
/-- A store into one size of one stitch. -/
theorem IHd.setAt (h : IHd z lo g d car vk w s) {i k : Nat} {c : List Int} (hx : s.cells[i]? = some c) {x : Int} (hk : c[k]? = some x) :
    ∃ gC cC gR c' curC curR, w.cell? ⟨g, 3, none⟩ = some (.slice (some ⟨gC, 0, none⟩) s.cells.length cC) ∧ w.cell? ⟨gC, i, none⟩ = some (.slice (some ⟨gR, 0, none⟩) c.length c') ∧ w.cell? ⟨gR, k, none⟩ = some (.int .i64 x) ∧ w.frozen? ⟨gR, k, none⟩ = false ∧
      Ints w (some ⟨gR, 0, none⟩) c ∧ c.length ≤ c' ∧ Blk w gC 24 curC ∧ Blk w gR 2 curR ∧ s.cells.length ≤ cC ∧ ∀ v : Int, IHd z lo g d car vk (w.setCell ⟨gR, k, none⟩ (.int .i64 v)) ⟨s.evs, s.cells.set i (c.set k v)⟩ ∧ Below lo w (w.setCell ⟨gR, k, none⟩ (.int .i64 v)) := by
  obtain ⟨⟨AE, cE, AC, cC, hb, ho, hc⟩, hlo⟩ := h
  have hkl : k < c.length := (List.getElem?_eq_some_iff.1 hk).1
  obtain ⟨cs, hc1, hc2, hcz⟩ := hc.ex
  obtain ⟨A', c', hcs, hrow⟩ := hc2.2.1 i c hx
  have hil : i < s.cells.length := (List.getElem?_eq_some_iff.1 hx).1
  obtain ⟨gC, rfl, hgC1, hgC2, hcell, _⟩ := hc1.cell (j := i) (by have := hc2.1; omega)
  rw [List.getElem?_eq_getElem (by have := hc2.1; omega)] at hcs
  injection hcs with hcs
  rw [hcs] at hcell
  obtain ⟨gR, rfl, hgR1, hgR2, hcR, hfR⟩ := hrow.cell (j := k) (by simpa using hkl)
  have hcR' : w.cell? ⟨gR, k, none⟩ = some (.int .i64 x) := by
    rw [hcR]
    rw [List.getElem?_eq_getElem hkl] at hk
    injection hk with hk
    simp [hk]
  obtain ⟨curC, hblkC, _, _⟩ := hc1.blkEx
  obtain ⟨cur, hblk, _, _⟩ := OwnC.blkEx hrow
  have hne : g ≠ gR := hb.ne hblk (by decide)
  refine ⟨gC, cC, gR, c', curC, cur, hb.c5.2.2.2.1, hcell, hcR', hfR, hrow.ints, hrow.cap, hblkC, hblk, hc.two.cap, fun v => ⟨⟨⟨AE, cE, some ⟨gC, 0, none⟩, cC, ?_, ?_, ?_⟩, hlo⟩, (Below.refl _ _).setCell hgR1 _⟩⟩
  · simpa using hb.far (p := ⟨gR, k, none⟩) hne _
  · exact (OwnC.farT ho hblk (by decide) k _).mono (Nat.le_refl _) (by simp)
  · obtain ⟨g2, A2, c2, l, h', e1, e2, e3, _, e4⟩ := hc.two.open_ hx
    injection e1 with e1
    injection e1 with e1
    subst e1
    rw [hcell] at e2
    injection e2 with e2
    injection e2 with e2 _ e5
    subst e2 e5
    have hst := OwnC.store (j := k) e3 (.int .i64 v)
    have hu : Upd l h' w (w.setCell ⟨gR, k, none⟩ (.int .i64 v)) := by
      refine (Upd.refl _ _ _).setCell ?_ ?_ _
      · obtain ⟨_, _, h2, _⟩ := OwnC.blkEx e3
        exact h2
      · exact e3.lt ⟨gR, 0, none⟩ rfl
    have hcat : (c.set k v).length = c.length := by simp
    have hm := (e4 _ (c.set k v) hcat hu (by rw [← List.map_set] at hst; exact hst.1)).1
    dsimp only
    rw [List.length_set]
    obtain ⟨cs2, m1, m2⟩ := hm.ex
    obtain rfl : cs2 = cs := m1.uniq (hc1.farT hblk (by decide) k (.int .i64 v))
    refine ⟨cs2, m1.mono (Nat.le_refl _) (by simp), m2.mono (Nat.le_refl _) (by simp), fun q cz hz => ⟨?_, (hcz q cz hz).2⟩⟩
    refine (hcz q cz hz).1.far (p := ⟨gR, k, none⟩) ?_ _
    show q ≠ gR
    rintro rfl
    exact (hcz q cz hz).2 _ (List.getElem_mem _) (by rw [hcs]; rfl)
/-- Another list of sizes is put in a stitch's place. -/
theorem IHd.setRow (h : IHd z lo g d car vk w s) {i : Nat} (hi : i < s.cells.length) {A' : Option Addr} {c' : Nat} {xs : List Int} (hb : Below w.heap.size w w1) (ho : OwnI w1 w.heap.size w1.heap.size A' c' xs) :
    ∃ gC cC, w.cell? ⟨g, 3, none⟩ = some (.slice (some ⟨gC, 0, none⟩) s.cells.length cC) ∧ (∃ v, w1.cell? ⟨gC, i, none⟩ = some v) ∧ w1.frozen? ⟨gC, i, none⟩ = false ∧
      IHd z lo g d car vk (w1.setCell ⟨gC, i, none⟩ (.slice A' xs.length c')) ⟨s.evs, s.cells.set i xs⟩ ∧ Below lo w (w1.setCell ⟨gC, i, none⟩ (.slice A' xs.length c')) := by
  have hlz := h.lt
  obtain ⟨⟨AE, cE, AC, cC, hk, hev, hc⟩, hlo⟩ := h
  have hz0 : ∀ q cz, z = some (q, cz) → q < w.heap.size := fun q cz hz => by obtain ⟨_, _, _, h3⟩ := hc.ex; exact (h3 q cz hz).1.lt
  have hk1 := hk.below hb hk.lt
  have hev1 := (OwnC.below hev hb (Nat.le_refl _))
  obtain ⟨cs, hc1, hc2, hcz⟩ := (hc.below hb (Nat.le_refl _)).ex
  have hlen := hc2.1
  obtain ⟨gC, rfl, hgC1, hgC2, hcell, hfr⟩ := hc1.cell (j := i) (by omega)
  obtain ⟨cur, hblk, _, _⟩ := hc1.blkEx
  have hne : g ≠ gC := hk1.ne hblk (by decide)
  have hset := hc2.set (k := i) ho (Nat.le_refl _) hb.size hlz hi
  have hst := OwnC.store (j := i) hc1 (.slice A' xs.length c')
  refine ⟨gC, cC, hk.c5.2.2.2.1, ⟨_, hcell⟩, hfr, ⟨⟨AE, cE, some ⟨gC, 0, none⟩, cC, ?_, ?_, ?_⟩, hlo⟩, (hb.mono hlz).setCell hgC1 _⟩
  · dsimp only
    rw [List.length_set]
    exact hk1.far (p := ⟨gC, i, none⟩) hne _
  · exact (OwnC.farT hev1 hblk (by decide) i _).mono (Nat.le_refl _) (by have := hb.size; simp; omega)
  · dsimp only
    rw [List.length_set]
    refine ⟨cs.set i (.slice A' xs.length c'), hst.1.mono (Nat.le_refl _) (by have := hb.size; simp; omega), (hset.farT hblk (by decide) i _).mono (Nat.le_refl _) (by simp), fun q cz hz => ⟨(hcz q cz hz).1.far (p := ⟨gC, i, none⟩) ((hcz q cz hz).1.ne hblk (by decide)) _, fun v hv e => ?_⟩⟩
    rcases List.mem_or_eq_of_mem_set hv with hv | rfl
    · exact (hcz q cz hz).2 v hv e
    · have h1 := ho.own.lt q e
      have h2 := hz0 q cz hz
      omega
/-- The block apart is written anew. -/
theorem IHd.reset {q : Nat} {cur cur' : Array Value} (h : IHd (some (q, cur)) lo g d car vk w s) : IHd (some (q, cur')) lo g d car vk (w.setRow q cur') s := by
  obtain ⟨⟨AE, cE, AC, cC, hb, ho, hc⟩, hlo⟩ := h
  obtain ⟨cs, hc1, hc2, hcz⟩ := hc.ex
  obtain ⟨hq, hoff⟩ := hcz q cur rfl
  have hsz : (w.setRow q cur').heap.size = w.heap.size := by simp [World.setRow]
  have kp : ∀ {k : Nat} {t : TypeId} {cs : Array Value}, Blk w k t cs → t ≠ 2 → Blk (w.setRow q cur') k t cs := fun {k t cs} hk ht => (setRow_other w q k cur' (hk.ne hq ht)).trans hk
  have kpo : ∀ {e : TypeId} {sz lo hi n c : Nat} {A : Option Addr} {cs : List Value}, OwnC w lo hi e sz A n c cs → e ≠ 2 → OwnC (w.setRow q cur') lo hi e sz A n c cs := fun {e sz lo hi n c A cs} hk ht => hk.keepT fun k cur2 _ _ hkk => (kp hkk ht).trans hkk.symm
  refine ⟨⟨AE, cE, AC, cC, kp hb (by decide), ?_, ?_⟩, hlo⟩
  · rw [hsz]; exact kpo ho (by decide)
  · rw [hsz]
    refine ⟨cs, kpo hc1 (by decide), ⟨hc2.1, fun j xs hj => ?_, hc2.2.2⟩, fun q' cz hz => ?_⟩
    · obtain ⟨A', c', e1, e2⟩ := hc2.2.1 j xs hj
      refine ⟨A', c', e1, OwnC.keep1 e2 fun g2 hg2 => setRow_other w q g2 cur' ?_⟩
      rintro rfl
      subst hg2
      exact hoff _ (List.mem_of_getElem? e1) rfl
    · injection hz with hz
      injection hz with hz1 hz2
      subst hz1 hz2
      exact ⟨setRow_heap w q cur cur' _ _ hq, hoff⟩
end
theorem OwnC.reset {w : World} {lo hi n c q : Nat} {e : TypeId} {cs cs' : List Value} (h : OwnC w lo hi e 1 (some ⟨q, 0, none⟩) n c cs) {cur : Array Value} (hb : Blk w q e cur) (hl : cs'.length = n) :
    OwnC (w.setRow q (cur.toList.take 0 ++ (cs' ++ cur.toList.drop (0 + cs'.length))).toArray) lo hi e 1 (some ⟨q, 0, none⟩) n c cs' := by
  rcases h.form with ⟨h1, _⟩ | ⟨q', cur2, h1, h2, h3, h4, h5, h6, h7, h8⟩
  · cases h1
  · injection h1 with h1
    injection h1 with h1
    subst h1
    have e1 : cur2 = cur := by
      have := h4.symm.trans hb
      injection this with this
      injection this
    subst e1
    refine ⟨⟨by omega, .inr ⟨q, c, _, rfl, h2, setRow_heap w q cur2 _ _ _ hb, h5, h6, ?_, ?_⟩⟩, fun a ha => by injection ha with ha; subst ha; exact h3⟩
    · simp only [List.size_toArray, List.length_append, List.length_take, List.length_drop, Array.length_toList]
      omega
    · simp only [List.take_zero, List.nil_append, Nat.mul_one]
      rw [← hl, List.take_left]

end Go.Proofs.YthjamohaeahipaaGreat
