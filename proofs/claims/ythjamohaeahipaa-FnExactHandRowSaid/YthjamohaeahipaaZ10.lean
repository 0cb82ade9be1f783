/- Steps of the proof, joined from several texts: HB HC. -/
import Derived.Test.YthjamohaeahipaaZ8
import Derived.Test.YthjamohaeahipaaZ5
import Derived.Test.YthjamohaeahipaaZ9
import Derived.Deep.DeepCutAuto
import Derived.Test.YthjamohaeahipaaZ3
import Derived.Deep.QuietTactic
import Derived.BigQuiet

/- Knitting by hand: the hand of the given side in memory; before, add. -/
namespace Go.Proofs.Ythjamohaeahipaa
open Go Go.RowKit

/-- A block of numbers apart from these slices stays what it is. -/
def OffZ (z : Option (Nat × Array Value)) (w : World) (cs : List Value) : Prop :=
  ∀ q cur, z = some (q, cur) → Blk w q 2 cur ∧ ∀ v ∈ cs, v.ownBlock ≠ some q
theorem OffZ.step {z : Option (Nat × Array Value)} {w w' : World} {cs : List Value} (h : OffZ z w cs) (hk : ∀ q cur, Blk w q 2 cur → Blk w' q 2 cur) : OffZ z w' cs :=
  fun q cur hz => ⟨hk q cur (h q cur hz).1, (h q cur hz).2⟩
structure OwnIIz (z : Option (Nat × Array Value)) (w : World) (lo hi : Nat) (A : Option Addr) (n c : Nat) (xss : List (List Int)) : Prop where
  ex : ∃ cs, OwnC w lo hi 22 1 A n c cs ∧ CellsII w lo hi cs xss ∧ OffZ z w cs
section
variable {z : Option (Nat × Array Value)} {w w' : World} {lo hi n : Nat} {A : Option Addr} {c : Nat} {xss : List (List Int)}
theorem OwnIIz.two (h : OwnIIz z w lo hi A n c xss) : OwnII w lo hi A n c xss := by
  obtain ⟨cs, h1, h2, _⟩ := h.ex
  exact ⟨cs, h1, h2⟩
theorem OwnIIz.ints2 (h : OwnIIz z w lo hi A n c xss) : Ints2 w A xss := h.two.ints2
theorem OwnIIz.below (h : OwnIIz z w lo hi A n c xss) (hb : Below w.heap.size w w') (hB : hi ≤ w.heap.size) : OwnIIz z w' lo hi A n c xss := by
  obtain ⟨cs, h1, h2, h3⟩ := h.ex
  exact ⟨cs, h1.below hb hB, h2.keep fun k _ h2 _ => hb.block k (by omega), h3.step fun q cur hq => hq.below hb hq.lt⟩
theorem OwnIIz.mono {lo' hi' : Nat} (h : OwnIIz z w lo hi A n c xss) (h1 : lo' ≤ lo) (h2 : hi ≤ hi') : OwnIIz z w lo' hi' A n c xss := by
  obtain ⟨cs, h3, h4, h5⟩ := h.ex
  exact ⟨cs, h3.mono h1 h2, h4.mono h1 h2, h5⟩
theorem OwnIIz.farT {g : Nat} {t : TypeId} {bs : Array Value} (h : OwnIIz z w lo hi A n c xss) (hb : Blk w g t bs) (t1 : t ≠ 2) (t2 : t ≠ 22) (j : Nat) (u : Value) : OwnIIz z (w.setCell ⟨g, j, none⟩ u) lo hi A n c xss := by
  obtain ⟨cs, h1, h2, h3⟩ := h.ex
  refine ⟨cs, h1.farT hb t2 j u, h2.farT hb t1 j u, h3.step fun q cur hq => hq.far (p := ⟨g, j, none⟩) ?_ u⟩
  show q ≠ g
  rintro rfl
  have := hq.symm.trans hb
  injection this with this
  injection this with _ this
  exact t1 this.symm
theorem OwnIIz.none (h : OwnII w lo hi A n c xss) : OwnIIz none w lo hi A n c xss := by
  obtain ⟨cs, h1, h2⟩ := h.ex
  exact ⟨cs, h1, h2, fun q cur hz => by cases hz⟩
end
structure SHd (z : Option (Nat × Array Value)) (lo g : Nat) (w : World) (s : HS) : Prop where
  ex : ∃ AE cE AC cC, Blk w g 56 #[.slice AE s.evs.length cE, .slice AC s.cells.length cC] ∧ OwnEvent w lo w.heap.size AE cE s.evs ∧ OwnIIz z w lo w.heap.size AC s.cells.length cC s.cells
  hlo : lo ≤ g
theorem SHd.below {z : Option (Nat × Array Value)} {lo g : Nat} {w w' : World} {s : HS} (h : SHd z lo g w s) (hb : Below w.heap.size w w') : SHd z lo g w' s := by
  obtain ⟨⟨AE, cE, AC, cC, hk, ho, hc⟩, hlo⟩ := h
  exact ⟨⟨AE, cE, AC, cC, hk.below hb hk.lt, (OwnC.below ho hb (Nat.le_refl _)).mono (Nat.le_refl _) hb.size, (hc.below hb (Nat.le_refl _)).mono (Nat.le_refl _) hb.size⟩, hlo⟩
theorem SHd.drewN {z : Option (Nat × Array Value)} {lo g : Nat} {w : World} {s : HS} (h : SHd z lo g w s) (n : Nat) : SHd z lo g (w.drewN n) s := h.below (below_drewN (Below.refl _ _) n)
theorem SHd.lt {z : Option (Nat × Array Value)} {lo g : Nat} {w : World} {s : HS} (h : SHd z lo g w s) : lo ≤ w.heap.size := by
  obtain ⟨⟨AE, cE, AC, cC, hk, _⟩, hlo⟩ := h
  have := hk.lt
  omega
/-- How the stitches' columns are read. -/
theorem SHd.read {z : Option (Nat × Array Value)} {lo g : Nat} {w : World} {s : HS} (h : SHd z lo g w s) : ∃ AC cC, w.cell? ⟨g, 1, none⟩ = some (.slice AC s.cells.length cC) ∧ Ints2 w AC s.cells := by
  obtain ⟨⟨AE, cE, AC, cC, hk, _, hc⟩, _⟩ := h
  exact ⟨AC, cC, hk.c2.2, hc.ints2⟩
theorem SHd.apart {q : Nat} {cur : Array Value} {lo g : Nat} {w : World} {s : HS} (h : SHd (some (q, cur)) lo g w s) : Blk w q 2 cur := by
  obtain ⟨⟨AE, cE, AC, cC, hk, _, hc⟩, _⟩ := h
  obtain ⟨cs, _, _, h3⟩ := hc.ex
  exact (h3 q cur rfl).1
/-- A block made behind the hand is apart from it. -/
theorem SHd.seal_ {lo g : Nat} {w w' : World} {s : HS} (h : SHd none lo g w s) (hb : Below w.heap.size w w') {q : Nat} {cur : Array Value} (hq : w.heap.size ≤ q) (hk : Blk w' q 2 cur) : SHd (some (q, cur)) lo g w' s := by
  obtain ⟨⟨AE, cE, AC, cC, hkg, ho, hc⟩, hlo⟩ := h
  obtain ⟨cs, h1, h2, _⟩ := hc.ex
  refine ⟨⟨AE, cE, AC, cC, hkg.below hb hkg.lt, (OwnC.below ho hb (Nat.le_refl _)).mono (Nat.le_refl _) hb.size, ⟨cs, (h1.below hb (Nat.le_refl _)).mono (Nat.le_refl _) hb.size, (h2.keep fun k _ h2 _ => hb.block k (by omega)).mono (Nat.le_refl _) hb.size, ?_⟩⟩, hlo⟩
  intro q' cur' hz
  injection hz with hz
  injection hz with hz1 hz2
  subst hz1 hz2
  refine ⟨hk, fun v hv e => ?_⟩
  obtain ⟨i, hi, rfl⟩ := List.mem_iff_getElem.1 hv
  have hil : i < s.cells.length := by rw [← h2.1]; exact hi
  obtain ⟨A', c', e1, e2⟩ := h2.2.1 i _ (List.getElem?_eq_getElem hil)
  rw [List.getElem?_eq_getElem hi] at e1
  injection e1 with e1
  rw [e1] at e
  have := e2.own.lt q e
  omega

set_option maxHeartbeats 1000000 in
theorem spec_before {z : Option (Nat × Array Value)} {lo g m : Nat} {s : HS} {S : Int} {w : World} (h : SHd z lo g w s) (hG : GoodC m s.cells S) (hS : S ≤ 1000) (hm : m ≤ 16) (k : Nat) (hk : k ≤ m) :
    Calls Try.prog 37 #[.pointer (some ⟨g, 0, none⟩), .int .i64 (k : Int)] w fun e w' => e = .returned (.int .i64 (tot (s.cells.take k))) ∧ w = w' := by
  obtain ⟨AC, cC, p1, hi2⟩ := h.read
  have HL := Lib.hid hG.len
  have HG := Lib.hid hG
  clear hG h
  generalize s.cells = cs at *
  go_enter Try.func37, Try.ntmps37
  go_wp2_with (fail)
  go_loopw [5, 6] (fun nv kv wr => ∃ j : Nat, j ≤ k ∧ kv = .int .i64 j ∧ nv = .int .i64 (tot (cs.take j)) ∧ w = wr) (fun _ kv _ => k - (intOf kv).toNat)
  case atStart => exact ⟨0, Nat.zero_le _, rfl, by simp [tot], rfl⟩
  case round =>
    obtain ⟨j, hj, rfl, rfl, rfl⟩ := hrel
    by_cases hjk : j < k
    · have hjl : j < cs.length := by rw [HL.out]; omega
      obtain ⟨b, off, A', c', c, rfl, hx, hc, hi, hl⟩ := hi2 j hjl
      obtain ⟨hnn, h4, hle, h0⟩ := HG.out.at_ hx
      have hT := HG.out.take j
      have HS1 := Lib.hid (sum64_sumI hnn (by omega))
      have HSN := Lib.hid (tot_snoc hx)
      clear hx hnn
      have dk : decide ((j : Int) < (k : Int)) = true := decide_eq_true (by omega)
      have j1 : (0 : Int) ≤ (j : Int) := by omega
      have j2 : (j : Int) < (cs.length : Int) := by omega
      have hw : IntKind.i64.wrap (tot (cs.take j) + sumI c) = tot (cs.take j) + sumI c := IntWalk.i64_in _ ⟨by omega, by omega⟩
      go_wp2_with (fail)
      refine (spec_l17Sum A' c' c w hi hl).mono ?_; rintro e _ ⟨rfl, rfl⟩
      rw [HS1.out]
      go_wp2_with (fail)
      exact ⟨⟨j + 1, by omega, by go_num, by rw [HSN.out], by first | rfl | trivial⟩, by first | (simp [intOf]; done) | (simp [intOf]; omega)⟩
    · obtain rfl : j = k := by omega
      have dk : decide ((j : Int) < (j : Int)) = false := decide_eq_false (by omega)
      go_wp2_with (fail)
      go_ret
      exact ⟨rfl, rfl⟩

set_option maxHeartbeats 2000000 in
set_option maxRecDepth 10000 in
theorem spec_addS {z : Option (Nat × Array Value)} {lo g : Nat} {s : HS} {w : World} (h : SHd z lo g w s) {gr : Nat} {d car : Int} {vk : Value} (kind place count bed : Int) (hr : Blk w gr 29 #[.int .i64 d, .int .i64 car, vk]) (hgr : gr < lo) (hl : s.evs.length ≤ 100000) :
    Calls Try.prog 58 #[.pointer (some ⟨g, 0, none⟩), .pointer (some ⟨gr, 0, none⟩), .int .i64 kind, .int .i64 place, .int .i64 count, .int .i64 bed] w fun e w' =>
      e = .returned (.tuple #[]) ∧ SHd z lo g w' ⟨s.evs ++ [evYarn d car kind place count bed], s.cells⟩ ∧ Below lo w w' ∧ Hid ((∀ v, w.cell? ⟨g, 1, none⟩ = some v → w'.cell? ⟨g, 1, none⟩ = some v) ∧
        ∀ (k : Nat) (e : TypeId) (cur : Array Value), e ≠ 49 → e ≠ 56 → Blk w k e cur → Blk w' k e cur) := by
  obtain ⟨iE, hi0, hz0, hz1, hz2⟩ := info_parts info_Event
  have t2 : (56 : TypeId) ≠ 49 := by decide
  have t3 : (56 : TypeId) ≠ 2 := by decide
  have t4 : (56 : TypeId) ≠ 22 := by decide
  have hlz0 := h.lt
  obtain ⟨⟨AE, cE, AC, cC, hk, ho, hc⟩, hlo⟩ := h
  obtain ⟨evs, cells⟩ := s
  obtain ⟨p0, p1⟩ := hk.c2
  obtain ⟨r0, r1, _⟩ := hr.c3
  dsimp only at *
  go_enter Try.func58, Try.ntmps58
  go_upto_region 0 with fail
  (refine wp_region_pops 3 (S := (fun W' => W'.cell? ⟨g, 0, none⟩ = some (.slice AE evs.length cE) ∧ W'.cell? ⟨gr, 0, none⟩ = some (.int .i64 d) ∧ W'.cell? ⟨gr, 1, none⟩ = some (.int .i64 car))) (pre := ?_) (T := ?_) (n := ?_) (by kernel_rfl) (by kernel_rfl) ?_ ?_ ?_ ?_ (fun hHeld => ?_); rotate_left 3; (focus (simp only [pops, List.pop_toArray, List.dropLast_cons_cons, List.dropLast_singleton]; rfl)); (focus (simp only [tailOf, List.pop_toArray, List.dropLast_cons_cons, List.dropLast_singleton, List.back?_toArray, List.getLast?_cons_cons, List.getLast?_singleton, Option.toList_some, List.nil_append, List.cons_append]; rfl)); (focus rfl); (focus (exact ⟨p0, r0, r1⟩)))
  ((refine wpAnyH_take (i := 0) (v := ?_) rfl (by kernel_rfl) (by kernel_rfl) (by kernel_rfl) (fun _ _ _ h => h) (Or.inl ⟨by rfl, ?_⟩) (by assumption) ?_; rotate_left; (focus (intro W hSw; (try dsimp only at hSw); go_simp; try (with_reducible rfl)))); (try simp only [List.getElem_toArray, List.getElem_cons_zero, Act.put, List.setIfInBounds_toArray, List.set_cons_zero, List.set_cons_succ]); (refine wpAnyH_take (i := 1) (v := ?_) rfl (by kernel_rfl) (by kernel_rfl) (by kernel_rfl) (fun _ _ _ h => h) (Or.inl ⟨by rfl, ?_⟩) (by assumption) ?_; rotate_left; (focus (intro W hSw; (try dsimp only at hSw); go_simp; try (with_reducible rfl)))); (try simp only [List.getElem_toArray, List.getElem_cons_zero, List.getElem_cons_succ, Act.put, List.setIfInBounds_toArray, List.set_cons_zero, List.set_cons_succ]); (refine wpAnyH_take (i := 2) (v := ?_) rfl (by kernel_rfl) (by kernel_rfl) (by kernel_rfl) (fun _ _ _ h => h) (Or.inl ⟨by rfl, ?_⟩) (by assumption) ?_; rotate_left; (focus (intro W hSw; (try dsimp only at hSw); go_simp; try (with_reducible rfl)))); (try simp only [List.getElem_toArray, List.getElem_cons_zero, List.getElem_cons_succ, Act.put, List.setIfInBounds_toArray, List.set_cons_zero, List.set_cons_succ]); (refine wpAnyH_take (i := 3) (v := ?_) rfl (by kernel_rfl) (by kernel_rfl) (by kernel_rfl) (fun _ _ _ h => h) (Or.inl ⟨by rfl, ?_⟩) (by assumption) ?_; rotate_left; (focus (intro W hSw; (try dsimp only at hSw); go_simp; try (with_reducible rfl)))); (try simp only [List.getElem_toArray, List.getElem_cons_zero, List.getElem_cons_succ, Act.put, List.setIfInBounds_toArray, List.set_cons_zero, List.set_cons_succ]); (refine wpAnyH_take (i := 4) (v := ?_) rfl (by kernel_rfl) (by kernel_rfl) (by kernel_rfl) (fun _ _ _ h => h) (Or.inl ⟨by rfl, ?_⟩) (by assumption) ?_; rotate_left; (focus (intro W hSw; (try dsimp only at hSw); go_simp; try (with_reducible rfl)))); (try simp only [List.getElem_toArray, List.getElem_cons_zero, List.getElem_cons_succ, Act.put, List.setIfInBounds_toArray, List.set_cons_zero, List.set_cons_succ]); (refine wpAnyH_take (i := 5) (v := ?_) rfl (by kernel_rfl) (by kernel_rfl) (by kernel_rfl) (fun _ _ _ h => h) (Or.inl ⟨by rfl, ?_⟩) (by assumption) ?_; rotate_left; (focus (intro W hSw; (try dsimp only at hSw); go_simp; try (with_reducible rfl)))); (try simp only [List.getElem_toArray, List.getElem_cons_zero, List.getElem_cons_succ, Act.put, List.setIfInBounds_toArray, List.set_cons_zero, List.set_cons_succ]); (refine wpAnyH_take (i := 6) (v := ?_) rfl (by kernel_rfl) (by kernel_rfl) (by kernel_rfl) (fun _ _ _ h => h) (Or.inl ⟨by rfl, ?_⟩) (by assumption) ?_; rotate_left; (focus (intro W hSw; (try dsimp only at hSw); go_simp; try (with_reducible rfl)))); (try simp only [List.getElem_toArray, List.getElem_cons_zero, List.getElem_cons_succ, Act.put, List.setIfInBounds_toArray, List.set_cons_zero, List.set_cons_succ]); (refine wpAnyH_take (i := 7) (v := ?_) rfl (by kernel_rfl) (by kernel_rfl) (by kernel_rfl) (fun _ _ _ h => h) (Or.inl ⟨by rfl, ?_⟩) (by assumption) ?_; rotate_left; (focus (intro W hSw; (try dsimp only at hSw); go_simp; try (with_reducible rfl)))); (try simp only [List.getElem_toArray, List.getElem_cons_zero, List.getElem_cons_succ, Act.put, List.setIfInBounds_toArray, List.set_cons_zero, List.set_cons_succ]); (refine wpAnyH_take (i := 8) (v := ?_) rfl (by kernel_rfl) (by kernel_rfl) (by kernel_rfl) (fun _ _ _ h => h) (Or.inl ⟨by rfl, ?_⟩) (by assumption) ?_; rotate_left; (focus (intro W hSw; (try dsimp only at hSw); go_simp; try (with_reducible rfl)))); (try simp only [List.getElem_toArray, List.getElem_cons_zero, List.getElem_cons_succ, Act.put, List.setIfInBounds_toArray, List.set_cons_zero, List.set_cons_succ]); (refine wpAnyH_take (i := 9) (v := ?_) rfl (by kernel_rfl) (by kernel_rfl) (by kernel_rfl) (fun _ _ _ h => h) (Or.inl ⟨by rfl, ?_⟩) (by assumption) ?_; rotate_left; (focus (intro W hSw; (try dsimp only at hSw); go_simp; try (with_reducible rfl)))); (try simp only [List.getElem_toArray, List.getElem_cons_zero, List.getElem_cons_succ, Act.put, List.setIfInBounds_toArray, List.set_cons_zero, List.set_cons_succ]); (refine wpAnyH_take (i := 10) (v := ?_) rfl (by kernel_rfl) (by kernel_rfl) (by kernel_rfl) (fun _ _ _ h => h) (Or.inl ⟨by rfl, ?_⟩) (by assumption) ?_; rotate_left; (focus (intro W hSw; (try dsimp only at hSw); go_simp; try (with_reducible rfl)))); (try simp only [List.getElem_toArray, List.getElem_cons_zero, List.getElem_cons_succ, Act.put, List.setIfInBounds_toArray, List.set_cons_zero, List.set_cons_succ]); (refine wpAnyH_take (i := 11) (v := ?_) rfl (by kernel_rfl) (by kernel_rfl) (by kernel_rfl) (fun _ _ _ h => h) (Or.inl ⟨by rfl, ?_⟩) (by assumption) ?_; rotate_left; (focus (intro W hSw; (try dsimp only at hSw); go_simp; try (with_reducible rfl)))); (try simp only [List.getElem_toArray, List.getElem_cons_zero, List.getElem_cons_succ, Act.put, List.setIfInBounds_toArray, List.set_cons_zero, List.set_cons_succ]); (refine wpAnyH_take (i := 12) (v := ?_) rfl (by kernel_rfl) (by kernel_rfl) (by kernel_rfl) (fun _ _ _ h => h) (Or.inl ⟨by rfl, ?_⟩) (by assumption) ?_; rotate_left; (focus (intro W hSw; (try dsimp only at hSw); go_simp; try (with_reducible rfl)))); (try simp only [List.getElem_toArray, List.getElem_cons_zero, List.getElem_cons_succ, Act.put, List.setIfInBounds_toArray, List.set_cons_zero, List.set_cons_succ]); (refine wpAnyH_take (i := 13) (v := ?_) rfl (by kernel_rfl) (by kernel_rfl) (by kernel_rfl) (fun _ _ _ h => h) (Or.inl ⟨by rfl, ?_⟩) (by assumption) ?_; rotate_left; (focus (intro W hSw; (try dsimp only at hSw); go_simp; try (with_reducible rfl)))); (try simp only [List.getElem_toArray, List.getElem_cons_zero, List.getElem_cons_succ, Act.put, List.setIfInBounds_toArray, List.set_cons_zero, List.set_cons_succ]); (refine wpAnyH_take (i := 14) (v := ?_) rfl (by kernel_rfl) (by kernel_rfl) (by kernel_rfl) (fun _ _ _ h => h) (Or.inl ⟨by rfl, ?_⟩) (by assumption) ?_; rotate_left; (focus (intro W hSw; (try dsimp only at hSw); go_simp; try (with_reducible rfl)))); (try simp only [List.getElem_toArray, List.getElem_cons_zero, List.getElem_cons_succ, Act.put, List.setIfInBounds_toArray, List.set_cons_zero, List.set_cons_succ]); (refine wpAnyH_take (i := 15) (v := ?_) rfl (by kernel_rfl) (by kernel_rfl) (by kernel_rfl) (fun _ _ _ h => h) (Or.inl ⟨by rfl, ?_⟩) (by assumption) ?_; rotate_left; (focus (intro W hSw; (try dsimp only at hSw); go_simp; try (with_reducible rfl)))); (try simp only [List.getElem_toArray, List.getElem_cons_zero, List.getElem_cons_succ, Act.put, List.setIfInBounds_toArray, List.set_cons_zero, List.set_cons_succ]); (refine wpAnyH_take (i := 16) (v := ?_) rfl (by kernel_rfl) (by kernel_rfl) (by kernel_rfl) (fun _ _ _ h => h) (Or.inl ⟨by rfl, ?_⟩) (by assumption) ?_; rotate_left; (focus (intro W hSw; (try dsimp only at hSw); go_simp; try (with_reducible rfl)))); (try simp only [List.getElem_toArray, List.getElem_cons_zero, List.getElem_cons_succ, Act.put, List.setIfInBounds_toArray, List.set_cons_zero, List.set_cons_succ]); (refine wpAnyH_take (i := 17) (v := ?_) rfl (by kernel_rfl) (by kernel_rfl) (by kernel_rfl) (fun _ _ _ h => h) (Or.inl ⟨by rfl, ?_⟩) (by assumption) ?_; rotate_left; (focus (intro W hSw; (try dsimp only at hSw); go_simp; try (with_reducible rfl)))); (try simp only [List.getElem_toArray, List.getElem_cons_zero, List.getElem_cons_succ, Act.put, List.setIfInBounds_toArray, List.set_cons_zero, List.set_cons_succ]))
  (refine wpAnyH_ready (rs := [18]) (by kernel_rfl) (by simp) ?_; refine AllReadyH.cons rfl (fun K hK => ?_) AllReadyH.nil)
  go_simp
  have r0a := cell_alloc r0 (.cells #[.int .i64 kind, .int .i64 place, .int .i64 count, .int .i64 bed, .int .i64 car, .int .i64 d] 49)
  have r1a := cell_alloc r1 (.cells #[.int .i64 kind, .int .i64 place, .int .i64 count, .int .i64 bed, .int .i64 car, .int .i64 d] 49)
  refine hK.out _ _ ⟨(hk.drew1.alloc _).c2.1, r0a, r1a⟩ (fun hHeld => ?_)
  clear hK K
  (try simp only [List.getElem_toArray, List.getElem_cons_zero, List.getElem_cons_succ, Act.put, List.setIfInBounds_toArray, List.set_cons_zero, List.set_cons_succ])
  have hlz : lo ≤ ((World.drew w).alloc (.cells #[.int .i64 kind, .int .i64 place, .int .i64 count, .int .i64 bed, .int .i64 car, .int .i64 d] 49)).heap.size := by have e : (World.drew w).heap.size = w.heap.size := rfl; rw [World.size_alloc, e]; omega
  have olit := OwnC.news (OwnC.lit (w := World.drew w) (lo := lo) (n := 1) 49 6 #[.int .i64 kind, .int .i64 place, .int .i64 count, .int .i64 bed, .int .i64 car, .int .i64 d] (by have e : (World.drew w).heap.size = w.heap.size := rfl; omega) (by decide) rfl)
  (refine wpAnyH_ready (rs := [19]) (by kernel_rfl) (by simp) ?_; refine AllReadyH.cons rfl (fun K hK => ?_) AllReadyH.nil)
  refine wp_appendC_at ((World.drew w).alloc (.cells #[.int .i64 kind, .int .i64 place, .int .i64 count, .int .i64 bed, .int .i64 car, .int .i64 d] 49)) (.tmp 16) (.tmp 30) _ rfl 49 iE _ 6 48 Try.underlying26 hi0 hz0 hz1 hz2 rfl (by decide) (by simp [Act.eval]) ((OwnC.drew1 ho).alloc _) hlz (some ⟨w.heap.size, 0, none⟩) 1 1 [.int .i64 kind, .int .i64 place, .int .i64 count, .int .i64 bed, .int .i64 car, .int .i64 d] (by simp [Act.eval]) (by simp) olit (by simp [Value.oneCell']) (by unfold maxLen; omega) (by omega) ?_
  intro A9 c9 w8 ho8 hg8 hb8 _
  have hk8 := (hk.drew1.alloc (.cells #[.int .i64 kind, .int .i64 place, .int .i64 count, .int .i64 bed, .int .i64 car, .int .i64 d] 49)).grownT ((OwnC.drew1 ho).alloc (.cells #[.int .i64 kind, .int .i64 place, .int .i64 count, .int .i64 bed, .int .i64 car, .int .i64 d] 49)) t2 hg8
  have hr8 := Blk.below (hr.drew1.alloc (.cells #[.int .i64 kind, .int .i64 place, .int .i64 count, .int .i64 bed, .int .i64 car, .int .i64 d] 49)) hb8 hgr
  have hc8 : OwnIIz z w8 lo w.heap.size AC cells.length cC cells := by
    obtain ⟨cs, h1, h2, h3⟩ := hc.ex
    have h2' : CellsII ((World.drew w).alloc (.cells #[.int .i64 kind, .int .i64 place, .int .i64 count, .int .i64 bed, .int .i64 car, .int .i64 d] 49)) lo w.heap.size cs cells := h2.keep fun k _ _ h4 => Below.heap_alloc (World.drew w) _ k h4
    exact ⟨cs, ((OwnC.drew1 h1).alloc _).grownT ((OwnC.drew1 ho).alloc _) (by decide) hg8, h2'.grownT ((OwnC.drew1 ho).alloc _) (by decide) hg8, h3.step fun q cur hq => (hq.drew1.alloc (.cells #[.int .i64 kind, .int .i64 place, .int .i64 count, .int .i64 bed, .int .i64 car, .int .i64 d] 49)).grownT ((OwnC.drew1 ho).alloc _) (by decide) hg8⟩
  refine hK.out _ _ ⟨hk8.c2.1, hr8.c3.1, hr8.c3.2.1⟩ (fun hHeld => ?_)
  clear hK K
  (try simp only [List.getElem_toArray, List.getElem_cons_zero, List.getElem_cons_succ, Act.put, List.setIfInBounds_toArray, List.set_cons_zero, List.set_cons_succ])
  (refine wpAnyH_done (by kernel_rfl) ?_ _; change wpList _ _ _ _ _ _)
  clear hHeld
  obtain ⟨v0, v1⟩ := hk8.c2
  have e2 := hk8.frozen 0
  have hcat : (evs ++ [evYarn d car kind place count bed]).length = evs.length + 1 := by simp
  have hRF : SHd z lo g (w8.setCell ⟨g, 0, none⟩ (.slice A9 (evs.length + 1) c9)) ⟨evs ++ [evYarn d car kind place count bed], cells⟩ := by
    refine ⟨⟨A9, c9, AC, cC, ?_, ?_, ?_⟩, hlo⟩
    · dsimp only; rw [hcat]; exact hk8.set20 _
    · dsimp only
      show OwnC _ _ _ _ _ _ _ _ _
      rw [hcat, cellsEvent_snoc]
      exact (OwnC.farT ho8 hk8 t2 0 _).mono (Nat.le_refl _) (by simp)
    · exact (OwnIIz.farT hc8 hk8 t3 t4 0 _).mono (Nat.le_refl _) (by have := hb8.size; simp at this ⊢; have e : (World.drew w).heap.size = w.heap.size := rfl; omega)
  have hB : Below lo w (w8.setCell ⟨g, 0, none⟩ (.slice A9 (evs.length + 1) c9)) := ((Below.alloc (Below.drew (Below.refl _ _)) hlz0 _).trans hb8).setCell hlo _
  have hX : (∀ v, w.cell? ⟨g, 1, none⟩ = some v → (w8.setCell ⟨g, 0, none⟩ (.slice A9 (evs.length + 1) c9)).cell? ⟨g, 1, none⟩ = some v) ∧
      ∀ (k : Nat) (e : TypeId) (cur : Array Value), e ≠ 49 → e ≠ 56 → Blk w k e cur → Blk (w8.setCell ⟨g, 0, none⟩ (.slice A9 (evs.length + 1) c9)) k e cur := by
    refine ⟨fun v hv => ?_, fun k e cur he1 he2 hb => ?_⟩
    · rw [p1] at hv
      rw [← hv]
      exact (hk8.set20 _).c2.2
    · have h1 := (hb.drew1.alloc (.cells #[.int .i64 kind, .int .i64 place, .int .i64 count, .int .i64 bed, .int .i64 car, .int .i64 d] 49)).grownT ((OwnC.drew1 ho).alloc _) he1 hg8
      refine h1.far (p := ⟨g, 0, none⟩) ?_ _
      show k ≠ g
      rintro rfl
      have := hk8.symm.trans h1
      injection this with this
      injection this with _ this
      exact he2 this.symm
  have HXX := Lib.hid hX; clear hX
  have HRF := Lib.hid hRF; clear hRF hcat
  have HB9 := Lib.hid hB; clear hB
  clear hc8 hr8 ho8 hg8 hb8
  go_wp2_with (fail)
  go_end0
  exact ⟨rfl, HRF.out, HB9.out, Lib.hid ⟨HXX.out.1 _ p1, HXX.out.2⟩⟩
theorem spec_add {z : Option (Nat × Array Value)} {lo g : Nat} {s : HS} {w : World} (h : SHd z lo g w s) {gr : Nat} {d car : Int} {vk : Value} (kind place count bed : Int) (hr : Blk w gr 29 #[.int .i64 d, .int .i64 car, vk]) (hgr : gr < lo) (hl : s.evs.length ≤ 100000) :
    Calls Try.prog 58 #[.pointer (some ⟨g, 0, none⟩), .pointer (some ⟨gr, 0, none⟩), .int .i64 kind, .int .i64 place, .int .i64 count, .int .i64 bed] w fun e w' =>
      e = .returned (.tuple #[]) ∧ SHd z lo g w' ⟨s.evs ++ [evYarn d car kind place count bed], s.cells⟩ ∧ Below lo w w' :=
  (spec_addS h kind place count bed hr hgr hl).mono fun _ _ ⟨h1, h2, h3, _⟩ => ⟨h1, h2, h3⟩

end Go.Proofs.Ythjamohaeahipaa

/- Knitting by hand: the given side's knit. -/
namespace Go.Proofs.Ythjamohaeahipaa
open Go Go.RowKit

theorem GoodC.lt {m : Nat} {cs : List (List Int)} {S : Int} (h : GoodC m cs S) {k : Nat} {c : List Int} (hc : cs[k]? = some c) : k < m := by rw [← h.len]; exact (List.getElem?_eq_some_iff.1 hc).1
theorem knitAt_lt {d : Int} {n t : Nat} (h : t < n) : knitAt d n t < n := by unfold knitAt; split <;> omega
theorem knitStep_good {m : Nat} {st : HS} {S : Int} (hG : GoodC m st.cells S) {i : Nat} {c : List Int} (hx : st.cells[i]? = some c) {d car bed : Int} {t : Nat} (ht : t < c.length) :
    knitStep d car bed i t st = knitTo d car bed i (knitAt d c.length t) c st ∧ (knitStep d car bed i t st).cells[i]? = some (c.set (knitAt d c.length t) 1) ∧ (∃ S', S' ≤ S + 1 ∧ GoodC m (knitStep d car bed i t st).cells S') ∧ (knitStep d car bed i t st).evs.length = st.evs.length + 1 := by
  have e : knitStep d car bed i t st = knitTo d car bed i (knitAt d c.length t) c st := by unfold knitStep; rw [hx]
  have hk := knitAt_lt (d := d) ht
  have hi := (List.getElem?_eq_some_iff.1 hx).1
  have hy : c[knitAt d c.length t]? = some c[knitAt d c.length t] := List.getElem?_eq_getElem hk
  obtain ⟨hnn, h4, _, _⟩ := hG.at_ hx
  have h1 := hnn.at_le hy
  refine ⟨e, ?_, ⟨S - sumI c + sumI (c.set (knitAt d c.length t) 1), ?_, ?_⟩, ?_⟩
  · rw [e]
    show (st.cells.set i _)[i]? = _
    rw [List.getElem?_set_self hi]
  · rw [sumI_set hy]; omega
  · rw [e]
    exact hG.set hx (hnn.set _ (by omega)) (by rw [List.length_set]; exact h4)
  · rw [e]; simp [knitTo]

theorem knitAt_p {n t : Nat} : knitAt 1 n t = t := by unfold knitAt; simp
theorem knitAt_n {d : Int} {n t k : Nat} (_hk : k = knitAt d n t) (ht : t < n) (hn : n ≤ 4) : d = -1 → IntKind.i64.wrap ((n : Int) - 1 - (t : Int)) = (k : Int) := by
  intro hd
  subst hd
  have e : k = n - 1 - t := by rw [_hk]; unfold knitAt; simp
  rw [IntWalk.i64_in _ ⟨by omega, by omega⟩]
  omega

theorem OwnC.uniq {w : World} {lo hi lo' hi' n c : Nat} {e e' : TypeId} {sz : Nat} {A : Option Addr} {cs cs' : List Value} (h : OwnC w lo hi e sz A n c cs) (h' : OwnC w lo' hi' e' sz A n c cs') : cs = cs' := by
  rcases h.form with ⟨h1, h2, h3, h4⟩ | ⟨g, cur, h1, _, _, h2, _, _, _, h3⟩
  · rcases h'.form with ⟨_, _, _, k4⟩ | ⟨g, cur, k1, _⟩
    · rw [h4, k4]
    · rw [h1] at k1; cases k1
  · rcases h'.form with ⟨k1, _⟩ | ⟨g', cur', k1, _, _, k2, _, _, _, k3⟩
    · rw [h1] at k1; cases k1
    · rw [h1] at k1
      injection k1 with k1
      injection k1 with k1
      subst k1
      rw [h2] at k2
      injection k2 with k2
      injection k2 with k2
      subst k2
      rw [← h3, ← k3]

/-- A store into one size of one stitch. -/
theorem SHd.setAt {z : Option (Nat × Array Value)} {lo g : Nat} {w : World} {s : HS} (h : SHd z lo g w s) {i k : Nat} {c : List Int} (hx : s.cells[i]? = some c) {x : Int} (hk : c[k]? = some x) :
    ∃ gC cC gR c', w.cell? ⟨g, 1, none⟩ = some (.slice (some ⟨gC, 0, none⟩) s.cells.length cC) ∧ w.cell? ⟨gC, i, none⟩ = some (.slice (some ⟨gR, 0, none⟩) c.length c') ∧ w.cell? ⟨gR, k, none⟩ = some (.int .i64 x) ∧ w.frozen? ⟨gR, k, none⟩ = false ∧
      Ints w (some ⟨gR, 0, none⟩) c ∧ c.length ≤ c' ∧ ∀ v : Int, SHd z lo g (w.setCell ⟨gR, k, none⟩ (.int .i64 v)) ⟨s.evs, s.cells.set i (c.set k v)⟩ ∧ Below lo w (w.setCell ⟨gR, k, none⟩ (.int .i64 v)) := by
  obtain ⟨⟨AE, cE, AC, cC, hb, ho, hc⟩, hlo⟩ := h
  have hkl : k < c.length := (List.getElem?_eq_some_iff.1 hk).1
  obtain ⟨cs, hc1, hc2, hcz⟩ := hc.ex
  obtain ⟨A', c', hcs, hrow⟩ := hc2.2.1 i c hx
  have hil : i < s.cells.length := (List.getElem?_eq_some_iff.1 hx).1
  obtain ⟨gC, rfl, hgC1, hgC2, hcell, _⟩ := hc1.cell (j := i) (by have := hc2.1; omega)
  rw [List.getElem?_eq_getElem (by have := hc2.1; omega)] at hcs
  injection hcs with hcs
  rw [hcs] at hcell
  obtain ⟨gR, rfl, hgR1, hgR2, hcR, hfR⟩ := hrow.cell (j := k) (by simpa using hkl)
  have hcR' : w.cell? ⟨gR, k, none⟩ = some (.int .i64 x) := by
    rw [hcR]
    rw [List.getElem?_eq_getElem hkl] at hk
    injection hk with hk
    simp [hk]
  have hblk : ∃ cur, Blk w gR 2 cur := by
    rcases hrow.form with ⟨h1, _⟩ | ⟨q, cur, h1, _, _, h2, _⟩
    · cases h1
    · injection h1 with h1
      injection h1 with h1
      subst h1
      exact ⟨cur, h2⟩
  obtain ⟨cur, hblk⟩ := hblk
  have hne : g ≠ gR := by
    rintro rfl
    have := hb.symm.trans hblk
    injection this with this
    injection this with _ this
    exact absurd this (by decide)
  refine ⟨gC, cC, gR, c', hb.c2.2, hcell, hcR', hfR, hrow.ints, hrow.cap, fun v => ⟨⟨⟨AE, cE, some ⟨gC, 0, none⟩, cC, ?_, ?_, ?_⟩, hlo⟩, (Below.refl _ _).setCell hgR1 _⟩⟩
  · simpa using hb.far (p := ⟨gR, k, none⟩) hne _
  · exact (OwnC.farT ho hblk (by decide) k _).mono (Nat.le_refl _) (by simp)
  · obtain ⟨g2, A2, c2, l, h', e1, e2, e3, _, e4⟩ := hc.two.open_ hx
    injection e1 with e1
    injection e1 with e1
    subst e1
    rw [hcell] at e2
    injection e2 with e2
    injection e2 with e2 _ e5
    subst e2 e5
    have hst := OwnC.store (j := k) e3 (.int .i64 v)
    have hu : Upd l h' w (w.setCell ⟨gR, k, none⟩ (.int .i64 v)) := by
      refine (Upd.refl _ _ _).setCell ?_ ?_ _
      · rcases e3.form with ⟨h1, _⟩ | ⟨q, _, h1, h2, _⟩
        · cases h1
        · injection h1 with h1
          injection h1 with h1
          subst h1
          exact h2
      · exact e3.lt ⟨gR, 0, none⟩ rfl
    have hcat : (c.set k v).length = c.length := by simp
    have hm := (e4 _ (c.set k v) hcat hu (by rw [← List.map_set] at hst; exact hst.1)).1
    dsimp only
    rw [List.length_set]
    obtain ⟨cs2, m1, m2⟩ := hm.ex
    obtain rfl : cs2 = cs := m1.uniq (hc1.farT hblk (by decide) k (.int .i64 v))
    refine ⟨cs2, m1.mono (Nat.le_refl _) (by simp), m2.mono (Nat.le_refl _) (by simp), fun q cz hz => ⟨?_, (hcz q cz hz).2⟩⟩
    refine (hcz q cz hz).1.far (p := ⟨gR, k, none⟩) ?_ _
    show q ≠ gR
    rintro rfl
    exact (hcz q cz hz).2 _ (List.getElem_mem _) (by rw [hcs]; rfl)

set_option maxHeartbeats 4000000 in
set_option maxRecDepth 10000 in
theorem spec_knit_p {z : Option (Nat × Array Value)} {lo g m : Nat} {s : HS} {S : Int} {w : World} (h : SHd z lo g w s) (hG : GoodC m s.cells S) (hS : S ≤ 100) (hm : m ≤ 16) {i : Nat} {c : List Int} (hx : s.cells[i]? = some c) {gr : Nat} {car : Int} {vk : Value} (bed : Int) (hr : Blk w gr 29 #[.int .i64 1, .int .i64 car, vk]) (hgr : gr < lo) (hl : s.evs.length ≤ 90000) :
    Calls Try.prog 57 #[.pointer (some ⟨g, 0, none⟩), .pointer (some ⟨gr, 0, none⟩), .int .i64 (i : Int), .int .i64 bed] w fun e w' =>
      e = .returned (.tuple #[]) ∧ SHd z lo g w' (knitN 1 car bed i c.length s) ∧ Below lo w w' := by
  have him := hG.lt hx
  obtain ⟨AC, cC, p1, hi2⟩ := h.read
  have hil : i < s.cells.length := by rw [hG.len]; exact him
  obtain ⟨b, off, A', c', c1, rfl, hx1, hc1, _, _⟩ := hi2 i hil
  obtain rfl : c = c1 := by rw [hx] at hx1; injection hx1
  obtain ⟨_, h4, _, _⟩ := hG.at_ hx
  have HCL := Lib.hid hG.len
  have j1 : (0 : Int) ≤ (i : Int) := by omega
  have j2 : (i : Int) < (s.cells.length : Int) := by omega
  clear hx1 hi2
  have H0 := Lib.hid h
  have HX := Lib.hid hx
  have HG := Lib.hid hG
  clear h hx hG hil
  obtain ⟨n, hn⟩ : ∃ n, n = c.length := ⟨_, rfl⟩
  rw [← hn] at h4 hc1 ⊢
  have HN := Lib.hid hn; clear hn
  go_enter Try.func57, Try.ntmps57
  go_wp2_with (fail)
  clear p1 hc1
  go_loopw [9] (fun tv wr => ∃ (t : Nat) (st : HS) (ct : List Int) (S' : Int), t ≤ n ∧ tv = .int .i64 t ∧ Hid (knitN 1 car bed i t s = st) ∧ SHd z lo g wr st ∧ Hid (st.cells[i]? = some ct) ∧ Hid (ct.length = n) ∧ Hid (GoodC m st.cells S') ∧ S' ≤ 100 + (t : Int) ∧ st.evs.length ≤ 90000 + t ∧ Below lo w wr) (fun tv _ => n - (intOf tv).toNat)
  case atStart => exact ⟨0, s, c, S, Nat.zero_le _, rfl, Lib.hid rfl, H0.out, HX, Lib.hid HN.out.symm, HG, by omega, by omega, Below.refl _ _⟩
  case round =>
    obtain ⟨t, st, ct, S', ht, rfl, HK, hst, HXt, HNt, HGt, hS', hev, hbr⟩ := hrel
    by_cases htn : t < n
    · have hgood := knitStep_good (d := 1) (car := car) (bed := bed) HGt.out HXt.out (t := t) (by rw [HNt.out]; exact htn)
      obtain ⟨k, hk⟩ : ∃ k, k = knitAt 1 n t := ⟨_, rfl⟩
      rw [HNt.out, knitAt_p] at hgood
      have hkn : t < n := htn
      have w2 := knitAt_n hk htn h4
      try simp only [true_implies, forall_const] at w2
      clear hk
      obtain ⟨g1, g2, ⟨S2, hS2, g3⟩, g4⟩ := hgood
      have HE := Lib.hid g1; have HX2 := Lib.hid g2; have HG2 := Lib.hid g3; have HL2 := Lib.hid g4
      clear g1 g2 g3 g4
      have hkc : t < ct.length := by rw [HNt.out]; exact hkn
      obtain ⟨x, hy⟩ : ∃ x, ct[t]? = some x := ⟨_, List.getElem?_eq_getElem hkc⟩
      obtain ⟨hnn, _, hle, h0⟩ := HGt.out.at_ HXt.out
      have hTp := HGt.out.take i
      have hPk := hnn.part t
      obtain ⟨gC, cC', gR, c3, q1, q2, q3, _, hrow, hcc, _⟩ := hst.setAt HXt.out hy
      have HXY : Hid (ct.getD t 0 = x) := Lib.hid (by rw [List.getD_eq_getElem?_getD, hy]; rfl)
      have HY := Lib.hid hy; clear hy
      have htl : (ct.take t).length = t := by rw [List.length_take]; omega
      have CB : Hid (∀ q, Calls Try.prog 37 #[.pointer (some ⟨g, 0, none⟩), .int .i64 (i : Int)] (wr.drewN q) fun e w' => e = .returned (.int .i64 (tot (st.cells.take i))) ∧ wr.drewN q = w') :=
        Lib.hid (fun q => spec_before (hst.drewN q) HGt.out (by omega) hm i (by omega))
      have CS : Hid (∀ q, Calls Try.prog 29 #[.slice (some ⟨gR, 0, none⟩) t c3] (wr.drewN q) fun e w' => e = .returned (.int .i64 (sumI (ct.take t))) ∧ wr.drewN q = w') :=
        Lib.hid (fun q => by
          have := spec_l17Sum (some ⟨gR, 0, none⟩) c3 (ct.take t) (wr.drewN q) (hrow.take t) (by omega)
          rw [htl, sum64_sumI (hnn.take t) (by omega)] at this
          exact this)
      have CA : Hid (∀ q place, Calls Try.prog 58 #[.pointer (some ⟨g, 0, none⟩), .pointer (some ⟨gr, 0, none⟩), .int .i64 2, .int .i64 place, .int .i64 x, .int .i64 bed] (wr.drewN q) fun e w' =>
          e = .returned (.tuple #[]) ∧ SHd z lo g w' ⟨st.evs ++ [evYarn 1 car 2 place x bed], st.cells⟩ ∧ Below lo (wr.drewN q) w') :=
        Lib.hid (fun q place => spec_add (hst.drewN q) 2 place x bed ((hr.below hbr hgr).drewN q) hgr (by omega))
      have rr := (hr.below hbr hgr).c3
      obtain ⟨r0, r1, _⟩ := rr
      have wT : IntKind.i64.wrap (tot (st.cells.take i) + sumI (ct.take t)) = tot (st.cells.take i) + sumI (ct.take t) := IntWalk.i64_in _ ⟨by omega, by omega⟩
      have w1 : IntKind.i64.wrap ((n : Int) - 1) = (n : Int) - 1 := IntWalk.i64_in _ ⟨by omega, by omega⟩
      have dk : decide ((t : Int) < (n : Int)) = true := decide_eq_true (by omega)
      have j3 : (0 : Int) ≤ (t : Int) := by omega
      have j4 : (t : Int) ≤ (c3 : Int) := by omega
      have j5 : (t : Int) < (n : Int) := by omega
      have hcl : st.cells.length = s.cells.length := by rw [HGt.out.len, HCL.out]
      rw [hcl] at q1
      rw [HNt.out] at q2
      have HCL2 := Lib.hid hcl
      clear hcl htl hkc hnn
      go_upto_region 7 with fail
      go_quiet ((first | (go_at_call 37; exact quietS (CB.out _)) | (go_at_call 29; exact quietS (CS.out _))))
      clear CB CS w1 w2 wT dk
      go_wp2_with (fail)
      refine (CA.out _ _).mono ?_; rintro e wA ⟨rfl, hA, bA⟩
      have hbA : Below lo wr wA := (below_drewN (Below.refl _ _) _).trans bA
      have HST2 : Hid (∀ w2, SHd z lo g w2 ⟨st.evs ++ [evYarn 1 car 2 (tot (st.cells.take i) + sumI (ct.take t)) x bed], st.cells.set i (ct.set t 1)⟩ → SHd z lo g w2 (knitN 1 car bed i (t + 1) s)) := Lib.hid (fun w2 hw => by
        rw [knitN, HK.out, HE.out, knitTo, HXY.out]
        exact hw)
      have HSTL : Hid (knitN 1 car bed i (t + 1) s = knitStep 1 car bed i t st) := Lib.hid (by rw [knitN, HK.out])
      clear CA q1 q2 q3 hrow hcc r0 r1 bA hst
      have HA := Lib.hid hA
      obtain ⟨gC2, cC2, gR2, c4, y1, y2, y3, y4, _, _, hset⟩ := hA.setAt (s := ⟨st.evs ++ [evYarn 1 car 2 (tot (st.cells.take i) + sumI (ct.take t)) x bed], st.cells⟩) HXt.out HY.out
      dsimp only at y1
      rw [HCL2.out] at y1
      rw [HNt.out] at y2
      have HSET := Lib.hid (hset 1); clear hset hA
      go_wp2_with (fail)
      have hfin := HST2.out _ HSET.out.1
      refine ⟨⟨t + 1, _, ct.set t 1, S2, by omega, by go_num, Lib.hid rfl, hfin, ?_, ?_, ?_, by push_cast; omega, ?_, (hbr.trans (hbA.mono (Nat.le_refl _))).trans HSET.out.2⟩, by first | (simp [intOf]; done) | (simp [intOf]; omega)⟩
      · rw [HSTL.out]; exact Lib.hid HX2.out
      · exact Lib.hid (by rw [List.length_set]; exact HNt.out)
      · rw [HSTL.out]; exact Lib.hid HG2.out
      · rw [HSTL.out, HL2.out]; omega
    · obtain rfl : t = n := by omega
      have dk : decide ((t : Int) < (t : Int)) = false := decide_eq_false (by omega)
      go_wp2_with (fail)
      go_end0
      rw [HK.out]
      exact ⟨rfl, hst, hbr⟩

set_option maxHeartbeats 4000000 in
set_option maxRecDepth 10000 in
theorem spec_knit_n {z : Option (Nat × Array Value)} {lo g m : Nat} {s : HS} {S : Int} {w : World} (h : SHd z lo g w s) (hG : GoodC m s.cells S) (hS : S ≤ 100) (hm : m ≤ 16) {i : Nat} {c : List Int} (hx : s.cells[i]? = some c) {gr : Nat} {car : Int} {vk : Value} (bed : Int) (hr : Blk w gr 29 #[.int .i64 (-1), .int .i64 car, vk]) (hgr : gr < lo) (hl : s.evs.length ≤ 90000) :
    Calls Try.prog 57 #[.pointer (some ⟨g, 0, none⟩), .pointer (some ⟨gr, 0, none⟩), .int .i64 (i : Int), .int .i64 bed] w fun e w' =>
      e = .returned (.tuple #[]) ∧ SHd z lo g w' (knitN (-1) car bed i c.length s) ∧ Below lo w w' := by
  have him := hG.lt hx
  obtain ⟨AC, cC, p1, hi2⟩ := h.read
  have hil : i < s.cells.length := by rw [hG.len]; exact him
  obtain ⟨b, off, A', c', c1, rfl, hx1, hc1, _, _⟩ := hi2 i hil
  obtain rfl : c = c1 := by rw [hx] at hx1; injection hx1
  obtain ⟨_, h4, _, _⟩ := hG.at_ hx
  have HCL := Lib.hid hG.len
  have j1 : (0 : Int) ≤ (i : Int) := by omega
  have j2 : (i : Int) < (s.cells.length : Int) := by omega
  clear hx1 hi2
  have H0 := Lib.hid h
  have HX := Lib.hid hx
  have HG := Lib.hid hG
  clear h hx hG hil
  obtain ⟨n, hn⟩ : ∃ n, n = c.length := ⟨_, rfl⟩
  rw [← hn] at h4 hc1 ⊢
  have HN := Lib.hid hn; clear hn
  go_enter Try.func57, Try.ntmps57
  go_wp2_with (fail)
  clear p1 hc1
  go_loopw [9] (fun tv wr => ∃ (t : Nat) (st : HS) (ct : List Int) (S' : Int), t ≤ n ∧ tv = .int .i64 t ∧ Hid (knitN (-1) car bed i t s = st) ∧ SHd z lo g wr st ∧ Hid (st.cells[i]? = some ct) ∧ Hid (ct.length = n) ∧ Hid (GoodC m st.cells S') ∧ S' ≤ 100 + (t : Int) ∧ st.evs.length ≤ 90000 + t ∧ Below lo w wr) (fun tv _ => n - (intOf tv).toNat)
  case atStart => exact ⟨0, s, c, S, Nat.zero_le _, rfl, Lib.hid rfl, H0.out, HX, Lib.hid HN.out.symm, HG, by omega, by omega, Below.refl _ _⟩
  case round =>
    obtain ⟨t, st, ct, S', ht, rfl, HK, hst, HXt, HNt, HGt, hS', hev, hbr⟩ := hrel
    by_cases htn : t < n
    · have hgood := knitStep_good (d := (-1)) (car := car) (bed := bed) HGt.out HXt.out (t := t) (by rw [HNt.out]; exact htn)
      obtain ⟨k, hk⟩ : ∃ k, k = knitAt (-1) n t := ⟨_, rfl⟩
      rw [HNt.out, ← hk] at hgood
      have hkn : k < n := (hk ▸ knitAt_lt htn)
      have w2 := knitAt_n hk htn h4
      try simp only [forall_const] at w2
      clear hk
      obtain ⟨g1, g2, ⟨S2, hS2, g3⟩, g4⟩ := hgood
      have HE := Lib.hid g1; have HX2 := Lib.hid g2; have HG2 := Lib.hid g3; have HL2 := Lib.hid g4
      clear g1 g2 g3 g4
      have hkc : k < ct.length := by rw [HNt.out]; exact hkn
      obtain ⟨x, hy⟩ : ∃ x, ct[k]? = some x := ⟨_, List.getElem?_eq_getElem hkc⟩
      obtain ⟨hnn, _, hle, h0⟩ := HGt.out.at_ HXt.out
      have hTp := HGt.out.take i
      have hPk := hnn.part k
      obtain ⟨gC, cC', gR, c3, q1, q2, q3, _, hrow, hcc, _⟩ := hst.setAt HXt.out hy
      have HXY : Hid (ct.getD k 0 = x) := Lib.hid (by rw [List.getD_eq_getElem?_getD, hy]; rfl)
      have HY := Lib.hid hy; clear hy
      have htl : (ct.take k).length = k := by rw [List.length_take]; omega
      have CB : Hid (∀ q, Calls Try.prog 37 #[.pointer (some ⟨g, 0, none⟩), .int .i64 (i : Int)] (wr.drewN q) fun e w' => e = .returned (.int .i64 (tot (st.cells.take i))) ∧ wr.drewN q = w') :=
        Lib.hid (fun q => spec_before (hst.drewN q) HGt.out (by omega) hm i (by omega))
      have CS : Hid (∀ q, Calls Try.prog 29 #[.slice (some ⟨gR, 0, none⟩) k c3] (wr.drewN q) fun e w' => e = .returned (.int .i64 (sumI (ct.take k))) ∧ wr.drewN q = w') :=
        Lib.hid (fun q => by
          have := spec_l17Sum (some ⟨gR, 0, none⟩) c3 (ct.take k) (wr.drewN q) (hrow.take k) (by omega)
          rw [htl, sum64_sumI (hnn.take k) (by omega)] at this
          exact this)
      have CA : Hid (∀ q place, Calls Try.prog 58 #[.pointer (some ⟨g, 0, none⟩), .pointer (some ⟨gr, 0, none⟩), .int .i64 2, .int .i64 place, .int .i64 x, .int .i64 bed] (wr.drewN q) fun e w' =>
          e = .returned (.tuple #[]) ∧ SHd z lo g w' ⟨st.evs ++ [evYarn (-1) car 2 place x bed], st.cells⟩ ∧ Below lo (wr.drewN q) w') :=
        Lib.hid (fun q place => spec_add (hst.drewN q) 2 place x bed ((hr.below hbr hgr).drewN q) hgr (by omega))
      have rr := (hr.below hbr hgr).c3
      obtain ⟨r0, r1, _⟩ := rr
      have wT : IntKind.i64.wrap (tot (st.cells.take i) + sumI (ct.take k)) = tot (st.cells.take i) + sumI (ct.take k) := IntWalk.i64_in _ ⟨by omega, by omega⟩
      have w1 : IntKind.i64.wrap ((n : Int) - 1) = (n : Int) - 1 := IntWalk.i64_in _ ⟨by omega, by omega⟩
      have dk : decide ((t : Int) < (n : Int)) = true := decide_eq_true (by omega)
      have j3 : (0 : Int) ≤ (k : Int) := by omega
      have j4 : (k : Int) ≤ (c3 : Int) := by omega
      have j5 : (k : Int) < (n : Int) := by omega
      have hcl : st.cells.length = s.cells.length := by rw [HGt.out.len, HCL.out]
      rw [hcl] at q1
      rw [HNt.out] at q2
      have HCL2 := Lib.hid hcl
      clear hcl htl hkc hnn
      go_upto_region 7 with fail
      go_quiet ((first | (go_at_call 37; exact quietS (CB.out _)) | (go_at_call 29; exact quietS (CS.out _))))
      clear CB CS w1 w2 wT dk
      go_wp2_with (fail)
      refine (CA.out _ _).mono ?_; rintro e wA ⟨rfl, hA, bA⟩
      have hbA : Below lo wr wA := (below_drewN (Below.refl _ _) _).trans bA
      have HST2 : Hid (∀ w2, SHd z lo g w2 ⟨st.evs ++ [evYarn (-1) car 2 (tot (st.cells.take i) + sumI (ct.take k)) x bed], st.cells.set i (ct.set k 1)⟩ → SHd z lo g w2 (knitN (-1) car bed i (t + 1) s)) := Lib.hid (fun w2 hw => by
        rw [knitN, HK.out, HE.out, knitTo, HXY.out]
        exact hw)
      have HSTL : Hid (knitN (-1) car bed i (t + 1) s = knitStep (-1) car bed i t st) := Lib.hid (by rw [knitN, HK.out])
      clear CA q1 q2 q3 hrow hcc r0 r1 bA hst
      have HA := Lib.hid hA
      obtain ⟨gC2, cC2, gR2, c4, y1, y2, y3, y4, _, _, hset⟩ := hA.setAt (s := ⟨st.evs ++ [evYarn (-1) car 2 (tot (st.cells.take i) + sumI (ct.take k)) x bed], st.cells⟩) HXt.out HY.out
      dsimp only at y1
      rw [HCL2.out] at y1
      rw [HNt.out] at y2
      have HSET := Lib.hid (hset 1); clear hset hA
      go_wp2_with (fail)
      have hfin := HST2.out _ HSET.out.1
      refine ⟨⟨t + 1, _, ct.set k 1, S2, by omega, by go_num, Lib.hid rfl, hfin, ?_, ?_, ?_, by push_cast; omega, ?_, (hbr.trans (hbA.mono (Nat.le_refl _))).trans HSET.out.2⟩, by first | (simp [intOf]; done) | (simp [intOf]; omega)⟩
      · rw [HSTL.out]; exact Lib.hid HX2.out
      · exact Lib.hid (by rw [List.length_set]; exact HNt.out)
      · rw [HSTL.out]; exact Lib.hid HG2.out
      · rw [HSTL.out, HL2.out]; omega
    · obtain rfl : t = n := by omega
      have dk : decide ((t : Int) < (t : Int)) = false := decide_eq_false (by omega)
      go_wp2_with (fail)
      go_end0
      rw [HK.out]
      exact ⟨rfl, hst, hbr⟩

end Go.Proofs.Ythjamohaeahipaa
