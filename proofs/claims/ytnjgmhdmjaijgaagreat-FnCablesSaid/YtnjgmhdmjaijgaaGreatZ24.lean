/- Steps of the proof, joined from several texts: QM QN QP QO. -/
import Derived.Test.YtnjgmhdmjaijgaaGreatZ23
import Derived.Test.YtnjgmhdmjaijgaaGreatZ22
import Derived.Test.YtnjgmhdmjaijgaaGreatZ4

/- Normal forms, the program's side: a permutation braid is multiplied behind. -/
namespace Go.Proofs.YtnjgmhdmjaijgaaGreat
open Go Go.RowKit
open Br (idl halfl invl flipl sw bh dB finB lwB Pm wd prod LW Eqv Dp)

theorem wtF_two {p q p' q' : List Int} (hs : (wd p').length + (wd q').length = (wd p).length + (wd q).length) (b : List (List Int)) : ∀ (a : List (List Int)) (i : Nat), wtF i (a ++ p' :: q' :: b) + (wd q).length = wtF i (a ++ p :: q :: b) + (wd q').length
  | [], i => by
    have h := congrArg (fun x => i * x) hs
    simp only [Nat.mul_add] at h
    simp only [List.nil_append, wtF, Nat.succ_mul]
    omega
  | x :: a, i => by
    have := wtF_two hs b a (i + 1)
    simp only [List.cons_append, wtF]
    omega
theorem GS.weigh {n m : Nat} {F0 F : List (List Int)} {i : Nat} {p q p' q' : List Int} {b : Bool} (h : GS n m F0 F) (hp : F[i]? = some p) (hq : F[i + 1]? = some q) (hw : WG n p q p' q' b) :
    GS n m F0 ((F.set i p').set (i + 1) q') ∧ (b = true → wtF 0 ((F.set i p').set (i + 1) q') < wtF 0 F) ∧ (b = false → (F.set i p').set (i + 1) q' = F) := by
  have hi := (List.getElem?_eq_some_iff.1 hq).1
  obtain ⟨a, x, y, r, rfl, ha⟩ := Br.bi hi
  subst ha
  rw [List.getElem?_append_right (Nat.le_refl _), Nat.sub_self] at hp
  rw [List.getElem?_append_right (by omega), Nat.add_sub_cancel_left] at hq
  simp only [List.getElem?_cons_zero, List.getElem?_cons_succ, Option.some.injEq] at hp hq
  subst hp hq
  rw [set2_eq]
  have hs : (wd p').length + (wd q').length = (wd x).length + (wd y).length := by have := hw.eqv.len; simpa using this
  refine ⟨⟨fun z hz => ?_, ?_, by have := h.len; simpa using this⟩, fun hb => ?_, fun hb => ?_⟩
  · simp only [List.mem_append, List.mem_cons] at hz
    rcases hz with hz | rfl | rfl | hz
    · exact h.perm z (by simp [hz])
    · exact hw.pp
    · exact hw.pq
    · exact h.perm z (by simp [hz])
  · refine Eqv.trans ?_ h.eqv
    have e : Eqv (wd p' ++ (wd q' ++ prod r)) (wd x ++ (wd y ++ prod r)) := by
      rw [← List.append_assoc, ← List.append_assoc]
      exact hw.eqv.post _
    rw [Br.prod_app, Br.prod_app, Br.prod_cons, Br.prod_cons, Br.prod_cons, Br.prod_cons]
    exact e.pre _
  · have h1 := wtF_two hs r a 0
    have h2 := hw.yes hb
    omega
  · rw [(hw.no hb).1, (hw.no hb).2]
/-- All neighbours from a place on are left-weighted. -/
def lwFrom (F : List (List Int)) (i : Nat) : Prop := ∀ j p q, i ≤ j → F[j]? = some p → F[j + 1]? = some q → lwB p q
theorem lwFrom_pred {F : List (List Int)} {i : Nat} {p q : List Int} (h : lwFrom F (i + 1)) (hp : F[i]? = some p) (hq : F[i + 1]? = some q) (hl : lwB p q) : lwFrom F i := by
  intro j a b hj h1 h2
  by_cases e : j = i
  · subst e
    rw [hp] at h1
    rw [hq] at h2
    injection h1 with h1
    injection h2 with h2
    subst h1 h2
    exact hl
  · exact h j a b (by omega) h1 h2
theorem prod_snoc (F : List (List Int)) (p : List Int) : prod (F ++ [p]) = prod F ++ wd p := by
  rw [Br.prod_app, Br.prod_cons, Br.prod_nil, List.append_nil]
theorem OwnC.block_lo {w : World} {lo hi : Nat} {e : TypeId} {sz n c g : Nat} {cs : List Value} (h : OwnC w lo hi e sz (some ⟨g, 0, none⟩) n c cs) : lo ≤ g := by
  rcases h.form with ⟨hA, _⟩ | ⟨g', _, hA, h1, _⟩
  · cases hA
  · injection hA with hA
    injection hA with hA
    exact hA ▸ h1
theorem slices_Clone_n {n : Nat} (A : Option Addr) (c : Nat) (xs : List Int) (hx : xs.length = n) (w : World) (h : Ints w A xs) (hn : n ≤ 1000) :
    Calls Tryz.prog 142 #[.slice A n c] w fun e w' => ∃ A' c', e = .returned (.slice A' n c') ∧ OwnC w' w.heap.size w'.heap.size 2 1 A' n c' (xs.map (Value.int .i64)) ∧ Below w.heap.size w w' := by
  have := slices_Clone A c xs w h (by omega)
  rw [hx] at this
  refine this.mono ?_
  rintro e w' ⟨A', c', rfl, o, b⟩
  have o' : OwnC w' w.heap.size w'.heap.size 2 1 A' xs.length c' (xs.map (Value.int .i64)) := o
  rw [hx] at o'
  exact ⟨A', c', rfl, o', b⟩

set_option maxHeartbeats 8000000 in
set_option maxRecDepth 10000 in
theorem impl_times (gN n m : Nat) (P : Int) (F : List (List Int)) (p : List Int) (A2 : Option Addr) (c2 : Nat) (w : World) (h : NB w gN n P m F) (hpF : ∀ p ∈ F, Pm n p) (hi : Ints w A2 p) (hp : Pm n p) (hn : 2 ≤ n ∧ n ≤ 12) (hm : m + 1 ≤ 1000) (hP : -1000 ≤ P ∧ P ≤ 1000) :
    Calls Tryz.prog 157 #[.pointer (some ⟨gN, 0, none⟩), .slice A2 n c2] w fun e w' => e = .returned (.tuple #[]) ∧ ∃ (k m' : Nat) (F' : List (List Int)), NB w' gN n (P + (k : Int)) m' F' ∧ Br.NFok n F' ∧ Eqv (Dp n k ++ prod F') (prod F ++ wd p) ∧ k + m' ≤ m + 1 ∧ Below gN w w' := by
  have t1 : (114 : TypeId) ≠ 2 := by decide
  have t2 : (114 : TypeId) ≠ 36 := by decide
  obtain ⟨i1, hi1, hz1, hz2, hz3⟩ := info_parts info_intsI
  obtain ⟨A, c, kb, hF⟩ := h
  have HLF := Lib.hid hF.len
  have hlt := kb.lt
  obtain ⟨q0, q1, q2⟩ := kb.c3
  have HPP := Lib.hid hp
  have HGS0 : Hid (GS n (m + 1) (F ++ [p]) (F ++ [p])) := Lib.hid ⟨fun z hz => by
    rcases List.mem_append.1 hz with hz | hz
    · exact hpF z hz
    · rw [List.mem_singleton] at hz
      exact hz ▸ hp, Eqv.refl _, by rw [List.length_append, hF.len]; rfl⟩
  clear hp hpF
  go_enter Tryz.func157, Tryz.ntmps157
  go_wp2_with (fail)
  (refine wp_region_pops 3 (S := (fun W' => W'.cell? ⟨gN, 2, none⟩ = some (.slice A m c))) (pre := ?_) (T := ?_) (n := ?_) (by kernel_rfl) (by kernel_rfl) ?_ ?_ ?_ ?_ (fun hHeld => ?_); rotate_left 3; (focus (simp only [pops, List.pop_toArray, List.dropLast_cons_cons, List.dropLast_singleton]; rfl)); (focus (simp only [tailOf, List.pop_toArray, List.dropLast_cons_cons, List.dropLast_singleton, List.back?_toArray, List.getLast?_cons_cons, List.getLast?_singleton, Option.toList_some, List.nil_append, List.cons_append]; rfl)); (focus rfl); (focus (exact q2)))
  ((refine wpAnyH_take (i := 0) (v := ?_) rfl (by kernel_rfl) (by kernel_rfl) (by kernel_rfl) (fun _ _ _ h => h) (Or.inl ⟨by rfl, ?_⟩) (by assumption) ?_; rotate_left; (focus (intro W hSw; (try dsimp only at hSw); go_simp; try (with_reducible rfl)))); (try simp only [List.getElem_toArray, List.getElem_cons_zero, Act.put, List.setIfInBounds_toArray, List.set_cons_zero, List.set_cons_succ]); (refine wpAnyH_take (i := 1) (v := ?_) rfl (by kernel_rfl) (by kernel_rfl) (by kernel_rfl) (fun _ _ _ h => h) (Or.inl ⟨by rfl, ?_⟩) (by assumption) ?_; rotate_left; (focus (intro W hSw; (try dsimp only at hSw); go_simp; try (with_reducible rfl)))); (try simp only [List.getElem_toArray, List.getElem_cons_zero, List.getElem_cons_succ, Act.put, List.setIfInBounds_toArray, List.set_cons_zero, List.set_cons_succ]); (refine wpAnyH_take (i := 2) (v := ?_) rfl (by kernel_rfl) (by kernel_rfl) (by kernel_rfl) (fun _ _ _ h => h) (Or.inl ⟨by rfl, ?_⟩) (by assumption) ?_; rotate_left; (focus (intro W hSw; (try dsimp only at hSw); go_simp; try (with_reducible rfl)))); (try simp only [List.getElem_toArray, List.getElem_cons_zero, List.getElem_cons_succ, Act.put, List.setIfInBounds_toArray, List.set_cons_zero, List.set_cons_succ]); (refine wpAnyH_take (i := 3) (v := ?_) rfl (by kernel_rfl) (by kernel_rfl) (by kernel_rfl) (fun _ _ _ h => h) (Or.inl ⟨by rfl, ?_⟩) (by assumption) ?_; rotate_left; (focus (intro W hSw; (try dsimp only at hSw); go_simp; try (with_reducible rfl)))); (try simp only [List.getElem_toArray, List.getElem_cons_zero, List.getElem_cons_succ, Act.put, List.setIfInBounds_toArray, List.set_cons_zero, List.set_cons_succ]); (refine wpAnyH_take (i := 4) (v := ?_) rfl (by kernel_rfl) (by kernel_rfl) (by kernel_rfl) (fun _ _ _ h => h) (Or.inl ⟨by rfl, ?_⟩) (by assumption) ?_; rotate_left; (focus (intro W hSw; (try dsimp only at hSw); go_simp; try (with_reducible rfl)))); (try simp only [List.getElem_toArray, List.getElem_cons_zero, List.getElem_cons_succ, Act.put, List.setIfInBounds_toArray, List.set_cons_zero, List.set_cons_succ]); (refine wpAnyH_take (i := 5) (v := ?_) rfl (by kernel_rfl) (by kernel_rfl) (by kernel_rfl) (fun _ _ _ h => h) (Or.inl ⟨by rfl, ?_⟩) (by assumption) ?_; rotate_left; (focus (intro W hSw; (try dsimp only at hSw); go_simp; try (with_reducible rfl)))); (try simp only [List.getElem_toArray, List.getElem_cons_zero, List.getElem_cons_succ, Act.put, List.setIfInBounds_toArray, List.set_cons_zero, List.set_cons_succ]))
  (refine wpAnyH_ready (rs := [6]) (by kernel_rfl) (by simp) ?_; refine AllReadyH.cons rfl (fun K hK => ?_) AllReadyH.nil)
  go_simp
  refine (slices_Clone_n A2 c2 p HPP.out.len w.drew hi (by omega)).mono ?_; rintro e w1 ⟨A3, c3, rfl, o3', b1'⟩
  have b1 : Below w.heap.size w w1 := undrew b1'
  have o3 : OwnC w1 w.heap.size w1.heap.size 2 1 A3 n c3 (p.map (Value.int .i64)) := o3'
  refine hK.out _ _ (cells_below b1 _ _ q2) (fun hHeld => ?_)
  clear hK K b1' o3'
  (try simp only [List.getElem_toArray, List.getElem_cons_zero, List.getElem_cons_succ, Act.put, List.setIfInBounds_toArray, List.set_cons_zero, List.set_cons_succ])
  (refine wpAnyH_ready (rs := [7]) (by kernel_rfl) (by simp) ?_; refine AllReadyH.cons rfl (fun K hK => ?_) AllReadyH.nil)
  go_simp
  refine hK.out _ _ (cell_alloc (cells_below b1 _ _ q2) _) (fun hHeld => ?_)
  clear hK K
  (try simp only [List.getElem_toArray, List.getElem_cons_zero, List.getElem_cons_succ, Act.put, List.setIfInBounds_toArray, List.set_cons_zero, List.set_cons_succ])
  have ba : Below w.heap.size w (w1.alloc (.cells #[.slice A3 n c3] 36)) := Below.alloc b1 b1.size _
  have hF5 : Fac (w1.alloc (.cells #[.slice A3 n c3] 36)) (gN + 1) w.heap.size n A m c F := hF.below ba (Nat.le_refl _)
  have kb5 : Blk (w1.alloc (.cells #[.slice A3 n c3] 36)) gN 114 #[.int .i64 (n : Int), .int .i64 P, .slice A m c] := kb.below ba hlt
  have hs5 : w.heap.size ≤ (w1.alloc (.cells #[.slice A3 n c3] 36)).heap.size := ba.size
  have hc5 : (w1.alloc (.cells #[.slice A3 n c3] 36)).cell? ⟨w1.heap.size, 0, none⟩ = some (.slice A3 n c3) := by go_simp
  have o5 : OwnC (w1.alloc (.cells #[.slice A3 n c3] 36)) w.heap.size (w1.alloc (.cells #[.slice A3 n c3] 36)).heap.size 2 1 A3 n c3 (p.map (Value.int .i64)) := (o3.alloc _).mono (Nat.le_refl _) (by simp)
  (refine wpAnyH_ready (rs := [8]) (by kernel_rfl) (by simp) ?_; refine AllReadyH.cons rfl (fun K hK => ?_) AllReadyH.nil)
  refine wp_append_fac (w1.alloc (.cells #[.slice A3 n c3] 36)) (.tmp 10) (.tmp 13) _ rfl i1 _ 24 Tryz.underlying46 hi1 hz1 hz2 hz3 rfl (by simp [Act.eval]) hF5 (by omega) hs5 w1.heap.size 1 (by simp [Act.eval]) A3 c3 p hc5 o5 HPP.out.len (by unfold maxLen; omega) (by omega) ?_
  intro A9 c9 w8 hF8 hb8 hblk8
  have kb8 := hblk8 gN _ _ t2 kb5
  refine hK.out _ _ kb8.c3.2.2 (fun hHeld => ?_)
  clear hK K
  (try simp only [List.getElem_toArray, List.getElem_cons_zero, List.getElem_cons_succ, Act.put, List.setIfInBounds_toArray, List.set_cons_zero, List.set_cons_succ])
  (refine wpAnyH_done (by kernel_rfl) ?_ _; change wpList _ _ _ _ _ _)
  clear hHeld
  have fr8 := kb8.frozen 2
  have q8 := kb8.c3.2.2
  have NB9 : NB (w8.setCell ⟨gN, 2, none⟩ (.slice A9 (m + 1) c9)) gN n P (m + 1) (F ++ [p]) := ⟨A9, c9, kb8.set32 _, (hF8.box kb8 t1 t2 2 _).mono (by simp)⟩
  have hb9a : Below gN w w8 := (ba.mono (by omega)).trans (hb8.mono (by omega))
  have hb9 : Below gN w (w8.setCell ⟨gN, 2, none⟩ (.slice A9 (m + 1) c9)) := hb9a.setCell (Nat.le_refl _) _
  clear hb9a hF8 hb8 hblk8 hc5 o5 hs5 hF5 kb5 ba o3 b1 kb hF q0 q1 q2 hi
  go_wp2_with (fail)
  obtain ⟨M, hM⟩ : ∃ M, M = m + 1 := ⟨_, rfl⟩
  rw [← hM] at HGS0 hm NB9 hb9 ⊢
  have HM := Lib.hid hM
  clear hM
  go_loopg [4] (2 * wtF 0 (F ++ [p]) + 1) (fun gk cv wr => ∃ (G : List (List Int)) (b : Bool), cv = .bool b ∧ Hid (GS n M (F ++ [p]) G ∧ (b = false → LW G) ∧ 2 * wtF 0 G + (if b then 1 else 0) ≤ gk) ∧ NB wr gN n P M G ∧ Below gN w wr)
  case atStart => exact ⟨F ++ [p], true, rfl, Lib.hid ⟨HGS0.out, fun h => (by cases h), by simp⟩, NB9, hb9⟩
  case round =>
    clear NB9 hb9 kb8 fr8 q8
    obtain ⟨G, b, rfl, HG, hN, hb⟩ := hrel
    cases b
    · go_wp2_with (fail)
      refine (impl_tidy gN n M P G wr hN HG.out.1.perm (HG.out.2.1 (by first | rfl | trivial)) hn hm hP).mono ?_; rintro e w2 ⟨rfl, k, m', F', hN2, hnf, he, hkm, b2⟩
      have HE : Hid (Eqv (Dp n k ++ prod F') (prod F ++ wd p)) := Lib.hid (he.trans (by have := HG.out.1.eqv; rwa [prod_snoc] at this))
      have HK2 := Lib.hid hkm
      have HNF := Lib.hid hnf
      clear he hkm hnf
      go_wp2_with (fail)
      go_end0
      exact ⟨rfl, k, m', F', hN2, HNF.out, HE.out, by have h1 := HK2.out; have h2 := HM.out; omega, hb.trans b2⟩
    · have hM2 := HM.out
      have w0 : IntKind.i64.wrap ((M : Int) - 2) = (M : Int) - 2 := IntWalk.i64_in _ ⟨by omega, by omega⟩
      have HSZ : Hid ((M : Int) - 2 = (m : Int) - 1) := Lib.hid (by omega)
      obtain ⟨A0, c0, kb, hF⟩ := hN
      have hlt := kb.lt
      obtain ⟨q0, q1, q2⟩ := kb.c3
      have hN : NB wr gN n P M G := ⟨A0, c0, kb, hF⟩
      clear hM2 kb hF
      go_wp2_with (fail)
      go_loopw [4, 5] (fun cv iv wq => ∃ (G2 : List (List Int)) (b2 : Bool) (z : Int) (k : Nat), cv = .bool b2 ∧ iv = .int .i64 z ∧ Hid (z = (k : Int) - 1 ∧ k + 1 ≤ M) ∧ Hid (GS n M (F ++ [p]) G2 ∧ (b2 = false → wtF 0 G2 = wtF 0 G ∧ lwFrom G2 k) ∧ (b2 = true → wtF 0 G2 < wtF 0 G)) ∧ NB wq gN n P M G2 ∧ Below gN w wq) (fun _ iv _ => (intOf iv + 1).toNat)
      case atStart =>
        refine ⟨G, false, (M : Int) - 2, m, rfl, rfl, Lib.hid ⟨HSZ.out, by have := HM.out; omega⟩, Lib.hid ⟨HG.out.1, fun _ => ⟨rfl, fun j a b hj h1 h2 => ?_⟩, fun h => (by cases h)⟩, hN, hb⟩
        have h3 := (List.getElem?_eq_some_iff.1 h2).1
        have h4 := HG.out.1.len
        have h5 := HM.out
        omega
      case round =>
        clear hN hb q0 q1 q2 hlt w0
        obtain ⟨G2, b2, z, k, rfl, rfl, HZ, HG2, hN, hb⟩ := hrel
        by_cases hk : k = 0
        · have hz : z = -1 := by have := HZ.out.1; omega
          subst hz
          clear hk
          go_wp2_with (fail)
          cases b2
          · obtain ⟨g1, g2, _⟩ := HG2.out
            go_roundg (2 * wtF 0 G2)
            case measure => have h1 := HG.out.2.2; have h2 := (g2 rfl).1; rw [if_pos trivial] at h1; omega
            case rel =>
              have hk0 : k = 0 := by have := HZ.out.1; omega
              exact ⟨G2, false, rfl, Lib.hid ⟨g1, fun _ => lwTo_all fun j a b h1 h2 => (g2 rfl).2 j a b (by omega) h1 h2, by simp⟩, hN, hb⟩
          · obtain ⟨g1, _, g3⟩ := HG2.out
            go_roundg (2 * wtF 0 G2 + 1)
            case measure => have h1 := HG.out.2.2; have h2 := g3 rfl; rw [if_pos trivial] at h1; omega
            case rel => exact ⟨G2, true, rfl, Lib.hid ⟨g1, fun h => (by cases h), by simp⟩, hN, hb⟩
        · obtain ⟨i, hki⟩ : ∃ i, k = i + 1 := ⟨k - 1, by omega⟩
          have hz : z = (i : Int) := by have := HZ.out.1; omega
          have hiM : i + 2 ≤ M := by have := HZ.out.2; omega
          subst hz hki
          clear hk HZ
          obtain ⟨A0, c0, kb, hF⟩ := hN
          have hl2 := HG2.out.1.len
          have hx : G2[i]? = some (G2[i]'(by omega)) := List.getElem?_eq_getElem _
          have hy : G2[i + 1]? = some (G2[i + 1]'(by omega)) := List.getElem?_eq_getElem _
          generalize G2[i]'(by omega) = x at hx
          generalize G2[i + 1]'(by omega) = y at hy
          have HPM := Lib.hid (HG2.out.1.perm x (List.mem_of_getElem? hx))
          have HQM := Lib.hid (HG2.out.1.perm y (List.mem_of_getElem? hy))
          obtain ⟨g, off, gp, gq, cp, cq, rfl, e1, e2, hne, op, oq, back⟩ := hF.two hx hy (by omega)
          have HX := Lib.hid hx; have HY := Lib.hid hy
          have HB := Lib.hid back
          have HNE := Lib.hid hne
          clear hx hy back hne hl2
          obtain ⟨q0, q1, q2⟩ := kb.c3
          have j0 : decide ((i : Int) ≥ 0) = true := decide_eq_true (by omega)
          have j1 : (0 : Int) ≤ (i : Int) := by omega
          have j2 : (i : Int) < (M : Int) := by omega
          have j3 : (0 : Int) ≤ (i : Int) + 1 := by omega
          have j4 : (i : Int) + 1 < (M : Int) := by omega
          have j5 : ((i : Int) + 1).toNat = i + 1 := by omega
          have w1 : IntKind.i64.wrap ((i : Int) + 1) = (i : Int) + 1 := IntWalk.i64_in _ ⟨by omega, by omega⟩
          have w2' : IntKind.i64.wrap ((i : Int) - 1) = (i : Int) - 1 := IntWalk.i64_in _ ⟨by omega, by omega⟩
          go_wp2_with (fail)
          (refine wp_region_pops 1 (S := (fun W' => W'.cell? ⟨gN, 2, none⟩ = some (.slice (some ⟨g, off, none⟩) M c0) ∧ W'.cell? ⟨g, off + i, none⟩ = some (.slice (some ⟨gp, 0, none⟩) n cp) ∧ W'.cell? ⟨g, off + (i + 1), none⟩ = some (.slice (some ⟨gq, 0, none⟩) n cq))) (pre := ?_) (T := ?_) (n := ?_) (by kernel_rfl) (by kernel_rfl) ?_ ?_ ?_ ?_ (fun hHeld => ?_); rotate_left 3; (focus (simp only [pops, List.pop_toArray, List.dropLast_cons_cons, List.dropLast_singleton]; rfl)); (focus (simp only [tailOf, List.back?_toArray, List.getLast?_cons_cons, List.getLast?_singleton, Option.toList_some, List.nil_append]; rfl)); (focus rfl); (focus (exact ⟨q2, e1, e2⟩)))
          ((refine wpAnyH_take (i := 0) (v := ?_) rfl (by kernel_rfl) (by kernel_rfl) (by kernel_rfl) (fun _ _ _ h => h) (Or.inl ⟨by rfl, ?_⟩) (by assumption) ?_; rotate_left; (focus (intro W hSw; (try dsimp only at hSw); go_simp; try (with_reducible rfl)))); (try simp only [List.getElem_toArray, List.getElem_cons_zero, Act.put, List.setIfInBounds_toArray, List.set_cons_zero, List.set_cons_succ]); (refine wpAnyH_take (i := 1) (v := ?_) rfl (by kernel_rfl) (by kernel_rfl) (by kernel_rfl) (fun _ _ _ h => h) (Or.inl ⟨by rfl, ?_⟩) (by assumption) ?_; rotate_left; (focus (intro W hSw; (try dsimp only at hSw); go_simp; try (with_reducible rfl)))); (try simp only [List.getElem_toArray, List.getElem_cons_zero, List.getElem_cons_succ, Act.put, List.setIfInBounds_toArray, List.set_cons_zero, List.set_cons_succ]); (refine wpAnyH_take (i := 2) (v := ?_) rfl (by kernel_rfl) (by kernel_rfl) (by kernel_rfl) (fun _ _ _ h => h) (Or.inl ⟨by rfl, ?_⟩) (by assumption) ?_; rotate_left; (focus (intro W hSw; (try dsimp only at hSw); go_simp; try (with_reducible rfl)))); (try simp only [List.getElem_toArray, List.getElem_cons_zero, List.getElem_cons_succ, Act.put, List.setIfInBounds_toArray, List.set_cons_zero, List.set_cons_succ]); (refine wpAnyH_take (i := 3) (v := ?_) rfl (by kernel_rfl) (by kernel_rfl) (by kernel_rfl) (fun _ _ _ h => h) (Or.inl ⟨by rfl, ?_⟩) (by assumption) ?_; rotate_left; (focus (intro W hSw; (try dsimp only at hSw); go_simp; try (with_reducible rfl)))); (try simp only [List.getElem_toArray, List.getElem_cons_zero, List.getElem_cons_succ, Act.put, List.setIfInBounds_toArray, List.set_cons_zero, List.set_cons_succ]); (refine wpAnyH_take (i := 4) (v := ?_) rfl (by kernel_rfl) (by kernel_rfl) (by kernel_rfl) (fun _ _ _ h => h) (Or.inl ⟨by rfl, ?_⟩) (by assumption) ?_; rotate_left; (focus (intro W hSw; (try dsimp only at hSw); go_simp; try (with_reducible rfl)))); (try simp only [List.getElem_toArray, List.getElem_cons_zero, List.getElem_cons_succ, Act.put, List.setIfInBounds_toArray, List.set_cons_zero, List.set_cons_succ]); (refine wpAnyH_take (i := 5) (v := ?_) rfl (by kernel_rfl) (by kernel_rfl) (by kernel_rfl) (fun _ _ _ h => h) (Or.inl ⟨by rfl, ?_⟩) (by assumption) ?_; rotate_left; (focus (intro W hSw; (try dsimp only at hSw); go_simp; try (with_reducible rfl)))); (try simp only [List.getElem_toArray, List.getElem_cons_zero, List.getElem_cons_succ, Act.put, List.setIfInBounds_toArray, List.set_cons_zero, List.set_cons_succ]); (refine wpAnyH_take (i := 6) (v := ?_) rfl (by kernel_rfl) (by kernel_rfl) (by kernel_rfl) (fun _ _ _ h => h) (Or.inl ⟨by rfl, ?_⟩) (by assumption) ?_; rotate_left; (focus (intro W hSw; (try dsimp only at hSw); go_simp; try (with_reducible rfl)))); (try simp only [List.getElem_toArray, List.getElem_cons_zero, List.getElem_cons_succ, Act.put, List.setIfInBounds_toArray, List.set_cons_zero, List.set_cons_succ]); (refine wpAnyH_take (i := 7) (v := ?_) rfl (by kernel_rfl) (by kernel_rfl) (by kernel_rfl) (fun _ _ _ h => h) (Or.inl ⟨by rfl, ?_⟩) (by assumption) ?_; rotate_left; (focus (intro W hSw; (try dsimp only at hSw); go_simp; try (with_reducible rfl)))); (try simp only [List.getElem_toArray, List.getElem_cons_zero, List.getElem_cons_succ, Act.put, List.setIfInBounds_toArray, List.set_cons_zero, List.set_cons_succ]); (refine wpAnyH_take (i := 8) (v := ?_) rfl (by kernel_rfl) (by kernel_rfl) (by kernel_rfl) (fun _ _ _ h => h) (Or.inl ⟨by rfl, ?_⟩) (by assumption) ?_; rotate_left; (focus (intro W hSw; (try dsimp only at hSw); go_simp; try (with_reducible rfl)))); (try simp only [List.getElem_toArray, List.getElem_cons_zero, List.getElem_cons_succ, Act.put, List.setIfInBounds_toArray, List.set_cons_zero, List.set_cons_succ]); (refine wpAnyH_take (i := 9) (v := ?_) rfl (by kernel_rfl) (by kernel_rfl) (by kernel_rfl) (fun _ _ _ h => h) (Or.inl ⟨by rfl, ?_⟩) (by assumption) ?_; rotate_left; (focus (intro W hSw; (try dsimp only at hSw); go_simp; try (with_reducible rfl)))); (try simp only [List.getElem_toArray, List.getElem_cons_zero, List.getElem_cons_succ, Act.put, List.setIfInBounds_toArray, List.set_cons_zero, List.set_cons_succ]); (refine wpAnyH_take (i := 10) (v := ?_) rfl (by kernel_rfl) (by kernel_rfl) (by kernel_rfl) (fun _ _ _ h => h) (Or.inl ⟨by rfl, ?_⟩) (by assumption) ?_; rotate_left; (focus (intro W hSw; (try dsimp only at hSw); go_simp; try (with_reducible rfl)))); (try simp only [List.getElem_toArray, List.getElem_cons_zero, List.getElem_cons_succ, Act.put, List.setIfInBounds_toArray, List.set_cons_zero, List.set_cons_succ]); (refine wpAnyH_take (i := 11) (v := ?_) rfl (by kernel_rfl) (by kernel_rfl) (by kernel_rfl) (fun _ _ _ h => h) (Or.inl ⟨by rfl, ?_⟩) (by assumption) ?_; rotate_left; (focus (intro W hSw; (try dsimp only at hSw); go_simp; try (with_reducible rfl)))); (try simp only [List.getElem_toArray, List.getElem_cons_zero, List.getElem_cons_succ, Act.put, List.setIfInBounds_toArray, List.set_cons_zero, List.set_cons_succ]); (refine wpAnyH_take (i := 12) (v := ?_) rfl (by kernel_rfl) (by kernel_rfl) (by kernel_rfl) (fun _ _ _ h => h) (Or.inl ⟨by rfl, ?_⟩) (by assumption) ?_; rotate_left; (focus (intro W hSw; (try dsimp only at hSw); go_simp; try (with_reducible rfl)))); (try simp only [List.getElem_toArray, List.getElem_cons_zero, List.getElem_cons_succ, Act.put, List.setIfInBounds_toArray, List.set_cons_zero, List.set_cons_succ]); (refine wpAnyH_take (i := 13) (v := ?_) rfl (by kernel_rfl) (by kernel_rfl) (by kernel_rfl) (fun _ _ _ h => h) (Or.inl ⟨by rfl, ?_⟩) (by assumption) ?_; rotate_left; (focus (intro W hSw; (try dsimp only at hSw); go_simp; try (with_reducible rfl)))); (try simp only [List.getElem_toArray, List.getElem_cons_zero, List.getElem_cons_succ, Act.put, List.setIfInBounds_toArray, List.set_cons_zero, List.set_cons_succ]); (refine wpAnyH_take (i := 14) (v := ?_) rfl (by kernel_rfl) (by kernel_rfl) (by kernel_rfl) (fun _ _ _ h => h) (Or.inl ⟨by rfl, ?_⟩) (by assumption) ?_; rotate_left; (focus (intro W hSw; (try dsimp only at hSw); go_simp; try (with_reducible rfl)))); (try simp only [List.getElem_toArray, List.getElem_cons_zero, List.getElem_cons_succ, Act.put, List.setIfInBounds_toArray, List.set_cons_zero, List.set_cons_succ]))
          (refine wpAnyH_done (by kernel_rfl) ?_ _; change wpList _ _ _ _ _ _)
          clear hHeld
          go_wp2_with (fail)
          refine (impl_weigh n x y gp gq cp cq (gN + 1) wr.heap.size wr.drew (OwnC.drew1 op) (OwnC.drew1 oq) HNE.out HPM.out HQM.out (Nat.le_refl _) hn.2).mono ?_; rintro e w3 ⟨x', y', b', rfl, hw, hlw, op', oq', htwo⟩
          have hgp := OwnC.block_lo op
          have hgq := OwnC.block_lo oq
          have hlt := kb.lt
          have HF3 : Hid (Fac w3 (gN + 1) w3.heap.size n (some ⟨g, off, none⟩) M c0 ((G2.set i x').set (i + 1) y')) := Lib.hid ((HB.out w3 x' y' (fun k h1 h2 h3 => htwo.block k h1 h2 h3) op' oq' hw.pp.len hw.pq.len).mono htwo.size)
          have kb3 : Blk w3 gN 114 #[.int .i64 (n : Int), .int .i64 P, .slice (some ⟨g, off, none⟩) M c0] := (htwo.block gN hlt (by omega) (by omega)).trans kb
          have hb3 : Below gN w w3 := (Below.drew hb).trans (htwo.belowLo (by omega) (by omega) (Nat.le_of_lt hlt))
          have HW := Lib.hid (HG2.out.1.weigh HX.out HY.out hw)
          have HLW := Lib.hid hlw
          clear hw hlw op' oq' htwo op oq hgp hgq hlt HB kb hF hb q0 q1 q2 e1 e2
          cases b'
          · have h1 := HW.out.2.2 rfl
            have HN3 : NB w3 gN n P M G2 := ⟨_, c0, kb3, by have := HF3.out; rwa [h1] at this⟩
            have HXY : Hid (x' = x ∧ y' = y) := Lib.hid (by
              have hl2 := HG2.out.1.len
              constructor
              · have a1 : ((G2.set i x').set (i + 1) y')[i]? = some x' := by rw [List.getElem?_set_ne (by omega), List.getElem?_set_self (by omega)]
                rw [h1, HX.out] at a1
                injection a1 with a1
                exact a1.symm
              · have a1 : ((G2.set i x').set (i + 1) y')[i + 1]? = some y' := by rw [List.getElem?_set_self (by rw [List.length_set]; omega)]
                rw [h1, HY.out] at a1
                injection a1 with a1
                exact a1.symm)
            clear h1 HF3 kb3
            go_wp2_with (fail)
            go_roundw
            case rel =>
              refine ⟨G2, b2, (i : Int) - 1, i, rfl, by go_num, Lib.hid ⟨rfl, by omega⟩, Lib.hid ⟨HG2.out.1, fun h => ⟨(HG2.out.2.1 h).1, lwFrom_pred (HG2.out.2.1 h).2 HX.out HY.out ?_⟩, HG2.out.2.2⟩, HN3, hb3⟩
              have := HLW.out
              rwa [HXY.out.1, HXY.out.2] at this
            case measure => first | (simp [intOf]; done) | (simp [intOf]; omega)
          · have HN3 : NB w3 gN n P M ((G2.set i x').set (i + 1) y') := ⟨_, c0, kb3, HF3.out⟩
            have HG3 : Hid (wtF 0 ((G2.set i x').set (i + 1) y') < wtF 0 G) := Lib.hid (by
              have h1 := HW.out.2.1 rfl
              cases b2
              · have := (HG2.out.2.1 rfl).1; omega
              · have := HG2.out.2.2 rfl; omega)
            clear HF3 kb3
            generalize (G2.set i x').set (i + 1) y' = G4 at *
            go_wp2_with (fail)
            go_roundw
            case rel => exact ⟨G4, true, (i : Int) - 1, i, rfl, by go_num, Lib.hid ⟨rfl, by omega⟩, Lib.hid ⟨HW.out.1, fun h => (by cases h), fun _ => HG3.out⟩, HN3, hb3⟩
            case measure => first | (simp [intOf]; done) | (simp [intOf]; omega)

end Go.Proofs.YtnjgmhdmjaijgaaGreat

/- Permutations one after the other, the program's side. -/
namespace Go.Proofs.YtnjgmhdmjaijgaaGreat
open Go Go.RowKit
open Br (idl halfl invl flipl sw bh dB finB lwB Pm wd prod LW Eqv Dp)

/-- The first list's values, looked up in the second. -/
def cmpl (a b : List Int) : List Int := a.map (fun k => b.getD k.toNat 0)
/-- As far as it is filled. -/
def cmpTo (a b : List Int) (i : Nat) : List Int := (cmpl a b).take i ++ List.replicate (a.length - i) 0
theorem cmpl_length (a b : List Int) : (cmpl a b).length = a.length := by simp [cmpl]
theorem cmpTo_length (a b : List Int) (i : Nat) (h : i ≤ a.length) : (cmpTo a b i).length = a.length := by
  simp only [cmpTo, List.length_append, List.length_take, List.length_replicate, cmpl_length]
  omega
theorem cmpTo_all (a b : List Int) : cmpTo a b a.length = cmpl a b := by
  rw [cmpTo, Nat.sub_self, List.replicate_zero, List.append_nil, take_all (by rw [cmpl_length]; exact Nat.le_refl _)]
theorem cmpTo_succ {a b : List Int} {i : Nat} {x y : Int} (hx : a[i]? = some x) (hy : b[x.toNat]? = some y) : cmpTo a b (i + 1) = (cmpTo a b i).set i y := by
  have hi := (List.getElem?_eq_some_iff.1 hx).1
  have hc : (cmpl a b)[i]? = some y := by
    rw [cmpl, List.getElem?_map, hx, Option.map_some, List.getD_eq_getElem?_getD, hy, Option.getD_some]
  have hl : ((cmpl a b).take i).length = i := by rw [List.length_take, cmpl_length]; omega
  rw [cmpTo, cmpTo, take_snoc hc, List.set_append_right _ _ (by omega), hl, Nat.sub_self, show a.length - i = (a.length - (i + 1)) + 1 by omega, List.replicate_succ, List.set_cons_zero]
  simp
theorem idl_getD {n : Nat} {x : Int} (h0 : 0 ≤ x) (h1 : x < n) : (idl n)[x.toNat]? = some x := by
  have := Br.idl_get (n := n) (i := x.toNat) (by omega)
  rw [this]
  congr 1
  omega
theorem cmpl_bh {n j : Nat} {p : List Int} (hp : Pm n p) : cmpl p (bh j (idl n)) = bh j p := by
  unfold cmpl bh
  refine List.map_congr_left fun x hx => ?_
  obtain ⟨h0, h1⟩ := hp.mem.1 hx
  rw [List.getD_eq_getElem?_getD, List.getElem?_map, idl_getD h0 h1]
  rfl

set_option maxHeartbeats 4000000 in
theorem impl_compose (n : Nat) (p q : List Int) (A B : Option Addr) (c d : Nat) (w : World) (h : Ints w A p) (h' : Ints w B q) (hp : Pm n p) (hq : q.length = n) (hn : n ≤ 100) :
    Calls Tryz.prog 155 #[.slice A n c, .slice B n d] w fun e w' => ∃ A' c', e = .returned (.slice A' n c') ∧ OwnC w' w.heap.size w'.heap.size 2 1 A' n c' ((cmpl p q).map (Value.int .i64)) ∧ Below w.heap.size w w' := by
  obtain ⟨i0, hi0, hz0, hz1, hz2⟩ := info_parts info_int64
  have HAL := Lib.hid hp.len
  have HQL := Lib.hid hq
  have HAR := Lib.hid (fun x hx => hp.mem.1 hx : ∀ x ∈ p, 0 ≤ x ∧ x < (n : Int))
  have far : ∀ (C : Option Addr) (r : List Int), Ints w C r → ∀ a, C = some a → 0 < r.length → a.block ≠ w.heap.size := fun C r h a ha h0 e => by
    obtain ⟨b, off, x, hA, hc, _⟩ := h 0 h0
    rw [hA] at ha
    injection ha with ha
    subst ha
    have := cell_lt hc
    have e' : b = w.heap.size := e
    have h2 : b < w.heap.size := this
    omega
  have HFA := Lib.hid (far A p h)
  have HFB := Lib.hid (far B q h')
  clear hp hq far
  go_enter Tryz.func155, Tryz.ntmps155
  go_wp2_with (refine wpList_make_full _ rfl _ _ _ rfl w.heap.size 2 i0 _ 1 Tryz.underlying36 hi0 hz0 hz1 .i64 .i64 _ _ n rfl rfl rfl rfl (by rw [hz2]; omega) (by unfold maxLen; omega) (Nat.le_refl _) ?_; intro w4 hown hg)
  have b4 : Below w.heap.size w w4 := (Below.refl _ _).grown hg (Nat.le_refl _) (by simp)
  have o4 : OwnC w4 w.heap.size w4.heap.size 2 1 (some ⟨w.heap.size, 0, none⟩) n n ((cmpTo p q 0).map (Value.int .i64)) := by
    have := OwnC.of_own hown (Nat.le_refl _)
    rwa [zerosN2, show List.replicate n (0 : Int) = cmpTo p q 0 by simp [cmpTo, HAL.out]] at this
  have ia4 := h.below b4
  have ib4 := h'.below b4
  obtain ⟨hi4, hh4⟩ : ∃ hi4, hi4 = w4.heap.size := ⟨_, rfl⟩
  rw [← hh4] at o4
  have hz4 : hi4 ≤ w4.heap.size := by omega
  clear hown hg hh4
  go_loopw [13] (fun iv wr => ∃ i : Nat, i ≤ n ∧ iv = .int .i64 i ∧ OwnC wr w.heap.size hi4 2 1 (some ⟨w.heap.size, 0, none⟩) n n ((cmpTo p q i).map (Value.int .i64)) ∧ Ints wr A p ∧ Ints wr B q ∧ Below w.heap.size w wr ∧ hi4 ≤ wr.heap.size) (fun iv _ => n - (intOf iv).toNat)
  case atStart => exact ⟨0, Nat.zero_le _, rfl, o4, ia4, ib4, b4, hz4⟩
  case round =>
    clear o4 ia4 ib4 b4 hz4
    obtain ⟨i, hi, rfl, ho, hia, hib, hb, hz⟩ := hrel
    by_cases hin : i < n
    · have di : decide ((i : Int) < (n : Int)) = true := decide_eq_true (by omega)
      obtain ⟨b, off, x, hA3, hc, hx⟩ := hia i (by rw [HAL.out]; exact hin)
      have hbg : b ≠ w.heap.size := HFA.out _ hA3 (by rw [HAL.out]; omega)
      subst hA3
      obtain ⟨hx0, hx1⟩ := HAR.out x (List.mem_of_getElem? hx)
      obtain ⟨v, rfl⟩ := Int.eq_ofNat_of_zero_le hx0
      have hvn : v < n := by omega
      obtain ⟨b2, off2, y, hB3, hc2, hy⟩ := hib v (by rw [HQL.out]; exact hvn)
      have hbg2 : b2 ≠ w.heap.size := HFB.out _ hB3 (by rw [HQL.out]; omega)
      subst hB3
      have HI : Hid (cmpTo p q (i + 1) = (cmpTo p q i).set i y) := Lib.hid (cmpTo_succ hx (by rw [Int.toNat_natCast]; exact hy))
      have hil : (cmpTo p q i).length = n := by rw [cmpTo_length _ _ _ (by rw [HAL.out]; exact hi), HAL.out]
      obtain ⟨yy, hyy⟩ : ∃ yy, (cmpTo p q i)[i]? = some yy := ⟨_, List.getElem?_eq_getElem (by omega)⟩
      obtain ⟨cy, fy, gy, _⟩ := own_at (show OwnI wr w.heap.size hi4 (some ⟨w.heap.size, 0, none⟩) n (cmpTo p q i) from by show OwnC _ _ _ _ _ _ _ _ _; rw [hil]; exact ho) hyy
      have HIL := Lib.hid hil; clear hil hyy
      have j1 : (0 : Int) ≤ (i : Int) := by omega
      have j3 : (0 : Int) ≤ (v : Int) := by omega
      have j4 : (v : Int) < (n : Int) := by omega
      have j5 : IntKind.i64.wrap (v : Int) = (v : Int) := IntWalk.i64_in _ ⟨by omega, by omega⟩
      have j6 : (i : Int) < (n : Int) := by omega
      clear hx hy
      go_wp2_with (fail)
      go_roundw
      case rel =>
        refine ⟨i + 1, by omega, by go_num, ?_, ?_, ?_, hb.setCell (Nat.le_refl _) _, by simpa using hz⟩
        · rw [HI.out, List.map_set]
          exact (OwnC.store ho _).1
        · exact hia.past (fun a ha => by injection ha with ha; subst ha; exact hbg) _
        · exact hib.past (fun a ha => by injection ha with ha; subst ha; exact hbg2) _
      case measure => simp [intOf]; omega
    · obtain rfl : i = n := by omega
      have di : decide ((i : Int) < (i : Int)) = false := decide_eq_false (by omega)
      have HCA : Hid (cmpTo p q i = cmpl p q) := Lib.hid (by rw [← HAL.out]; exact cmpTo_all p q)
      go_wp2_with (fail)
      go_ret
      refine ⟨_, _, rfl, ?_, hb⟩
      rw [← HCA.out]
      exact OwnC.mono ho (Nat.le_refl _) hz

end Go.Proofs.YtnjgmhdmjaijgaaGreat

/- All factors are flipped, the program's side, with what stays. -/
namespace Go.Proofs.YtnjgmhdmjaijgaaGreat
open Go Go.RowKit
open Br (idl halfl invl flipl sw bh dB finB lwB Pm wd prod LW Eqv)

set_option maxHeartbeats 4000000 in
set_option maxRecDepth 10000 in
theorem impl_flipAll2 (gN n m hi0 : Nat) (P : Int) (F : List (List Int)) (A : Option Addr) (c : Nat) (w : World) (kb : Blk w gN 114 #[.int .i64 (n : Int), .int .i64 P, .slice A m c]) (hF : Fac w (gN + 1) hi0 n A m c F) (hh0 : hi0 ≤ w.heap.size) (hp : ∀ p ∈ F, Pm n p) (hn : n ≤ 12) (hm : m ≤ 1000) :
    Calls Tryz.prog 154 #[.pointer (some ⟨gN, 0, none⟩)] w fun e w' => e = .returned (.tuple #[]) ∧ NB w' gN n P m (F.map flipl) ∧ Below (gN + 1) w w' ∧ ∀ k, hi0 ≤ k → k < w.heap.size → w'.heap[k]? = w.heap[k]? := by
  have t1 : (114 : TypeId) ≠ 2 := by decide
  have t2 : (114 : TypeId) ≠ 36 := by decide
  have HA0 : Hid (∀ g off, A = some ⟨g, off, none⟩ → 0 < m → g < hi0) := Lib.hid (fun g off hA h0 => by
    have hx : F[0]? = some (F[0]'(by rw [hF.len]; exact h0)) := List.getElem?_eq_getElem _
    obtain ⟨g', off', _, _, hA', _, h2, _⟩ := hF.get hx
    rw [hA] at hA'
    injection hA' with hA'
    injection hA' with hA'
    rw [hA']
    exact h2)
  have HL := Lib.hid hF.len
  have HP := Lib.hid hp; clear hp
  have hlt := kb.lt
  obtain ⟨q0, q1, q2⟩ := kb.c3
  go_enter Tryz.func154, Tryz.ntmps154
  go_wp2_with (fail)
  clear q0 q1 q2
  go_loopw [9] (fun iv wr => ∃ i : Nat, i ≤ m ∧ iv = .int .i64 (i : Int) ∧ Blk wr gN 114 #[.int .i64 (n : Int), .int .i64 P, .slice A m c] ∧ Fac wr (gN + 1) wr.heap.size n A m c ((F.take i).map flipl ++ F.drop i) ∧ Below (gN + 1) w wr ∧ Hid (∀ k, hi0 ≤ k → k < w.heap.size → wr.heap[k]? = w.heap[k]?)) (fun iv _ => m - (intOf iv).toNat)
  case atStart => exact ⟨0, Nat.zero_le _, rfl, kb, by simpa using hF.mono hh0, Below.refl _ _, Lib.hid fun _ _ _ => rfl⟩
  case round =>
    clear kb hF
    obtain ⟨i, hi, rfl, kb, hF, hb, HKK⟩ := hrel
    have hzw := hb.size
    by_cases him : i < m
    · have di : decide ((i : Int) < (m : Int)) = true := decide_eq_true (by omega)
      have hx : F[i]? = some (F[i]'(by rw [HL.out]; exact him)) := List.getElem?_eq_getElem _
      generalize F[i]'(by rw [HL.out]; exact him) = p at hx
      have hlen : ((F.take i).map flipl ++ F.drop i).length = m := by rw [List.length_append, List.length_map, List.length_take, List.length_drop, HL.out]; omega
      have hget : ((F.take i).map flipl ++ F.drop i)[i]? = some p := by
        rw [List.getElem?_append_right (by rw [List.length_map, List.length_take, HL.out]; omega), List.length_map, List.length_take, HL.out, Nat.min_eq_left hi, Nat.sub_self, drop_cons hx]
        rfl
      have HS := Lib.hid (take_flip2 hx)
      have HPM := Lib.hid (HP.out p (List.mem_of_getElem? hx))
      obtain ⟨g, off, A2, c2, rfl, hg1, hg2, cc, ff, o2, hpl⟩ := hF.get hget
      have ip := OwnC.ints o2
      have HGH := Lib.hid (HA0.out g off rfl (by omega))
      obtain ⟨q0, q1, q2⟩ := kb.c3
      have HLEN := Lib.hid hlen
      have j1 : (0 : Int) ≤ (i : Int) := by omega
      have j2 : (i : Int) < (m : Int) := by omega
      have HGET := Lib.hid hget
      clear hx hget hlen hpl o2
      go_wp2_with (fail)
      (refine wp_region_pops 1 (S := (fun W' => W'.cell? ⟨gN, 2, none⟩ = some (.slice (some ⟨g, off, none⟩) m c))) (pre := ?_) (T := ?_) (n := ?_) (by kernel_rfl) (by kernel_rfl) ?_ ?_ ?_ ?_ (fun hHeld => ?_); rotate_left 3; (focus (simp only [pops, List.pop_toArray, List.dropLast_cons_cons, List.dropLast_singleton]; rfl)); (focus (simp only [tailOf, List.back?_toArray, List.getLast?_cons_cons, List.getLast?_singleton, Option.toList_some, List.nil_append]; rfl)); (focus rfl); (focus (exact q2)))
      ((refine wpAnyH_take (i := 0) (v := ?_) rfl (by kernel_rfl) (by kernel_rfl) (by kernel_rfl) (fun _ _ _ h => h) (Or.inl ⟨by rfl, ?_⟩) (by assumption) ?_; rotate_left; (focus (intro W hSw; (try dsimp only at hSw); go_simp; try (with_reducible rfl)))); (try simp only [List.getElem_toArray, List.getElem_cons_zero, Act.put, List.setIfInBounds_toArray, List.set_cons_zero, List.set_cons_succ]); (refine wpAnyH_take (i := 1) (v := ?_) rfl (by kernel_rfl) (by kernel_rfl) (by kernel_rfl) (fun _ _ _ h => h) (Or.inl ⟨by rfl, ?_⟩) (by assumption) ?_; rotate_left; (focus (intro W hSw; (try dsimp only at hSw); go_simp; try (with_reducible rfl)))); (try simp only [List.getElem_toArray, List.getElem_cons_zero, List.getElem_cons_succ, Act.put, List.setIfInBounds_toArray, List.set_cons_zero, List.set_cons_succ]); (refine wpAnyH_take (i := 2) (v := ?_) rfl (by kernel_rfl) (by kernel_rfl) (by kernel_rfl) (fun _ _ _ h => h) (Or.inl ⟨by rfl, ?_⟩) (by assumption) ?_; rotate_left; (focus (intro W hSw; (try dsimp only at hSw); go_simp; try (with_reducible rfl)))); (try simp only [List.getElem_toArray, List.getElem_cons_zero, List.getElem_cons_succ, Act.put, List.setIfInBounds_toArray, List.set_cons_zero, List.set_cons_succ]); (refine wpAnyH_take (i := 3) (v := ?_) rfl (by kernel_rfl) (by kernel_rfl) (by kernel_rfl) (fun _ _ _ h => h) (Or.inl ⟨by rfl, ?_⟩) (by assumption) ?_; rotate_left; (focus (intro W hSw; (try dsimp only at hSw); go_simp; try (with_reducible rfl)))); (try simp only [List.getElem_toArray, List.getElem_cons_zero, List.getElem_cons_succ, Act.put, List.setIfInBounds_toArray, List.set_cons_zero, List.set_cons_succ]); (refine wpAnyH_take (i := 4) (v := ?_) rfl (by kernel_rfl) (by kernel_rfl) (by kernel_rfl) (fun _ _ _ h => h) (Or.inl ⟨by rfl, ?_⟩) (by assumption) ?_; rotate_left; (focus (intro W hSw; (try dsimp only at hSw); go_simp; try (with_reducible rfl)))); (try simp only [List.getElem_toArray, List.getElem_cons_zero, List.getElem_cons_succ, Act.put, List.setIfInBounds_toArray, List.set_cons_zero, List.set_cons_succ]); (refine wpAnyH_take (i := 5) (v := ?_) rfl (by kernel_rfl) (by kernel_rfl) (by kernel_rfl) (fun _ _ _ h => h) (Or.inl ⟨by rfl, ?_⟩) (by assumption) ?_; rotate_left; (focus (intro W hSw; (try dsimp only at hSw); go_simp; try (with_reducible rfl)))); (try simp only [List.getElem_toArray, List.getElem_cons_zero, List.getElem_cons_succ, Act.put, List.setIfInBounds_toArray, List.set_cons_zero, List.set_cons_succ]))
      (refine wpAnyH_ready (rs := [6]) (by kernel_rfl) (by simp) ?_; refine AllReadyH.cons rfl (fun K hK => ?_) AllReadyH.nil)
      go_simp
      refine (impl_flip n p A2 c2 wr.drew ip HPM.out (by omega)).mono ?_; rintro e w7 ⟨A7, c7, rfl, o7', b7'⟩
      have b7 : Below wr.heap.size wr w7 := undrew b7'
      have o7 : OwnC w7 wr.heap.size w7.heap.size 2 1 A7 n c7 ((flipl p).map (Value.int .i64)) := o7'
      refine hK.out _ _ (cells_below b7 _ _ q2) (fun hHeld => ?_)
      clear hK K b7' o7'
      (try simp only [List.getElem_toArray, List.getElem_cons_zero, List.getElem_cons_succ, Act.put, List.setIfInBounds_toArray, List.set_cons_zero, List.set_cons_succ])
      ((refine wpAnyH_take (i := 7) (v := ?_) rfl (by kernel_rfl) (by kernel_rfl) (by kernel_rfl) (fun _ _ _ h => h) (Or.inl ⟨by rfl, ?_⟩) (by assumption) ?_; rotate_left; (focus (intro W hSw; (try dsimp only at hSw); go_simp; try (with_reducible rfl)))); (try simp only [List.getElem_toArray, List.getElem_cons_zero, List.getElem_cons_succ, Act.put, List.setIfInBounds_toArray, List.set_cons_zero, List.set_cons_succ]))
      (refine wpAnyH_done (by kernel_rfl) ?_ _; change wpList _ _ _ _ _ _)
      clear hHeld
      have hF7 := hF.below b7 (Nat.le_refl _)
      obtain ⟨g', off', _, _, hA, _, _, cc7, ff7, _, _⟩ := hF7.get HGET.out
      injection hA with hA
      injection hA with hA hA'
      subst hA hA'
      have hF8 := hF7.put (k := i) (by rw [HLEN.out]; exact him) o7 ((flip_length p).trans HPM.out.len) b7.size (by omega)
      have kb7 := kb.below b7 kb.lt
      have hgN : gN ≠ g := by omega
      go_wp2_with (fail)
      go_roundw
      case rel =>
        refine ⟨i + 1, by omega, by go_num, kb7.far (p := ⟨g, off + i, none⟩) hgN _, ?_, (hb.trans (b7.mono (by omega))).setCell (by show gN + 1 ≤ g; omega) _, Lib.hid fun k h1 h2 => (Below.heap_setCell w7 _ _ k (by show k ≠ g; have := HGH.out; omega)).trans ((b7.block k (by omega)).trans (HKK.out k h1 h2))⟩
        rw [← HS.out]
        exact hF8.mono (by simp)
      case measure => simp [intOf]; omega
    · obtain rfl : i = m := by omega
      have di : decide ((i : Int) < (i : Int)) = false := decide_eq_false (by omega)
      go_wp2_with (fail)
      go_end0
      rw [take_all (by rw [HL.out]; exact Nat.le_refl _), List.drop_eq_nil_of_le (by rw [HL.out]; exact Nat.le_refl _), List.append_nil] at hF
      exact ⟨rfl, ⟨A, c, kb, hF⟩, hb, HKK.out⟩

end Go.Proofs.YtnjgmhdmjaijgaaGreat

/- Normal forms, the program's side: the normal form of a word. -/
namespace Go.Proofs.YtnjgmhdmjaijgaaGreat
open Go Go.RowKit
open Br (idl halfl invl flipl sw bh dB finB lwB Pm wd prod LW Eqv Dp Lt Fl)

/-- The form F, with k half twists in front, is the product of the factors of the word's first letters. -/
theorem nf_pos {n k k2 : Nat} {F F2 fs : List (List Int)} {p : List Int} (h : Eqv (Dp n k ++ prod F) (prod fs)) (h2 : Eqv (Dp n k2 ++ prod F2) (prod F ++ wd p)) : Eqv (Dp n (k + k2) ++ prod F2) (prod (fs ++ [p])) := by
  rw [prod_snoc, Br.Dp_add, List.append_assoc]
  refine (h2.pre _).trans ?_
  rw [← List.append_assoc]
  exact h.post _
theorem nf_flip {n k : Nat} {F fs : List (List Int)} (h : Eqv (Dp n k ++ prod F) (prod fs)) (hF : ∀ p ∈ F, Pm n p) (hf : ∀ p ∈ fs, Pm n p) : Eqv (Dp n k ++ prod (F.map flipl)) (prod (fs.map flipl)) :=
  Fl.uniq ((Fl.pow n k).app (fl_prod F hF)) (fl_prod fs hf) h

theorem Fac.lo {w : World} {lo lo' hi n m c : Nat} {A : Option Addr} {F : List (List Int)} (h : Fac w lo hi n A m c F) (hh : lo' ≤ lo) : Fac w lo' hi n A m c F := by
  obtain ⟨cs, h1, h2⟩ := h
  refine ⟨cs, ⟨h1.len, h1.cap, h1.cmax, ?_⟩, h2.len, fun k p hp => ?_, h2.ne⟩
  · rcases h1.ex with h3 | ⟨g, off, cur, e1, e2, e3, e4⟩
    · exact .inl h3
    · exact .inr ⟨g, off, cur, e1, by omega, e3, e4⟩
  · obtain ⟨A', c', e1, e2, e3⟩ := h2.own k p hp
    exact ⟨A', c', e1, e2.mono hh (Nat.le_refl _), e3⟩

set_option maxHeartbeats 8000000 in
set_option maxRecDepth 10000 in
theorem impl_normalOf (n : Nat) (xs : List Int) (A : Option Addr) (c : Nat) (w : World) (h : Ints w A xs) (hx : ∀ x ∈ xs, Lt n x) (hn : n ≤ 12) (hl : xs.length ≤ 100) :
    Calls Tryz.prog 122 #[.int .i64 (n : Int), .slice A xs.length c] w fun e w' => ∃ (k m : Nat) (F : List (List Int)) (A' : Option Addr) (c' : Nat), e = .returned (.agg #[.int .i64 (n : Int), .int .i64 ((k : Int) - (negs xs : Int)), .slice A' m c']) ∧ Br.NFok n F ∧ Eqv (Dp n k ++ prod F) (prod (facs n xs)) ∧ k + m ≤ xs.length ∧ Fac w' w.heap.size w'.heap.size n A' m c' F ∧ Below w.heap.size w w' := by
  have t1 : (114 : TypeId) ≠ 2 := by decide
  have t2 : (114 : TypeId) ≠ 36 := by decide
  have HX := Lib.hid hx; clear hx
  obtain ⟨w1, hw1⟩ : ∃ w1, w1 = (w.alloc (.cells #[.int .i64 0, .int .i64 0, .slice none 0 0] 114)).alloc (.cells #[.int .i64 (n : Int), .int .i64 0, .slice none 0 0] 114) := ⟨_, rfl⟩
  have kz1 : Blk w1 w.heap.size 114 #[.int .i64 0, .int .i64 0, .slice none 0 0] := by rw [hw1]; exact (Blk.new w _ _).alloc _
  have kx1 : Blk w1 (w.heap.size + 1) 114 #[.int .i64 (n : Int), .int .i64 0, .slice none 0 0] := by rw [hw1]; simpa using Blk.new (w.alloc (.cells #[.int .i64 0, .int .i64 0, .slice none 0 0] 114)) 114 #[.int .i64 (n : Int), .int .i64 0, .slice none 0 0]
  have hb1 : Below w.heap.size w w1 := by rw [hw1]; (repeat (first | exact Below.refl _ _ | assumption | apply Below.drew | apply below_drewN | (refine Below.alloc ?_ (by first | omega | (simp; done) | (simp; omega)) _) | (refine Below.setCell ?_ (by first | omega | (simp; done) | (simp; omega)) _)))
  have hz1' : w1.heap.size = w.heap.size + 2 := by rw [hw1]; simp
  obtain ⟨gX, hgX⟩ : ∃ gX, gX = w.heap.size + 1 := ⟨_, rfl⟩
  rw [← hgX] at kx1
  have hlo : gX + 1 ≤ w1.heap.size ∧ w.heap.size < gX := by omega
  go_enter Tryz.func122, Tryz.ntmps122
  go_upto_region 2 with fail
  rw [← hw1, ← hgX]
  clear hw1 hgX hz1'
  go_wp2_with (fail)
  go_loopw [13] (fun iv wr => ∃ (i m k : Nat) (y : Int) (F : List (List Int)), i ≤ xs.length ∧ iv = .int .i64 (i : Int) ∧ Hid (y = (k : Int) - (negs (xs.take i) : Int) ∧ Br.NFok n F ∧ Eqv (Dp n k ++ prod F) (prod (facs n (xs.take i)))) ∧ (k + m ≤ i ∧ -(i : Int) ≤ y ∧ y ≤ (k : Int)) ∧ Blk wr w.heap.size 114 #[.int .i64 0, .int .i64 0, .slice none 0 0] ∧ NB wr gX n y m F ∧ Below w.heap.size w wr) (fun iv _ => xs.length - (intOf iv).toNat)
  case atStart =>
    refine ⟨0, 0, 0, 0, [], Nat.zero_le _, rfl, Lib.hid ⟨rfl, ⟨fun p hp => (by cases hp), trivial, fun p G h => (by cases h)⟩, .refl _⟩, ⟨Nat.le_refl _, by simp, by simp⟩, kz1, ⟨none, 0, kx1, Fac.nil rfl rfl⟩, hb1⟩
  case round =>
    have hzX := hlo.2
    clear kz1 kx1 hb1 hlo
    obtain ⟨i, m, k, y, F, hi, rfl, HY, hyi, kz, hN, hb⟩ := hrel
    have hzs := hb.size
    by_cases hil : i < xs.length
    · have di : decide ((i : Int) < (xs.length : Int)) = true := decide_eq_true (by omega)
      obtain ⟨b, off, x, rfl, hc, hx⟩ := (h.below hb) i hil
      have hlt := HX.out x (List.mem_of_getElem? hx)
      unfold Br.Lt at hlt
      obtain ⟨ff1, ff2, _⟩ := facs_facts (n := n) HX.out i hi
      have HF1 := Lib.hid ff1
      have hfs := facs_snoc (n := n) hx
      have hns := negs_snoc hx
      have j1 : (0 : Int) ≤ (i : Int) := by omega
      have j2 : (i : Int) < (xs.length : Int) := by omega
      have hxs : -1000 ≤ x ∧ x ≤ 1000 := by omega
      have HXS := Lib.hid hxs
      have h2n : 2 ≤ n ∧ n ≤ 12 := by omega
      have HPM : Hid (∀ p ∈ F, Pm n p) := Lib.hid (fun p hp => (HY.out.2.1.1 p hp).1)
      clear hxs ff1 ff2 hx
      by_cases hp : 0 < x
      · obtain ⟨j, hj⟩ : ∃ j : Nat, x = (j : Int) + 1 := ⟨x.toNat - 1, by omega⟩
        have dp : decide (x < 0) = false := decide_eq_false (by omega)
        have HFS : Hid (facs n (xs.take (i + 1)) = facs n (xs.take i) ++ [bh j (idl n)]) := Lib.hid (by rw [hfs, facN_pos hj])
        have HNS : Hid (negs (xs.take (i + 1)) = negs (xs.take i)) := Lib.hid (by rw [hns, if_neg (by omega), Nat.add_zero])
        have HAB : Hid (absI x = (j : Int) + 1) := Lib.hid (by unfold absI; split <;> omega)
        have HPB := Lib.hid ((Pm.id n).bh (k := j) (by omega))
        have jn : j + 1 < n := by omega
        clear hfs hns hj hp hlt
        go_wp2_with (go_at_call 94; refine (impl_size _ _ HXS.out).mono ?_; rintro e _ ⟨rfl, rfl⟩; rw [HAB.out])
        refine (impl_letterPermutation n j wr jn (by omega)).mono ?_; rintro e w2 ⟨A4, c4, rfl, o4, b4⟩
        have kz2 := kz.below b4 kz.lt
        have hb2 : Below w.heap.size w w2 := hb.trans (b4.mono hzs)
        have hN2 : NB w2 gX n y m F := by
          obtain ⟨A0, c0, kb, hF⟩ := hN
          exact ⟨A0, c0, kb.below b4 kb.lt, (hF.below b4 (Nat.le_refl _)).mono b4.size⟩
        have ip := OwnC.ints o4
        clear hN kz hb hc o4 b4
        go_wp2_with (fail)
        refine (impl_times gX n m y F (bh j (idl n)) A4 c4 w2 hN2 HPM.out ip HPB.out h2n (by omega) (by omega)).mono ?_; rintro e w3 ⟨rfl, k2, m2, F2, hN3, hnf, he, hkm, b3⟩
        have HE : Hid (Br.NFok n F2 ∧ Eqv (Dp n (k + k2) ++ prod F2) (prod (facs n (xs.take (i + 1))))) := Lib.hid ⟨hnf, by rw [HFS.out]; exact nf_pos HY.out.2.2 he⟩
        have kz3 : Blk w3 w.heap.size 114 #[.int .i64 0, .int .i64 0, .slice none 0 0] := kz2.below b3 hzX
        have hb3 : Below w.heap.size w w3 := hb2.trans (b3.mono (by omega))
        clear hnf he hN2 kz2 hb2 b3 ip
        go_wp2_with (fail)
        refine ⟨⟨i + 1, m2, k + k2, y + (k2 : Int), F2, by omega, by go_num, Lib.hid ⟨?_, HE.out⟩, ⟨by omega, by omega, by omega⟩, kz3, hN3, hb3⟩, by simp [intOf]; omega⟩
        rw [HNS.out, HY.out.1]
        omega
      · obtain ⟨j, hj⟩ : ∃ j : Nat, x = -((j : Int) + 1) := ⟨(-x).toNat - 1, by omega⟩
        have dp : decide (x < 0) = true := decide_eq_true (by omega)
        have HFS : Hid (facs n (xs.take (i + 1)) = (facs n (xs.take i)).map flipl ++ [bh j (halfl n)]) := Lib.hid (by rw [hfs, facN_neg hj])
        have HNS : Hid (negs (xs.take (i + 1)) = negs (xs.take i) + 1) := Lib.hid (by rw [hns, if_pos (by omega)])
        have HAB : Hid (absI x = (j : Int) + 1) := Lib.hid (by unfold absI; split <;> omega)
        have HPB := Lib.hid ((Br.halfl_Pm n).bh (k := j) (by omega))
        have HLB : Hid ((bh j (idl n)).length = n) := Lib.hid ((Pm.id n).bh (k := j) (by omega)).len
        have jn : j + 1 < n := by omega
        have wy : IntKind.i64.wrap (y - 1) = y - 1 := IntWalk.i64_in _ ⟨by omega, by omega⟩
        clear hfs hns hj hp hlt
        go_upto_region 7 with (first | (go_at_call 94; refine (impl_size _ _ HXS.out).mono ?_; rintro e _ ⟨rfl, rfl⟩; rw [HAB.out]) | (go_at_call 153; refine (impl_letterPermutation n j wr jn (by omega)).mono ?_; rintro e w2 ⟨A4, c4, rfl, o4, b4⟩))
        have kz2 := kz.below b4 kz.lt
        have hb2 : Below w.heap.size w w2 := hb.trans (b4.mono hzs)
        obtain ⟨A0, c0, kb, hF⟩ := hN
        have kb2 := kb.below b4 kb.lt
        have hF2 := hF.below b4 (Nat.le_refl _)
        have hgz : gX + 1 ≤ wr.heap.size := kb.lt
        obtain ⟨p0, p1, p2⟩ := kb2.c3
        have fr1 := kb2.frozen 1
        have kb5 : Blk (w2.setCell ⟨gX, 1, none⟩ (.int .i64 (y - 1))) gX 114 #[.int .i64 (n : Int), .int .i64 (y - 1), .slice A0 m c0] := kb2.set31 _
        have hF5 : Fac (w2.setCell ⟨gX, 1, none⟩ (.int .i64 (y - 1))) (gX + 1) wr.heap.size n A0 m c0 F := hF2.box kb2 t1 t2 1 _
        have kz3 : Blk (w2.setCell ⟨gX, 1, none⟩ (.int .i64 (y - 1))) w.heap.size 114 #[.int .i64 0, .int .i64 0, .slice none 0 0] := kz2.far (p := ⟨gX, 1, none⟩) (by show w.heap.size ≠ gX; omega) (.int .i64 (y - 1))
        have hb3 : Below w.heap.size w (w2.setCell ⟨gX, 1, none⟩ (.int .i64 (y - 1))) := hb2.setCell (by show w.heap.size ≤ gX; omega) _
        have o5 : OwnC (w2.setCell ⟨gX, 1, none⟩ (.int .i64 (y - 1))) wr.heap.size w2.heap.size 2 1 A4 n c4 ((bh j (idl n)).map (Value.int .i64)) := OwnC.farT o4 kb2 t1 1 _
        have hz5 : wr.heap.size ≤ (w2.setCell ⟨gX, 1, none⟩ (.int .i64 (y - 1))).heap.size := by have := b4.size; simpa using this
        obtain ⟨w5, hw5⟩ : ∃ w5, w5 = w2.setCell ⟨gX, 1, none⟩ (.int .i64 (y - 1)) := ⟨_, rfl⟩
        obtain ⟨hW, hhW⟩ : ∃ hW, hW = wr.heap.size := ⟨_, rfl⟩
        obtain ⟨hV, hhV⟩ : ∃ hV, hV = w2.heap.size := ⟨_, rfl⟩
        go_upto_region 8 with fail
        rw [← hw5] at kb5 hF5 kz3 hb3 o5 hz5 ⊢
        rw [← hhW] at hF5 o5 hz5 hgz
        rw [← hhV] at o5
        clear hw5 hhW hhV p0 p1 p2 fr1 kb2 hF2 kb hF kz2 hb2 o4 b4 kz hb hc hzs
        go_wp2_with (fail)
        refine (impl_flipAll2 gX n m hW (y - 1) F A0 c0 w5 kb5 hF5 hz5 HPM.out h2n.2 (by omega)).mono ?_; rintro e w6 ⟨rfl, hN6, b6, hkk⟩
        have o6 : OwnC w6 hW hV 2 1 A4 n c4 ((bh j (idl n)).map (Value.int .i64)) := o5.keep fun k h1 h2 h3 => hkk k h1 h3
        have kz6 : Blk w6 w.heap.size 114 #[.int .i64 0, .int .i64 0, .slice none 0 0] := kz3.below b6 (by omega)
        have hb6 : Below w.heap.size w w6 := hb3.trans (b6.mono (by omega))
        clear kb5 hF5 hz5 kz3 hb3 o5 b6 hkk hgz
        go_wp2_with (fail)
        refine (impl_halfTwist n w6 (by omega)).mono ?_; rintro e w7 ⟨A7, c7, rfl, o7, b7⟩
        have ip7 : Ints w7 A4 (bh j (idl n)) := (OwnC.ints o6).below b7
        go_wp2_with (fail)
        refine (impl_compose n (halfl n) (bh j (idl n)) A7 A4 c7 c4 w7 (OwnC.ints o7) ip7 (Br.halfl_Pm n) HLB.out (by omega)).mono ?_; rintro e w8 ⟨A8, c8, rfl, o8, b8⟩
        rw [cmpl_bh (Br.halfl_Pm n)] at o8
        have b78 : Below w6.heap.size w6 w8 := b7.trans (b8.mono b7.size)
        have ip8 := OwnC.ints o8
        have hN8 : NB w8 gX n (y - 1) m (F.map flipl) := by
          obtain ⟨A1, c1, kb, hF⟩ := hN6
          exact ⟨A1, c1, kb.below b78 kb.lt, (hF.below b78 (Nat.le_refl _)).mono b78.size⟩
        have kz8 := kz6.below b78 kz6.lt
        have hb8 : Below w.heap.size w w8 := hb6.trans (b78.mono hb6.size)
        have HPF : Hid (∀ p ∈ F.map flipl, Pm n p) := Lib.hid (fun p hp => by
          obtain ⟨q, hq, rfl⟩ := List.mem_map.1 hp
          exact (HPM.out q hq).flip)
        clear hN6 kz6 hb6 b78 b7 b8 o7 o8 o6 ip7
        go_wp2_with (fail)
        refine (impl_times gX n m (y - 1) (F.map flipl) (bh j (halfl n)) A8 c8 w8 hN8 HPF.out ip8 HPB.out h2n (by omega) (by omega)).mono ?_; rintro e w9 ⟨rfl, k2, m2, F2, hN9, hnf, he, hkm, b9⟩
        have HE : Hid (Br.NFok n F2 ∧ Eqv (Dp n (k + k2) ++ prod F2) (prod (facs n (xs.take (i + 1))))) := Lib.hid ⟨hnf, by rw [HFS.out]; exact nf_pos (nf_flip HY.out.2.2 HPM.out HF1.out) he⟩
        have kz9 : Blk w9 w.heap.size 114 #[.int .i64 0, .int .i64 0, .slice none 0 0] := kz8.below b9 hzX
        have hb9 : Below w.heap.size w w9 := hb8.trans (b9.mono (by omega))
        clear hnf he hN8 kz8 hb8 b9 ip8
        go_wp2_with (fail)
        refine ⟨⟨i + 1, m2, k + k2, y - 1 + (k2 : Int), F2, by omega, by go_num, Lib.hid ⟨?_, HE.out⟩, ⟨by omega, by omega, by omega⟩, kz9, hN9, hb9⟩, by simp [intOf]; omega⟩
        rw [HNS.out, HY.out.1]
        omega
    · obtain rfl : i = xs.length := by omega
      have di : decide ((xs.length : Int) < (xs.length : Int)) = false := decide_eq_false (by omega)
      obtain ⟨hy1, hy2, hy3⟩ := HY.out
      rw [take_all (Nat.le_refl _)] at hy1 hy3
      have HE : Hid (y = (k : Int) - (negs xs : Int) ∧ Br.NFok n F ∧ Eqv (Dp n k ++ prod F) (prod (facs n xs))) := Lib.hid ⟨hy1, hy2, hy3⟩
      clear hy1 hy2 hy3 HY
      obtain ⟨A0, c0, kb, hF⟩ := hN
      obtain ⟨p0, p1, p2⟩ := kb.c3
      obtain ⟨r0, r1, r2⟩ := kz.c3
      have fz0 := kz.frozen 0
      have fz1 := kz.frozen 1
      have fz2 := kz.frozen 2
      have hne : ¬ w.heap.size = gX := by omega
      have hne2 : ¬ gX = w.heap.size := by omega
      go_wp2_with (fail)
      have k1 := kz.set30 (.int .i64 (n : Int))
      have k2 := k1.set31 (.int .i64 y)
      have k3 := k2.set32 (.slice A0 m c0)
      obtain ⟨r0, r1, r2⟩ := k3.c3
      refine bodyPost_ret (v := .agg #[.int .i64 (n : Int), .int .i64 y, .slice A0 m c0]) (by simp [results, Tryz.results122, go_sem, r0, r1, r2]) rfl ⟨k, m, F, A0, c0, ?_, HE.out.2.1, HE.out.2.2, hyi.1, ?_, ?_⟩
      · rw [← HE.out.1]
      · exact ((((hF.box kz t1 t2 0 (.int .i64 (n : Int))).box k1 t1 t2 1 (.int .i64 y)).box k2 t1 t2 2 (.slice A0 m c0)).mono (by simp)).lo (by omega)
      · exact ((hb.setCell (Nat.le_refl _) _).setCell (Nat.le_refl _) _).setCell (Nat.le_refl _) _

end Go.Proofs.YtnjgmhdmjaijgaaGreat
