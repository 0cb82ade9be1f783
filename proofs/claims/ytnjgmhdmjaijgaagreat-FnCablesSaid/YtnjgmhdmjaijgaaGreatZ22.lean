/- Steps of the proof, joined from several texts: QJ QK. -/
import Derived.Test.YtnjgmhdmjaijgaaGreatZ21
import Derived.Test.YtnjgmhdmjaijgaaGreatZ16
import Derived.Deep.DeepCutAuto
import Derived.Deep.LoopGhost

/- Two factors are weighed, the program's side: letters go from the second one to the first, in place. -/
namespace Go.Proofs.YtnjgmhdmjaijgaaGreat
open Go Go.RowKit
open Br (idl halfl invl flipl sw bh dB finB lwB Pm wd prod LW Eqv)

/-- Nothing but two blocks changes. -/
structure Two (gp gq : Nat) (w w' : World) : Prop where
  os : w'.os = w.os
  tape : w'.tape = w.tape
  output : w'.output = w.output
  size : w.heap.size ≤ w'.heap.size
  block : ∀ k, k < w.heap.size → k ≠ gp → k ≠ gq → w'.heap[k]? = w.heap[k]?
theorem Two.refl (gp gq : Nat) (w : World) : Two gp gq w w := ⟨rfl, rfl, rfl, Nat.le_refl _, fun _ _ _ _ => rfl⟩
theorem Two.trans {gp gq : Nat} {a b c : World} (h : Two gp gq a b) (k : Two gp gq b c) : Two gp gq a c :=
  ⟨k.os.trans h.os, k.tape.trans h.tape, k.output.trans h.output, Nat.le_trans h.size k.size, fun q h1 h2 h3 => (k.block q (Nat.lt_of_lt_of_le h1 h.size) h2 h3).trans (h.block q h1 h2 h3)⟩
theorem Two.of_below {gp gq : Nat} {a b : World} (h : Below a.heap.size a b) : Two gp gq a b := ⟨h.os, h.tape, h.output, h.size, fun k hk _ _ => h.block k hk⟩
theorem Two.set {gp gq : Nat} {a b : World} (h : Two gp gq a b) {g j : Nat} (hg : g = gp ∨ g = gq) (u : Value) : Two gp gq a (b.setCell ⟨g, j, none⟩ u) :=
  h.trans ⟨rfl, rfl, rfl, by simp, fun k _ h1 h2 => Below.heap_setCell b _ u k (by show k ≠ g; omega)⟩
theorem Two.drewN {gp gq : Nat} {a b : World} (h : Two gp gq a b) (n : Nat) : Two gp gq a (b.drewN n) := h.trans (Two.of_below (below_drewN (Below.refl _ _) n))
theorem Two.belowLo {gp gq lo : Nat} {a b : World} (h : Two gp gq a b) (h1 : lo ≤ gp) (h2 : lo ≤ gq) (h3 : lo ≤ a.heap.size) : Below lo a b :=
  ⟨h.os, h.tape, h.output, h.size, fun k hk => h.block k (by omega) (by omega) (by omega)⟩
theorem OwnC.far2 {w : World} {lo hi : Nat} {e : TypeId} {sz n c g j : Nat} {gq : Nat} {cs : List Value} (h : OwnC w lo hi e sz (some ⟨gq, 0, none⟩) n c cs) (hne : gq ≠ g) (u : Value) : OwnC (w.setCell ⟨g, j, none⟩ u) lo hi e sz (some ⟨gq, 0, none⟩) n c cs :=
  OwnC.keep1 h fun q hq => by
    injection hq with hq
    injection hq with hq
    subst hq
    exact Below.heap_setCell w _ u gq hne
/-- What weighing gives. -/
structure WG (n : Nat) (p q p' q' : List Int) (b : Bool) : Prop where
  pp : Pm n p'
  pq : Pm n q'
  eqv : Eqv (wd p' ++ wd q') (wd p ++ wd q)
  no : b = false → p' = p ∧ q' = q
  yes : b = true → (wd q').length < (wd q).length
theorem WG.start {n : Nat} {p q : List Int} (hp : Pm n p) (hq : Pm n q) : WG n p q p q false := ⟨hp, hq, Eqv.refl _, fun _ => ⟨rfl, rfl⟩, fun h => (by cases h)⟩
theorem WG.step {n : Nat} {p q p' q' : List Int} {b : Bool} {j : Nat} (h : WG n p q p' q' b) (hj : dB j q' = true) (hf : finB j p' = false) : WG n p q (bh j p') (sw j q') true ∧ (wd (sw j q')).length + 1 = (wd q').length := by
  obtain ⟨m1, m2, m3⟩ := Br.move h.pp h.pq hj hf
  have l2 := (Br.wd_start hj).len
  rw [List.length_cons] at l2
  refine ⟨⟨m1, m2, m3.trans h.eqv, fun hh => (by cases hh), fun _ => ?_⟩, by omega⟩
  cases b
  · rw [(h.no rfl).2] at l2 ⊢
    omega
  · have := h.yes rfl; omega

set_option maxHeartbeats 8000000 in
set_option maxRecDepth 10000 in
theorem impl_weigh (n : Nat) (p q : List Int) (gp gq cp cq lo hi : Nat) (w : World) (op : OwnC w lo hi 2 1 (some ⟨gp, 0, none⟩) n cp (p.map (Value.int .i64))) (oq : OwnC w lo hi 2 1 (some ⟨gq, 0, none⟩) n cq (q.map (Value.int .i64))) (hne : gp ≠ gq) (hp : Pm n p) (hq : Pm n q) (hhi : hi ≤ w.heap.size) (hn : n ≤ 12) :
    Calls Tryz.prog 166 #[.slice (some ⟨gp, 0, none⟩) n cp, .slice (some ⟨gq, 0, none⟩) n cq] w fun e w' => ∃ (p' q' : List Int) (b : Bool), e = .returned (.bool b) ∧ WG n p q p' q' b ∧ lwB p' q' ∧ OwnC w' lo hi 2 1 (some ⟨gp, 0, none⟩) n cp (p'.map (Value.int .i64)) ∧ OwnC w' lo hi 2 1 (some ⟨gq, 0, none⟩) n cq (q'.map (Value.int .i64)) ∧ Two gp gq w w' := by
  have HW0 := Lib.hid (WG.start hp hq)
  have hgp : lo ≤ gp ∧ gp < hi := by
    rcases op.form with ⟨hA, _⟩ | ⟨g, _, hA, h1, h2, _⟩
    · cases hA
    · injection hA with hA; injection hA with hA; subst hA; exact ⟨h1, h2⟩
  have hgq : lo ≤ gq ∧ gq < hi := by
    rcases oq.form with ⟨hA, _⟩ | ⟨g, _, hA, h1, h2, _⟩
    · cases hA
    · injection hA with hA; injection hA with hA; subst hA; exact ⟨h1, h2⟩
  clear hp hq
  go_enter Tryz.func166, Tryz.ntmps166
  go_wp2_with (fail)
  go_loopg [5] ((wd q).length) (fun gk bv wr => ∃ (p1 q1 : List Int) (b : Bool), bv = .bool b ∧ Hid (WG n p q p1 q1 b ∧ (wd q1).length ≤ gk) ∧ OwnC wr lo hi 2 1 (some ⟨gp, 0, none⟩) n cp (p1.map (Value.int .i64)) ∧ OwnC wr lo hi 2 1 (some ⟨gq, 0, none⟩) n cq (q1.map (Value.int .i64)) ∧ Two gp gq w wr)
  case atStart => exact ⟨p, q, false, rfl, Lib.hid ⟨HW0.out, Nat.le_refl _⟩, op, oq, Two.refl _ _ _⟩
  case round =>
    clear op oq
    obtain ⟨p1, q1, b, rfl, HG, op, oq, h2⟩ := hrel
    have hpm := HG.out.1.pp
    have hqm := HG.out.1.pq
    have HPM := Lib.hid hpm; have HQM := Lib.hid hqm
    clear hpm hqm
    go_wp2_with (fail)
    refine (impl_missing n p1 q1 _ _ cp cq wr (OwnC.ints op) (OwnC.ints oq) HPM.out HQM.out hn).mono ?_; rintro e w2 ⟨k, rfl, hk, b2⟩
    have hz2 : hi ≤ wr.heap.size := Nat.le_trans hhi h2.size
    have op2 := OwnC.below op b2 hz2
    have oq2 := OwnC.below oq b2 hz2
    have t2 := h2.trans (Two.of_below b2)
    clear op oq h2 b2 hz2
    rcases hk with ⟨rfl, hlw⟩ | ⟨j, rfl, hj, hf⟩
    · have HLW := Lib.hid hlw; clear hlw
      go_wp2_with (fail)
      go_ret
      exact ⟨p1, q1, b, rfl, HG.out.1, HLW.out, op2, oq2, t2⟩
    · obtain ⟨s1, s2⟩ := HG.out.1.step hj hf
      have jn : j + 1 < n := by have := Br.dB_lt hj; rwa [HQM.out.len] at this
      have HS1 : Hid (WG n p q (bh j p1) (sw j q1) true ∧ (wd (sw j q1)).length < gk) := Lib.hid ⟨s1, by have := HG.out.2; omega⟩
      have e0 : ((j : Int) + 1 == 0) = false := by rw [beq_eq_false_iff_ne]; omega
      have hpl := HPM.out.len
      have hql := HQM.out.len
      have HPL := Lib.hid hpl; have HQL := Lib.hid hql
      have j1 : IntKind.i64.wrap ((j : Int) + 1 - 1) = (j : Int) := by rw [show (j : Int) + 1 - 1 = (j : Int) by omega]; exact IntWalk.i64_in _ (by omega)
      have j1' : IntKind.i64.wrap (j : Int) = (j : Int) := IntWalk.i64_in _ (by omega)
      clear hj hf s1 s2 hpl hql HG
      go_wp2_with (fail)
      go_loopw [17] (fun iv wq => ∃ i : Nat, i ≤ n ∧ iv = .int .i64 (i : Int) ∧ OwnC wq lo hi 2 1 (some ⟨gp, 0, none⟩) n cp ((bh j (p1.take i) ++ p1.drop i).map (Value.int .i64)) ∧ OwnC wq lo hi 2 1 (some ⟨gq, 0, none⟩) n cq (q1.map (Value.int .i64)) ∧ Two gp gq w wq) (fun iv _ => n - (intOf iv).toNat)
      case atStart => exact ⟨0, Nat.zero_le _, rfl, by simpa [bh] using op2, oq2, t2⟩
      case round =>
        clear op2 oq2 t2
        obtain ⟨i, hi', rfl, op, oq, ht⟩ := hrel
        by_cases hin : i < n
        · have di : decide ((i : Int) < (n : Int)) = true := decide_eq_true (by omega)
          have hx : p1[i]? = some (p1[i]'(by rw [HPL.out]; exact hin)) := List.getElem?_eq_getElem _
          generalize p1[i]'(by rw [HPL.out]; exact hin) = x at hx
          have hF := fv_take (k := j) hx
          have hlen : (bh j (p1.take i) ++ p1.drop i).length = n := by rw [List.length_append, bh, List.length_map, List.length_take, List.length_drop, HPL.out]; omega
          have hget : (bh j (p1.take i) ++ p1.drop i)[i]? = some x := by
            rw [List.getElem?_append_right (by rw [bh, List.length_map, List.length_take, HPL.out]; omega), bh, List.length_map, List.length_take, HPL.out, Nat.min_eq_left hi', Nat.sub_self, drop_cons hx]
            rfl
          obtain ⟨cy, fy, _, _⟩ := own_at (show OwnI wr lo hi (some ⟨gp, 0, none⟩) cp (bh j (p1.take i) ++ p1.drop i) from by show OwnC _ _ _ _ _ _ _ _ _; rw [hlen]; exact op) hget
          have HST : Hid (∀ u, OwnC (wr.setCell ⟨gp, i, none⟩ u) lo hi 2 1 (some ⟨gp, 0, none⟩) n cp (((bh j (p1.take i) ++ p1.drop i).map (Value.int .i64)).set i u)) := Lib.hid (fun u => (OwnC.store op u).1)
          have HF := Lib.hid hF; have HBF := Lib.hid hx
          have k1 : (0 : Int) ≤ (i : Int) := by omega
          have k2 : (i : Int) < (n : Int) := by omega
          have k3 : IntKind.i64.wrap ((i : Int) + 1) = ((i + 1 : Nat) : Int) := by rw [show (i : Int) + 1 = ((i + 1 : Nat) : Int) by omega]; exact IntWalk.i64_in _ ⟨by omega, by omega⟩
          clear hF hx hget hlen
          by_cases h1 : x = (j : Int)
          · have e1 : (x == (j : Int)) = true := by rw [h1]; simp
            have e2 : (x == (j : Int) + 1) = false := by rw [beq_eq_false_iff_ne]; omega
            have HV : Hid (Br.fv j x = (j : Int) + 1) := Lib.hid (by rw [h1, Br.fv_k])
            clear h1
            go_wp2_with (fail)
            go_roundw
            case rel =>
              refine ⟨i + 1, by omega, by go_num, ?_, oq.far2 (Ne.symm hne) _, ht.set (.inl rfl) _⟩
              rw [← HF.out, HV.out, List.map_set]
              exact HST.out _
            case measure => simp [intOf]; omega
          · have e1 : (x == (j : Int)) = false := by rw [beq_eq_false_iff_ne]; exact h1
            by_cases h2 : x = (j : Int) + 1
            · have e2 : (x == (j : Int) + 1) = true := by rw [h2]; simp
              have HV : Hid (Br.fv j x = (j : Int)) := Lib.hid (by rw [h2, Br.fv_k1])
              clear h1 h2
              go_wp2_with (fail)
              go_roundw
              case rel =>
                refine ⟨i + 1, by omega, by go_num, ?_, oq.far2 (Ne.symm hne) _, ht.set (.inl rfl) _⟩
                rw [← HF.out, HV.out, List.map_set]
                exact HST.out _
              case measure => simp [intOf]; omega
            · have e2 : (x == (j : Int) + 1) = false := by rw [beq_eq_false_iff_ne]; exact h2
              have HV : Hid (Br.fv j x = x) := Lib.hid (by rw [Br.fv, if_neg h1, if_neg h2])
              clear h1 h2
              go_wp2_with (fail)
              go_roundw
              case rel =>
                refine ⟨i + 1, by omega, by go_num, ?_, oq, ht⟩
                rw [← HF.out, HV.out]
                have e3 : (bh j (p1.take i) ++ p1.drop i).set i x = bh j (p1.take i) ++ p1.drop i := by
                  have hl1 : (bh j (p1.take i)).length = i := by rw [bh, List.length_map, List.length_take, HPL.out]; omega
                  rw [List.set_append_right _ _ (by omega), hl1, Nat.sub_self, drop_cons HBF.out, List.set_cons_zero]
                rw [e3]
                exact op
              case measure => simp [intOf]; omega
        · obtain rfl : i = n := by omega
          have di : decide ((i : Int) < (i : Int)) = false := decide_eq_false (by omega)
          rw [take_all (by rw [HPL.out]; exact Nat.le_refl _), List.drop_eq_nil_of_le (by rw [HPL.out]; exact Nat.le_refl _), List.append_nil] at op
          obtain ⟨ya, hya⟩ : ∃ y, q1[j]? = some y := ⟨_, List.getElem?_eq_getElem (by rw [HQL.out]; omega)⟩
          obtain ⟨yb, hyb⟩ : ∃ y, q1[j + 1]? = some y := ⟨_, List.getElem?_eq_getElem (by rw [HQL.out]; omega)⟩
          have oq' : OwnI wr lo hi (some ⟨gq, 0, none⟩) cq q1 := by show OwnC _ _ _ _ _ _ _ _ _; rw [HQL.out]; exact oq
          obtain ⟨ca, fa, _, _⟩ := own_at oq' hya
          obtain ⟨cb, fb, _, _⟩ := own_at oq' hyb
          have HSW := Lib.hid (own_swap oq' hya hyb)
          have HSE : Hid (sw j q1 = swapL j q1) := Lib.hid (sw_swapL (by rw [HQL.out]; exact jn))
          have j2 : (0 : Int) ≤ (j : Int) := by omega
          have j3 : (j : Int) < (i : Int) := by omega
          have j4 : (0 : Int) ≤ (j : Int) + 1 := by omega
          have j5 : (j : Int) + 1 < (i : Int) := by omega
          have j6 : ((j : Int) + 1).toNat = j + 1 := by omega
          clear hya hyb oq' oq
          go_wp2_with (fail)
          (refine wp_region_pops 2 (S := (fun _ => True)) (pre := ?_) (T := ?_) (n := ?_) (by kernel_rfl) (by kernel_rfl) ?_ ?_ ?_ ?_ (fun hHeld => ?_); rotate_left 3; (focus (simp only [pops, List.pop_toArray, List.dropLast_cons_cons, List.dropLast_singleton]; rfl)); (focus (simp only [tailOf, List.pop_toArray, List.dropLast_cons_cons, List.dropLast_singleton, List.back?_toArray, List.getLast?_cons_cons, List.getLast?_singleton, Option.toList_some, List.nil_append, List.cons_append]; rfl)); (focus rfl); (focus (exact trivial)))
          ((refine wpAnyH_take (i := 0) (v := ?_) rfl (by kernel_rfl) (by kernel_rfl) (by kernel_rfl) (fun _ _ _ h => h) (Or.inl ⟨by rfl, ?_⟩) (by assumption) ?_; rotate_left; (focus (intro W hSw; (try dsimp only at hSw); go_simp; try (with_reducible rfl)))); (try simp only [List.getElem_toArray, List.getElem_cons_zero, Act.put, List.setIfInBounds_toArray, List.set_cons_zero, List.set_cons_succ]); (refine wpAnyH_take (i := 1) (v := ?_) rfl (by kernel_rfl) (by kernel_rfl) (by kernel_rfl) (fun _ _ _ h => h) (Or.inl ⟨by rfl, ?_⟩) (by assumption) ?_; rotate_left; (focus (intro W hSw; (try dsimp only at hSw); go_simp; try (with_reducible rfl)))); (try simp only [List.getElem_toArray, List.getElem_cons_zero, List.getElem_cons_succ, Act.put, List.setIfInBounds_toArray, List.set_cons_zero, List.set_cons_succ]); (refine wpAnyH_take (i := 2) (v := ?_) rfl (by kernel_rfl) (by kernel_rfl) (by kernel_rfl) (fun _ _ _ h => h) (Or.inl ⟨by rfl, ?_⟩) (by assumption) ?_; rotate_left; (focus (intro W hSw; (try dsimp only at hSw); go_simp; try (with_reducible rfl)))); (try simp only [List.getElem_toArray, List.getElem_cons_zero, List.getElem_cons_succ, Act.put, List.setIfInBounds_toArray, List.set_cons_zero, List.set_cons_succ]); (refine wpAnyH_take (i := 3) (v := ?_) rfl (by kernel_rfl) (by kernel_rfl) (by kernel_rfl) (fun _ _ _ h => h) (Or.inl ⟨by rfl, ?_⟩) (by assumption) ?_; rotate_left; (focus (intro W hSw; (try dsimp only at hSw); go_simp; try (with_reducible rfl)))); (try simp only [List.getElem_toArray, List.getElem_cons_zero, List.getElem_cons_succ, Act.put, List.setIfInBounds_toArray, List.set_cons_zero, List.set_cons_succ]); (refine wpAnyH_take (i := 4) (v := ?_) rfl (by kernel_rfl) (by kernel_rfl) (by kernel_rfl) (fun _ _ _ h => h) (Or.inl ⟨by rfl, ?_⟩) (by assumption) ?_; rotate_left; (focus (intro W hSw; (try dsimp only at hSw); go_simp; try (with_reducible rfl)))); (try simp only [List.getElem_toArray, List.getElem_cons_zero, List.getElem_cons_succ, Act.put, List.setIfInBounds_toArray, List.set_cons_zero, List.set_cons_succ]); (refine wpAnyH_take (i := 5) (v := ?_) rfl (by kernel_rfl) (by kernel_rfl) (by kernel_rfl) (fun _ _ _ h => h) (Or.inl ⟨by rfl, ?_⟩) (by assumption) ?_; rotate_left; (focus (intro W hSw; (try dsimp only at hSw); go_simp; try (with_reducible rfl)))); (try simp only [List.getElem_toArray, List.getElem_cons_zero, List.getElem_cons_succ, Act.put, List.setIfInBounds_toArray, List.set_cons_zero, List.set_cons_succ]); (refine wpAnyH_take (i := 6) (v := ?_) rfl (by kernel_rfl) (by kernel_rfl) (by kernel_rfl) (fun _ _ _ h => h) (Or.inl ⟨by rfl, ?_⟩) (by assumption) ?_; rotate_left; (focus (intro W hSw; (try dsimp only at hSw); go_simp; try (with_reducible rfl)))); (try simp only [List.getElem_toArray, List.getElem_cons_zero, List.getElem_cons_succ, Act.put, List.setIfInBounds_toArray, List.set_cons_zero, List.set_cons_succ]); (refine wpAnyH_take (i := 7) (v := ?_) rfl (by kernel_rfl) (by kernel_rfl) (by kernel_rfl) (fun _ _ _ h => h) (Or.inl ⟨by rfl, ?_⟩) (by assumption) ?_; rotate_left; (focus (intro W hSw; (try dsimp only at hSw); go_simp; try (with_reducible rfl)))); (try simp only [List.getElem_toArray, List.getElem_cons_zero, List.getElem_cons_succ, Act.put, List.setIfInBounds_toArray, List.set_cons_zero, List.set_cons_succ]); (refine wpAnyH_take (i := 9) (v := ?_) rfl (by kernel_rfl) (by kernel_rfl) (by kernel_rfl) (fun _ _ _ h => h) (Or.inl ⟨by rfl, ?_⟩) (by assumption) ?_; rotate_left; (focus (intro W hSw; (try dsimp only at hSw); go_simp; try (with_reducible rfl)))); (try simp only [List.getElem_toArray, List.getElem_cons_zero, List.getElem_cons_succ, Act.put, List.setIfInBounds_toArray, List.set_cons_zero, List.set_cons_succ]); (refine wpAnyH_take (i := 10) (v := ?_) rfl (by kernel_rfl) (by kernel_rfl) (by kernel_rfl) (fun _ _ _ h => h) (Or.inl ⟨by rfl, ?_⟩) (by assumption) ?_; rotate_left; (focus (intro W hSw; (try dsimp only at hSw); go_simp; try (with_reducible rfl)))); (try simp only [List.getElem_toArray, List.getElem_cons_zero, List.getElem_cons_succ, Act.put, List.setIfInBounds_toArray, List.set_cons_zero, List.set_cons_succ]); (refine wpAnyH_take (i := 11) (v := ?_) rfl (by kernel_rfl) (by kernel_rfl) (by kernel_rfl) (fun _ _ _ h => h) (Or.inl ⟨by rfl, ?_⟩) (by assumption) ?_; rotate_left; (focus (intro W hSw; (try dsimp only at hSw); go_simp; try (with_reducible rfl)))); (try simp only [List.getElem_toArray, List.getElem_cons_zero, List.getElem_cons_succ, Act.put, List.setIfInBounds_toArray, List.set_cons_zero, List.set_cons_succ]); (refine wpAnyH_take (i := 12) (v := ?_) rfl (by kernel_rfl) (by kernel_rfl) (by kernel_rfl) (fun _ _ _ h => h) (Or.inl ⟨by rfl, ?_⟩) (by assumption) ?_; rotate_left; (focus (intro W hSw; (try dsimp only at hSw); go_simp; try (with_reducible rfl)))); (try simp only [List.getElem_toArray, List.getElem_cons_zero, List.getElem_cons_succ, Act.put, List.setIfInBounds_toArray, List.set_cons_zero, List.set_cons_succ]))
          refine wpAnyH_ready (rs := [8, 13]) (by kernel_rfl) (by simp) ?_
          refine AllReadyH.cons rfl (fun K hK => ?_) (AllReadyH.cons rfl (fun K hK => ?_) AllReadyH.nil)
          · go_simp
            refine hK.out _ _ trivial (fun hHeld => ?_)
            clear hK K
            (try simp only [List.getElem_toArray, List.getElem_cons_zero, List.getElem_cons_succ, Act.put, List.setIfInBounds_toArray, List.set_cons_zero, List.set_cons_succ])
            (refine wpAnyH_ready (rs := [13]) (by kernel_rfl) (by simp) ?_; refine AllReadyH.cons rfl (fun K hK => ?_) AllReadyH.nil)
            go_simp
            refine hK.out _ _ trivial (fun hHeld => ?_)
            clear hK K
            (try simp only [List.getElem_toArray, List.getElem_cons_zero, List.getElem_cons_succ, Act.put, List.setIfInBounds_toArray, List.set_cons_zero, List.set_cons_succ])
            ((refine wpAnyH_take (i := 14) (v := ?_) rfl (by kernel_rfl) (by kernel_rfl) (by kernel_rfl) (fun _ _ _ h => h) (Or.inl ⟨by rfl, ?_⟩) (by assumption) ?_; rotate_left; (focus (intro W hSw; (try dsimp only at hSw); go_simp; try (with_reducible rfl)))); (try simp only [List.getElem_toArray, List.getElem_cons_zero, List.getElem_cons_succ, Act.put, List.setIfInBounds_toArray, List.set_cons_zero, List.set_cons_succ]))
            refine wpAnyH_end (i := 15) (by kernel_rfl) rfl rfl (by kernel_rfl) ?_
            go_wp2_with (fail)
            refine lastQ_mk trivial ?_
            change wpList _ _ _ _ _ _
            go_wp2_with (fail)
            go_roundg ((wd (sw j q1)).length)
            case measure => exact HS1.out.2
            case rel =>
              refine ⟨bh j p1, sw j q1, true, rfl, Lib.hid ⟨HS1.out.1, Nat.le_refl _⟩, ?_, ?_, ?_⟩
              · exact OwnC.drew1 ((op.far2 hne _).far2 hne _)
              · have h3 := HSW.out
                rw [← HSE.out] at h3
                have h4 : OwnC _ _ _ _ _ _ _ _ _ := h3
                rw [Br.sw_length, HQL.out] at h4
                exact OwnC.drew1 h4
              · exact ((ht.set (.inr rfl) _).set (.inr rfl) _).drewN 1
          · go_simp
            refine hK.out _ _ trivial (fun hHeld => ?_)
            clear hK K
            (try simp only [List.getElem_toArray, List.getElem_cons_zero, List.getElem_cons_succ, Act.put, List.setIfInBounds_toArray, List.set_cons_zero, List.set_cons_succ])
            (refine wpAnyH_ready (rs := [8]) (by kernel_rfl) (by simp) ?_; refine AllReadyH.cons rfl (fun K hK => ?_) AllReadyH.nil)
            go_simp
            refine hK.out _ _ trivial (fun hHeld => ?_)
            clear hK K
            (try simp only [List.getElem_toArray, List.getElem_cons_zero, List.getElem_cons_succ, Act.put, List.setIfInBounds_toArray, List.set_cons_zero, List.set_cons_succ])
            ((refine wpAnyH_take (i := 14) (v := ?_) rfl (by kernel_rfl) (by kernel_rfl) (by kernel_rfl) (fun _ _ _ h => h) (Or.inl ⟨by rfl, ?_⟩) (by assumption) ?_; rotate_left; (focus (intro W hSw; (try dsimp only at hSw); go_simp; try (with_reducible rfl)))); (try simp only [List.getElem_toArray, List.getElem_cons_zero, List.getElem_cons_succ, Act.put, List.setIfInBounds_toArray, List.set_cons_zero, List.set_cons_succ]))
            refine wpAnyH_end (i := 15) (by kernel_rfl) rfl rfl (by kernel_rfl) ?_
            go_wp2_with (fail)
            refine lastQ_mk trivial ?_
            change wpList _ _ _ _ _ _
            go_wp2_with (fail)
            go_roundg ((wd (sw j q1)).length)
            case measure => exact HS1.out.2
            case rel =>
              refine ⟨bh j p1, sw j q1, true, rfl, Lib.hid ⟨HS1.out.1, Nat.le_refl _⟩, ?_, ?_, ?_⟩
              · exact OwnC.drew1 ((op.far2 hne _).far2 hne _)
              · have h3 := HSW.out
                rw [← HSE.out] at h3
                have h4 : OwnC _ _ _ _ _ _ _ _ _ := h3
                rw [Br.sw_length, HQL.out] at h4
                exact OwnC.drew1 h4
              · exact ((ht.set (.inr rfl) _).set (.inr rfl) _).drewN 1

end Go.Proofs.YtnjgmhdmjaijgaaGreat

/- Normal forms, the program's side: all factors are turned; half twists in front and nothing behind are taken away. -/
namespace Go.Proofs.YtnjgmhdmjaijgaaGreat
open Go Go.RowKit
open Br (idl halfl invl flipl sw bh dB finB lwB Pm wd prod LW Eqv)

set_option maxHeartbeats 2000000 in
set_option maxRecDepth 10000 in
theorem impl_flip (n : Nat) (p : List Int) (A : Option Addr) (c : Nat) (w : World) (h : Ints w A p) (hp : Pm n p) (hn : n ≤ 100) :
    Calls Tryz.prog 165 #[.slice A n c] w fun e w' => ∃ A' c', e = .returned (.slice A' n c') ∧ OwnC w' w.heap.size w'.heap.size 2 1 A' n c' ((flipl p).map (Value.int .i64)) ∧ Below w.heap.size w w' := by
  obtain ⟨i0, hi0, hz0, hz1, hz2⟩ := info_parts info_int64
  have HAL := Lib.hid hp.len
  have HAR := Lib.hid (fun x hx => hp.mem.1 hx : ∀ x ∈ p, 0 ≤ x ∧ x < (n : Int))
  have HFL := Lib.hid ((flip_length p).trans hp.len)
  have HFA := Lib.hid (fun i x hi hx => flip_at hi hx : ∀ (i : Nat) (x : Int), i < p.length → p[p.length - 1 - i]? = some x → (flipl p)[i]? = some ((p.length : Int) - 1 - x))
  have HFAR : Hid (∀ a, A = some a → 0 < p.length → a.block ≠ w.heap.size) := Lib.hid (fun a ha h0 e => by
    obtain ⟨b, off, x, hA, hc, _⟩ := h 0 h0
    rw [hA] at ha
    injection ha with ha
    subst ha
    have := cell_lt hc
    have e' : b = w.heap.size := e
    have h2 : b < w.heap.size := this
    omega)
  clear hp
  have w1 : IntKind.i64.wrap ((n : Int) - 1) = (n : Int) - 1 := IntWalk.i64_in _ ⟨by omega, by omega⟩
  go_enter Tryz.func165, Tryz.ntmps165
  go_wp2_with (refine wpList_make_full _ rfl _ _ _ rfl w.heap.size 2 i0 _ 1 Tryz.underlying36 hi0 hz0 hz1 .i64 .i64 _ _ n rfl rfl rfl rfl (by rw [hz2]; omega) (by unfold maxLen; omega) (Nat.le_refl _) ?_; intro w4 hown hg)
  have b4 : Below w.heap.size w w4 := (Below.refl _ _).grown hg (Nat.le_refl _) (by simp)
  have o4 := OwnC.of_own hown (Nat.le_refl _)
  rw [zerosN2] at o4
  have ia4 := h.below b4
  obtain ⟨hi4, hh4⟩ : ∃ hi4, hi4 = w4.heap.size := ⟨_, rfl⟩
  rw [← hh4] at o4
  have hz4 : hi4 ≤ w4.heap.size := by omega
  clear hown hg hh4
  go_loopw [12] (fun iv wr => ∃ (i : Nat) (cs : List Int), i ≤ n ∧ iv = .int .i64 i ∧ OwnC wr w.heap.size hi4 2 1 (some ⟨w.heap.size, 0, none⟩) n n (cs.map (Value.int .i64)) ∧ Hid (cs.length = n ∧ cs.take i = (flipl p).take i) ∧ Ints wr A p ∧ Below w.heap.size w wr ∧ hi4 ≤ wr.heap.size) (fun iv _ => n - (intOf iv).toNat)
  case atStart => exact ⟨0, _, Nat.zero_le _, rfl, o4, Lib.hid ⟨by simp, by simp⟩, ia4, b4, hz4⟩
  case round =>
    clear o4 ia4 b4 hz4
    obtain ⟨i, cs, hi, rfl, ho, HCS, hia, hb, hz⟩ := hrel
    by_cases hin : i < n
    · have di : decide ((i : Int) < (n : Int)) = true := decide_eq_true (by omega)
      obtain ⟨b, off, x, hA3, hc, hx⟩ := hia (n - 1 - i) (by rw [HAL.out]; omega)
      have hbg : b ≠ w.heap.size := HFAR.out _ hA3 (by rw [HAL.out]; omega)
      subst hA3
      obtain ⟨hx0, hx1⟩ := HAR.out x (List.mem_of_getElem? hx)
      have hfx := HFA.out i x (by rw [HAL.out]; exact hin) (by rw [HAL.out]; exact hx)
      rw [HAL.out] at hfx
      have hcl := HCS.out.1
      obtain ⟨yy, hy⟩ : ∃ yy, cs[i]? = some yy := ⟨_, List.getElem?_eq_getElem (by omega)⟩
      obtain ⟨cy, fy, gy, _⟩ := own_at (show OwnI wr w.heap.size hi4 (some ⟨w.heap.size, 0, none⟩) n cs from by show OwnC _ _ _ _ _ _ _ _ _; rw [hcl]; exact ho) hy
      have HCS2 : Hid ((cs.set i ((n : Int) - 1 - x)).length = n ∧ (cs.set i ((n : Int) - 1 - x)).take (i + 1) = (flipl p).take (i + 1)) := Lib.hid ⟨by simpa using hcl, by rw [take_set_succ _ _ _ (by omega), HCS.out.2, take_snoc hfx]⟩
      clear hcl hy hfx
      obtain ⟨m, hm⟩ : ∃ m, m = n - 1 - i := ⟨_, rfl⟩
      rw [← hm] at hc hx
      have hmn : (n : Int) - 1 - (i : Int) = (m : Int) := by omega
      have w2 : IntKind.i64.wrap ((n : Int) - 1 - (i : Int)) = (m : Int) := by rw [hmn]; exact IntWalk.i64_in _ ⟨by omega, by omega⟩
      have w3 : IntKind.i64.wrap ((n : Int) - 1 - x) = (n : Int) - 1 - x := IntWalk.i64_in _ ⟨by omega, by omega⟩
      have j1 : (0 : Int) ≤ (i : Int) := by omega
      have j3 : (0 : Int) ≤ (m : Int) := by omega
      have j4 : (m : Int) < (n : Int) := by omega
      have j6 : (i : Int) < (n : Int) := by omega
      clear hx hm hmn
      go_wp2_with (fail)
      go_roundw
      case rel =>
        refine ⟨i + 1, cs.set i ((n : Int) - 1 - x), by omega, by go_num, ?_, HCS2, ?_, hb.setCell (Nat.le_refl _) _, by simpa using hz⟩
        · rw [List.map_set]
          exact (OwnC.store ho _).1
        · exact hia.past (fun a ha => by injection ha with ha; subst ha; exact hbg) _
      case measure => simp [intOf]; omega
    · obtain rfl : i = n := by omega
      have di : decide ((i : Int) < (i : Int)) = false := decide_eq_false (by omega)
      go_wp2_with (fail)
      go_ret
      refine ⟨some ⟨w.heap.size, 0, none⟩, i, rfl, ?_, hb⟩
      have e := HCS.out.2
      rw [take_all (by rw [HCS.out.1]; exact Nat.le_refl _), take_all (by rw [HFL.out]; exact Nat.le_refl _)] at e
      rw [← e]
      exact OwnC.mono ho (Nat.le_refl _) hz

/-- The box of a normal form, and its factors behind it. -/
def NB (w : World) (gN n : Nat) (P : Int) (m : Nat) (F : List (List Int)) : Prop := ∃ A c, Blk w gN 114 #[.int .i64 (n : Int), .int .i64 P, .slice A m c] ∧ Fac w (gN + 1) w.heap.size n A m c F
theorem take_flip2 {F : List (List Int)} {i : Nat} {p : List Int} (h : F[i]? = some p) : ((F.take i).map flipl ++ F.drop i).set i (flipl p) = (F.take (i + 1)).map flipl ++ F.drop (i + 1) := by
  have hi : i < F.length := (List.getElem?_eq_some_iff.1 h).1
  have hl : ((F.take i).map flipl).length = i := by rw [List.length_map, List.length_take]; omega
  rw [take_flip h, drop_cons h, List.set_append_right _ _ (by omega), hl, Nat.sub_self, List.set_cons_zero]
  simp
set_option maxHeartbeats 4000000 in
set_option maxRecDepth 10000 in
theorem impl_flipAll (gN n m : Nat) (P : Int) (F : List (List Int)) (w : World) (h : NB w gN n P m F) (hp : ∀ p ∈ F, Pm n p) (hn : n ≤ 12) (hm : m ≤ 1000) :
    Calls Tryz.prog 154 #[.pointer (some ⟨gN, 0, none⟩)] w fun e w' => e = .returned (.tuple #[]) ∧ NB w' gN n P m (F.map flipl) ∧ Below (gN + 1) w w' := by
  have t1 : (114 : TypeId) ≠ 2 := by decide
  have t2 : (114 : TypeId) ≠ 36 := by decide
  obtain ⟨A, c, kb, hF⟩ := h
  have HL := Lib.hid hF.len
  have HP := Lib.hid hp; clear hp
  have hlt := kb.lt
  obtain ⟨q0, q1, q2⟩ := kb.c3
  go_enter Tryz.func154, Tryz.ntmps154
  go_wp2_with (fail)
  clear q0 q1 q2
  go_loopw [9] (fun iv wr => ∃ i : Nat, i ≤ m ∧ iv = .int .i64 (i : Int) ∧ Blk wr gN 114 #[.int .i64 (n : Int), .int .i64 P, .slice A m c] ∧ Fac wr (gN + 1) wr.heap.size n A m c ((F.take i).map flipl ++ F.drop i) ∧ Below (gN + 1) w wr) (fun iv _ => m - (intOf iv).toNat)
  case atStart => exact ⟨0, Nat.zero_le _, rfl, kb, by simpa using hF, Below.refl _ _⟩
  case round =>
    clear kb hF
    obtain ⟨i, hi, rfl, kb, hF, hb⟩ := hrel
    have hzw := hb.size
    by_cases him : i < m
    · have di : decide ((i : Int) < (m : Int)) = true := decide_eq_true (by omega)
      have hx : F[i]? = some (F[i]'(by rw [HL.out]; exact him)) := List.getElem?_eq_getElem _
      generalize F[i]'(by rw [HL.out]; exact him) = p at hx
      have hlen : ((F.take i).map flipl ++ F.drop i).length = m := by rw [List.length_append, List.length_map, List.length_take, List.length_drop, HL.out]; omega
      have hget : ((F.take i).map flipl ++ F.drop i)[i]? = some p := by
        rw [List.getElem?_append_right (by rw [List.length_map, List.length_take, HL.out]; omega), List.length_map, List.length_take, HL.out, Nat.min_eq_left hi, Nat.sub_self, drop_cons hx]
        rfl
      have HS := Lib.hid (take_flip2 hx)
      have HPM := Lib.hid (HP.out p (List.mem_of_getElem? hx))
      obtain ⟨g, off, A2, c2, rfl, hg1, hg2, cc, ff, o2, hpl⟩ := hF.get hget
      have ip := OwnC.ints o2
      obtain ⟨q0, q1, q2⟩ := kb.c3
      have HLEN := Lib.hid hlen
      have j1 : (0 : Int) ≤ (i : Int) := by omega
      have j2 : (i : Int) < (m : Int) := by omega
      have HGET := Lib.hid hget
      clear hx hget hlen hpl o2
      go_wp2_with (fail)
      (refine wp_region_pops 1 (S := (fun W' => W'.cell? ⟨gN, 2, none⟩ = some (.slice (some ⟨g, off, none⟩) m c))) (pre := ?_) (T := ?_) (n := ?_) (by kernel_rfl) (by kernel_rfl) ?_ ?_ ?_ ?_ (fun hHeld => ?_); rotate_left 3; (focus (simp only [pops, List.pop_toArray, List.dropLast_cons_cons, List.dropLast_singleton]; rfl)); (focus (simp only [tailOf, List.back?_toArray, List.getLast?_cons_cons, List.getLast?_singleton, Option.toList_some, List.nil_append]; rfl)); (focus rfl); (focus (exact q2)))
      ((refine wpAnyH_take (i := 0) (v := ?_) rfl (by kernel_rfl) (by kernel_rfl) (by kernel_rfl) (fun _ _ _ h => h) (Or.inl ⟨by rfl, ?_⟩) (by assumption) ?_; rotate_left; (focus (intro W hSw; (try dsimp only at hSw); go_simp; try (with_reducible rfl)))); (try simp only [List.getElem_toArray, List.getElem_cons_zero, Act.put, List.setIfInBounds_toArray, List.set_cons_zero, List.set_cons_succ]); (refine wpAnyH_take (i := 1) (v := ?_) rfl (by kernel_rfl) (by kernel_rfl) (by kernel_rfl) (fun _ _ _ h => h) (Or.inl ⟨by rfl, ?_⟩) (by assumption) ?_; rotate_left; (focus (intro W hSw; (try dsimp only at hSw); go_simp; try (with_reducible rfl)))); (try simp only [List.getElem_toArray, List.getElem_cons_zero, List.getElem_cons_succ, Act.put, List.setIfInBounds_toArray, List.set_cons_zero, List.set_cons_succ]); (refine wpAnyH_take (i := 2) (v := ?_) rfl (by kernel_rfl) (by kernel_rfl) (by kernel_rfl) (fun _ _ _ h => h) (Or.inl ⟨by rfl, ?_⟩) (by assumption) ?_; rotate_left; (focus (intro W hSw; (try dsimp only at hSw); go_simp; try (with_reducible rfl)))); (try simp only [List.getElem_toArray, List.getElem_cons_zero, List.getElem_cons_succ, Act.put, List.setIfInBounds_toArray, List.set_cons_zero, List.set_cons_succ]); (refine wpAnyH_take (i := 3) (v := ?_) rfl (by kernel_rfl) (by kernel_rfl) (by kernel_rfl) (fun _ _ _ h => h) (Or.inl ⟨by rfl, ?_⟩) (by assumption) ?_; rotate_left; (focus (intro W hSw; (try dsimp only at hSw); go_simp; try (with_reducible rfl)))); (try simp only [List.getElem_toArray, List.getElem_cons_zero, List.getElem_cons_succ, Act.put, List.setIfInBounds_toArray, List.set_cons_zero, List.set_cons_succ]); (refine wpAnyH_take (i := 4) (v := ?_) rfl (by kernel_rfl) (by kernel_rfl) (by kernel_rfl) (fun _ _ _ h => h) (Or.inl ⟨by rfl, ?_⟩) (by assumption) ?_; rotate_left; (focus (intro W hSw; (try dsimp only at hSw); go_simp; try (with_reducible rfl)))); (try simp only [List.getElem_toArray, List.getElem_cons_zero, List.getElem_cons_succ, Act.put, List.setIfInBounds_toArray, List.set_cons_zero, List.set_cons_succ]); (refine wpAnyH_take (i := 5) (v := ?_) rfl (by kernel_rfl) (by kernel_rfl) (by kernel_rfl) (fun _ _ _ h => h) (Or.inl ⟨by rfl, ?_⟩) (by assumption) ?_; rotate_left; (focus (intro W hSw; (try dsimp only at hSw); go_simp; try (with_reducible rfl)))); (try simp only [List.getElem_toArray, List.getElem_cons_zero, List.getElem_cons_succ, Act.put, List.setIfInBounds_toArray, List.set_cons_zero, List.set_cons_succ]))
      (refine wpAnyH_ready (rs := [6]) (by kernel_rfl) (by simp) ?_; refine AllReadyH.cons rfl (fun K hK => ?_) AllReadyH.nil)
      go_simp
      refine (impl_flip n p A2 c2 wr.drew ip HPM.out (by omega)).mono ?_; rintro e w7 ⟨A7, c7, rfl, o7', b7'⟩
      have b7 : Below wr.heap.size wr w7 := undrew b7'
      have o7 : OwnC w7 wr.heap.size w7.heap.size 2 1 A7 n c7 ((flipl p).map (Value.int .i64)) := o7'
      refine hK.out _ _ (cells_below b7 _ _ q2) (fun hHeld => ?_)
      clear hK K b7' o7'
      (try simp only [List.getElem_toArray, List.getElem_cons_zero, List.getElem_cons_succ, Act.put, List.setIfInBounds_toArray, List.set_cons_zero, List.set_cons_succ])
      ((refine wpAnyH_take (i := 7) (v := ?_) rfl (by kernel_rfl) (by kernel_rfl) (by kernel_rfl) (fun _ _ _ h => h) (Or.inl ⟨by rfl, ?_⟩) (by assumption) ?_; rotate_left; (focus (intro W hSw; (try dsimp only at hSw); go_simp; try (with_reducible rfl)))); (try simp only [List.getElem_toArray, List.getElem_cons_zero, List.getElem_cons_succ, Act.put, List.setIfInBounds_toArray, List.set_cons_zero, List.set_cons_succ]))
      (refine wpAnyH_done (by kernel_rfl) ?_ _; change wpList _ _ _ _ _ _)
      clear hHeld
      have hF7 := hF.below b7 (Nat.le_refl _)
      obtain ⟨g', off', _, _, hA, _, _, cc7, ff7, _, _⟩ := hF7.get HGET.out
      injection hA with hA
      injection hA with hA hA'
      subst hA hA'
      have hF8 := hF7.put (k := i) (by rw [HLEN.out]; exact him) o7 ((flip_length p).trans HPM.out.len) b7.size (by omega)
      have kb7 := kb.below b7 kb.lt
      have hgN : gN ≠ g := by omega
      go_wp2_with (fail)
      go_roundw
      case rel =>
        refine ⟨i + 1, by omega, by go_num, kb7.far (p := ⟨g, off + i, none⟩) hgN _, ?_, (hb.trans (b7.mono (by omega))).setCell (by show gN + 1 ≤ g; omega) _⟩
        rw [← HS.out]
        exact hF8.mono (by simp)
      case measure => simp [intOf]; omega
    · obtain rfl : i = m := by omega
      have di : decide ((i : Int) < (i : Int)) = false := decide_eq_false (by omega)
      go_wp2_with (fail)
      go_end0
      rw [take_all (by rw [HL.out]; exact Nat.le_refl _), List.drop_eq_nil_of_le (by rw [HL.out]; exact Nat.le_refl _), List.append_nil] at hF
      exact ⟨rfl, ⟨A, c, kb, hF⟩, hb⟩

end Go.Proofs.YtnjgmhdmjaijgaaGreat
