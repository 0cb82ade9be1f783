/- Steps of the proof, joined from several texts: QE QF. -/
import Derived.Test.YthjamohaeahipaaGreatZ21
import Derived.Test.YthjamohaeahipaaGreatZ9
import Derived.Deep.DeepCutAuto
import Derived.Deep.LoopGhost

/- Lists of permutations, the given side: what settling needs, plain; turning a list. -/
namespace Go.Proofs.YthjamohaeahipaaGreat
open Go Go.RowKit
open Br (idl halfl invl flipl sw bh dB finB lwB Pm wd prod LW Eqv)

/-- Letters far behind weigh more. -/
def wtF : Nat → List (List Int) → Nat
  | _, [] => 0
  | i, p :: r => i * (wd p).length + wtF (i + 1) r
theorem wtF_move {p q p' q' : List Int} (h1 : (wd p').length = (wd p).length + 1) (h2 : (wd q).length = (wd q').length + 1) (b : List (List Int)) : ∀ (a : List (List Int)) (i : Nat), wtF i (a ++ p' :: q' :: b) + 1 = wtF i (a ++ p :: q :: b)
  | [], i => by
    simp only [List.nil_append, wtF]
    rw [h1, h2, Nat.mul_succ, Nat.mul_succ]
    omega
  | x :: a, i => by
    have := wtF_move h1 h2 b a (i + 1)
    simp only [List.cons_append, wtF]
    omega
theorem set2_eq {α : Type} {pre post : List α} {a b a' b' : α} : ((pre ++ a :: b :: post).set pre.length a').set (pre.length + 1) b' = pre ++ a' :: b' :: post := by
  induction pre with
  | nil => rfl
  | cons x pre ih => simp
/-- What settling keeps. -/
structure GS (n m : Nat) (F0 F : List (List Int)) : Prop where
  perm : ∀ p ∈ F, Pm n p
  eqv : Eqv (prod F) (prod F0)
  len : F.length = m
/-- All neighbours before a place are left-weighted. -/
def lwTo (F : List (List Int)) (i : Nat) : Prop := ∀ j p q, j < i → F[j]? = some p → F[j + 1]? = some q → lwB p q
theorem lwTo_all : ∀ {F : List (List Int)}, (∀ j p q, F[j]? = some p → F[j + 1]? = some q → lwB p q) → LW F
  | [], _ => trivial
  | [_], _ => trivial
  | p :: q :: F, h => ⟨h 0 p q rfl rfl, lwTo_all (F := q :: F) fun j a b h1 h2 => h (j + 1) a b h1 h2⟩
theorem lwTo_succ {F : List (List Int)} {i : Nat} {p q : List Int} (h : lwTo F i) (hp : F[i]? = some p) (hq : F[i + 1]? = some q) (hl : lwB p q) : lwTo F (i + 1) := by
  intro j a b hj h1 h2
  by_cases e : j = i
  · subst e
    rw [hp] at h1
    rw [hq] at h2
    injection h1 with h1
    injection h2 with h2
    subst h1 h2
    exact hl
  · exact h j a b (by omega) h1 h2
theorem GS.move {n m : Nat} {F0 F : List (List Int)} {i j : Nat} {p q : List Int} (h : GS n m F0 F) (hp : F[i]? = some p) (hq : F[i + 1]? = some q) (hj : dB j q = true) (hf : finB j p = false) :
    GS n m F0 ((F.set i (bh j p)).set (i + 1) (sw j q)) ∧ wtF 0 ((F.set i (bh j p)).set (i + 1) (sw j q)) + 1 = wtF 0 F ∧ (wd (sw j q)).length + 1 = (wd q).length ∧ Pm n (bh j p) ∧ Pm n (sw j q) := by
  have pp := h.perm p (List.mem_of_getElem? hp)
  have pq := h.perm q (List.mem_of_getElem? hq)
  obtain ⟨m1, m2, m3⟩ := Br.move pp pq hj hf
  have l1 := (Br.wd_behind pp (by have := Br.dB_lt hj; rwa [pq.len] at this) (Br.fin_ord pp hf)).len
  have l2 := (Br.wd_start hj).len
  rw [List.length_append, List.length_singleton] at l1
  rw [List.length_cons] at l2
  have hi := (List.getElem?_eq_some_iff.1 hq).1
  obtain ⟨a, x, y, b, rfl, ha⟩ := Br.bi hi
  subst ha
  rw [List.getElem?_append_right (Nat.le_refl _), Nat.sub_self] at hp
  rw [List.getElem?_append_right (by omega), Nat.add_sub_cancel_left] at hq
  simp only [List.getElem?_cons_zero, List.getElem?_cons_succ, Option.some.injEq] at hp hq
  subst hp hq
  rw [set2_eq]
  refine ⟨⟨fun z hz => ?_, ?_, by have := h.len; simpa using this⟩, wtF_move l1 l2 b a 0, by omega, m1, m2⟩
  · simp only [List.mem_append, List.mem_cons] at hz
    rcases hz with hz | rfl | rfl | hz
    · exact h.perm z (by simp [hz])
    · exact m1
    · exact m2
    · exact h.perm z (by simp [hz])
  · refine Eqv.trans ?_ h.eqv
    have e : Eqv (wd (bh j x) ++ (wd (sw j y) ++ prod b)) (wd x ++ (wd y ++ prod b)) := by
      rw [← List.append_assoc, ← List.append_assoc]
      exact m3.post _
    rw [Br.prod_app, Br.prod_app, Br.prod_cons, Br.prod_cons, Br.prod_cons, Br.prod_cons]
    exact e.pre _
theorem take_flip {F : List (List Int)} {i : Nat} {p : List Int} (h : F[i]? = some p) : (F.take (i + 1)).map flipl = (F.take i).map flipl ++ [flipl p] := by
  rw [take_snoc h]; simp

set_option maxHeartbeats 2000000 in
set_option maxRecDepth 10000 in
theorem spec_l04FlipAll (n m lo0 : Nat) (F : List (List Int)) (A : Option Addr) (c : Nat) (w : World) (h : PRows w lo0 n A m c F) (hp : ∀ p ∈ F, Pm n p) (hn : n ≤ 100) (hm : m ≤ 1000) :
    Calls Tryz.prog 84 #[.slice A m c] w fun e w' => ∃ A' c', e = .returned (.slice A' m c') ∧ PRows w' w.heap.size n A' m c' (F.map flipl) ∧ Below w.heap.size w w' := by
  obtain ⟨i1, hi1, hz1, hz2, hz3⟩ := info_parts info_intsI
  have HP := Lib.hid hp; clear hp
  have HL := Lib.hid h.len
  go_enter Tryz.func84, Tryz.ntmps84
  go_wp2_with (fail)
  go_loopw [3, 4] (fun ov iv wr => ∃ (i : Nat) (A3 : Option Addr) (c3 : Nat), i ≤ m ∧ iv = .int .i64 (i : Int) ∧ ov = .slice A3 i c3 ∧ PRows wr w.heap.size n A3 i c3 ((F.take i).map flipl) ∧ Below w.heap.size w wr) (fun _ iv _ => m - (intOf iv).toNat)
  case atStart =>
    refine ⟨0, some ⟨w.heap.size, 0, none⟩, 0, Nat.zero_le _, rfl, rfl, ⟨[], ?_, CR.nil⟩, by (repeat (first | exact Below.refl _ _ | assumption | apply Below.drew | apply below_drewN | (refine Below.alloc ?_ (by first | omega | (simp; done) | (simp; omega)) _) | (refine Below.setCell ?_ (by first | omega | (simp; done) | (simp; omega)) _)))⟩
    exact (OwnC.lit (w := w) (lo := w.heap.size) (n := 0) 24 1 #[] (Nat.le_refl _) (Nat.zero_le _) rfl).mono (Nat.le_refl _) (by simp)
  case round =>
    obtain ⟨i, A3, c3, hi, rfl, rfl, o3, hb⟩ := hrel
    have hzs := hb.size
    by_cases him : i < m
    · have di : decide ((i : Int) < (m : Int)) = true := decide_eq_true (by omega)
      have hx : F[i]? = some (F[i]'(by rw [HL.out]; exact him)) := List.getElem?_eq_getElem _
      generalize F[i]'(by rw [HL.out]; exact him) = p at hx
      obtain ⟨g, A2, c2, rfl, hg1, hg2, q0, _, ip, hpl, _⟩ := (h.below hb).get hx
      have HPM := Lib.hid (HP.out p (List.mem_of_getElem? hx))
      have HT := Lib.hid (take_flip hx)
      have j1 : (0 : Int) ≤ (i : Int) := by omega
      have j2 : (i : Int) < (m : Int) := by omega
      have him2 : i ≤ 1000 := by omega
      clear hx hpl
      go_wp2_with (fail)
      refine (spec_l04Flip n p A2 c2 wr ip HPM.out hn).mono ?_; rintro e w2 ⟨A4, c4, rfl, o4, b4⟩
      obtain ⟨cs, ho, hc⟩ := o3.below b4
      have hz4 : w.heap.size ≤ w2.heap.size := Nat.le_trans hzs b4.size
      have hb4 : Below w.heap.size w w2 := hb.trans (b4.mono hzs)
      clear b4 o3 hb q0
      go_wp2_with (at_builtin; refine wpList_append1 w2 [.slice A4 n c4] _ rfl (.tmp 12) (.tmp 18) _ rfl 24 i1 _ 1 24 Tryz.underlying71 hi1 hz1 hz2 hz3 rfl (by decide) rfl ho hz4 1 rfl rfl (by simp [Value.oneCell']) (by omega) (by decide) ?_; intro A9 c9 w8 ho8 hg8 hb8 hz8)
      refine ⟨⟨i + 1, A9, c9, by omega, by go_num, rfl, ?_, hb4.trans hb8⟩, by simp [intOf]; omega⟩
      rw [HT.out]
      exact PRows.push ho hc (OwnC.mono o4 (Nat.zero_le _) (Nat.le_refl _)) ((flip_length p).trans HPM.out.len) ho8 hg8
    · obtain rfl : i = m := by omega
      have di : decide ((i : Int) < (i : Int)) = false := decide_eq_false (by omega)
      go_wp2_with (fail)
      go_ret
      rw [take_all (by rw [HL.out]; exact Nat.le_refl _)] at o3
      exact ⟨A3, c3, rfl, o3, hb⟩

end Go.Proofs.YthjamohaeahipaaGreat

/- Settling, the given side: all neighbours become left-weighted; then the half twists and the other factors are counted. -/
namespace Go.Proofs.YthjamohaeahipaaGreat
open Go Go.RowKit
open Br (idl halfl invl flipl sw bh dB finB lwB Pm wd prod LW Eqv)

/-- Factors that are half twists, and those that are neither that nor nothing. -/
def cntHalf (n : Nat) (G : List (List Int)) : Nat := G.countP (fun p => decide (p ≠ idl n ∧ p = halfl n))
def cntElse (n : Nat) (G : List (List Int)) : Nat := G.countP (fun p => decide (p ≠ idl n ∧ p ≠ halfl n))
theorem cntHalf_snoc {n i : Nat} {G : List (List Int)} {p : List Int} (h : G[i]? = some p) : cntHalf n (G.take (i + 1)) = cntHalf n (G.take i) + if p ≠ idl n ∧ p = halfl n then 1 else 0 := by
  unfold cntHalf
  rw [take_snoc h, List.countP_append]
  congr 1
  by_cases hh : p ≠ idl n ∧ p = halfl n
  · rw [if_pos hh, List.countP_cons_of_pos (by simpa using hh)]; rfl
  · rw [if_neg hh, List.countP_cons_of_neg (by simpa using hh)]; rfl
theorem cntElse_snoc {n i : Nat} {G : List (List Int)} {p : List Int} (h : G[i]? = some p) : cntElse n (G.take (i + 1)) = cntElse n (G.take i) + if p ≠ idl n ∧ p ≠ halfl n then 1 else 0 := by
  unfold cntElse
  rw [take_snoc h, List.countP_append]
  congr 1
  by_cases hh : p ≠ idl n ∧ p ≠ halfl n
  · rw [if_pos hh, List.countP_cons_of_pos (by simpa using hh)]; rfl
  · rw [if_neg hh, List.countP_cons_of_neg (by simpa using hh)]; rfl
theorem cntHalf_le (n : Nat) (G : List (List Int)) : cntHalf n G ≤ G.length := List.countP_le_length
theorem cntElse_le (n : Nat) (G : List (List Int)) : cntElse n G ≤ G.length := List.countP_le_length
theorem PRows.at_ {w : World} {lo n m c g : Nat} {F : List (List Int)} (h : PRows w lo n (some ⟨g, 0, none⟩) m c F) {k : Nat} {p : List Int} (hp : F[k]? = some p) : ∃ A' c', lo ≤ g ∧ w.cell? ⟨g, k, none⟩ = some (.slice A' n c') ∧ w.frozen? ⟨g, k, none⟩ = false ∧ Ints w A' p ∧ p.length = n := by
  obtain ⟨g', A', c', hA, h1, _, h2, h3, h4, h5, _⟩ := h.get hp
  injection hA with hA
  injection hA with hA
  subst hA
  exact ⟨A', c', h1, h2, h3, h4, h5⟩
/-- What settling gives. -/
def SettleEnd (n : Nat) (F : List (List Int)) (w : World) (e : Ending) (w' : World) : Prop :=
  ∃ (G : List (List Int)) (A' : Option Addr) (c' : Nat), e = .returned (.tuple #[.int .i64 (cntHalf n G : Int), .slice A' (cntElse n G) c']) ∧ (∀ p ∈ G, Pm n p) ∧ LW G ∧ Eqv (prod G) (prod F) ∧ G.length = F.length ∧ Below w.heap.size w w'

theorem spec_l04Is (n : Nat) (p q : List Int) (A B : Option Addr) (c d : Nat) (w : World) (hp : p.length = n) (hq : q.length = n) (h : Ints w A p) (h' : Ints w B q) (hn : n ≤ 100) :
    Calls Tryz.prog 93 #[.slice A n c, .slice B n d] w fun e w' => e = .returned (.bool (decide (p = q))) ∧ Below w.heap.size w w' := by
  have HC := Lib.hid (spec_l00Same A B c d p q w h h' (by omega) (by omega))
  rw [hp, hq] at HC
  go_enter Tryz.func93, Tryz.ntmps93
  go_wp2_with (fail)
  refine HC.out.mono ?_; rintro e w1 ⟨rfl, k, rfl⟩
  go_wp2_with (fail)
  go_ret
  exact ⟨rfl, below_drewN (Below.refl _ _) k⟩

set_option maxHeartbeats 8000000 in
set_option maxRecDepth 10000 in
theorem spec_l04Settle (n m lo0 : Nat) (F : List (List Int)) (A : Option Addr) (c : Nat) (w : World) (h : PRows w lo0 n A m c F) (hp : ∀ p ∈ F, Pm n p) (hn : n ≤ 100) (hm : m ≤ 1000) :
    Calls Tryz.prog 86 #[.int .i64 (n : Int), .slice A m c] w (SettleEnd n F w) := by
  obtain ⟨i1, hi1, hz1, hz2, hz3⟩ := info_parts info_intsI
  have HL := Lib.hid h.len
  have HF0 : Hid (GS n m F F) := Lib.hid ⟨hp, Eqv.refl _, h.len⟩
  clear hp
  have hb1 : Below w.heap.size w (w.alloc (.cells #[] 24)) := by (repeat (first | exact Below.refl _ _ | assumption | apply Below.drew | apply below_drewN | (refine Below.alloc ?_ (by first | omega | (simp; done) | (simp; omega)) _) | (refine Below.setCell ?_ (by first | omega | (simp; done) | (simp; omega)) _)))
  have o1 := OwnC.lit (w := w) (lo := w.heap.size) (n := 0) 24 1 #[] (Nat.le_refl _) (Nat.zero_le _) rfl
  obtain ⟨cs, hoF, hcF⟩ := h.below hb1
  have HN := Lib.hid (OwnC.news hoF)
  have HCL : Hid (cs.length = m * 1) := Lib.hid (by rw [Nat.mul_one, hcF.1, h.len])
  have HONE : Hid (∀ u ∈ cs, u.oneCell' = true) := Lib.hid (fun u hu => by
    obtain ⟨k, hk, rfl⟩ := List.mem_iff_getElem.1 hu
    have hkF : k < F.length := by rw [← hcF.1]; exact hk
    obtain ⟨A', c', e1, _⟩ := hcF.2 k _ (List.getElem?_eq_getElem hkF)
    rw [List.getElem?_eq_getElem hk] at e1
    injection e1 with e1
    rw [e1]
    rfl)
  have O1 := Lib.hid o1; clear o1
  go_enter Tryz.func86, Tryz.ntmps86
  go_upto_region 2 with (at_builtin; refine wpList_appendC (w.alloc (.cells #[] 24)) rfl (.tmp 13) (.tmp 14) _ rfl 24 i1 _ 1 24 Tryz.underlying71 hi1 hz1 hz2 hz3 rfl (by decide) rfl O1.out (by simp) A m c cs rfl HCL.out HN.out HONE.out (by unfold maxLen; omega) (by omega) ?_; intro A5 c5 w5 ho5 hg5 hb5)
  have P5 : PRows w5 w.heap.size n A5 m c5 F := ⟨cs, by simpa using ho5, hcF.grownT O1.out hg5⟩
  have B5 : Below w.heap.size w w5 := hb1.trans hb5
  clear HN HCL HONE O1 hoF hcF hb1 ho5 hg5 hb5 h
  go_wp2_with (fail)
  go_loopg [7] (2 * wtF 0 F + 1) (fun gk cv wr => ∃ (G : List (List Int)) (b : Bool), cv = .bool b ∧ Hid (GS n m F G ∧ (b = false → LW G) ∧ 2 * wtF 0 G + (if b then 1 else 0) ≤ gk) ∧ PRows wr w.heap.size n A5 m c5 G ∧ Below w.heap.size w wr)
  case atStart => exact ⟨F, true, rfl, Lib.hid ⟨HF0.out, fun h => (by cases h), by simp⟩, P5, B5⟩
  case round =>
    clear P5 B5
    obtain ⟨G, b, rfl, HG, hP, hb⟩ := hrel
    cases b
    · have HGE : Hid ((∀ p ∈ G, Pm n p) ∧ LW G ∧ Eqv (prod G) (prod F) ∧ G.length = m) := Lib.hid ⟨HG.out.1.perm, HG.out.2.1 rfl, HG.out.1.eqv, HG.out.1.len⟩
      clear HG
      go_upto_region 17 with fail
      obtain ⟨wA, rfl⟩ : ∃ wA : World, wA = wr := ⟨_, rfl⟩
      go_wp2_with (fail)
      have hA0 : Below wA.heap.size wA (wA.alloc (.cells #[] 24)) := by (repeat (first | exact Below.refl _ _ | assumption | apply Below.drew | apply below_drewN | (refine Below.alloc ?_ (by first | omega | (simp; done) | (simp; omega)) _) | (refine Below.setCell ?_ (by first | omega | (simp; done) | (simp; omega)) _)))
      go_loopw [10, 11, 12] (fun pv ov iv wq => ∃ (i : Nat) (A3 : Option Addr) (c3 x y : Nat) (cs3 : List Value), i ≤ m ∧ iv = .int .i64 (i : Int) ∧ pv = .int .i64 (x : Int) ∧ ov = .slice A3 y c3 ∧ Hid (x = cntHalf n (G.take i) ∧ y = cntElse n (G.take i)) ∧ x ≤ i ∧ y ≤ i ∧ OwnC wq wA.heap.size wq.heap.size 24 1 A3 y c3 cs3 ∧ Below wA.heap.size wA wq) (fun _ _ iv _ => m - (intOf iv).toNat)
      case atStart =>
        refine ⟨0, some ⟨wA.heap.size, 0, none⟩, 0, 0, 0, [], Nat.zero_le _, rfl, rfl, rfl, Lib.hid ⟨rfl, rfl⟩, Nat.le_refl _, Nat.le_refl _, ?_, hA0⟩
        exact (OwnC.lit (w := wA) (lo := wA.heap.size) (n := 0) 24 1 #[] (Nat.le_refl _) (Nat.zero_le _) rfl).mono (Nat.le_refl _) (by simp)
      case round =>
        clear hA0
        obtain ⟨i, A3, c3, x, y, cs3, hi, rfl, rfl, rfl, HXY, hxi, hyi, O0, B0⟩ := hrel
        by_cases him : i < m
        · have di : decide ((i : Int) < (m : Int)) = true := decide_eq_true (by omega)
          have hx : G[i]? = some (G[i]'(by rw [HGE.out.2.2.2]; exact him)) := List.getElem?_eq_getElem _
          generalize G[i]'(by rw [HGE.out.2.2.2]; exact him) = p at hx
          obtain ⟨g, A2, c2, rfl, _, _, q0, _, ip, hpl, _⟩ := (hP.below B0).get hx
          have HPL := Lib.hid hpl; clear hpl
          have hch := cntHalf_snoc (n := n) hx
          have hce := cntElse_snoc (n := n) hx
          have j1 : (0 : Int) ≤ (i : Int) := by omega
          have j2 : (i : Int) < (m : Int) := by omega
          have wx : IntKind.i64.wrap ((x : Int) + 1) = ((x + 1 : Nat) : Int) := by rw [show (x : Int) + 1 = ((x + 1 : Nat) : Int) by omega]; exact IntWalk.i64_in _ ⟨by omega, by omega⟩
          clear hx
          by_cases h1 : p = idl n
          · have dv : decide (p = idl n) = true := decide_eq_true h1
            have HXY2 : Hid (x = cntHalf n (G.take (i + 1)) ∧ y = cntElse n (G.take (i + 1))) := Lib.hid ⟨by rw [hch, if_neg (by intro hh; exact hh.1 h1)]; exact HXY.out.1, by rw [hce, if_neg (by intro hh; exact hh.1 h1)]; exact HXY.out.2⟩
            clear hch hce h1
            go_wp2_with (fail)
            (refine wp_region_pops 1 (S := (fun W' => W'.cell? ⟨g, i, none⟩ = some (.slice A2 n c2))) (pre := ?_) (T := ?_) (n := ?_) (by kernel_rfl) (by kernel_rfl) ?_ ?_ ?_ ?_ (fun hHeld => ?_); rotate_left 3; (focus (simp only [pops, List.pop_toArray, List.dropLast_cons_cons, List.dropLast_singleton]; rfl)); (focus (simp only [tailOf, List.back?_toArray, List.getLast?_cons_cons, List.getLast?_singleton, Option.toList_some, List.nil_append]; rfl)); (focus rfl); (focus (exact q0)))
            ((refine wpAnyH_take (i := 0) (v := ?_) rfl (by kernel_rfl) (by kernel_rfl) (by kernel_rfl) (fun _ _ _ h => h) (Or.inl ⟨by rfl, ?_⟩) (by assumption) ?_; rotate_left; (focus (intro W hSw; (try dsimp only at hSw); go_simp; try (with_reducible rfl)))); (try simp only [List.getElem_toArray, List.getElem_cons_zero, Act.put, List.setIfInBounds_toArray, List.set_cons_zero, List.set_cons_succ]); (refine wpAnyH_take (i := 1) (v := ?_) rfl (by kernel_rfl) (by kernel_rfl) (by kernel_rfl) (fun _ _ _ h => h) (Or.inl ⟨by rfl, ?_⟩) (by assumption) ?_; rotate_left; (focus (intro W hSw; (try dsimp only at hSw); go_simp; try (with_reducible rfl)))); (try simp only [List.getElem_toArray, List.getElem_cons_zero, List.getElem_cons_succ, Act.put, List.setIfInBounds_toArray, List.set_cons_zero, List.set_cons_succ]); (refine wpAnyH_take (i := 2) (v := ?_) rfl (by kernel_rfl) (by kernel_rfl) (by kernel_rfl) (fun _ _ _ h => h) (Or.inl ⟨by rfl, ?_⟩) (by assumption) ?_; rotate_left; (focus (intro W hSw; (try dsimp only at hSw); go_simp; try (with_reducible rfl)))); (try simp only [List.getElem_toArray, List.getElem_cons_zero, List.getElem_cons_succ, Act.put, List.setIfInBounds_toArray, List.set_cons_zero, List.set_cons_succ]); (refine wpAnyH_take (i := 3) (v := ?_) rfl (by kernel_rfl) (by kernel_rfl) (by kernel_rfl) (fun _ _ _ h => h) (Or.inl ⟨by rfl, ?_⟩) (by assumption) ?_; rotate_left; (focus (intro W hSw; (try dsimp only at hSw); go_simp; try (with_reducible rfl)))); (try simp only [List.getElem_toArray, List.getElem_cons_zero, List.getElem_cons_succ, Act.put, List.setIfInBounds_toArray, List.set_cons_zero, List.set_cons_succ]); (refine wpAnyH_take (i := 4) (v := ?_) rfl (by kernel_rfl) (by kernel_rfl) (by kernel_rfl) (fun _ _ _ h => h) (Or.inl ⟨by rfl, ?_⟩) (by assumption) ?_; rotate_left; (focus (intro W hSw; (try dsimp only at hSw); go_simp; try (with_reducible rfl)))); (try simp only [List.getElem_toArray, List.getElem_cons_zero, List.getElem_cons_succ, Act.put, List.setIfInBounds_toArray, List.set_cons_zero, List.set_cons_succ]))
            (refine wpAnyH_ready (rs := [5]) (by kernel_rfl) (by simp) ?_; refine AllReadyH.cons rfl (fun K hK => ?_) AllReadyH.nil)
            go_simp
            refine (spec_l04Identity n (World.drew wr) hn).mono ?_; rintro e w7 ⟨A7, c7, rfl, o7, b7'⟩
            have b7 : Below wr.heap.size wr w7 := undrew b7'
            have q7 := cells_below b7 _ _ q0
            have ip7 := ip.below b7
            refine hK.out _ _ q7 (fun hHeld => ?_)
            clear hK K b7'
            (try simp only [List.getElem_toArray, List.getElem_cons_zero, List.getElem_cons_succ, Act.put, List.setIfInBounds_toArray, List.set_cons_zero, List.set_cons_succ])
            (refine wpAnyH_ready (rs := [6]) (by kernel_rfl) (by simp) ?_; refine AllReadyH.cons rfl (fun K hK => ?_) AllReadyH.nil)
            go_simp
            refine (spec_l04Is n p (idl n) A2 A7 c2 c7 w7 HPL.out (Br.idl_length n) ip7 (OwnC.ints o7) hn).mono ?_; rintro e w8 ⟨rfl, b8⟩
            rw [dv]
            have q8 := cells_below b8 _ _ q7
            refine hK.out _ _ q8 (fun hHeld => ?_)
            clear hK K
            (try simp only [List.getElem_toArray, List.getElem_cons_zero, List.getElem_cons_succ, Act.put, List.setIfInBounds_toArray, List.set_cons_zero, List.set_cons_succ])
            (refine wpAnyH_done (by kernel_rfl) ?_ _; change wpList _ _ _ _ _ _)
            clear hHeld
            have ip8 := ip7.below b8
            have B8 := B0.trans ((b7.trans (b8.mono b7.size)).mono B0.size)
            have O8 := (OwnC.below O0 (b7.trans (b8.mono b7.size)) (Nat.le_refl _)).mono (Nat.le_refl _) (Nat.le_trans b7.size b8.size)
            clear b7 b8 o7 q7 ip7 q0 ip B0 O0
            go_wp2_with (fail)
            go_roundw
            case rel => exact ⟨i + 1, A3, c3, x, y, cs3, by omega, by go_num, rfl, rfl, HXY2, by omega, by omega, O8, B8⟩
            case measure => simp [intOf]; omega
          · have dv : decide (p = idl n) = false := decide_eq_false h1
            by_cases h2 : p = halfl n
            · have dv2 : decide (p = halfl n) = true := decide_eq_true h2
              have HXY2 : Hid (x + 1 = cntHalf n (G.take (i + 1)) ∧ y = cntElse n (G.take (i + 1))) := Lib.hid ⟨by rw [hch, if_pos ⟨h1, h2⟩, ← HXY.out.1], by rw [hce, if_neg (by intro hh; exact hh.2 h2)]; exact HXY.out.2⟩
              clear hch hce h1 h2
              go_wp2_with (fail)
              (refine wp_region_pops 1 (S := (fun W' => W'.cell? ⟨g, i, none⟩ = some (.slice A2 n c2))) (pre := ?_) (T := ?_) (n := ?_) (by kernel_rfl) (by kernel_rfl) ?_ ?_ ?_ ?_ (fun hHeld => ?_); rotate_left 3; (focus (simp only [pops, List.pop_toArray, List.dropLast_cons_cons, List.dropLast_singleton]; rfl)); (focus (simp only [tailOf, List.back?_toArray, List.getLast?_cons_cons, List.getLast?_singleton, Option.toList_some, List.nil_append]; rfl)); (focus rfl); (focus (exact q0)))
              ((refine wpAnyH_take (i := 0) (v := ?_) rfl (by kernel_rfl) (by kernel_rfl) (by kernel_rfl) (fun _ _ _ h => h) (Or.inl ⟨by rfl, ?_⟩) (by assumption) ?_; rotate_left; (focus (intro W hSw; (try dsimp only at hSw); go_simp; try (with_reducible rfl)))); (try simp only [List.getElem_toArray, List.getElem_cons_zero, Act.put, List.setIfInBounds_toArray, List.set_cons_zero, List.set_cons_succ]); (refine wpAnyH_take (i := 1) (v := ?_) rfl (by kernel_rfl) (by kernel_rfl) (by kernel_rfl) (fun _ _ _ h => h) (Or.inl ⟨by rfl, ?_⟩) (by assumption) ?_; rotate_left; (focus (intro W hSw; (try dsimp only at hSw); go_simp; try (with_reducible rfl)))); (try simp only [List.getElem_toArray, List.getElem_cons_zero, List.getElem_cons_succ, Act.put, List.setIfInBounds_toArray, List.set_cons_zero, List.set_cons_succ]); (refine wpAnyH_take (i := 2) (v := ?_) rfl (by kernel_rfl) (by kernel_rfl) (by kernel_rfl) (fun _ _ _ h => h) (Or.inl ⟨by rfl, ?_⟩) (by assumption) ?_; rotate_left; (focus (intro W hSw; (try dsimp only at hSw); go_simp; try (with_reducible rfl)))); (try simp only [List.getElem_toArray, List.getElem_cons_zero, List.getElem_cons_succ, Act.put, List.setIfInBounds_toArray, List.set_cons_zero, List.set_cons_succ]); (refine wpAnyH_take (i := 3) (v := ?_) rfl (by kernel_rfl) (by kernel_rfl) (by kernel_rfl) (fun _ _ _ h => h) (Or.inl ⟨by rfl, ?_⟩) (by assumption) ?_; rotate_left; (focus (intro W hSw; (try dsimp only at hSw); go_simp; try (with_reducible rfl)))); (try simp only [List.getElem_toArray, List.getElem_cons_zero, List.getElem_cons_succ, Act.put, List.setIfInBounds_toArray, List.set_cons_zero, List.set_cons_succ]); (refine wpAnyH_take (i := 4) (v := ?_) rfl (by kernel_rfl) (by kernel_rfl) (by kernel_rfl) (fun _ _ _ h => h) (Or.inl ⟨by rfl, ?_⟩) (by assumption) ?_; rotate_left; (focus (intro W hSw; (try dsimp only at hSw); go_simp; try (with_reducible rfl)))); (try simp only [List.getElem_toArray, List.getElem_cons_zero, List.getElem_cons_succ, Act.put, List.setIfInBounds_toArray, List.set_cons_zero, List.set_cons_succ]))
              (refine wpAnyH_ready (rs := [5]) (by kernel_rfl) (by simp) ?_; refine AllReadyH.cons rfl (fun K hK => ?_) AllReadyH.nil)
              go_simp
              refine (spec_l04Identity n (World.drew wr) hn).mono ?_; rintro e w7 ⟨A7, c7, rfl, o7, b7'⟩
              have b7 : Below wr.heap.size wr w7 := undrew b7'
              have q7 := cells_below b7 _ _ q0
              have ip7 := ip.below b7
              refine hK.out _ _ q7 (fun hHeld => ?_)
              clear hK K b7'
              (try simp only [List.getElem_toArray, List.getElem_cons_zero, List.getElem_cons_succ, Act.put, List.setIfInBounds_toArray, List.set_cons_zero, List.set_cons_succ])
              (refine wpAnyH_ready (rs := [6]) (by kernel_rfl) (by simp) ?_; refine AllReadyH.cons rfl (fun K hK => ?_) AllReadyH.nil)
              go_simp
              refine (spec_l04Is n p (idl n) A2 A7 c2 c7 w7 HPL.out (Br.idl_length n) ip7 (OwnC.ints o7) hn).mono ?_; rintro e w8 ⟨rfl, b8⟩
              rw [dv]
              have q8 := cells_below b8 _ _ q7
              refine hK.out _ _ q8 (fun hHeld => ?_)
              clear hK K
              (try simp only [List.getElem_toArray, List.getElem_cons_zero, List.getElem_cons_succ, Act.put, List.setIfInBounds_toArray, List.set_cons_zero, List.set_cons_succ])
              (refine wpAnyH_done (by kernel_rfl) ?_ _; change wpList _ _ _ _ _ _)
              clear hHeld
              have ip8 := ip7.below b8
              have B8 := B0.trans ((b7.trans (b8.mono b7.size)).mono B0.size)
              have O8 := (OwnC.below O0 (b7.trans (b8.mono b7.size)) (Nat.le_refl _)).mono (Nat.le_refl _) (Nat.le_trans b7.size b8.size)
              clear b7 b8 o7 q7 ip7 q0 ip B0 O0
              have q0 := q8; have ip := ip8; have B0 := B8; have O0 := O8
              clear q8 ip8 B8 O8
              go_wp2_with (fail)
              (refine wp_region_pops 1 (S := (fun W' => W'.cell? ⟨g, i, none⟩ = some (.slice A2 n c2))) (pre := ?_) (T := ?_) (n := ?_) (by kernel_rfl) (by kernel_rfl) ?_ ?_ ?_ ?_ (fun hHeld => ?_); rotate_left 3; (focus (simp only [pops, List.pop_toArray, List.dropLast_cons_cons, List.dropLast_singleton]; rfl)); (focus (simp only [tailOf, List.back?_toArray, List.getLast?_cons_cons, List.getLast?_singleton, Option.toList_some, List.nil_append]; rfl)); (focus rfl); (focus (exact q0)))
              ((refine wpAnyH_take (i := 0) (v := ?_) rfl (by kernel_rfl) (by kernel_rfl) (by kernel_rfl) (fun _ _ _ h => h) (Or.inl ⟨by rfl, ?_⟩) (by assumption) ?_; rotate_left; (focus (intro W hSw; (try dsimp only at hSw); go_simp; try (with_reducible rfl)))); (try simp only [List.getElem_toArray, List.getElem_cons_zero, Act.put, List.setIfInBounds_toArray, List.set_cons_zero, List.set_cons_succ]); (refine wpAnyH_take (i := 1) (v := ?_) rfl (by kernel_rfl) (by kernel_rfl) (by kernel_rfl) (fun _ _ _ h => h) (Or.inl ⟨by rfl, ?_⟩) (by assumption) ?_; rotate_left; (focus (intro W hSw; (try dsimp only at hSw); go_simp; try (with_reducible rfl)))); (try simp only [List.getElem_toArray, List.getElem_cons_zero, List.getElem_cons_succ, Act.put, List.setIfInBounds_toArray, List.set_cons_zero, List.set_cons_succ]); (refine wpAnyH_take (i := 2) (v := ?_) rfl (by kernel_rfl) (by kernel_rfl) (by kernel_rfl) (fun _ _ _ h => h) (Or.inl ⟨by rfl, ?_⟩) (by assumption) ?_; rotate_left; (focus (intro W hSw; (try dsimp only at hSw); go_simp; try (with_reducible rfl)))); (try simp only [List.getElem_toArray, List.getElem_cons_zero, List.getElem_cons_succ, Act.put, List.setIfInBounds_toArray, List.set_cons_zero, List.set_cons_succ]); (refine wpAnyH_take (i := 3) (v := ?_) rfl (by kernel_rfl) (by kernel_rfl) (by kernel_rfl) (fun _ _ _ h => h) (Or.inl ⟨by rfl, ?_⟩) (by assumption) ?_; rotate_left; (focus (intro W hSw; (try dsimp only at hSw); go_simp; try (with_reducible rfl)))); (try simp only [List.getElem_toArray, List.getElem_cons_zero, List.getElem_cons_succ, Act.put, List.setIfInBounds_toArray, List.set_cons_zero, List.set_cons_succ]); (refine wpAnyH_take (i := 4) (v := ?_) rfl (by kernel_rfl) (by kernel_rfl) (by kernel_rfl) (fun _ _ _ h => h) (Or.inl ⟨by rfl, ?_⟩) (by assumption) ?_; rotate_left; (focus (intro W hSw; (try dsimp only at hSw); go_simp; try (with_reducible rfl)))); (try simp only [List.getElem_toArray, List.getElem_cons_zero, List.getElem_cons_succ, Act.put, List.setIfInBounds_toArray, List.set_cons_zero, List.set_cons_succ]))
              (refine wpAnyH_ready (rs := [5]) (by kernel_rfl) (by simp) ?_; refine AllReadyH.cons rfl (fun K hK => ?_) AllReadyH.nil)
              go_simp
              refine (spec_l04Half n (World.drew w8) hn).mono ?_; rintro e w7 ⟨A7, c7, rfl, o7, b7'⟩
              have b7 : Below w8.heap.size w8 w7 := undrew b7'
              have q7 := cells_below b7 _ _ q0
              have ip7 := ip.below b7
              refine hK.out _ _ q7 (fun hHeld => ?_)
              clear hK K b7'
              (try simp only [List.getElem_toArray, List.getElem_cons_zero, List.getElem_cons_succ, Act.put, List.setIfInBounds_toArray, List.set_cons_zero, List.set_cons_succ])
              (refine wpAnyH_ready (rs := [6]) (by kernel_rfl) (by simp) ?_; refine AllReadyH.cons rfl (fun K hK => ?_) AllReadyH.nil)
              go_simp
              refine (spec_l04Is n p (halfl n) A2 A7 c2 c7 w7 HPL.out (Br.halfl_length n) ip7 (OwnC.ints o7) hn).mono ?_; rintro e w9 ⟨rfl, b8⟩
              rw [dv2]
              have q8 := cells_below b8 _ _ q7
              refine hK.out _ _ q8 (fun hHeld => ?_)
              clear hK K
              (try simp only [List.getElem_toArray, List.getElem_cons_zero, List.getElem_cons_succ, Act.put, List.setIfInBounds_toArray, List.set_cons_zero, List.set_cons_succ])
              (refine wpAnyH_done (by kernel_rfl) ?_ _; change wpList _ _ _ _ _ _)
              clear hHeld
              have ip8 := ip7.below b8
              have B8 := B0.trans ((b7.trans (b8.mono b7.size)).mono B0.size)
              have O8 := (OwnC.below O0 (b7.trans (b8.mono b7.size)) (Nat.le_refl _)).mono (Nat.le_refl _) (Nat.le_trans b7.size b8.size)
              clear b7 b8 o7 q7 ip7 q0 ip B0 O0
              go_wp2_with (fail)
              go_roundw
              case rel => exact ⟨i + 1, A3, c3, x + 1, y, cs3, by omega, by go_num, rfl, rfl, HXY2, by omega, by omega, O8, B8⟩
              case measure => simp [intOf]; omega
            · have dv2 : decide (p = halfl n) = false := decide_eq_false h2
              have HXY2 : Hid (x = cntHalf n (G.take (i + 1)) ∧ y + 1 = cntElse n (G.take (i + 1))) := Lib.hid ⟨by rw [hch, if_neg (by intro hh; exact h2 hh.2)]; exact HXY.out.1, by rw [hce, if_pos ⟨h1, h2⟩, ← HXY.out.2]⟩
              clear hch hce h1 h2
              go_wp2_with (fail)
              (refine wp_region_pops 1 (S := (fun W' => W'.cell? ⟨g, i, none⟩ = some (.slice A2 n c2))) (pre := ?_) (T := ?_) (n := ?_) (by kernel_rfl) (by kernel_rfl) ?_ ?_ ?_ ?_ (fun hHeld => ?_); rotate_left 3; (focus (simp only [pops, List.pop_toArray, List.dropLast_cons_cons, List.dropLast_singleton]; rfl)); (focus (simp only [tailOf, List.back?_toArray, List.getLast?_cons_cons, List.getLast?_singleton, Option.toList_some, List.nil_append]; rfl)); (focus rfl); (focus (exact q0)))
              ((refine wpAnyH_take (i := 0) (v := ?_) rfl (by kernel_rfl) (by kernel_rfl) (by kernel_rfl) (fun _ _ _ h => h) (Or.inl ⟨by rfl, ?_⟩) (by assumption) ?_; rotate_left; (focus (intro W hSw; (try dsimp only at hSw); go_simp; try (with_reducible rfl)))); (try simp only [List.getElem_toArray, List.getElem_cons_zero, Act.put, List.setIfInBounds_toArray, List.set_cons_zero, List.set_cons_succ]); (refine wpAnyH_take (i := 1) (v := ?_) rfl (by kernel_rfl) (by kernel_rfl) (by kernel_rfl) (fun _ _ _ h => h) (Or.inl ⟨by rfl, ?_⟩) (by assumption) ?_; rotate_left; (focus (intro W hSw; (try dsimp only at hSw); go_simp; try (with_reducible rfl)))); (try simp only [List.getElem_toArray, List.getElem_cons_zero, List.getElem_cons_succ, Act.put, List.setIfInBounds_toArray, List.set_cons_zero, List.set_cons_succ]); (refine wpAnyH_take (i := 2) (v := ?_) rfl (by kernel_rfl) (by kernel_rfl) (by kernel_rfl) (fun _ _ _ h => h) (Or.inl ⟨by rfl, ?_⟩) (by assumption) ?_; rotate_left; (focus (intro W hSw; (try dsimp only at hSw); go_simp; try (with_reducible rfl)))); (try simp only [List.getElem_toArray, List.getElem_cons_zero, List.getElem_cons_succ, Act.put, List.setIfInBounds_toArray, List.set_cons_zero, List.set_cons_succ]); (refine wpAnyH_take (i := 3) (v := ?_) rfl (by kernel_rfl) (by kernel_rfl) (by kernel_rfl) (fun _ _ _ h => h) (Or.inl ⟨by rfl, ?_⟩) (by assumption) ?_; rotate_left; (focus (intro W hSw; (try dsimp only at hSw); go_simp; try (with_reducible rfl)))); (try simp only [List.getElem_toArray, List.getElem_cons_zero, List.getElem_cons_succ, Act.put, List.setIfInBounds_toArray, List.set_cons_zero, List.set_cons_succ]); (refine wpAnyH_take (i := 4) (v := ?_) rfl (by kernel_rfl) (by kernel_rfl) (by kernel_rfl) (fun _ _ _ h => h) (Or.inl ⟨by rfl, ?_⟩) (by assumption) ?_; rotate_left; (focus (intro W hSw; (try dsimp only at hSw); go_simp; try (with_reducible rfl)))); (try simp only [List.getElem_toArray, List.getElem_cons_zero, List.getElem_cons_succ, Act.put, List.setIfInBounds_toArray, List.set_cons_zero, List.set_cons_succ]))
              (refine wpAnyH_ready (rs := [5]) (by kernel_rfl) (by simp) ?_; refine AllReadyH.cons rfl (fun K hK => ?_) AllReadyH.nil)
              go_simp
              refine (spec_l04Identity n (World.drew wr) hn).mono ?_; rintro e w7 ⟨A7, c7, rfl, o7, b7'⟩
              have b7 : Below wr.heap.size wr w7 := undrew b7'
              have q7 := cells_below b7 _ _ q0
              have ip7 := ip.below b7
              refine hK.out _ _ q7 (fun hHeld => ?_)
              clear hK K b7'
              (try simp only [List.getElem_toArray, List.getElem_cons_zero, List.getElem_cons_succ, Act.put, List.setIfInBounds_toArray, List.set_cons_zero, List.set_cons_succ])
              (refine wpAnyH_ready (rs := [6]) (by kernel_rfl) (by simp) ?_; refine AllReadyH.cons rfl (fun K hK => ?_) AllReadyH.nil)
              go_simp
              refine (spec_l04Is n p (idl n) A2 A7 c2 c7 w7 HPL.out (Br.idl_length n) ip7 (OwnC.ints o7) hn).mono ?_; rintro e w8 ⟨rfl, b8⟩
              rw [dv]
              have q8 := cells_below b8 _ _ q7
              refine hK.out _ _ q8 (fun hHeld => ?_)
              clear hK K
              (try simp only [List.getElem_toArray, List.getElem_cons_zero, List.getElem_cons_succ, Act.put, List.setIfInBounds_toArray, List.set_cons_zero, List.set_cons_succ])
              (refine wpAnyH_done (by kernel_rfl) ?_ _; change wpList _ _ _ _ _ _)
              clear hHeld
              have ip8 := ip7.below b8
              have B8 := B0.trans ((b7.trans (b8.mono b7.size)).mono B0.size)
              have O8 := (OwnC.below O0 (b7.trans (b8.mono b7.size)) (Nat.le_refl _)).mono (Nat.le_refl _) (Nat.le_trans b7.size b8.size)
              clear b7 b8 o7 q7 ip7 q0 ip B0 O0
              have q0 := q8; have ip := ip8; have B0 := B8; have O0 := O8
              clear q8 ip8 B8 O8
              go_wp2_with (fail)
              (refine wp_region_pops 1 (S := (fun W' => W'.cell? ⟨g, i, none⟩ = some (.slice A2 n c2))) (pre := ?_) (T := ?_) (n := ?_) (by kernel_rfl) (by kernel_rfl) ?_ ?_ ?_ ?_ (fun hHeld => ?_); rotate_left 3; (focus (simp only [pops, List.pop_toArray, List.dropLast_cons_cons, List.dropLast_singleton]; rfl)); (focus (simp only [tailOf, List.back?_toArray, List.getLast?_cons_cons, List.getLast?_singleton, Option.toList_some, List.nil_append]; rfl)); (focus rfl); (focus (exact q0)))
              ((refine wpAnyH_take (i := 0) (v := ?_) rfl (by kernel_rfl) (by kernel_rfl) (by kernel_rfl) (fun _ _ _ h => h) (Or.inl ⟨by rfl, ?_⟩) (by assumption) ?_; rotate_left; (focus (intro W hSw; (try dsimp only at hSw); go_simp; try (with_reducible rfl)))); (try simp only [List.getElem_toArray, List.getElem_cons_zero, Act.put, List.setIfInBounds_toArray, List.set_cons_zero, List.set_cons_succ]); (refine wpAnyH_take (i := 1) (v := ?_) rfl (by kernel_rfl) (by kernel_rfl) (by kernel_rfl) (fun _ _ _ h => h) (Or.inl ⟨by rfl, ?_⟩) (by assumption) ?_; rotate_left; (focus (intro W hSw; (try dsimp only at hSw); go_simp; try (with_reducible rfl)))); (try simp only [List.getElem_toArray, List.getElem_cons_zero, List.getElem_cons_succ, Act.put, List.setIfInBounds_toArray, List.set_cons_zero, List.set_cons_succ]); (refine wpAnyH_take (i := 2) (v := ?_) rfl (by kernel_rfl) (by kernel_rfl) (by kernel_rfl) (fun _ _ _ h => h) (Or.inl ⟨by rfl, ?_⟩) (by assumption) ?_; rotate_left; (focus (intro W hSw; (try dsimp only at hSw); go_simp; try (with_reducible rfl)))); (try simp only [List.getElem_toArray, List.getElem_cons_zero, List.getElem_cons_succ, Act.put, List.setIfInBounds_toArray, List.set_cons_zero, List.set_cons_succ]); (refine wpAnyH_take (i := 3) (v := ?_) rfl (by kernel_rfl) (by kernel_rfl) (by kernel_rfl) (fun _ _ _ h => h) (Or.inl ⟨by rfl, ?_⟩) (by assumption) ?_; rotate_left; (focus (intro W hSw; (try dsimp only at hSw); go_simp; try (with_reducible rfl)))); (try simp only [List.getElem_toArray, List.getElem_cons_zero, List.getElem_cons_succ, Act.put, List.setIfInBounds_toArray, List.set_cons_zero, List.set_cons_succ]); (refine wpAnyH_take (i := 4) (v := ?_) rfl (by kernel_rfl) (by kernel_rfl) (by kernel_rfl) (fun _ _ _ h => h) (Or.inl ⟨by rfl, ?_⟩) (by assumption) ?_; rotate_left; (focus (intro W hSw; (try dsimp only at hSw); go_simp; try (with_reducible rfl)))); (try simp only [List.getElem_toArray, List.getElem_cons_zero, List.getElem_cons_succ, Act.put, List.setIfInBounds_toArray, List.set_cons_zero, List.set_cons_succ]))
              (refine wpAnyH_ready (rs := [5]) (by kernel_rfl) (by simp) ?_; refine AllReadyH.cons rfl (fun K hK => ?_) AllReadyH.nil)
              go_simp
              refine (spec_l04Half n (World.drew w8) hn).mono ?_; rintro e w7 ⟨A7, c7, rfl, o7, b7'⟩
              have b7 : Below w8.heap.size w8 w7 := undrew b7'
              have q7 := cells_below b7 _ _ q0
              have ip7 := ip.below b7
              refine hK.out _ _ q7 (fun hHeld => ?_)
              clear hK K b7'
              (try simp only [List.getElem_toArray, List.getElem_cons_zero, List.getElem_cons_succ, Act.put, List.setIfInBounds_toArray, List.set_cons_zero, List.set_cons_succ])
              (refine wpAnyH_ready (rs := [6]) (by kernel_rfl) (by simp) ?_; refine AllReadyH.cons rfl (fun K hK => ?_) AllReadyH.nil)
              go_simp
              refine (spec_l04Is n p (halfl n) A2 A7 c2 c7 w7 HPL.out (Br.halfl_length n) ip7 (OwnC.ints o7) hn).mono ?_; rintro e w9 ⟨rfl, b8⟩
              rw [dv2]
              have q8 := cells_below b8 _ _ q7
              refine hK.out _ _ q8 (fun hHeld => ?_)
              clear hK K
              (try simp only [List.getElem_toArray, List.getElem_cons_zero, List.getElem_cons_succ, Act.put, List.setIfInBounds_toArray, List.set_cons_zero, List.set_cons_succ])
              (refine wpAnyH_done (by kernel_rfl) ?_ _; change wpList _ _ _ _ _ _)
              clear hHeld
              have ip8 := ip7.below b8
              have B8 := B0.trans ((b7.trans (b8.mono b7.size)).mono B0.size)
              have O8 := (OwnC.below O0 (b7.trans (b8.mono b7.size)) (Nat.le_refl _)).mono (Nat.le_refl _) (Nat.le_trans b7.size b8.size)
              clear b7 b8 o7 q7 ip7 q0 ip B0 O0
              have hz9 : wA.heap.size ≤ w9.heap.size := B8.size
              go_wp2_with (at_builtin; refine wpList_append1 w9 [.slice A2 n c2] _ rfl (.tmp 73) (.tmp 78) _ rfl 24 i1 _ 1 24 Tryz.underlying71 hi1 hz1 hz2 hz3 rfl (by decide) rfl O8 hz9 1 rfl rfl (by simp [Value.oneCell']) (by omega) (by decide) ?_; intro A9 c9 w10 ho10 hg10 hb10 hz10)
              refine ⟨⟨i + 1, A9, c9, x, y + 1, _, by omega, by go_num, rfl, rfl, HXY2, by omega, by omega, ho10, B8.trans hb10⟩, by simp [intOf]; omega⟩
        · obtain rfl : i = m := by omega
          have di : decide ((i : Int) < (i : Int)) = false := decide_eq_false (by omega)
          go_wp2_with (fail)
          go_ret2
          obtain ⟨g1, g2, g3, g4⟩ := HGE.out
          have hxy := HXY.out
          rw [take_all (by rw [g4]; exact Nat.le_refl _)] at hxy
          exact ⟨G, A3, c3, by rw [hxy.1, hxy.2]; rfl, g1, g2, g3, g4.trans HL.out.symm, hb.trans (B0.mono hb.size)⟩
    · go_wp2_with (fail)
      go_loopw [7, 8] (fun cv iv wq => ∃ (G2 : List (List Int)) (b2 : Bool) (i : Nat), cv = .bool b2 ∧ iv = .int .i64 (i : Int) ∧ i ≤ m ∧ Hid (GS n m F G2 ∧ (b2 = false → wtF 0 G2 = wtF 0 G ∧ lwTo G2 i) ∧ (b2 = true → wtF 0 G2 < wtF 0 G)) ∧ PRows wq w.heap.size n A5 m c5 G2 ∧ Below w.heap.size w wq) (fun _ iv _ => m + 1 - (intOf iv).toNat)
      case atStart => exact ⟨G, false, 0, rfl, rfl, Nat.zero_le _, Lib.hid ⟨HG.out.1, fun _ => ⟨rfl, fun j p q hj => by omega⟩, fun h => (by cases h)⟩, hP, hb⟩
      case round =>
        clear hP hb
        obtain ⟨G2, b2, i, rfl, rfl, him, HG2, hP, hb⟩ := hrel
        have w1 : IntKind.i64.wrap ((i : Int) + 1) = (i : Int) + 1 := IntWalk.i64_in _ ⟨by omega, by omega⟩
        by_cases hi1m : i + 1 < m
        · have di : decide ((i : Int) + 1 < (m : Int)) = true := decide_eq_true (by omega)
          have hl2 := HG2.out.1.len
          have hx : G2[i]? = some (G2[i]'(by omega)) := List.getElem?_eq_getElem _
          have hy : G2[i + 1]? = some (G2[i + 1]'(by omega)) := List.getElem?_eq_getElem _
          generalize G2[i]'(by omega) = p at hx
          generalize G2[i + 1]'(by omega) = q at hy
          have HPM := Lib.hid (HG2.out.1.perm p (List.mem_of_getElem? hx))
          have HQM := Lib.hid (HG2.out.1.perm q (List.mem_of_getElem? hy))
          obtain ⟨g, A2, c2, rfl, hg1, hg2, q0, f0, ip, _, _⟩ := hP.get hx
          obtain ⟨A3, c3, _, q1, f1, iq, _⟩ := hP.at_ hy
          have j1 : (0 : Int) ≤ (i : Int) := by omega
          have j2 : (i : Int) < (m : Int) := by omega
          have j3 : (0 : Int) ≤ (i : Int) + 1 := by omega
          have j4 : (i : Int) + 1 < (m : Int) := by omega
          have j5 : ((i : Int) + 1).toNat = i + 1 := by omega
          have HX := Lib.hid hx; clear hx
          have HY := Lib.hid hy; clear hy
          clear hl2
          go_wp2_with (fail)
          (refine wp_region_pops 1 (S := (fun W' => W'.cell? ⟨g, i, none⟩ = some (.slice A2 n c2) ∧ W'.cell? ⟨g, i + 1, none⟩ = some (.slice A3 n c3))) (pre := ?_) (T := ?_) (n := ?_) (by kernel_rfl) (by kernel_rfl) ?_ ?_ ?_ ?_ (fun hHeld => ?_); rotate_left 3; (focus (simp only [pops, List.pop_toArray, List.dropLast_cons_cons, List.dropLast_singleton]; rfl)); (focus (simp only [tailOf, List.back?_toArray, List.getLast?_cons_cons, List.getLast?_singleton, Option.toList_some, List.nil_append]; rfl)); (focus rfl); (focus (exact ⟨q0, q1⟩)))
          ((refine wpAnyH_take (i := 0) (v := ?_) rfl (by kernel_rfl) (by kernel_rfl) (by kernel_rfl) (fun _ _ _ h => h) (Or.inl ⟨by rfl, ?_⟩) (by assumption) ?_; rotate_left; (focus (intro W hSw; (try dsimp only at hSw); go_simp; try (with_reducible rfl)))); (try simp only [List.getElem_toArray, List.getElem_cons_zero, Act.put, List.setIfInBounds_toArray, List.set_cons_zero, List.set_cons_succ]); (refine wpAnyH_take (i := 1) (v := ?_) rfl (by kernel_rfl) (by kernel_rfl) (by kernel_rfl) (fun _ _ _ h => h) (Or.inl ⟨by rfl, ?_⟩) (by assumption) ?_; rotate_left; (focus (intro W hSw; (try dsimp only at hSw); go_simp; try (with_reducible rfl)))); (try simp only [List.getElem_toArray, List.getElem_cons_zero, List.getElem_cons_succ, Act.put, List.setIfInBounds_toArray, List.set_cons_zero, List.set_cons_succ]); (refine wpAnyH_take (i := 2) (v := ?_) rfl (by kernel_rfl) (by kernel_rfl) (by kernel_rfl) (fun _ _ _ h => h) (Or.inl ⟨by rfl, ?_⟩) (by assumption) ?_; rotate_left; (focus (intro W hSw; (try dsimp only at hSw); go_simp; try (with_reducible rfl)))); (try simp only [List.getElem_toArray, List.getElem_cons_zero, List.getElem_cons_succ, Act.put, List.setIfInBounds_toArray, List.set_cons_zero, List.set_cons_succ]); (refine wpAnyH_take (i := 3) (v := ?_) rfl (by kernel_rfl) (by kernel_rfl) (by kernel_rfl) (fun _ _ _ h => h) (Or.inl ⟨by rfl, ?_⟩) (by assumption) ?_; rotate_left; (focus (intro W hSw; (try dsimp only at hSw); go_simp; try (with_reducible rfl)))); (try simp only [List.getElem_toArray, List.getElem_cons_zero, List.getElem_cons_succ, Act.put, List.setIfInBounds_toArray, List.set_cons_zero, List.set_cons_succ]); (refine wpAnyH_take (i := 4) (v := ?_) rfl (by kernel_rfl) (by kernel_rfl) (by kernel_rfl) (fun _ _ _ h => h) (Or.inl ⟨by rfl, ?_⟩) (by assumption) ?_; rotate_left; (focus (intro W hSw; (try dsimp only at hSw); go_simp; try (with_reducible rfl)))); (try simp only [List.getElem_toArray, List.getElem_cons_zero, List.getElem_cons_succ, Act.put, List.setIfInBounds_toArray, List.set_cons_zero, List.set_cons_succ]); (refine wpAnyH_take (i := 5) (v := ?_) rfl (by kernel_rfl) (by kernel_rfl) (by kernel_rfl) (fun _ _ _ h => h) (Or.inl ⟨by rfl, ?_⟩) (by assumption) ?_; rotate_left; (focus (intro W hSw; (try dsimp only at hSw); go_simp; try (with_reducible rfl)))); (try simp only [List.getElem_toArray, List.getElem_cons_zero, List.getElem_cons_succ, Act.put, List.setIfInBounds_toArray, List.set_cons_zero, List.set_cons_succ]); (refine wpAnyH_take (i := 6) (v := ?_) rfl (by kernel_rfl) (by kernel_rfl) (by kernel_rfl) (fun _ _ _ h => h) (Or.inl ⟨by rfl, ?_⟩) (by assumption) ?_; rotate_left; (focus (intro W hSw; (try dsimp only at hSw); go_simp; try (with_reducible rfl)))); (try simp only [List.getElem_toArray, List.getElem_cons_zero, List.getElem_cons_succ, Act.put, List.setIfInBounds_toArray, List.set_cons_zero, List.set_cons_succ]); (refine wpAnyH_take (i := 7) (v := ?_) rfl (by kernel_rfl) (by kernel_rfl) (by kernel_rfl) (fun _ _ _ h => h) (Or.inl ⟨by rfl, ?_⟩) (by assumption) ?_; rotate_left; (focus (intro W hSw; (try dsimp only at hSw); go_simp; try (with_reducible rfl)))); (try simp only [List.getElem_toArray, List.getElem_cons_zero, List.getElem_cons_succ, Act.put, List.setIfInBounds_toArray, List.set_cons_zero, List.set_cons_succ]); (refine wpAnyH_take (i := 8) (v := ?_) rfl (by kernel_rfl) (by kernel_rfl) (by kernel_rfl) (fun _ _ _ h => h) (Or.inl ⟨by rfl, ?_⟩) (by assumption) ?_; rotate_left; (focus (intro W hSw; (try dsimp only at hSw); go_simp; try (with_reducible rfl)))); (try simp only [List.getElem_toArray, List.getElem_cons_zero, List.getElem_cons_succ, Act.put, List.setIfInBounds_toArray, List.set_cons_zero, List.set_cons_succ]))
          (refine wpAnyH_ready (rs := [9]) (by kernel_rfl) (by simp) ?_; refine AllReadyH.cons rfl (fun K hK => ?_) AllReadyH.nil)
          go_simp
          refine (spec_l04Extra n p q A2 A3 c2 c3 wr.drew ip iq HPM.out HQM.out hn).mono ?_; rintro e w2 ⟨k, rfl, hk, bE'⟩
          have bE : Below wr.heap.size wr w2 := undrew bE'
          have P2 := hP.below bE
          have B2 : Below w.heap.size w w2 := hb.trans (bE.mono hb.size)
          refine hK.out _ _ ⟨cells_below bE _ _ q0, cells_below bE _ _ q1⟩ (fun hHeld => ?_)
          clear hK K bE' bE
          (try simp only [List.getElem_toArray, List.getElem_cons_zero, List.getElem_cons_succ, Act.put, List.setIfInBounds_toArray, List.set_cons_zero, List.set_cons_succ])
          (refine wpAnyH_done (by kernel_rfl) ?_ _; change wpList _ _ _ _ _ _)
          clear hHeld
          have HE := Lib.hid hk; clear hk
          clear hP hb ip iq q0 q1 f0 f1 hg2
          go_wp2_with (fail)
          go_loopg [7, 9] ((wd q).length) (fun gk cv kv wq => ∃ (G3 : List (List Int)) (b3 : Bool) (k : Int) (p3 q3 : List Int), cv = .bool b3 ∧ kv = .int .i64 k ∧ Hid (G3[i]? = some p3 ∧ G3[i + 1]? = some q3 ∧ GS n m F G3 ∧ (b3 = false → wtF 0 G3 = wtF 0 G ∧ lwTo G3 i) ∧ (b3 = true → wtF 0 G3 < wtF 0 G) ∧ (wd q3).length ≤ gk) ∧ Hid ((k = 0 ∧ lwB p3 q3) ∨ ∃ j : Nat, k = (j : Int) + 1 ∧ dB j q3 = true ∧ finB j p3 = false) ∧ PRows wq w.heap.size n (some ⟨g, 0, none⟩) m c5 G3 ∧ Below w.heap.size w wq)
          case atStart => exact ⟨G2, b2, k, p, q, rfl, rfl, Lib.hid ⟨HX.out, HY.out, HG2.out.1, HG2.out.2.1, HG2.out.2.2, Nat.le_refl _⟩, HE, P2, B2⟩
          case round =>
            clear P2 B2 HE HX HY HPM HQM
            obtain ⟨G3, b3, k, p3, q3, rfl, rfl, HG3, HK3, hP, hb⟩ := hrel
            rcases HK3.out with ⟨k0, hlw⟩ | ⟨j, kj, hj, hf⟩
            · subst k0
              have HLW := Lib.hid hlw; clear hlw HK3
              go_wp2_with (fail)
              go_roundw
              case rel =>
                obtain ⟨g1, g2, g3, g4, g5, _⟩ := HG3.out
                exact ⟨G3, b3, i + 1, rfl, by go_num, by omega, Lib.hid ⟨g3, fun h => ⟨(g4 h).1, lwTo_succ (g4 h).2 g1 g2 HLW.out⟩, g5⟩, hP, hb⟩
              case measure => simp [intOf]; omega
            · subst kj
              obtain ⟨g1, g2, g3, g4, g5, g6⟩ := HG3.out
              obtain ⟨M1, M2, M3, M4, M5⟩ := g3.move g1 g2 hj hf
              have jn : j + 1 < n := by have := Br.dB_lt hj; rwa [(g3.perm q3 (List.mem_of_getElem? g2)).len] at this
              have hiG : i + 1 < G3.length := (List.getElem?_eq_some_iff.1 g2).1
              have s1 : (G3.set i (bh j p3))[i + 1]? = some q3 := by rw [List.getElem?_set_ne (by omega)]; exact g2
              have t1 : ((G3.set i (bh j p3)).set (i + 1) (sw j q3))[i]? = some (bh j p3) := by rw [List.getElem?_set_ne (by omega), List.getElem?_set_self (by omega)]
              have t2 : ((G3.set i (bh j p3)).set (i + 1) (sw j q3))[i + 1]? = some (sw j q3) := by rw [List.getElem?_set_self (by rw [List.length_set]; omega)]
              have S1 := Lib.hid s1; have T1 := Lib.hid t1; have T2 := Lib.hid t2
              have HPP := Lib.hid M4; have HPQ := Lib.hid M5
              have HG4 : Hid (GS n m F ((G3.set i (bh j p3)).set (i + 1) (sw j q3)) ∧ wtF 0 ((G3.set i (bh j p3)).set (i + 1) (sw j q3)) < wtF 0 G ∧ (wd (sw j q3)).length < gk) := Lib.hid ⟨M1, by
                cases b3
                · have := (g4 rfl).1; omega
                · have := g5 rfl; omega, by omega⟩
              have HG1 := Lib.hid g1; have HG2' := Lib.hid g2; have HLG := Lib.hid hiG
              obtain ⟨A4, c4, _, q0, f0, ip, hpl⟩ := hP.at_ g1
              obtain ⟨A6, c6, _, q1, f1, _, hql⟩ := hP.at_ g2
              have HPL := Lib.hid hpl; have HQL := Lib.hid hql
              have e0 : ((j : Int) + 1 != 0) = true := by simp; omega
              clear HK3 hj hf g1 g2 g3 g4 g5 g6 M1 M2 M3 M4 M5 s1 t1 t2 hiG hpl hql HG3
              go_upto_region 12 with (go_at_call 82; refine (spec_l04Behind n j p3 A4 c4 wr ip HPL.out (by omega) hn).mono ?_; rintro e w2 ⟨A7, c7, rfl, o7, b7⟩; have P7 := hP.below b7; obtain ⟨A8, c8, _, q0', f0', _, _⟩ := P7.at_ HG1.out)
              have B7 : Below w.heap.size w w2 := hb.trans (b7.mono hb.size)
              have P8 := P7.put (k := i) (by have := HLG.out; omega) (OwnC.mono o7 (Nat.zero_le _) (Nat.le_refl _)) (HPP.out.len)
              have B8 : Below w.heap.size w (w2.setCell ⟨g, i, none⟩ (.slice A7 n c7)) := B7.setCell hg1 _
              obtain ⟨w3, hw3⟩ : ∃ w3, w3 = w2.setCell ⟨g, i, none⟩ (.slice A7 n c7) := ⟨_, rfl⟩
              rw [← hw3] at P8 B8 ⊢
              clear hw3 P7 B7 b7 o7 q0' f0' q0 f0 q1 f1 ip hP hb
              obtain ⟨A9, c9, _, q1, f1, iq, _⟩ := P8.at_ S1.out
              go_upto_region 13 with (go_at_call 92; refine (spec_l04Before n j q3 A9 c9 w3 iq HQL.out jn hn).mono ?_; rintro e w4 ⟨A7, c7, rfl, o7, b7⟩; have P7 := P8.below b7; obtain ⟨A8, c8, _, q1', f1', _, _⟩ := P7.at_ S1.out)
              have B7 : Below w.heap.size w w4 := B8.trans (b7.mono B8.size)
              have P9 := P7.put (k := i + 1) (by rw [List.length_set]; exact HLG.out) (OwnC.mono o7 (Nat.zero_le _) (Nat.le_refl _)) (HPQ.out.len)
              have B9 : Below w.heap.size w (w4.setCell ⟨g, i + 1, none⟩ (.slice A7 n c7)) := B7.setCell hg1 _
              obtain ⟨w5, hw5⟩ : ∃ w5, w5 = w4.setCell ⟨g, i + 1, none⟩ (.slice A7 n c7) := ⟨_, rfl⟩
              rw [← hw5] at P9 B9 ⊢
              clear hw5 P7 B7 b7 o7 q1' f1' q1 f1 iq P8 B8
              obtain ⟨A10, c10, _, q0, f0, ip, _⟩ := P9.at_ T1.out
              obtain ⟨A11, c11, _, q1, f1, iq, _⟩ := P9.at_ T2.out
              generalize (G3.set i (bh j p3)).set (i + 1) (sw j q3) = G4 at *
              generalize bh j p3 = p4 at *
              generalize sw j q3 = q4 at *
              go_wp2_with (fail)
              (refine wp_region_pops 1 (S := (fun W' => W'.cell? ⟨g, i, none⟩ = some (.slice A10 n c10) ∧ W'.cell? ⟨g, i + 1, none⟩ = some (.slice A11 n c11))) (pre := ?_) (T := ?_) (n := ?_) (by kernel_rfl) (by kernel_rfl) ?_ ?_ ?_ ?_ (fun hHeld => ?_); rotate_left 3; (focus (simp only [pops, List.pop_toArray, List.dropLast_cons_cons, List.dropLast_singleton]; rfl)); (focus (simp only [tailOf, List.back?_toArray, List.getLast?_cons_cons, List.getLast?_singleton, Option.toList_some, List.nil_append]; rfl)); (focus rfl); (focus (exact ⟨q0, q1⟩)))
              ((refine wpAnyH_take (i := 0) (v := ?_) rfl (by kernel_rfl) (by kernel_rfl) (by kernel_rfl) (fun _ _ _ h => h) (Or.inl ⟨by rfl, ?_⟩) (by assumption) ?_; rotate_left; (focus (intro W hSw; (try dsimp only at hSw); go_simp; try (with_reducible rfl)))); (try simp only [List.getElem_toArray, List.getElem_cons_zero, Act.put, List.setIfInBounds_toArray, List.set_cons_zero, List.set_cons_succ]); (refine wpAnyH_take (i := 1) (v := ?_) rfl (by kernel_rfl) (by kernel_rfl) (by kernel_rfl) (fun _ _ _ h => h) (Or.inl ⟨by rfl, ?_⟩) (by assumption) ?_; rotate_left; (focus (intro W hSw; (try dsimp only at hSw); go_simp; try (with_reducible rfl)))); (try simp only [List.getElem_toArray, List.getElem_cons_zero, List.getElem_cons_succ, Act.put, List.setIfInBounds_toArray, List.set_cons_zero, List.set_cons_succ]); (refine wpAnyH_take (i := 2) (v := ?_) rfl (by kernel_rfl) (by kernel_rfl) (by kernel_rfl) (fun _ _ _ h => h) (Or.inl ⟨by rfl, ?_⟩) (by assumption) ?_; rotate_left; (focus (intro W hSw; (try dsimp only at hSw); go_simp; try (with_reducible rfl)))); (try simp only [List.getElem_toArray, List.getElem_cons_zero, List.getElem_cons_succ, Act.put, List.setIfInBounds_toArray, List.set_cons_zero, List.set_cons_succ]); (refine wpAnyH_take (i := 3) (v := ?_) rfl (by kernel_rfl) (by kernel_rfl) (by kernel_rfl) (fun _ _ _ h => h) (Or.inl ⟨by rfl, ?_⟩) (by assumption) ?_; rotate_left; (focus (intro W hSw; (try dsimp only at hSw); go_simp; try (with_reducible rfl)))); (try simp only [List.getElem_toArray, List.getElem_cons_zero, List.getElem_cons_succ, Act.put, List.setIfInBounds_toArray, List.set_cons_zero, List.set_cons_succ]); (refine wpAnyH_take (i := 4) (v := ?_) rfl (by kernel_rfl) (by kernel_rfl) (by kernel_rfl) (fun _ _ _ h => h) (Or.inl ⟨by rfl, ?_⟩) (by assumption) ?_; rotate_left; (focus (intro W hSw; (try dsimp only at hSw); go_simp; try (with_reducible rfl)))); (try simp only [List.getElem_toArray, List.getElem_cons_zero, List.getElem_cons_succ, Act.put, List.setIfInBounds_toArray, List.set_cons_zero, List.set_cons_succ]); (refine wpAnyH_take (i := 5) (v := ?_) rfl (by kernel_rfl) (by kernel_rfl) (by kernel_rfl) (fun _ _ _ h => h) (Or.inl ⟨by rfl, ?_⟩) (by assumption) ?_; rotate_left; (focus (intro W hSw; (try dsimp only at hSw); go_simp; try (with_reducible rfl)))); (try simp only [List.getElem_toArray, List.getElem_cons_zero, List.getElem_cons_succ, Act.put, List.setIfInBounds_toArray, List.set_cons_zero, List.set_cons_succ]); (refine wpAnyH_take (i := 6) (v := ?_) rfl (by kernel_rfl) (by kernel_rfl) (by kernel_rfl) (fun _ _ _ h => h) (Or.inl ⟨by rfl, ?_⟩) (by assumption) ?_; rotate_left; (focus (intro W hSw; (try dsimp only at hSw); go_simp; try (with_reducible rfl)))); (try simp only [List.getElem_toArray, List.getElem_cons_zero, List.getElem_cons_succ, Act.put, List.setIfInBounds_toArray, List.set_cons_zero, List.set_cons_succ]); (refine wpAnyH_take (i := 7) (v := ?_) rfl (by kernel_rfl) (by kernel_rfl) (by kernel_rfl) (fun _ _ _ h => h) (Or.inl ⟨by rfl, ?_⟩) (by assumption) ?_; rotate_left; (focus (intro W hSw; (try dsimp only at hSw); go_simp; try (with_reducible rfl)))); (try simp only [List.getElem_toArray, List.getElem_cons_zero, List.getElem_cons_succ, Act.put, List.setIfInBounds_toArray, List.set_cons_zero, List.set_cons_succ]); (refine wpAnyH_take (i := 8) (v := ?_) rfl (by kernel_rfl) (by kernel_rfl) (by kernel_rfl) (fun _ _ _ h => h) (Or.inl ⟨by rfl, ?_⟩) (by assumption) ?_; rotate_left; (focus (intro W hSw; (try dsimp only at hSw); go_simp; try (with_reducible rfl)))); (try simp only [List.getElem_toArray, List.getElem_cons_zero, List.getElem_cons_succ, Act.put, List.setIfInBounds_toArray, List.set_cons_zero, List.set_cons_succ]))
              (refine wpAnyH_ready (rs := [9]) (by kernel_rfl) (by simp) ?_; refine AllReadyH.cons rfl (fun K hK => ?_) AllReadyH.nil)
              go_simp
              refine (spec_l04Extra n p4 q4 A10 A11 c10 c11 w5.drew ip iq HPP.out HPQ.out hn).mono ?_; rintro e w6 ⟨k6, rfl, hk6, bE'⟩
              have bE : Below w5.heap.size w5 w6 := undrew bE'
              have P6 := P9.below bE
              have B6 : Below w.heap.size w w6 := B9.trans (bE.mono B9.size)
              refine hK.out _ _ ⟨cells_below bE _ _ q0, cells_below bE _ _ q1⟩ (fun hHeld => ?_)
              clear hK K bE' bE
              (try simp only [List.getElem_toArray, List.getElem_cons_zero, List.getElem_cons_succ, Act.put, List.setIfInBounds_toArray, List.set_cons_zero, List.set_cons_succ])
              (refine wpAnyH_done (by kernel_rfl) ?_ _; change wpList _ _ _ _ _ _)
              clear hHeld
              have HE6 := Lib.hid hk6; clear hk6
              clear q0 q1 f0 f1 ip iq P9 B9
              go_wp2_with (fail)
              go_roundg ((wd q4).length)
              case measure => exact HG4.out.2.2
              case rel => exact ⟨G4, true, k6, p4, q4, rfl, rfl, Lib.hid ⟨T1.out, T2.out, HG4.out.1, fun h => (by cases h), fun _ => HG4.out.2.1, Nat.le_refl _⟩, HE6, P6, B6⟩
        · have di : decide ((i : Int) + 1 < (m : Int)) = false := decide_eq_false (by omega)
          go_wp2_with (fail)
          cases b2
          · obtain ⟨g1, g2, _⟩ := HG2.out
            go_roundg (2 * wtF 0 G2)
            case measure => have h1 := HG.out.2.2; have h2 := (g2 rfl).1; rw [if_pos trivial] at h1; omega
            case rel =>
              refine ⟨G2, false, rfl, Lib.hid ⟨g1, fun _ => lwTo_all fun j p q h1 h2 => (g2 rfl).2 j p q ?_ h1 h2, by simp⟩, hP, hb⟩
              have := (List.getElem?_eq_some_iff.1 h2).1
              have := g1.len
              omega
          · obtain ⟨g1, _, g3⟩ := HG2.out
            go_roundg (2 * wtF 0 G2 + 1)
            case measure => have h1 := HG.out.2.2; have h2 := g3 rfl; rw [if_pos trivial] at h1; omega
            case rel => exact ⟨G2, true, rfl, Lib.hid ⟨g1, fun h => (by cases h), by simp⟩, hP, hb⟩

end Go.Proofs.YthjamohaeahipaaGreat
