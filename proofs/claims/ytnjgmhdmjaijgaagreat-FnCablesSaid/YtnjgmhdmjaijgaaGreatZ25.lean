/- Steps of the proof, joined from several texts: QR QS QT QU. -/
import Derived.Test.YtnjgmhdmjaijgaaGreatZ22
import Derived.Test.YtnjgmhdmjaijgaaGreatZ20
import Derived.Test.YtnjgmhdmjaijgaaGreatZ24
import Derived.Test.YtnjgmhdmjaijgaaGreatZ13

/- Normal forms are compared, the program's side. -/
namespace Go.Proofs.YtnjgmhdmjaijgaaGreat
open Go Go.RowKit
open Br (idl halfl invl flipl sw bh dB finB lwB Pm wd prod LW Eqv Dp Lt)

theorem Fac.ints2 {w : World} {lo hi n m c : Nat} {A : Option Addr} {F : List (List Int)} (h : Fac w lo hi n A m c F) (hn : n ≤ 100) : Ints2 w A F := by
  intro k hk
  obtain ⟨g, off, A', c', e1, _, _, e2, _, e3, e4⟩ := h.get (List.getElem?_eq_getElem hk)
  refine ⟨g, off, A', c', _, e1, List.getElem?_eq_getElem hk, by rw [e4]; exact e2, ?_, by omega⟩
  exact OwnC.ints e3

theorem impl_SameNormal_1 (A B : Option Addr) (c d : Nat) (xs ys : List Int) (w : World) (h : Ints w A xs) (h' : Ints w B ys) (hl : xs.length ≤ 9223372036854775807) (hl' : ys.length ≤ 9223372036854775807) :
    Calls Tryz.prog 151 #[.slice A xs.length c, .slice B ys.length d] w fun e w' => e = .returned (.bool (decide (xs = ys))) ∧ Drawn w w' := by
  go_enter Tryz.func151, Tryz.ntmps151
  go_wp2_with (fail)
  refine (slices_Equal _ _ _ _ _ _ _ h h' hl hl').mono ?_; rintro e w2 ⟨rfl, hdr⟩
  go_wp2_with (fail)
  go_ret
  exact ⟨rfl, hdr⟩
set_option maxHeartbeats 1000000 in
theorem equalFunc_forms (xss yss : List (List Int)) (A B : Option Addr) (c d : Nat) (w : World) (h : Ints2 w A xss) (h' : Ints2 w B yss) (hl : xss.length ≤ 1000000000000) (_hl' : yss.length ≤ 1000000000000) :
    Calls Tryz.prog 150 #[.slice A xss.length c, .slice B yss.length d, .func (.func 151) #[] #[]] w fun e w' => e = .returned (.bool (decide (xss = yss))) ∧ Drawn w w' := by
  by_cases hle : xss.length = yss.length
  · have HL := Lib.hid hle
    have hle' : ((xss.length : Int) != (yss.length : Int)) = false := by simp [hle]
    clear hle
    go_enter Tryz.func150, Tryz.ntmps150
    go_wp2
    go_loopw [17] (fun i wr => ∃ (k : Nat), k ≤ xss.length ∧ i = .int .i64 k ∧ xss.take k = yss.take k ∧ Drawn w wr) (fun i _ => xss.length - (intOf i).toNat)
    case atStart => exact ⟨0, Nat.zero_le _, rfl, rfl, Drawn.refl _⟩
    case round =>
      obtain ⟨k, hk, rfl, htk, hdr⟩ := hrel
      have HT := Lib.hid htk; clear htk
      by_cases hlt : k < xss.length
      · have hlt' : k < yss.length := by rw [← HL.out]; exact hlt
        obtain ⟨b, off, A1, c1, xs, rfl, hx, hc, hi, hxl⟩ := (h.of_cells hdr.cells) k hlt
        obtain ⟨b', off', A2, c2, ys, rfl, hy, hc', hi', hyl⟩ := (h'.of_cells hdr.cells) k hlt'
        have HX := Lib.hid hx; clear hx
        have HY := Lib.hid hy; clear hy
        by_cases hxy : xs = ys
        · have hxy' : decide (xs = ys) = true := decide_eq_true hxy
          have HXY := Lib.hid hxy; clear hxy
          go_wp2_with (fail)
          refine (impl_SameNormal_1 _ _ _ _ _ _ _ hi hi' hxl hyl).mono ?_; rintro e w2 ⟨rfl, hdr2⟩
          have hdr3 : Drawn w w2 := hdr.trans hdr2
          go_wp2_with (fail)
          go_roundw
          case rel => exact ⟨k + 1, by omega, by go_num, by rw [take_snoc HX.out, take_snoc HY.out, HT.out, HXY.out], hdr3⟩
          case measure => simp [intOf]; omega
        · have hxy' : decide (xs = ys) = false := decide_eq_false hxy
          have HXY := Lib.hid hxy; clear hxy
          go_wp2_with (fail)
          refine (impl_SameNormal_1 _ _ _ _ _ _ _ hi hi' hxl hyl).mono ?_; rintro e w2 ⟨rfl, hdr2⟩
          have hdr3 : Drawn w w2 := hdr.trans hdr2
          go_wp2_with (fail)
          go_ret
          exact ⟨ret_bool (by simpa using ne_of_getElem? HX.out HY.out HXY.out), hdr3⟩
      · go_wp2_with (fail)
        go_ret
        have : k = xss.length := by omega
        subst this
        have e := HT.out
        rw [take_all (Nat.le_refl _), take_all (by rw [HL.out]; exact Nat.le_refl _)] at e
        exact ⟨ret_bool (by simpa using e), hdr⟩
  · have hle' : ((xss.length : Int) != (yss.length : Int)) = true := by simp; omega
    go_enter Tryz.func150, Tryz.ntmps150
    go_wp2
    go_ret
    exact ⟨ret_bool (by simp; intro e; exact hle (by rw [e])), Drawn.refl _⟩

set_option maxHeartbeats 2000000 in
set_option maxRecDepth 10000 in
theorem impl_SameNormal (n lo hi lo2 hi2 m m2 : Nat) (P Q : Int) (F G : List (List Int)) (A B : Option Addr) (c d : Nat) (w : World) (h : Fac w lo hi n A m c F) (h' : Fac w lo2 hi2 n B m2 d G) (hn : n ≤ 100) (hm : m ≤ 1000) (hm2 : m2 ≤ 1000) :
    Calls Tryz.prog 121 #[.agg #[.int .i64 (n : Int), .int .i64 P, .slice A m c], .agg #[.int .i64 (n : Int), .int .i64 Q, .slice B m2 d]] w fun e w' => e = .returned (.bool (decide (P = Q ∧ F = G))) ∧ Below w.heap.size w w' := by
  have h1 := h.ints2 hn
  have h2 := h'.ints2 hn
  rw [← h.len, ← h'.len]
  rw [← h.len] at hm
  rw [← h'.len] at hm2
  clear h h'
  by_cases hd : P = Q
  · subst hd
    have HF : Hid (decide (P = P ∧ F = G) = decide (F = G)) := Lib.hid (by simp)
    go_enter Tryz.func121, Tryz.ntmps121
    go_wp2_with (fail)
    refine (equalFunc_forms F G A B _ _ _ (h1.below (by (repeat (first | exact Below.refl _ _ | assumption | apply Below.drew | apply below_drewN | (refine Below.alloc ?_ (by first | omega | (simp; done) | (simp; omega)) _) | (refine Below.setCell ?_ (by first | omega | (simp; done) | (simp; omega)) _))))) (h2.below (by (repeat (first | exact Below.refl _ _ | assumption | apply Below.drew | apply below_drewN | (refine Below.alloc ?_ (by first | omega | (simp; done) | (simp; omega)) _) | (refine Below.setCell ?_ (by first | omega | (simp; done) | (simp; omega)) _))))) (by omega) (by omega)).mono ?_; rintro e w2 ⟨rfl, k, rfl⟩
    go_wp2_with (fail)
    go_ret
    exact ⟨ret_bool HF.out.symm, by (repeat (first | exact Below.refl _ _ | assumption | apply Below.drew | apply below_drewN | (refine Below.alloc ?_ (by first | omega | (simp; done) | (simp; omega)) _) | (refine Below.setCell ?_ (by first | omega | (simp; done) | (simp; omega)) _)))⟩
  · have hd' : (P == Q) = false := by simpa using hd
    have HF : Hid (decide (P = Q ∧ F = G) = false) := Lib.hid (by simp [hd])
    go_enter Tryz.func121, Tryz.ntmps121
    go_wp2_with (fail)
    go_ret
    exact ⟨ret_bool HF.out.symm, by (repeat (first | exact Below.refl _ _ | assumption | apply Below.drew | apply below_drewN | (refine Below.alloc ?_ (by first | omega | (simp; done) | (simp; omega)) _) | (refine Below.setCell ?_ (by first | omega | (simp; done) | (simp; omega)) _)))⟩

end Go.Proofs.YtnjgmhdmjaijgaaGreat

/- Equal braids, the program's side: it answers as the given side does. -/
namespace Go.Proofs.YtnjgmhdmjaijgaaGreat
open Go Go.RowKit
open Br (idl halfl invl flipl sw bh dB finB lwB Pm wd prod LW Eqv Dp Lt winv)

theorem same_eq {n k k2 : Nat} {a b : List Int} {F G : List (List Int)} (ha : ∀ x ∈ a, Lt n x) (hb : ∀ x ∈ b, Lt n x) (hF : Br.NFok n F) (hG : Br.NFok n G) (e1 : Eqv (Dp n k ++ prod F) (prod (facs n a))) (e2 : Eqv (Dp n k2 ++ prod G) (prod (facs n b))) (hk : k ≤ a.length) (hk2 : k2 ≤ b.length) :
    ((k : Int) - (negs a : Int) = (k2 : Int) - (negs b : Int) ∧ F = G) ↔ eqP n a b := by
  have wa := (facs_facts ha a.length (Nat.le_refl _)).2.2
  have wb := (facs_facts hb b.length (Nat.le_refl _)).2.2
  have hab : ∀ x ∈ a ++ winv b, Lt n x := fun x hx => by
    rcases List.mem_append.1 hx with hx | hx
    · exact ha x hx
    · exact Br.Lt.winv hb x hx
  have wc := (facs_facts hab (a ++ winv b).length (Nat.le_refl _)).2.2
  rw [take_all (Nat.le_refl _)] at wa wb wc
  refine Iff.trans ?_ (Br.equal_iff ha hb wc wa wb).symm
  show _ ↔ Eqv (Dp n (negs b) ++ prod (facs n a)) (Dp n (negs a) ++ prod (facs n b))
  have f1 : Eqv (Dp n (negs b + k) ++ prod F) (Dp n (negs b) ++ prod (facs n a)) := by rw [Br.Dp_add, List.append_assoc]; exact e1.pre _
  have f2 : Eqv (Dp n (negs a + k2) ++ prod G) (Dp n (negs a) ++ prod (facs n b)) := by rw [Br.Dp_add, List.append_assoc]; exact e2.pre _
  constructor
  · rintro ⟨h1, rfl⟩
    have h2 : negs b + k = negs a + k2 := by omega
    rw [h2] at f1
    exact f1.symm.trans f2
  · intro h
    have hn : 1 < n ∨ (negs b + k = 0 ∧ negs a + k2 = 0) := by
      cases a with
      | cons x a => have := ha x (by simp); unfold Br.Lt at this; left; omega
      | nil =>
        cases b with
        | cons x b => have := hb x (by simp); unfold Br.Lt at this; left; omega
        | nil =>
          right
          simp only [List.length_nil] at hk hk2
          have : negs ([] : List Int) = 0 := rfl
          omega
    obtain ⟨x, y⟩ := Br.nf_uniq hF hG ((f1.trans h).trans f2.symm) hn
    exact ⟨by omega, y⟩

set_option maxHeartbeats 2000000 in
theorem impl_equalWords (n : Nat) (a b : List Int) (A B : Option Addr) (c d : Nat) (w : World) (h : Ints w A a) (h' : Ints w B b) (ha : ∀ x ∈ a, Lt n x) (hb : ∀ x ∈ b, Lt n x) (hn : n ≤ 12) (hl : a.length ≤ 100) (hl' : b.length ≤ 100) :
    Calls Tryz.prog 78 #[.int .i64 (n : Int), .slice A a.length c, .slice B b.length d] w fun e w' => e = .returned (.bool (eqW n a b)) ∧ Below w.heap.size w w' := by
  have HA := Lib.hid ha
  have HB := Lib.hid hb
  clear ha hb
  go_enter Tryz.func78, Tryz.ntmps78
  go_wp2_with (fail)
  refine (impl_normalOf n a A c w h HA.out hn hl).mono ?_; rintro e w2 ⟨k, m, F, A2, c2, rfl, hF, e1, hk, f1, b1⟩
  have HF := Lib.hid hF
  have HE1 := Lib.hid e1
  have h2 := h'.below b1
  clear hF e1
  go_wp2_with (fail)
  refine (impl_normalOf n b B d w2 h2 HB.out hn hl').mono ?_; rintro e w3 ⟨k2, m2, G, A3, c3, rfl, hG, e2, hk2, f2, b2⟩
  have HG := Lib.hid hG
  have HE2 := Lib.hid e2
  have f1' := f1.below b2 (Nat.le_refl _)
  have HW : Hid (decide ((k : Int) - (negs a : Int) = (k2 : Int) - (negs b : Int) ∧ F = G) = eqW n a b) := Lib.hid (by
    unfold eqW
    have h3 := same_eq HA.out HB.out HF.out HG.out HE1.out HE2.out (by omega) (by omega)
    by_cases h4 : eqP n a b
    · rw [decide_eq_true h4, decide_eq_true (h3.2 h4)]
    · rw [decide_eq_false h4, decide_eq_false (fun h5 => h4 (h3.1 h5))])
  clear hG e2
  go_wp2_with (fail)
  refine (impl_SameNormal n _ _ _ _ m m2 _ _ F G A2 A3 c2 c3 w3 f1' f2 (by omega) (by omega) (by omega)).mono ?_; rintro e w4 ⟨rfl, b4⟩
  rw [HW.out]
  go_wp2_with (fail)
  go_ret
  exact ⟨rfl, b1.trans ((b2.mono b1.size).trans (b4.mono (Nat.le_trans b1.size b2.size)))⟩

set_option maxHeartbeats 2000000 in
set_option maxRecDepth 10000 in
theorem impl_EqualBraids (n : Nat) (a b : List Int) (A B : Option Addr) (c d : Nat) (w : World) (h : Ints w A a) (h' : Ints w B b) (ha : braidB n a = true) (hb : braidB n b = true) :
    Calls Tryz.prog 35 #[.agg #[.int .i64 (n : Int), .slice A a.length c], .agg #[.int .i64 (n : Int), .slice B b.length d]] w fun e w' => e = .returned (.bool (eqW n a b)) ∧ Below w.heap.size w w' := by
  obtain ⟨a1, a2, a3, _⟩ := braidB_of ha
  obtain ⟨_, _, b3, _⟩ := braidB_of hb
  have HLA := Lib.hid (lt_braid ha)
  have HLB := Lib.hid (lt_braid hb)
  obtain ⟨w1, hw1⟩ : ∃ w1, w1 = (w.alloc (.cells #[.int .i64 (n : Int), .slice A a.length c] 38)).alloc (.cells #[.int .i64 (n : Int), .slice B b.length d] 38) := ⟨_, rfl⟩
  have ka : Blk w1 w.heap.size 38 #[.int .i64 (n : Int), .slice A a.length c] := by rw [hw1]; exact (Blk.new w _ _).alloc _
  have kb : Blk w1 (w.heap.size + 1) 38 #[.int .i64 (n : Int), .slice B b.length d] := by rw [hw1]; simpa using Blk.new (w.alloc (.cells #[.int .i64 (n : Int), .slice A a.length c] 38)) 38 #[.int .i64 (n : Int), .slice B b.length d]
  have hb1 : Below w.heap.size w w1 := by rw [hw1]; (repeat (first | exact Below.refl _ _ | assumption | apply Below.drew | apply below_drewN | (refine Below.alloc ?_ (by first | omega | (simp; done) | (simp; omega)) _) | (refine Below.setCell ?_ (by first | omega | (simp; done) | (simp; omega)) _)))
  obtain ⟨gX, hgX⟩ : ∃ gX, gX = w.heap.size + 1 := ⟨_, rfl⟩
  rw [← hgX] at kb
  have ia := h.below hb1
  have ib := h'.below hb1
  have HA := Lib.hid ha; have HB := Lib.hid hb
  clear ha hb
  have enn : ((n : Int) == (n : Int)) = true := by simp
  go_enter Tryz.func35, Tryz.ntmps35
  go_upto_region 1 with fail
  rw [← hw1, ← hgX]
  clear hw1 hgX
  have qa := ka.c2
  have qb := kb.c2
  go_wp2_with (fail)
  refine (impl_ValidBraid (n : Int) a A c w1 ia (by omega)).mono ?_; rintro e w2 ⟨rfl, b2⟩
  rw [HA.out]
  have ka2 := ka.below b2 ka.lt
  have kb2 := kb.below b2 kb.lt
  have ib2 := ib.below b2
  have ia2 := ia.below b2
  have hb2 := hb1.trans (b2.mono hb1.size)
  have qa2 := ka2.c2
  have qb2 := kb2.c2
  go_wp2_with (fail)
  refine (impl_ValidBraid (n : Int) b B d w2 ib2 (by omega)).mono ?_; rintro e w3 ⟨rfl, b3'⟩
  rw [HB.out]
  have ka3 := ka2.below b3' ka2.lt
  have kb3 := kb2.below b3' kb2.lt
  have ib3 := ib2.below b3'
  have ia3 := ia2.below b3'
  have hb3 := hb2.trans (b3'.mono hb2.size)
  have qa3 := ka3.c2
  have qb3 := kb3.c2
  clear qa qb qa2 qb2 ka kb ka2 kb2 ia ib ia2 ib2 b2 b3' hb1 hb2 h h'
  go_wp2_with (fail)
  refine (impl_equalWords n a b A B c d w3 ia3 ib3 HLA.out HLB.out (by omega) (by omega) (by omega)).mono ?_; rintro e w4 ⟨rfl, b4⟩
  go_wp2_with (fail)
  go_ret
  exact ⟨rfl, hb3.trans (b4.mono hb3.size)⟩

end Go.Proofs.YtnjgmhdmjaijgaaGreat

/- The word of a cable is a word on its columns. -/
namespace Go.Proofs.YtnjgmhdmjaijgaaGreat
open Go Go.RowKit

theorem inR_of {x a b : Int} (h : inR x a b = true) : a ≤ x ∧ x ≤ b := by simpa [inR] using h
theorem plain_kinds {k : Int} (h : isStitchB k = true) (hp : inR k 3 7 = false) : k = 1 ∨ k = 2 ∨ k = 8 ∨ k = 9 ∨ k = 10 ∨ k = 11 := by
  have h1 : 1 ≤ k ∧ k ≤ 11 := by simpa [isStitchB, inR] using h
  have h2 : ¬ (3 ≤ k ∧ k ≤ 7) := by
    intro h3
    have : inR k 3 7 = true := by simpa [inR] using h3
    rw [this] at hp
    cases hp
  omega
theorem plain_taken {k : Int} (h : isStitchB k = true) (hp : inR k 3 7 = false) : madeN k = takenN k := by
  rcases plain_kinds h hp with rfl | rfl | rfl | rfl | rfl | rfl <;> rfl
theorem plainRow_cons {k : Int} {ks : List Int} (h : plainRow (k :: ks) = true) : inR k 3 7 = false ∧ plainRow ks = true := by
  simp only [plainRow, List.all_cons, Bool.and_eq_true, Bool.not_eq_true'] at h
  exact h
theorem plain_made : ∀ {ks : List Int}, (∀ k ∈ ks, isStitchB k = true) → plainRow ks = true → madeS ks = takenS ks
  | [], _, _ => rfl
  | k :: ks, h, hp => by
    obtain ⟨h1, h2⟩ := plainRow_cons hp
    rw [madeS, takenS, plain_taken (h k (by simp)) h1, plain_made (fun x hx => h x (by simp [hx])) h2]
theorem letterB_of {n x : Int} (h0 : x ≠ 0) (h1 : 1 - n ≤ x) (h2 : x ≤ n - 1) : letterB n x = true := by simp [letterB, inR, h0, h1, h2]
theorem plain_letters (n : Int) : ∀ (ks : List Int), (∀ k ∈ ks, isStitchB k = true) → plainRow ks = true → ∀ c : Int, 0 ≤ c → c + (takenS ks : Int) ≤ n → ∀ x ∈ lettersFrom ks c, letterB n x = true
  | [], _, _, _, _, _, x, hx => by cases hx
  | k :: ks, h, hp, c, hc, hn, x, hx => by
    obtain ⟨h1, h2⟩ := plainRow_cons hp
    rw [takenS] at hn
    rw [lettersFrom] at hx
    rcases List.mem_append.1 hx with hx | hx
    · rcases plain_kinds (h k (by simp)) h1 with rfl | rfl | rfl | rfl | rfl | rfl
      · simp [stLetters] at hx
      · simp [stLetters] at hx
      · have : takenN 8 = 2 := rfl
        simp [stLetters] at hx
        refine letterB_of ?_ ?_ ?_ <;> omega
      · have : takenN 9 = 2 := rfl
        simp [stLetters] at hx
        refine letterB_of ?_ ?_ ?_ <;> omega
      · have : takenN 10 = 4 := rfl
        simp [stLetters] at hx
        refine letterB_of ?_ ?_ ?_ <;> omega
      · have : takenN 11 = 4 := rfl
        simp [stLetters] at hx
        refine letterB_of ?_ ?_ ?_ <;> omega
    · exact plain_letters n ks (fun x hx => h x (by simp [hx])) h2 (c + takenN k) (by omega) (by push_cast at hn; omega) x hx
theorem rows_letters (n : Nat) : ∀ (rs : List RowD) (st : List Int), st.length = n → rowsOkB st rs = true → plainB rs = true → ∀ x ∈ rowsWord rs, letterB n x = true
  | [], _, _, _, _, x, hx => by cases hx
  | r :: rs, st, hst, h, hp, x, hx => by
    simp only [rowsOkB, Bool.and_eq_true] at h
    simp only [plainB, List.all_cons, Bool.and_eq_true] at hp
    have h1 := h.1
    unfold rowOkB at h1
    simp only [Bool.and_eq_true] at h1
    obtain ⟨e1, e2, e3, e4, e5⟩ := stepCode_of h1.1.2
    have hs := (stitchesB_of e2).2
    rw [rowsWord, List.flatMap_cons] at hx
    rcases List.mem_append.1 hx with hx | hx
    · exact plain_letters n r.s hs hp.1 0 (Int.le_refl _) (by omega) x hx
    · refine rows_letters n rs _ ?_ h.2 hp.2 x hx
      rw [e4, afterP_len hs, plain_made hs hp.1]
      omega
theorem cb_braid {n : Int} {rs : List RowD} (h : cbCode n rs = 0) : (∃ m : Nat, n = (m : Int)) ∧ (cbX n rs).n = n ∧ braidB n (cbX n rs).xs = true := by
  have hx : cbX n rs = ⟨n, rowsWord rs⟩ := by rw [cbX, if_pos h]
  unfold cbCode at h
  split at h
  · rename_i hc
    split at h
    · rename_i hp
      split at h
      · rename_i hl
        unfold chartB at hc
        simp only [Bool.and_eq_true] at hc
        obtain ⟨n1, n2⟩ := inR_of hc.1.1
        refine ⟨⟨n.toNat, by omega⟩, by rw [hx], ?_⟩
        rw [hx]
        have h3 := rows_letters n.toNat rs _ (by simp) hc.2 hp
        have h4 : ((n.toNat : Nat) : Int) = n := by omega
        rw [h4] at h3
        have h5 : inR n 0 12 = true := by simp [inR]; omega
        simp only [braidB, h5, Bool.true_and, Bool.and_eq_true, decide_eq_true_eq]
        exact ⟨hl, List.all_eq_true.2 h3⟩
      · cases h
    · cases h
  · cases h
end Go.Proofs.YtnjgmhdmjaijgaaGreat

/- SameCable, both sides. -/
namespace Go.Proofs.YtnjgmhdmjaijgaaGreat
open Go Go.RowKit

def scCode (n n2 : Int) (rs rs2 : List RowD) : Int := if cbCode n rs = 0 then (if cbCode n2 rs2 = 0 then (if n = n2 then 0 else 10) else cbCode n2 rs2) else cbCode n rs
noncomputable def scB (n n2 : Int) (rs rs2 : List RowD) : Bool := if scCode n n2 rs rs2 = 0 then eqW n.toNat (cbX n rs).xs (cbX n2 rs2).xs else false
theorem sc_1 {n n2 : Int} {rs rs2 : List RowD} (h : cbCode n rs ≠ 0) : scCode n n2 rs rs2 = cbCode n rs ∧ scB n n2 rs rs2 = false := by
  have e : scCode n n2 rs rs2 = cbCode n rs := by rw [scCode, if_neg h]
  exact ⟨e, by rw [scB, e, if_neg h]⟩
theorem sc_2 {n n2 : Int} {rs rs2 : List RowD} (h : cbCode n rs = 0) (h2 : cbCode n2 rs2 ≠ 0) : scCode n n2 rs rs2 = cbCode n2 rs2 ∧ scB n n2 rs rs2 = false := by
  have e : scCode n n2 rs rs2 = cbCode n2 rs2 := by rw [scCode, if_pos h, if_neg h2]
  exact ⟨e, by rw [scB, e, if_neg h2]⟩
theorem sc_3 {n n2 : Int} {rs rs2 : List RowD} (h : cbCode n rs = 0) (h2 : cbCode n2 rs2 = 0) (hn : n ≠ n2) : scCode n n2 rs rs2 = 10 ∧ scB n n2 rs rs2 = false := by
  have e : scCode n n2 rs rs2 = 10 := by rw [scCode, if_pos h, if_pos h2, if_neg hn]
  exact ⟨e, by rw [scB, e, if_neg (by decide)]⟩
theorem sc_4 {n : Nat} {rs rs2 : List RowD} (h : cbCode (n : Int) rs = 0) (h2 : cbCode (n : Int) rs2 = 0) : scCode n n rs rs2 = 0 ∧ scB n n rs rs2 = eqW n (cbX n rs).xs (cbX n rs2).xs := by
  have e : scCode n n rs rs2 = 0 := by rw [scCode, if_pos h, if_pos h2, if_pos rfl]
  exact ⟨e, by rw [scB, e, if_pos rfl]; rfl⟩

set_option maxHeartbeats 4000000 in
set_option maxRecDepth 10000 in
theorem spec_SameCable (n n2 : Int) (rs rs2 : List RowD) (A B : Option Addr) (c d : Nat) (w : World) (h : RowsR w A rs) (hl : rs.length ≤ 9223372036854775807) (h' : RowsR w B rs2) (hl' : rs2.length ≤ 9223372036854775807) :
    Calls Tryz.prog 7 #[.agg #[.int .i64 n, .slice A rs.length c], .agg #[.int .i64 n2, .slice B rs2.length d]] w fun e w' => e = .returned (.tuple #[.bool (scB n n2 rs rs2), .int .i64 (scCode n n2 rs rs2)]) ∧ Below w.heap.size w w' := by
  obtain ⟨w1, hw1⟩ : ∃ w1, w1 = (w.alloc (.cells #[.int .i64 n, .slice A rs.length c] 30)).alloc (.cells #[.int .i64 n2, .slice B rs2.length d] 30) := ⟨_, rfl⟩
  have ka : Blk w1 w.heap.size 30 #[.int .i64 n, .slice A rs.length c] := by rw [hw1]; exact (Blk.new w _ _).alloc _
  have kb : Blk w1 (w.heap.size + 1) 30 #[.int .i64 n2, .slice B rs2.length d] := by rw [hw1]; simpa using Blk.new (w.alloc (.cells #[.int .i64 n, .slice A rs.length c] 30)) 30 #[.int .i64 n2, .slice B rs2.length d]
  have hb1 : Below w.heap.size w w1 := by rw [hw1]; (repeat (first | exact Below.refl _ _ | assumption | apply Below.drew | apply below_drewN | (refine Below.alloc ?_ (by first | omega | (simp; done) | (simp; omega)) _) | (refine Below.setCell ?_ (by first | omega | (simp; done) | (simp; omega)) _)))
  obtain ⟨gX, hgX⟩ : ∃ gX, gX = w.heap.size + 1 := ⟨_, rfl⟩
  rw [← hgX] at kb
  have ia := h.below hb1
  have ib := h'.below hb1
  by_cases h1 : cbCode n rs = 0
  · obtain ⟨⟨m, hm⟩, x1, v1⟩ := cb_braid h1
    subst hm
    have H1 := Lib.hid h1; have X1 := Lib.hid x1; have V1 := Lib.hid v1
    clear h1 x1 v1
    by_cases h2 : cbCode n2 rs2 = 0
    · obtain ⟨⟨m2, hm2⟩, x2, v2⟩ := cb_braid h2
      subst hm2
      have H2 := Lib.hid h2; have X2 := Lib.hid x2; have V2 := Lib.hid v2
      clear h2 x2 v2
      by_cases hn : m = m2
      · subst hn
        have enn : ((m : Int) != (m : Int)) = false := by simp
        have HS := Lib.hid (sc_4 H1.out H2.out)
        go_enter Tryz.func7, Tryz.ntmps7
        go_upto_region 1 with fail
        rw [← hw1, ← hgX]
        clear hw1 hgX
        have qa := ka.c2
        have qb := kb.c2
        go_wp2_with (fail)
        refine (spec_CableBraid _ rs A c w1 ia hl).mono ?_; rintro e w2 ⟨A2, c2, rfl, o2, b2⟩
        have hb2 : Below w.heap.size w w2 := hb1.trans (b2.mono hb1.size)
        rw [H1.out, X1.out]
        obtain ⟨w3, hw3⟩ : ∃ w3, w3 = w2.alloc (.cells #[.int .i64 (m : Int), .slice A2 (cbX m rs).xs.length c2] 38) := ⟨_, rfl⟩
        have hb23 : Below w2.heap.size w2 w3 := by rw [hw3]; (repeat (first | exact Below.refl _ _ | assumption | apply Below.drew | apply below_drewN | (refine Below.alloc ?_ (by first | omega | (simp; done) | (simp; omega)) _) | (refine Below.setCell ?_ (by first | omega | (simp; done) | (simp; omega)) _)))
        have kx : Blk w3 w2.heap.size 38 #[.int .i64 (m : Int), .slice A2 (cbX m rs).xs.length c2] := by rw [hw3]; exact Blk.new _ _ _
        have ka3 := (ka.below b2 ka.lt).below hb23 (Nat.lt_of_lt_of_le ka.lt b2.size)
        have kb3 := (kb.below b2 kb.lt).below hb23 (Nat.lt_of_lt_of_le kb.lt b2.size)
        have ib3 := (ib.below b2).below hb23
        have ix3 : Ints w3 A2 (cbX m rs).xs := (OwnC.ints o2).below hb23
        have hb3 : Below w.heap.size w w3 := hb2.trans (hb23.mono hb2.size)
        obtain ⟨gA, hgA⟩ : ∃ gA, gA = w2.heap.size := ⟨_, rfl⟩
        go_upto_region 2 with fail
        rw [← hw3, ← hgA]
        rw [← hgA] at kx
        clear hw3 hgA hb23 b2 o2 hb2 qa qb ka kb ia ib hb1 h h'
        have qa := ka3.c2
        have qb := kb3.c2
        have qx := kx.c2
        go_wp2_with (fail)
        refine (spec_CableBraid _ rs2 B d w3 ib3 hl').mono ?_; rintro e w4 ⟨A4, c4, rfl, o4, b4⟩
        have hb4 : Below w.heap.size w w4 := hb3.trans (b4.mono hb3.size)
        rw [H2.out, X2.out]
        obtain ⟨w5, hw5⟩ : ∃ w5, w5 = w4.alloc (.cells #[.int .i64 (m : Int), .slice A4 (cbX m rs2).xs.length c4] 38) := ⟨_, rfl⟩
        have hb45 : Below w4.heap.size w4 w5 := by rw [hw5]; (repeat (first | exact Below.refl _ _ | assumption | apply Below.drew | apply below_drewN | (refine Below.alloc ?_ (by first | omega | (simp; done) | (simp; omega)) _) | (refine Below.setCell ?_ (by first | omega | (simp; done) | (simp; omega)) _)))
        have ky : Blk w5 w4.heap.size 38 #[.int .i64 (m : Int), .slice A4 (cbX m rs2).xs.length c4] := by rw [hw5]; exact Blk.new _ _ _
        have ka5 := (ka3.below b4 ka3.lt).below hb45 (Nat.lt_of_lt_of_le ka3.lt b4.size)
        have kb5 := (kb3.below b4 kb3.lt).below hb45 (Nat.lt_of_lt_of_le kb3.lt b4.size)
        have kx5 := (kx.below b4 kx.lt).below hb45 (Nat.lt_of_lt_of_le kx.lt b4.size)
        have jx : Ints w5 A2 (cbX m rs).xs := (ix3.below b4).below hb45
        have jy : Ints w5 A4 (cbX m rs2).xs := (OwnC.ints o4).below hb45
        have hb5 : Below w.heap.size w w5 := hb4.trans (hb45.mono hb4.size)
        obtain ⟨gB, hgB⟩ : ∃ gB, gB = w4.heap.size := ⟨_, rfl⟩
        go_upto_region 5 with fail
        rw [← hw5, ← hgB]
        rw [← hgB] at ky
        clear hw5 hgB hb45 b4 o4 hb4 qa qb qx ka3 kb3 kx ix3 ib3 hb3
        have qa := ka5.c2
        have qb := kb5.c2
        have qx := kx5.c2
        have qy := ky.c2
        go_wp2_with (fail)
        refine (spec_EqualBraids m (cbX m rs).xs (cbX m rs2).xs A2 A4 c2 c4 _ jx jy V1.out V2.out).mono ?_; rintro e w6 ⟨rfl, b6⟩
        go_wp2_with (fail)
        go_ret2
        refine ⟨by rw [HS.out.1, HS.out.2]; rfl, hb5.trans (b6.mono hb5.size)⟩
      · have enn : ((m : Int) != (m2 : Int)) = true := by simp; omega
        have HS := Lib.hid (sc_3 H1.out H2.out (fun hh => hn (by omega)))
        clear hn
        go_enter Tryz.func7, Tryz.ntmps7
        go_upto_region 1 with fail
        rw [← hw1, ← hgX]
        clear hw1 hgX
        have qa := ka.c2
        have qb := kb.c2
        go_wp2_with (fail)
        refine (spec_CableBraid _ rs A c w1 ia hl).mono ?_; rintro e w2 ⟨A2, c2, rfl, o2, b2⟩
        have hb2 : Below w.heap.size w w2 := hb1.trans (b2.mono hb1.size)
        rw [H1.out, X1.out]
        obtain ⟨w3, hw3⟩ : ∃ w3, w3 = w2.alloc (.cells #[.int .i64 (m : Int), .slice A2 (cbX m rs).xs.length c2] 38) := ⟨_, rfl⟩
        have hb23 : Below w2.heap.size w2 w3 := by rw [hw3]; (repeat (first | exact Below.refl _ _ | assumption | apply Below.drew | apply below_drewN | (refine Below.alloc ?_ (by first | omega | (simp; done) | (simp; omega)) _) | (refine Below.setCell ?_ (by first | omega | (simp; done) | (simp; omega)) _)))
        have kx : Blk w3 w2.heap.size 38 #[.int .i64 (m : Int), .slice A2 (cbX m rs).xs.length c2] := by rw [hw3]; exact Blk.new _ _ _
        have ka3 := (ka.below b2 ka.lt).below hb23 (Nat.lt_of_lt_of_le ka.lt b2.size)
        have kb3 := (kb.below b2 kb.lt).below hb23 (Nat.lt_of_lt_of_le kb.lt b2.size)
        have ib3 := (ib.below b2).below hb23
        have ix3 : Ints w3 A2 (cbX m rs).xs := (OwnC.ints o2).below hb23
        have hb3 : Below w.heap.size w w3 := hb2.trans (hb23.mono hb2.size)
        obtain ⟨gA, hgA⟩ : ∃ gA, gA = w2.heap.size := ⟨_, rfl⟩
        go_upto_region 2 with fail
        rw [← hw3, ← hgA]
        rw [← hgA] at kx
        clear hw3 hgA hb23 b2 o2 hb2 qa qb ka kb ia ib hb1 h h'
        have qa := ka3.c2
        have qb := kb3.c2
        have qx := kx.c2
        go_wp2_with (fail)
        refine (spec_CableBraid _ rs2 B d w3 ib3 hl').mono ?_; rintro e w4 ⟨A4, c4, rfl, o4, b4⟩
        have hb4 : Below w.heap.size w w4 := hb3.trans (b4.mono hb3.size)
        rw [H2.out, X2.out]
        obtain ⟨w5, hw5⟩ : ∃ w5, w5 = w4.alloc (.cells #[.int .i64 (m2 : Int), .slice A4 (cbX m2 rs2).xs.length c4] 38) := ⟨_, rfl⟩
        have hb45 : Below w4.heap.size w4 w5 := by rw [hw5]; (repeat (first | exact Below.refl _ _ | assumption | apply Below.drew | apply below_drewN | (refine Below.alloc ?_ (by first | omega | (simp; done) | (simp; omega)) _) | (refine Below.setCell ?_ (by first | omega | (simp; done) | (simp; omega)) _)))
        have ky : Blk w5 w4.heap.size 38 #[.int .i64 (m2 : Int), .slice A4 (cbX m2 rs2).xs.length c4] := by rw [hw5]; exact Blk.new _ _ _
        have ka5 := (ka3.below b4 ka3.lt).below hb45 (Nat.lt_of_lt_of_le ka3.lt b4.size)
        have kb5 := (kb3.below b4 kb3.lt).below hb45 (Nat.lt_of_lt_of_le kb3.lt b4.size)
        have kx5 := (kx.below b4 kx.lt).below hb45 (Nat.lt_of_lt_of_le kx.lt b4.size)
        have jx : Ints w5 A2 (cbX m rs).xs := (ix3.below b4).below hb45
        have jy : Ints w5 A4 (cbX m2 rs2).xs := (OwnC.ints o4).below hb45
        have hb5 : Below w.heap.size w w5 := hb4.trans (hb45.mono hb4.size)
        obtain ⟨gB, hgB⟩ : ∃ gB, gB = w4.heap.size := ⟨_, rfl⟩
        go_upto_region 5 with fail
        rw [← hw5, ← hgB]
        rw [← hgB] at ky
        clear hw5 hgB hb45 b4 o4 hb4 qa qb qx ka3 kb3 kx ix3 ib3 hb3
        have qa := ka5.c2
        have qb := kb5.c2
        have qx := kx5.c2
        have qy := ky.c2
        go_wp2_with (fail)
        go_ret2
        refine ⟨by rw [HS.out.1, HS.out.2]; rfl, hb5⟩
    · have HS := Lib.hid (sc_2 H1.out h2)
      have d2 : (cbCode n2 rs2 != 0) = true := by simpa using h2
      clear h2
      go_enter Tryz.func7, Tryz.ntmps7
      go_upto_region 1 with fail
      rw [← hw1, ← hgX]
      clear hw1 hgX
      have qa := ka.c2
      have qb := kb.c2
      go_wp2_with (fail)
      refine (spec_CableBraid _ rs A c w1 ia hl).mono ?_; rintro e w2 ⟨A2, c2, rfl, o2, b2⟩
      have hb2 : Below w.heap.size w w2 := hb1.trans (b2.mono hb1.size)
      rw [H1.out, X1.out]
      obtain ⟨w3, hw3⟩ : ∃ w3, w3 = w2.alloc (.cells #[.int .i64 (m : Int), .slice A2 (cbX m rs).xs.length c2] 38) := ⟨_, rfl⟩
      have hb23 : Below w2.heap.size w2 w3 := by rw [hw3]; (repeat (first | exact Below.refl _ _ | assumption | apply Below.drew | apply below_drewN | (refine Below.alloc ?_ (by first | omega | (simp; done) | (simp; omega)) _) | (refine Below.setCell ?_ (by first | omega | (simp; done) | (simp; omega)) _)))
      have kx : Blk w3 w2.heap.size 38 #[.int .i64 (m : Int), .slice A2 (cbX m rs).xs.length c2] := by rw [hw3]; exact Blk.new _ _ _
      have ka3 := (ka.below b2 ka.lt).below hb23 (Nat.lt_of_lt_of_le ka.lt b2.size)
      have kb3 := (kb.below b2 kb.lt).below hb23 (Nat.lt_of_lt_of_le kb.lt b2.size)
      have ib3 := (ib.below b2).below hb23
      have ix3 : Ints w3 A2 (cbX m rs).xs := (OwnC.ints o2).below hb23
      have hb3 : Below w.heap.size w w3 := hb2.trans (hb23.mono hb2.size)
      obtain ⟨gA, hgA⟩ : ∃ gA, gA = w2.heap.size := ⟨_, rfl⟩
      go_upto_region 2 with fail
      rw [← hw3, ← hgA]
      rw [← hgA] at kx
      clear hw3 hgA hb23 b2 o2 hb2 qa qb ka kb ia ib hb1 h h'
      have qa := ka3.c2
      have qb := kb3.c2
      have qx := kx.c2
      go_wp2_with (fail)
      refine (spec_CableBraid _ rs2 B d w3 ib3 hl').mono ?_; rintro e w4 ⟨A4, c4, rfl, o4, b4⟩
      have hb4 : Below w.heap.size w w4 := hb3.trans (b4.mono hb3.size)
      go_wp2_with (fail)
      go_ret2
      refine ⟨by rw [HS.out.1, HS.out.2]; rfl, ?_⟩
      exact Below.alloc hb4 hb4.size _
  · have HS := Lib.hid (sc_1 (n2 := n2) (rs2 := rs2) h1)
    have d1 : (cbCode n rs != 0) = true := by simpa using h1
    clear h1
    go_enter Tryz.func7, Tryz.ntmps7
    go_upto_region 1 with fail
    rw [← hw1, ← hgX]
    clear hw1 hgX
    have qa := ka.c2
    have qb := kb.c2
    go_wp2_with (fail)
    refine (spec_CableBraid _ rs A c w1 ia hl).mono ?_; rintro e w2 ⟨A2, c2, rfl, o2, b2⟩
    have hb2 : Below w.heap.size w w2 := hb1.trans (b2.mono hb1.size)
    go_wp2_with (fail)
    go_ret2
    refine ⟨by rw [HS.out.1, HS.out.2]; rfl, ?_⟩
    exact Below.alloc hb2 hb2.size _

set_option maxHeartbeats 4000000 in
set_option maxRecDepth 10000 in
theorem impl_SameCable (n n2 : Int) (rs rs2 : List RowD) (A B : Option Addr) (c d : Nat) (w : World) (h : RowsR w A rs) (hl : rs.length ≤ 9223372036854775807) (h' : RowsR w B rs2) (hl' : rs2.length ≤ 9223372036854775807) :
    Calls Tryz.prog 9 #[.agg #[.int .i64 n, .slice A rs.length c], .agg #[.int .i64 n2, .slice B rs2.length d]] w fun e w' => e = .returned (.tuple #[.bool (scB n n2 rs rs2), .int .i64 (scCode n n2 rs rs2)]) ∧ Below w.heap.size w w' := by
  obtain ⟨w1, hw1⟩ : ∃ w1, w1 = (w.alloc (.cells #[.int .i64 n, .slice A rs.length c] 30)).alloc (.cells #[.int .i64 n2, .slice B rs2.length d] 30) := ⟨_, rfl⟩
  have ka : Blk w1 w.heap.size 30 #[.int .i64 n, .slice A rs.length c] := by rw [hw1]; exact (Blk.new w _ _).alloc _
  have kb : Blk w1 (w.heap.size + 1) 30 #[.int .i64 n2, .slice B rs2.length d] := by rw [hw1]; simpa using Blk.new (w.alloc (.cells #[.int .i64 n, .slice A rs.length c] 30)) 30 #[.int .i64 n2, .slice B rs2.length d]
  have hb1 : Below w.heap.size w w1 := by rw [hw1]; (repeat (first | exact Below.refl _ _ | assumption | apply Below.drew | apply below_drewN | (refine Below.alloc ?_ (by first | omega | (simp; done) | (simp; omega)) _) | (refine Below.setCell ?_ (by first | omega | (simp; done) | (simp; omega)) _)))
  obtain ⟨gX, hgX⟩ : ∃ gX, gX = w.heap.size + 1 := ⟨_, rfl⟩
  rw [← hgX] at kb
  have ia := h.below hb1
  have ib := h'.below hb1
  by_cases h1 : cbCode n rs = 0
  · obtain ⟨⟨m, hm⟩, x1, v1⟩ := cb_braid h1
    subst hm
    have H1 := Lib.hid h1; have X1 := Lib.hid x1; have V1 := Lib.hid v1
    clear h1 x1 v1
    by_cases h2 : cbCode n2 rs2 = 0
    · obtain ⟨⟨m2, hm2⟩, x2, v2⟩ := cb_braid h2
      subst hm2
      have H2 := Lib.hid h2; have X2 := Lib.hid x2; have V2 := Lib.hid v2
      clear h2 x2 v2
      by_cases hn : m = m2
      · subst hn
        have enn : ((m : Int) != (m : Int)) = false := by simp
        have HS := Lib.hid (sc_4 H1.out H2.out)
        go_enter Tryz.func9, Tryz.ntmps9
        go_upto_region 1 with fail
        rw [← hw1, ← hgX]
        clear hw1 hgX
        have qa := ka.c2
        have qb := kb.c2
        go_wp2_with (fail)
        refine (impl_CableBraid _ rs A c w1 ia hl).mono ?_; rintro e w2 ⟨A2, c2, rfl, o2, b2⟩
        have hb2 : Below w.heap.size w w2 := hb1.trans (b2.mono hb1.size)
        rw [H1.out, X1.out]
        obtain ⟨w3, hw3⟩ : ∃ w3, w3 = w2.alloc (.cells #[.int .i64 (m : Int), .slice A2 (cbX m rs).xs.length c2] 38) := ⟨_, rfl⟩
        have hb23 : Below w2.heap.size w2 w3 := by rw [hw3]; (repeat (first | exact Below.refl _ _ | assumption | apply Below.drew | apply below_drewN | (refine Below.alloc ?_ (by first | omega | (simp; done) | (simp; omega)) _) | (refine Below.setCell ?_ (by first | omega | (simp; done) | (simp; omega)) _)))
        have kx : Blk w3 w2.heap.size 38 #[.int .i64 (m : Int), .slice A2 (cbX m rs).xs.length c2] := by rw [hw3]; exact Blk.new _ _ _
        have ka3 := (ka.below b2 ka.lt).below hb23 (Nat.lt_of_lt_of_le ka.lt b2.size)
        have kb3 := (kb.below b2 kb.lt).below hb23 (Nat.lt_of_lt_of_le kb.lt b2.size)
        have ib3 := (ib.below b2).below hb23
        have ix3 : Ints w3 A2 (cbX m rs).xs := (OwnC.ints o2).below hb23
        have hb3 : Below w.heap.size w w3 := hb2.trans (hb23.mono hb2.size)
        obtain ⟨gA, hgA⟩ : ∃ gA, gA = w2.heap.size := ⟨_, rfl⟩
        go_upto_region 2 with fail
        rw [← hw3, ← hgA]
        rw [← hgA] at kx
        clear hw3 hgA hb23 b2 o2 hb2 qa qb ka kb ia ib hb1 h h'
        have qa := ka3.c2
        have qb := kb3.c2
        have qx := kx.c2
        go_wp2_with (fail)
        refine (impl_CableBraid _ rs2 B d w3 ib3 hl').mono ?_; rintro e w4 ⟨A4, c4, rfl, o4, b4⟩
        have hb4 : Below w.heap.size w w4 := hb3.trans (b4.mono hb3.size)
        rw [H2.out, X2.out]
        obtain ⟨w5, hw5⟩ : ∃ w5, w5 = w4.alloc (.cells #[.int .i64 (m : Int), .slice A4 (cbX m rs2).xs.length c4] 38) := ⟨_, rfl⟩
        have hb45 : Below w4.heap.size w4 w5 := by rw [hw5]; (repeat (first | exact Below.refl _ _ | assumption | apply Below.drew | apply below_drewN | (refine Below.alloc ?_ (by first | omega | (simp; done) | (simp; omega)) _) | (refine Below.setCell ?_ (by first | omega | (simp; done) | (simp; omega)) _)))
        have ky : Blk w5 w4.heap.size 38 #[.int .i64 (m : Int), .slice A4 (cbX m rs2).xs.length c4] := by rw [hw5]; exact Blk.new _ _ _
        have ka5 := (ka3.below b4 ka3.lt).below hb45 (Nat.lt_of_lt_of_le ka3.lt b4.size)
        have kb5 := (kb3.below b4 kb3.lt).below hb45 (Nat.lt_of_lt_of_le kb3.lt b4.size)
        have kx5 := (kx.below b4 kx.lt).below hb45 (Nat.lt_of_lt_of_le kx.lt b4.size)
        have jx : Ints w5 A2 (cbX m rs).xs := (ix3.below b4).below hb45
        have jy : Ints w5 A4 (cbX m rs2).xs := (OwnC.ints o4).below hb45
        have hb5 : Below w.heap.size w w5 := hb4.trans (hb45.mono hb4.size)
        obtain ⟨gB, hgB⟩ : ∃ gB, gB = w4.heap.size := ⟨_, rfl⟩
        go_upto_region 5 with fail
        rw [← hw5, ← hgB]
        rw [← hgB] at ky
        clear hw5 hgB hb45 b4 o4 hb4 qa qb qx ka3 kb3 kx ix3 ib3 hb3
        have qa := ka5.c2
        have qb := kb5.c2
        have qx := kx5.c2
        have qy := ky.c2
        go_wp2_with (fail)
        refine (impl_EqualBraids m (cbX m rs).xs (cbX m rs2).xs A2 A4 c2 c4 _ jx jy V1.out V2.out).mono ?_; rintro e w6 ⟨rfl, b6⟩
        go_wp2_with (fail)
        go_ret2
        refine ⟨by rw [HS.out.1, HS.out.2]; rfl, hb5.trans (b6.mono hb5.size)⟩
      · have enn : ((m : Int) != (m2 : Int)) = true := by simp; omega
        have HS := Lib.hid (sc_3 H1.out H2.out (fun hh => hn (by omega)))
        clear hn
        go_enter Tryz.func9, Tryz.ntmps9
        go_upto_region 1 with fail
        rw [← hw1, ← hgX]
        clear hw1 hgX
        have qa := ka.c2
        have qb := kb.c2
        go_wp2_with (fail)
        refine (impl_CableBraid _ rs A c w1 ia hl).mono ?_; rintro e w2 ⟨A2, c2, rfl, o2, b2⟩
        have hb2 : Below w.heap.size w w2 := hb1.trans (b2.mono hb1.size)
        rw [H1.out, X1.out]
        obtain ⟨w3, hw3⟩ : ∃ w3, w3 = w2.alloc (.cells #[.int .i64 (m : Int), .slice A2 (cbX m rs).xs.length c2] 38) := ⟨_, rfl⟩
        have hb23 : Below w2.heap.size w2 w3 := by rw [hw3]; (repeat (first | exact Below.refl _ _ | assumption | apply Below.drew | apply below_drewN | (refine Below.alloc ?_ (by first | omega | (simp; done) | (simp; omega)) _) | (refine Below.setCell ?_ (by first | omega | (simp; done) | (simp; omega)) _)))
        have kx : Blk w3 w2.heap.size 38 #[.int .i64 (m : Int), .slice A2 (cbX m rs).xs.length c2] := by rw [hw3]; exact Blk.new _ _ _
        have ka3 := (ka.below b2 ka.lt).below hb23 (Nat.lt_of_lt_of_le ka.lt b2.size)
        have kb3 := (kb.below b2 kb.lt).below hb23 (Nat.lt_of_lt_of_le kb.lt b2.size)
        have ib3 := (ib.below b2).below hb23
        have ix3 : Ints w3 A2 (cbX m rs).xs := (OwnC.ints o2).below hb23
        have hb3 : Below w.heap.size w w3 := hb2.trans (hb23.mono hb2.size)
        obtain ⟨gA, hgA⟩ : ∃ gA, gA = w2.heap.size := ⟨_, rfl⟩
        go_upto_region 2 with fail
        rw [← hw3, ← hgA]
        rw [← hgA] at kx
        clear hw3 hgA hb23 b2 o2 hb2 qa qb ka kb ia ib hb1 h h'
        have qa := ka3.c2
        have qb := kb3.c2
        have qx := kx.c2
        go_wp2_with (fail)
        refine (impl_CableBraid _ rs2 B d w3 ib3 hl').mono ?_; rintro e w4 ⟨A4, c4, rfl, o4, b4⟩
        have hb4 : Below w.heap.size w w4 := hb3.trans (b4.mono hb3.size)
        rw [H2.out, X2.out]
        obtain ⟨w5, hw5⟩ : ∃ w5, w5 = w4.alloc (.cells #[.int .i64 (m2 : Int), .slice A4 (cbX m2 rs2).xs.length c4] 38) := ⟨_, rfl⟩
        have hb45 : Below w4.heap.size w4 w5 := by rw [hw5]; (repeat (first | exact Below.refl _ _ | assumption | apply Below.drew | apply below_drewN | (refine Below.alloc ?_ (by first | omega | (simp; done) | (simp; omega)) _) | (refine Below.setCell ?_ (by first | omega | (simp; done) | (simp; omega)) _)))
        have ky : Blk w5 w4.heap.size 38 #[.int .i64 (m2 : Int), .slice A4 (cbX m2 rs2).xs.length c4] := by rw [hw5]; exact Blk.new _ _ _
        have ka5 := (ka3.below b4 ka3.lt).below hb45 (Nat.lt_of_lt_of_le ka3.lt b4.size)
        have kb5 := (kb3.below b4 kb3.lt).below hb45 (Nat.lt_of_lt_of_le kb3.lt b4.size)
        have kx5 := (kx.below b4 kx.lt).below hb45 (Nat.lt_of_lt_of_le kx.lt b4.size)
        have jx : Ints w5 A2 (cbX m rs).xs := (ix3.below b4).below hb45
        have jy : Ints w5 A4 (cbX m2 rs2).xs := (OwnC.ints o4).below hb45
        have hb5 : Below w.heap.size w w5 := hb4.trans (hb45.mono hb4.size)
        obtain ⟨gB, hgB⟩ : ∃ gB, gB = w4.heap.size := ⟨_, rfl⟩
        go_upto_region 5 with fail
        rw [← hw5, ← hgB]
        rw [← hgB] at ky
        clear hw5 hgB hb45 b4 o4 hb4 qa qb qx ka3 kb3 kx ix3 ib3 hb3
        have qa := ka5.c2
        have qb := kb5.c2
        have qx := kx5.c2
        have qy := ky.c2
        go_wp2_with (fail)
        go_ret2
        refine ⟨by rw [HS.out.1, HS.out.2]; rfl, hb5⟩
    · have HS := Lib.hid (sc_2 H1.out h2)
      have d2 : (cbCode n2 rs2 != 0) = true := by simpa using h2
      clear h2
      go_enter Tryz.func9, Tryz.ntmps9
      go_upto_region 1 with fail
      rw [← hw1, ← hgX]
      clear hw1 hgX
      have qa := ka.c2
      have qb := kb.c2
      go_wp2_with (fail)
      refine (impl_CableBraid _ rs A c w1 ia hl).mono ?_; rintro e w2 ⟨A2, c2, rfl, o2, b2⟩
      have hb2 : Below w.heap.size w w2 := hb1.trans (b2.mono hb1.size)
      rw [H1.out, X1.out]
      obtain ⟨w3, hw3⟩ : ∃ w3, w3 = w2.alloc (.cells #[.int .i64 (m : Int), .slice A2 (cbX m rs).xs.length c2] 38) := ⟨_, rfl⟩
      have hb23 : Below w2.heap.size w2 w3 := by rw [hw3]; (repeat (first | exact Below.refl _ _ | assumption | apply Below.drew | apply below_drewN | (refine Below.alloc ?_ (by first | omega | (simp; done) | (simp; omega)) _) | (refine Below.setCell ?_ (by first | omega | (simp; done) | (simp; omega)) _)))
      have kx : Blk w3 w2.heap.size 38 #[.int .i64 (m : Int), .slice A2 (cbX m rs).xs.length c2] := by rw [hw3]; exact Blk.new _ _ _
      have ka3 := (ka.below b2 ka.lt).below hb23 (Nat.lt_of_lt_of_le ka.lt b2.size)
      have kb3 := (kb.below b2 kb.lt).below hb23 (Nat.lt_of_lt_of_le kb.lt b2.size)
      have ib3 := (ib.below b2).below hb23
      have ix3 : Ints w3 A2 (cbX m rs).xs := (OwnC.ints o2).below hb23
      have hb3 : Below w.heap.size w w3 := hb2.trans (hb23.mono hb2.size)
      obtain ⟨gA, hgA⟩ : ∃ gA, gA = w2.heap.size := ⟨_, rfl⟩
      go_upto_region 2 with fail
      rw [← hw3, ← hgA]
      rw [← hgA] at kx
      clear hw3 hgA hb23 b2 o2 hb2 qa qb ka kb ia ib hb1 h h'
      have qa := ka3.c2
      have qb := kb3.c2
      have qx := kx.c2
      go_wp2_with (fail)
      refine (impl_CableBraid _ rs2 B d w3 ib3 hl').mono ?_; rintro e w4 ⟨A4, c4, rfl, o4, b4⟩
      have hb4 : Below w.heap.size w w4 := hb3.trans (b4.mono hb3.size)
      go_wp2_with (fail)
      go_ret2
      refine ⟨by rw [HS.out.1, HS.out.2]; rfl, ?_⟩
      exact Below.alloc hb4 hb4.size _
  · have HS := Lib.hid (sc_1 (n2 := n2) (rs2 := rs2) h1)
    have d1 : (cbCode n rs != 0) = true := by simpa using h1
    clear h1
    go_enter Tryz.func9, Tryz.ntmps9
    go_upto_region 1 with fail
    rw [← hw1, ← hgX]
    clear hw1 hgX
    have qa := ka.c2
    have qb := kb.c2
    go_wp2_with (fail)
    refine (impl_CableBraid _ rs A c w1 ia hl).mono ?_; rintro e w2 ⟨A2, c2, rfl, o2, b2⟩
    have hb2 : Below w.heap.size w w2 := hb1.trans (b2.mono hb1.size)
    go_wp2_with (fail)
    go_ret2
    refine ⟨by rw [HS.out.1, HS.out.2]; rfl, ?_⟩
    exact Below.alloc hb2 hb2.size _

end Go.Proofs.YtnjgmhdmjaijgaaGreat
