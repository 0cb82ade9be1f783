/- Steps of the proof, joined from several texts: QG EP NC. -/
import Derived.Test.YthjamohaeahipaaGreatZ22
import Derived.Test.YthjamohaeahipaaGreatZ15
import Derived.Test.YthjamohaeahipaaGreatZ3
import Derived.Test.YthjamohaeahipaaGreatZ5
import Derived.Test.YthjamohaeahipaaGreatZ12
import Derived.Test.YthjamohaeahipaaGreatZ2
import Derived.Test.YthjamohaeahipaaGreatZ9
import Derived.Test.YthjamohaeahipaaGreatZ8
import Derived.Deep.DeepCutAuto

/- Normal forms of words, the given side: the factors of a word, plain; the inverse of a word; the normal form. -/
namespace Go.Proofs.YthjamohaeahipaaGreat
open Go Go.RowKit
open Br (idl halfl invl flipl sw bh dB finB lwB Pm wd prod LW Eqv Wal Stp Fl Lt Dp winv)

/-- The factors of a word, letter by letter. -/
def facN (n : Nat) (L : List (List Int)) (x : Int) : List (List Int) := if 0 < x then L ++ [bh (x.toNat - 1) (idl n)] else L.map flipl ++ [bh ((-x).toNat - 1) (halfl n)]
def facs (n : Nat) (xs : List Int) : List (List Int) := xs.foldl (facN n) []
def negs (xs : List Int) : Nat := xs.countP (fun x => decide (x < 0))
theorem facs_snoc {n i : Nat} {xs : List Int} {x : Int} (h : xs[i]? = some x) : facs n (xs.take (i + 1)) = facN n (facs n (xs.take i)) x := by
  unfold facs
  rw [take_snoc h, List.foldl_append]
  rfl
theorem negs_snoc {i : Nat} {xs : List Int} {x : Int} (h : xs[i]? = some x) : negs (xs.take (i + 1)) = negs (xs.take i) + if x < 0 then 1 else 0 := by
  unfold negs
  rw [take_snoc h, List.countP_append]
  congr 1
  by_cases hh : x < 0
  · rw [if_pos hh, List.countP_cons_of_pos (by simpa using hh)]; rfl
  · rw [if_neg hh, List.countP_cons_of_neg (by simpa using hh)]; rfl
theorem negs_le (xs : List Int) : negs xs ≤ xs.length := List.countP_le_length
theorem facN_pos {n : Nat} {L : List (List Int)} {x : Int} {j : Nat} (h : x = (j : Int) + 1) : facN n L x = L ++ [bh j (idl n)] := by
  rw [facN, if_pos (by omega), show x.toNat - 1 = j by omega]
theorem facN_neg {n : Nat} {L : List (List Int)} {x : Int} {j : Nat} (h : x = -((j : Int) + 1)) : facN n L x = L.map flipl ++ [bh j (halfl n)] := by
  rw [facN, if_neg (by omega), show (-x).toNat - 1 = j by omega]
theorem idl_ord (n k : Nat) : Br.ordK k (idl n) := (Br.idl_sorted n).imp fun h hh => by omega
theorem wd_one {n j : Nat} (h : j + 1 < n) : Eqv (wd (bh j (idl n))) [j] := by
  have := Br.wd_behind (Pm.id n) h (idl_ord n j)
  rwa [Br.wd_idl, List.nil_append] at this
theorem fl_prod {n : Nat} : ∀ (L : List (List Int)), (∀ p ∈ L, Pm n p) → Fl n (prod L) (prod (L.map flipl))
  | [], _ => .nil n
  | p :: L, h => by
    rw [List.map_cons, Br.prod_cons, Br.prod_cons]
    exact (Fl.perm (h p (by simp))).app (fl_prod L fun q hq => h q (by simp [hq]))
theorem facs_facts {n : Nat} {xs : List Int} (hx : ∀ x ∈ xs, Lt n x) (i : Nat) (hi : i ≤ xs.length) : (∀ p ∈ facs n (xs.take i), Pm n p) ∧ (facs n (xs.take i)).length = i ∧ Wal n (0, []) (xs.take i) (negs (xs.take i), prod (facs n (xs.take i))) := by
  induction i with
  | zero =>
    refine ⟨fun p hp => ?_, rfl, ?_⟩
    · rw [List.take_zero] at hp; cases hp
    · rw [List.take_zero]; exact .nil _
  | succ i ih =>
    obtain ⟨i1, i2, i3⟩ := ih (by omega)
    have hg : xs[i]? = some (xs[i]'(by omega)) := List.getElem?_eq_getElem _
    have hlt := hx _ (List.getElem_mem (show i < xs.length by omega))
    generalize xs[i]'(by omega) = x at hg hlt
    rw [facs_snoc hg, negs_snoc hg]
    obtain ⟨l1, l2, l3⟩ := hlt
    by_cases hp : 0 < x
    · obtain ⟨j, hj⟩ : ∃ j : Nat, x = (j : Int) + 1 := ⟨x.toNat - 1, by omega⟩
      rw [facN_pos hj, if_neg (by omega), Nat.add_zero]
      refine ⟨fun p hpm => ?_, by simp [i2], ?_⟩
      · rcases List.mem_append.1 hpm with hpm | hpm
        · exact i1 p hpm
        · rw [List.mem_singleton] at hpm
          rw [hpm]
          exact (Pm.id n).bh (by omega)
      · rw [take_snoc hg]
        refine i3.app (Wal.cons (y := (negs (xs.take i), prod (facs n (xs.take i) ++ [bh j (idl n)]))) (.inl ⟨hp, l3, rfl, ?_⟩) (.nil _))
        rw [Br.prod_app]
        show Eqv (_ ++ (wd (bh j (idl n)) ++ [])) _
        rw [List.append_nil, show x.toNat - 1 = j by omega]
        exact (wd_one (by omega)).pre _
    · obtain ⟨j, hj⟩ : ∃ j : Nat, x = -((j : Int) + 1) := ⟨(-x).toNat - 1, by omega⟩
      rw [facN_neg hj, if_pos (by omega)]
      refine ⟨fun p hpm => ?_, by simp [i2], ?_⟩
      · rcases List.mem_append.1 hpm with hpm | hpm
        · obtain ⟨q, hq, rfl⟩ := List.mem_map.1 hpm
          exact (i1 q hq).flip
        · rw [List.mem_singleton] at hpm
          rw [hpm]
          exact (Br.halfl_Pm n).bh (by omega)
      · rw [take_snoc hg]
        refine i3.app (Wal.cons (y := (negs (xs.take i) + 1, prod ((facs n (xs.take i)).map flipl ++ [bh j (halfl n)]))) (.inr ⟨by omega, by omega, rfl, _, fl_prod _ i1, ?_⟩) (.nil _))
        rw [Br.prod_app]
        show Eqv (_ ++ (wd (bh j (halfl n)) ++ [])) _
        rw [List.append_nil, show (-x).toNat - 1 = j by omega]
        exact .refl _
/-- Whether two words are equal braids. -/
def eqP (n : Nat) (a b : List Int) : Prop := Eqv (prod (facs n (a ++ winv b))) (Dp n (negs (a ++ winv b)))
noncomputable instance (n : Nat) (a b : List Int) : Decidable (eqP n a b) := Classical.propDecidable _
noncomputable def eqW (n : Nat) (a b : List Int) : Bool := decide (eqP n a b)
/-- How the program sees it. -/
theorem trivial_iff {n : Nat} {xs : List Int} {G : List (List Int)} (hx : ∀ x ∈ xs, Lt n x) (hp : ∀ p ∈ G, Pm n p) (hl : LW G) (he : Eqv (prod G) (prod (facs n xs))) :
    Eqv (prod (facs n xs)) (Dp n (negs xs)) ↔ (cntHalf n G = negs xs ∧ cntElse n G = 0) := by
  constructor
  · intro h
    have h1n : 1 < n ∨ negs xs = 0 := by
      cases xs with
      | nil => right; rfl
      | cons x xs => have := hx x (by simp); unfold Lt at this; left; omega
    obtain ⟨h1, h2⟩ := Br.all_half (negs xs) G hp hl (he.trans h) h1n
    constructor
    · rw [← h2]
      unfold cntHalf
      refine List.countP_congr fun p hpm => ?_
      rcases h1 p hpm with e | e
      · simp [e]
      · simp [e]
    · unfold cntElse
      rw [List.countP_eq_zero]
      intro p hpm
      rcases h1 p hpm with e | e
      · simp [e]
      · simp [e]
  · rintro ⟨h1, h2⟩
    unfold cntElse at h2
    rw [List.countP_eq_zero] at h2
    have h3 : ∀ p ∈ G, p = idl n ∨ p = halfl n := by
      intro p hpm
      have h4 := h2 p hpm
      by_cases e1 : p = idl n
      · exact .inl e1
      · by_cases e2 : p = halfl n
        · exact .inr e2
        · simp [e1, e2] at h4
    have h4 := Br.prod_half G h3
    have h5 : G.countP (fun p => decide (p ≠ idl n)) = cntHalf n G := by
      unfold cntHalf
      refine List.countP_congr fun p hpm => ?_
      rcases h3 p hpm with e | e
      · simp [e]
      · simp [e]
    rw [h5, h1] at h4
    rw [← h4]
    exact he.symm
theorem winv_take {xs : List Int} {k : Nat} {x : Int} (h : xs[k]? = some x) : winv (xs.drop (k + 1)) ++ [-x] = winv (xs.drop k) := by
  rw [drop_cons h]; simp [winv]
theorem winv_length (xs : List Int) : (winv xs).length = xs.length := by simp [winv]

set_option maxHeartbeats 1000000 in
set_option maxRecDepth 10000 in
theorem spec_l03Inverse (A : Option Addr) (c : Nat) (xs : List Int) (w : World) (h : Ints w A xs) (hl : xs.length ≤ 1000) (hs : smallB xs) :
    Calls Tryz.prog 63 #[.slice A xs.length c] w fun e w' => ∃ A' c', e = .returned (.slice A' (winv xs).length c') ∧ OwnI w' w.heap.size w'.heap.size A' c' (winv xs) ∧ Below w.heap.size w w' := by
  obtain ⟨i0, hi0, hz0, hz1, hz2⟩ := info_parts info_int64
  have j1 : IntKind.i64.wrap ((xs.length : Int) - 1) = (xs.length : Int) - 1 := IntWalk.i64_in _ ⟨by omega, by omega⟩
  go_enter Tryz.func63, Tryz.ntmps63
  go_wp2_with (fail)
  go_loopw [3, 4] (fun ov iv wr => ∃ (k : Nat) (A3 : Option Addr) (c3 : Nat), k ≤ xs.length ∧ iv = .int .i64 ((k : Int) - 1) ∧ ov = .slice A3 (xs.length - k) c3 ∧ OwnC wr w.heap.size wr.heap.size 2 1 A3 (xs.length - k) c3 ((winv (xs.drop k)).map (Value.int .i64)) ∧ Below w.heap.size w wr) (fun _ iv _ => (intOf iv + 1).toNat)
  case atStart =>
    refine ⟨xs.length, some ⟨w.heap.size, 0, none⟩, 0, Nat.le_refl _, rfl, by simp, ?_, by (repeat (first | exact Below.refl _ _ | assumption | apply Below.drew | apply below_drewN | (refine Below.alloc ?_ (by first | omega | (simp; done) | (simp; omega)) _) | (refine Below.setCell ?_ (by first | omega | (simp; done) | (simp; omega)) _)))⟩
    have := (OwnC.lit (w := w) (lo := w.heap.size) (n := 0) 2 1 #[] (Nat.le_refl _) (Nat.zero_le _) rfl).mono (Nat.le_refl _) (show w.heap.size + 1 ≤ (w.alloc (.cells #[] 2)).heap.size by simp)
    simpa [winv] using this
  case round =>
    clear j1
    obtain ⟨k, A3, c3, hk, rfl, rfl, ho, hb⟩ := hrel
    have hzs := hb.size
    by_cases hk0 : 0 < k
    · obtain ⟨m, rfl⟩ : ∃ m, k = m + 1 := ⟨k - 1, by omega⟩
      have d0 : decide ((((m + 1 : Nat) : Int) - 1) ≥ 0) = true := decide_eq_true (by omega)
      have e1 : (((m + 1 : Nat) : Int) - 1) = (m : Int) := by omega
      rw [e1] at d0 ⊢
      clear e1
      obtain ⟨b, off, x, rfl, hc, hx⟩ := (h.below hb) m (by omega)
      have hxs := hs x (List.mem_of_getElem? hx)
      have wn : IntKind.i64.wrap (-x) = -x := IntWalk.i64_in _ ⟨by omega, by omega⟩
      have HX : Hid ((winv (xs.drop m)).map (Value.int .i64) = (winv (xs.drop (m + 1))).map (Value.int .i64) ++ [.int .i64 (-x)]) := Lib.hid (by rw [← winv_take hx]; simp)
      clear hx
      have j2 : (0 : Int) ≤ (m : Int) := by omega
      have j3 : (m : Int) < (xs.length : Int) := by omega
      have j4 : IntKind.i64.wrap ((m : Int) - 1) = (m : Int) - 1 := IntWalk.i64_in _ ⟨by omega, by omega⟩
      have hn : xs.length - (m + 1) + 1 = xs.length - m := by omega
      have HN := Lib.hid hn; clear hn
      generalize hq : xs.length - (m + 1) = q at *
      have hq1 : q ≤ 1000000 := by omega
      have HQ := Lib.hid hq; clear hq
      go_wp2_with (at_builtin; refine wpList_append1 wr [.int .i64 (-x)] _ rfl (.tmp 13) (.tmp 19) _ rfl 2 i0 _ 1 8 Tryz.underlying24 hi0 hz0 hz1 hz2 rfl (by decide) rfl ho hzs 1 rfl rfl (by simp [Value.oneCell']) (by omega) (by decide) ?_; intro A2 c2 w3 ho2 hg2 hb3 hz2')
      refine ⟨⟨m, A2, c2, by omega, rfl, by rw [HN.out], ?_, hb.trans hb3⟩, by simp [intOf]⟩
      rw [HX.out, ← HN.out]
      exact ho2
    · obtain rfl : k = 0 := by omega
      have d0 : decide ((((0 : Nat) : Int) - 1) ≥ 0) = false := by decide
      go_wp2_with (fail)
      go_ret
      refine ⟨A3, c3, by rw [winv_length]; rfl, ?_, hb⟩
      show OwnC _ _ _ _ _ _ _ _ _
      rw [winv_length]
      exact ho

theorem PRows.box {w : World} {lo n m c : Nat} {A : Option Addr} {F : List (List Int)} {g : Nat} {t : TypeId} {bs : Array Value} (h : PRows w lo n A m c F) (hb : Blk w g t bs) (t1 : t ≠ 2) (t2 : t ≠ 24) (j : Nat) (u : Value) : PRows (w.setCell ⟨g, j, none⟩ u) lo n A m c F := by
  obtain ⟨cs, h1, h2⟩ := h
  exact ⟨cs, (h1.farT hb t2 j u).mono (Nat.le_refl _) (by simp), h2.keepC (by simp) fun _ _ _ ho => ho.farT hb t1 j u⟩
set_option maxHeartbeats 8000000 in
set_option maxRecDepth 10000 in
theorem spec_l04Normal (n : Nat) (xs : List Int) (A : Option Addr) (c : Nat) (w : World) (h : Ints w A xs) (hx : ∀ x ∈ xs, Lt n x) (hn : n ≤ 12) (hl : xs.length ≤ 100) :
    Calls Tryz.prog 61 #[.int .i64 (n : Int), .slice A xs.length c] w fun e w' => ∃ (G : List (List Int)) (A' : Option Addr) (c' : Nat), e = .returned (.agg #[.int .i64 (n : Int), .int .i64 ((cntHalf n G : Int) - (negs xs : Int)), .slice A' (cntElse n G) c']) ∧ (∀ p ∈ G, Pm n p) ∧ LW G ∧ Eqv (prod G) (prod (facs n xs)) ∧ Below w.heap.size w w' := by
  obtain ⟨i1, hi1, hz1, hz2, hz3⟩ := info_parts info_intsI
  have t1 : (82 : TypeId) ≠ 2 := by decide
  have t2 : (82 : TypeId) ≠ 24 := by decide
  have HX := Lib.hid hx; clear hx
  obtain ⟨w1, hw1⟩ : ∃ w1, w1 = (w.alloc (.cells #[.int .i64 0, .int .i64 0, .slice none 0 0] 82)).alloc (.cells #[.int .i64 (n : Int), .int .i64 0, .slice none 0 0] 82) := ⟨_, rfl⟩
  have kz1 : Blk w1 w.heap.size 82 #[.int .i64 0, .int .i64 0, .slice none 0 0] := by rw [hw1]; exact (Blk.new w _ _).alloc _
  have kx1 : Blk w1 (w.heap.size + 1) 82 #[.int .i64 (n : Int), .int .i64 0, .slice none 0 0] := by rw [hw1]; simpa using Blk.new (w.alloc (.cells #[.int .i64 0, .int .i64 0, .slice none 0 0] 82)) 82 #[.int .i64 (n : Int), .int .i64 0, .slice none 0 0]
  have hb1 : Below w.heap.size w w1 := by rw [hw1]; (repeat (first | exact Below.refl _ _ | assumption | apply Below.drew | apply below_drewN | (refine Below.alloc ?_ (by first | omega | (simp; done) | (simp; omega)) _) | (refine Below.setCell ?_ (by first | omega | (simp; done) | (simp; omega)) _)))
  have hz1' : w1.heap.size = w.heap.size + 2 := by rw [hw1]; simp
  obtain ⟨gX, hgX⟩ : ∃ gX, gX = w.heap.size + 1 := ⟨_, rfl⟩
  rw [← hgX] at kx1
  have hlo : gX + 1 ≤ w1.heap.size ∧ w.heap.size < gX := by omega
  go_enter Tryz.func61, Tryz.ntmps61
  go_upto_region 2 with fail
  rw [← hw1, ← hgX]
  clear hw1 hgX hz1'
  go_wp2_with (fail)
  go_loopw [6, 7] (fun ov iv wr => ∃ (i : Nat) (y : Int) (A3 : Option Addr) (c3 : Nat), i ≤ xs.length ∧ iv = .int .i64 (i : Int) ∧ ov = .slice A3 i c3 ∧ Hid (y = -(negs (xs.take i) : Int)) ∧ (-(i : Int) ≤ y ∧ y ≤ 0) ∧ Blk wr w.heap.size 82 #[.int .i64 0, .int .i64 0, .slice none 0 0] ∧ Blk wr gX 82 #[.int .i64 (n : Int), .int .i64 y, .slice none 0 0] ∧ PRows wr (gX + 1) n A3 i c3 (facs n (xs.take i)) ∧ Below w.heap.size w wr ∧ gX + 1 ≤ wr.heap.size) (fun _ iv _ => xs.length - (intOf iv).toNat)
  case atStart =>
    refine ⟨0, 0, some ⟨w1.heap.size, 0, none⟩, 0, Nat.zero_le _, rfl, rfl, Lib.hid rfl, ⟨by simp, Int.le_refl _⟩, kz1.alloc _, kx1.alloc _, ⟨[], ?_, CR.nil⟩, hb1.alloc hb1.size _, by simp; omega⟩
    exact (OwnC.lit (w := w1) (lo := gX + 1) (n := 0) 24 1 #[] hlo.1 (Nat.zero_le _) rfl).mono (Nat.le_refl _) (by simp)
  case round =>
    have hzX := hlo.2
    clear kz1 kx1 hb1 hlo
    obtain ⟨i, y, A3, c3, hi, rfl, rfl, HY, hyi, kz, kx, hP, hb, hz⟩ := hrel
    have hzg := kz.lt
    have hzx := kx.lt
    have hzs := hb.size
    by_cases hil : i < xs.length
    · have di : decide ((i : Int) < (xs.length : Int)) = true := decide_eq_true (by omega)
      obtain ⟨b, off, x, rfl, hc, hx⟩ := (h.below hb) i hil
      have hlt := HX.out x (List.mem_of_getElem? hx)
      unfold Lt at hlt
      obtain ⟨ff1, ff2, _⟩ := facs_facts (n := n) HX.out i hi
      have HF1 := Lib.hid ff1; have HF2 := Lib.hid ff2
      have hfs := facs_snoc (n := n) hx
      have hns := negs_snoc hx
      have j1 : (0 : Int) ≤ (i : Int) := by omega
      have j2 : (i : Int) < (xs.length : Int) := by omega
      have hxs : -1000 ≤ x ∧ x ≤ 1000 := by omega
      have HXS := Lib.hid hxs
      clear hxs ff1 ff2 hx
      by_cases hp : 0 < x
      · obtain ⟨j, hj⟩ : ∃ j : Nat, x = (j : Int) + 1 := ⟨x.toNat - 1, by omega⟩
        have dp : decide (x > 0) = true := decide_eq_true hp
        have HFS : Hid (facs n (xs.take (i + 1)) = facs n (xs.take i) ++ [bh j (idl n)]) := Lib.hid (by rw [hfs, facN_pos hj])
        have HNS : Hid (y = -(negs (xs.take (i + 1)) : Int)) := Lib.hid (by rw [hns, if_neg (by omega), Nat.add_zero]; exact HY.out)
        have HAB : Hid (absI x = (j : Int) + 1) := Lib.hid (by unfold absI; split <;> omega)
        have HPB := Lib.hid ((Pm.id n).bh (k := j) (by omega))
        have jn : j ≤ 1000 := by omega
        clear hfs hns hj hp hlt
        go_wp2_with (go_at_call 80; refine (spec_l03Abs _ _ HXS.out).mono ?_; rintro e _ ⟨rfl, rfl⟩; rw [HAB.out])
        refine (spec_l04Identity n wr (by omega)).mono ?_; rintro e w2 ⟨A4, c4, rfl, o4, b4⟩
        go_wp2_with (fail)
        refine (spec_l04Behind n j (idl n) A4 c4 w2 (OwnC.ints o4) (Br.idl_length n) jn (by omega)).mono ?_; rintro e w3 ⟨A5, c5, rfl, o5, b5⟩
        have b45 : Below wr.heap.size wr w3 := b4.trans (b5.mono b4.size)
        obtain ⟨cs, ho, hcr⟩ := hP.below b45
        have kz3 := kz.below b45 kz.lt
        have kx3 := kx.below b45 kx.lt
        have hz3' : gX + 1 ≤ w3.heap.size := Nat.le_trans hz b45.size
        have hb3 : Below w.heap.size w w3 := hb.trans (b45.mono hzs)
        have hgz : w.heap.size < gX + 1 := by omega
        have HGZ := Lib.hid hgz
        clear b4 b5 b45 o4 hP hb kz kx hz hzs hzg hzx hc hgz
        go_wp2_with (at_builtin; refine wpList_append1 w3 [.slice A5 n c5] _ rfl (.tmp 30) (.tmp 35) _ rfl 24 i1 _ 1 24 Tryz.underlying71 hi1 hz1 hz2 hz3 rfl (by decide) rfl ho hz3' 1 rfl rfl (by simp [Value.oneCell']) (by omega) (by decide) ?_; intro A9 c9 w8 ho8 hg8 hb8 hz8)
        have hb8' : Below w.heap.size w w8 := hb3.trans (hb8.mono (by have := HGZ.out; omega))
        have ho3 := OwnC.alloc ho (.cells #[.slice A5 n c5] 24)
        refine ⟨⟨i + 1, y, A9, c9, by omega, by go_num, rfl, HNS, by omega, (kz3.alloc _).grownT ho3 t2 hg8, (kx3.alloc _).grownT ho3 t2 hg8, ?_, hb8', by omega⟩, by simp [intOf]; omega⟩
        rw [HFS.out]
        exact PRows.push ho hcr (OwnC.mono o5 (Nat.zero_le _) (Nat.le_refl _)) HPB.out.len ho8 hg8
      · obtain ⟨j, hj⟩ : ∃ j : Nat, x = -((j : Int) + 1) := ⟨(-x).toNat - 1, by omega⟩
        have dp : decide (x > 0) = false := decide_eq_false hp
        have HFS : Hid (facs n (xs.take (i + 1)) = (facs n (xs.take i)).map flipl ++ [bh j (halfl n)]) := Lib.hid (by rw [hfs, facN_neg hj])
        have HNS : Hid (y - 1 = -(negs (xs.take (i + 1)) : Int)) := Lib.hid (by rw [hns, if_pos (by omega), HY.out]; omega)
        have HAB : Hid (absI x = (j : Int) + 1) := Lib.hid (by unfold absI; split <;> omega)
        have HPB := Lib.hid ((Br.halfl_Pm n).bh (k := j) (by omega))
        have jn : j ≤ 1000 := by omega
        have wy : IntKind.i64.wrap (y - 1) = y - 1 := IntWalk.i64_in _ ⟨by omega, by omega⟩
        obtain ⟨p0, p1, p2⟩ := kx.c3
        have fr1 := kx.frozen 1
        clear hfs hns hj hp hlt
        go_upto_region 10 with (go_at_call 80; refine (spec_l03Abs _ _ HXS.out).mono ?_; rintro e _ ⟨rfl, rfl⟩; rw [HAB.out])
        have kx2 := kx.set31 (.int .i64 (y - 1))
        have kz2 := kz.far (p := ⟨gX, 1, none⟩) (by show w.heap.size ≠ gX; omega) (.int .i64 (y - 1))
        have P2 := hP.box kx t1 t2 1 (.int .i64 (y - 1))
        have hb2 : Below w.heap.size w (wr.setCell ⟨gX, 1, none⟩ (.int .i64 (y - 1))) := hb.setCell (by show w.heap.size ≤ gX; omega) _
        have hz2' : gX + 1 ≤ (wr.setCell ⟨gX, 1, none⟩ (.int .i64 (y - 1))).heap.size := by simpa using hz
        obtain ⟨wq, hwq⟩ : ∃ wq, wq = wr.setCell ⟨gX, 1, none⟩ (.int .i64 (y - 1)) := ⟨_, rfl⟩
        rw [← hwq] at kx2 kz2 P2 hb2 hz2' ⊢
        clear hwq hP kx kz hb hz hzs hzg hzx hc p0 p1 p2 fr1
        have hi100 : i ≤ 1000 := by omega
        go_wp2_with (fail)
        refine (spec_l04FlipAll n i (gX + 1) (facs n (xs.take i)) A3 c3 wq P2 HF1.out (by omega) hi100).mono ?_; rintro e w2 ⟨A4, c4, rfl, P4, b4⟩
        go_wp2_with (fail)
        refine (spec_l04Half n w2 (by omega)).mono ?_; rintro e w3 ⟨A5, c5, rfl, o5, b5⟩
        go_wp2_with (fail)
        refine (spec_l04Behind n j (halfl n) A5 c5 w3 (OwnC.ints o5) (Br.halfl_length n) jn (by omega)).mono ?_; rintro e w4 ⟨A6, c6, rfl, o6, b6⟩
        have b56 : Below w2.heap.size w2 w4 := b5.trans (b6.mono b5.size)
        have b46 : Below wq.heap.size wq w4 := b4.trans (b56.mono b4.size)
        obtain ⟨cs, ho', hcr⟩ := P4.below b56
        have ho : OwnC w4 (gX + 1) w4.heap.size 24 1 A4 i c4 cs := ho'.mono hz2' (Nat.le_refl _)
        have kz3 := kz2.below b46 kz2.lt
        have kx3 := kx2.below b46 kx2.lt
        have hz3' : gX + 1 ≤ w4.heap.size := Nat.le_trans hz2' b46.size
        have hb3 : Below w.heap.size w w4 := hb2.trans (b46.mono hb2.size)
        have HGZ := Lib.hid (show w.heap.size < gX + 1 by omega)
        clear b4 b5 b6 b56 b46 o5 P2 P4 hb2 kz2 kx2 hz2' ho'
        go_wp2_with (at_builtin; refine wpList_append1 w4 [.slice A6 n c6] _ rfl (.tmp 42) (.tmp 47) _ rfl 24 i1 _ 1 24 Tryz.underlying71 hi1 hz1 hz2 hz3 rfl (by decide) rfl ho hz3' 1 rfl rfl (by simp [Value.oneCell']) (by omega) (by decide) ?_; intro A9 c9 w8 ho8 hg8 hb8 hz8)
        have hb8' : Below w.heap.size w w8 := hb3.trans (hb8.mono (by have := HGZ.out; omega))
        have ho3 := OwnC.alloc ho (.cells #[.slice A6 n c6] 24)
        refine ⟨⟨i + 1, y - 1, A9, c9, by omega, by go_num, rfl, HNS, by omega, (kz3.alloc _).grownT ho3 t2 hg8, (kx3.alloc _).grownT ho3 t2 hg8, ?_, hb8', by omega⟩, by simp [intOf]; omega⟩
        rw [HFS.out]
        exact PRows.push ho hcr (OwnC.mono o6 (Nat.zero_le _) (Nat.le_refl _)) HPB.out.len ho8 hg8
    · obtain rfl : i = xs.length := by omega
      have di : decide ((xs.length : Int) < (xs.length : Int)) = false := decide_eq_false (by omega)
      rw [take_all (Nat.le_refl _)] at hP
      have hyy := HY.out
      rw [take_all (Nat.le_refl _)] at hyy
      have HYY := Lib.hid hyy; clear hyy HY
      obtain ⟨ff1, ff2, _⟩ := facs_facts (n := n) HX.out xs.length (Nat.le_refl _)
      rw [take_all (Nat.le_refl _)] at ff1 ff2
      have HF1 := Lib.hid ff1; have HF2 := Lib.hid ff2; clear ff1 ff2
      go_wp2_with (fail)
      refine (spec_l04Settle n xs.length (gX + 1) (facs n xs) A3 c3 wr hP HF1.out (by omega) (by omega)).mono ?_
      rintro e w2 ⟨G, A4, c4, rfl, g1, g2, g3, g4, b4⟩
      have hch := cntHalf_le n G
      have hce := cntElse_le n G
      rw [g4, HF2.out] at hch hce
      have HG1 := Lib.hid g1; have HG2 := Lib.hid g2; have HG3 := Lib.hid g3
      have kz2 := kz.below b4 kz.lt
      have kx2 := kx.below b4 kx.lt
      have hb2 : Below w.heap.size w w2 := hb.trans (b4.mono hzs)
      clear g1 g2 g3 g4 kz kx hb hP b4 hzg hzx hzs
      obtain ⟨p0, p1, p2⟩ := kx2.c3
      have fr1 := kx2.frozen 1
      have fr2 := kx2.frozen 2
      obtain ⟨r0, r1, r2⟩ := kz2.c3
      have fz0 := kz2.frozen 0
      have fz1 := kz2.frozen 1
      have fz2 := kz2.frozen 2
      generalize hH : cntHalf n G = H at *
      generalize hE : cntElse n G = E at *
      have HHH := Lib.hid hH; have HEE := Lib.hid hE; clear hH hE
      have ws : IntKind.i64.wrap (y + (H : Int)) = y + (H : Int) := IntWalk.i64_in _ ⟨by omega, by omega⟩
      have hne : ¬ w.heap.size = gX := by omega
      have hne2 : ¬ gX = w.heap.size := by omega
      go_wp2_with (fail)
      have kz3 := (kz2.far (p := ⟨gX, 1, none⟩) hne (.int .i64 (y + (H : Int)))).far (p := ⟨gX, 2, none⟩) hne (.slice A4 E c4)
      have k1 := kz3.set30 (.int .i64 (n : Int))
      have k2 := k1.set31 (.int .i64 (y + (H : Int)))
      have k3 := k2.set32 (.slice A4 E c4)
      obtain ⟨r0, r1, r2⟩ := k3.c3
      refine bodyPost_ret (v := .agg #[.int .i64 (n : Int), .int .i64 (y + (H : Int)), .slice A4 E c4]) (by simp [results, Tryz.results61, go_sem, r0, r1, r2]) rfl ⟨G, A4, c4, ?_, HG1.out, HG2.out, HG3.out, ?_⟩
      · rw [HHH.out, HEE.out, show y + (H : Int) = (H : Int) - (negs xs : Int) by have := HYY.out; omega]
      · have hg : w.heap.size ≤ gX := by omega
        exact ((((hb2.setCell (by show w.heap.size ≤ gX; omega) _).setCell (by show w.heap.size ≤ gX; omega) _).setCell (Nat.le_refl _) _).setCell (Nat.le_refl _) _).setCell (Nat.le_refl _) _

theorem eqW_of {n : Nat} {a b : List Int} {G : List (List Int)} (hx : ∀ x ∈ a ++ winv b, Lt n x) (hp : ∀ p ∈ G, Pm n p) (hl : LW G) (he : Eqv (prod G) (prod (facs n (a ++ winv b)))) : eqW n a b = (decide ((cntHalf n G : Int) - (negs (a ++ winv b) : Int) = 0) && decide (cntElse n G = 0)) := by
  have h1 := trivial_iff hx hp hl he
  unfold eqW
  by_cases h2 : eqP n a b
  · obtain ⟨h3, h4⟩ := h1.1 h2
    rw [decide_eq_true h2, decide_eq_true (by omega), decide_eq_true h4]; rfl
  · rw [decide_eq_false h2]
    have h3 : ¬ (cntHalf n G = negs (a ++ winv b) ∧ cntElse n G = 0) := fun hh => h2 (h1.2 hh)
    by_cases h4 : cntElse n G = 0
    · rw [decide_eq_false (by intro h5; exact h3 ⟨by omega, h4⟩), Bool.false_and]
    · rw [decide_eq_false h4, Bool.and_false]
theorem lt_small {n : Nat} {xs : List Int} (h : ∀ x ∈ xs, Lt n x) (hn : n ≤ 12) : smallB xs := fun x hx => by have := h x hx; unfold Lt at this; omega
set_option maxHeartbeats 2000000 in
set_option maxRecDepth 10000 in
theorem spec_l04Equal (n : Nat) (a b : List Int) (A B : Option Addr) (c d : Nat) (w : World) (h : Ints w A a) (h' : Ints w B b) (ha : ∀ x ∈ a, Lt n x) (hb : ∀ x ∈ b, Lt n x) (hn : n ≤ 12) (hla : a.length ≤ 40) (hlb : b.length ≤ 40) :
    Calls Tryz.prog 33 #[.int .i64 (n : Int), .slice A a.length c, .slice B b.length d] w fun e w' => e = .returned (.bool (eqW n a b)) ∧ Below w.heap.size w w' := by
  obtain ⟨i0, hi0, hz0, hz1, hz2⟩ := info_parts info_int64
  have hx : ∀ x ∈ a ++ winv b, Lt n x := fun x hx => by
    rcases List.mem_append.1 hx with hx | hx
    · exact ha x hx
    · exact Lt.winv hb x hx
  have hwl := winv_length b
  have HX := Lib.hid hx; clear hx
  have HS := Lib.hid (lt_small hb hn)
  have HEQ : Hid (∀ G, (∀ p ∈ G, Pm n p) → LW G → Eqv (prod G) (prod (facs n (a ++ winv b))) → eqW n a b = (decide ((cntHalf n G : Int) - (negs (a ++ winv b) : Int) = 0) && decide (cntElse n G = 0))) := Lib.hid (fun G h1 h2 h3 => eqW_of HX.out h1 h2 h3)
  clear ha hb
  go_enter Tryz.func33, Tryz.ntmps33
  go_wp2_with (fail)
  refine (spec_l00Own A c a w h (by omega)).mono ?_; rintro e w1 ⟨A1, c1, rfl, o1, b1⟩
  go_wp2_with (fail)
  refine (spec_l03Inverse B d b w1 (h'.below b1) (by omega) HS.out).mono ?_; rintro e w2 ⟨A2, c2, rfl, o2, b2⟩
  have o12 := OwnC.below o1 b2 (Nat.le_refl _)
  have hz2' : w.heap.size ≤ w2.heap.size := Nat.le_trans b1.size b2.size
  have B2 : Below w.heap.size w w2 := b1.trans (b2.mono b1.size)
  have hwl2 : (winv b).length ≤ 40 := by omega
  clear o1 b1 b2 hwl
  generalize winv b = v at *
  go_wp2_with (at_builtin; refine wpList_appendC w2 rfl (.tmp 10) (.tmp 12) _ rfl 2 i0 _ 1 8 Tryz.underlying24 hi0 hz0 hz1 hz2 rfl (by decide) rfl o12 hz2' A2 v.length c2 (v.map (Value.int .i64)) rfl (by simp) (OwnC.news o2) (ints_one _) (by unfold maxLen; omega) (by omega) ?_; intro A3 c3 w3 ho3 hg3 hb3)
  have iv : Ints w3 A3 (a ++ v) := OwnC.ints (by rw [List.map_append]; exact ho3)
  have B3 : Below w.heap.size w w3 := B2.trans hb3
  have HC := spec_l04Normal n (a ++ v) A3 c3 w3 iv HX.out hn (by rw [List.length_append]; omega)
  rw [List.length_append] at HC
  refine HC.mono ?_
  rintro e w4 ⟨G, A4, c4, rfl, g1, g2, g3, b4⟩
  have B4 : Below w.heap.size w w4 := B3.trans (b4.mono B3.size)
  have HG := Lib.hid (HEQ.out G g1 g2 g3)
  clear HC g1 g2 g3 b4 B3 B2 ho3 o12 o2 iv hg3 hb3 HX HEQ
  obtain ⟨P, hP⟩ : ∃ P, P = (cntHalf n G : Int) - (negs (a ++ v) : Int) := ⟨_, rfl⟩
  rw [← hP] at HG ⊢
  clear hP
  generalize cntElse n G = E at *
  have B5 : Below w.heap.size w (w4.alloc (.cells #[.int .i64 (n : Int), .int .i64 P, .slice A4 E c4] 82)) := B4.alloc B4.size _
  by_cases h1 : P = 0
  · have e1 : (P == 0) = true := by rw [h1]; rfl
    by_cases h2 : E = 0
    · have e2 : ((E : Int) == 0) = true := by rw [h2]; rfl
      have HT : Hid (eqW n a b = true) := Lib.hid (by rw [HG.out, decide_eq_true h1, decide_eq_true h2]; rfl)
      clear h1 h2 HG
      go_wp2_with (fail)
      go_ret
      exact ⟨by rw [HT.out]; rfl, B5⟩
    · have e2 : ((E : Int) == 0) = false := by rw [beq_eq_false_iff_ne]; omega
      have HT : Hid (eqW n a b = false) := Lib.hid (by rw [HG.out, decide_eq_false h2, Bool.and_false])
      clear h1 h2 HG
      go_wp2_with (fail)
      go_ret
      exact ⟨by rw [HT.out]; rfl, B5⟩
  · have e1 : (P == 0) = false := by rw [beq_eq_false_iff_ne]; exact h1
    have HT : Hid (eqW n a b = false) := Lib.hid (by rw [HG.out, decide_eq_false h1, Bool.false_and])
    clear h1 HG
    go_wp2_with (fail)
    go_ret
    exact ⟨by rw [HT.out]; rfl, B5⟩

theorem lt_braid {n : Nat} {xs : List Int} (h : braidB n xs = true) : ∀ x ∈ xs, Lt n x := fun x hx => by
  obtain ⟨_, _, _, h4⟩ := braidB_of h
  have := h4 x hx
  unfold Lt
  omega
set_option maxHeartbeats 2000000 in
set_option maxRecDepth 10000 in
theorem spec_EqualBraids (n : Nat) (a b : List Int) (A B : Option Addr) (c d : Nat) (w : World) (h : Ints w A a) (h' : Ints w B b) (ha : braidB n a = true) (hb : braidB n b = true) :
    Calls Tryz.prog 13 #[.agg #[.int .i64 (n : Int), .slice A a.length c], .agg #[.int .i64 (n : Int), .slice B b.length d]] w fun e w' => e = .returned (.bool (eqW n a b)) ∧ Below w.heap.size w w' := by
  obtain ⟨a1, a2, a3, _⟩ := braidB_of ha
  obtain ⟨_, _, b3, _⟩ := braidB_of hb
  have HLA := Lib.hid (lt_braid ha)
  have HLB := Lib.hid (lt_braid hb)
  obtain ⟨w1, hw1⟩ : ∃ w1, w1 = (w.alloc (.cells #[.int .i64 (n : Int), .slice A a.length c] 36)).alloc (.cells #[.int .i64 (n : Int), .slice B b.length d] 36) := ⟨_, rfl⟩
  have ka : Blk w1 w.heap.size 36 #[.int .i64 (n : Int), .slice A a.length c] := by rw [hw1]; exact (Blk.new w _ _).alloc _
  have kb : Blk w1 (w.heap.size + 1) 36 #[.int .i64 (n : Int), .slice B b.length d] := by rw [hw1]; simpa using Blk.new (w.alloc (.cells #[.int .i64 (n : Int), .slice A a.length c] 36)) 36 #[.int .i64 (n : Int), .slice B b.length d]
  have hb1 : Below w.heap.size w w1 := by rw [hw1]; (repeat (first | exact Below.refl _ _ | assumption | apply Below.drew | apply below_drewN | (refine Below.alloc ?_ (by first | omega | (simp; done) | (simp; omega)) _) | (refine Below.setCell ?_ (by first | omega | (simp; done) | (simp; omega)) _)))
  obtain ⟨gX, hgX⟩ : ∃ gX, gX = w.heap.size + 1 := ⟨_, rfl⟩
  rw [← hgX] at kb
  have ia := h.below hb1
  have ib := h'.below hb1
  have HA := Lib.hid ha; have HB := Lib.hid hb
  clear ha hb
  have enn : ((n : Int) == (n : Int)) = true := by simp
  go_enter Tryz.func13, Tryz.ntmps13
  go_upto_region 1 with fail
  rw [← hw1, ← hgX]
  clear hw1 hgX
  have qa := ka.c2
  have qb := kb.c2
  go_wp2_with (fail)
  refine (spec_l03Ok _ _ (n : Int) A c a w1 ia (by omega) qa.1 qa.2).mono ?_; rintro e w2 ⟨rfl, k2, rfl⟩
  rw [HA.out]
  have ka2 := ka.drewN k2
  have kb2 := kb.drewN k2
  have qa2 := ka2.c2
  have qb2 := kb2.c2
  go_wp2_with (fail)
  refine (spec_l03Ok _ _ (n : Int) B d b (w1.drewN k2) (ib.drewN k2) (by omega) qb2.1 qb2.2).mono ?_; rintro e w3 ⟨rfl, k3, rfl⟩
  rw [HB.out]
  have ka3 := ka2.drewN k3
  have kb3 := kb2.drewN k3
  have qa3 := ka3.c2
  have qb3 := kb3.c2
  have ia3 := (ia.drewN k2).drewN k3
  have ib3 := (ib.drewN k2).drewN k3
  have hb3 := below_drewN (below_drewN hb1 k2) k3
  generalize (w1.drewN k2).drewN k3 = W at *
  go_wp2_with (fail)
  refine (spec_l04Equal n a b A B c d W ia3 ib3 HLA.out HLB.out (by omega) a3 b3).mono ?_; rintro e w4 ⟨rfl, b4⟩
  go_wp2_with (fail)
  go_ret
  exact ⟨rfl, hb3.trans (b4.mono hb3.size)⟩

end Go.Proofs.YthjamohaeahipaaGreat

/- Events: the plain functions. -/
namespace Go.Proofs.YthjamohaeahipaaGreat
open Go.RowKit

def plainE (e : EventD) : Bool := decide (e.bed = 0) && decide (e.carrier = 0) && decide (e.dir = 0)
def bedB (b : Int) : Bool := inR b 1 2
def yarnE (e : EventD) : Bool := bedB e.bed && carrierB e.carrier && dirB e.dir
def evOk (e : EventD) (n : Int) : Bool :=
  decide (0 ≤ e.place) && decide (e.place ≤ n) &&
    (if e.kind = 1 then plainE e && (decide (e.count = 1) || decide (e.count = -1)) && decide (e.place + 1 < n)
    else if e.kind = 2 then yarnE e && inR e.count 0 4 && decide (e.place + e.count ≤ n)
    else if e.kind = 3 then yarnE e && decide (e.count = 0)
    else if e.kind = 4 then plainE e && inR e.count 1 4 && decide (e.place + e.count ≤ n)
    else if e.kind = 5 then yarnE e && inR e.count 1 4 && (if e.bed = 1 then decide (e.place + e.count ≤ n) else decide (e.count ≤ e.place))
    else false)
def evNext (e : EventD) (n : Int) : Int := if e.kind = 2 then n - e.count + 1 else if e.kind = 3 ∨ e.kind = 5 then n + 1 else if e.kind = 4 then n - e.count else n
def strands : List EventD → Int → Option Int
  | [], n => some n
  | e :: es, n => if evOk e n && decide (evNext e n ≤ 12) then strands es (evNext e n) else none
def eventsB (es : List EventD) : Bool := (strands es 0).isSome && decide (es.length ≤ 2000)
def eventCounts (es : List EventD) : List Int := es.foldl (fun cs e => bump cs e.kind) [0, 0, 0, 0, 0]
def eventCountsP (es : List EventD) : List Int := if eventsB es then eventCounts es else []
def eventCode (es : List EventD) : Int := if eventsB es then 0 else 1

theorem evNext_ge {e : EventD} {n : Int} (h : evOk e n = true) (hn : 0 ≤ n) : 0 ≤ evNext e n := by
  unfold evOk at h
  unfold evNext
  simp only [Bool.and_eq_true, decide_eq_true_eq] at h
  obtain ⟨⟨h1, h2⟩, h3⟩ := h
  split
  · rename_i h4
    rw [if_neg (by omega), if_pos h4] at h3
    simp only [Bool.and_eq_true, decide_eq_true_eq] at h3
    omega
  · split
    · omega
    · split
      · rename_i h4 h5 h6
        rw [if_neg (by omega), if_neg (by omega), if_neg (by omega), if_pos h6] at h3
        simp only [Bool.and_eq_true, decide_eq_true_eq] at h3
        omega
      · exact hn
theorem evOk_kind {e : EventD} {n : Int} (h : evOk e n = true) : 1 ≤ e.kind ∧ e.kind ≤ 5 := by
  unfold evOk at h
  by_cases h1 : 1 ≤ e.kind ∧ e.kind ≤ 5
  · exact h1
  · rw [if_neg (by omega), if_neg (by omega), if_neg (by omega), if_neg (by omega), if_neg (by omega)] at h
    simp at h
theorem strands_kinds {es : List EventD} {n m : Int} (h : strands es n = some m) : ∀ e ∈ es, 1 ≤ e.kind ∧ e.kind ≤ 5 := by
  induction es generalizing n with
  | nil => simp
  | cons e es ih =>
    rw [strands] at h
    split at h
    · rename_i h1
      simp only [Bool.and_eq_true] at h1
      intro x hx
      rcases List.mem_cons.1 hx with rfl | hx
      · exact evOk_kind h1.1
      · exact ih h x hx
    · cases h
theorem eventsB_kinds {es : List EventD} (h : eventsB es = true) : es.length ≤ 2000 ∧ ∀ e ∈ es, 1 ≤ e.kind ∧ e.kind ≤ 5 := by
  unfold eventsB at h
  simp only [Bool.and_eq_true, decide_eq_true_eq] at h
  obtain ⟨m, hm⟩ := Option.isSome_iff_exists.1 h.1
  exact ⟨h.2, strands_kinds hm⟩
theorem eventCounts_length (es : List EventD) : (eventCounts es).length = 5 := by
  unfold eventCounts
  suffices h : ∀ cs : List Int, (es.foldl (fun cs e => bump cs e.kind) cs).length = cs.length by rw [h]; rfl
  induction es with
  | nil => intro cs; rfl
  | cons e r ih => intro cs; rw [List.foldl_cons, ih]; simp [bump]
theorem eventCountsP_length (es : List EventD) : (eventCountsP es).length ≤ 5 := by
  unfold eventCountsP
  split
  · rw [eventCounts_length]; omega
  · simp
theorem eventCounts_snoc {es : List EventD} {j : Nat} {e : EventD} (h : es[j]? = some e) : eventCounts (es.take (j + 1)) = bump (eventCounts (es.take j)) e.kind := by
  unfold eventCounts
  rw [take_snoc h, List.foldl_append]
  rfl
theorem strands_small {es : List EventD} {n m : Int} (h : strands es n = some m) (h0 : 0 ≤ n) (h1 : n ≤ 12) : 0 ≤ m ∧ m ≤ 12 := by
  induction es generalizing n with
  | nil => injection h with h; omega
  | cons e es ih =>
    rw [strands] at h
    split at h
    · rename_i h2
      simp only [Bool.and_eq_true, decide_eq_true_eq] at h2
      exact ih h (evNext_ge h2.1 h0) h2.2
    · cases h

end Go.Proofs.YthjamohaeahipaaGreat

/- The braid of crossings, the given side. -/
namespace Go.Proofs.YthjamohaeahipaaGreat
open Go Go.RowKit

theorem ev_small {e : EventD} {n : Int} (h : evOk e n = true) (hk : e.kind = 1) (hn : n ≤ 12) : 0 ≤ e.place ∧ e.place ≤ 12 ∧ (e.count = 1 ∨ e.count = -1) ∧ e.place + 1 < n ∧ e.bed = 0 ∧ e.carrier = 0 ∧ e.dir = 0 := by
  unfold evOk plainE at h
  rw [if_pos hk] at h
  simp only [Bool.and_eq_true, Bool.or_eq_true, decide_eq_true_eq] at h
  obtain ⟨⟨h1, h2⟩, ⟨⟨⟨h5, h6⟩, h7⟩, h3⟩, h4⟩ := h
  exact ⟨h1, by omega, h3, h4, h5, h6, h7⟩

theorem spec_l01Bed0 (w : World) : Calls Tryz.prog 57 #[.int .i64 0] w fun e w' => e = .returned (.bool false) ∧ w = w' := by
  have h0 : inR 0 1 2 = false := by decide
  go_enter Tryz.func57, Tryz.ntmps57
  go_wp2_with (fail)
  refine (spec_l00In 0 1 2 w).mono ?_; rintro e _ ⟨rfl, rfl⟩
  rw [h0]
  go_wp2_with (fail)
  go_ret
  exact ⟨rfl, rfl⟩

set_option maxHeartbeats 2000000 in
set_option maxRecDepth 10000 in
theorem spec_l10Event_1 (g o : Nat) (p s n : Int) (hs : s = 1 ∨ s = -1) (hp : 0 ≤ p) (hpn : p + 1 < n) (hn : n ≤ 12) (w : World) (c0 : w.cell? ⟨g, o, none⟩ = some (.int .i64 1)) (c1 : w.cell? ⟨g, o + 1, none⟩ = some (.int .i64 p)) (c2 : w.cell? ⟨g, o + 2, none⟩ = some (.int .i64 s)) (c3 : w.cell? ⟨g, o + 3, none⟩ = some (.int .i64 0)) (c4 : w.cell? ⟨g, o + 4, none⟩ = some (.int .i64 0)) (c5 : w.cell? ⟨g, o + 5, none⟩ = some (.int .i64 0)) :
    Calls Tryz.prog 31 #[.pointer (some ⟨g, o, none⟩), .int .i64 n] w fun r w' => r = .returned (.tuple #[.int .i64 n, .bool true]) ∧ Drawn w w' := by
  have d1 : decide (p < 0) = false := decide_eq_false (by omega)
  have d2 : decide (p > n) = false := decide_eq_false (by omega)
  have d2' : decide (n < p) = false := decide_eq_false (by omega)
  have d3 : decide (p + 1 < n) = true := decide_eq_true hpn
  have wp : IntKind.i64.wrap (p + 1) = p + 1 := IntWalk.i64_in _ ⟨by omega, by omega⟩
  rcases hs with rfl | rfl <;>
  · go_enter Tryz.func31, Tryz.ntmps31
    go_wp2_with (fail)
    refine (spec_l01Bed0 w).mono ?_; rintro e _ ⟨rfl, rfl⟩
    go_wp2_with (fail)
    go_quiet (fail)
    go_wp2_with (fail)
    go_ret2
    first | exact ⟨rfl, Drawn.refl _⟩ | exact ⟨rfl, _, rfl⟩

set_option maxHeartbeats 4000000 in
set_option maxRecDepth 10000 in
theorem spec_CrossingBraid (n : Int) (hn : 0 ≤ n ∧ n ≤ 12) (evs : List EventD) (A : Option Addr) (c : Nat) (w : World) (h : Events w A evs) (hl : evs.length ≤ 40) (hv : ∀ e ∈ evs, evOk e n = true ∧ e.kind = 1) :
    Calls Tryz.prog 12 #[.int .i64 n, .slice A evs.length c] w fun e w' => ∃ A' c', e = .returned (.tuple #[.agg #[.int .i64 n, .slice A' evs.length c'], .int .i64 0]) ∧ OwnC w' w.heap.size w'.heap.size 2 1 A' evs.length c' ((evs.map evL).map (Value.int .i64)) ∧ Below w.heap.size w w' := by
  obtain ⟨iI, hi0, hu0, hu1, hu2⟩ := info_parts info_int64
  have t1 : (36 : TypeId) ≠ 2 := by decide
  obtain ⟨w1, hw1⟩ : ∃ w1, w1 = w.alloc (.cells #[.int .i64 0, .slice none 0 0] 36) := ⟨_, rfl⟩
  have hb1 : Below w.heap.size w w1 := by rw [hw1]; (repeat (first | exact Below.refl _ _ | assumption | apply Below.drew | apply below_drewN | (refine Below.alloc ?_ (by first | omega | (simp; done) | (simp; omega)) _) | (refine Below.setCell ?_ (by first | omega | (simp; done) | (simp; omega)) _)))
  have kz1 : Blk w1 w.heap.size 36 #[.int .i64 0, .slice none 0 0] := by rw [hw1]; exact Blk.new w _ _
  obtain ⟨w2, hw2⟩ : ∃ w2, w2 = w1.alloc (.cells #[.int .i64 n, .slice none 0 0] 36) := ⟨_, rfl⟩
  have hb2 : Below w1.heap.size w1 w2 := by rw [hw2]; (repeat (first | exact Below.refl _ _ | assumption | apply Below.drew | apply below_drewN | (refine Below.alloc ?_ (by first | omega | (simp; done) | (simp; omega)) _) | (refine Below.setCell ?_ (by first | omega | (simp; done) | (simp; omega)) _)))
  have kx2 : Blk w2 w1.heap.size 36 #[.int .i64 n, .slice none 0 0] := by rw [hw2]; exact Blk.new w1 _ _
  have hz1 := hb1.size
  have kz2 := kz1.below hb2 kz1.lt
  have hlt1 := kz1.lt
  have B2 : Below w.heap.size w w2 := hb1.trans (hb2.mono hz1)
  obtain ⟨g, hg⟩ : ∃ g, g = w1.heap.size := ⟨_, rfl⟩
  rw [← hg] at kx2 hlt1
  have HV := Lib.hid hv; clear hv
  have HIN : Hid (inR n 0 12 = true) := Lib.hid (inR_iff.2 ⟨hn.1, hn.2⟩)
  have HGE := Lib.hid hg
  go_enter Tryz.func12, Tryz.ntmps12
  go_wp2_with (fail)
  rw [← hw1]
  clear hw1
  refine (spec_l00In n 0 12 w1).mono ?_; rintro e _ ⟨rfl, rfl⟩
  rw [HIN.out]
  go_upto_region 4 with fail
  rw [← hw2, ← hg]
  clear hw2 hg hb2 kz1 hb1
  go_wp2_with (fail)
  go_loopw [7] (fun kv wr => ∃ (k : Nat) (A3 : Option Addr) (c3 : Nat), k ≤ evs.length ∧ kv = .int .i64 k ∧ Blk wr w.heap.size 36 #[.int .i64 0, .slice none 0 0] ∧ Blk wr g 36 #[.int .i64 n, .slice A3 k c3] ∧ OwnC wr w.heap.size wr.heap.size 2 1 A3 k c3 (((evs.take k).map evL).map (Value.int .i64)) ∧ Below w.heap.size w wr) (fun kv _ => evs.length - (intOf kv).toNat)
  case atStart => exact ⟨0, none, 0, Nat.zero_le _, rfl, kz2, kx2, OwnC.nil _ _ _ _ _, B2⟩
  case round =>
    clear kz2 kx2 B2
    obtain ⟨k, A3, c3, hk, rfl, kz, kx, ho, hb⟩ := hrel
    have hzr := hb.size
    obtain ⟨x0, x1⟩ := kx.c2
    by_cases hlt : k < evs.length
    · obtain ⟨b, off, p, rfl, hp, q0, q1, q2, q3, q4, q5⟩ := h k hlt
      have QW1 := Lib.hid q1
      have QW2 := Lib.hid q2
      replace q0 := cells_below hb _ _ q0
      replace q1 := cells_below hb _ _ q1
      replace q2 := cells_below hb _ _ q2
      replace q3 := cells_below hb _ _ q3
      replace q4 := cells_below hb _ _ q4
      replace q5 := cells_below hb _ _ q5
      obtain ⟨hok, hkd⟩ := HV.out p (List.mem_of_getElem? hp)
      obtain ⟨e0, e1, e2, e3, e4, e5, e6⟩ := ev_small hok hkd hn.2
      have HN : Hid (((evs.take (k + 1)).map evL).map (Value.int .i64) = ((evs.take k).map evL).map (Value.int .i64) ++ [.int .i64 (p.count * (p.place + 1))]) := Lib.hid (by rw [take_snoc hp, List.map_append, List.map_append]; rfl)
      have CE := Lib.hid (spec_l10Event_1 b (off + k * 6) p.place p.count n e2 e0 e3 hn.2 wr (by rw [← hkd]; exact q0) q1 q2 (by rw [← e4]; exact q3) (by rw [← e5]; exact q4) (by rw [← e6]; exact q5))
      have wp : IntKind.i64.wrap (p.place + 1) = p.place + 1 := IntWalk.i64_in _ ⟨by omega, by omega⟩
      have wm : IntKind.i64.wrap (p.count * (p.place + 1)) = p.count * (p.place + 1) := IntWalk.i64_in _ (by rcases e2 with e2 | e2 <;> rw [e2] <;> constructor <;> omega)
      rw [hkd] at q0
      have dk : decide ((k : Int) < (evs.length : Int)) = true := decide_eq_true (by omega)
      have j1 : (0 : Int) ≤ (k : Int) := by omega
      have j2 : (k : Int) < (evs.length : Int) := by omega
      have Q0 := Lib.hid q0; have Q1 := Lib.hid q1; have Q2 := Lib.hid q2
      have hgz := kz.lt
      have hgx := kx.lt
      clear hp hok hkd e0 e1 e2 e3 e4 e5 e6 q3 q4 q5
      go_wp2_with (fail)
      refine CE.out.mono ?_; rintro e w4 ⟨rfl, nd, rfl⟩
      have hbD : Below wr.heap.size wr (wr.drewN nd) := below_drewN (Below.refl _ _) nd
      have kz4 := kz.drewN nd
      have kx4 := kx.drewN nd
      have ho4 := ho.drewN nd
      have q04 := cells_below hbD _ _ Q0.out
      have q14 := cells_below hbD _ _ Q1.out
      have q24 := cells_below hbD _ _ Q2.out
      have hb4 : Below w.heap.size w (wr.drewN nd) := hb.trans (hbD.mono hzr)
      have hzD : (wr.drewN nd).heap.size = wr.heap.size := rfl
      have HZD := Lib.hid hzD
      generalize wr.drewN nd = W4 at *
      clear hbD hzD q0 q1 q2 kz kx ho x0 x1 CE
      obtain ⟨x0, x1⟩ := kx4.c2
      have hz4 : w.heap.size ≤ W4.heap.size := hb4.size
      go_upto_region 10 with fail
      (refine wp_region_pops 2 (S := (fun W' => W'.cell? ⟨g, 1, none⟩ = some (.slice A3 k c3) ∧ W'.cell? ⟨b, off + k * 6 + 2, none⟩ = some (.int .i64 p.count) ∧ W'.cell? ⟨b, off + k * 6 + 1, none⟩ = some (.int .i64 p.place))) (pre := ?_) (T := ?_) (n := ?_) (by kernel_rfl) (by kernel_rfl) ?_ ?_ ?_ ?_ (fun hHeld => ?_); rotate_left 3; (focus (simp only [pops, List.pop_toArray, List.dropLast_cons_cons, List.dropLast_singleton]; rfl)); (focus (simp only [tailOf, List.pop_toArray, List.dropLast_cons_cons, List.dropLast_singleton, List.back?_toArray, List.getLast?_cons_cons, List.getLast?_singleton, Option.toList_some, List.nil_append, List.cons_append]; rfl)); (focus rfl); (focus (exact ⟨x1, q24, q14⟩)))
      ((refine wpAnyH_take (i := 0) (v := ?_) rfl (by kernel_rfl) (by kernel_rfl) (by kernel_rfl) (fun _ _ _ h => h) (Or.inl ⟨by rfl, ?_⟩) (by assumption) ?_; rotate_left; (focus (intro W hSw; (try dsimp only at hSw); go_simp; try (with_reducible rfl)))); (try simp only [List.getElem_toArray, List.getElem_cons_zero, Act.put, List.setIfInBounds_toArray, List.set_cons_zero, List.set_cons_succ]); (refine wpAnyH_take (i := 1) (v := ?_) rfl (by kernel_rfl) (by kernel_rfl) (by kernel_rfl) (fun _ _ _ h => h) (Or.inl ⟨by rfl, ?_⟩) (by assumption) ?_; rotate_left; (focus (intro W hSw; (try dsimp only at hSw); go_simp; try (with_reducible rfl)))); (try simp only [List.getElem_toArray, List.getElem_cons_zero, List.getElem_cons_succ, Act.put, List.setIfInBounds_toArray, List.set_cons_zero, List.set_cons_succ]); (refine wpAnyH_take (i := 2) (v := ?_) rfl (by kernel_rfl) (by kernel_rfl) (by kernel_rfl) (fun _ _ _ h => h) (Or.inl ⟨by rfl, ?_⟩) (by assumption) ?_; rotate_left; (focus (intro W hSw; (try dsimp only at hSw); go_simp; try (with_reducible rfl)))); (try simp only [List.getElem_toArray, List.getElem_cons_zero, List.getElem_cons_succ, Act.put, List.setIfInBounds_toArray, List.set_cons_zero, List.set_cons_succ]); (refine wpAnyH_take (i := 3) (v := ?_) rfl (by kernel_rfl) (by kernel_rfl) (by kernel_rfl) (fun _ _ _ h => h) (Or.inl ⟨by rfl, ?_⟩) (by assumption) ?_; rotate_left; (focus (intro W hSw; (try dsimp only at hSw); go_simp; try (with_reducible rfl)))); (try simp only [List.getElem_toArray, List.getElem_cons_zero, List.getElem_cons_succ, Act.put, List.setIfInBounds_toArray, List.set_cons_zero, List.set_cons_succ]); (refine wpAnyH_take (i := 4) (v := ?_) rfl (by kernel_rfl) (by kernel_rfl) (by kernel_rfl) (fun _ _ _ h => h) (Or.inl ⟨by rfl, ?_⟩) (by assumption) ?_; rotate_left; (focus (intro W hSw; (try dsimp only at hSw); go_simp; try (with_reducible rfl)))); (try simp only [List.getElem_toArray, List.getElem_cons_zero, List.getElem_cons_succ, Act.put, List.setIfInBounds_toArray, List.set_cons_zero, List.set_cons_succ]); (refine wpAnyH_take (i := 5) (v := ?_) rfl (by kernel_rfl) (by kernel_rfl) (by kernel_rfl) (fun _ _ _ h => h) (Or.inl ⟨by rfl, ?_⟩) (by assumption) ?_; rotate_left; (focus (intro W hSw; (try dsimp only at hSw); go_simp; try (with_reducible rfl)))); (try simp only [List.getElem_toArray, List.getElem_cons_zero, List.getElem_cons_succ, Act.put, List.setIfInBounds_toArray, List.set_cons_zero, List.set_cons_succ]); (refine wpAnyH_take (i := 6) (v := ?_) rfl (by kernel_rfl) (by kernel_rfl) (by kernel_rfl) (fun _ _ _ h => h) (Or.inl ⟨by rfl, ?_⟩) (by assumption) ?_; rotate_left; (focus (intro W hSw; (try dsimp only at hSw); go_simp; try (with_reducible rfl)))); (try simp only [List.getElem_toArray, List.getElem_cons_zero, List.getElem_cons_succ, Act.put, List.setIfInBounds_toArray, List.set_cons_zero, List.set_cons_succ]); (refine wpAnyH_take (i := 7) (v := ?_) rfl (by kernel_rfl) (by kernel_rfl) (by kernel_rfl) (fun _ _ _ h => h) (Or.inl ⟨by rfl, ?_⟩) (by assumption) ?_; rotate_left; (focus (intro W hSw; (try dsimp only at hSw); go_simp; try (with_reducible rfl)))); (try simp only [List.getElem_toArray, List.getElem_cons_zero, List.getElem_cons_succ, Act.put, List.setIfInBounds_toArray, List.set_cons_zero, List.set_cons_succ]); (refine wpAnyH_take (i := 8) (v := ?_) rfl (by kernel_rfl) (by kernel_rfl) (by kernel_rfl) (fun _ _ _ h => h) (Or.inl ⟨by rfl, ?_⟩) (by assumption) ?_; rotate_left; (focus (intro W hSw; (try dsimp only at hSw); go_simp; try (with_reducible rfl)))); (try simp only [List.getElem_toArray, List.getElem_cons_zero, List.getElem_cons_succ, Act.put, List.setIfInBounds_toArray, List.set_cons_zero, List.set_cons_succ]); (refine wpAnyH_take (i := 9) (v := ?_) rfl (by kernel_rfl) (by kernel_rfl) (by kernel_rfl) (fun _ _ _ h => h) (Or.inl ⟨by rfl, ?_⟩) (by assumption) ?_; rotate_left; (focus (intro W hSw; (try dsimp only at hSw); go_simp; try (with_reducible rfl)))); (try simp only [List.getElem_toArray, List.getElem_cons_zero, List.getElem_cons_succ, Act.put, List.setIfInBounds_toArray, List.set_cons_zero, List.set_cons_succ]); (refine wpAnyH_take (i := 10) (v := ?_) rfl (by kernel_rfl) (by kernel_rfl) (by kernel_rfl) (fun _ _ _ h => h) (Or.inl ⟨by rfl, ?_⟩) (by assumption) ?_; rotate_left; (focus (intro W hSw; (try dsimp only at hSw); go_simp; try (with_reducible rfl)))); (try simp only [List.getElem_toArray, List.getElem_cons_zero, List.getElem_cons_succ, Act.put, List.setIfInBounds_toArray, List.set_cons_zero, List.set_cons_succ]); (refine wpAnyH_take (i := 11) (v := ?_) rfl (by kernel_rfl) (by kernel_rfl) (by kernel_rfl) (fun _ _ _ h => h) (Or.inl ⟨by rfl, ?_⟩) (by assumption) ?_; rotate_left; (focus (intro W hSw; (try dsimp only at hSw); go_simp; try (with_reducible rfl)))); (try simp only [List.getElem_toArray, List.getElem_cons_zero, List.getElem_cons_succ, Act.put, List.setIfInBounds_toArray, List.set_cons_zero, List.set_cons_succ]); (refine wpAnyH_take (i := 12) (v := ?_) rfl (by kernel_rfl) (by kernel_rfl) (by kernel_rfl) (fun _ _ _ h => h) (Or.inl ⟨by rfl, ?_⟩) (by assumption) ?_; rotate_left; (focus (intro W hSw; (try dsimp only at hSw); go_simp; try (with_reducible rfl)))); (try simp only [List.getElem_toArray, List.getElem_cons_zero, List.getElem_cons_succ, Act.put, List.setIfInBounds_toArray, List.set_cons_zero, List.set_cons_succ]); (refine wpAnyH_take (i := 13) (v := ?_) rfl (by kernel_rfl) (by kernel_rfl) (by kernel_rfl) (fun _ _ _ h => h) (Or.inl ⟨by rfl, ?_⟩) (by assumption) ?_; rotate_left; (focus (intro W hSw; (try dsimp only at hSw); go_simp; try (with_reducible rfl)))); (try simp only [List.getElem_toArray, List.getElem_cons_zero, List.getElem_cons_succ, Act.put, List.setIfInBounds_toArray, List.set_cons_zero, List.set_cons_succ]))
      (refine wpAnyH_ready (rs := [14]) (by kernel_rfl) (by simp) ?_; refine AllReadyH.cons rfl (fun K hK => ?_) AllReadyH.nil)
      go_simp
      have kxa := kx4.drew1.alloc (.cells #[.int .i64 (p.count * (p.place + 1))] 2)
      have hba : Below W4.heap.size W4 ((World.drew W4).alloc (.cells #[.int .i64 (p.count * (p.place + 1))] 2)) := Below.alloc (Below.drew (Below.refl _ _)) (Nat.le_refl _) _
      refine hK.out _ _ ⟨kxa.c2.2, cells_below hba _ _ q24, cells_below hba _ _ q14⟩ (fun hHeld => ?_)
      clear hK K
      (try simp only [List.getElem_toArray, List.getElem_cons_zero, List.getElem_cons_succ, Act.put, List.setIfInBounds_toArray, List.set_cons_zero, List.set_cons_succ])
      have hlz : w.heap.size ≤ ((World.drew W4).alloc (.cells #[.int .i64 (p.count * (p.place + 1))] 2)).heap.size := by have := hba.size; omega
      have olit := OwnC.news (OwnC.lit (w := World.drew W4) (lo := w.heap.size) (n := 1) 2 1 #[.int .i64 (p.count * (p.place + 1))] (by have e : (World.drew W4).heap.size = W4.heap.size := rfl; omega) (by decide) rfl)
      (refine wpAnyH_ready (rs := [15]) (by kernel_rfl) (by simp) ?_; refine AllReadyH.cons rfl (fun K hK => ?_) AllReadyH.nil)
      refine wp_appendC_at ((World.drew W4).alloc (.cells #[.int .i64 (p.count * (p.place + 1))] 2)) (.tmp 42) (.tmp 55) _ rfl 2 iI _ 1 8 Tryz.underlying24 hi0 hu0 hu1 hu2 rfl (by decide) (by simp [Act.eval]) ((OwnC.drew1 ho4).alloc _) hlz (some ⟨W4.heap.size, 0, none⟩) 1 1 [.int .i64 (p.count * (p.place + 1))] (by simp [Act.eval]) (by simp) olit (by simp [Value.oneCell']) (by unfold maxLen; omega) (by omega) ?_
      intro A9 c9 w8 ho8 hg8 hb8 _
      have kx8 := kxa.grownT ((OwnC.drew1 ho4).alloc (.cells #[.int .i64 (p.count * (p.place + 1))] 2)) t1 hg8
      have kz8 := (kz4.drew1.alloc (.cells #[.int .i64 (p.count * (p.place + 1))] 2)).grownT ((OwnC.drew1 ho4).alloc (.cells #[.int .i64 (p.count * (p.place + 1))] 2)) t1 hg8
      have hB8 : Below w.heap.size w w8 := (hb4.trans (hba.mono hz4)).trans hb8
      refine hK.out _ _ ⟨kx8.c2.2, cells_below hB8 _ _ QW2.out, cells_below hB8 _ _ QW1.out⟩ (fun hHeld => ?_)
      clear hK K
      (try simp only [List.getElem_toArray, List.getElem_cons_zero, List.getElem_cons_succ, Act.put, List.setIfInBounds_toArray, List.set_cons_zero, List.set_cons_succ])
      (refine wpAnyH_done (by kernel_rfl) ?_ _; change wpList _ _ _ _ _ _)
      clear hHeld
      obtain ⟨y0, y1⟩ := kx8.c2
      have y2 := kx8.frozen 1
      have HO8 : Hid (OwnC (w8.setCell ⟨g, 1, none⟩ (.slice A9 (k + 1) c9)) w.heap.size w8.heap.size 2 1 A9 (k + 1) c9 (((evs.take (k + 1)).map evL).map (Value.int .i64))) := Lib.hid (by rw [HN.out]; exact OwnC.farT ho8 kx8 t1 1 _)
      have HX8 := Lib.hid (kx8.set21 (.slice A9 (k + 1) c9))
      have HZ8 := Lib.hid (kz8.far (p := ⟨g, 1, none⟩) (show w.heap.size ≠ g by omega) (.slice A9 (k + 1) c9))
      have HB9 := Lib.hid (hB8.setCell (p := ⟨g, 1, none⟩) (show w.heap.size ≤ g by omega) (.slice A9 (k + 1) c9))
      clear ho8 hg8 hb8 hB8 kxa hba olit hlz kz8 kx8 q14 q24 q04 x0 x1 hz4
      go_wp2_with (fail)
      exact ⟨⟨k + 1, A9, c9, by omega, by go_num, HZ8.out, HX8.out, by simpa using HO8.out, HB9.out⟩, by first | (simp [intOf]; done) | (simp [intOf]; omega)⟩
    · obtain rfl : k = evs.length := by omega
      have dk : decide ((evs.length : Int) < (evs.length : Int)) = false := decide_eq_false (by omega)
      have d40 : decide ((evs.length : Int) > 40) = false := decide_eq_false (by omega)
      have d40' : decide (40 < (evs.length : Int)) = false := decide_eq_false (by omega)
      have hgx := kx.lt
      obtain ⟨y0, y1⟩ := kz.c2
      have g0 := kz.frozen 0
      have g1 := kz.frozen 1
      go_wp2_with (fail)
      have k1 := kz.set20 (.int .i64 n)
      have k2 := k1.set21 (.slice A3 evs.length c3)
      obtain ⟨r0, r1⟩ := k2.c2
      refine bodyPost_ret (v := .tuple #[.agg #[.int .i64 n, .slice A3 evs.length c3], .int .i64 0]) (by simp [results, Tryz.results12, go_sem, r0, r1]) rfl ⟨A3, c3, rfl, ?_, ?_⟩
      · rw [List.take_of_length_le (Nat.le_refl _)] at ho
        exact ((ho.farT kz t1 0 _).farT k1 t1 1 _).mono (Nat.le_refl _) (by simp)
      · (repeat (first | exact Below.refl _ _ | assumption | apply Below.drew | apply below_drewN | (refine Below.alloc ?_ (by first | omega | (simp; done) | (simp; omega)) _) | (refine Below.setCell ?_ (by first | omega | (simp; done) | (simp; omega)) _)))

end Go.Proofs.YthjamohaeahipaaGreat
