/- Steps of the proof, joined from several texts: NE NF GH YD YE YF. -/
import Derived.Test.YthjamohaeahipaaGreatZ15
import Derived.Test.YthjamohaeahipaaGreatZ20
import Derived.Test.YthjamohaeahipaaGreatZ23
import Derived.Test.YthjamohaeahipaaGreatZ5
import Derived.Test.YthjamohaeahipaaGreatZ9
import Derived.Test.YthjamohaeahipaaGreatZ21
import Derived.Test.YthjamohaeahipaaGreatZ3
import Derived.Test.YthjamohaeahipaaGreatZ6

/- Knitting by hand, plain: the crossings of a row that is knitted make a braid that equals the row's. -/
namespace Go.Proofs.YthjamohaeahipaaGreat
open Go Go.RowKit
open Br (FarQ farI Lt winv)

theorem eqW_farH {n : Nat} {a b : List Int} (ha : ∀ x ∈ a, Lt n x) (h : FarQ a b) : eqW n a b = true := by
  have hb : ∀ c ∈ b, Lt n c := fun c hc => ha c ((List.Perm.mem_iff h.perm).2 hc)
  have hab : ∀ x ∈ a ++ winv b, Lt n x := fun x hx => by
    rcases List.mem_append.1 hx with hx | hx
    · exact ha x hx
    · exact Br.Lt.winv hb x hx
  have wc := (facs_facts hab (a ++ winv b).length (Nat.le_refl _)).2.2
  rw [take_all (Nat.le_refl _)] at wc
  exact decide_eq_true (Br.equal_far h ha wc)
def crossOnly (es : List EventD) : List EventD := es.filter fun e => decide (e.kind = 1)
theorem crossOnly_append (a b : List EventD) : crossOnly (a ++ b) = crossOnly a ++ crossOnly b := List.filter_append ..
theorem crossOnly_yarn {d car k p c b : Int} (h : k ≠ 1) (es : List EventD) : crossOnly (es ++ [evYarn d car k p c b]) = crossOnly es := by
  rw [crossOnly_append]
  have : crossOnly [evYarn d car k p c b] = [] := by
    unfold crossOnly
    rw [List.filter_cons_of_neg (by simp [evYarn, h])]
    rfl
  rw [this, List.append_nil]
theorem knitN_only (d car bed : Int) (i : Nat) (s : HS) : ∀ n, crossOnly (knitN d car bed i n s).evs = crossOnly s.evs := by
  intro n
  induction n with
  | zero => rfl
  | succ n ih =>
    rw [knitN]
    unfold knitStep
    cases (knitN d car bed i n s).cells[i]? with
    | none => exact ih
    | some c =>
      show crossOnly ((knitN d car bed i n s).evs ++ [evYarn d car 2 _ _ bed]) = _
      rw [crossOnly_yarn (by decide), ih]
theorem makeStep_only (d car : Int) (ks : List Int) (i : Nat) (s : HS) : crossOnly (makeStep d car ks i s).evs = crossOnly s.evs := by
  unfold makeStep
  cases s.cells[i]? with
  | none => rfl
  | some c =>
    show crossOnly (makeTo d car (ks.getD i 0) i c s).evs = _
    unfold makeTo
    split
    · exact crossOnly_yarn (by decide) _
    · split
      · exact crossOnly_yarn (by decide) _
      · split
        · rfl
        · split
          · exact crossOnly_yarn (by decide) _
          · exact knitN_only ..
theorem makeN_only {d car : Int} {ks ord : List Int} {s s' : HS} {n : Nat} (h : makeN d car ks ord n s = some s') : crossOnly s'.evs = crossOnly s.evs := by
  induction n generalizing s' with
  | zero => rw [makeN] at h; injection h with h; rw [h]
  | succ n ih =>
    rw [makeN] at h
    cases h1 : makeN d car ks ord n s with
    | none => rw [h1] at h; cases h
    | some s1 =>
      rw [h1] at h
      dsimp only at h
      split at h
      · cases h
      · injection h with h
        rw [← h, makeStep_only, ih h1]
theorem crossOnly_self {es : List EventD} (h : ∀ e ∈ es, e.kind = 1) : crossOnly es = es := List.filter_eq_self.2 fun e he => decide_eq_true (h e he)

theorem hc_facts {d r : Int} {ks st : List Int} (h0 : hrCode d r ks st = 0) (hb : rbCode d r ks st = 0) :
    ∃ (n : Nat) (C : List EventD), sumI st = (n : Int) ∧ n ≤ 12 ∧ crossOnly (hrEvs d r ks st) = C ∧ (∀ e ∈ C, evOk e (n : Int) = true ∧ e.kind = 1) ∧ C.length ≤ 40 ∧ (rbX d r ks st).n = (n : Int) ∧ braidB n (C.map evL) = true ∧ braidB n (rbX d r ks st).xs = true ∧ eqW n (C.map evL) (rbX d r ks st).xs = true := by
  -- the row is knitted
  have hok : hrOk d r ks st = true := by
    cases h : hrOk d r ks st with
    | true => rfl
    | false => rw [(hr_bad h).1] at h0; cases h0
  have hst : (stacksAfterP st ks).2 = 0 := by
    by_cases h : (stacksAfterP st ks).2 = 0
    · exact h
    · rw [(hr_code hok h).1] at h0; exact h0
  obtain ⟨g1, g2, _⟩ := hr_go hok hst
  have ht := stacks_ok hst
  have hok2 := hok
  unfold hrOk at hok2
  rw [Bool.and_eq_true] at hok2
  obtain ⟨hv, hs⟩ := hok2
  obtain ⟨_, _, hks, _⟩ := rowB_of hv
  have hmem := (stitchesB_of hks).2
  obtain ⟨hnow, ⟨hl1, hl8⟩, hS0, hS12, _⟩ := nowB_of hs
  have hNN : NN st := fun x hx => by have := hnow.one x hx; omega
  cases hh : handS d r ks st with
  | none => rw [g1, hh] at h0; cases h0
  | some s =>
    have hcr := crossN_word hNN hmem ht hS12 ks.length (Nat.le_refl _)
    rw [List.take_of_length_le (Nat.le_refl ks.length)] at hcr
    obtain ⟨c1, _, c3⟩ := hcr
    have honly : crossOnly (hrEvs d r ks st) = (crossN ks ks.length ⟨[], cutC ks st⟩).evs := by
      rw [g2, (hand_some hh).1]
      have h1 := makeN_only (show makeN d r ks (orderP d ks.length) ks.length (crossN ks ks.length ⟨[], cutC ks st⟩) = some s from hh)
      rw [h1]
      exact crossOnly_self fun e he => by
        obtain ⟨s, x, _, _, rfl⟩ := c3 e he
        rfl
    generalize (crossN ks ks.length ⟨[], cutC ks st⟩).evs = C at *
    -- the row's braid
    have hrb : rbOk ks st = true := by
      cases h : rbOk ks st with
      | true => rfl
      | false =>
        unfold rbCode at hb
        rw [hv, hs, h] at hb
        cases hb
    obtain ⟨x1, x2⟩ := rb_good hv hs hrb
    rw [x2] at hb
    have hx : dbX (lettersFrom ks 0) st = ⟨sumI st, dblFrom (lettersFrom ks 0) st⟩ := by rw [dbX, if_pos hb]
    have hbr : braidB st.length (lettersFrom ks 0) = true ∧ (dblFrom (lettersFrom ks 0) st).length ≤ 40 := by
      unfold dbCode at hb
      split at hb
      · split at hb
        · rename_i h1 h2
          exact ⟨h1, h2⟩
        · cases hb
      · cases hb
    have hw : ∀ x ∈ lettersFrom ks 0, 1 ≤ x.natAbs ∧ x.natAbs < st.length := fun x hx => by
      have := (braidB_of hbr.1).2.2.2 x hx
      omega
    have hlet := dbl_valid (lettersFrom ks 0) st hw hnow
    have hfar := hand_dbl ks st [] 0 0 hmem ht hNN rfl rfl (Int.le_refl _)
    rw [List.nil_append] at hfar
    have hfar : FarQ (handW 0 ks st) (dblFrom (lettersFrom ks 0) st) := hfar
    obtain ⟨n, hn⟩ := Int.eq_ofNat_of_zero_le hS0
    have hn : sumI st = (n : Int) := hn
    have hn12 : n ≤ 12 := by omega
    rw [hn] at hlet hx
    have hbd : braidB n (dblFrom (lettersFrom ks 0) st) = true := by
      unfold braidB
      rw [hlet, decide_eq_true hbr.2, inR_iff.2 ⟨by omega, by omega⟩]
      rfl
    have hlen : (C.map evL).length = (dblFrom (lettersFrom ks 0) st).length := by rw [c1]; exact hfar.perm.length_eq
    have hLt : ∀ x ∈ handW 0 ks st, x ≠ 0 ∧ 1 - (n : Int) ≤ x ∧ x ≤ (n : Int) - 1 := fun x hx => (braidB_of hbd).2.2.2 x ((List.Perm.mem_iff hfar.perm).1 hx)
    have hbw : braidB n (C.map evL) = true := by
      unfold braidB lettersB
      rw [inR_iff.2 ⟨by omega, by omega⟩, decide_eq_true (by rw [hlen]; exact hbr.2), Bool.true_and, Bool.true_and, List.all_eq_true]
      intro x hx
      rw [c1] at hx
      have := hLt x hx
      unfold letterB
      rw [Bool.and_eq_true, decide_eq_true_eq, inR_iff]
      exact this
    have hCl : C.length ≤ 40 := by
      have := (braidB_of hbw).2.2.1
      rwa [List.length_map] at this
    refine ⟨n, C, hn, hn12, honly, fun e he => ?_, hCl, by rw [x1, hx], hbw, by rw [x1, hx]; exact hbd, ?_⟩
    · have hm : evL e ∈ handW 0 ks st := by rw [← c1]; exact List.mem_map_of_mem he
      have h1 := hLt _ hm
      obtain ⟨s, x, hs1, hx1, rfl⟩ := c3 e he
      refine ⟨?_, rfl⟩
      have e1 : evL (evCross s x) = s * x := by show s * (x - 1 + 1) = s * x; rw [Int.sub_add_cancel]
      rw [e1] at h1
      unfold evOk plainE evCross
      simp only [Bool.and_eq_true, Bool.or_eq_true, decide_eq_true_eq, if_true]
      rcases hs1 with rfl | rfl
      · refine ⟨⟨by omega, by omega⟩, ⟨⟨⟨by first | trivial | rfl, by first | trivial | rfl⟩, by first | trivial | rfl⟩, .inl (by first | trivial | rfl)⟩, by omega⟩
      · refine ⟨⟨by omega, by omega⟩, ⟨⟨⟨by first | trivial | rfl, by first | trivial | rfl⟩, by first | trivial | rfl⟩, .inr (by first | trivial | rfl)⟩, by omega⟩
    · rw [x1, hx, c1]
      exact eqW_farH (fun x hx => by
        have := hLt x hx
        unfold Br.Lt
        omega) hfar
end Go.Proofs.YthjamohaeahipaaGreat

/- Columns and their strands, plain. -/
namespace Go.Proofs.YthjamohaeahipaaGreat
open Go Go.RowKit

theorem sizes_nn {st : List Int} (hs : sizesB st = true) : NN st ∧ (∀ y ∈ st, 1 ≤ y ∧ y ≤ 4) ∧ 0 ≤ sumI st ∧ sumI st ≤ 12 := by
  obtain ⟨h1, _, h2, h3, _⟩ := nowB_of hs
  exact ⟨fun x hx => by have := h1.one x hx; omega, h1.one, h2, h3⟩
theorem first_at {st : List Int} {i : Nat} (hs : sizesB st = true) (hi : i < st.length) : firstOfP st (i : Int) = (sumI (st.take i), true) := by
  obtain ⟨hn, _, h0, h12⟩ := sizes_nn hs
  unfold firstOfP
  rw [hs, inR_iff.2 ⟨by omega, by omega⟩]
  show (sum64 (st.take i), true) = _
  rw [sum64_sumI (hn.take i) (by have := hn.part i; omega)]
theorem colAt_in {x k : Int} {post : List Int} (hk0 : 0 ≤ k) (hk : k < x) : ∀ (pre : List Int) (i0 : Int), NN pre → sumI pre + k ≤ 1000 → colAt (pre ++ x :: post) (sumI pre + k) i0 = (i0 + pre.length, true)
  | [], i0, _, _ => by
    rw [List.nil_append, colAt, sumI, Int.zero_add, if_pos hk]
    simp
  | y :: pre, i0, hn, hb => by
    have h1 := hn y (by simp)
    have h2 : NN pre := fun z hz => hn z (by simp [hz])
    have h3 := h2.sum
    rw [sumI] at hb
    rw [List.cons_append, colAt, sumI, if_neg (by omega), show wrap64 (y + sumI pre + k - y) = sumI pre + k by rw [IntWalk.wrap64_in _ (by omega)]; omega, colAt_in hk0 hk pre (i0 + 1) h2 (by omega), List.length_cons]
    push_cast
    rw [show i0 + 1 + (pre.length : Int) = i0 + ((pre.length : Int) + 1) by omega]
theorem colAt_out : ∀ (xs : List Int) (i0 : Int), NN xs → sumI xs ≤ 1000 → colAt xs (sumI xs) i0 = (0, false)
  | [], i0, _, _ => rfl
  | y :: xs, i0, hn, hb => by
    have h1 := hn y (by simp)
    have h2 : NN xs := fun z hz => hn z (by simp [hz])
    have h3 := h2.sum
    rw [sumI] at hb
    rw [colAt, sumI, if_neg (by omega), show wrap64 (y + sumI xs - y) = sumI xs by rw [IntWalk.wrap64_in _ (by omega)]; omega, colAt_out xs (i0 + 1) h2 (by omega)]
theorem column_at {st : List Int} {i : Nat} {x k : Int} (hs : sizesB st = true) (hx : st[i]? = some x) (hk0 : 0 ≤ k) (hk : k < x) : columnAtP st (sumI (st.take i) + k) = ((i : Int), true) := by
  obtain ⟨hn, _, h0, h12⟩ := sizes_nn hs
  have hp := hn.part i
  have hle := hn.at_le hx
  have hi := (List.getElem?_eq_some_iff.1 hx).1
  unfold columnAtP
  rw [hs, decide_eq_false (by omega)]
  show colAt st (sumI (st.take i) + k) 0 = _
  have e : st = st.take i ++ x :: st.drop (i + 1) := by rw [← drop_cons hx, List.take_append_drop]
  have h1 := colAt_in (post := st.drop (i + 1)) hk0 hk (st.take i) 0 (hn.take i) (by omega)
  rw [← e, List.length_take, Nat.min_eq_left (by omega), Int.zero_add] at h1
  exact h1
theorem column_over {st : List Int} (hs : sizesB st = true) : columnAtP st (sumI st) = (0, false) := by
  obtain ⟨hn, _, h0, h12⟩ := sizes_nn hs
  unfold columnAtP
  rw [hs, decide_eq_false (by omega)]
  exact colAt_out st 0 hn (by omega)
theorem crossOnly_step {es : List EventD} {i : Nat} {p : EventD} (h : es[i]? = some p) : crossOnly (es.take (i + 1)) = crossOnly (es.take i) ++ (if p.kind = 1 then [p] else []) := by
  rw [take_snoc h, crossOnly_append]
  congr 1
  unfold crossOnly
  by_cases hk : p.kind = 1
  · rw [if_pos hk, List.filter_cons_of_pos (by simp [hk])]; rfl
  · rw [if_neg hk, List.filter_cons_of_neg (by simp [hk])]; rfl
theorem crossOnly_length (es : List EventD) : (crossOnly es).length ≤ es.length := List.length_filter_le _ _
end Go.Proofs.YthjamohaeahipaaGreat

/- The laws over draws: what they compare with. -/
namespace Go.Proofs.YthjamohaeahipaaGreat
open Go Go.RowKit

theorem laws_b10Long (A : Option Addr) (n c : Nat) (w : World) : Calls Tryz.prog 4 #[.slice A n c] w fun e w' => e = .returned (.bool (decide (1048576 < n))) ∧ w = w' := by
  go_enter Tryz.func4, Tryz.ntmps4
  go_wp2_with (fail)
  go_ret
  exact ⟨ret_bool (decide_eq_decide.2 (by omega)), rfl⟩

end Go.Proofs.YthjamohaeahipaaGreat

/- Doubled braids, the given side. -/
namespace Go.Proofs.YthjamohaeahipaaGreat
open Go Go.RowKit

theorem dbl_braid {word : List Int} {sizes : List Int} {S : Int} (hb : braidB sizes.length word = true) (hn : NowB sizes sizes.length S) (hS : 0 ≤ S ∧ S ≤ 12) :
    (∀ x ∈ word, 1 ≤ x.natAbs ∧ x.natAbs < sizes.length) ∧ word.length ≤ 40 ∧ braidB S (dblFrom word sizes) = decide ((dblFrom word sizes).length ≤ 40) ∧ (dblFrom word sizes).length ≤ 640 := by
  obtain ⟨_, _, h40, hx⟩ := braidB_of hb
  have hw : ∀ x ∈ word, 1 ≤ x.natAbs ∧ x.natAbs < sizes.length := fun x hm => by have := hx x hm; omega
  have h1 : inR S 0 12 = true := by rw [inR_iff]; exact hS
  refine ⟨hw, h40, ?_, ?_⟩
  · rw [braidB, h1, dbl_valid _ _ hw hn]; simp
  · have := dbl_length _ _ hw hn; omega
theorem dbCode_1 {word sizes : List Int} (h : braidB sizes.length word = false) : dbCode word sizes = 1 := by simp [dbCode, h]
theorem dbCode_2 {word sizes : List Int} (h : braidB sizes.length word = true) : dbCode word sizes = if (dblFrom word sizes).length ≤ 40 then 0 else 5 := by simp [dbCode, h]

set_option maxHeartbeats 4000000 in
set_option maxRecDepth 10000 in
theorem spec_DoubleBraid (word sizes : List Int) (A B : Option Addr) (c d : Nat) (w : World) (h : Ints w A word) (hl : word.length ≤ 9223372036854775807) (h' : Ints w B sizes) (hv : sizesB sizes = true) :
    Calls Tryz.prog 28 #[.agg #[.int .i64 sizes.length, .slice A word.length c], .slice B sizes.length d] w fun e w' => ∃ A' c', e = .returned (.tuple #[.agg #[.int .i64 (dbX word sizes).n, .slice A' (dbX word sizes).xs.length c'], .int .i64 (dbCode word sizes)]) ∧ OwnI w' w.heap.size w'.heap.size A' c' (dbX word sizes).xs ∧ Below w.heap.size w w' := by
  have t1 : (36 : TypeId) ≠ 2 := by decide
  obtain ⟨hn, ⟨hn1, hn8⟩, hS0, hS12, _⟩ := nowB_of hv
  clear hv
  have HN := Lib.hid hn
  have hb1 : Below w.heap.size w ((w.alloc (.cells #[.int .i64 sizes.length, .slice A word.length c] 36)).alloc (.cells #[.int .i64 0, .slice none 0 0] 36)) := by (repeat (first | exact Below.refl _ _ | assumption | apply Below.drew | apply below_drewN | (refine Below.alloc ?_ (by first | omega | (simp; done) | (simp; omega)) _) | (refine Below.setCell ?_ (by first | omega | (simp; done) | (simp; omega)) _)))
  have ka := (Blk.new w 36 #[.int .i64 sizes.length, .slice A word.length c]).alloc (.cells #[.int .i64 0, .slice none 0 0] 36)
  have kz : Blk ((w.alloc (.cells #[.int .i64 sizes.length, .slice A word.length c] 36)).alloc (.cells #[.int .i64 0, .slice none 0 0] 36)) (w.heap.size + 1) 36 #[.int .i64 0, .slice none 0 0] := by simpa using Blk.new (w.alloc (.cells #[.int .i64 sizes.length, .slice A word.length c] 36)) 36 #[.int .i64 0, .slice none 0 0]
  cases hbr : braidB sizes.length word
  · have HF := Lib.hid (db_err (dbCode_1 hbr) (by decide))
    go_enter Tryz.func28, Tryz.ntmps28
    go_wp2_with (fail)
    refine (belowOfN (spec_l03Ok _ _ _ A c word _ (h.below hb1) hl ka.c2.1 ka.c2.2)).mono ?_; rintro e w2 ⟨rfl, b2⟩
    have hb2 : Below w.heap.size w w2 := hb1.trans (b2.mono (by simp only [World.size_alloc]; omega))
    have kz2 := kz.below b2 (by simp)
    obtain ⟨r0, r1⟩ := kz2.c2
    have g0 := kz2.frozen 0
    have g1 := kz2.frozen 1
    rw [hbr]
    go_wp2_with (fail)
    refine bodyPost_ret (v := .tuple #[.agg #[.int .i64 (dbX word sizes).n, .slice none (dbX word sizes).xs.length 0], .int .i64 (dbCode word sizes)]) (by rw [HF.out.1, HF.out.2]; simp [results, Tryz.results28, go_sem, r0, r1]) rfl ⟨none, 0, rfl, ?_, ?_⟩
    · rw [HF.out.1]; exact OwnC.nil _ _ _ _ _
    · (repeat (first | exact Below.refl _ _ | assumption | apply Below.drew | apply below_drewN | (refine Below.alloc ?_ (by first | omega | (simp; done) | (simp; omega)) _) | (refine Below.setCell ?_ (by first | omega | (simp; done) | (simp; omega)) _)))
  · have HC := Lib.hid (dbCode_2 hbr)
    obtain ⟨hw, h40, hok, h640⟩ := dbl_braid hbr hn ⟨hS0, hS12⟩
    have HW := Lib.hid hw; clear hw
    have HOK := Lib.hid hok; clear hok hn
    go_enter Tryz.func28, Tryz.ntmps28
    go_wp2_with (fail)
    refine (belowOfN (spec_l03Ok _ _ _ A c word _ (h.below hb1) hl ka.c2.1 ka.c2.2)).mono ?_; rintro e w2 ⟨rfl, b2⟩
    have hb2 : Below w.heap.size w w2 := hb1.trans (b2.mono (by simp only [World.size_alloc]; omega))
    have ka2 := ka.below b2 (by simp; omega)
    have kz2 := kz.below b2 (by simp)
    have hz2 : w.heap.size + 1 < w2.heap.size := kz2.lt
    have i2 := h'.below hb2
    rw [hbr]
    clear ka kz hb1 b2 hbr
    obtain ⟨q0, q1⟩ := ka2.c2
    go_wp2_with (fail)
    go_loop [6, 7] (fun sv iv => ∃ i : Nat, i ≤ sizes.length ∧ iv = .int .i64 i ∧ sv = .int .i64 (sumI (sizes.take i))) (fun _ iv => sizes.length - (intOf iv).toNat)
    case atStart => exact ⟨0, Nat.zero_le _, rfl, rfl⟩
    case round =>
      obtain ⟨i, hi, rfl, rfl⟩ := hrel
      by_cases hil : i < sizes.length
      · obtain ⟨b, off, y, rfl, hc, hy⟩ := i2 i hil
        have hy14 := HN.out.one y (List.mem_of_getElem? hy)
        have HSN := Lib.hid (sumI_snoc hy)
        have t0 := HN.out.take i
        have t2 := HN.out.take (i + 1)
        rw [HSN.out] at t2
        clear hy
        have hin : inR y 0 4 = true := by rw [inR_iff]; omega
        have j1 : (0 : Int) ≤ (i : Int) := by omega
        have j2 : (i : Int) < (sizes.length : Int) := by omega
        generalize sumI (sizes.take i) = s0 at HSN t0 t2 ⊢
        obtain ⟨t0, t0'⟩ := t0
        obtain ⟨t2, t2'⟩ := t2
        go_wp2_with (go_at_call 30; refine (spec_l00In _ _ _ _).mono ?_; rintro e _ ⟨rfl, rfl⟩; rw [hin])
        refine ⟨⟨i + 1, by omega, by go_num, by rw [HSN.out]⟩, by simp [intOf]; omega⟩
      · obtain rfl : i = sizes.length := by omega
        rw [take_all (Nat.le_refl _)]
        go_wp2_with (fail)
        refine (spec_l03Double word sizes A B c d sizes.length (sumI sizes) _ (h.below hb2) h40 i2 HN.out ⟨hn1, hn8⟩ (by omega) HW.out).mono ?_; rintro e w3 ⟨A3, c3, rfl, o3, b3⟩
        generalize hqs : dblFrom word sizes = qs at o3 HOK HC h640 ⊢
        have HQ := Lib.hid hqs; clear hqs
        generalize hss : sumI sizes = S at HOK hS0 hS12 ⊢
        have HSS := Lib.hid hss; clear hss
        have hz3 := b3.size
        have hb3 : Below w.heap.size w w3 := hb2.trans (b3.mono (by omega))
        have kz3 := kz2.below b3 (by omega)
        have ka3 := ka2.below b3 (by omega)
        go_wp2_with (fail)
        have hb4 : Below w.heap.size w (w3.alloc (.cells #[.int .i64 S, .slice A3 qs.length c3] 36)) := by (repeat (first | exact Below.refl _ _ | assumption | apply Below.drew | apply below_drewN | (refine Below.alloc ?_ (by first | omega | (simp; done) | (simp; omega)) _) | (refine Below.setCell ?_ (by first | omega | (simp; done) | (simp; omega)) _)))
        have kx4 := Blk.new w3 36 #[.int .i64 S, .slice A3 qs.length c3]
        have kz4 := kz3.alloc (.cells #[.int .i64 S, .slice A3 qs.length c3] 36)
        have o4 := o3.alloc (.cells #[.int .i64 S, .slice A3 qs.length c3] 36)
        refine (belowOfN (spec_l03Ok _ _ _ A3 c3 qs _ (OwnC.ints o4) (by omega) kx4.c2.1 kx4.c2.2)).mono ?_; rintro e w5 ⟨rfl, b5⟩
        have hb5 : Below w.heap.size w w5 := hb4.trans (b5.mono (by simp only [World.size_alloc]; omega))
        have kx5 := kx4.below b5 (by simp)
        have kz5 := kz4.below b5 (by simp; omega)
        have hz5 := b5.size
        simp only [World.size_alloc] at hz5
        have o5 : OwnI w5 w2.heap.size w3.heap.size A3 c3 qs := OwnC.below o4 b5 (by simp)
        obtain ⟨x0, x1⟩ := kx5.c2
        obtain ⟨r0, r1⟩ := kz5.c2
        have g0 := kz5.frozen 0
        have g1 := kz5.frozen 1
        rw [HOK.out]
        by_cases hq : qs.length ≤ 40
        · have hqd : decide (qs.length ≤ 40) = true := decide_eq_true hq
          have HF : Hid (dbX word sizes = ⟨S, qs⟩ ∧ dbCode word sizes = 0) := Lib.hid (by
            have e : dbCode word sizes = 0 := by rw [HC.out, if_pos hq]
            exact ⟨by rw [dbX, if_pos e, HQ.out, HSS.out], e⟩)
          rw [hqd]
          clear hq hqd
          go_wp2_with (fail)
          refine bodyPost_ret (v := .tuple #[.agg #[.int .i64 (dbX word sizes).n, .slice A3 (dbX word sizes).xs.length c3], .int .i64 (dbCode word sizes)]) (by rw [HF.out.1, HF.out.2]; simp [results, Tryz.results28, go_sem, r0, r1]) rfl ⟨A3, c3, rfl, ?_, ?_⟩
          · rw [HF.out.1]
            have k1 := kz5.set20 (.int .i64 S)
            exact OwnC.mono ((o5.farT kz5 t1 0 _).farT k1 t1 1 _) (by omega) (by simp; omega)
          · (repeat (first | exact Below.refl _ _ | assumption | apply Below.drew | apply below_drewN | (refine Below.alloc ?_ (by first | omega | (simp; done) | (simp; omega)) _) | (refine Below.setCell ?_ (by first | omega | (simp; done) | (simp; omega)) _)))
        · have hqd : decide (qs.length ≤ 40) = false := decide_eq_false hq
          have HF := Lib.hid (db_err (k := 5) (by rw [HC.out, if_neg hq]) (by decide))
          rw [hqd]
          clear hq hqd
          go_wp2_with (fail)
          refine bodyPost_ret (v := .tuple #[.agg #[.int .i64 (dbX word sizes).n, .slice none (dbX word sizes).xs.length 0], .int .i64 (dbCode word sizes)]) (by rw [HF.out.1, HF.out.2]; simp [results, Tryz.results28, go_sem, r0, r1]) rfl ⟨none, 0, rfl, ?_, ?_⟩
          · rw [HF.out.1]; exact OwnC.nil _ _ _ _ _
          · (repeat (first | exact Below.refl _ _ | assumption | apply Below.drew | apply below_drewN | (refine Below.alloc ?_ (by first | omega | (simp; done) | (simp; omega)) _) | (refine Below.setCell ?_ (by first | omega | (simp; done) | (simp; omega)) _)))

end Go.Proofs.YthjamohaeahipaaGreat

/- Doubled braids, the program's side. -/
namespace Go.Proofs.YthjamohaeahipaaGreat
open Go Go.RowKit

theorem tiny_sum : ∀ (ys : List Int), (∀ y ∈ ys, 1 ≤ y ∧ y ≤ 4) → 0 ≤ sumI ys ∧ sumI ys ≤ 4 * ys.length
  | [], _ => by simp [sumI]
  | y :: ys, h => by
    have h1 := tiny_sum ys (fun z hz => h z (by simp [hz]))
    have h2 := h y (by simp)
    rw [sumI, List.length_cons]; push_cast; omega
theorem NowB.sum64 {now : List Int} {n : Nat} {S : Int} (h : NowB now n S) (hn : n ≤ 8) : ∀ k, k ≤ n → Go.Proofs.YthjamohaeahipaaGreat.sum64 (now.take k) = sumI (now.take k) := by
  intro k
  have hl := h.len
  induction k with
  | zero => intro _; simp [Go.Proofs.YthjamohaeahipaaGreat.sum64, sumI]
  | succ k ih =>
    intro hk
    have hx : now[k]? = some (now[k]'(by omega)) := List.getElem?_eq_getElem (by omega)
    have h1 := tiny_sum (now.take k) (fun y hy => h.one y (List.mem_of_mem_take hy))
    have h2 := h.one (now[k]'(by omega)) (List.getElem_mem _)
    have h3 : (now.take k).length ≤ 8 := by rw [List.length_take]; omega
    rw [take_snoc hx, sum64_snoc, ih (by omega), sumI_append, IntWalk.wrap64_in _ (by omega)]
    simp [sumI]
end Go.Proofs.YthjamohaeahipaaGreat

/- Braids of rows over stacks: RowBraid. -/
namespace Go.Proofs.YthjamohaeahipaaGreat
open Go Go.RowKit

set_option maxHeartbeats 2000000 in
theorem spec_RowBraid (d r : Int) (ks sizes : List Int) (A B : Option Addr) (c c2 : Nat) (w : World) (h : Ints w A ks) (hl : ks.length ≤ 9223372036854775807) (h' : Ints w B sizes) (hl' : sizes.length ≤ 9223372036854775807) :
    Calls Tryz.prog 11 #[.agg #[.int .i64 d, .int .i64 r, .slice A ks.length c], .slice B sizes.length c2] w fun e w' => ∃ A' c', e = .returned (.tuple #[.agg #[.int .i64 (rbX d r ks sizes).n, .slice A' (rbX d r ks sizes).xs.length c'], .int .i64 (rbCode d r ks sizes)]) ∧ OwnI w' w.heap.size w'.heap.size A' c' (rbX d r ks sizes).xs ∧ Below w.heap.size w w' := by
  have t1 : (36 : TypeId) ≠ 2 := by decide
  obtain ⟨w1, hw1⟩ : ∃ w1, w1 = (w.alloc (.cells #[.int .i64 d, .int .i64 r, .slice A ks.length c] 26)).alloc (.cells #[.int .i64 0, .slice none 0 0] 36) := ⟨_, rfl⟩
  have hb1 : Below w.heap.size w w1 := by rw [hw1]; (repeat (first | exact Below.refl _ _ | assumption | apply Below.drew | apply below_drewN | (refine Below.alloc ?_ (by first | omega | (simp; done) | (simp; omega)) _) | (refine Below.setCell ?_ (by first | omega | (simp; done) | (simp; omega)) _)))
  have ka : Blk w1 w.heap.size 26 #[.int .i64 d, .int .i64 r, .slice A ks.length c] := by rw [hw1]; exact (Blk.new w _ _).alloc _
  have kz : Blk w1 (w.heap.size + 1) 36 #[.int .i64 0, .slice none 0 0] := by rw [hw1]; simpa using Blk.new (w.alloc (.cells #[.int .i64 d, .int .i64 r, .slice A ks.length c] 26)) 36 #[.int .i64 0, .slice none 0 0]
  have hz1 : w.heap.size + 2 ≤ w1.heap.size := kz.lt
  cases hv : rowB d r ks
  · have HF := Lib.hid (rb_err (sizes := sizes) (k := 1) (by rw [rbCode, hv]; rfl) (by decide))
    go_enter Tryz.func11, Tryz.ntmps11
    go_wp2_with (fail)
    rw [← hw1]; clear hw1
    refine (spec_l15Row _ _ d r A c ks _ (h.below hb1) hl ka.c3.1 ka.c3.2.1 ka.c3.2.2).mono ?_; rintro e _ ⟨rfl, rfl⟩
    have hb2 := hb1; have ka2 := ka; have kz2 := kz
    obtain ⟨r0, r1⟩ := kz2.c2
    have g0 := kz2.frozen 0
    have g1 := kz2.frozen 1
    rw [hv]
    go_wp2_with (fail)
    refine bodyPost_ret (v := .tuple #[.agg #[.int .i64 (rbX d r ks sizes).n, .slice none (rbX d r ks sizes).xs.length 0], .int .i64 (rbCode d r ks sizes)]) (by rw [HF.out.1, HF.out.2]; simp [results, Tryz.results11, go_sem, r0, r1]) rfl ⟨none, 0, rfl, ?_, ?_⟩
    · rw [HF.out.1]; exact OwnC.nil _ _ _ _ _
    · (repeat (first | exact Below.refl _ _ | assumption | apply Below.drew | apply below_drewN | (refine Below.alloc ?_ (by first | omega | (simp; done) | (simp; omega)) _) | (refine Below.setCell ?_ (by first | omega | (simp; done) | (simp; omega)) _)))
  · cases hs : sizesB sizes
    · have HF := Lib.hid (rb_err (d := d) (r := r) (ks := ks) (k := 1) (by rw [rbCode, hv, hs]; rfl) (by decide))
      go_enter Tryz.func11, Tryz.ntmps11
      go_wp2_with (fail)
      rw [← hw1]; clear hw1
      refine (spec_l15Row _ _ d r A c ks _ (h.below hb1) hl ka.c3.1 ka.c3.2.1 ka.c3.2.2).mono ?_; rintro e _ ⟨rfl, rfl⟩
      have hb2 := hb1; have ka2 := ka; have kz2 := kz
      obtain ⟨r0, r1⟩ := kz2.c2
      have g0 := kz2.frozen 0
      have g1 := kz2.frozen 1
      rw [hv]
      go_wp2_with (fail)
      refine (spec_l17Ok B c2 sizes _ (h'.below hb2) hl').mono ?_; rintro e _ ⟨rfl, rfl⟩
      rw [hs]
      go_wp2_with (fail)
      refine bodyPost_ret (v := .tuple #[.agg #[.int .i64 (rbX d r ks sizes).n, .slice none (rbX d r ks sizes).xs.length 0], .int .i64 (rbCode d r ks sizes)]) (by rw [HF.out.1, HF.out.2]; simp [results, Tryz.results11, go_sem, r0, r1]) rfl ⟨none, 0, rfl, ?_, ?_⟩
      · rw [HF.out.1]; exact OwnC.nil _ _ _ _ _
      · (repeat (first | exact Below.refl _ _ | assumption | apply Below.drew | apply below_drewN | (refine Below.alloc ?_ (by first | omega | (simp; done) | (simp; omega)) _) | (refine Below.setCell ?_ (by first | omega | (simp; done) | (simp; omega)) _)))
    · have hks := (rowB_of hv).2.2.1
      have hl8 := (nowB_of hs).2.1
      obtain ⟨hl1, hl8⟩ := hl8
      have HV := Lib.hid hv
      have HS := Lib.hid hs
      go_enter Tryz.func11, Tryz.ntmps11
      go_wp2_with (fail)
      rw [← hw1]; clear hw1
      refine (spec_l15Row _ _ d r A c ks _ (h.below hb1) hl ka.c3.1 ka.c3.2.1 ka.c3.2.2).mono ?_; rintro e _ ⟨rfl, rfl⟩
      have hb2 := hb1; have ka2 := ka; have kz2 := kz
      rw [hv]
      go_wp2_with (fail)
      refine (spec_l17Ok B c2 sizes _ (h'.below hb2) hl').mono ?_; rintro e _ ⟨rfl, rfl⟩
      rw [hs]
      clear hv hs
      have hz2 : w.heap.size + 2 ≤ w1.heap.size := kz2.lt
      have HTP : Hid (takenP ks = takenS ks) := Lib.hid (takenP_of hks)
      have HCD : Hid (rowCodeP d r ks = if laidB ks then 0 else 10) := Lib.hid (by rw [rowCodeP, if_pos HV.out])
      go_wp2_with (fail)
      refine (spec_l20Ask _ _ d r A c ks _ (h.below hb2) hl ka2.c3.1 ka2.c3.2.1 ka2.c3.2.2).mono ?_; rintro e w3 ⟨rfl, b3⟩
      have hb3 : Below w.heap.size w w3 := hb2.trans (b3.mono (by omega)); have ka3 := ka2.below b3 (by omega); have kz3 := kz2.below b3 (by omega); have hz3 : w.heap.size + 2 ≤ w3.heap.size := kz3.lt
      cases hla : laidB ks
      · have HF := Lib.hid (rb_err (k := 10) (by rw [rbCode, HV.out, HS.out, rbOk, hla]; rfl) (by decide))
        rw [HCD.out, hla]
        obtain ⟨r0, r1⟩ := kz3.c2
        have g0 := kz3.frozen 0
        have g1 := kz3.frozen 1
        go_wp2_with (fail)
        refine bodyPost_ret (v := .tuple #[.agg #[.int .i64 (rbX d r ks sizes).n, .slice none (rbX d r ks sizes).xs.length 0], .int .i64 (rbCode d r ks sizes)]) (by rw [HF.out.1, HF.out.2]; simp [results, Tryz.results11, go_sem, r0, r1]) rfl ⟨none, 0, rfl, ?_, ?_⟩
        · rw [HF.out.1]; exact OwnC.nil _ _ _ _ _
        · (repeat (first | exact Below.refl _ _ | assumption | apply Below.drew | apply below_drewN | (refine Below.alloc ?_ (by first | omega | (simp; done) | (simp; omega)) _) | (refine Below.setCell ?_ (by first | omega | (simp; done) | (simp; omega)) _)))
      · have HLA := Lib.hid hla
        rw [HCD.out, hla]
        obtain ⟨y0, y1, y2⟩ := ka3.c3
        go_wp2_with (fail)
        refine (spec_TakenBy A c ks _ (h.below hb3) hl).mono ?_; rintro e w4 ⟨rfl, b4⟩
        have hb4 : Below w.heap.size w w4 := hb3.trans (b4.mono (by omega)); have kz4 := kz3.below b4 (by omega); have ka4 := ka3.below b4 (by omega); have hz4 : w.heap.size + 2 ≤ w4.heap.size := kz4.lt
        rw [HTP.out]
        by_cases htk : takenS ks = sizes.length
        · have htk' : (((takenS ks : Nat) : Int) != (sizes.length : Int)) = false := by simp [htk]
          have HG := Lib.hid (rb_good HV.out HS.out (show rbOk ks sizes = true by rw [rbOk, HLA.out, htk]; simp))
          clear htk hla
          obtain ⟨z0, z1, z2⟩ := ka4.c3
          go_wp2_with (fail)
          refine (spec_l18Letters _ _ A c ks _ (h.below hb4) hks ka4.c3.2.2).mono ?_; rintro e w5 ⟨A5, c5, rfl, o5, b5⟩
          have hb5 : Below w.heap.size w w5 := hb4.trans (b5.mono (by omega))
          have kz5 := kz4.below b5 (by omega)
          have hz5 : w.heap.size + 2 ≤ w5.heap.size := kz5.lt
          have hlen := lettersFrom_length ks 0
          have h16 := (stitchesB_of hks).1
          generalize lettersFrom ks 0 = word at o5 HG hlen ⊢
          go_wp2_with (fail)
          refine (spec_DoubleBraid word sizes A5 B c5 c2 _ (OwnC.ints o5) (by omega) (h'.below hb5) HS.out).mono ?_; rintro e w6 ⟨A6, c6, rfl, o6, b6⟩
          have hb6 : Below w.heap.size w w6 := hb5.trans (b6.mono (by omega))
          have kz6 := kz5.below b6 (by omega)
          have hz6 := b6.size
          obtain ⟨r0, r1⟩ := kz6.c2
          have g0 := kz6.frozen 0
          have g1 := kz6.frozen 1
          generalize dbX word sizes = X at o6 HG ⊢
          generalize dbCode word sizes = Y at HG ⊢
          go_wp2_with (fail)
          refine bodyPost_ret (v := .tuple #[.agg #[.int .i64 (rbX d r ks sizes).n, .slice A6 (rbX d r ks sizes).xs.length c6], .int .i64 (rbCode d r ks sizes)]) (by rw [HG.out.1, HG.out.2]; simp [results, Tryz.results11, go_sem, r0, r1]) rfl ⟨A6, c6, rfl, ?_, ?_⟩
          · rw [HG.out.1]
            have k1 := kz6.set20 (.int .i64 X.n)
            exact OwnC.mono ((o6.farT kz6 t1 0 _).farT k1 t1 1 _) (by omega) (by simp)
          · (repeat (first | exact Below.refl _ _ | assumption | apply Below.drew | apply below_drewN | (refine Below.alloc ?_ (by first | omega | (simp; done) | (simp; omega)) _) | (refine Below.setCell ?_ (by first | omega | (simp; done) | (simp; omega)) _)))
        · have htk' : (((takenS ks : Nat) : Int) != (sizes.length : Int)) = true := by simpa using fun e => htk (by omega)
          have HF := Lib.hid (rb_err (k := 10) (by rw [rbCode, HV.out, HS.out, rbOk, HLA.out]; simp; omega) (by decide))
          clear htk hla
          obtain ⟨r0, r1⟩ := kz4.c2
          have g0 := kz4.frozen 0
          have g1 := kz4.frozen 1
          go_wp2_with (fail)
          refine bodyPost_ret (v := .tuple #[.agg #[.int .i64 (rbX d r ks sizes).n, .slice none (rbX d r ks sizes).xs.length 0], .int .i64 (rbCode d r ks sizes)]) (by rw [HF.out.1, HF.out.2]; simp [results, Tryz.results11, go_sem, r0, r1]) rfl ⟨none, 0, rfl, ?_, ?_⟩
          · rw [HF.out.1]; exact OwnC.nil _ _ _ _ _
          · (repeat (first | exact Below.refl _ _ | assumption | apply Below.drew | apply below_drewN | (refine Below.alloc ?_ (by first | omega | (simp; done) | (simp; omega)) _) | (refine Below.setCell ?_ (by first | omega | (simp; done) | (simp; omega)) _)))

end Go.Proofs.YthjamohaeahipaaGreat
