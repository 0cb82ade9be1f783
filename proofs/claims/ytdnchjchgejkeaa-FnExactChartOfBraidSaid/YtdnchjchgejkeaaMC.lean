/- MirrorColours: the plain function, and slices of slices that grow. -/
import Derived.Test.YtdnchjchgejkeaaRO
import Derived.Test.YtdnchjchgejkeaaCC
namespace Go.Proofs.Ytdnchjchgejkeaa
open Go.RowKit

structure ColX where
  n : Int
  xs : List (List Int)
def mirC (n : Int) (xss : List (List Int)) : ColX := if coloursB n xss then ⟨n, xss.map List.reverse⟩ else ⟨0, []⟩
def mirCode (n : Int) (xss : List (List Int)) : Int := if coloursB n xss then 0 else 1
theorem cntII_le {xss : List (List Int)} {m : Nat} (h : ∀ r ∈ xss, r.length ≤ m) : cntII xss ≤ xss.length * m := by
  induction xss with
  | nil => simp [cntII]
  | cons x r ih =>
    have h1 := h x (by simp)
    have h2 := ih fun y hy => h y (by simp [hy])
    simp only [cntII, List.length_cons, Nat.succ_mul]
    omega
theorem mirC_size (n : Int) (xss : List (List Int)) : (mirC n xss).xs.length ≤ 8 ∧ cntII (mirC n xss).xs ≤ 64 := by
  unfold mirC
  split
  · rename_i hv
    have hv' : coloursB n xss = true := hv
    unfold coloursB at hv'
    simp only [Bool.and_eq_true, List.all_eq_true] at hv'
    have h1 := inR_iff.1 hv'.1.1
    have h2 := inR_iff.1 hv'.1.2
    have h3 : ∀ r ∈ xss.map List.reverse, r.length ≤ 8 := by
      intro r hr
      obtain ⟨x, hx, rfl⟩ := List.mem_map.1 hr
      have := hv'.2 x hx
      unfold rowOfB at this
      simp only [Bool.and_eq_true, decide_eq_true_eq] at this
      rw [List.length_reverse]
      omega
    have h4 := cntII_le h3
    simp only [List.length_map] at h4
    refine ⟨by simp; omega, ?_⟩
    have : xss.length ≤ 8 := by omega
    have := Nat.mul_le_mul_right 8 this
    show cntII (xss.map List.reverse) ≤ 64
    omega
  · simp [cntII]
/-- Another slice, of another type, grows. -/
theorem OwnC.grownT {w w' : World} {lo hi : Nat} {e : TypeId} {sz : Nat} {A : Option Addr} {n c : Nat} {cs : List Value} {lo2 hi2 : Nat} {e2 : TypeId} {sz2 : Nat} {B : Option Addr} {n2 c2 : Nat} {cs2 : List Value}
    (h : OwnC w lo hi e sz A n c cs) (h2 : OwnC w lo2 hi2 e2 sz2 B n2 c2 cs2) (ht : e ≠ e2) (hg : w.grownBy w' (Value.slice B n2 c2).ownBlock) : OwnC w' lo hi e sz A n c cs :=
  h.keepT fun k cur _ _ hk => hg.block k (Array.getElem?_eq_some_iff.1 hk).1 fun e' => by
    rcases h2.form with ⟨rfl, _⟩ | ⟨q, cur, rfl, _, _, hh, _⟩
    · simp [Value.ownBlock] at e'
    · simp [Value.ownBlock] at e'
      subst e'
      rw [hk] at hh
      injection hh with hh
      injection hh with _ hh
      exact ht hh
theorem CellsII.grownT {w w' : World} {lo hi : Nat} {cs : List Value} {xss : List (List Int)} {lo2 hi2 : Nat} {e2 : TypeId} {sz2 : Nat} {B : Option Addr} {n2 c2 : Nat} {cs2 : List Value}
    (h : CellsII w lo hi cs xss) (h2 : OwnC w lo2 hi2 e2 sz2 B n2 c2 cs2) (ht : (2 : TypeId) ≠ e2) (hg : w.grownBy w' (Value.slice B n2 c2).ownBlock) : CellsII w' lo hi cs xss :=
  ⟨h.1, fun k xs hx => by obtain ⟨A', c', h1, h3⟩ := h.2.1 k xs hx; exact ⟨A', c', h1, h3.grownT h2 ht hg⟩, h.2.2⟩
theorem CellsII.farT {w : World} {lo hi : Nat} {cs : List Value} {xss : List (List Int)} {g : Nat} {t : TypeId} {bs : Array Value} (h : CellsII w lo hi cs xss) (hb : Blk w g t bs) (ht : t ≠ 2) (j : Nat) (u : Value) : CellsII (w.setCell ⟨g, j, none⟩ u) lo hi cs xss :=
  ⟨h.1, fun k xs hx => by obtain ⟨A', c', h1, h3⟩ := h.2.1 k xs hx; exact ⟨A', c', h1, h3.farT hb ht j u⟩, h.2.2⟩
theorem Blk.set20 {w : World} {g : Nat} {t : TypeId} {a b : Value} (h : Blk w g t #[a, b]) (u : Value) : Blk (w.setCell ⟨g, 0, none⟩ u) g t #[u, b] := by
  unfold Blk at h ⊢
  simp [World.setCell, Array.getElem?_modify, h]
theorem Blk.set21 {w : World} {g : Nat} {t : TypeId} {a b : Value} (h : Blk w g t #[a, b]) (u : Value) : Blk (w.setCell ⟨g, 1, none⟩ u) g t #[a, u] := by
  unfold Blk at h ⊢
  simp [World.setCell, Array.getElem?_modify, h]

set_option maxHeartbeats 4000000 in
set_option maxRecDepth 10000 in
theorem spec_MirrorColours (n : Int) (xss : List (List Int)) (A : Option Addr) (c : Nat) (w : World) (h : Ints2 w A xss) (hl : xss.length ≤ 9223372036854775807) :
    Calls Try.prog 48 #[.agg #[.int .i64 n, .slice A xss.length c]] w fun e w' => ∃ A' c', e = .returned (.tuple #[.agg #[.int .i64 (mirC n xss).n, .slice A' (mirC n xss).xs.length c'], .int .i64 (mirCode n xss)]) ∧ OwnII w' w.heap.size w'.heap.size A' (mirC n xss).xs.length c' (mirC n xss).xs ∧ Below w.heap.size w w' := by
  have hb1 : Below w.heap.size w ((w.alloc (.cells #[.int .i64 n, .slice A xss.length c] 60)).alloc (.cells #[.int .i64 0, .slice none 0 0] 60)) := by (repeat (first | exact Below.refl _ _ | assumption | apply Below.drew | apply below_drewN | (refine Below.alloc ?_ (by first | omega | (simp; done) | (simp; omega)) _) | (refine Below.setCell ?_ (by first | omega | (simp; done) | (simp; omega)) _)))
  have ka := (Blk.new w 60 #[.int .i64 n, .slice A xss.length c]).alloc (.cells #[.int .i64 0, .slice none 0 0] 60)
  have kz : Blk ((w.alloc (.cells #[.int .i64 n, .slice A xss.length c] 60)).alloc (.cells #[.int .i64 0, .slice none 0 0] 60)) (w.heap.size + 1) 60 #[.int .i64 0, .slice none 0 0] := by simpa using Blk.new (w.alloc (.cells #[.int .i64 n, .slice A xss.length c] 60)) 60 #[.int .i64 0, .slice none 0 0]
  have t1 : (60 : TypeId) ≠ 2 := by decide
  have t2 : (60 : TypeId) ≠ 29 := by decide
  have t3 : (2 : TypeId) ≠ 29 := by decide
  by_cases hv : coloursB n xss = true
  · have HF : Hid (mirC n xss = ⟨n, xss.map List.reverse⟩ ∧ mirCode n xss = 0) := Lib.hid ⟨by rw [mirC, if_pos hv], by rw [mirCode, if_pos hv]⟩
    have HV := Lib.hid hv
    obtain ⟨i0, hi0, hz0, hz1, hz2⟩ := info_parts info_ints
    obtain ⟨i1, hi1, hy0, hy1, hy2⟩ := info_parts info_int64
    have hrl : ∀ row ∈ xss, row.length ≤ 8 := by
      intro row hr
      unfold coloursB at hv
      simp only [Bool.and_eq_true, List.all_eq_true] at hv
      have h1 := inR_iff.1 hv.1.1
      have := hv.2 row hr
      unfold rowOfB at this
      simp only [Bool.and_eq_true, decide_eq_true_eq] at this
      omega
    have hx8 : xss.length ≤ 8 := by
      unfold coloursB at hv
      simp only [Bool.and_eq_true] at hv
      have h1 := inR_iff.1 hv.1.2
      omega
    have HRL := Lib.hid hrl; clear hrl
    go_enter Try.func48, Try.ntmps48
    go_wp2_with (fail)
    refine (spec_l19Ok _ _ n A c xss _ (h.below hb1) hl ka.c2.1 ka.c2.2).mono ?_; rintro e w2 ⟨rfl, hdr⟩
    have b2 : Below w.heap.size w w2 := by obtain ⟨q, rfl⟩ := hdr; exact below_drewN hb1 q
    have ka2 : Blk w2 w.heap.size 60 #[.int .i64 n, .slice A xss.length c] := by obtain ⟨q, rfl⟩ := hdr; exact ka.drewN q
    have kz2 : Blk w2 (w.heap.size + 1) 60 #[.int .i64 0, .slice none 0 0] := by obtain ⟨q, rfl⟩ := hdr; exact kz.drewN q
    have hz : w2.heap.size = w.heap.size + 2 := by obtain ⟨q, rfl⟩ := hdr; simp
    have HZ := Lib.hid hz; clear hz hdr ka kz hb1
    have h2 : Ints2 w2 A xss := h.below b2
    obtain ⟨q0, q1⟩ := ka2.c2
    go_wp2_with (fail)
    go_loopw [5] (fun iv wr => ∃ (k : Nat) (A' : Option Addr) (c' : Nat) (cs : List Value), k ≤ xss.length ∧ iv = .int .i64 k ∧ Blk wr w.heap.size 60 #[.int .i64 n, .slice A xss.length c] ∧ Blk wr (w.heap.size + 1) 60 #[.int .i64 0, .slice none 0 0] ∧ Blk wr w2.heap.size 60 #[.int .i64 n, .slice A' k c'] ∧ OwnC wr w.heap.size wr.heap.size 29 1 A' k c' cs ∧ CellsII wr w.heap.size wr.heap.size cs ((xss.take k).map List.reverse) ∧ Below w.heap.size w wr) (fun iv _ => xss.length - (intOf iv).toNat)
    case atStart =>
      exact ⟨0, none, 0, [], Nat.zero_le _, rfl, ka2.alloc _, kz2.alloc _, Blk.new _ _ _, OwnC.nil _ _ _ _ _, ⟨rfl, fun k xs hx => by simp at hx, fun i j v v' g hi' => by simp at hi'⟩, b2.alloc (by have := HZ.out; omega) _⟩
    case round =>
      clear q0 q1 ka2 kz2
      obtain ⟨k, A', c', cs, hk, rfl, ka, kz, ko, ho, hci, hb⟩ := hrel
      have hzs := hb.size
      have hza := ka.lt
      have hzz := kz.lt
      have hzo := ko.lt
      obtain ⟨q0, q1⟩ := ka.c2
      by_cases hlt : k < xss.length
      · obtain ⟨b, off, A2, c2, row, rfl, hx, hc, hi, hxl⟩ := h k hlt
        have hr8 := HRL.out row (List.mem_of_getElem? hx)
        have HX := Lib.hid hx; clear hx
        have HC := Lib.hid hc
        replace hc := cells_below hb _ _ hc
        have j1 : (0 : Int) ≤ (k : Int) := by omega
        have j2 : (k : Int) < (xss.length : Int) := by omega
        have hq1 := cell_alloc q1 (.cells #[] 2)
        have hc1 := cell_alloc hc (.cells #[] 2)
        obtain ⟨W1, rfl⟩ : ∃ W1, W1 = wr := ⟨wr, rfl⟩
        go_wp2_with (fail)
        go_loopw [6, 7] (fun rv jv ws => ∃ (j : Nat) (A3 : Option Addr) (c3 : Nat), j ≤ row.length ∧ jv = .int .i64 ((row.length : Int) - 1 - j) ∧ rv = .slice A3 (row.reverse.take j).length c3 ∧ OwnI ws W1.heap.size ws.heap.size A3 c3 (row.reverse.take j) ∧ Below W1.heap.size W1 ws) (fun _ jv _ => (intOf jv + 1).toNat)
        case atStart =>
          exact ⟨0, some ⟨W1.heap.size, 0, none⟩, 0, Nat.zero_le _, by simp, rfl, (OwnC.lit _ 1 #[] (Nat.le_refl _) (Nat.zero_le _) rfl).mono (Nat.le_refl _) (by simp), by (repeat (first | exact Below.refl _ _ | assumption | apply Below.drew | apply below_drewN | (refine Below.alloc ?_ (by first | omega | (simp; done) | (simp; omega)) _) | (refine Below.setCell ?_ (by first | omega | (simp; done) | (simp; omega)) _)))⟩
        case round =>
          clear hq1 hc1 q0 q1
          obtain ⟨j, A3, c3, hj, rfl, rfl, ho3, hb3⟩ := hrel
          have hz3 := hb3.size
          have hbb : Below w.heap.size w wr := hb.trans (hb3.mono hzs)
          have ka3 := ka.below hb3 hza
          have kz3 := kz.below hb3 hzz
          have ko3 := ko.below hb3 hzo
          obtain ⟨q0, q1⟩ := ka3.c2
          have hc3 := cells_below hbb _ _ HC.out
          by_cases hjl : j < row.length
          · obtain ⟨m, hm⟩ : ∃ m, row.length = m + 1 + j := ⟨row.length - 1 - j, by omega⟩
            obtain ⟨b1, off1, x, rfl, hcx, hx⟩ := hi m (by omega)
            replace hcx := cells_below hbb _ _ hcx
            have HR : Hid (row.reverse.take (j + 1) = row.reverse.take j ++ [x]) := Lib.hid (take_snoc (by rw [List.getElem?_reverse hjl, show row.length - 1 - j = m by omega]; exact hx))
            clear hx
            rw [show (row.length : Int) - 1 - j = m by omega]
            have m1 : (0 : Int) ≤ (m : Int) := by omega
            have m2 : (m : Int) < (row.length : Int) := by omega
            have HM := Lib.hid hm; clear hm
            have hL8 : (row.reverse.take j).length ≤ 8 := by rw [List.length_take, List.length_reverse]; omega
            generalize row.reverse.take j = L at ho3 HR hL8 ⊢
            go_wp2_with (at_builtin; refine wpList_append1 wr [.int .i64 x] _ rfl (.tmp 33) (.tmp 42) _ rfl 2 i1 _ 1 8 Try.underlying29 hi1 hy0 hy1 hy2 rfl (by decide) rfl ho3 hz3 1 rfl rfl (by simp [Value.oneCell']) (by omega) (by decide) ?_; intro A4 c4 w4 ho4 hg4 hb4 hz4)
            go_roundw
            case rel =>
              refine ⟨j + 1, A4, c4, by omega, int_eq (by have := HM.out; push_cast; omega), by rw [HR.out]; simp, ?_, hb3.trans hb4⟩
              rw [HR.out]
              show OwnC _ _ _ _ _ _ _ _ _
              rw [List.map_append, List.length_append]
              exact ho4
            case measure => first | (simp [intOf]; done) | (simp [intOf]; omega)
          · obtain rfl : j = row.length := by omega
            rw [show (row.length : Int) - 1 - row.length = -1 by omega]
            rw [take_all (by rw [List.length_reverse]; exact Nat.le_refl _)] at ho3 ⊢
            have hL8 : row.reverse.length ≤ 8 := by rw [List.length_reverse]; omega
            have HS : Hid ((xss.take (k + 1)).map List.reverse = (xss.take k).map List.reverse ++ [row.reverse]) := Lib.hid (by rw [take_snoc HX.out, List.map_append]; rfl)
            generalize row.reverse = L at ho3 hL8 HS ⊢
            have ho' := (ho.below hb3 (Nat.le_refl _)).mono (Nat.le_refl _) hz3
            have ci3 : CellsII wr w.heap.size W1.heap.size cs ((xss.take k).map List.reverse) := hci.keep fun q _ h2 _ => hb3.block q h2
            obtain ⟨p0, p1⟩ := ko3.c2
            have hls : w.heap.size ≤ wr.heap.size := by omega
            have hk8 : k ≤ 1000000000000 := by omega
            go_wp2_with (at_builtin; refine wpList_append1 wr [.slice A3 L.length c3] _ rfl (.tmp 45) (.tmp 47) _ rfl 29 i0 _ 1 24 Try.underlying33 hi0 hz0 hz1 hz2 rfl (by decide) rfl ho' hls 1 rfl rfl (by simp [Value.oneCell']) hk8 (by decide) ?_; intro A5 c5 w5 ho5 hg5 hb5 hz5; have ko5 := (ko3.alloc (.cells #[.slice A3 L.length c3] 29)).grownT (ho'.alloc (.cells #[.slice A3 L.length c3] 29)) t2 hg5; obtain ⟨s0, s1⟩ := ko5.c2; have f1 := ko5.frozen 1)
            have ko5 := (ko3.alloc (.cells #[.slice A3 L.length c3] 29)).grownT (ho'.alloc (.cells #[.slice A3 L.length c3] 29)) t2 hg5
            have ka5 := (ka3.alloc (.cells #[.slice A3 L.length c3] 29)).grownT (ho'.alloc (.cells #[.slice A3 L.length c3] 29)) t2 hg5
            have kz5 := (kz3.alloc (.cells #[.slice A3 L.length c3] 29)).grownT (ho'.alloc (.cells #[.slice A3 L.length c3] 29)) t2 hg5
            have or5 := (ho3.alloc (.cells #[.slice A3 L.length c3] 29)).grownT (ho'.alloc (.cells #[.slice A3 L.length c3] 29)) t3 hg5
            have ci5 := (ci3.keep (w' := wr.alloc (.cells #[.slice A3 L.length c3] 29)) fun q _ _ h3 => Below.heap_alloc wr _ q h3).grownT (ho'.alloc (.cells #[.slice A3 L.length c3] 29)) t3 hg5
            have ci6 : CellsII w5 w.heap.size w5.heap.size (cs ++ [.slice A3 L.length c3]) ((xss.take k).map List.reverse ++ [L]) := ci5.snoc (or5.mono (Nat.le_refl _) (by omega)) hzs (by omega)
            have hb6 : Below w.heap.size w w5 := hbb.trans hb5
            have z2 := HZ.out
            refine ⟨⟨k + 1, A5, c5, cs ++ [.slice A3 L.length c3], by omega, by go_num, ka5.far (by show w.heap.size ≠ w2.heap.size; omega) _, kz5.far (by show w.heap.size + 1 ≠ w2.heap.size; omega) _, ko5.set21 _, (ho5.farT ko5 t2 1 _).mono (Nat.le_refl _) (by simp), ?_, by (repeat (first | exact Below.refl _ _ | assumption | apply Below.drew | apply below_drewN | (refine Below.alloc ?_ (by first | omega | (simp; done) | (simp; omega)) _) | (refine Below.setCell ?_ (by first | omega | (simp; done) | (simp; omega)) _)))⟩, by simp [intOf]; omega⟩
            rw [HS.out]
            exact (ci6.farT ko5 t1 1 _).mono (Nat.le_refl _) (by simp)
      · have hk' : k = xss.length := by omega
        subst hk'
        rw [take_all (Nat.le_refl _)] at hci
        obtain ⟨p0, p1⟩ := ko.c2
        obtain ⟨r0, r1⟩ := kz.c2
        have g0 := kz.frozen 0
        have g1 := kz.frozen 1
        go_wp2_with (fail)
        refine bodyPost_ret (v := .tuple #[.agg #[.int .i64 (mirC n xss).n, .slice A' (mirC n xss).xs.length c'], .int .i64 (mirCode n xss)]) (by rw [HF.out.1, HF.out.2]; simp [results, Try.results48, go_sem, r0, r1]) rfl ⟨A', c', rfl, ?_, ?_⟩
        · rw [HF.out.1]
          have k1 := kz.set20 (.int .i64 n)
          show OwnII _ _ _ _ (xss.map List.reverse).length _ (xss.map List.reverse)
          rw [List.length_map]
          exact ⟨cs, (((ho.farT kz t2 0 _).farT k1 t2 1 _)).mono (Nat.le_refl _) (by simp), ((hci.farT kz t1 0 _).farT k1 t1 1 _).mono (Nat.le_refl _) (by simp)⟩
        · (repeat (first | exact Below.refl _ _ | assumption | apply Below.drew | apply below_drewN | (refine Below.alloc ?_ (by first | omega | (simp; done) | (simp; omega)) _) | (refine Below.setCell ?_ (by first | omega | (simp; done) | (simp; omega)) _)))
  · have hv' : coloursB n xss = false := by simpa using hv
    have HF : Hid (mirC n xss = ⟨0, []⟩ ∧ mirCode n xss = 1) := Lib.hid ⟨by rw [mirC, if_neg hv], by rw [mirCode, if_neg hv]⟩
    clear hv
    go_enter Try.func48, Try.ntmps48
    go_wp2_with (fail)
    refine (spec_l19Ok _ _ n A c xss _ (h.below hb1) hl ka.c2.1 ka.c2.2).mono ?_; rintro e w2 ⟨rfl, q, rfl⟩
    have kz2 := kz.drewN q
    have hb2 := below_drewN hb1 q
    obtain ⟨r0, r1⟩ := kz2.c2
    have g0 := kz2.frozen 0
    have g1 := kz2.frozen 1
    go_wp2_with (fail)
    refine bodyPost_ret (v := .tuple #[.agg #[.int .i64 (mirC n xss).n, .slice none (mirC n xss).xs.length 0], .int .i64 (mirCode n xss)]) (by rw [HF.out.1, HF.out.2]; simp [results, Try.results48, go_sem, r0, r1]) rfl ⟨none, 0, rfl, ?_, ?_⟩
    · rw [HF.out.1]
      exact ⟨[], OwnC.nil _ _ _ _ _, ⟨rfl, fun k xs hx => by simp at hx, fun i j v v' g hi' => by simp at hi'⟩⟩
    · (repeat (first | exact Below.refl _ _ | assumption | apply Below.drew | apply below_drewN | (refine Below.alloc ?_ (by first | omega | (simp; done) | (simp; omega)) _) | (refine Below.setCell ?_ (by first | omega | (simp; done) | (simp; omega)) _)))

end Go.Proofs.Ytdnchjchgejkeaa
