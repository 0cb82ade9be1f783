/- Steps of the proof, joined from several texts: DB. -/
import Derived.Test.YtifjdiiafofnpaaDoorZ11
import Derived.Test.YtifjdiiafofnpaaDoorZ4

/- Texts of colour charts. -/
namespace Go.Proofs.YtifjdiiafofnpaaDoor
open Go Go.RowKit

def rowTo (t : ByteArray) (row : List Int) : ByteArray := row.foldl (fun t x => t ++ decT x.toNat) t
def nlT : ByteArray := ⟨#[10]⟩
def colTo (xss : List (List Int)) : ByteArray := xss.foldl (fun t row => rowTo t row ++ nlT) ⟨#[]⟩
def colText (n : Int) (xss : List (List Int)) : ByteArray := if coloursB n xss then colTo xss else ⟨#[]⟩
theorem rowTo_snoc {t : ByteArray} {row : List Int} {k : Nat} {x : Int} (h : row[k]? = some x) : rowTo t (row.take (k + 1)) = rowTo t (row.take k) ++ decT x.toNat := by
  rw [take_snoc h]; simp [rowTo]
theorem colTo_snoc {xss : List (List Int)} {k : Nat} {row : List Int} (h : xss[k]? = some row) : colTo (xss.take (k + 1)) = rowTo (colTo (xss.take k)) row ++ nlT := by
  rw [take_snoc h]; simp [colTo]
theorem rowTo_size (t : ByteArray) (row : List Int) : (rowTo t row).size ≤ t.size + 2 * row.length := by
  induction row generalizing t with
  | nil => simp [rowTo]
  | cons x row ih =>
    have h := ih (t ++ decT x.toNat)
    have h2 := decT_size x.toNat
    rw [ByteArray.size_append] at h
    have e : rowTo t (x :: row) = rowTo (t ++ decT x.toNat) row := rfl
    rw [e, List.length_cons]
    omega
theorem colTo_size {xss : List (List Int)} (h : ∀ row ∈ xss, row.length ≤ 8) : (colTo xss).size ≤ 17 * xss.length := by
  have key : ∀ (t : ByteArray) (ys : List (List Int)), (∀ row ∈ ys, row.length ≤ 8) → (ys.foldl (fun t row => rowTo t row ++ nlT) t).size ≤ t.size + 17 * ys.length := by
    intro t ys
    induction ys generalizing t with
    | nil => intro _; simp
    | cons y ys ih =>
      intro hy
      have h1 := ih (rowTo t y ++ nlT) (fun r hr => hy r (by simp [hr]))
      have h2 := rowTo_size t y
      have h3 := hy y (by simp)
      rw [ByteArray.size_append] at h1
      have e : nlT.size = 1 := rfl
      rw [List.foldl_cons, List.length_cons]
      omega
  have := key ⟨#[]⟩ xss h
  have e : (⟨#[]⟩ : ByteArray).size = 0 := rfl
  unfold colTo
  omega
theorem colours_carriers {n : Int} {xss : List (List Int)} (h : coloursB n xss = true) : ∀ row ∈ xss, row.length ≤ 8 ∧ ∀ x ∈ row, 1 ≤ x ∧ x ≤ 4 := by
  unfold coloursB at h
  simp only [Bool.and_eq_true, List.all_eq_true] at h
  intro row hr
  have h1 := inR_iff.1 h.1.1
  have h2 := h.2 row hr
  unfold rowOfB at h2
  simp only [Bool.and_eq_true, List.all_eq_true, decide_eq_true_eq] at h2
  exact ⟨by omega, fun x hx => inR_iff.1 (h2.2 x hx)⟩

set_option maxHeartbeats 2000000 in
set_option maxRecDepth 10000 in
theorem impl_ColoursText (n : Int) (xss : List (List Int)) (A : Option Addr) (c : Nat) (w : World) (h : Ints2 w A xss) (hl : xss.length ≤ 9223372036854775807) :
    Calls Tryd.prog 25 #[.agg #[.int .i64 n, .slice A xss.length c]] w fun e w' => e = .returned (.string (colText n xss)) ∧ Below w.heap.size w w' := by
  have hb1 : Below w.heap.size w (w.alloc (.cells #[.int .i64 n, .slice A xss.length c] 50)) := by (repeat (first | exact Below.refl _ _ | assumption | apply Below.drew | apply below_drewN | (refine Below.alloc ?_ (by first | omega | (simp; done) | (simp; omega)) _) | (refine Below.setCell ?_ (by first | omega | (simp; done) | (simp; omega)) _)))
  have kb := Blk.new w 50 #[.int .i64 n, .slice A xss.length c]
  cases hv : coloursB n xss
  · have HF : Hid (colText n xss = ⟨#[]⟩) := Lib.hid (by rw [colText, hv]; rfl)
    go_enter Tryd.func25, Tryd.ntmps25
    go_wp2_with (fail)
    refine (impl_ValidColours n xss A c _ (h.below hb1) hl).mono ?_; rintro e w2 ⟨rfl, b2⟩
    rw [hv]
    go_wp2_with (fail)
    go_ret
    exact ⟨by rw [HF.out]; rfl, hb1.trans (b2.mono (by simp))⟩
  · have HF : Hid (colText n xss = colTo xss) := Lib.hid (by rw [colText, hv]; rfl)
    have HC := Lib.hid (colours_carriers hv)
    have h8 : xss.length ≤ 8 := by
      unfold coloursB at hv
      simp only [Bool.and_eq_true] at hv
      have := inR_iff.1 hv.1.2
      omega
    go_enter Tryd.func25, Tryd.ntmps25
    go_wp2_with (fail)
    refine (impl_ValidColours n xss A c _ (h.below hb1) hl).mono ?_; rintro e w2 ⟨rfl, b2⟩
    have k2 := kb.below b2 (by simp)
    have hb2 : Below w.heap.size w w2 := hb1.trans (b2.mono (by simp))
    have hi2 := h.below hb2
    rw [hv]
    clear hv b2 kb hb1
    have q2 := k2.c2
    go_wp2_with (fail)
    go_loop [3, 14] (fun tv iv => ∃ i : Nat, i ≤ xss.length ∧ iv = .int .i64 i ∧ tv = .string (colTo (xss.take i))) (fun _ iv => xss.length - (intOf iv).toNat)
    case atStart => exact ⟨0, Nat.zero_le _, rfl, rfl⟩
    case round =>
      obtain ⟨i, hi, rfl, rfl⟩ := hrel
      by_cases hil : i < xss.length
      · obtain ⟨b, off, A7, c7, row, rfl, hx, hc, hir, hrl⟩ := hi2 i hil
        have hrow := HC.out row (List.mem_of_getElem? hx)
        have HS := Lib.hid (colTo_snoc hx)
        have hsz : (colTo (xss.take i)).size ≤ 136 := by
          have h1 := colTo_size (xss := xss.take i) (fun r hr => (HC.out r (List.mem_of_mem_take hr)).1)
          rw [List.length_take] at h1
          omega
        obtain ⟨hr8, hrc⟩ := hrow
        have HRC := Lib.hid hrc; clear hrc hx
        generalize colTo (xss.take i) = t0 at *
        go_wp2_with (fail)
        go_loop [3, 20] (fun tv jv => ∃ j : Nat, j ≤ row.length ∧ jv = .int .i64 j ∧ tv = .string (rowTo t0 (row.take j))) (fun _ jv => row.length - (intOf jv).toNat)
        case atStart => exact ⟨0, Nat.zero_le _, rfl, rfl⟩
        case round =>
          obtain ⟨j, hj, rfl, rfl⟩ := hrel
          have hsj : (rowTo t0 (row.take j)).size ≤ 200 := by
            have h1 := rowTo_size t0 (row.take j)
            rw [List.length_take] at h1
            omega
          by_cases hjl : j < row.length
          · obtain ⟨b', off', x, rfl, hcx, hx⟩ := hir j hjl
            have hx4 := HRC.out x (List.mem_of_getElem? hx)
            obtain ⟨m, rfl⟩ := Int.eq_ofNat_of_zero_le (show (0 : Int) ≤ x by omega)
            have HR : Hid (rowTo t0 (row.take (j + 1)) = rowTo t0 (row.take j) ++ decT m) := Lib.hid (by rw [rowTo_snoc hx]; rfl)
            have hd2 := decT_size m
            clear hx
            generalize rowTo t0 (row.take j) = t1 at *
            go_wp2_with (fail)
            refine (impl_Decimal m (by omega) _).mono ?_; rintro e _ ⟨rfl, rfl⟩
            generalize decT m = d at *
            go_wp2_with (fail)
            exact ⟨⟨j + 1, by omega, by go_num, by rw [HR.out]⟩, by simp [intOf]; omega⟩
          · have HT : Hid (row.take j = row) := Lib.hid (take_all (by omega))
            rw [HT.out] at hsj ⊢
            have HS2 : Hid (colTo (xss.take (i + 1)) = rowTo t0 row ++ nlT) := HS
            generalize rowTo t0 row = t1 at *
            go_wp2_with (fail)
            exact ⟨⟨i + 1, by omega, by go_num, by rw [HS2.out]; rfl⟩, by simp [intOf]; omega⟩
      · go_wp2_with (fail)
        go_ret
        rw [take_all (by omega)]
        exact ⟨by rw [HF.out]; rfl, hb2⟩

set_option maxHeartbeats 2000000 in
set_option maxRecDepth 10000 in
theorem spec_l19Text (g : Nat) (n : Int) (xss : List (List Int)) (A : Option Addr) (c : Nat) (w : World) (h : Ints2 w A xss) (k2 : Blk w g 50 #[.int .i64 n, .slice A xss.length c]) (h8 : xss.length ≤ 8) (hcc : ∀ row ∈ xss, row.length ≤ 8 ∧ ∀ x ∈ row, 1 ≤ x ∧ x ≤ 4) :
    Calls Tryd.prog 50 #[.pointer (some ⟨g, 0, none⟩)] w fun e w' => e = .returned (.string (colTo xss)) ∧ Below w.heap.size w w' := by
  have HC := Lib.hid hcc; clear hcc
  have hgl := k2.lt
  go_enter Tryd.func50, Tryd.ntmps50
  go_wp2_with (fail)
  go_loopw [3, 4] (fun tv iv wr => ∃ i : Nat, i ≤ xss.length ∧ iv = .int .i64 i ∧ tv = .string (colTo (xss.take i)) ∧ Below w.heap.size w wr) (fun _ iv _ => xss.length - (intOf iv).toNat)
  case atStart => exact ⟨0, Nat.zero_le _, rfl, rfl, Below.refl _ _⟩
  case round =>
    obtain ⟨i, hi, rfl, rfl, hb⟩ := hrel
    have q2 := (k2.below hb hgl).c2
    by_cases hil : i < xss.length
    · obtain ⟨b, off, A7, c7, row, hA, hx, hc, hir, hrl⟩ := h i hil
      have hrow := HC.out row (List.mem_of_getElem? hx)
      have HS := Lib.hid (colTo_snoc hx)
      have hsz : (colTo (xss.take i)).size ≤ 136 := by
        have h1 := colTo_size (xss := xss.take i) (fun r hr => (HC.out r (List.mem_of_mem_take hr)).1)
        rw [List.length_take] at h1
        omega
      obtain ⟨hr8, hrc⟩ := hrow
      have HRC := Lib.hid hrc; clear hrc hx
      subst hA
      generalize colTo (xss.take i) = t0 at *
      have j1 : (0 : Int) ≤ (i : Int) := by omega
      have j2 : (i : Int) < (xss.length : Int) := by omega
      go_wp2_with (fail)
      go_loopw [3, 5] (fun tv jv wq => ∃ j : Nat, j ≤ row.length ∧ jv = .int .i64 j ∧ tv = .string (rowTo t0 (row.take j)) ∧ Below w.heap.size w wq) (fun _ jv _ => row.length - (intOf jv).toNat)
      case atStart => exact ⟨0, Nat.zero_le _, rfl, rfl, hb⟩
      case round =>
        clear hb q2
        obtain ⟨j, hj, rfl, rfl, hb⟩ := hrel
        have q2 := (k2.below hb hgl).c2
        have qc := cells_below hb _ _ hc
        have hsj : (rowTo t0 (row.take j)).size ≤ 200 := by
          have h1 := rowTo_size t0 (row.take j)
          rw [List.length_take] at h1
          omega
        by_cases hjl : j < row.length
        · obtain ⟨b', off', x, hA', hcx, hx⟩ := hir j hjl
          have hx4 := HRC.out x (List.mem_of_getElem? hx)
          obtain ⟨m, rfl⟩ := Int.eq_ofNat_of_zero_le (show (0 : Int) ≤ x by omega)
          have HR : Hid (rowTo t0 (row.take (j + 1)) = rowTo t0 (row.take j) ++ decT m) := Lib.hid (by rw [rowTo_snoc hx]; rfl)
          have hd2 := decT_size m
          have qx := cells_below hb _ _ hcx
          clear hx
          subst hA'
          have j3 : (0 : Int) ≤ (j : Int) := by omega
          have j4 : (j : Int) < (row.length : Int) := by omega
          generalize rowTo t0 (row.take j) = t1 at *
          go_wp2_with (fail)
          refine (spec_l01Dec m (by omega) _).mono ?_; rintro e w5 ⟨rfl, b5⟩
          have hb5 := hb.trans (b5.mono hb.size)
          generalize decT m = d at *
          go_wp2_with (fail)
          exact ⟨⟨j + 1, by omega, by go_num, by rw [HR.out], hb5⟩, by simp [intOf]; omega⟩
        · have HT : Hid (row.take j = row) := Lib.hid (take_all (by omega))
          rw [HT.out] at hsj ⊢
          have HS2 : Hid (colTo (xss.take (i + 1)) = rowTo t0 row ++ nlT) := HS
          generalize rowTo t0 row = t1 at *
          have j4 : decide ((j : Int) < (row.length : Int)) = false := decide_eq_false (by omega)
          go_wp2_with (fail)
          exact ⟨⟨i + 1, by omega, by go_num, by rw [HS2.out]; rfl, hb⟩, by simp [intOf]; omega⟩
    · have j4 : decide ((i : Int) < (xss.length : Int)) = false := decide_eq_false (by omega)
      go_wp2_with (fail)
      go_ret
      rw [take_all (by omega)]
      exact ⟨rfl, hb⟩

theorem spec_ColoursText (n : Int) (xss : List (List Int)) (A : Option Addr) (c : Nat) (w : World) (h : Ints2 w A xss) (hl : xss.length ≤ 9223372036854775807) :
    Calls Tryd.prog 23 #[.agg #[.int .i64 n, .slice A xss.length c]] w fun e w' => e = .returned (.string (colText n xss)) ∧ Below w.heap.size w w' := by
  have hb1 : Below w.heap.size w (w.alloc (.cells #[.int .i64 n, .slice A xss.length c] 50)) := by (repeat (first | exact Below.refl _ _ | assumption | apply Below.drew | apply below_drewN | (refine Below.alloc ?_ (by first | omega | (simp; done) | (simp; omega)) _) | (refine Below.setCell ?_ (by first | omega | (simp; done) | (simp; omega)) _)))
  have kb := Blk.new w 50 #[.int .i64 n, .slice A xss.length c]
  cases hv : coloursB n xss
  · have HF : Hid (colText n xss = ⟨#[]⟩) := Lib.hid (by rw [colText, hv]; rfl)
    go_enter Tryd.func23, Tryd.ntmps23
    go_wp2_with (fail)
    refine (spec_l19Ok _ _ n A c xss _ (h.below hb1) hl kb.c2.1 kb.c2.2).mono ?_; rintro e w2 ⟨rfl, q, rfl⟩
    rw [hv]
    go_wp2_with (fail)
    go_ret
    exact ⟨by rw [HF.out]; rfl, below_drewN hb1 q⟩
  · have HF : Hid (colText n xss = colTo xss) := Lib.hid (by rw [colText, hv]; rfl)
    have hcc := colours_carriers hv
    have h8 : xss.length ≤ 8 := by
      have hv' := hv
      unfold coloursB at hv'
      simp only [Bool.and_eq_true] at hv'
      have := inR_iff.1 hv'.1.2
      omega
    go_enter Tryd.func23, Tryd.ntmps23
    go_wp2_with (fail)
    refine (spec_l19Ok _ _ n A c xss _ (h.below hb1) hl kb.c2.1 kb.c2.2).mono ?_; rintro e w2 ⟨rfl, q, rfl⟩
    rw [hv]
    go_wp2_with (fail)
    refine (spec_l19Text w.heap.size n xss A c _ (h.below (below_drewN hb1 q)) (kb.drewN q) h8 hcc).mono ?_; rintro e w3 ⟨rfl, b3⟩
    go_wp2_with (fail)
    go_ret
    exact ⟨by rw [HF.out]; rfl, (below_drewN hb1 q).trans (b3.mono (by simp))⟩

end Go.Proofs.YtifjdiiafofnpaaDoor
