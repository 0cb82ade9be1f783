/- Steps of the proof, joined from several texts: NP NS NM EA. -/
import Derived.Test.YtnilglkiojigjaaZ7
import Derived.Test.YtnilglkiojigjaaZ3
import Derived.Test.YtnilglkiojigjaaZ6
import Derived.Deep.RegionLaw
import Derived.Test.YtnilglkiojigjaaZ5
import Derived.RegionTactic

/- NeedOf: the plain functions. -/
namespace Go.Proofs.Ytnilglkiojigjaa
open Go.RowKit

def sumP (cnt : Bool) : List PieceD → Int → Int
  | [], acc => acc
  | p :: r, acc =>
    if p.kind = 12 then sumP cnt (r.drop p.len.toNat) (wrap64 (acc + wrap64 (p.times * sumP cnt (r.take p.len.toNat) 0)))
    else sumP cnt r (wrap64 (acc + (if cnt then p.times else wrap64 (p.times * takenB p.kind))))
termination_by l => l.length
decreasing_by all_goals (simp; try omega)
def openP (cnt : Bool) : List PieceD → Int → Int
  | [], o => o
  | p :: r, o => if p.kind = 12 then openP cnt (r.drop p.len.toNat) (if p.times = 0 then sumP cnt (r.take p.len.toNat) 0 else o) else openP cnt r o
termination_by l => l.length
decreasing_by all_goals (simp; try omega)
def openPart : List PieceD → List PieceD
  | [] => []
  | p :: r => if p.kind = 12 ∧ p.times = 0 then r.take p.len.toNat else openPart r
abbrev Good (d : Nat) (l : List PieceD) : Prop := (rangeP d l).isSome = true
theorem sumP_nil (cnt : Bool) (acc : Int) : sumP cnt [] acc = acc := by rw [sumP]
theorem sumP_group {cnt : Bool} {p : PieceD} {r : List PieceD} (h : p.kind = 12) (acc : Int) : sumP cnt (p :: r) acc = sumP cnt (r.drop p.len.toNat) (wrap64 (acc + wrap64 (p.times * sumP cnt (r.take p.len.toNat) 0))) := by rw [sumP, if_pos h]
theorem sumP_plain {cnt : Bool} {p : PieceD} {r : List PieceD} (h : p.kind ≠ 12) (acc : Int) : sumP cnt (p :: r) acc = sumP cnt r (wrap64 (acc + (if cnt then p.times else wrap64 (p.times * takenB p.kind)))) := by rw [sumP, if_neg h]
theorem openP_nil (cnt : Bool) (o : Int) : openP cnt [] o = o := by rw [openP]
theorem openP_group {cnt : Bool} {p : PieceD} {r : List PieceD} (h : p.kind = 12) (o : Int) : openP cnt (p :: r) o = openP cnt (r.drop p.len.toNat) (if p.times = 0 then sumP cnt (r.take p.len.toNat) 0 else o) := by rw [openP, if_pos h]
theorem openP_plain {cnt : Bool} {p : PieceD} {r : List PieceD} (h : p.kind ≠ 12) (o : Int) : openP cnt (p :: r) o = openP cnt r o := by rw [openP, if_neg h]
theorem good_plain {d : Nat} {p : PieceD} {r : List PieceD} (h : Good d (p :: r)) (hk : p.kind ≠ 12) : plainP p = true ∧ Good d r := by
  unfold Good at h
  rw [rangeP, if_neg hk] at h
  split at h
  · exact ⟨by assumption, h⟩
  · cases h
theorem good_group {d : Nat} {p : PieceD} {r : List PieceD} (h : Good d (p :: r)) (hk : p.kind = 12) : d < 3 ∧ 1 ≤ p.len ∧ p.len ≤ r.length ∧ 0 ≤ p.times ∧ p.times ≤ 16 ∧ (0 < d → p.times ≠ 0) ∧ Good (d + 1) (r.take p.len.toNat) ∧ Good d (r.drop p.len.toNat) := by
  unfold Good at h ⊢
  rw [rangeP, if_pos hk] at h
  split at h
  · rename_i hg
    have h2 := hg.2
    unfold groupP at h2
    simp only [Bool.and_eq_true, Bool.not_eq_true', Bool.and_eq_false_iff, decide_eq_false_iff_not] at h2
    have h3 := inR_iff.1 h2.1.1
    have h4 := inR_iff.1 h2.2
    split at h
    · cases h
    · rename_i e
      rw [Option.isSome_map] at h
      exact ⟨hg.1, h4.1, h4.2, h3.1, h3.2, fun hd ht => by rcases h2.1.2 with h5 | h5 <;> omega, by rw [e]; rfl, h⟩
  · cases h
theorem good_deep (n d : Nat) (hd : 0 < d) : ∀ l : List PieceD, l.length ≤ n → Good d l → ∀ p ∈ l, ¬ (p.kind = 12 ∧ p.times = 0) := by
  induction n generalizing d with
  | zero => intro l hl _ p hp; have : l = [] := by cases l <;> simp_all
            subst this; simp at hp
  | succ n ih =>
    intro l hl h p hp
    cases l with
    | nil => simp at hp
    | cons q r =>
      simp only [List.length_cons] at hl
      by_cases hk : q.kind = 12
      · obtain ⟨_, h1, h2, _, _, h3, h4, h5⟩ := good_group h hk
        rcases List.mem_cons.1 hp with rfl | hp
        · exact fun e => h3 hd e.2
        · rw [← List.take_append_drop q.len.toNat r] at hp
          rcases List.mem_append.1 hp with hp | hp
          · exact ih (d + 1) (by omega) _ (by simp; omega) h4 p hp
          · exact ih d hd _ (by simp; omega) h5 p hp
      · rcases List.mem_cons.1 hp with rfl | hp
        · exact fun e => hk e.1
        · exact ih d hd _ (by omega) (good_plain h hk).2 p hp
theorem openPart_skip {a b : List PieceD} (h : ∀ p ∈ a, ¬ (p.kind = 12 ∧ p.times = 0)) : openPart (a ++ b) = openPart b := by
  induction a with
  | nil => rfl
  | cons p a ih =>
    rw [List.cons_append, openPart, if_neg (h p (by simp)), ih fun q hq => h q (by simp [hq])]
theorem openP_zero (cnt : Bool) (d n : Nat) : ∀ (l : List PieceD) (o : Int), l.length ≤ n → rangeP d l = some 0 → openP cnt l o = o := by
  induction n with
  | zero => intro l o hl _; have : l = [] := by cases l <;> simp_all
            subst this; exact openP_nil _ _
  | succ n ih =>
    intro l o hl h
    cases l with
    | nil => exact openP_nil _ _
    | cons p r =>
      simp only [List.length_cons] at hl
      by_cases hk : p.kind = 12
      · have hg : Good d (p :: r) := by unfold Good; rw [h]; rfl
        obtain ⟨h0, _, _, _, _, _, h4, h5⟩ := good_group hg hk
        have h6 := h
        rw [rangeP, if_pos hk] at h6
        split at h6
        · split at h6
          · cases h6
          · rw [Option.map_eq_some_iff] at h6
            obtain ⟨o', ho', e⟩ := h6
            have ht : p.times ≠ 0 := by intro ht; rw [if_pos ht] at e; omega
            rw [if_neg ht] at e
            rw [openP_group hk, if_neg ht]
            exact ih _ _ (by simp; omega) (by rw [ho']; congr 1; omega)
        · cases h6
      · rw [openP_plain hk]
        rw [rangeP, if_neg hk] at h
        split at h
        · exact ih _ _ (by omega) h
        · cases h
theorem openP_part (cnt : Bool) (n : Nat) : ∀ l : List PieceD, l.length ≤ n → okP (rangeP 0 l) = true → openP cnt l 0 = sumP cnt (openPart l) 0 := by
  induction n with
  | zero => intro l hl _; have : l = [] := by cases l <;> simp_all
            subst this; rw [openP_nil, openPart, sumP_nil]
  | succ n ih =>
    intro l hl h
    cases l with
    | nil => rw [openP_nil, openPart, sumP_nil]
    | cons p r =>
      simp only [List.length_cons] at hl
      have hg : Good 0 (p :: r) := by
        unfold Good
        cases e : rangeP 0 (p :: r) with
        | none => rw [e] at h; cases h
        | some o => rfl
      by_cases hk : p.kind = 12
      · obtain ⟨h0, _, _, _, _, _, h4, h5⟩ := good_group hg hk
        have h6 := h
        rw [rangeP, if_pos hk] at h6
        split at h6
        · split at h6
          · cases h6
          · cases ho : rangeP 0 (r.drop p.len.toNat) with
            | none => rw [ho] at h6; cases h6
            | some o =>
              rw [ho] at h6
              have h7 : (if p.times = 0 then 1 else 0) + o ≤ 1 := of_decide_eq_true h6
              rw [openP_group hk]
              by_cases ht : p.times = 0
              · rw [if_pos ht] at h7 ⊢
                rw [openP_zero cnt 0 n _ _ (by simp; omega) (by rw [ho]; congr 1; omega), openPart, if_pos ⟨hk, ht⟩]
              · rw [if_neg ht] at h7 ⊢
                rw [openPart, if_neg (fun e => ht e.2)]
                have e2 := openPart_skip (b := r.drop p.len.toNat) (good_deep r.length 1 (by omega) (r.take p.len.toNat) (by simp; omega) h4)
                rw [List.take_append_drop] at e2
                rw [e2]
                exact ih _ (by simp; omega) (by rw [ho]; exact decide_eq_true (by omega))
        · cases h6
      · rw [openP_plain hk, openPart, if_neg (fun e => hk e.1)]
        rw [rangeP, if_neg hk] at h
        split at h
        · exact ih _ (by omega) h
        · cases h
theorem openPart_good (n : Nat) : ∀ l : List PieceD, l.length ≤ n → Good 0 l → ∃ d, Good d (openPart l) := by
  induction n with
  | zero => intro l hl _; have : l = [] := by cases l <;> simp_all
            subst this; exact ⟨0, by rw [openPart]; unfold Good; rw [rangeP_nil]; rfl⟩
  | succ n ih =>
    intro l hl h
    cases l with
    | nil => exact ⟨0, by rw [openPart]; unfold Good; rw [rangeP_nil]; rfl⟩
    | cons p r =>
      simp only [List.length_cons] at hl
      by_cases hk : p.kind = 12
      · obtain ⟨h0, _, _, _, _, _, h4, h5⟩ := good_group h hk
        by_cases ht : p.times = 0
        · rw [openPart, if_pos ⟨hk, ht⟩]; exact ⟨1, h4⟩
        · rw [openPart, if_neg (fun e => ht e.2)]
          have e2 := openPart_skip (b := r.drop p.len.toNat) (good_deep r.length 1 (by omega) (r.take p.len.toNat) (by simp; omega) h4)
          rw [List.take_append_drop] at e2
          rw [e2]
          exact ih _ (by simp; omega) h5
      · rw [openPart, if_neg (fun e => hk e.1)]
        exact ih _ (by omega) (good_plain h hk).2
/-- From k on: the list is good at this depth. -/
theorem good_at_plain {d k : Nat} {ps : List PieceD} {p : PieceD} (h : Good d (ps.drop k)) (hp : ps[k]? = some p) (hk : p.kind ≠ 12) : plainP p = true ∧ Good d (ps.drop (k + 1)) := by
  rw [drop_cons hp] at h; exact good_plain h hk
theorem good_at_group {d k : Nat} {ps : List PieceD} {p : PieceD} (h : Good d (ps.drop k)) (hp : ps[k]? = some p) (hk : p.kind = 12) : ∃ n : Nat, p.len = (n : Int) ∧ 1 ≤ n ∧ k + 1 + n ≤ ps.length ∧ d < 3 ∧ (0 < d → p.times ≠ 0) ∧ 0 ≤ p.times ∧ p.times ≤ 16 ∧ Good (d + 1) (segP ps (k + 1) (k + 1 + n)) ∧ Good d (ps.drop (k + 1 + n)) ∧
    (∀ cnt acc, sumP cnt (ps.drop k) acc = sumP cnt (ps.drop (k + 1 + n)) (wrap64 (acc + wrap64 (p.times * sumP cnt (segP ps (k + 1) (k + 1 + n)) 0)))) ∧ (∀ cnt o, openP cnt (ps.drop k) o = openP cnt (ps.drop (k + 1 + n)) (if p.times = 0 then sumP cnt (segP ps (k + 1) (k + 1 + n)) 0 else o)) := by
  rw [drop_cons hp] at h
  have hkl := (List.getElem?_eq_some_iff.1 hp).1
  obtain ⟨h0, h1, h2, h3, h4, h5, h6, h7⟩ := good_group h hk
  rw [List.length_drop] at h2
  have e1 : (ps.drop (k + 1)).take p.len.toNat = segP ps (k + 1) (k + 1 + p.len.toNat) := by unfold segP; congr 1; omega
  have e2 : (ps.drop (k + 1)).drop p.len.toNat = ps.drop (k + 1 + p.len.toNat) := by rw [List.drop_drop]
  rw [e1] at h6
  rw [e2] at h7
  refine ⟨p.len.toNat, by omega, by omega, by omega, h0, h5, h3, h4, h6, h7, fun cnt acc => ?_, fun cnt o => ?_⟩
  · rw [drop_cons hp, sumP_group hk, e1, e2]
  · rw [drop_cons hp, openP_group hk, e1, e2]
theorem sum_at_plain {k : Nat} {ps : List PieceD} {p : PieceD} (hp : ps[k]? = some p) (hk : p.kind ≠ 12) (cnt : Bool) (acc : Int) : sumP cnt (ps.drop k) acc = sumP cnt (ps.drop (k + 1)) (wrap64 (acc + (if cnt then p.times else wrap64 (p.times * takenB p.kind)))) := by
  rw [drop_cons hp, sumP_plain hk]

end Go.Proofs.Ytnilglkiojigjaa

/- NeedOf, the given side. -/
namespace Go.Proofs.Ytnilglkiojigjaa
open Go.RowKit

theorem good_bound (n : Nat) : ∀ (d : Nat) (l : List PieceD), l.length ≤ n → Good d l → ∀ (k : Nat) (p : PieceD), l[k]? = some p → p.kind = 12 → 1 ≤ p.len ∧ (k : Int) + 1 + p.len ≤ l.length := by
  induction n with
  | zero => intro d l hl _ k p hp; have : l = [] := by cases l <;> simp_all
            subst this; simp at hp
  | succ n ih =>
    intro d l hl h k p hp hk
    cases l with
    | nil => simp at hp
    | cons q r =>
      simp only [List.length_cons] at hl ⊢
      by_cases hq : q.kind = 12
      · obtain ⟨_, h1, h2, _, _, h3, h4, h5⟩ := good_group h hq
        cases k with
        | zero => simp at hp; subst hp; omega
        | succ k =>
          simp only [List.getElem?_cons_succ] at hp
          by_cases hkn : k < q.len.toNat
          · have := ih (d + 1) (r.take q.len.toNat) (by simp; omega) h4 k p (by rw [List.getElem?_take_of_lt hkn]; exact hp) hk
            have hl2 : (r.take q.len.toNat).length ≤ r.length := by simp; omega
            omega
          · have := ih d (r.drop q.len.toNat) (by simp; omega) h5 (k - q.len.toNat) p (by rw [List.getElem?_drop, show q.len.toNat + (k - q.len.toNat) = k by omega]; exact hp) hk
            have hl2 : (r.drop q.len.toNat).length = r.length - q.len.toNat := by simp
            omega
      · cases k with
        | zero => simp at hp; subst hp; exact absurd hk hq
        | succ k =>
          have := ih d r (by omega) (good_plain h hq).2 k p (by simpa using hp) hk
          omega

set_option maxHeartbeats 4000000 in
set_option maxRecDepth 10000 in
theorem spec_l16Sum (cnt : Bool) (m : Nat) : ∀ (ps : List PieceD) (A : Option Addr) (c d : Nat) (w : World), ps.length ≤ m → ps.length ≤ 1000 → ps.length ≤ c → c ≤ 9223372036854775807 → Pieces w A ps → Good d ps →
    Calls Try.prog 79 #[.slice A ps.length c, .bool cnt] w fun e w' => e = .returned (.int .i64 (sumP cnt ps 0)) ∧ Below w.heap.size w w' := by
  induction m using Nat.strongRecOn with
  | ind m ih =>
  intro ps A c d w hm hl hc hcm h hg
  have IH := Lib.hid ih; clear ih
  go_enter Try.func79, Try.ntmps79
  go_wp2_with (fail)
  go_loopw [5, 6] (fun ov iv wr => ∃ (k : Nat) (acc : Int), k ≤ ps.length ∧ ov = .int .i64 acc ∧ iv = .int .i64 k ∧ Hid (sumP cnt ps 0 = sumP cnt (ps.drop k) acc) ∧ Hid (Good d (ps.drop k)) ∧ Below w.heap.size w wr) (fun _ iv _ => ps.length - (intOf iv).toNat)
  case atStart => exact ⟨0, 0, Nat.zero_le _, rfl, rfl, Lib.hid rfl, Lib.hid hg, Below.refl _ _⟩
  case round =>
    obtain ⟨k, acc, hk, rfl, rfl, HS, HG, hb⟩ := hrel
    have hz := hb.size
    by_cases hlt : k < ps.length
    · obtain ⟨b1, off, p, rfl, hp, p0, p1, p2⟩ := (h.below hb) k hlt
      have HP := Lib.hid hp; clear hp
      have j1 : (0 : Int) ≤ (k : Int) := by omega
      have j2 : (k : Int) < (ps.length : Int) := by omega
      by_cases hk12 : p.kind = 12
      · have hk' : (p.kind == 12) = true := by simp [hk12]
        obtain ⟨n, hnl, hn1, hn2, _, _, _, _, hg2, hg3, hs2, _⟩ := good_at_group HG.out HP.out hk12
        have HS2 : Hid (sumP cnt (ps.drop k) acc = sumP cnt (ps.drop (k + 1 + n)) (wrap64 (acc + wrap64 (p.times * sumP cnt (segP ps (k + 1) (k + 1 + n)) 0)))) := Lib.hid (hs2 cnt acc)
        have HG3 := Lib.hid hg3; clear hg3 hs2
        rw [hnl] at p2
        have i1 : (k : Int) + 1 ≤ (k : Int) + 1 + (n : Int) := by omega
        have i2 : (k : Int) + 1 + (n : Int) ≤ (c : Int) := by omega
        have w1 : IntKind.i64.wrap ((k : Int) + 1) = (k : Int) + 1 := IntWalk.i64_in _ (by omega)
        have w2 : IntKind.i64.wrap ((k : Int) + 1 + (n : Int)) = (k : Int) + 1 + (n : Int) := IntWalk.i64_in _ (by omega)
        have w3 : ((k : Int) + 1).toNat = k + 1 := by omega
        have w4 : ((k : Int) + 1 + (n : Int)).toNat = k + 1 + n := by omega
        have w5 : (0 : Int) ≤ (k : Int) + 1 := by omega
        have w6 : (0 : Int) ≤ (k : Int) + 1 + (n : Int) := by omega
        have w7 : (k : Int) + 1 ≤ max ((k : Int) + 1 + (n : Int)) 0 := by omega
        have w8 : ¬ c = k + 1 := by omega
        have w9 : k + 1 + n - (k + 1) = n := by omega
        have hsl : (segP ps (k + 1) (k + 1 + n)).length = n := by rw [segP_length hn2]; omega
        have HIC : Hid (∀ (W : World), Below w.heap.size w W → Calls Try.prog 79 #[.slice (some ⟨b1, off + (k + 1) * 3, none⟩) n (c - (k + 1)), .bool cnt] W fun e w' => e = .returned (.int .i64 (sumP cnt (segP ps (k + 1) (k + 1 + n)) 0)) ∧ Below W.heap.size W w') := Lib.hid (fun W hW => by
          have := IH.out n (by omega) (segP ps (k + 1) (k + 1 + n)) (some ⟨b1, off + (k + 1) * 3, none⟩) (c - (k + 1)) (d + 1) W (by rw [hsl]; exact Nat.le_refl _) (by rw [hsl]; omega) (by rw [hsl]; omega) (by omega) ((Pieces.seg h hn2).below hW) hg2
          rwa [hsl] at this)
        clear hsl hg2 hnl hk12
        have hba : Below w.heap.size w (wr.alloc (.cells #[.int .i64 p.kind, .int .i64 p.times, .int .i64 (n : Int)] 107)) := by (repeat (first | exact Below.refl _ _ | assumption | apply Below.drew | apply below_drewN | (refine Below.alloc ?_ (by first | omega | (simp; done) | (simp; omega)) _) | (refine Below.setCell ?_ (by first | omega | (simp; done) | (simp; omega)) _)))
        obtain ⟨u0, u1, u2⟩ := (Blk.new wr 107 #[.int .i64 p.kind, .int .i64 p.times, .int .i64 (n : Int)]).c3
        go_wp2_with (fail)
        go_region_law (go_simp; go_at_call 79; refine (HIC.out _ (Below.drew2 hba)).mono ?_; rintro e w2 ⟨rfl, b2'⟩; have b2 := undrew b2'; obtain ⟨v0, v1, v2⟩ := ((Blk.new wr 107 #[.int .i64 p.kind, .int .i64 p.times, .int .i64 (n : Int)]).below b2 (by simp)).c3)
        all_goals go_wp2_with (fail)
        all_goals
          simp only [World.size_alloc] at b2
          have hb2 : Below w.heap.size w w2 := hba.trans (b2.mono (by omega))
          refine ⟨⟨k + 1 + n, wrap64 (acc + wrap64 (p.times * sumP cnt (segP ps (k + 1) (k + 1 + n)) 0)), by omega, rfl, by go_num, Lib.hid (by rw [HS.out, HS2.out]), Lib.hid HG3.out, hb2⟩, by simp [intOf]; omega⟩
      · have hk' : (p.kind == 12) = false := by simp [hk12]
        obtain ⟨_, hg2⟩ := good_at_plain HG.out HP.out hk12
        have HG2 := Lib.hid hg2; clear hg2
        have HS2 := Lib.hid (sum_at_plain HP.out hk12 cnt acc)
        clear hk12
        have hba : Below w.heap.size w (wr.alloc (.cells #[.int .i64 p.kind, .int .i64 p.times, .int .i64 p.len] 107)) := by (repeat (first | exact Below.refl _ _ | assumption | apply Below.drew | apply below_drewN | (refine Below.alloc ?_ (by first | omega | (simp; done) | (simp; omega)) _) | (refine Below.setCell ?_ (by first | omega | (simp; done) | (simp; omega)) _)))
        obtain ⟨u0, u1, u2⟩ := (Blk.new wr 107 #[.int .i64 p.kind, .int .i64 p.times, .int .i64 p.len]).c3
        cases cnt
        · go_wp2_with (fail)
          go_region_law (go_simp; go_at_call 136; refine (spec_ColumnsTaken _ _).mono ?_; rintro e w2 ⟨rfl, b2'⟩; have b2 := undrew b2'; obtain ⟨v0, v1, v2⟩ := ((Blk.new wr 107 #[.int .i64 p.kind, .int .i64 p.times, .int .i64 p.len]).below b2 (by simp)).c3)
          all_goals go_wp2_with (fail)
          all_goals
            simp only [World.size_alloc] at b2
            have hb2 : Below w.heap.size w w2 := hba.trans (b2.mono (by omega))
            refine ⟨⟨k + 1, wrap64 (acc + wrap64 (p.times * takenB p.kind)), by omega, rfl, by go_num, Lib.hid (by rw [HS.out, HS2.out]; rfl), Lib.hid HG2.out, hb2⟩, by simp [intOf]; omega⟩
        · go_wp2_with (fail)
          go_roundw
          case rel => exact ⟨k + 1, wrap64 (acc + p.times), by omega, rfl, by go_num, Lib.hid (by rw [HS.out, HS2.out]; rfl), Lib.hid HG2.out, hba⟩
          case measure => simp [intOf]; omega
    · have he := HS.out
      rw [drop_all (by omega), sumP_nil] at he
      go_wp2_with (fail)
      go_ret
      exact ⟨by rw [he]; rfl, hb⟩

set_option maxHeartbeats 4000000 in
theorem spec_l16Open (ps : List PieceD) (A : Option Addr) (c : Nat) (w : World) (_hl : ps.length ≤ 1000) (hc : ps.length ≤ c) (hcm : c ≤ 9223372036854775807) (h : Pieces w A ps) (hg : Good 0 ps) :
    Calls Try.prog 78 #[.slice A ps.length c] w fun e w' => (∃ A' c' ok, e = .returned (.tuple #[.slice A' (openPart ps).length c', .bool ok]) ∧ Pieces w A' (openPart ps) ∧ (openPart ps).length ≤ c' ∧ c' ≤ 9223372036854775807) ∧ w = w' := by
  have HB : Hid (∀ (k : Nat) (p : PieceD), ps[k]? = some p → p.kind = 12 → 1 ≤ p.len ∧ (k : Int) + 1 + p.len ≤ ps.length) := Lib.hid (good_bound ps.length 0 ps (Nat.le_refl _) hg)
  go_enter Try.func78, Try.ntmps78
  go_wp2_with (fail)
  go_loopw [4] (fun iv wr => ∃ (k : Nat), k ≤ ps.length ∧ iv = .int .i64 k ∧ Hid (openPart ps = openPart (ps.drop k)) ∧ w = wr) (fun iv _ => ps.length - (intOf iv).toNat)
  case atStart => exact ⟨0, Nat.zero_le _, rfl, Lib.hid rfl, rfl⟩
  case round =>
    obtain ⟨k, hk, rfl, HO, rfl⟩ := hrel
    by_cases hlt : k < ps.length
    · obtain ⟨b1, off, p, rfl, hp, p0, p1, p2⟩ := h k hlt
      have HP := Lib.hid hp; clear hp
      have j1 : (0 : Int) ≤ (k : Int) := by omega
      have j2 : (k : Int) < (ps.length : Int) := by omega
      by_cases hk12 : p.kind = 12
      · have hk' : (p.kind == 12) = true := by simp [hk12]
        by_cases ht : p.times = 0
        · have ht' : (p.times == 0) = true := by simp [ht]
          obtain ⟨h1, h2⟩ := HB.out k p HP.out hk12
          obtain ⟨n, hnl⟩ : ∃ n : Nat, p.len = (n : Int) := ⟨p.len.toNat, by omega⟩
          have HE : Hid (openPart ps = segP ps (k + 1) (k + 1 + n)) := Lib.hid (by
            rw [HO.out, drop_cons HP.out, openPart, if_pos ⟨hk12, ht⟩, hnl]
            unfold segP
            congr 1
            simp)
          rw [hnl] at p2 h1 h2
          clear hnl hk12 ht
          have hsl : Hid ((segP ps (k + 1) (k + 1 + n)).length = n) := Lib.hid (by rw [segP_length (by omega)]; omega)
          have i1 : (k : Int) + 1 ≤ (k : Int) + 1 + (n : Int) := by omega
          have i2 : (k : Int) + 1 + (n : Int) ≤ (c : Int) := by omega
          have w9 : k + 1 + n - (k + 1) = n := by omega
          have HSEG : Hid (Pieces w (some ⟨b1, off + (k + 1) * 3, none⟩) (segP ps (k + 1) (k + 1 + n))) := Lib.hid (Pieces.seg h (by omega))
          go_wp2_with (fail)
          go_ret2
          rw [HE.out]
          exact ⟨⟨_, c - (k + 1), true, by rw [hsl.out]; first | rfl | (rw [w9]; rfl), HSEG.out, by rw [hsl.out]; omega, by omega⟩, rfl⟩
        · have ht' : (p.times == 0) = false := by simp [ht]
          have HE : Hid (openPart ps = openPart (ps.drop (k + 1))) := Lib.hid (by rw [HO.out, drop_cons HP.out, openPart, if_neg (fun e => ht e.2)])
          clear hk12 ht
          go_wp2_with (fail)
          go_roundw
          case rel => exact ⟨k + 1, by omega, by go_num, HE, trivial⟩
          case measure => simp [intOf]; omega
      · have hk' : (p.kind == 12) = false := by simp [hk12]
        have HE : Hid (openPart ps = openPart (ps.drop (k + 1))) := Lib.hid (by rw [HO.out, drop_cons HP.out, openPart, if_neg (fun e => hk12 e.1)])
        clear hk12
        go_wp2_with (fail)
        go_roundw
        case rel => exact ⟨k + 1, by omega, by go_num, HE, trivial⟩
        case measure => simp [intOf]; omega
    · have he := HO.out
      rw [drop_all (by omega), openPart] at he
      have HE := Lib.hid he; clear he
      go_wp2_with (fail)
      go_ret2
      rw [HE.out]
      exact ⟨⟨none, 0, false, rfl, Pieces.nil, by simp, by omega⟩, rfl⟩

end Go.Proofs.Ytnilglkiojigjaa

/- measure, eachPiece and the closure between them. -/
namespace Go.Proofs.Ytnilglkiojigjaa
open Go.RowKit

/-- The four sums that measure keeps in boxes. -/
structure Boxes (w : World) (g : Nat) (C S O1 O2 : Int) : Prop where
  b0 : Blk w g 2 #[.int .i64 C]
  b1 : Blk w (g + 1) 2 #[.int .i64 S]
  b2 : Blk w (g + 2) 2 #[.int .i64 O1]
  b3 : Blk w (g + 3) 2 #[.int .i64 O2]
set_option maxHeartbeats 2000000 in
theorem measure1_plain (p : PieceD) (A' : Option Addr) (n c' g : Nat) (C S O1 O2 : Int) (w : World) (hb : Boxes w g C S O1 O2) (hk : p.kind ≠ 12) :
    Calls Try.prog 139 #[.agg #[.int .i64 p.kind, .int .i64 p.times, .int .i64 p.len], .slice A' n c', .pointer (some ⟨g, 0, none⟩), .pointer (some ⟨g + 1, 0, none⟩), .pointer (some ⟨g + 2, 0, none⟩), .pointer (some ⟨g + 3, 0, none⟩)] w fun e w' =>
      e = .returned (.tuple #[]) ∧ Boxes w' g (wrap64 (C + wrap64 (p.times * takenB p.kind))) (wrap64 (S + p.times)) O1 O2 ∧ Below g w w' := by
  have hk' : (p.kind != 12) = true := by simp [hk]
  obtain ⟨h0, h1, h2, h3⟩ := hb
  have l3 := h3.lt
  have hba : Below g w (w.alloc (.cells #[.int .i64 p.kind, .int .i64 p.times, .int .i64 p.len] 107)) := (Below.refl _ _).alloc (by omega) _
  have k0 := h0.alloc (.cells #[.int .i64 p.kind, .int .i64 p.times, .int .i64 p.len] 107)
  have k1 := h1.alloc (.cells #[.int .i64 p.kind, .int .i64 p.times, .int .i64 p.len] 107)
  have k2 := h2.alloc (.cells #[.int .i64 p.kind, .int .i64 p.times, .int .i64 p.len] 107)
  have k3 := h3.alloc (.cells #[.int .i64 p.kind, .int .i64 p.times, .int .i64 p.len] 107)
  have kp := Blk.new w 107 #[.int .i64 p.kind, .int .i64 p.times, .int .i64 p.len]
  obtain ⟨u0, u1, u2⟩ := kp.c3
  have c0 := k0.c1
  have f0 := k0.frozen 0
  have c1 := k1.c1
  have f1 := k1.frozen 0
  have n1 : w.heap.size ≠ g := by omega
  have n2 : g + 1 ≠ g := by omega
  clear hk
  go_enter Try.func139, Try.ntmps139
  go_wp2_with (fail)
  go_region_law (go_simp; go_at_call 140; refine (impl_ColumnsTaken _ _).mono ?_; rintro e _ ⟨rfl, rfl⟩)
  all_goals
    have m1 := k1.far (p := ⟨g, 0, none⟩) (by show g + 1 ≠ g; omega) (.int .i64 (wrap64 (C + wrap64 (p.times * takenB p.kind))))
    have mp := kp.far (p := ⟨g, 0, none⟩) (by show w.heap.size ≠ g; omega) (.int .i64 (wrap64 (C + wrap64 (p.times * takenB p.kind))))
    obtain ⟨v0, v1, v2⟩ := mp.c3
    have d1 := m1.c1
    have e1 := m1.frozen 0
    go_wp2_with (fail)
  all_goals
    refine bodyPost_ret (results_none rfl _ _ _) rfl ?_
    refine ⟨rfl, ⟨?_, ?_, ?_, ?_⟩, ?_⟩
    · exact ((k0.set1 (.int .i64 (wrap64 (C + wrap64 (p.times * takenB p.kind))))).far (by show g ≠ g + 1; omega) _)
    · exact m1.set1 _
    · exact (k2.far (by show g + 2 ≠ g; omega) _).far (by show g + 2 ≠ g + 1; omega) _
    · exact (k3.far (by show g + 3 ≠ g; omega) _).far (by show g + 3 ≠ g + 1; omega) _
    · (repeat (first | exact Below.refl _ _ | assumption | apply Below.drew | apply below_drewN | (refine Below.alloc ?_ (by first | omega | (simp; done) | (simp; omega)) _) | (refine Below.setCell ?_ (by first | omega | (simp; done) | (simp; omega)) _)))
set_option maxHeartbeats 2000000 in
theorem measure1_group (p : PieceD) (qs : List PieceD) (A' : Option Addr) (c' g : Nat) (C S O1 O2 : Int) (w : World) (hb : Boxes w g C S O1 O2) (hk : p.kind = 12)
    (HM : Hid (∀ W, Below w.heap.size w W → Calls Try.prog 84 #[.slice A' qs.length c'] W fun e w' => e = .returned (.tuple #[.int .i64 (sumP false qs 0), .int .i64 (sumP true qs 0), .int .i64 (openP false qs 0), .int .i64 (openP true qs 0)]) ∧ Below W.heap.size W w')) :
    Calls Try.prog 139 #[.agg #[.int .i64 p.kind, .int .i64 p.times, .int .i64 p.len], .slice A' qs.length c', .pointer (some ⟨g, 0, none⟩), .pointer (some ⟨g + 1, 0, none⟩), .pointer (some ⟨g + 2, 0, none⟩), .pointer (some ⟨g + 3, 0, none⟩)] w fun e w' =>
      e = .returned (.tuple #[]) ∧ Boxes w' g (wrap64 (C + wrap64 (p.times * sumP false qs 0))) (wrap64 (S + wrap64 (p.times * sumP true qs 0))) (if p.times = 0 then sumP false qs 0 else O1) (if p.times = 0 then sumP true qs 0 else O2) ∧ Below g w w' := by
  have hk' : (p.kind != 12) = false := by simp [hk]
  obtain ⟨h0, h1, h2, h3⟩ := hb
  have l3 := h3.lt
  have hba : Below w.heap.size w (w.alloc (.cells #[.int .i64 p.kind, .int .i64 p.times, .int .i64 p.len] 107)) := by (repeat (first | exact Below.refl _ _ | assumption | apply Below.drew | apply below_drewN | (refine Below.alloc ?_ (by first | omega | (simp; done) | (simp; omega)) _) | (refine Below.setCell ?_ (by first | omega | (simp; done) | (simp; omega)) _)))
  have hbg : Below g w (w.alloc (.cells #[.int .i64 p.kind, .int .i64 p.times, .int .i64 p.len] 107)) := (Below.refl _ _).alloc (by omega) _
  have k0 := h0.alloc (.cells #[.int .i64 p.kind, .int .i64 p.times, .int .i64 p.len] 107)
  have k1 := h1.alloc (.cells #[.int .i64 p.kind, .int .i64 p.times, .int .i64 p.len] 107)
  have k2 := h2.alloc (.cells #[.int .i64 p.kind, .int .i64 p.times, .int .i64 p.len] 107)
  have k3 := h3.alloc (.cells #[.int .i64 p.kind, .int .i64 p.times, .int .i64 p.len] 107)
  have kp := Blk.new w 107 #[.int .i64 p.kind, .int .i64 p.times, .int .i64 p.len]
  obtain ⟨u0, u1, u2⟩ := kp.c3
  clear hk
  generalize hX : sumP false qs 0 = X at HM ⊢
  generalize hY : sumP true qs 0 = Y at HM ⊢
  clear hX hY
  obtain ⟨Z1, hZ1⟩ : ∃ Z, Z = if p.times = 0 then X else O1 := ⟨_, rfl⟩
  obtain ⟨Z2, hZ2⟩ : ∃ Z, Z = if p.times = 0 then Y else O2 := ⟨_, rfl⟩
  rw [← hZ1, ← hZ2]
  have HZ := Lib.hid (And.intro hZ1 hZ2); clear hZ1 hZ2
  go_enter Try.func139, Try.ntmps139
  go_wp2_with (fail)
  refine (HM.out _ hba).mono ?_; rintro e w2 ⟨rfl, b2⟩
  simp only [World.size_alloc] at b2
  have m0 := k0.below b2 (by omega)
  have m1 := k1.below b2 (by omega)
  have m2 := k2.below b2 (by omega)
  have m3 := k3.below b2 (by omega)
  have mp := kp.below b2 (by omega)
  have hb2 : Below g w w2 := hbg.trans (b2.mono (by omega))
  have z2 := b2.size
  simp only [World.size_alloc] at z2
  clear u0 u1 u2 k0 k1 k2 k3 kp hba hbg b2
  have c0 := m0.c1
  have f0 := m0.frozen 0
  obtain ⟨v0, v1, v2⟩ := mp.c3
  have n1 := m1.far (p := ⟨g, 0, none⟩) (by show g + 1 ≠ g; omega) (.int .i64 (wrap64 (C + wrap64 (p.times * X))))
  have np := mp.far (p := ⟨g, 0, none⟩) (by show w.heap.size ≠ g; omega) (.int .i64 (wrap64 (C + wrap64 (p.times * X))))
  have np2 := np.far (p := ⟨g + 1, 0, none⟩) (by show w.heap.size ≠ g + 1; omega) (.int .i64 (wrap64 (S + wrap64 (p.times * Y))))
  obtain ⟨x0, x1, x2⟩ := np.c3
  obtain ⟨y0, y1, y2⟩ := np2.c3
  have d1 := n1.c1
  have e1 := n1.frozen 0
  have n2 := (m2.far (p := ⟨g, 0, none⟩) (by show g + 2 ≠ g; omega) (.int .i64 (wrap64 (C + wrap64 (p.times * X))))).far (p := ⟨g + 1, 0, none⟩) (by show g + 2 ≠ g + 1; omega) (.int .i64 (wrap64 (S + wrap64 (p.times * Y))))
  have n3 := (m3.far (p := ⟨g, 0, none⟩) (by show g + 3 ≠ g; omega) (.int .i64 (wrap64 (C + wrap64 (p.times * X))))).far (p := ⟨g + 1, 0, none⟩) (by show g + 3 ≠ g + 1; omega) (.int .i64 (wrap64 (S + wrap64 (p.times * Y))))
  have n0 := (m0.set1 (.int .i64 (wrap64 (C + wrap64 (p.times * X))))).far (p := ⟨g + 1, 0, none⟩) (by show g ≠ g + 1; omega) (.int .i64 (wrap64 (S + wrap64 (p.times * Y))))
  have n1' := n1.set1 (.int .i64 (wrap64 (S + wrap64 (p.times * Y))))
  have d2 := n2.c1
  have e2 := n2.frozen 0
  have e3 := (n3.far (p := ⟨g + 2, 0, none⟩) (by show g + 3 ≠ g + 2; omega) (.int .i64 X)).frozen 0
  have d3 := (n3.far (p := ⟨g + 2, 0, none⟩) (by show g + 3 ≠ g + 2; omega) (.int .i64 X)).c1
  by_cases ht : p.times = 0
  · have ht' : (p.times == 0) = true := by simp [ht]
    have HT : Hid (Z1 = X ∧ Z2 = Y) := Lib.hid ⟨by rw [HZ.out.1, if_pos ht], by rw [HZ.out.2, if_pos ht]⟩
    clear ht
    go_wp2_with (fail)
    go_end0
    rw [HT.out.1, HT.out.2]
    refine ⟨rfl, ⟨?_, ?_, ?_, ?_⟩, ?_⟩
    · exact (n0.far (by show g ≠ g + 2; omega) _).far (by show g ≠ g + 3; omega) _
    · exact (n1'.far (by show g + 1 ≠ g + 2; omega) _).far (by show g + 1 ≠ g + 3; omega) _
    · exact (n2.set1 _).far (by show g + 2 ≠ g + 3; omega) _
    · exact (n3.far (by show g + 3 ≠ g + 2; omega) _).set1 _
    · (repeat (first | exact Below.refl _ _ | assumption | apply Below.drew | apply below_drewN | (refine Below.alloc ?_ (by first | omega | (simp; done) | (simp; omega)) _) | (refine Below.setCell ?_ (by first | omega | (simp; done) | (simp; omega)) _)))
  · have ht' : (p.times == 0) = false := by simp [ht]
    have HT : Hid (Z1 = O1 ∧ Z2 = O2) := Lib.hid ⟨by rw [HZ.out.1, if_neg ht], by rw [HZ.out.2, if_neg ht]⟩
    clear ht
    go_wp2_with (fail)
    go_end0
    rw [HT.out.1, HT.out.2]
    exact ⟨rfl, ⟨n0, n1', n2, n3⟩, by (repeat (first | exact Below.refl _ _ | assumption | apply Below.drew | apply below_drewN | (refine Below.alloc ?_ (by first | omega | (simp; done) | (simp; omega)) _) | (refine Below.setCell ?_ (by first | omega | (simp; done) | (simp; omega)) _)))⟩

def MeasureAt (n : Nat) : Prop := ∀ (ps : List PieceD) (A : Option Addr) (c d : Nat) (w : World), ps.length < n → ps.length ≤ 1000 → ps.length ≤ c → c ≤ 9223372036854775807 → Pieces w A ps → Good d ps →
    Calls Try.prog 84 #[.slice A ps.length c] w fun e w' => e = .returned (.tuple #[.int .i64 (sumP false ps 0), .int .i64 (sumP true ps 0), .int .i64 (openP false ps 0), .int .i64 (openP true ps 0)]) ∧ Below w.heap.size w w'
set_option maxHeartbeats 4000000 in
set_option maxRecDepth 10000 in
theorem eachPiece_measure (ps : List PieceD) (A : Option Addr) (c d g : Nat) (w0 w : World) (IH : Hid (MeasureAt ps.length)) (hl : ps.length ≤ 1000) (hc : ps.length ≤ c) (hcm : c ≤ 9223372036854775807) (h : Pieces w0 A ps) (hw0 : w0.heap.size ≤ g) (hb0 : Below w0.heap.size w0 w) (hg : Good d ps) (hx : Boxes w g 0 0 0 0) :
    Calls Try.prog 138 #[.slice A ps.length c, .func (.func 139) #[] #[.pointer (some ⟨g, 0, none⟩), .pointer (some ⟨g + 1, 0, none⟩), .pointer (some ⟨g + 2, 0, none⟩), .pointer (some ⟨g + 3, 0, none⟩)]] w fun e w' =>
      e = .returned (.tuple #[]) ∧ Boxes w' g (sumP false ps 0) (sumP true ps 0) (openP false ps 0) (openP true ps 0) ∧ Below g w w' := by
  go_enter Try.func138, Try.ntmps138
  go_wp2_with (fail)
  go_loopw [4] (fun iv wr => ∃ (k : Nat) (C S O1 O2 : Int), k ≤ ps.length ∧ iv = .int .i64 k ∧ Boxes wr g C S O1 O2 ∧ Hid (sumP false ps 0 = sumP false (ps.drop k) C ∧ sumP true ps 0 = sumP true (ps.drop k) S ∧ openP false ps 0 = openP false (ps.drop k) O1 ∧ openP true ps 0 = openP true (ps.drop k) O2) ∧ Hid (Good d (ps.drop k)) ∧ Below g w wr) (fun iv _ => ps.length - (intOf iv).toNat)
  case atStart => exact ⟨0, 0, 0, 0, 0, Nat.zero_le _, rfl, hx, Lib.hid ⟨rfl, rfl, rfl, rfl⟩, Lib.hid hg, Below.refl _ _⟩
  case round =>
    obtain ⟨k, C, S, O1, O2, hk, rfl, hbx, HS, HG, hb⟩ := hrel
    have hbw : Below w0.heap.size w0 wr := hb0.trans (hb.mono hw0)
    have lg := hbx.b3.lt
    by_cases hlt : k < ps.length
    · obtain ⟨b1, off, p, rfl, hp, p0, p1, p2⟩ := (h.below hbw) k hlt
      have HP := Lib.hid hp; clear hp
      have j1 : (0 : Int) ≤ (k : Int) := by omega
      have j2 : (k : Int) < (ps.length : Int) := by omega
      by_cases hk12 : p.kind = 12
      · obtain ⟨n, hnl, hn1, hn2, _, _, _, _, hg2, hg3, hs2, ho2⟩ := good_at_group HG.out HP.out hk12
        have HS2 : Hid ((∀ cnt acc, sumP cnt (ps.drop k) acc = sumP cnt (ps.drop (k + 1 + n)) (wrap64 (acc + wrap64 (p.times * sumP cnt (segP ps (k + 1) (k + 1 + n)) 0)))) ∧ (∀ cnt o, openP cnt (ps.drop k) o = openP cnt (ps.drop (k + 1 + n)) (if p.times = 0 then sumP cnt (segP ps (k + 1) (k + 1 + n)) 0 else o))) := Lib.hid ⟨hs2, ho2⟩
        have HG3 := Lib.hid hg3; clear hg3 hs2 ho2
        have HNL := Lib.hid hnl
        rw [hnl] at p2
        have w1 : IntKind.i64.wrap ((k : Int) + 1) = (k : Int) + 1 := IntWalk.i64_in _ (by omega)
        have w2 : IntKind.i64.wrap ((k : Int) + 1 + (n : Int)) = (k : Int) + 1 + (n : Int) := IntWalk.i64_in _ (by omega)
        have w3 : ((k : Int) + 1).toNat = k + 1 := by omega
        have w4 : ((k : Int) + 1 + (n : Int)).toNat = k + 1 + n := by omega
        have w5 : (0 : Int) ≤ (k : Int) + 1 := by omega
        have w6 : (0 : Int) ≤ (k : Int) + 1 + (n : Int) := by omega
        have w7 : (k : Int) + 1 ≤ max ((k : Int) + 1 + (n : Int)) 0 := by omega
        have w8 : ¬ c = k + 1 := by omega
        have w9 : k + 1 + n - (k + 1) = n := by omega
        have i1 : (k : Int) + 1 ≤ (k : Int) + 1 + (n : Int) := by omega
        have i2 : (k : Int) + 1 + (n : Int) ≤ (c : Int) := by omega
        have hsl : (segP ps (k + 1) (k + 1 + n)).length = n := by rw [segP_length hn2]; omega
        have HIC : Hid (Calls Try.prog 139 #[.agg #[.int .i64 p.kind, .int .i64 p.times, .int .i64 (n : Int)], .slice (some ⟨b1, off + (k + 1) * 3, none⟩) n (c - (k + 1)), .pointer (some ⟨g, 0, none⟩), .pointer (some ⟨g + 1, 0, none⟩), .pointer (some ⟨g + 2, 0, none⟩), .pointer (some ⟨g + 3, 0, none⟩)] (World.drew wr) fun e w' =>
            e = .returned (.tuple #[]) ∧ Boxes w' g (wrap64 (C + wrap64 (p.times * sumP false (segP ps (k + 1) (k + 1 + n)) 0))) (wrap64 (S + wrap64 (p.times * sumP true (segP ps (k + 1) (k + 1 + n)) 0))) (if p.times = 0 then sumP false (segP ps (k + 1) (k + 1 + n)) 0 else O1) (if p.times = 0 then sumP true (segP ps (k + 1) (k + 1 + n)) 0 else O2) ∧ Below g (World.drew wr) w') := Lib.hid (by
          have := measure1_group p (segP ps (k + 1) (k + 1 + n)) (some ⟨b1, off + (k + 1) * 3, none⟩) (c - (k + 1)) g C S O1 O2 (World.drew wr) ⟨hbx.b0, hbx.b1, hbx.b2, hbx.b3⟩ hk12 (Lib.hid fun W hW => IH.out _ _ _ (d + 1) W (by rw [hsl]; omega) (by rw [hsl]; omega) (by rw [hsl]; omega) (by omega) ((Pieces.seg h hn2).below ((Below.drew2 hbw).trans (hW.mono (by show w0.heap.size ≤ wr.heap.size; omega)))) hg2)
          rwa [hsl, hnl] at this)
        clear hsl hg2 hnl hk12
        go_wp2_with (fail)
        go_region_law (go_simp; go_at_call 139; refine HIC.out.mono ?_; rintro e w2 ⟨rfl, hbx2, b2⟩)
        all_goals go_wp2_with (fail)
        all_goals
          have hb2 : Below g w w2 := (Below.drew2 hb).trans b2
          refine ⟨⟨k + 1 + n, _, _, _, _, by omega, by go_num, hbx2, Lib.hid ?_, Lib.hid HG3.out, hb2⟩, by simp [intOf]; omega⟩
          obtain ⟨s1, s2, s3, s4⟩ := HS.out
          rw [s1, s2, s3, s4]
          exact ⟨HS2.out.1 _ _, HS2.out.1 _ _, HS2.out.2 _ _, HS2.out.2 _ _⟩
      · obtain ⟨hpl, hg2⟩ := good_at_plain HG.out HP.out hk12
        have HG2 := Lib.hid hg2; clear hg2
        have hp0 : p.len = 0 := by unfold plainP at hpl; simp only [Bool.and_eq_true, decide_eq_true_eq] at hpl; exact hpl.2
        have HS2 : Hid ((∀ cnt acc, sumP cnt (ps.drop k) acc = sumP cnt (ps.drop (k + 1)) (wrap64 (acc + (if cnt then p.times else wrap64 (p.times * takenB p.kind))))) ∧ (∀ cnt o, openP cnt (ps.drop k) o = openP cnt (ps.drop (k + 1)) o)) := Lib.hid ⟨sum_at_plain HP.out hk12, fun cnt o => by rw [drop_cons HP.out, openP_plain hk12]⟩
        rw [hp0] at p2
        have w1 : IntKind.i64.wrap ((k : Int) + 1) = (k : Int) + 1 := IntWalk.i64_in _ (by omega)
        have w3 : ((k : Int) + 1).toNat = k + 1 := by omega
        have w5 : (0 : Int) ≤ (k : Int) + 1 := by omega
        have w7 : (k : Int) + 1 ≤ max ((k : Int) + 1) 0 := by omega
        have i2 : (k : Int) + 1 ≤ (c : Int) := by omega
        have HIC : Hid (∀ A' n c', Calls Try.prog 139 #[.agg #[.int .i64 p.kind, .int .i64 p.times, .int .i64 0], .slice A' n c', .pointer (some ⟨g, 0, none⟩), .pointer (some ⟨g + 1, 0, none⟩), .pointer (some ⟨g + 2, 0, none⟩), .pointer (some ⟨g + 3, 0, none⟩)] (World.drew wr) fun e w' =>
            e = .returned (.tuple #[]) ∧ Boxes w' g (wrap64 (C + wrap64 (p.times * takenB p.kind))) (wrap64 (S + p.times)) O1 O2 ∧ Below g (World.drew wr) w') := Lib.hid (fun A' n c' => by
          have := measure1_plain p A' n c' g C S O1 O2 (World.drew wr) ⟨hbx.b0, hbx.b1, hbx.b2, hbx.b3⟩ hk12
          rwa [hp0] at this)
        clear hk12 hpl hp0
        go_wp2_with (fail)
        go_region_law (go_simp; go_at_call 139; refine (HIC.out _ _ _).mono ?_; rintro e w2 ⟨rfl, hbx2, b2⟩)
        all_goals go_wp2_with (fail)
        all_goals
          have hb2 : Below g w w2 := (Below.drew2 hb).trans b2
          refine ⟨⟨k + 1, _, _, _, _, by omega, by go_num, hbx2, Lib.hid ?_, Lib.hid HG2.out, hb2⟩, by simp [intOf]; omega⟩
          obtain ⟨s1, s2, s3, s4⟩ := HS.out
          rw [s1, s2, s3, s4]
          exact ⟨HS2.out.1 false _, HS2.out.1 true _, HS2.out.2 _ _, HS2.out.2 _ _⟩
    · have he := HS.out
      rw [drop_all (by omega), sumP_nil, sumP_nil, openP_nil, openP_nil] at he
      obtain ⟨e1, e2, e3, e4⟩ := he
      have HE : Hid (Boxes wr g (sumP false ps 0) (sumP true ps 0) (openP false ps 0) (openP true ps 0)) := Lib.hid (by rw [e1, e2, e3, e4]; exact hbx)
      clear e1 e2 e3 e4
      go_wp2_with (fail)
      go_end0
      exact ⟨rfl, HE.out, hb⟩

set_option maxHeartbeats 2000000 in
set_option maxRecDepth 10000 in
theorem impl_measure (m : Nat) : ∀ n, n ≤ m → MeasureAt n := by
  induction m with
  | zero => intro n hn ps A c d w h0; omega
  | succ m ih =>
    intro n hn ps A c d w h0 hl hc hcm h hg
    have IH : Hid (MeasureAt ps.length) := Lib.hid (ih ps.length (by omega))
    clear ih
    have hb1 : Below w.heap.size w ((((w.alloc (.cells #[.int .i64 0] 2)).alloc (.cells #[.int .i64 0] 2)).alloc (.cells #[.int .i64 0] 2)).alloc (.cells #[.int .i64 0] 2)) := by (repeat (first | exact Below.refl _ _ | assumption | apply Below.drew | apply below_drewN | (refine Below.alloc ?_ (by first | omega | (simp; done) | (simp; omega)) _) | (refine Below.setCell ?_ (by first | omega | (simp; done) | (simp; omega)) _)))
    have hx : Boxes ((((w.alloc (.cells #[.int .i64 0] 2)).alloc (.cells #[.int .i64 0] 2)).alloc (.cells #[.int .i64 0] 2)).alloc (.cells #[.int .i64 0] 2)) w.heap.size 0 0 0 0 := by
      refine ⟨?_, ?_, ?_, ?_⟩
      · exact (((Blk.new w 2 #[.int .i64 0]).alloc _).alloc _).alloc _
      · have := ((Blk.new (w.alloc (.cells #[.int .i64 0] 2)) 2 #[.int .i64 0]).alloc (.cells #[.int .i64 0] 2)).alloc (.cells #[.int .i64 0] 2)
        simpa using this
      · have := (Blk.new ((w.alloc (.cells #[.int .i64 0] 2)).alloc (.cells #[.int .i64 0] 2)) 2 #[.int .i64 0]).alloc (.cells #[.int .i64 0] 2)
        simpa using this
      · have := Blk.new (((w.alloc (.cells #[.int .i64 0] 2)).alloc (.cells #[.int .i64 0] 2)).alloc (.cells #[.int .i64 0] 2)) 2 #[.int .i64 0]
        simpa using this
    have HX := Lib.hid hx; clear hx
    have hmf : ∀ (fn : Fn) (first cap : Array Value) (w : World), (Instr.makeFunc fn first cap).run Try.prog w = .ok (.func fn first cap) w := fun _ _ _ _ => rfl
    obtain ⟨X, hX⟩ : ∃ X, X = sumP false ps 0 := ⟨_, rfl⟩
    obtain ⟨Y, hY⟩ : ∃ X, X = sumP true ps 0 := ⟨_, rfl⟩
    obtain ⟨O1, hO1⟩ : ∃ X, X = openP false ps 0 := ⟨_, rfl⟩
    obtain ⟨O2, hO2⟩ : ∃ X, X = openP true ps 0 := ⟨_, rfl⟩
    rw [← hX, ← hY, ← hO1, ← hO2]
    have HQ : Hid (X = sumP false ps 0 ∧ Y = sumP true ps 0 ∧ O1 = openP false ps 0 ∧ O2 = openP true ps 0) := Lib.hid ⟨hX, hY, hO1, hO2⟩
    clear hX hY hO1 hO2
    go_enter Try.func84, Try.ntmps84
    go_wp2_with (fail)
    refine (eachPiece_measure ps A c d w.heap.size w _ IH hl hc hcm h (Nat.le_refl _) hb1 hg HX.out).mono ?_; rintro e w2 ⟨rfl, hb2, b2⟩
    have hbw : Below w.heap.size w w2 := hb1.trans b2
    rw [← HQ.out.1, ← HQ.out.2.1, ← HQ.out.2.2.1, ← HQ.out.2.2.2] at hb2
    obtain ⟨h0, h1, h2, h3⟩ := hb2
    have c0 := h0.c1
    have c1 := h1.c1
    have c2 := h2.c1
    have c3 := h3.c1
    have f0 := h0.frozen 0
    have f1 := h1.frozen 0
    have f2 := h2.frozen 0
    have f3 := h3.frozen 0
    go_wp2_with (fail)
    go_region
    all_goals
      go_wp2_with (fail)
      refine bodyPost_ret (v := .tuple #[.int .i64 X, .int .i64 Y, .int .i64 O1, .int .i64 O2]) (by simp [results, Try.results84, go_sem, c0, c1, c2, c3]) rfl ⟨rfl, ?_⟩
      (repeat (first | exact Below.refl _ _ | assumption | apply Below.drew | apply below_drewN | (refine Below.alloc ?_ (by first | omega | (simp; done) | (simp; omega)) _) | (refine Below.setCell ?_ (by first | omega | (simp; done) | (simp; omega)) _)))

def needP (ps : List PieceD) : Int × Int × Bool := if piecesB ps then (sumP false ps 0, sumP false (openPart ps) 0, true) else (0, 0, false)
theorem piecesB_good {ps : List PieceD} (h : piecesB ps = true) : ps.length ≤ 24 ∧ okP (rangeP 0 ps) = true ∧ Good 0 ps := by
  unfold piecesB at h
  simp only [Bool.and_eq_true, decide_eq_true_eq] at h
  refine ⟨h.1, h.2, ?_⟩
  unfold Good
  cases e : rangeP 0 ps with
  | none => rw [e] at h; cases h.2
  | some o => rfl
theorem openPart_length (ps : List PieceD) : (openPart ps).length ≤ ps.length := by
  induction ps with
  | nil => simp [openPart]
  | cons p r ih =>
    rw [openPart]
    split
    · simp; omega
    · simp; omega


end Go.Proofs.Ytnilglkiojigjaa

/- ExpandPieces: the plain functions. -/
namespace Go.Proofs.Ytnilglkiojigjaa
open Go Go.RowKit

def rep (n : Int) (xs : List Int) : List Int := (List.replicate n.toNat xs).flatten
theorem rep_length (n : Int) (xs : List Int) : (rep n xs).length = n.toNat * xs.length := by
  unfold rep
  generalize n.toNat = k
  induction k with
  | zero => simp
  | succ k ih => rw [List.replicate_succ, List.flatten_cons, List.length_append, ih, Nat.succ_mul]; omega
theorem rep_zero {n : Int} (h : n ≤ 0) (xs : List Int) : rep n xs = [] := by
  have : n.toNat = 0 := by omega
  rw [rep, this]; rfl
theorem rep_snoc (k : Nat) (xs : List Int) : rep ((k : Int) + 1) xs = rep (k : Int) xs ++ xs := by
  have e1 : ((k : Int) + 1).toNat = k + 1 := by omega
  have e2 : (k : Int).toNat = k := by omega
  rw [rep, rep, e1, e2, List.replicate_succ', List.flatten_append]
  simp
def expP (o : Int) : List PieceD → List Int
  | [] => []
  | p :: r =>
    if p.kind = 12 then rep (if p.times = 0 then o else p.times) (expP o (r.take p.len.toNat)) ++ expP o (r.drop p.len.toNat)
    else rep p.times [p.kind] ++ expP o r
termination_by l => l.length
decreasing_by all_goals (simp; try omega)
theorem expP_nil (o : Int) : expP o [] = [] := by rw [expP]
theorem expP_group {o : Int} {p : PieceD} {r : List PieceD} (h : p.kind = 12) : expP o (p :: r) = rep (if p.times = 0 then o else p.times) (expP o (r.take p.len.toNat)) ++ expP o (r.drop p.len.toNat) := by rw [expP, if_pos h]
theorem expP_plain {o : Int} {p : PieceD} {r : List PieceD} (h : p.kind ≠ 12) : expP o (p :: r) = rep p.times [p.kind] ++ expP o r := by rw [expP, if_neg h]
theorem exp_at_plain {k : Nat} {ps : List PieceD} {p : PieceD} (hp : ps[k]? = some p) (hk : p.kind ≠ 12) (o : Int) : expP o (ps.drop k) = rep p.times [p.kind] ++ expP o (ps.drop (k + 1)) := by
  rw [drop_cons hp, expP_plain hk]
theorem exp_at_group {k n : Nat} {ps : List PieceD} {p : PieceD} (hp : ps[k]? = some p) (hk : p.kind = 12) (hn : p.len = (n : Int)) (o : Int) : expP o (ps.drop k) = rep (if p.times = 0 then o else p.times) (expP o (segP ps (k + 1) (k + 1 + n))) ++ expP o (ps.drop (k + 1 + n)) := by
  rw [drop_cons hp, expP_group hk, hn, Int.toNat_natCast, List.drop_drop]
  have e : segP ps (k + 1) (k + 1 + n) = (ps.drop (k + 1)).take n := by rw [segP, Nat.add_sub_cancel_left]
  rw [e]
theorem expP_deep (n d : Nat) (hd : 0 < d) (o : Int) : ∀ l : List PieceD, l.length ≤ n → Good d l → expP o l = expP 0 l := by
  induction n generalizing d with
  | zero => intro l hl _; have : l = [] := by cases l <;> simp_all
            subst this; rw [expP_nil, expP_nil]
  | succ n ih =>
    intro l hl h
    cases l with
    | nil => rw [expP_nil, expP_nil]
    | cons p r =>
      simp only [List.length_cons] at hl
      by_cases hk : p.kind = 12
      · obtain ⟨_, h1, h2, _, _, h3, h4, h5⟩ := good_group h hk
        rw [expP_group hk, expP_group hk, if_neg (h3 hd), if_neg (h3 hd), ih (d + 1) (by omega) _ (by simp; omega) h4, ih d hd _ (by simp; omega) h5]
      · rw [expP_plain hk, expP_plain hk, ih d hd _ (by omega) (good_plain h hk).2]
def roomOf : Nat → Nat
  | 0 => 262144
  | 1 => 16384
  | 2 => 1024
  | _ => 64
theorem roomOf_step {d : Nat} (h : d < 3) : roomOf d = 16 * roomOf (d + 1) := by
  rcases (by omega : d = 0 ∨ d = 1 ∨ d = 2) with e | e | e <;> subst e <;> rfl
theorem roomOf_ge (d : Nat) : 64 ≤ roomOf d := by unfold roomOf; split <;> omega
theorem roomOf_le (d : Nat) : roomOf d ≤ 262144 := by unfold roomOf; split <;> omega
theorem times_of {p : PieceD} (h : plainP p = true) : 1 ≤ p.times ∧ p.times ≤ 16 ∧ p.len = 0 ∧ isStitchB p.kind = true := by
  unfold plainP at h
  simp only [Bool.and_eq_true, decide_eq_true_eq] at h
  obtain ⟨⟨h1, h2⟩, h3⟩ := h
  have := inR_iff.1 h2
  exact ⟨this.1, this.2, h3, h1⟩
theorem expP_small (n : Nat) (o : Int) (ho : o ≤ 16) : ∀ (d : Nat) (l : List PieceD), l.length ≤ n → Good d l → (expP o l).length ≤ l.length * roomOf d := by
  induction n with
  | zero => intro d l hl _; have : l = [] := by cases l <;> simp_all
            subst this; rw [expP_nil]; simp
  | succ n ih =>
    intro d l hl h
    cases l with
    | nil => rw [expP_nil]; simp
    | cons p r =>
      simp only [List.length_cons] at hl
      by_cases hk : p.kind = 12
      · obtain ⟨h0, h1, h2, h8, h9, h3, h4, h5⟩ := good_group h hk
        have i1 := ih (d + 1) (r.take p.len.toNat) (by simp; omega) h4
        have i2 := ih d (r.drop p.len.toNat) (by simp; omega) h5
        have l1 : (r.take p.len.toNat).length + (r.drop p.len.toNat).length = r.length := by rw [← List.length_append, List.take_append_drop]
        rw [expP_group hk, List.length_append, rep_length, List.length_cons, roomOf_step h0] at *
        have l2 : (if p.times = 0 then o else p.times).toNat ≤ 16 := by split <;> omega
        have l3 := Nat.mul_le_mul l2 i1
        have l4 : r.length * (16 * roomOf (d + 1)) = (r.take p.len.toNat).length * (16 * roomOf (d + 1)) + (r.drop p.len.toNat).length * (16 * roomOf (d + 1)) := by rw [← Nat.add_mul, l1]
        have l5 : 16 * ((r.take p.len.toNat).length * roomOf (d + 1)) = (r.take p.len.toNat).length * (16 * roomOf (d + 1)) := by rw [Nat.mul_left_comm]
        have l6 : (r.length + 1) * (16 * roomOf (d + 1)) = r.length * (16 * roomOf (d + 1)) + 16 * roomOf (d + 1) := by rw [Nat.add_mul, Nat.one_mul]
        omega
      · obtain ⟨hp, hg⟩ := good_plain h hk
        obtain ⟨t1, t2, _⟩ := times_of hp
        have i1 := ih d r (by omega) hg
        have hr := roomOf_ge d
        rw [expP_plain hk, List.length_append, rep_length]
        simp only [List.length_cons, List.length_nil]
        rw [Nat.add_mul, Nat.one_mul]
        omega
theorem takenB_le (k : Int) (h : isStitchB k = true) : 0 ≤ takenB k ∧ takenB k ≤ 4 := by
  have h1 := inR_iff.1 h
  rcases (by omega : k = 1 ∨ k = 2 ∨ k = 3 ∨ k = 4 ∨ k = 5 ∨ k = 6 ∨ k = 7 ∨ k = 8 ∨ k = 9 ∨ k = 10 ∨ k = 11) with e | e | e | e | e | e | e | e | e | e | e <;> subst e <;> decide
theorem sumP_small (cnt : Bool) (n : Nat) : ∀ (d : Nat) (l : List PieceD) (acc : Int), l.length ≤ n → n ≤ 100 → Good d l → 0 ≤ acc → acc + ((l.length * roomOf d : Nat) : Int) ≤ 1000000000000000 → acc ≤ sumP cnt l acc ∧ sumP cnt l acc ≤ acc + ((l.length * roomOf d : Nat) : Int) := by
  induction n with
  | zero => intro d l acc hl _ _ h0 _; have : l = [] := by cases l <;> simp_all
            subst this; rw [sumP_nil]; simp
  | succ n ih =>
    intro d l acc hl h100 h h0 h1
    cases l with
    | nil => rw [sumP_nil]; simp
    | cons p r =>
      simp only [List.length_cons] at hl h1 ⊢
      rw [Nat.add_mul, Nat.one_mul] at h1 ⊢
      have hr := roomOf_ge d
      by_cases hk : p.kind = 12
      · obtain ⟨hd, k1, k2, k8, k9, _, h4, h5⟩ := good_group h hk
        have l1 : (r.take p.len.toNat).length + (r.drop p.len.toNat).length = r.length := by rw [← List.length_append, List.take_append_drop]
        have m1 := Nat.mul_le_mul (show (r.take p.len.toNat).length ≤ 100 by simp; omega) (roomOf_le (d + 1))
        obtain ⟨s0, s1⟩ := ih (d + 1) (r.take p.len.toNat) 0 (by simp; omega) (by omega) h4 (by omega) (by omega)
        have l4 : r.length * roomOf d = (r.take p.len.toNat).length * roomOf d + (r.drop p.len.toNat).length * roomOf d := by rw [← Nat.add_mul, l1]
        have l5 : (r.take p.len.toNat).length * roomOf d = 16 * ((r.take p.len.toNat).length * roomOf (d + 1)) := by rw [roomOf_step hd, Nat.mul_left_comm]
        rw [sumP_group hk]
        have hi := fun a x y => ih d (r.drop p.len.toNat) a (by simp; omega) (by omega) h5 x y
        generalize sumP cnt (r.take p.len.toNat) 0 = S at s0 s1 ⊢
        generalize (r.take p.len.toNat).length * roomOf (d + 1) = X at *
        have t1 := Int.mul_le_mul_of_nonneg_right k9 s0
        have t0 := Int.mul_nonneg k8 s0
        generalize p.times * S = Z at t0 t1 ⊢
        have w1 : wrap64 Z = Z := IntWalk.wrap64_in _ ⟨by omega, by omega⟩
        have w2 : wrap64 (acc + Z) = acc + Z := IntWalk.wrap64_in _ ⟨by omega, by omega⟩
        rw [w1, w2]
        have := hi (acc + Z) (by omega) (by omega)
        omega
      · obtain ⟨hp, hg⟩ := good_plain h hk
        obtain ⟨t1, t2, _, t4⟩ := times_of hp
        obtain ⟨k1, k2⟩ := takenB_le _ t4
        rw [sumP_plain hk]
        have hi := fun a x y => ih d r a (by omega) (by omega) hg x y
        have hv : 0 ≤ (if cnt then p.times else wrap64 (p.times * takenB p.kind)) ∧ (if cnt then p.times else wrap64 (p.times * takenB p.kind)) ≤ 64 := by
          split
          · omega
          · have z1 := Int.mul_le_mul t2 k2 k1 (by omega)
            have z0 := Int.mul_nonneg (show 0 ≤ p.times by omega) k1
            generalize p.times * takenB p.kind = Z at z0 z1 ⊢
            rw [show wrap64 Z = Z from IntWalk.wrap64_in _ ⟨by omega, by omega⟩]
            omega
        generalize (if cnt then p.times else wrap64 (p.times * takenB p.kind)) = v at hv ⊢
        rw [show wrap64 (acc + v) = acc + v from IntWalk.wrap64_in _ ⟨by omega, by omega⟩]
        have := hi (acc + v) (by omega) (by omega)
        omega
/-- How often the open group is made. -/
def expT (need cols each : Int) : Int := if need < cols ∧ 0 < each then (cols - need).tdiv each else 0
theorem expT_range {need cols each : Int} (h0 : 0 ≤ need) (h8 : cols ≤ 8) : 0 ≤ expT need cols each ∧ expT need cols each ≤ 8 := by
  unfold expT
  split
  · rename_i h
    rw [Int.tdiv_eq_ediv_of_nonneg (by omega)]
    have h1 := Int.ediv_nonneg (show 0 ≤ cols - need by omega) (show 0 ≤ each by omega)
    have h2 := Int.ediv_le_self each (show 0 ≤ cols - need by omega)
    omega
  · omega
def needOf (ps : List PieceD) : Int := sumP false ps 0
def eachOf (ps : List PieceD) : Int := sumP false (openPart ps) 0
def timesOf (ps : List PieceD) (cols : Int) : Int := expT (needOf ps) cols (eachOf ps)
def exCode (ps : List PieceD) (cols : Int) : Int :=
  if piecesB ps then
    if inR cols 1 8 then
      if needOf ps + timesOf ps cols * eachOf ps = cols then
        if sumP true ps 0 + timesOf ps cols * sumP true (openPart ps) 0 ≤ 16 then 0 else 5
      else 10
    else 2
  else 1
def exRes (ps : List PieceD) (cols : Int) : List Int := if exCode ps cols = 0 then expP (timesOf ps cols) ps else []
theorem ex_err {ps : List PieceD} {cols k : Int} (e : exCode ps cols = k) (hk : k ≠ 0) : exRes ps cols = [] ∧ exCode ps cols = k := ⟨by rw [exRes, if_neg (by rw [e]; exact hk)], e⟩
theorem ex_ok {ps : List PieceD} {cols : Int} (e : exCode ps cols = 0) : exRes ps cols = expP (timesOf ps cols) ps ∧ exCode ps cols = 0 := ⟨by rw [exRes, if_pos e], e⟩
theorem sums_small {ps : List PieceD} (h : piecesB ps = true) (cnt : Bool) : (0 ≤ sumP cnt ps 0 ∧ sumP cnt ps 0 ≤ 30000000) ∧ (0 ≤ sumP cnt (openPart ps) 0 ∧ sumP cnt (openPart ps) 0 ≤ 30000000) := by
  obtain ⟨h24, _, hg⟩ := piecesB_good h
  obtain ⟨d, hd⟩ := openPart_good ps.length ps (Nat.le_refl _) hg
  have hpl := openPart_length ps
  have m1 := Nat.mul_le_mul h24 (roomOf_le 0)
  have m2 := Nat.mul_le_mul (show (openPart ps).length ≤ 24 by omega) (roomOf_le d)
  have s1 := sumP_small cnt ps.length 0 ps 0 (Nat.le_refl _) (by omega) hg (by omega) (by omega)
  have s2 := sumP_small cnt ps.length d (openPart ps) 0 hpl (by omega) hd (by omega) (by omega)
  omega
theorem exRes_length (ps : List PieceD) (cols : Int) : (exRes ps cols).length ≤ 7000000 := by
  unfold exRes
  split
  · rename_i h
    have hv : piecesB ps = true := by
      cases hv : piecesB ps
      · rw [exCode, hv] at h; simp at h
      · rfl
    have hc : inR cols 1 8 = true := by
      cases hc : inR cols 1 8
      · rw [exCode, hv, hc] at h; simp at h
      · rfl
    obtain ⟨h24, _, hg⟩ := piecesB_good hv
    have ht := expT_range (each := eachOf ps) (sums_small hv false).1.1 (inR_iff.1 hc).2
    have := expP_small ps.length (timesOf ps cols) (by unfold timesOf needOf; omega) 0 ps (Nat.le_refl _) hg
    have m1 := Nat.mul_le_mul h24 (roomOf_le 0)
    omega
  · simp

end Go.Proofs.Ytnilglkiojigjaa
