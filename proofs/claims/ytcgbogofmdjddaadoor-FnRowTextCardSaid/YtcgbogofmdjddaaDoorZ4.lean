/- Steps of the proof, joined from several texts: NP VQ Ap PK Q. -/
import Derived.Test.YtcgbogofmdjddaaDoorZ3
import Derived.Test.YtcgbogofmdjddaaDoorZ1
import Derived.Maps.AppendAt
import Derived.OwnWalk
import Derived.Test.YtcgbogofmdjddaaDoorZ2

/- NeedOf: the plain functions. -/
namespace Go.Proofs.YtcgbogofmdjddaaDoor
open Go.RowKit

def sumP (cnt : Bool) : List PieceD → Int → Int
  | [], acc => acc
  | p :: r, acc =>
    if p.kind = 12 then sumP cnt (r.drop p.len.toNat) (wrap64 (acc + wrap64 (p.times * sumP cnt (r.take p.len.toNat) 0)))
    else sumP cnt r (wrap64 (acc + (if cnt then p.times else wrap64 (p.times * takenB p.kind))))
termination_by l => l.length
decreasing_by all_goals (simp; try omega)
def openP (cnt : Bool) : List PieceD → Int → Int
  | [], o => o
  | p :: r, o => if p.kind = 12 then openP cnt (r.drop p.len.toNat) (if p.times = 0 then sumP cnt (r.take p.len.toNat) 0 else o) else openP cnt r o
termination_by l => l.length
decreasing_by all_goals (simp; try omega)
def openPart : List PieceD → List PieceD
  | [] => []
  | p :: r => if p.kind = 12 ∧ p.times = 0 then r.take p.len.toNat else openPart r
abbrev Good (d : Nat) (l : List PieceD) : Prop := (rangeP d l).isSome = true
theorem sumP_nil (cnt : Bool) (acc : Int) : sumP cnt [] acc = acc := by rw [sumP]
theorem sumP_group {cnt : Bool} {p : PieceD} {r : List PieceD} (h : p.kind = 12) (acc : Int) : sumP cnt (p :: r) acc = sumP cnt (r.drop p.len.toNat) (wrap64 (acc + wrap64 (p.times * sumP cnt (r.take p.len.toNat) 0))) := by rw [sumP, if_pos h]
theorem sumP_plain {cnt : Bool} {p : PieceD} {r : List PieceD} (h : p.kind ≠ 12) (acc : Int) : sumP cnt (p :: r) acc = sumP cnt r (wrap64 (acc + (if cnt then p.times else wrap64 (p.times * takenB p.kind)))) := by rw [sumP, if_neg h]
theorem openP_nil (cnt : Bool) (o : Int) : openP cnt [] o = o := by rw [openP]
theorem openP_group {cnt : Bool} {p : PieceD} {r : List PieceD} (h : p.kind = 12) (o : Int) : openP cnt (p :: r) o = openP cnt (r.drop p.len.toNat) (if p.times = 0 then sumP cnt (r.take p.len.toNat) 0 else o) := by rw [openP, if_pos h]
theorem openP_plain {cnt : Bool} {p : PieceD} {r : List PieceD} (h : p.kind ≠ 12) (o : Int) : openP cnt (p :: r) o = openP cnt r o := by rw [openP, if_neg h]
theorem good_plain {d : Nat} {p : PieceD} {r : List PieceD} (h : Good d (p :: r)) (hk : p.kind ≠ 12) : plainP p = true ∧ Good d r := by
  unfold Good at h
  rw [rangeP, if_neg hk] at h
  split at h
  · exact ⟨by assumption, h⟩
  · cases h
theorem good_group {d : Nat} {p : PieceD} {r : List PieceD} (h : Good d (p :: r)) (hk : p.kind = 12) : d < 3 ∧ 1 ≤ p.len ∧ p.len ≤ r.length ∧ 0 ≤ p.times ∧ p.times ≤ 16 ∧ (0 < d → p.times ≠ 0) ∧ Good (d + 1) (r.take p.len.toNat) ∧ Good d (r.drop p.len.toNat) := by
  unfold Good at h ⊢
  rw [rangeP, if_pos hk] at h
  split at h
  · rename_i hg
    have h2 := hg.2
    unfold groupP at h2
    simp only [Bool.and_eq_true, Bool.not_eq_true', Bool.and_eq_false_iff, decide_eq_false_iff_not] at h2
    have h3 := inR_iff.1 h2.1.1
    have h4 := inR_iff.1 h2.2
    split at h
    · cases h
    · rename_i e
      rw [Option.isSome_map] at h
      exact ⟨hg.1, h4.1, h4.2, h3.1, h3.2, fun hd ht => by rcases h2.1.2 with h5 | h5 <;> omega, by rw [e]; rfl, h⟩
  · cases h
theorem good_deep (n d : Nat) (hd : 0 < d) : ∀ l : List PieceD, l.length ≤ n → Good d l → ∀ p ∈ l, ¬ (p.kind = 12 ∧ p.times = 0) := by
  induction n generalizing d with
  | zero => intro l hl _ p hp; have : l = [] := by cases l <;> simp_all
            subst this; simp at hp
  | succ n ih =>
    intro l hl h p hp
    cases l with
    | nil => simp at hp
    | cons q r =>
      simp only [List.length_cons] at hl
      by_cases hk : q.kind = 12
      · obtain ⟨_, h1, h2, _, _, h3, h4, h5⟩ := good_group h hk
        rcases List.mem_cons.1 hp with rfl | hp
        · exact fun e => h3 hd e.2
        · rw [← List.take_append_drop q.len.toNat r] at hp
          rcases List.mem_append.1 hp with hp | hp
          · exact ih (d + 1) (by omega) _ (by simp; omega) h4 p hp
          · exact ih d hd _ (by simp; omega) h5 p hp
      · rcases List.mem_cons.1 hp with rfl | hp
        · exact fun e => hk e.1
        · exact ih d hd _ (by omega) (good_plain h hk).2 p hp
theorem openPart_skip {a b : List PieceD} (h : ∀ p ∈ a, ¬ (p.kind = 12 ∧ p.times = 0)) : openPart (a ++ b) = openPart b := by
  induction a with
  | nil => rfl
  | cons p a ih =>
    rw [List.cons_append, openPart, if_neg (h p (by simp)), ih fun q hq => h q (by simp [hq])]
theorem openP_zero (cnt : Bool) (d n : Nat) : ∀ (l : List PieceD) (o : Int), l.length ≤ n → rangeP d l = some 0 → openP cnt l o = o := by
  induction n with
  | zero => intro l o hl _; have : l = [] := by cases l <;> simp_all
            subst this; exact openP_nil _ _
  | succ n ih =>
    intro l o hl h
    cases l with
    | nil => exact openP_nil _ _
    | cons p r =>
      simp only [List.length_cons] at hl
      by_cases hk : p.kind = 12
      · have hg : Good d (p :: r) := by unfold Good; rw [h]; rfl
        obtain ⟨h0, _, _, _, _, _, h4, h5⟩ := good_group hg hk
        have h6 := h
        rw [rangeP, if_pos hk] at h6
        split at h6
        · split at h6
          · cases h6
          · rw [Option.map_eq_some_iff] at h6
            obtain ⟨o', ho', e⟩ := h6
            have ht : p.times ≠ 0 := by intro ht; rw [if_pos ht] at e; omega
            rw [if_neg ht] at e
            rw [openP_group hk, if_neg ht]
            exact ih _ _ (by simp; omega) (by rw [ho']; congr 1; omega)
        · cases h6
      · rw [openP_plain hk]
        rw [rangeP, if_neg hk] at h
        split at h
        · exact ih _ _ (by omega) h
        · cases h
theorem openP_part (cnt : Bool) (n : Nat) : ∀ l : List PieceD, l.length ≤ n → okP (rangeP 0 l) = true → openP cnt l 0 = sumP cnt (openPart l) 0 := by
  induction n with
  | zero => intro l hl _; have : l = [] := by cases l <;> simp_all
            subst this; rw [openP_nil, openPart, sumP_nil]
  | succ n ih =>
    intro l hl h
    cases l with
    | nil => rw [openP_nil, openPart, sumP_nil]
    | cons p r =>
      simp only [List.length_cons] at hl
      have hg : Good 0 (p :: r) := by
        unfold Good
        cases e : rangeP 0 (p :: r) with
        | none => rw [e] at h; cases h
        | some o => rfl
      by_cases hk : p.kind = 12
      · obtain ⟨h0, _, _, _, _, _, h4, h5⟩ := good_group hg hk
        have h6 := h
        rw [rangeP, if_pos hk] at h6
        split at h6
        · split at h6
          · cases h6
          · cases ho : rangeP 0 (r.drop p.len.toNat) with
            | none => rw [ho] at h6; cases h6
            | some o =>
              rw [ho] at h6
              have h7 : (if p.times = 0 then 1 else 0) + o ≤ 1 := of_decide_eq_true h6
              rw [openP_group hk]
              by_cases ht : p.times = 0
              · rw [if_pos ht] at h7 ⊢
                rw [openP_zero cnt 0 n _ _ (by simp; omega) (by rw [ho]; congr 1; omega), openPart, if_pos ⟨hk, ht⟩]
              · rw [if_neg ht] at h7 ⊢
                rw [openPart, if_neg (fun e => ht e.2)]
                have e2 := openPart_skip (b := r.drop p.len.toNat) (good_deep r.length 1 (by omega) (r.take p.len.toNat) (by simp; omega) h4)
                rw [List.take_append_drop] at e2
                rw [e2]
                exact ih _ (by simp; omega) (by rw [ho]; exact decide_eq_true (by omega))
        · cases h6
      · rw [openP_plain hk, openPart, if_neg (fun e => hk e.1)]
        rw [rangeP, if_neg hk] at h
        split at h
        · exact ih _ (by omega) h
        · cases h
theorem openPart_good (n : Nat) : ∀ l : List PieceD, l.length ≤ n → Good 0 l → ∃ d, Good d (openPart l) := by
  induction n with
  | zero => intro l hl _; have : l = [] := by cases l <;> simp_all
            subst this; exact ⟨0, by rw [openPart]; unfold Good; rw [rangeP_nil]; rfl⟩
  | succ n ih =>
    intro l hl h
    cases l with
    | nil => exact ⟨0, by rw [openPart]; unfold Good; rw [rangeP_nil]; rfl⟩
    | cons p r =>
      simp only [List.length_cons] at hl
      by_cases hk : p.kind = 12
      · obtain ⟨h0, _, _, _, _, _, h4, h5⟩ := good_group h hk
        by_cases ht : p.times = 0
        · rw [openPart, if_pos ⟨hk, ht⟩]; exact ⟨1, h4⟩
        · rw [openPart, if_neg (fun e => ht e.2)]
          have e2 := openPart_skip (b := r.drop p.len.toNat) (good_deep r.length 1 (by omega) (r.take p.len.toNat) (by simp; omega) h4)
          rw [List.take_append_drop] at e2
          rw [e2]
          exact ih _ (by simp; omega) h5
      · rw [openPart, if_neg (fun e => hk e.1)]
        exact ih _ (by omega) (good_plain h hk).2
/-- From k on: the list is good at this depth. -/
theorem good_at_plain {d k : Nat} {ps : List PieceD} {p : PieceD} (h : Good d (ps.drop k)) (hp : ps[k]? = some p) (hk : p.kind ≠ 12) : plainP p = true ∧ Good d (ps.drop (k + 1)) := by
  rw [drop_cons hp] at h; exact good_plain h hk
theorem good_at_group {d k : Nat} {ps : List PieceD} {p : PieceD} (h : Good d (ps.drop k)) (hp : ps[k]? = some p) (hk : p.kind = 12) : ∃ n : Nat, p.len = (n : Int) ∧ 1 ≤ n ∧ k + 1 + n ≤ ps.length ∧ d < 3 ∧ (0 < d → p.times ≠ 0) ∧ 0 ≤ p.times ∧ p.times ≤ 16 ∧ Good (d + 1) (segP ps (k + 1) (k + 1 + n)) ∧ Good d (ps.drop (k + 1 + n)) ∧
    (∀ cnt acc, sumP cnt (ps.drop k) acc = sumP cnt (ps.drop (k + 1 + n)) (wrap64 (acc + wrap64 (p.times * sumP cnt (segP ps (k + 1) (k + 1 + n)) 0)))) ∧ (∀ cnt o, openP cnt (ps.drop k) o = openP cnt (ps.drop (k + 1 + n)) (if p.times = 0 then sumP cnt (segP ps (k + 1) (k + 1 + n)) 0 else o)) := by
  rw [drop_cons hp] at h
  have hkl := (List.getElem?_eq_some_iff.1 hp).1
  obtain ⟨h0, h1, h2, h3, h4, h5, h6, h7⟩ := good_group h hk
  rw [List.length_drop] at h2
  have e1 : (ps.drop (k + 1)).take p.len.toNat = segP ps (k + 1) (k + 1 + p.len.toNat) := by unfold segP; congr 1; omega
  have e2 : (ps.drop (k + 1)).drop p.len.toNat = ps.drop (k + 1 + p.len.toNat) := by rw [List.drop_drop]
  rw [e1] at h6
  rw [e2] at h7
  refine ⟨p.len.toNat, by omega, by omega, by omega, h0, h5, h3, h4, h6, h7, fun cnt acc => ?_, fun cnt o => ?_⟩
  · rw [drop_cons hp, sumP_group hk, e1, e2]
  · rw [drop_cons hp, openP_group hk, e1, e2]
theorem sum_at_plain {k : Nat} {ps : List PieceD} {p : PieceD} (hp : ps[k]? = some p) (hk : p.kind ≠ 12) (cnt : Bool) (acc : Int) : sumP cnt (ps.drop k) acc = sumP cnt (ps.drop (k + 1)) (wrap64 (acc + (if cnt then p.times else wrap64 (p.times * takenB p.kind)))) := by
  rw [drop_cons hp, sumP_plain hk]

end Go.Proofs.YtcgbogofmdjddaaDoor

/- ValidPieces, the program's side. -/
namespace Go.Proofs.YtcgbogofmdjddaaDoor
open Go.RowKit

theorem Pieces.seg {w : World} {ps : List PieceD} {b off : Nat} (h : Pieces w (some ⟨b, off, none⟩) ps) {i j : Nat} (hj : j ≤ ps.length) : Pieces w (some ⟨b, off + i * 3, none⟩) (segP ps i j) := by
  intro k hk
  rw [segP_length hj] at hk
  obtain ⟨b', off', p, hA, hp, c0, c1, c2⟩ := h (i + k) (by omega)
  injection hA with hA
  injection hA with hb ho
  subst hb ho
  refine ⟨b, off + i * 3, p, rfl, ?_, ?_, ?_, ?_⟩
  · unfold segP
    rw [List.getElem?_take_of_lt hk, List.getElem?_drop]
    exact hp
  · rw [show off + i * 3 + k * 3 = off + (i + k) * 3 by omega]; exact c0
  · rw [show off + i * 3 + k * 3 + 1 = off + (i + k) * 3 + 1 by omega]; exact c1
  · rw [show off + i * 3 + k * 3 + 2 = off + (i + k) * 3 + 2 by omega]; exact c2
theorem Blk.set1 {w : World} {g : Nat} {t : TypeId} {a : Value} (h : Blk w g t #[a]) (u : Value) : Blk (w.setCell ⟨g, 0, none⟩ u) g t #[u] := by
  unfold Blk at h ⊢
  simp [World.setCell, Array.getElem?_modify, h]

theorem spec_l16Ok (ps : List PieceD) (A : Option Addr) (c : Nat) (w : World) (h : Pieces w A ps) (_hl : ps.length ≤ 9223372036854775807) :
    Calls Tryd.prog 48 #[.slice A ps.length c] w fun e w' => e = .returned (.bool (piecesB ps)) ∧ Below w.heap.size w w' := by
  by_cases hn : ps.length ≤ 24
  · have HF : Hid (piecesB ps = okP (rangeP 0 ps)) := Lib.hid (by unfold piecesB; rw [decide_eq_true hn, Bool.true_and])
    have hI := spec_l16Range ps A c (by omega) ps.length 0 ps.length 0 w h (by omega) (by omega) (by omega) (by omega)
    rw [segP_all] at hI
    have HI := Lib.hid hI; clear hI
    cases hr : rangeP 0 ps with
    | none =>
      rw [hr] at HI HF
      go_enter Tryd.func48, Tryd.ntmps48
      go_wp2_with (fail)
      refine (HI.out).mono ?_; rintro e w2 ⟨rfl, b2⟩
      go_wp2_with (fail)
      go_ret
      exact ⟨ret_bool HF.out.symm, b2⟩
    | some o =>
      rw [hr] at HI HF
      have ho : openOf (some o) = (o : Int) := rfl
      rw [ho] at HI
      clear ho
      go_enter Tryd.func48, Tryd.ntmps48
      go_wp2_with (fail)
      refine (HI.out).mono ?_; rintro e w2 ⟨rfl, b2⟩
      go_wp2_with (fail)
      go_ret
      exact ⟨ret_bool (by rw [HF.out]; simp [okP]; omega), b2⟩
  · have HF : Hid (piecesB ps = false) := Lib.hid (by unfold piecesB; rw [decide_eq_false hn, Bool.false_and])
    go_enter Tryd.func48, Tryd.ntmps48
    go_wp2_with (fail)
    go_ret
    exact ⟨ret_bool HF.out.symm, Below.refl _ _⟩

theorem impl_arePieces_deep (n c g : Nat) (A : Option Addr) (w : World) (hn : 1 ≤ n) (hl : n ≤ 1000) :
    Calls Tryd.prog 86 #[.slice A n c, .int .i64 4, .pointer (some ⟨g, 0, none⟩)] w fun e w' => e = .returned (.bool false) ∧ w = w' := by
  go_enter Tryd.func86, Tryd.ntmps86
  go_wp2_with (fail)
  go_ret
  exact ⟨ret_bool (by simp; omega), rfl⟩
set_option maxHeartbeats 4000000 in
theorem impl_arePieces (g : Nat) (w0 : World) (hg0 : w0.heap.size ≤ g) (m : Nat) : ∀ (ps : List PieceD) (A : Option Addr) (c d v : Nat) (w : World), ps.length ≤ m → ps.length ≤ 24 → ps.length ≤ c → c ≤ 9223372036854775807 → Pieces w0 A ps → Below w0.heap.size w0 w → Blk w g 3 #[.int .i64 v] → v + ps.length ≤ 100 → d ≤ 3 →
    Calls Tryd.prog 86 #[.slice A ps.length c, .int .i64 d, .pointer (some ⟨g, 0, none⟩)] w fun e w' => e = .returned (.bool (rangeP d ps).isSome) ∧ Upd g (g + 1) w w' ∧ ∀ o, rangeP d ps = some o → Blk w' g 3 #[.int .i64 ((v + o : Nat) : Int)] := by
  induction m using Nat.strongRecOn with
  | ind m ih =>
  intro ps A c d v w hm h24 hc hcm h hb0 hbox hv hd
  have IH := Lib.hid ih; clear ih
  have hd4 : decide ((3 : Int) < (d : Int)) = false := decide_eq_false (by omega)
  have hgw := hbox.lt
  go_enter Tryd.func86, Tryd.ntmps86
  go_wp2_with (fail)
  go_loopw [7] (fun iv wr => ∃ (k o : Nat), k ≤ ps.length ∧ o ≤ k ∧ iv = .int .i64 k ∧ rangeP d ps = (rangeP d (segP ps k ps.length)).map (fun q => o + q) ∧ Upd g (g + 1) w wr ∧ Blk wr g 3 #[.int .i64 ((v + o : Nat) : Int)]) (fun iv _ => ps.length - (intOf iv).toNat)
  case atStart => exact ⟨0, 0, Nat.zero_le _, Nat.zero_le _, rfl, by rw [segP_all]; simp, Upd.refl _ _ _, hbox⟩
  case round =>
    obtain ⟨k, o, hk, hok, rfl, hr, hu, bx⟩ := hrel
    have hb : Below w0.heap.size w0 wr := hb0.trans ((hu.below (by omega)).mono hg0)
    have hz := hu.size
    have HR := Lib.hid hr; clear hr
    by_cases hlt : k < ps.length
    · obtain ⟨b1, off, p, rfl, hp, p0, p1, p2⟩ := (h.below hb) k hlt
      have HS : Hid (segP ps k ps.length = p :: segP ps (k + 1) ps.length) := Lib.hid (segP_cons hp hlt)
      have HP := Lib.hid hp; clear hp
      have j1 : (0 : Int) ≤ (k : Int) := by omega
      have j2 : (k : Int) < (ps.length : Int) := by omega
      have hgr := bx.lt
      by_cases hk : p.kind = 12
      · have hk' : (p.kind != 12) = false := by simp [hk]
        have HL : Hid ((segP ps (k + 1) ps.length).length = ps.length - (k + 1)) := Lib.hid (segP_length (Nat.le_refl _))
        have hcast : ((ps.length - (k + 1) : Nat) : Int) = (ps.length : Int) - (k : Int) - 1 := by omega
        have HG : Hid (groupP d p (segP ps (k + 1) ps.length).length = (inR p.times 0 16 && !(decide (p.times = 0) && decide (0 < d)) && inR p.len 1 ((ps.length : Int) - (k : Int) - 1))) := Lib.hid (by rw [HL.out, groupP, hcast])
        clear hcast
        cases ht : inR p.times 0 16
        · have HN : Hid (rangeP d ps = none) := Lib.hid (by rw [HR.out, HS.out, rangeP_group hk (by rw [HG.out, ht]; simp)]; rfl)
          clear hk
          set_option maxRecDepth 10000 in go_wp2_with (first | (go_at_call 94; refine (impl_isStitch _ _).mono ?_; rintro e _ ⟨rfl, rfl⟩) | (go_at_call 66; refine (impl_within _ _ _ _).mono ?_; rintro e _ ⟨rfl, rfl⟩))
          go_ret
          exact ⟨ret_bool (by rw [HN.out]; rfl), by (repeat (first | exact Upd.refl _ _ _ | assumption | (refine Upd.setCell ?_ (by first | omega | (simp; done) | (simp; omega)) (by first | omega | (simp; done) | (simp; omega)) _) | (refine Upd.trans ?_ (upd_alloc _ _ _ _)))), fun o' ho' => by rw [HN.out] at ho'; cases ho'⟩
        · cases hn : inR p.len 1 ((ps.length : Int) - (k : Int) - 1)
          · have HN : Hid (rangeP d ps = none) := Lib.hid (by rw [HR.out, HS.out, rangeP_group hk (by rw [HG.out, hn]; simp)]; rfl)
            clear hk
            set_option maxRecDepth 10000 in go_wp2_with (first | (go_at_call 94; refine (impl_isStitch _ _).mono ?_; rintro e _ ⟨rfl, rfl⟩) | (go_at_call 66; refine (impl_within _ _ _ _).mono ?_; rintro e _ ⟨rfl, rfl⟩))
            go_ret
            exact ⟨ret_bool (by rw [HN.out]; rfl), by (repeat (first | exact Upd.refl _ _ _ | assumption | (refine Upd.setCell ?_ (by first | omega | (simp; done) | (simp; omega)) (by first | omega | (simp; done) | (simp; omega)) _) | (refine Upd.trans ?_ (upd_alloc _ _ _ _)))), fun o' ho' => by rw [HN.out] at ho'; cases ho'⟩
          · have h1 : 1 ≤ p.len ∧ p.len ≤ (ps.length : Int) - (k : Int) - 1 := by simpa [inR] using hn
            obtain ⟨n, hnl⟩ : ∃ n : Nat, p.len = (n : Int) := ⟨p.len.toNat, by omega⟩
            have HNL := Lib.hid hnl
            rw [hnl] at p2 hn h1
            clear hnl
            have hlen : k + 1 + n ≤ ps.length := by omega
            have b1x := bx.alloc (.cells #[.int .i64 p.kind, .int .i64 p.times, .int .i64 (n : Int)] 45)
            have q0 := b1x.c1
            have fz := b1x.frozen 0
            have i1 : (k : Int) + 1 ≤ (k : Int) + 1 + (n : Int) := by omega
            have i2 : (k : Int) + 1 + (n : Int) ≤ (c : Int) := by omega
            by_cases h0 : p.times = 0
            · have h0' : (p.times == 0) = true := by simp [h0]
              by_cases hd0 : 0 < d
              · have hd0' : decide ((0 : Int) < (d : Int)) = true := decide_eq_true (by omega)
                have HN : Hid (rangeP d ps = none) := Lib.hid (by rw [HR.out, HS.out, rangeP_group hk (by rw [HG.out, h0]; simp [hd0])]; rfl)
                clear hk h0
                set_option maxRecDepth 10000 in go_wp2_with (first | (go_at_call 94; refine (impl_isStitch _ _).mono ?_; rintro e _ ⟨rfl, rfl⟩) | (go_at_call 66; refine (impl_within _ _ _ _).mono ?_; rintro e _ ⟨rfl, rfl⟩))
                go_ret
                exact ⟨ret_bool (by rw [HN.out]; rfl), by (repeat (first | exact Upd.refl _ _ _ | assumption | (refine Upd.setCell ?_ (by first | omega | (simp; done) | (simp; omega)) (by first | omega | (simp; done) | (simp; omega)) _) | (refine Upd.trans ?_ (upd_alloc _ _ _ _)))), fun o' ho' => by rw [HN.out] at ho'; cases ho'⟩
              · have hd0' : decide ((0 : Int) < (d : Int)) = false := decide_eq_false (by omega)
                have HGT : Hid (groupP d p (segP ps (k + 1) ps.length).length = true) := Lib.hid (by rw [HG.out, ht, HNL.out, hn]; simp; omega)
                have hd3 : d < 3 := by omega
                have hsl : (segP ps (k + 1) (k + 1 + n)).length = n := by rw [segP_length hlen]; omega
                have f3 : ((d + 1 : Nat) : Int) = (d : Int) + 1 := by omega
                have HIC : Hid (∀ (W : World) (v' : Nat), Below w0.heap.size w0 W → Blk W g 3 #[.int .i64 v'] → v' + n ≤ 100 → Calls Tryd.prog 86 #[.slice (some ⟨b1, off + (k + 1) * 3, none⟩) n (c - (k + 1)), .int .i64 ((d : Int) + 1), .pointer (some ⟨g, 0, none⟩)] W fun e w' => e = .returned (.bool (rangeP (d + 1) (segP ps (k + 1) (k + 1 + n))).isSome) ∧ Upd g (g + 1) W w' ∧ ∀ o, rangeP (d + 1) (segP ps (k + 1) (k + 1 + n)) = some o → Blk w' g 3 #[.int .i64 ((v' + o : Nat) : Int)]) := Lib.hid (fun W v' hW hB hv' => by
                  have := IH.out n (by omega) (segP ps (k + 1) (k + 1 + n)) (some ⟨b1, off + (k + 1) * 3, none⟩) (c - (k + 1)) (d + 1) v' W (by rw [hsl]; exact Nat.le_refl _) (by rw [hsl]; omega) (by rw [hsl]; omega) (by omega) (Pieces.seg h hlen) hW hB (by rw [hsl]; exact hv') (by omega)
                  rw [hsl, f3] at this
                  exact this)
                clear f3 hsl
                have HT : Hid ((segP ps (k + 1) ps.length).take p.len.toNat = segP ps (k + 1) (k + 1 + n)) := Lib.hid (by rw [HNL.out]; exact segP_take hlen)
                have HD : Hid ((segP ps (k + 1) ps.length).drop p.len.toNat = segP ps (k + 1 + n) ps.length) := Lib.hid (by rw [HNL.out]; exact segP_drop)
                have bs : Blk ((wr.setCell ⟨g, 0, none⟩ (.int .i64 ((v : Int) + (o : Int) + 1))).alloc (.cells #[.int .i64 p.kind, .int .i64 p.times, .int .i64 (n : Int)] 45)) g 3 #[.int .i64 ((v + o + 1 : Nat) : Int)] := by have := (bx.set1 (.int .i64 ((v : Int) + (o : Int) + 1))).alloc (.cells #[.int .i64 p.kind, .int .i64 p.times, .int .i64 (n : Int)] 45); simpa using this
                have bp : Blk ((wr.setCell ⟨g, 0, none⟩ (.int .i64 ((v : Int) + (o : Int) + 1))).alloc (.cells #[.int .i64 p.kind, .int .i64 p.times, .int .i64 (n : Int)] 45)) wr.heap.size 45 #[.int .i64 p.kind, .int .i64 p.times, .int .i64 (n : Int)] := by have := Blk.new (wr.setCell ⟨g, 0, none⟩ (.int .i64 ((v : Int) + (o : Int) + 1))) 45 #[.int .i64 p.kind, .int .i64 p.times, .int .i64 (n : Int)]; simpa using this
                have HBS := Lib.hid bs; clear bs
                have HBP := Lib.hid bp; clear bp
                cases hin : (rangeP (d + 1) (segP ps (k + 1) (k + 1 + n))).isSome
                · have HN : Hid (rangeP d ps = none) := Lib.hid (by rw [HR.out, HS.out, rangeP_inner hk (by rw [HT.out]; simpa using hin)]; rfl)
                  clear hk h0
                  set_option maxRecDepth 10000 in go_wp2_with (first | (go_at_call 94; refine (impl_isStitch _ _).mono ?_; rintro e _ ⟨rfl, rfl⟩) | (go_at_call 66; refine (impl_within _ _ _ _).mono ?_; rintro e _ ⟨rfl, rfl⟩))
                  refine (HIC.out _ (v + o + 1) (by (repeat (first | exact Below.refl _ _ | assumption | apply Below.drew | apply below_drewN | (refine Below.alloc ?_ (by first | omega | (simp; done) | (simp; omega)) _) | (refine Below.setCell ?_ (by first | omega | (simp; done) | (simp; omega)) _)))) HBS.out (by omega)).mono ?_; rintro e w2 ⟨rfl, u2, hbx2⟩
                  have HX2 := Lib.hid hbx2; clear hbx2
                  obtain ⟨s0, s1, s2⟩ := (Blk.upd HBP.out u2 (Or.inr (by omega))).c3
                  have hu2 : Upd g (g + 1) w w2 := Upd.trans (by (repeat (first | exact Upd.refl _ _ _ | assumption | (refine Upd.setCell ?_ (by first | omega | (simp; done) | (simp; omega)) (by first | omega | (simp; done) | (simp; omega)) _) | (refine Upd.trans ?_ (upd_alloc _ _ _ _))))) u2
                  set_option maxRecDepth 10000 in go_wp2_with (first | (go_at_call 94; refine (impl_isStitch _ _).mono ?_; rintro e _ ⟨rfl, rfl⟩) | (go_at_call 66; refine (impl_within _ _ _ _).mono ?_; rintro e _ ⟨rfl, rfl⟩))
                  go_ret
                  exact ⟨ret_bool (by rw [HN.out]; rfl), hu2, fun o' ho' => by rw [HN.out] at ho'; cases ho'⟩
                · have HQ : Hid (rangeP d ps = (rangeP d (segP ps (k + 1 + n) ps.length)).map (fun q => (o + 1) + q)) := Lib.hid (by rw [HR.out, HS.out, rangeP_open hk hd3 HGT.out (by rw [HT.out]; exact hin), HD.out, Option.map_map]; congr 1; funext q; simp [h0]; omega)
                  have HZ : Hid (rangeP (d + 1) (segP ps (k + 1) (k + 1 + n)) = some 0) := Lib.hid (by obtain ⟨q, hq⟩ := Option.isSome_iff_exists.1 hin; rw [hq, rangeP_zero _ (d + 1) (by omega) _ (Nat.le_refl _) q hq])
                  clear hk h0
                  set_option maxRecDepth 10000 in go_wp2_with (first | (go_at_call 94; refine (impl_isStitch _ _).mono ?_; rintro e _ ⟨rfl, rfl⟩) | (go_at_call 66; refine (impl_within _ _ _ _).mono ?_; rintro e _ ⟨rfl, rfl⟩))
                  refine (HIC.out _ (v + o + 1) (by (repeat (first | exact Below.refl _ _ | assumption | apply Below.drew | apply below_drewN | (refine Below.alloc ?_ (by first | omega | (simp; done) | (simp; omega)) _) | (refine Below.setCell ?_ (by first | omega | (simp; done) | (simp; omega)) _)))) HBS.out (by omega)).mono ?_; rintro e w2 ⟨rfl, u2, hbx2⟩
                  have HX2 := Lib.hid hbx2; clear hbx2
                  obtain ⟨s0, s1, s2⟩ := (Blk.upd HBP.out u2 (Or.inr (by omega))).c3
                  have hu2 : Upd g (g + 1) w w2 := Upd.trans (by (repeat (first | exact Upd.refl _ _ _ | assumption | (refine Upd.setCell ?_ (by first | omega | (simp; done) | (simp; omega)) (by first | omega | (simp; done) | (simp; omega)) _) | (refine Upd.trans ?_ (upd_alloc _ _ _ _))))) u2
                  set_option maxRecDepth 10000 in go_wp2_with (first | (go_at_call 94; refine (impl_isStitch _ _).mono ?_; rintro e _ ⟨rfl, rfl⟩) | (go_at_call 66; refine (impl_within _ _ _ _).mono ?_; rintro e _ ⟨rfl, rfl⟩))
                  refine ⟨⟨k + 1 + n, o + 1, by omega, by omega, by go_num, HQ.out, hu2, ?_⟩, by simp [intOf]; omega⟩
                  have := HX2.out 0 HZ.out
                  simpa [Nat.add_assoc] using this
            · have h0' : (p.times == 0) = false := by simpa using h0
              by_cases hd3 : d < 3
              · have HGT : Hid (groupP d p (segP ps (k + 1) ps.length).length = true) := Lib.hid (by rw [HG.out, ht, HNL.out, hn]; simp [h0])
                have hsl : (segP ps (k + 1) (k + 1 + n)).length = n := by rw [segP_length hlen]; omega
                have f3 : ((d + 1 : Nat) : Int) = (d : Int) + 1 := by omega
                have HIC : Hid (∀ (W : World) (v' : Nat), Below w0.heap.size w0 W → Blk W g 3 #[.int .i64 v'] → v' + n ≤ 100 → Calls Tryd.prog 86 #[.slice (some ⟨b1, off + (k + 1) * 3, none⟩) n (c - (k + 1)), .int .i64 ((d : Int) + 1), .pointer (some ⟨g, 0, none⟩)] W fun e w' => e = .returned (.bool (rangeP (d + 1) (segP ps (k + 1) (k + 1 + n))).isSome) ∧ Upd g (g + 1) W w' ∧ ∀ o, rangeP (d + 1) (segP ps (k + 1) (k + 1 + n)) = some o → Blk w' g 3 #[.int .i64 ((v' + o : Nat) : Int)]) := Lib.hid (fun W v' hW hB hv' => by
                  have := IH.out n (by omega) (segP ps (k + 1) (k + 1 + n)) (some ⟨b1, off + (k + 1) * 3, none⟩) (c - (k + 1)) (d + 1) v' W (by rw [hsl]; exact Nat.le_refl _) (by rw [hsl]; omega) (by rw [hsl]; omega) (by omega) (Pieces.seg h hlen) hW hB (by rw [hsl]; exact hv') (by omega)
                  rw [hsl, f3] at this
                  exact this)
                clear f3 hsl
                have HT : Hid ((segP ps (k + 1) ps.length).take p.len.toNat = segP ps (k + 1) (k + 1 + n)) := Lib.hid (by rw [HNL.out]; exact segP_take hlen)
                have HD : Hid ((segP ps (k + 1) ps.length).drop p.len.toNat = segP ps (k + 1 + n) ps.length) := Lib.hid (by rw [HNL.out]; exact segP_drop)
                have bs := b1x
                have bp := Blk.new wr 45 #[.int .i64 p.kind, .int .i64 p.times, .int .i64 (n : Int)]
                have HBS := Lib.hid bs; clear bs
                have HBP := Lib.hid bp; clear bp
                cases hin : (rangeP (d + 1) (segP ps (k + 1) (k + 1 + n))).isSome
                · have HN : Hid (rangeP d ps = none) := Lib.hid (by rw [HR.out, HS.out, rangeP_inner hk (by rw [HT.out]; simpa using hin)]; rfl)
                  clear hk h0
                  set_option maxRecDepth 10000 in go_wp2_with (first | (go_at_call 94; refine (impl_isStitch _ _).mono ?_; rintro e _ ⟨rfl, rfl⟩) | (go_at_call 66; refine (impl_within _ _ _ _).mono ?_; rintro e _ ⟨rfl, rfl⟩))
                  refine (HIC.out _ (v + o) (by (repeat (first | exact Below.refl _ _ | assumption | apply Below.drew | apply below_drewN | (refine Below.alloc ?_ (by first | omega | (simp; done) | (simp; omega)) _) | (refine Below.setCell ?_ (by first | omega | (simp; done) | (simp; omega)) _)))) HBS.out (by omega)).mono ?_; rintro e w2 ⟨rfl, u2, hbx2⟩
                  have HX2 := Lib.hid hbx2; clear hbx2
                  obtain ⟨s0, s1, s2⟩ := (Blk.upd HBP.out u2 (Or.inr (by omega))).c3
                  have hu2 : Upd g (g + 1) w w2 := Upd.trans (by (repeat (first | exact Upd.refl _ _ _ | assumption | (refine Upd.setCell ?_ (by first | omega | (simp; done) | (simp; omega)) (by first | omega | (simp; done) | (simp; omega)) _) | (refine Upd.trans ?_ (upd_alloc _ _ _ _))))) u2
                  set_option maxRecDepth 10000 in go_wp2_with (first | (go_at_call 94; refine (impl_isStitch _ _).mono ?_; rintro e _ ⟨rfl, rfl⟩) | (go_at_call 66; refine (impl_within _ _ _ _).mono ?_; rintro e _ ⟨rfl, rfl⟩))
                  go_ret
                  exact ⟨ret_bool (by rw [HN.out]; rfl), hu2, fun o' ho' => by rw [HN.out] at ho'; cases ho'⟩
                · have HQ : Hid (rangeP d ps = (rangeP d (segP ps (k + 1 + n) ps.length)).map (fun q => (o) + q)) := Lib.hid (by rw [HR.out, HS.out, rangeP_open hk hd3 HGT.out (by rw [HT.out]; exact hin), HD.out, Option.map_map]; congr 1; funext q; simp [h0])
                  have HZ : Hid (rangeP (d + 1) (segP ps (k + 1) (k + 1 + n)) = some 0) := Lib.hid (by obtain ⟨q, hq⟩ := Option.isSome_iff_exists.1 hin; rw [hq, rangeP_zero _ (d + 1) (by omega) _ (Nat.le_refl _) q hq])
                  clear hk h0
                  set_option maxRecDepth 10000 in go_wp2_with (first | (go_at_call 94; refine (impl_isStitch _ _).mono ?_; rintro e _ ⟨rfl, rfl⟩) | (go_at_call 66; refine (impl_within _ _ _ _).mono ?_; rintro e _ ⟨rfl, rfl⟩))
                  refine (HIC.out _ (v + o) (by (repeat (first | exact Below.refl _ _ | assumption | apply Below.drew | apply below_drewN | (refine Below.alloc ?_ (by first | omega | (simp; done) | (simp; omega)) _) | (refine Below.setCell ?_ (by first | omega | (simp; done) | (simp; omega)) _)))) HBS.out (by omega)).mono ?_; rintro e w2 ⟨rfl, u2, hbx2⟩
                  have HX2 := Lib.hid hbx2; clear hbx2
                  obtain ⟨s0, s1, s2⟩ := (Blk.upd HBP.out u2 (Or.inr (by omega))).c3
                  have hu2 : Upd g (g + 1) w w2 := Upd.trans (by (repeat (first | exact Upd.refl _ _ _ | assumption | (refine Upd.setCell ?_ (by first | omega | (simp; done) | (simp; omega)) (by first | omega | (simp; done) | (simp; omega)) _) | (refine Upd.trans ?_ (upd_alloc _ _ _ _))))) u2
                  set_option maxRecDepth 10000 in go_wp2_with (first | (go_at_call 94; refine (impl_isStitch _ _).mono ?_; rintro e _ ⟨rfl, rfl⟩) | (go_at_call 66; refine (impl_within _ _ _ _).mono ?_; rintro e _ ⟨rfl, rfl⟩))
                  refine ⟨⟨k + 1 + n, o, by omega, by omega, by go_num, HQ.out, hu2, ?_⟩, by simp [intOf]; omega⟩
                  have := HX2.out 0 HZ.out
                  exact this
              · have HN : Hid (rangeP d ps = none) := Lib.hid (by rw [HR.out, HS.out, rangeP_group hk (by omega)]; rfl)
                clear hk h0
                have hd33 : d = 3 := by omega
                subst hd33
                set_option maxRecDepth 10000 in go_wp2_with (first | (go_at_call 94; refine (impl_isStitch _ _).mono ?_; rintro e _ ⟨rfl, rfl⟩) | (go_at_call 66; refine (impl_within _ _ _ _).mono ?_; rintro e _ ⟨rfl, rfl⟩))
                refine (impl_arePieces_deep n _ _ _ _ (by omega) (by omega)).mono ?_; rintro e _ ⟨rfl, rfl⟩
                set_option maxRecDepth 10000 in go_wp2_with (first | (go_at_call 94; refine (impl_isStitch _ _).mono ?_; rintro e _ ⟨rfl, rfl⟩) | (go_at_call 66; refine (impl_within _ _ _ _).mono ?_; rintro e _ ⟨rfl, rfl⟩))
                go_ret
                exact ⟨ret_bool (by rw [HN.out]; rfl), by (repeat (first | exact Upd.refl _ _ _ | assumption | (refine Upd.setCell ?_ (by first | omega | (simp; done) | (simp; omega)) (by first | omega | (simp; done) | (simp; omega)) _) | (refine Upd.trans ?_ (upd_alloc _ _ _ _)))), fun o' ho' => by rw [HN.out] at ho'; cases ho'⟩
      · have hk' : (p.kind != 12) = true := by simpa using hk
        cases t1 : isStitchB p.kind
        · have HN : Hid (rangeP d ps = none) := Lib.hid (by rw [HR.out, HS.out, rangeP_bad hk (by simp [plainP, t1])]; rfl)
          clear hk
          set_option maxRecDepth 10000 in go_wp2_with (first | (go_at_call 94; refine (impl_isStitch _ _).mono ?_; rintro e _ ⟨rfl, rfl⟩) | (go_at_call 66; refine (impl_within _ _ _ _).mono ?_; rintro e _ ⟨rfl, rfl⟩))
          go_ret
          exact ⟨ret_bool (by rw [HN.out]; rfl), by (repeat (first | exact Upd.refl _ _ _ | assumption | (refine Upd.setCell ?_ (by first | omega | (simp; done) | (simp; omega)) (by first | omega | (simp; done) | (simp; omega)) _) | (refine Upd.trans ?_ (upd_alloc _ _ _ _)))), fun o' ho' => by rw [HN.out] at ho'; cases ho'⟩
        · by_cases t3 : p.len = 0
          · have t3' : (p.len != 0) = false := by simp [t3]
            cases t2 : inR p.times 1 16
            · have HN : Hid (rangeP d ps = none) := Lib.hid (by rw [HR.out, HS.out, rangeP_bad hk (by simp [plainP, t2])]; rfl)
              clear hk t3
              set_option maxRecDepth 10000 in go_wp2_with (first | (go_at_call 94; refine (impl_isStitch _ _).mono ?_; rintro e _ ⟨rfl, rfl⟩) | (go_at_call 66; refine (impl_within _ _ _ _).mono ?_; rintro e _ ⟨rfl, rfl⟩))
              go_ret
              exact ⟨ret_bool (by rw [HN.out]; rfl), by (repeat (first | exact Upd.refl _ _ _ | assumption | (refine Upd.setCell ?_ (by first | omega | (simp; done) | (simp; omega)) (by first | omega | (simp; done) | (simp; omega)) _) | (refine Upd.trans ?_ (upd_alloc _ _ _ _)))), fun o' ho' => by rw [HN.out] at ho'; cases ho'⟩
            · have HPL : Hid (rangeP d (segP ps k ps.length) = rangeP d (segP ps (k + 1) ps.length)) := Lib.hid (by rw [HS.out, rangeP_plain hk (by simp [plainP, t1, t2, t3])])
              clear t3 hk
              set_option maxRecDepth 10000 in go_wp2_with (first | (go_at_call 94; refine (impl_isStitch _ _).mono ?_; rintro e _ ⟨rfl, rfl⟩) | (go_at_call 66; refine (impl_within _ _ _ _).mono ?_; rintro e _ ⟨rfl, rfl⟩))
              exact ⟨⟨k + 1, o, by omega, by omega, by go_num, by rw [HR.out, HPL.out], by (repeat (first | exact Upd.refl _ _ _ | assumption | (refine Upd.setCell ?_ (by first | omega | (simp; done) | (simp; omega)) (by first | omega | (simp; done) | (simp; omega)) _) | (refine Upd.trans ?_ (upd_alloc _ _ _ _)))), bx.alloc _⟩, by simp [intOf]; omega⟩
          · have t3' : (p.len != 0) = true := by simpa using t3
            have HN : Hid (rangeP d ps = none) := Lib.hid (by rw [HR.out, HS.out, rangeP_bad hk (by simp [plainP, t3])]; rfl)
            clear hk t3
            set_option maxRecDepth 10000 in go_wp2_with (first | (go_at_call 94; refine (impl_isStitch _ _).mono ?_; rintro e _ ⟨rfl, rfl⟩) | (go_at_call 66; refine (impl_within _ _ _ _).mono ?_; rintro e _ ⟨rfl, rfl⟩))
            go_ret
            exact ⟨ret_bool (by rw [HN.out]; rfl), by (repeat (first | exact Upd.refl _ _ _ | assumption | (refine Upd.setCell ?_ (by first | omega | (simp; done) | (simp; omega)) (by first | omega | (simp; done) | (simp; omega)) _) | (refine Upd.trans ?_ (upd_alloc _ _ _ _)))), fun o' ho' => by rw [HN.out] at ho'; cases ho'⟩
    · go_wp2_with (fail)
      go_ret
      have : k = ps.length := by omega
      subst this
      have e := HR.out
      rw [segP_nil, rangeP_nil] at e
      refine ⟨ret_bool (by rw [e]; rfl), hu, fun o' ho' => ?_⟩
      rw [e] at ho'
      simp at ho'
      subst ho'
      exact bx

end Go.Proofs.YtcgbogofmdjddaaDoor

/- append to a slice of the call's own. -/
namespace Go.Proofs.YtcgbogofmdjddaaDoor
open Go.RowKit

theorem OwnC.of_own' {w : World} {lo : Nat} {e : TypeId} {sz n : Nat} {v : Value} {cs : List Value} (h : w.ownsRow lo e sz v n cs) : ∃ A c, v = .slice A n c ∧ OwnC w lo w.heap.size e sz A n c cs := by
  rcases h.2 with ⟨rfl, rfl⟩ | ⟨g, cap, cur, rfl, _⟩
  · exact ⟨none, 0, rfl, OwnC.of_own h (Nat.le_refl _)⟩
  · exact ⟨some ⟨g, 0, none⟩, cap, rfl, OwnC.of_own h (Nat.le_refl _)⟩
theorem grown_below {w w' : World} {lo hi : Nat} {e : TypeId} {sz n c : Nat} {A : Option Addr} {cs : List Value} (h : OwnC w lo hi e sz A n c cs) (hlo : lo ≤ w.heap.size) (hg : w.grownBy w' (Value.slice A n c).ownBlock) : Below lo w w' :=
  (Below.refl lo w).grown hg hlo fun k hk => (h.own.lt k hk).1

/-- append of some cells that stand in memory. -/
theorem wp_appendC {P : Program} (w : World) {o : Oper} {a : Act} {K : Act → World → Prop} {Q : Exit → Act → World → Prop} (s x : Operand) (t : TypeId)
    (hop : o.op = .call { callee := .builtin .append, args := #[s, x], argTypes := #[t, t] })
    (e : TypeId) (i : TypeInfo) (z : Value) (size bytes : Nat) (ht : P.underlying t = some (.slice e)) (hi : P.info? e = some i) (hz : i.zero = some z)
    (hsize : i.size = size) (hby : i.bytes = bytes) (hzs : z.cells.size = size) (hsz : 0 < size)
    {lo hi' n c : Nat} {A : Option Addr} {cs : List Value} (hs : a.eval s = .slice A n c) (hown : OwnC w lo hi' e size A n c cs) (hlo : lo ≤ w.heap.size)
    (A2 : Option Addr) (m c2 : Nat) (news : List Value) (hx : a.eval x = .slice A2 m c2) (hl : news.length = m * size)
    (hnews : ∀ j u, news[j]? = some u → ∃ b off, A2 = some ⟨b, off, none⟩ ∧ w.cell? ⟨b, off + j, none⟩ = some u) (h1 : ∀ u ∈ news, u.oneCell' = true)
    (h63 : n + m ≤ maxLen) (hbytes : (n + m) * bytes ≤ 140737488355328)
    (h : ∀ A' c' w', OwnC w' lo w'.heap.size e size A' (n + m) c' (cs ++ news) → w.grownBy w' (Value.slice A n c).ownBlock → Below lo w w' → K (a.put o.dst (.slice A' (n + m) c')) w') : o.wp P a w K Q := by
  cases A2 with
  | none =>
    have hn : news = [] := by
      cases news with
      | nil => rfl
      | cons u r => obtain ⟨_, _, h, _⟩ := hnews 0 u rfl; cases h
    subst hn
    have hm : m = 0 := by
      rcases Nat.eq_zero_or_pos m with h | h
      · exact h
      · have := Nat.mul_pos h hsz
        rw [← hl] at this
        simp at this
    subst hm
    have hr : (Builtin.append_ #[t, t] o.type #[.slice A n c, .slice none 0 c2]).run P w = .ok (.slice A n c) w := by
      rcases hown.form with ⟨rfl, rfl, rfl, _⟩ | ⟨g, cur, rfl, _, _, _, hnc, _⟩
      · simp [Builtin.append_, run_underlying ht, sizeOf, typeInfo, hi, Builtin.lenOf, Builtin.firstCells]
      · simp [Builtin.append_, run_underlying ht, sizeOf, typeInfo, hi, Builtin.lenOf, Builtin.firstCells, hnc, storeCells]
    unfold Oper.wp execOp
    simp only [hop, resolve, invoke, builtin, Sem.run_bind, Sem.run_pure, Result.andThen_ok, List.map_toArray, List.map_cons, List.map_nil, hs, hx, hr]
    have := h A c w (by simpa using (OwnC.of_own hown.own (Nat.le_refl _))) (World.grownBy.refl w _) (Below.refl _ _)
    have h2 : K (a.put o.dst (.slice A n c)) w := by simpa using this
    exact h2
  | some ad =>
    refine wp_append_own w s x t hop lo e i z size bytes ht hi hz hsize hby hzs hsz (.slice A n c) n cs hs hown.own ad m c2 news hx hl ?_ h1 h63 hbytes hlo fun v' w' h2 h3 _ => ?_
    · intro j u hu
      obtain ⟨b, off, he, hc⟩ := hnews j u hu
      injection he with he
      subst he
      unfold Addr.add
      split
      · subst_vars; simpa using hc
      · exact hc
    · obtain ⟨A', c', rfl, h4⟩ := OwnC.of_own' h2
      exact h A' c' w' h4 h3 (grown_below hown hlo h3)

theorem wpList_appendC {P : Program} (w : World) {ops : Array Oper} {rest : List Oper} {o : Oper} {a : Act} {Q : Exit → Act → World → Prop} (hgd : o.guard = none) (s x : Operand) (t : TypeId)
    (hop : o.op = .call { callee := .builtin .append, args := #[s, x], argTypes := #[t, t] })
    (e : TypeId) (i : TypeInfo) (z : Value) (size bytes : Nat) (ht : P.underlying t = some (.slice e)) (hi : P.info? e = some i) (hz : i.zero = some z)
    (hsize : i.size = size) (hby : i.bytes = bytes) (hzs : z.cells.size = size) (hsz : 0 < size)
    {lo hi' n c : Nat} {A : Option Addr} {cs : List Value} (hs : a.eval s = .slice A n c) (hown : OwnC w lo hi' e size A n c cs) (hlo : lo ≤ w.heap.size)
    (A2 : Option Addr) (m c2 : Nat) (news : List Value) (hx : a.eval x = .slice A2 m c2) (hl : news.length = m * size)
    (hnews : ∀ j u, news[j]? = some u → ∃ b off, A2 = some ⟨b, off, none⟩ ∧ w.cell? ⟨b, off + j, none⟩ = some u) (h1 : ∀ u ∈ news, u.oneCell' = true)
    (h63 : n + m ≤ maxLen) (hbytes : (n + m) * bytes ≤ 140737488355328)
    (h : ∀ A' c' w', OwnC w' lo w'.heap.size e size A' (n + m) c' (cs ++ news) → w.grownBy w' (Value.slice A n c).ownBlock → Below lo w w' → wpList P ops Q rest (a.put o.dst (.slice A' (n + m) c')) w') : wpList P ops Q (o :: rest) a w :=
  wpList_plain hgd fun _ hK => wp_appendC w s x t hop e i z size bytes ht hi hz hsize hby hzs hsz hs hown hlo A2 m c2 news hx hl hnews h1 h63 hbytes fun A' c' w' h2 h3 h4 => hK _ _ (h A' c' w' h2 h3 h4)

/-- append of one element: its cells stand in the newest block. -/
theorem wpList_append1 {P : Program} (w : World) (u : List Value) (te : TypeId) {ops : Array Oper} {rest : List Oper} {o : Oper} {a : Act} {Q : Exit → Act → World → Prop} (hgd : o.guard = none) (s x : Operand) (t : TypeId)
    (hop : o.op = .call { callee := .builtin .append, args := #[s, x], argTypes := #[t, t] })
    (e : TypeId) (i : TypeInfo) (z : Value) (size bytes : Nat) (ht : P.underlying t = some (.slice e)) (hi : P.info? e = some i) (hz : i.zero = some z)
    (hsize : i.size = size) (hby : i.bytes = bytes) (hzs : z.cells.size = size) (hsz : 0 < size)
    {lo hi' n c : Nat} {A : Option Addr} {cs : List Value} (hs : a.eval s = .slice A n c) (hown : OwnC w lo hi' e size A n c cs) (hlo : lo ≤ w.heap.size)
    (c2 : Nat) (hx : a.eval x = .slice (some ⟨w.heap.size, 0, none⟩) 1 c2) (hl : u.length = size) (h1 : ∀ v ∈ u, v.oneCell' = true)
    (hn : n ≤ 1000000000000) (hb : bytes ≤ 100)
    (h : ∀ A' c' w', OwnC w' lo w'.heap.size e size A' (n + 1) c' (cs ++ u) → (w.alloc (.cells u.toArray te)).grownBy w' (Value.slice A n c).ownBlock → Below lo w w' → w.heap.size < w'.heap.size → wpList P ops Q rest (a.put o.dst (.slice A' (n + 1) c')) w') : wpList P ops Q (o :: rest) a (w.alloc (.cells u.toArray te)) := by
  refine wpList_appendC _ hgd s x t hop e i z size bytes ht hi hz hsize hby hzs hsz hs (hown.alloc _) (by simp; omega) (some ⟨w.heap.size, 0, none⟩) 1 c2 u hx (by omega) ?_ h1 (by unfold maxLen; omega) ?_ fun A' c' w' h2 h3 h4 => ?_
  · intro j v hv
    refine ⟨w.heap.size, 0, rfl, ?_⟩
    have := World.cell?_alloc_new w u.toArray te (0 + j)
    rw [this]
    simpa using hv
  · have : (n + 1) * bytes ≤ (n + 1) * 100 := Nat.mul_le_mul_left _ hb
    omega
  · have hz := h3.size
    simp only [World.size_alloc] at hz
    exact h A' c' w' h2 h3 (Below.trans ((Below.refl _ _).alloc hlo _) h4) (by omega)
theorem OwnC.lit {w : World} {lo n : Nat} (e : TypeId) (size : Nat) (cs : Array Value) (hlo : lo ≤ w.heap.size) (hn : n ≤ maxLen) (hs : cs.size = n * size) :
    OwnC (w.alloc (.cells cs e)) lo (w.heap.size + 1) e size (some ⟨w.heap.size, 0, none⟩) n n cs.toList :=
  ⟨World.ownsRow_lit w cs n hlo hn hs, fun a h => by injection h with h; subst h; exact Nat.lt_succ_self _⟩

end Go.Proofs.YtcgbogofmdjddaaDoor

/- Letters of braids: the plain functions; a slice of slices whose last one grows. -/
namespace Go.Proofs.YtcgbogofmdjddaaDoor
open Go.RowKit

def absI (x : Int) : Int := if x < 0 then -x else x
def letterB (n x : Int) : Bool := decide (x ≠ 0) && inR x (1 - n) (n - 1)
def lettersB (n : Int) (xs : List Int) : Bool := xs.all (letterB n)
def braidB (n : Int) (xs : List Int) : Bool := inR n 0 12 && decide (xs.length ≤ 40) && lettersB n xs
def touchB (a b : Int) : Bool := inR (absI a - absI b) (-1) 1
def touchAny (xs : List Int) (x : Int) : Bool := xs.any fun y => touchB y x
/-- All groups but the last, and the last. -/
def packStep (s : List (List Int) × List Int) (x : Int) : List (List Int) × List Int := if touchAny s.2 x then (s.1 ++ [s.2], [x]) else (s.1, s.2 ++ [x])
def packFrom (s : List (List Int) × List Int) (xs : List Int) : List (List Int) × List Int := xs.foldl packStep s
def pack : List Int → List (List Int)
  | [] => []
  | x :: xs => (packFrom ([], [x]) xs).1 ++ [(packFrom ([], [x]) xs).2]
def packP (n : Int) (xs : List Int) : List (List Int) := if braidB n xs then pack xs else []

def packS : List Int → Option (List (List Int) × List Int)
  | [] => none
  | x :: xs => some (packFrom ([], [x]) xs)
theorem touchB_comm (a b : Int) : touchB a b = touchB b a := by
  unfold touchB inR
  apply Bool.eq_iff_iff.2
  simp only [Bool.and_eq_true, decide_eq_true_eq]
  omega
theorem packFrom_snoc (s : List (List Int) × List Int) (xs : List Int) (x : Int) : packFrom s (xs ++ [x]) = packStep (packFrom s xs) x := by simp [packFrom]
theorem packS_none {xs : List Int} {x : Int} (h : packS xs = none) : packS (xs ++ [x]) = some ([], [x]) := by
  cases xs with
  | nil => rfl
  | cons y ys => cases h
theorem packS_some {xs : List Int} {x : Int} {s : List (List Int) × List Int} (h : packS xs = some s) : packS (xs ++ [x]) = some (packStep s x) := by
  cases xs with
  | nil => cases h
  | cons y ys =>
    injection h with h
    rw [List.cons_append, packS, packFrom_snoc, h]
theorem pack_of_none {xs : List Int} (h : packS xs = none) : pack xs = [] := by
  cases xs with
  | nil => rfl
  | cons y ys => cases h
theorem pack_of_some {xs : List Int} {a : List (List Int)} {l : List Int} (h : packS xs = some (a, l)) : pack xs = a ++ [l] := by
  cases xs with
  | nil => cases h
  | cons y ys =>
    injection h with h
    rw [pack, h]
theorem packFrom_cnt (s : List (List Int) × List Int) (xs : List Int) : cntII (packFrom s xs).1 + (packFrom s xs).2.length = cntII s.1 + s.2.length + xs.length := by
  induction xs generalizing s with
  | nil => rfl
  | cons x xs ih =>
    have h := ih (packStep s x)
    have e : packFrom s (x :: xs) = packFrom (packStep s x) xs := rfl
    rw [e, h]
    unfold packStep
    split
    · simp [cntII_append, cntII]; omega
    · simp; omega
theorem packFrom_len (s : List (List Int) × List Int) (xs : List Int) : (packFrom s xs).1.length ≤ s.1.length + xs.length := by
  induction xs generalizing s with
  | nil => simp [packFrom]
  | cons x xs ih =>
    have h := ih (packStep s x)
    have e : packFrom s (x :: xs) = packFrom (packStep s x) xs := rfl
    rw [e]
    have : (packStep s x).1.length ≤ s.1.length + 1 := by unfold packStep; split <;> simp
    simp only [List.length_cons]
    omega
theorem packS_len {xs : List Int} {a : List (List Int)} {l : List Int} (h : packS xs = some (a, l)) : a.length ≤ xs.length ∧ l.length ≤ xs.length := by
  cases xs with
  | nil => cases h
  | cons y ys =>
    injection h with h
    have h1 := packFrom_len ([], [y]) ys
    have h2 := packFrom_cnt ([], [y]) ys
    rw [h] at h1 h2
    simp [cntII] at h1 h2
    simp
    omega
theorem packFrom_mem {P : Int → Prop} (s : List (List Int) × List Int) (xs : List Int) (h : ∀ y ∈ s.2, P y) (hx : ∀ x ∈ xs, P x) : ∀ y ∈ (packFrom s xs).2, P y := by
  induction xs generalizing s with
  | nil => exact h
  | cons x xs ih =>
    have e : packFrom s (x :: xs) = packFrom (packStep s x) xs := rfl
    rw [e]
    refine ih _ ?_ fun y hy => hx y (by simp [hy])
    unfold packStep
    split
    · intro y hy
      simp at hy
      subst hy
      exact hx y (by simp)
    · intro y hy
      rcases List.mem_append.1 hy with hy | hy
      · exact h y hy
      · simp at hy
        subst hy
        exact hx y (by simp)
theorem packS_mem {P : Int → Prop} {xs : List Int} {a : List (List Int)} {l : List Int} (h : packS xs = some (a, l)) (hx : ∀ x ∈ xs, P x) : ∀ y ∈ l, P y := by
  cases xs with
  | nil => cases h
  | cons y ys =>
    injection h with h
    have := packFrom_mem (P := P) ([], [y]) ys (by simpa using hx y (by simp)) fun z hz => hx z (by simp [hz])
    rwa [h] at this
theorem pack_size (xs : List Int) : (pack xs).length ≤ xs.length ∧ cntII (pack xs) = xs.length := by
  cases xs with
  | nil => simp [pack, cntII]
  | cons x xs =>
    have h1 := packFrom_len ([], [x]) xs
    have h2 := packFrom_cnt ([], [x]) xs
    simp [cntII] at h1 h2
    simp [pack, cntII_append, cntII]
    omega
theorem braidB_of {n : Int} {xs : List Int} (h : braidB n xs = true) : 0 ≤ n ∧ n ≤ 12 ∧ xs.length ≤ 40 ∧ ∀ x ∈ xs, x ≠ 0 ∧ 1 - n ≤ x ∧ x ≤ n - 1 := by
  unfold braidB lettersB letterB inR at h
  simp only [Bool.and_eq_true, List.all_eq_true, decide_eq_true_eq] at h
  exact ⟨h.1.1.1, h.1.1.2, h.1.2, fun x hx => by have := h.2 x hx; exact ⟨this.1, this.2.1, this.2.2⟩⟩
theorem packP_size (n : Int) (xs : List Int) : (packP n xs).length ≤ 40 ∧ cntII (packP n xs) ≤ 40 := by
  unfold packP
  split
  · have := braidB_of (by assumption : braidB n xs = true)
    have := pack_size xs
    omega
  · simp [cntII]

/-- One more inner slice, in blocks behind those of the others. -/
theorem CellsII.snoc {w : World} {lo m hi : Nat} {cs : List Value} {xss : List (List Int)} {A' : Option Addr} {c' : Nat} {xs : List Int}
    (h : CellsII w lo m cs xss) (ho : OwnI w m hi A' c' xs) (h1 : lo ≤ m) (h2 : m ≤ hi) : CellsII w lo hi (cs ++ [.slice A' xs.length c']) (xss ++ [xs]) := by
  obtain ⟨ha, hb, hc⟩ := h
  refine ⟨by simp [ha], fun j ys hy => ?_, fun i j v v' g hi' hj hv hv' => ?_⟩
  · rcases Nat.lt_or_ge j xss.length with hj | hj
    · rw [List.getElem?_append_left hj] at hy
      obtain ⟨A2, c2, h5, h6⟩ := hb j ys hy
      exact ⟨A2, c2, by rw [List.getElem?_append_left (by omega)]; exact h5, h6.mono (Nat.le_refl _) h2⟩
    · have hjl := (List.getElem?_eq_some_iff.1 hy).1
      simp at hjl
      have : j = xss.length := by omega
      subst this
      simp at hy
      subst hy
      exact ⟨A', c', by rw [List.getElem?_append_right (by omega)]; simp [ha], ho.mono h1 (Nat.le_refl _)⟩
  · have new : (Value.slice A' xs.length c').ownBlock = some g → m ≤ g := fun e => (ho.own.lt g e).1
    have old : ∀ i v, i < cs.length → (cs ++ [Value.slice A' xs.length c'])[i]? = some v → v.ownBlock = some g → g < m := by
      intro i v hil h7 h8
      rw [List.getElem?_append_left hil] at h7
      obtain ⟨A2, c2, h5, h6⟩ := hb i _ (List.getElem?_eq_getElem (by omega))
      rw [h5] at h7
      injection h7 with h7
      subst h7
      cases A2 with
      | none => simp [Value.ownBlock] at h8
      | some a => simp [Value.ownBlock] at h8; subst h8; exact h6.lt a rfl
    have last : ∀ i v, ¬ i < cs.length → (cs ++ [Value.slice A' xs.length c'])[i]? = some v → i = cs.length ∧ v = .slice A' xs.length c' := by
      intro i v hn h7
      have hil := (List.getElem?_eq_some_iff.1 h7).1
      simp at hil
      have : i = cs.length := by omega
      subst this
      simp at h7
      exact ⟨rfl, h7.symm⟩
    by_cases ei : i < cs.length
    · by_cases ej : j < cs.length
      · rw [List.getElem?_append_left ei] at hi'
        rw [List.getElem?_append_left ej] at hj
        exact hc i j v v' g hi' hj hv hv'
      · obtain ⟨_, rfl⟩ := last j v' ej hj
        have := new hv'
        have := old i v ei hi' hv
        omega
    · by_cases ej : j < cs.length
      · obtain ⟨_, rfl⟩ := last i v ei hi'
        have := new hv
        have := old j v' ej hj hv'
        omega
      · have := last i v ei hi'
        have := last j v' ej hj
        omega

theorem OwnC.keepT {w w' : World} {lo hi : Nat} {e : TypeId} {sz : Nat} {A : Option Addr} {n c : Nat} {cs : List Value} (h : OwnC w lo hi e sz A n c cs) (hk : ∀ k cur, lo ≤ k → k < hi → w.heap[k]? = some (.cells cur e (0, 0)) → w'.heap[k]? = w.heap[k]?) : OwnC w' lo hi e sz A n c cs := by
  refine ⟨⟨h.own.1, ?_⟩, h.lt⟩
  rcases h.own.2 with h2 | ⟨g, cap, cur, h4, h5, h6, h7⟩
  · exact .inl h2
  · injection h4 with h4 hn h11
    subst h4 h11
    exact .inr ⟨g, c, cur, rfl, h5, by rw [hk g cur h5 (h.lt _ rfl) h6]; exact h6, h7⟩
theorem CellsII.keepT {w w' : World} {lo hi : Nat} {cs : List Value} {xss : List (List Int)} (h : CellsII w lo hi cs xss) (hk : ∀ k cur, lo ≤ k → k < hi → w.heap[k]? = some (.cells cur 2 (0, 0)) → w'.heap[k]? = w.heap[k]?) : CellsII w' lo hi cs xss :=
  ⟨h.1, fun k xs hx => by obtain ⟨A', c', h1, h2⟩ := h.2.1 k xs hx; exact ⟨A', c', h1, h2.keepT hk⟩, h.2.2⟩

/-- A slice of slices of the call's own, whose last one (l) lies in blocks behind those of the others. -/
structure OwnL (w : World) (lo hi : Nat) (A : Option Addr) (c : Nat) (xss : List (List Int)) (l : List Int) (A' : Option Addr) (c' m : Nat) (cs : List Value) : Prop where
  out : OwnC w lo hi 35 1 A (xss.length + 1) c (cs ++ [.slice A' l.length c'])
  cells : CellsII w lo m cs xss
  last : OwnI w m hi A' c' l
  lom : lo ≤ m
  mhi : m ≤ hi
section
variable {w w' : World} {lo hi : Nat} {A : Option Addr} {c : Nat} {xss : List (List Int)} {l : List Int} {A' : Option Addr} {c' m : Nat} {cs : List Value}
theorem OwnL.toII (h : OwnL w lo hi A c xss l A' c' m cs) : OwnII w lo hi A (xss ++ [l]).length c (xss ++ [l]) :=
  ⟨cs ++ [.slice A' l.length c'], by simpa using h.out, h.cells.snoc h.last h.lom h.mhi⟩
theorem OwnL.keep (h : OwnL w lo hi A c xss l A' c' m cs) (hk : ∀ k, lo ≤ k → k < hi → k < w.heap.size → w'.heap[k]? = w.heap[k]?) : OwnL w' lo hi A c xss l A' c' m cs :=
  ⟨h.out.keep hk, h.cells.keep fun k h1 h2 h3 => hk k h1 (by have := h.mhi; omega) h3, h.last.keep fun k h1 h2 h3 => hk k (by have := h.lom; omega) h2 h3, h.lom, h.mhi⟩
theorem OwnL.cell (h : OwnL w lo hi A c xss l A' c' m cs) : ∃ g, A = some ⟨g, 0, none⟩ ∧ lo ≤ g ∧ g < hi ∧ w.cell? ⟨g, xss.length, none⟩ = some (.slice A' l.length c') ∧ w.frozen? ⟨g, xss.length, none⟩ = false := by
  have hl : cs.length = xss.length := h.cells.1
  obtain ⟨g, rfl, h1, h2, h3, h4⟩ := h.out.cell (j := xss.length) (by simp [hl])
  exact ⟨g, rfl, h1, h2, by simpa [hl] using h3, h4⟩
/-- The last inner slice is put anew. -/
theorem OwnL.put {g : Nat} {A2 : Option Addr} {c2 : Nat} {l2 : List Int} (h : OwnL w lo hi (some ⟨g, 0, none⟩) c xss l A' c' m cs) (hhi : hi ≤ w.heap.size) (hg : w.grownBy w' (Value.slice A' l.length c').ownBlock) (ho : OwnI w' m w'.heap.size A2 c2 l2) :
    OwnL (w'.setCell ⟨g, xss.length, none⟩ (.slice A2 l2.length c2)) lo (w'.setCell ⟨g, xss.length, none⟩ (.slice A2 l2.length c2)).heap.size (some ⟨g, 0, none⟩) c xss l2 A2 c2 m cs ∧ w'.cell? ⟨g, xss.length, none⟩ = some (.slice A' l.length c') ∧ w'.frozen? ⟨g, xss.length, none⟩ = false := by
  have hl : cs.length = xss.length := h.cells.1
  have hz := hg.size
  have hlast : ∀ q, (Value.slice A' l.length c').ownBlock = some q → m ≤ q := fun q e => (h.last.own.lt q e).1
  have hne : ∀ q, (Value.slice A' l.length c').ownBlock = some q → q ≠ g := by
    intro q e
    rintro rfl
    rcases h.last.form with ⟨rfl, _⟩ | ⟨q', cur, rfl, _, _, h4, _⟩
    · simp [Value.ownBlock] at e
    · simp [Value.ownBlock] at e
      subst e
      rcases h.out.form with ⟨h5, _⟩ | ⟨q2, cur', h5, _, _, h6, _⟩
      · simp at h5
      · injection h5 with h5
        injection h5 with h5
        subst h5
        rw [h4] at h6
        injection h6 with h6
        injection h6 with _ h6
        simp at h6
  have hgl : g < w.heap.size := Nat.lt_of_lt_of_le (h.out.lt _ rfl) hhi
  have o1 : OwnC w' lo w'.heap.size 35 1 (some ⟨g, 0, none⟩) (xss.length + 1) c (cs ++ [.slice A' l.length c']) :=
    (h.out.keep1 fun q hq => by
      injection hq with hq
      injection hq with hq
      subst hq
      exact hg.block _ hgl fun e => hne _ e.symm rfl).mono (Nat.le_refl _) (Nat.le_trans hhi hz)
  have hset : (cs ++ [Value.slice A' l.length c']).set xss.length (.slice A2 l2.length c2) = cs ++ [.slice A2 l2.length c2] := by
    rw [← hl, List.set_append_right _ _ (Nat.le_refl _)]
    simp
  have o2 := (o1.store (j := xss.length) (.slice A2 l2.length c2)).1
  rw [hset] at o2
  have hgt : ∀ k cur, w'.heap[k]? = some (.cells cur 2 (0, 0)) → k ≠ g := by
    intro k cur h4 e
    subst e
    rcases o1.form with ⟨h5, _⟩ | ⟨q2, cur', h5, _, _, h6, _⟩
    · simp at h5
    · injection h5 with h5
      injection h5 with h5
      subst h5
      rw [h4] at h6
      injection h6 with h6
      injection h6 with _ h6
      simp at h6
  obtain ⟨_, hA, _, _, q1, q2⟩ := o1.cell (j := xss.length) (by simp [hl])
  injection hA with hA
  injection hA with hA
  subst hA
  refine ⟨⟨by simpa using o2, ?_, ?_, h.lom, by have := h.mhi; simp; omega⟩, by simpa [hl] using q1, q2⟩
  · refine CellsII.keepT (w := w) h.cells fun k cur h1 h2 h3 => ?_
    have hk3 : k < w.heap.size := (Array.getElem?_eq_some_iff.1 h3).1
    have e1 : w'.heap[k]? = w.heap[k]? := hg.block _ hk3 fun e => by have := hlast _ e.symm; omega
    rw [Below.heap_setCell w' _ _ k (hgt k cur (e1.trans h3)), e1]
  · refine (ho.keepT fun k cur h1 h2 h3 => Below.heap_setCell w' _ _ k (hgt k cur h3)).mono (Nat.le_refl _) (by simp)
/-- One more inner slice is appended; it lies in blocks from hi on. -/
theorem OwnL.next {A2 : Option Addr} {c2 : Nat} {A3 : Option Addr} {c3 : Nat} {l3 : List Int} (h : OwnL w lo hi A c xss l A' c' m cs) (hk : ∀ k cur, lo ≤ k → k < hi → w.heap[k]? = some (.cells cur 2 (0, 0)) → w'.heap[k]? = w.heap[k]?) (hhi : hi ≤ w'.heap.size)
    (ho : OwnC w' lo w'.heap.size 35 1 A2 (xss.length + 1 + 1) c2 ((cs ++ [.slice A' l.length c']) ++ [.slice A3 l3.length c3])) (h3 : OwnI w' hi w'.heap.size A3 c3 l3) :
    OwnL w' lo w'.heap.size A2 c2 (xss ++ [l]) l3 A3 c3 hi (cs ++ [.slice A' l.length c']) :=
  ⟨by simpa using ho, (h.cells.snoc h.last h.lom h.mhi).keepT hk, h3, Nat.le_trans h.lom h.mhi, hhi⟩
/-- The first inner slice. -/
theorem OwnL.one {w : World} {lo hi : Nat} {A : Option Addr} {c : Nat} {l : List Int} {A' : Option Addr} {c' : Nat} (m : Nat) (h : OwnC w lo hi 35 1 A 1 c [.slice A' l.length c']) (h' : OwnI w m hi A' c' l) (h1 : lo ≤ m) (h2 : m ≤ hi) : OwnL w lo hi A c [] l A' c' m [] :=
  ⟨by simpa using h, ⟨rfl, fun k xs hx => by simp at hx, fun i j v v' g hi' => by simp at hi'⟩, h', h1, h2⟩
end

end Go.Proofs.YtcgbogofmdjddaaDoor

/- Calls of functions that change nothing, in regions that draw. -/
namespace Go.Proofs.YtcgbogofmdjddaaDoor
open Go.RowKit

theorem quietS {P : Program} {f : FuncId} {args : Array Value} {w : World} {n : Nat} {v : Value}
    (h : Calls P f args (w.drewN n) fun e w' => e = .returned v ∧ w.drewN n = w') : Calls P f args (w.drewN n) fun e w'' => e = .returned v ∧ ∃ m, w'' = w.drewN m :=
  h.mono fun _ _ ⟨he, hm⟩ => ⟨he, n, hm.symm⟩

end Go.Proofs.YtcgbogofmdjddaaDoor
