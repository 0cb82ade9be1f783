/- ValidPieces. -/
import Derived.Test.YtdnchjchgejkeaaCO
import Derived.Test.YtdnchjchgejkeaaFP
import Derived.BigGuard
import Derived.BigCall
namespace Go.Proofs.Ytdnchjchgejkeaa
open Go.RowKit

def plainP (p : PieceD) : Bool := isStitchB p.kind && inR p.times 1 16 && decide (p.len = 0)
def groupP (d : Nat) (p : PieceD) (m : Nat) : Bool := inR p.times 0 16 && !(decide (p.times = 0) && decide (0 < d)) && inR p.len 1 m
def rangeP (d : Nat) : List PieceD → Option Nat
  | [] => some 0
  | p :: r =>
    if p.kind = 12 then
      if d < 3 ∧ groupP d p r.length = true then
        match rangeP (d + 1) (r.take p.len.toNat) with
        | none => none
        | some _ => (rangeP d (r.drop p.len.toNat)).map (fun o => (if p.times = 0 then 1 else 0) + o)
      else none
    else if plainP p then rangeP d r else none
termination_by l => l.length
decreasing_by all_goals (simp; try omega)
def okP : Option Nat → Bool
  | none => false
  | some o => decide (o ≤ 1)
def piecesB (ps : List PieceD) : Bool := decide (ps.length ≤ 24) && okP (rangeP 0 ps)
def segP (ps : List PieceD) (a b : Nat) : List PieceD := (ps.drop a).take (b - a)
theorem segP_nil (ps : List PieceD) (a : Nat) : segP ps a a = [] := by simp [segP]
theorem segP_all (ps : List PieceD) : segP ps 0 ps.length = ps := by simp [segP]
theorem segP_length {ps : List PieceD} {a b : Nat} (h : b ≤ ps.length) : (segP ps a b).length = b - a := by simp [segP]; omega
theorem segP_cons {ps : List PieceD} {a b : Nat} {p : PieceD} (hp : ps[a]? = some p) (h : a < b) : segP ps a b = p :: segP ps (a + 1) b := by
  unfold segP
  have ha : a < ps.length := by
    by_cases hlt : a < ps.length
    · exact hlt
    · rw [List.getElem?_eq_none (by omega)] at hp; cases hp
  rw [List.drop_eq_getElem_cons ha, show b - a = (b - (a + 1)) + 1 by omega, List.take_succ_cons]
  congr 1
  rw [List.getElem?_eq_getElem ha] at hp
  injection hp
theorem segP_take {ps : List PieceD} {a b n : Nat} (h : a + n ≤ b) : (segP ps a b).take n = segP ps a (a + n) := by
  unfold segP
  rw [List.take_take]
  congr 1
  omega
theorem segP_drop {ps : List PieceD} {a b n : Nat} : (segP ps a b).drop n = segP ps (a + n) b := by
  unfold segP
  rw [List.drop_take, List.drop_drop]
  congr 1
  omega
theorem rangeP_nil (d : Nat) : rangeP d [] = some 0 := by rw [rangeP]
theorem rangeP_plain {d : Nat} {p : PieceD} {r : List PieceD} (h : p.kind ≠ 12) (hp : plainP p = true) : rangeP d (p :: r) = rangeP d r := by rw [rangeP, if_neg h, if_pos hp]
theorem rangeP_bad {d : Nat} {p : PieceD} {r : List PieceD} (h : p.kind ≠ 12) (hp : plainP p = false) : rangeP d (p :: r) = none := by rw [rangeP, if_neg h, if_neg (by simp [hp])]
theorem rangeP_group {d : Nat} {p : PieceD} {r : List PieceD} (h : p.kind = 12) (hd : ¬ (d < 3 ∧ groupP d p r.length = true)) : rangeP d (p :: r) = none := by rw [rangeP, if_pos h, if_neg hd]
theorem rangeP_inner {d : Nat} {p : PieceD} {r : List PieceD} (h : p.kind = 12) (hi : rangeP (d + 1) (r.take p.len.toNat) = none) : rangeP d (p :: r) = none := by
  rw [rangeP, if_pos h]
  split
  · rw [hi]
  · rfl
theorem rangeP_open {d : Nat} {p : PieceD} {r : List PieceD} (h : p.kind = 12) (hd : d < 3) (hg : groupP d p r.length = true) (hi : (rangeP (d + 1) (r.take p.len.toNat)).isSome = true) : rangeP d (p :: r) = (rangeP d (r.drop p.len.toNat)).map (fun o => (if p.times = 0 then 1 else 0) + o) := by
  rw [rangeP, if_pos h, if_pos ⟨hd, hg⟩]
  split
  · rename_i e; rw [e] at hi; cases hi
  · rfl
theorem rangeP_zero (n d : Nat) (hd : 0 < d) : ∀ l : List PieceD, l.length ≤ n → ∀ o, rangeP d l = some o → o = 0 := by
  induction n with
  | zero =>
    intro l hl o h
    have : l = [] := by cases l <;> simp_all
    subst this
    rw [rangeP_nil] at h
    injection h with h
    exact h.symm
  | succ n ih =>
    intro l hl o h
    cases l with
    | nil => rw [rangeP_nil] at h; injection h with h; exact h.symm
    | cons p r =>
      simp at hl
      rw [rangeP] at h
      split at h
      · split at h
        · rename_i hg
          split at h
          · cases h
          · rw [Option.map_eq_some_iff] at h
            obtain ⟨o', ho', e⟩ := h
            have := ih _ (by simp; omega) o' ho'
            have ht : p.times ≠ 0 := by
              intro ht
              have := hg.2
              simp [groupP, ht, hd] at this
            rw [if_neg ht] at e
            omega
        · cases h
      · split at h
        · exact ih r hl o h
        · cases h
def openOf : Option Nat → Int
  | none => 0
  | some o => o

set_option maxHeartbeats 4000000 in
theorem spec_l16Range (ps : List PieceD) (A : Option Addr) (c : Nat) (hl : ps.length ≤ 1000) (m : Nat) : ∀ (a b d : Nat) (w : World), Pieces w A ps → b - a ≤ m → a ≤ b → b ≤ ps.length → d ≤ 3 →
    Calls Try.prog 139 #[.slice A ps.length c, .int .i64 a, .int .i64 b, .int .i64 d] w fun e w' => e = .returned (.tuple #[.int .i64 (openOf (rangeP d (segP ps a b))), .bool (rangeP d (segP ps a b)).isSome]) ∧ Below w.heap.size w w' := by
  induction m using Nat.strongRecOn with
  | ind m ih =>
  intro a b d w h hm hab hbl hd
  have IH := Lib.hid ih; clear ih
  go_enter Try.func139, Try.ntmps139
  go_wp2_with (fail)
  go_loopw [10, 11] (fun ov iv wr => ∃ (k o : Nat), a ≤ k ∧ k ≤ b ∧ o ≤ k ∧ ov = .int .i64 o ∧ iv = .int .i64 k ∧ rangeP d (segP ps a b) = (rangeP d (segP ps k b)).map (fun q => o + q) ∧ Below w.heap.size w wr) (fun _ iv _ => b - (intOf iv).toNat)
  case atStart => exact ⟨a, 0, Nat.le_refl _, hab, Nat.zero_le _, rfl, rfl, by simp, Below.refl _ _⟩
  case round =>
    obtain ⟨k, o, hak, hkb, hok, rfl, rfl, hr, hb⟩ := hrel
    have HR := Lib.hid hr; clear hr
    have hz := hb.size
    by_cases hlt : k < b
    · obtain ⟨b1, off, p, rfl, hp, p0, p1, p2⟩ := (h.below hb) k (by omega)
      have HS : Hid (segP ps k b = p :: segP ps (k + 1) b) := Lib.hid (segP_cons hp hlt)
      have HP := Lib.hid hp; clear hp
      have j1 : (0 : Int) ≤ (k : Int) := by omega
      have j2 : (k : Int) < (ps.length : Int) := by omega
      by_cases hk : p.kind = 12
      · have hk' : (p.kind != 12) = false := by simp [hk]
        have HL : Hid ((segP ps (k + 1) b).length = b - (k + 1)) := Lib.hid (segP_length hbl)
        have hcast : ((b - (k + 1) : Nat) : Int) = (b : Int) - (k : Int) - 1 := by omega
        have HG : Hid (groupP d p (segP ps (k + 1) b).length = (inR p.times 0 16 && !(decide (p.times = 0) && decide (0 < d)) && inR p.len 1 ((b : Int) - (k : Int) - 1))) := Lib.hid (by rw [HL.out, groupP, hcast])
        clear hcast
        by_cases hd3 : d < 3
        · have hd3' : decide ((3 : Int) ≤ (d : Int)) = false := decide_eq_false (by omega)
          cases ht : inR p.times 0 16
          · have HN : Hid (rangeP d (segP ps a b) = none) := Lib.hid (by rw [HR.out, HS.out, rangeP_group hk (by rw [HG.out, ht]; simp)]; rfl)
            clear hk
            set_option maxRecDepth 10000 in go_wp2_with (first | (go_at_call 162; refine (spec_l14Kind _ _).mono ?_; rintro e _ ⟨rfl, rfl⟩) | (go_at_call 86; refine (spec_l00In _ _ _ _).mono ?_; rintro e _ ⟨rfl, rfl⟩))
            go_ret2
            rw [HN.out]
            exact ⟨rfl, by (repeat (first | exact Below.refl _ _ | assumption | apply Below.drew | apply below_drewN | (refine Below.alloc ?_ (by first | omega | (simp; done) | (simp; omega)) _) | (refine Below.setCell ?_ (by first | omega | (simp; done) | (simp; omega)) _)))⟩
          · by_cases h0 : p.times = 0
            · have h0' : (p.times == 0) = true := by simp [h0]
              by_cases hd0 : 0 < d
              · have hd0' : decide ((0 : Int) < (d : Int)) = true := decide_eq_true (by omega)
                have HN : Hid (rangeP d (segP ps a b) = none) := Lib.hid (by rw [HR.out, HS.out, rangeP_group hk (by rw [HG.out, h0]; simp [hd0])]; rfl)
                clear hk h0
                set_option maxRecDepth 10000 in go_wp2_with (first | (go_at_call 162; refine (spec_l14Kind _ _).mono ?_; rintro e _ ⟨rfl, rfl⟩) | (go_at_call 86; refine (spec_l00In _ _ _ _).mono ?_; rintro e _ ⟨rfl, rfl⟩))
                go_ret2
                rw [HN.out]
                exact ⟨rfl, by (repeat (first | exact Below.refl _ _ | assumption | apply Below.drew | apply below_drewN | (refine Below.alloc ?_ (by first | omega | (simp; done) | (simp; omega)) _) | (refine Below.setCell ?_ (by first | omega | (simp; done) | (simp; omega)) _)))⟩
              · have hd0' : decide ((0 : Int) < (d : Int)) = false := decide_eq_false (by omega)
                cases hn : inR p.len 1 ((b : Int) - (k : Int) - 1)
                · have HN : Hid (rangeP d (segP ps a b) = none) := Lib.hid (by rw [HR.out, HS.out, rangeP_group hk (by rw [HG.out, hn]; simp)]; rfl)
                  clear hk h0
                  set_option maxRecDepth 10000 in go_wp2_with (first | (go_at_call 162; refine (spec_l14Kind _ _).mono ?_; rintro e _ ⟨rfl, rfl⟩) | (go_at_call 86; refine (spec_l00In _ _ _ _).mono ?_; rintro e _ ⟨rfl, rfl⟩))
                  go_ret2
                  rw [HN.out]
                  exact ⟨rfl, by (repeat (first | exact Below.refl _ _ | assumption | apply Below.drew | apply below_drewN | (refine Below.alloc ?_ (by first | omega | (simp; done) | (simp; omega)) _) | (refine Below.setCell ?_ (by first | omega | (simp; done) | (simp; omega)) _)))⟩
                · have HGT : Hid (groupP d p (segP ps (k + 1) b).length = true) := Lib.hid (by rw [HG.out, ht, hn]; simp; omega)
                  have h1 : 1 ≤ p.len ∧ p.len ≤ (b : Int) - (k : Int) - 1 := by simpa [inR] using hn
                  obtain ⟨n, hnl⟩ : ∃ n : Nat, p.len = (n : Int) := ⟨p.len.toNat, by omega⟩
                  have HNL := Lib.hid hnl
                  rw [hnl] at p2 hn h1
                  clear hnl
                  have hlen : k + 1 + n ≤ b := by omega
                  have HT : Hid ((segP ps (k + 1) b).take p.len.toNat = segP ps (k + 1) (k + 1 + n)) := Lib.hid (by rw [HNL.out]; exact segP_take hlen)
                  have HD : Hid ((segP ps (k + 1) b).drop p.len.toNat = segP ps (k + 1 + n) b) := Lib.hid (by rw [HNL.out]; exact segP_drop)
                  have HIC : Hid (∀ w2, Pieces w2 _ ps → _) := Lib.hid (fun w2 (h2 : Pieces w2 (some ⟨b1, off, none⟩) ps) => IH.out n (by omega) (k + 1) (k + 1 + n) (d + 1) w2 h2 (by omega) (by omega) (by omega) (by omega))
                  have f1 : ((k + 1 : Nat) : Int) = (k : Int) + 1 := by omega
                  have f2 : ((k + 1 + n : Nat) : Int) = (k : Int) + 1 + (n : Int) := by omega
                  have f3 : ((d + 1 : Nat) : Int) = (d : Int) + 1 := by omega
                  rw [f1, f2, f3] at HIC
                  clear f1 f2 f3
                  cases hin : (rangeP (d + 1) (segP ps (k + 1) (k + 1 + n))).isSome
                  · have HN : Hid (rangeP d (segP ps a b) = none) := Lib.hid (by rw [HR.out, HS.out, rangeP_inner hk (by rw [HT.out]; simpa using hin)]; rfl)
                    clear hk h0
                    set_option maxRecDepth 10000 in go_wp2_with (first | (go_at_call 162; refine (spec_l14Kind _ _).mono ?_; rintro e _ ⟨rfl, rfl⟩) | (go_at_call 86; refine (spec_l00In _ _ _ _).mono ?_; rintro e _ ⟨rfl, rfl⟩))
                    refine (HIC.out _ (h.below (by (repeat (first | exact Below.refl _ _ | assumption | apply Below.drew | apply below_drewN | (refine Below.alloc ?_ (by first | omega | (simp; done) | (simp; omega)) _) | (refine Below.setCell ?_ (by first | omega | (simp; done) | (simp; omega)) _)))))).mono ?_; rintro e w2 ⟨rfl, b2⟩
                    simp only [World.size_alloc] at b2
                    have k2 : Blk w2 wr.heap.size 102 #[.int .i64 p.kind, .int .i64 p.times, .int .i64 (n : Int)] := (Blk.new _ _ _).below b2 (by first | omega | (simp; done) | (simp; omega))
                    obtain ⟨s0, s1, s2⟩ := k2.c3
                    have hb2 : Below w.heap.size w w2 := Below.trans (by (repeat (first | exact Below.refl _ _ | assumption | apply Below.drew | apply below_drewN | (refine Below.alloc ?_ (by first | omega | (simp; done) | (simp; omega)) _) | (refine Below.setCell ?_ (by first | omega | (simp; done) | (simp; omega)) _)))) (b2.mono (by first | omega | (simp; done) | (simp; omega)))
                    set_option maxRecDepth 10000 in go_wp2_with (first | (go_at_call 162; refine (spec_l14Kind _ _).mono ?_; rintro e _ ⟨rfl, rfl⟩) | (go_at_call 86; refine (spec_l00In _ _ _ _).mono ?_; rintro e _ ⟨rfl, rfl⟩))
                    go_ret2
                    rw [HN.out]
                    exact ⟨rfl, hb2⟩
                  · have HQ : Hid (rangeP d (segP ps a b) = (rangeP d (segP ps (k + 1 + n) b)).map (fun q => (o + 1) + q)) := Lib.hid (by rw [HR.out, HS.out, rangeP_open hk hd3 HGT.out (by rw [HT.out]; exact hin), HD.out, Option.map_map]; congr 1; funext q; simp [h0]; omega)
                    clear hk h0
                    set_option maxRecDepth 10000 in go_wp2_with (first | (go_at_call 162; refine (spec_l14Kind _ _).mono ?_; rintro e _ ⟨rfl, rfl⟩) | (go_at_call 86; refine (spec_l00In _ _ _ _).mono ?_; rintro e _ ⟨rfl, rfl⟩))
                    refine (HIC.out _ (h.below (by (repeat (first | exact Below.refl _ _ | assumption | apply Below.drew | apply below_drewN | (refine Below.alloc ?_ (by first | omega | (simp; done) | (simp; omega)) _) | (refine Below.setCell ?_ (by first | omega | (simp; done) | (simp; omega)) _)))))).mono ?_; rintro e w2 ⟨rfl, b2⟩
                    simp only [World.size_alloc] at b2
                    have k2 : Blk w2 wr.heap.size 102 #[.int .i64 p.kind, .int .i64 p.times, .int .i64 (n : Int)] := (Blk.new _ _ _).below b2 (by first | omega | (simp; done) | (simp; omega))
                    obtain ⟨s0, s1, s2⟩ := k2.c3
                    have hb2 : Below w.heap.size w w2 := Below.trans (by (repeat (first | exact Below.refl _ _ | assumption | apply Below.drew | apply below_drewN | (refine Below.alloc ?_ (by first | omega | (simp; done) | (simp; omega)) _) | (refine Below.setCell ?_ (by first | omega | (simp; done) | (simp; omega)) _)))) (b2.mono (by first | omega | (simp; done) | (simp; omega)))
                    set_option maxRecDepth 10000 in go_wp2_with (first | (go_at_call 162; refine (spec_l14Kind _ _).mono ?_; rintro e _ ⟨rfl, rfl⟩) | (go_at_call 86; refine (spec_l00In _ _ _ _).mono ?_; rintro e _ ⟨rfl, rfl⟩))
                    exact ⟨⟨k + 1 + n, o + 1, by omega, by omega, by omega, by go_num, by go_num, HQ.out, hb2⟩, by simp [intOf]; omega⟩
            · have h0' : (p.times == 0) = false := by simpa using h0
              cases hn : inR p.len 1 ((b : Int) - (k : Int) - 1)
              · have HN : Hid (rangeP d (segP ps a b) = none) := Lib.hid (by rw [HR.out, HS.out, rangeP_group hk (by rw [HG.out, hn]; simp)]; rfl)
                clear hk h0
                set_option maxRecDepth 10000 in go_wp2_with (first | (go_at_call 162; refine (spec_l14Kind _ _).mono ?_; rintro e _ ⟨rfl, rfl⟩) | (go_at_call 86; refine (spec_l00In _ _ _ _).mono ?_; rintro e _ ⟨rfl, rfl⟩))
                go_ret2
                rw [HN.out]
                exact ⟨rfl, by (repeat (first | exact Below.refl _ _ | assumption | apply Below.drew | apply below_drewN | (refine Below.alloc ?_ (by first | omega | (simp; done) | (simp; omega)) _) | (refine Below.setCell ?_ (by first | omega | (simp; done) | (simp; omega)) _)))⟩
              · have HGT : Hid (groupP d p (segP ps (k + 1) b).length = true) := Lib.hid (by rw [HG.out, ht, hn]; simp [h0])
                have h1 : 1 ≤ p.len ∧ p.len ≤ (b : Int) - (k : Int) - 1 := by simpa [inR] using hn
                obtain ⟨n, hnl⟩ : ∃ n : Nat, p.len = (n : Int) := ⟨p.len.toNat, by omega⟩
                have HNL := Lib.hid hnl
                rw [hnl] at p2 hn h1
                clear hnl
                have hlen : k + 1 + n ≤ b := by omega
                have HT : Hid ((segP ps (k + 1) b).take p.len.toNat = segP ps (k + 1) (k + 1 + n)) := Lib.hid (by rw [HNL.out]; exact segP_take hlen)
                have HD : Hid ((segP ps (k + 1) b).drop p.len.toNat = segP ps (k + 1 + n) b) := Lib.hid (by rw [HNL.out]; exact segP_drop)
                have HIC : Hid (∀ w2, Pieces w2 _ ps → _) := Lib.hid (fun w2 (h2 : Pieces w2 (some ⟨b1, off, none⟩) ps) => IH.out n (by omega) (k + 1) (k + 1 + n) (d + 1) w2 h2 (by omega) (by omega) (by omega) (by omega))
                have f1 : ((k + 1 : Nat) : Int) = (k : Int) + 1 := by omega
                have f2 : ((k + 1 + n : Nat) : Int) = (k : Int) + 1 + (n : Int) := by omega
                have f3 : ((d + 1 : Nat) : Int) = (d : Int) + 1 := by omega
                rw [f1, f2, f3] at HIC
                clear f1 f2 f3
                cases hin : (rangeP (d + 1) (segP ps (k + 1) (k + 1 + n))).isSome
                · have HN : Hid (rangeP d (segP ps a b) = none) := Lib.hid (by rw [HR.out, HS.out, rangeP_inner hk (by rw [HT.out]; simpa using hin)]; rfl)
                  clear hk h0
                  set_option maxRecDepth 10000 in go_wp2_with (first | (go_at_call 162; refine (spec_l14Kind _ _).mono ?_; rintro e _ ⟨rfl, rfl⟩) | (go_at_call 86; refine (spec_l00In _ _ _ _).mono ?_; rintro e _ ⟨rfl, rfl⟩))
                  refine (HIC.out _ (h.below (by (repeat (first | exact Below.refl _ _ | assumption | apply Below.drew | apply below_drewN | (refine Below.alloc ?_ (by first | omega | (simp; done) | (simp; omega)) _) | (refine Below.setCell ?_ (by first | omega | (simp; done) | (simp; omega)) _)))))).mono ?_; rintro e w2 ⟨rfl, b2⟩
                  simp only [World.size_alloc] at b2
                  have k2 : Blk w2 wr.heap.size 102 #[.int .i64 p.kind, .int .i64 p.times, .int .i64 (n : Int)] := (Blk.new _ _ _).below b2 (by first | omega | (simp; done) | (simp; omega))
                  obtain ⟨s0, s1, s2⟩ := k2.c3
                  have hb2 : Below w.heap.size w w2 := Below.trans (by (repeat (first | exact Below.refl _ _ | assumption | apply Below.drew | apply below_drewN | (refine Below.alloc ?_ (by first | omega | (simp; done) | (simp; omega)) _) | (refine Below.setCell ?_ (by first | omega | (simp; done) | (simp; omega)) _)))) (b2.mono (by first | omega | (simp; done) | (simp; omega)))
                  set_option maxRecDepth 10000 in go_wp2_with (first | (go_at_call 162; refine (spec_l14Kind _ _).mono ?_; rintro e _ ⟨rfl, rfl⟩) | (go_at_call 86; refine (spec_l00In _ _ _ _).mono ?_; rintro e _ ⟨rfl, rfl⟩))
                  go_ret2
                  rw [HN.out]
                  exact ⟨rfl, hb2⟩
                · have HQ : Hid (rangeP d (segP ps a b) = (rangeP d (segP ps (k + 1 + n) b)).map (fun q => (o) + q)) := Lib.hid (by rw [HR.out, HS.out, rangeP_open hk hd3 HGT.out (by rw [HT.out]; exact hin), HD.out, Option.map_map]; congr 1; funext q; simp [h0])
                  clear hk h0
                  set_option maxRecDepth 10000 in go_wp2_with (first | (go_at_call 162; refine (spec_l14Kind _ _).mono ?_; rintro e _ ⟨rfl, rfl⟩) | (go_at_call 86; refine (spec_l00In _ _ _ _).mono ?_; rintro e _ ⟨rfl, rfl⟩))
                  refine (HIC.out _ (h.below (by (repeat (first | exact Below.refl _ _ | assumption | apply Below.drew | apply below_drewN | (refine Below.alloc ?_ (by first | omega | (simp; done) | (simp; omega)) _) | (refine Below.setCell ?_ (by first | omega | (simp; done) | (simp; omega)) _)))))).mono ?_; rintro e w2 ⟨rfl, b2⟩
                  simp only [World.size_alloc] at b2
                  have k2 : Blk w2 wr.heap.size 102 #[.int .i64 p.kind, .int .i64 p.times, .int .i64 (n : Int)] := (Blk.new _ _ _).below b2 (by first | omega | (simp; done) | (simp; omega))
                  obtain ⟨s0, s1, s2⟩ := k2.c3
                  have hb2 : Below w.heap.size w w2 := Below.trans (by (repeat (first | exact Below.refl _ _ | assumption | apply Below.drew | apply below_drewN | (refine Below.alloc ?_ (by first | omega | (simp; done) | (simp; omega)) _) | (refine Below.setCell ?_ (by first | omega | (simp; done) | (simp; omega)) _)))) (b2.mono (by first | omega | (simp; done) | (simp; omega)))
                  set_option maxRecDepth 10000 in go_wp2_with (first | (go_at_call 162; refine (spec_l14Kind _ _).mono ?_; rintro e _ ⟨rfl, rfl⟩) | (go_at_call 86; refine (spec_l00In _ _ _ _).mono ?_; rintro e _ ⟨rfl, rfl⟩))
                  exact ⟨⟨k + 1 + n, o, by omega, by omega, by omega, by go_num, by go_num, HQ.out, hb2⟩, by simp [intOf]; omega⟩
        · have hd3' : decide ((3 : Int) ≤ (d : Int)) = true := decide_eq_true (by omega)
          have HN : Hid (rangeP d (segP ps a b) = none) := Lib.hid (by rw [HR.out, HS.out, rangeP_group hk (by omega)]; rfl)
          clear hk
          set_option maxRecDepth 10000 in go_wp2_with (first | (go_at_call 162; refine (spec_l14Kind _ _).mono ?_; rintro e _ ⟨rfl, rfl⟩) | (go_at_call 86; refine (spec_l00In _ _ _ _).mono ?_; rintro e _ ⟨rfl, rfl⟩))
          go_ret2
          rw [HN.out]
          exact ⟨rfl, by (repeat (first | exact Below.refl _ _ | assumption | apply Below.drew | apply below_drewN | (refine Below.alloc ?_ (by first | omega | (simp; done) | (simp; omega)) _) | (refine Below.setCell ?_ (by first | omega | (simp; done) | (simp; omega)) _)))⟩
      · have hk' : (p.kind != 12) = true := by simpa using hk
        cases t1 : isStitchB p.kind
        · have HN : Hid (rangeP d (segP ps a b) = none) := Lib.hid (by rw [HR.out, HS.out, rangeP_bad hk (by simp [plainP, t1])]; rfl)
          clear hk
          set_option maxRecDepth 10000 in go_wp2_with (first | (go_at_call 162; refine (spec_l14Kind _ _).mono ?_; rintro e _ ⟨rfl, rfl⟩) | (go_at_call 86; refine (spec_l00In _ _ _ _).mono ?_; rintro e _ ⟨rfl, rfl⟩))
          go_ret2
          rw [HN.out]
          exact ⟨rfl, by (repeat (first | exact Below.refl _ _ | assumption | apply Below.drew | apply below_drewN | (refine Below.alloc ?_ (by first | omega | (simp; done) | (simp; omega)) _) | (refine Below.setCell ?_ (by first | omega | (simp; done) | (simp; omega)) _)))⟩
        · cases t2 : inR p.times 1 16
          · have HN : Hid (rangeP d (segP ps a b) = none) := Lib.hid (by rw [HR.out, HS.out, rangeP_bad hk (by simp [plainP, t2])]; rfl)
            clear hk
            set_option maxRecDepth 10000 in go_wp2_with (first | (go_at_call 162; refine (spec_l14Kind _ _).mono ?_; rintro e _ ⟨rfl, rfl⟩) | (go_at_call 86; refine (spec_l00In _ _ _ _).mono ?_; rintro e _ ⟨rfl, rfl⟩))
            go_ret2
            rw [HN.out]
            exact ⟨rfl, by (repeat (first | exact Below.refl _ _ | assumption | apply Below.drew | apply below_drewN | (refine Below.alloc ?_ (by first | omega | (simp; done) | (simp; omega)) _) | (refine Below.setCell ?_ (by first | omega | (simp; done) | (simp; omega)) _)))⟩
          · by_cases t3 : p.len = 0
            · have HPL : Hid (rangeP d (segP ps k b) = rangeP d (segP ps (k + 1) b)) := Lib.hid (by rw [HS.out, rangeP_plain hk (by simp [plainP, t1, t2, t3])])
              have t3' : (p.len != 0) = false := by simp [t3]
              clear t3 hk
              set_option maxRecDepth 10000 in go_wp2_with (first | (go_at_call 162; refine (spec_l14Kind _ _).mono ?_; rintro e _ ⟨rfl, rfl⟩) | (go_at_call 86; refine (spec_l00In _ _ _ _).mono ?_; rintro e _ ⟨rfl, rfl⟩))
              exact ⟨⟨k + 1, o, by omega, by omega, by omega, rfl, by go_num, by rw [HR.out, HPL.out], by (repeat (first | exact Below.refl _ _ | assumption | apply Below.drew | apply below_drewN | (refine Below.alloc ?_ (by first | omega | (simp; done) | (simp; omega)) _) | (refine Below.setCell ?_ (by first | omega | (simp; done) | (simp; omega)) _)))⟩, by simp [intOf]; omega⟩
            · have t3' : (p.len != 0) = true := by simpa using t3
              have HN : Hid (rangeP d (segP ps a b) = none) := Lib.hid (by rw [HR.out, HS.out, rangeP_bad hk (by simp [plainP, t3])]; rfl)
              clear hk t3
              set_option maxRecDepth 10000 in go_wp2_with (first | (go_at_call 162; refine (spec_l14Kind _ _).mono ?_; rintro e _ ⟨rfl, rfl⟩) | (go_at_call 86; refine (spec_l00In _ _ _ _).mono ?_; rintro e _ ⟨rfl, rfl⟩))
              go_ret2
              rw [HN.out]
              exact ⟨rfl, by (repeat (first | exact Below.refl _ _ | assumption | apply Below.drew | apply below_drewN | (refine Below.alloc ?_ (by first | omega | (simp; done) | (simp; omega)) _) | (refine Below.setCell ?_ (by first | omega | (simp; done) | (simp; omega)) _)))⟩
    · go_wp2_with (fail)
      go_ret2
      have : k = b := by omega
      subst this
      have e := HR.out
      rw [segP_nil, rangeP_nil] at e
      rw [e]
      exact ⟨rfl, hb⟩

end Go.Proofs.Ytdnchjchgejkeaa
