/- NeedOf, the given side. -/
import Derived.Test.YtdnchjchgejkeaaNP
import Derived.Test.YtdnchjchgejkeaaVQ
import Derived.Test.YtdnchjchgejkeaaRQ
import Derived.Deep.RegionLaw
import Derived.Test.YtdnchjchgejkeaaRP
namespace Go.Proofs.Ytdnchjchgejkeaa
open Go.RowKit

theorem good_bound (n : Nat) : ∀ (d : Nat) (l : List PieceD), l.length ≤ n → Good d l → ∀ (k : Nat) (p : PieceD), l[k]? = some p → p.kind = 12 → 1 ≤ p.len ∧ (k : Int) + 1 + p.len ≤ l.length := by
  induction n with
  | zero => intro d l hl _ k p hp; have : l = [] := by cases l <;> simp_all
            subst this; simp at hp
  | succ n ih =>
    intro d l hl h k p hp hk
    cases l with
    | nil => simp at hp
    | cons q r =>
      simp only [List.length_cons] at hl ⊢
      by_cases hq : q.kind = 12
      · obtain ⟨_, h1, h2, _, _, h3, h4, h5⟩ := good_group h hq
        cases k with
        | zero => simp at hp; subst hp; omega
        | succ k =>
          simp only [List.getElem?_cons_succ] at hp
          by_cases hkn : k < q.len.toNat
          · have := ih (d + 1) (r.take q.len.toNat) (by simp; omega) h4 k p (by rw [List.getElem?_take_of_lt hkn]; exact hp) hk
            have hl2 : (r.take q.len.toNat).length ≤ r.length := by simp; omega
            omega
          · have := ih d (r.drop q.len.toNat) (by simp; omega) h5 (k - q.len.toNat) p (by rw [List.getElem?_drop, show q.len.toNat + (k - q.len.toNat) = k by omega]; exact hp) hk
            have hl2 : (r.drop q.len.toNat).length = r.length - q.len.toNat := by simp
            omega
      · cases k with
        | zero => simp at hp; subst hp; exact absurd hk hq
        | succ k =>
          have := ih d r (by omega) (good_plain h hq).2 k p (by simpa using hp) hk
          omega

set_option maxHeartbeats 4000000 in
set_option maxRecDepth 10000 in
theorem spec_l16Sum (cnt : Bool) (m : Nat) : ∀ (ps : List PieceD) (A : Option Addr) (c d : Nat) (w : World), ps.length ≤ m → ps.length ≤ 1000 → ps.length ≤ c → c ≤ 9223372036854775807 → Pieces w A ps → Good d ps →
    Calls Try.prog 101 #[.slice A ps.length c, .bool cnt] w fun e w' => e = .returned (.int .i64 (sumP cnt ps 0)) ∧ Below w.heap.size w w' := by
  induction m using Nat.strongRecOn with
  | ind m ih =>
  intro ps A c d w hm hl hc hcm h hg
  have IH := Lib.hid ih; clear ih
  go_enter Try.func101, Try.ntmps101
  go_wp2_with (fail)
  go_loopw [5, 6] (fun ov iv wr => ∃ (k : Nat) (acc : Int), k ≤ ps.length ∧ ov = .int .i64 acc ∧ iv = .int .i64 k ∧ Hid (sumP cnt ps 0 = sumP cnt (ps.drop k) acc) ∧ Hid (Good d (ps.drop k)) ∧ Below w.heap.size w wr) (fun _ iv _ => ps.length - (intOf iv).toNat)
  case atStart => exact ⟨0, 0, Nat.zero_le _, rfl, rfl, Lib.hid rfl, Lib.hid hg, Below.refl _ _⟩
  case round =>
    obtain ⟨k, acc, hk, rfl, rfl, HS, HG, hb⟩ := hrel
    have hz := hb.size
    by_cases hlt : k < ps.length
    · obtain ⟨b1, off, p, rfl, hp, p0, p1, p2⟩ := (h.below hb) k hlt
      have HP := Lib.hid hp; clear hp
      have j1 : (0 : Int) ≤ (k : Int) := by omega
      have j2 : (k : Int) < (ps.length : Int) := by omega
      by_cases hk12 : p.kind = 12
      · have hk' : (p.kind == 12) = true := by simp [hk12]
        obtain ⟨n, hnl, hn1, hn2, _, _, _, _, hg2, hg3, hs2, _⟩ := good_at_group HG.out HP.out hk12
        have HS2 : Hid (sumP cnt (ps.drop k) acc = sumP cnt (ps.drop (k + 1 + n)) (wrap64 (acc + wrap64 (p.times * sumP cnt (segP ps (k + 1) (k + 1 + n)) 0)))) := Lib.hid (hs2 cnt acc)
        have HG3 := Lib.hid hg3; clear hg3 hs2
        rw [hnl] at p2
        have i1 : (k : Int) + 1 ≤ (k : Int) + 1 + (n : Int) := by omega
        have i2 : (k : Int) + 1 + (n : Int) ≤ (c : Int) := by omega
        have w1 : IntKind.i64.wrap ((k : Int) + 1) = (k : Int) + 1 := IntWalk.i64_in _ (by omega)
        have w2 : IntKind.i64.wrap ((k : Int) + 1 + (n : Int)) = (k : Int) + 1 + (n : Int) := IntWalk.i64_in _ (by omega)
        have w3 : ((k : Int) + 1).toNat = k + 1 := by omega
        have w4 : ((k : Int) + 1 + (n : Int)).toNat = k + 1 + n := by omega
        have w5 : (0 : Int) ≤ (k : Int) + 1 := by omega
        have w6 : (0 : Int) ≤ (k : Int) + 1 + (n : Int) := by omega
        have w7 : (k : Int) + 1 ≤ max ((k : Int) + 1 + (n : Int)) 0 := by omega
        have w8 : ¬ c = k + 1 := by omega
        have w9 : k + 1 + n - (k + 1) = n := by omega
        have hsl : (segP ps (k + 1) (k + 1 + n)).length = n := by rw [segP_length hn2]; omega
        have HIC : Hid (∀ (W : World), Below w.heap.size w W → Calls Try.prog 101 #[.slice (some ⟨b1, off + (k + 1) * 3, none⟩) n (c - (k + 1)), .bool cnt] W fun e w' => e = .returned (.int .i64 (sumP cnt (segP ps (k + 1) (k + 1 + n)) 0)) ∧ Below W.heap.size W w') := Lib.hid (fun W hW => by
          have := IH.out n (by omega) (segP ps (k + 1) (k + 1 + n)) (some ⟨b1, off + (k + 1) * 3, none⟩) (c - (k + 1)) (d + 1) W (by rw [hsl]; exact Nat.le_refl _) (by rw [hsl]; omega) (by rw [hsl]; omega) (by omega) ((Pieces.seg h hn2).below hW) hg2
          rwa [hsl] at this)
        clear hsl hg2 hnl hk12
        have hba : Below w.heap.size w (wr.alloc (.cells #[.int .i64 p.kind, .int .i64 p.times, .int .i64 (n : Int)] 102)) := by (repeat (first | exact Below.refl _ _ | assumption | apply Below.drew | apply below_drewN | (refine Below.alloc ?_ (by first | omega | (simp; done) | (simp; omega)) _) | (refine Below.setCell ?_ (by first | omega | (simp; done) | (simp; omega)) _)))
        obtain ⟨u0, u1, u2⟩ := (Blk.new wr 102 #[.int .i64 p.kind, .int .i64 p.times, .int .i64 (n : Int)]).c3
        go_wp2_with (fail)
        go_region_law (go_simp; go_at_call 101; refine (HIC.out _ (Below.drew2 hba)).mono ?_; rintro e w2 ⟨rfl, b2'⟩; have b2 := undrew b2'; obtain ⟨v0, v1, v2⟩ := ((Blk.new wr 102 #[.int .i64 p.kind, .int .i64 p.times, .int .i64 (n : Int)]).below b2 (by simp)).c3)
        all_goals go_wp2_with (fail)
        all_goals
          simp only [World.size_alloc] at b2
          have hb2 : Below w.heap.size w w2 := hba.trans (b2.mono (by omega))
          refine ⟨⟨k + 1 + n, wrap64 (acc + wrap64 (p.times * sumP cnt (segP ps (k + 1) (k + 1 + n)) 0)), by omega, rfl, by go_num, Lib.hid (by rw [HS.out, HS2.out]), Lib.hid HG3.out, hb2⟩, by simp [intOf]; omega⟩
      · have hk' : (p.kind == 12) = false := by simp [hk12]
        obtain ⟨_, hg2⟩ := good_at_plain HG.out HP.out hk12
        have HG2 := Lib.hid hg2; clear hg2
        have HS2 := Lib.hid (sum_at_plain HP.out hk12 cnt acc)
        clear hk12
        have hba : Below w.heap.size w (wr.alloc (.cells #[.int .i64 p.kind, .int .i64 p.times, .int .i64 p.len] 102)) := by (repeat (first | exact Below.refl _ _ | assumption | apply Below.drew | apply below_drewN | (refine Below.alloc ?_ (by first | omega | (simp; done) | (simp; omega)) _) | (refine Below.setCell ?_ (by first | omega | (simp; done) | (simp; omega)) _)))
        obtain ⟨u0, u1, u2⟩ := (Blk.new wr 102 #[.int .i64 p.kind, .int .i64 p.times, .int .i64 p.len]).c3
        cases cnt
        · go_wp2_with (fail)
          go_region_law (go_simp; go_at_call 149; refine (spec_ColumnsTaken _ _).mono ?_; rintro e w2 ⟨rfl, b2'⟩; have b2 := undrew b2'; obtain ⟨v0, v1, v2⟩ := ((Blk.new wr 102 #[.int .i64 p.kind, .int .i64 p.times, .int .i64 p.len]).below b2 (by simp)).c3)
          all_goals go_wp2_with (fail)
          all_goals
            simp only [World.size_alloc] at b2
            have hb2 : Below w.heap.size w w2 := hba.trans (b2.mono (by omega))
            refine ⟨⟨k + 1, wrap64 (acc + wrap64 (p.times * takenB p.kind)), by omega, rfl, by go_num, Lib.hid (by rw [HS.out, HS2.out]; rfl), Lib.hid HG2.out, hb2⟩, by simp [intOf]; omega⟩
        · go_wp2_with (fail)
          go_roundw
          case rel => exact ⟨k + 1, wrap64 (acc + p.times), by omega, rfl, by go_num, Lib.hid (by rw [HS.out, HS2.out]; rfl), Lib.hid HG2.out, hba⟩
          case measure => simp [intOf]; omega
    · have he := HS.out
      rw [drop_all (by omega), sumP_nil] at he
      go_wp2_with (fail)
      go_ret
      exact ⟨by rw [he]; rfl, hb⟩

set_option maxHeartbeats 4000000 in
theorem spec_l16Open (ps : List PieceD) (A : Option Addr) (c : Nat) (w : World) (hl : ps.length ≤ 1000) (hc : ps.length ≤ c) (hcm : c ≤ 9223372036854775807) (h : Pieces w A ps) (hg : Good 0 ps) :
    Calls Try.prog 100 #[.slice A ps.length c] w fun e w' => (∃ A' c' ok, e = .returned (.tuple #[.slice A' (openPart ps).length c', .bool ok]) ∧ Pieces w A' (openPart ps) ∧ (openPart ps).length ≤ c' ∧ c' ≤ 9223372036854775807) ∧ w = w' := by
  have HB : Hid (∀ (k : Nat) (p : PieceD), ps[k]? = some p → p.kind = 12 → 1 ≤ p.len ∧ (k : Int) + 1 + p.len ≤ ps.length) := Lib.hid (good_bound ps.length 0 ps (Nat.le_refl _) hg)
  go_enter Try.func100, Try.ntmps100
  go_wp2_with (fail)
  go_loopw [4] (fun iv wr => ∃ (k : Nat), k ≤ ps.length ∧ iv = .int .i64 k ∧ Hid (openPart ps = openPart (ps.drop k)) ∧ w = wr) (fun iv _ => ps.length - (intOf iv).toNat)
  case atStart => exact ⟨0, Nat.zero_le _, rfl, Lib.hid rfl, rfl⟩
  case round =>
    obtain ⟨k, hk, rfl, HO, rfl⟩ := hrel
    by_cases hlt : k < ps.length
    · obtain ⟨b1, off, p, rfl, hp, p0, p1, p2⟩ := h k hlt
      have HP := Lib.hid hp; clear hp
      have j1 : (0 : Int) ≤ (k : Int) := by omega
      have j2 : (k : Int) < (ps.length : Int) := by omega
      by_cases hk12 : p.kind = 12
      · have hk' : (p.kind == 12) = true := by simp [hk12]
        by_cases ht : p.times = 0
        · have ht' : (p.times == 0) = true := by simp [ht]
          obtain ⟨h1, h2⟩ := HB.out k p HP.out hk12
          obtain ⟨n, hnl⟩ : ∃ n : Nat, p.len = (n : Int) := ⟨p.len.toNat, by omega⟩
          have HE : Hid (openPart ps = segP ps (k + 1) (k + 1 + n)) := Lib.hid (by
            rw [HO.out, drop_cons HP.out, openPart, if_pos ⟨hk12, ht⟩, hnl]
            unfold segP
            congr 1
            simp)
          rw [hnl] at p2 h1 h2
          clear hnl hk12 ht
          have hsl : Hid ((segP ps (k + 1) (k + 1 + n)).length = n) := Lib.hid (by rw [segP_length (by omega)]; omega)
          have i1 : (k : Int) + 1 ≤ (k : Int) + 1 + (n : Int) := by omega
          have i2 : (k : Int) + 1 + (n : Int) ≤ (c : Int) := by omega
          have w9 : k + 1 + n - (k + 1) = n := by omega
          have HSEG : Hid (Pieces w (some ⟨b1, off + (k + 1) * 3, none⟩) (segP ps (k + 1) (k + 1 + n))) := Lib.hid (Pieces.seg h (by omega))
          go_wp2_with (fail)
          go_ret2
          rw [HE.out]
          exact ⟨⟨_, c - (k + 1), true, by rw [hsl.out]; first | rfl | (rw [w9]; rfl), HSEG.out, by rw [hsl.out]; omega, by omega⟩, rfl⟩
        · have ht' : (p.times == 0) = false := by simp [ht]
          have HE : Hid (openPart ps = openPart (ps.drop (k + 1))) := Lib.hid (by rw [HO.out, drop_cons HP.out, openPart, if_neg (fun e => ht e.2)])
          clear hk12 ht
          go_wp2_with (fail)
          go_roundw
          case rel => exact ⟨k + 1, by omega, by go_num, HE, trivial⟩
          case measure => simp [intOf]; omega
      · have hk' : (p.kind == 12) = false := by simp [hk12]
        have HE : Hid (openPart ps = openPart (ps.drop (k + 1))) := Lib.hid (by rw [HO.out, drop_cons HP.out, openPart, if_neg (fun e => hk12 e.1)])
        clear hk12
        go_wp2_with (fail)
        go_roundw
        case rel => exact ⟨k + 1, by omega, by go_num, HE, trivial⟩
        case measure => simp [intOf]; omega
    · have he := HO.out
      rw [drop_all (by omega), openPart] at he
      have HE := Lib.hid he; clear he
      go_wp2_with (fail)
      go_ret2
      rw [HE.out]
      exact ⟨⟨none, 0, false, rfl, Pieces.nil, by simp, by omega⟩, rfl⟩

end Go.Proofs.Ytdnchjchgejkeaa
