/- Steps of the proof, joined from several texts: HU. -/
import Derived.Test.YthjamohaeahipaaGreatZ17
import Derived.Test.YthjamohaeahipaaGreatZ13
import Derived.Test.YthjamohaeahipaaGreatZ5
import Derived.Deep.CutBlock

/- Knitting by hand, the program's side: begin. -/
namespace Go.Proofs.YthjamohaeahipaaGreat
open Go Go.RowKit

theorem impl_hcross {lo g q : Nat} {cur : Array Value} {d car k : Int} {vk : Value} {s : HS} {w : World} (hst : isStitchB k = true) (h0 : signI k ≠ 0) (h : IHd (some (q, cur)) lo g d car vk w s) (hlq : lo ≤ q) {p : Int} (hp : 0 ≤ p ∧ p ≤ 100) {c : List Int} {n : Nat} (hn : n = takenN k) (hlen : c.length = n) (hnn : NN c) (hsum : sumI c ≤ 100) {l2 h2 c3 : Nat} (ho : OwnC w l2 h2 2 1 (some ⟨q, 0, none⟩) n c3 (c.map (Value.int .i64))) (hl : s.evs.length ≤ 50000) :
    Calls Tryz.prog 74 #[.pointer (some ⟨g, 0, none⟩), .int .i64 k, .int .i64 p, .slice (some ⟨q, 0, none⟩) n c3] w fun e w' => e = .returned (.tuple #[]) ∧ (∃ cur', IHd (some (q, cur')) lo g d car vk w' ⟨s.evs ++ evX p k c, s.cells⟩) ∧
      OwnC w' l2 h2 2 1 (some ⟨q, 0, none⟩) n c3 ((ownX k c).map (Value.int .i64)) ∧ Below lo w w' ∧ ∀ (k : Nat) (cz : Array Value), k ≠ q → Blk w k 2 cz → Blk w' k 2 cz := by
  subst hn
  have e1 : evX p k c = crossEvs p (signI k) (sumI (c.take (c.length / 2))).toNat (sumI (c.drop (c.length / 2))).toNat := by unfold evX; rw [if_neg h0]
  have e2 : ownX k c = c.drop (c.length / 2) ++ c.take (c.length / 2) := by unfold ownX; rw [if_neg h0]
  rw [e1, e2, hlen]
  rcases stitch_cases hst with rfl | rfl | rfl | rfl | rfl | rfl | rfl | rfl | rfl | rfl | rfl
  · exact absurd rfl h0
  · exact absurd rfl h0
  · exact absurd rfl h0
  · exact absurd rfl h0
  · exact impl_hcross_5 h hlq hp hlen hnn hsum ho hl
  · exact absurd rfl h0
  · exact absurd rfl h0
  · exact impl_hcross_8 h hlq hp hlen hnn hsum ho hl
  · exact impl_hcross_9 h hlq hp hlen hnn hsum ho hl
  · exact impl_hcross_10 h hlq hp hlen hnn hsum ho hl
  · exact impl_hcross_11 h hlq hp hlen hnn hsum ho hl

/-- One more stitch's columns behind the others. -/
theorem IHd.pushRow {lo g : Nat} {d car : Int} {vk : Value} {z : Option (Nat × Array Value)} {wx w6 : World} {evs : List EventD} {cells : List (List Int)} {AE AC A4 A6 : Option Addr} {cE cC c4 c6 n l2 h2 : Nat} {cs : List Value} {own : List Int}
    (hk : Blk wx g 73 #[.int .i64 d, .int .i64 car, vk, .slice AC cells.length cC, .slice AE evs.length cE]) (hev : OwnEvent wx lo wx.heap.size AE cE evs) (hc1 : OwnC wx lo wx.heap.size 24 1 AC cells.length cC cs) (hc2 : CellsII wx lo wx.heap.size cs cells) (hcz : OffZ z wx cs) (hlo : lo ≤ g)
    (hn : own.length = n) (hz : ∀ q, (Value.slice A4 n c4).ownBlock = some q → ∃ cur, z = some (q, cur)) (ho : OwnC wx l2 h2 2 1 A4 n c4 (own.map (Value.int .i64))) (hl2 : lo ≤ l2) (hh2 : h2 ≤ wx.heap.size)
    (hg : (wx.alloc (.cells #[.slice A4 n c4] 24)).grownBy w6 (Value.slice AC cells.length cC).ownBlock) (hz6 : wx.heap.size < w6.heap.size)
    (ho6 : OwnC w6 lo w6.heap.size 24 1 A6 (cells.length + 1) c6 (cs ++ [.slice A4 n c4])) :
    Blk w6 g 73 #[.int .i64 d, .int .i64 car, vk, .slice AC cells.length cC, .slice AE evs.length cE] ∧ IHd none lo g d car vk (w6.setCell ⟨g, 3, none⟩ (.slice A6 (cells.length + 1) c6)) ⟨evs, cells ++ [own]⟩ ∧
      ∀ (k : Nat) (cz : Array Value), Blk wx k 2 cz → Blk (w6.setCell ⟨g, 3, none⟩ (.slice A6 (cells.length + 1) c6)) k 2 cz := by
  subst hn
  have ho' := hc1.alloc (.cells #[.slice A4 own.length c4] 24)
  have hk6 := (hk.alloc (.cells #[.slice A4 own.length c4] 24)).grownT ho' (by decide) hg
  have hev6 := (OwnC.alloc hev (.cells #[.slice A4 own.length c4] 24)).grownT ho' (by decide) hg
  have hc2a : CellsII (wx.alloc (.cells #[.slice A4 own.length c4] 24)) lo wx.heap.size cs cells := hc2.keep fun k _ _ h4 => Below.heap_alloc wx _ k h4
  have hc26 := hc2a.grownT ho' (by decide) hg
  have ho6' := (ho.alloc (.cells #[.slice A4 own.length c4] 24)).grownT ho' (by decide) hg
  have hcat : (cells ++ [own]).length = cells.length + 1 := by simp
  have hN : CellsII w6 lo w6.heap.size (cs ++ [.slice A4 own.length c4]) (cells ++ [own]) := by
    have hl := hc2.1
    refine ⟨by simp [hl], fun k xs hx => ?_, fun i j v v' q hi hj hv hv' => ?_⟩
    · by_cases e : k < cells.length
      · rw [List.getElem?_append_left e] at hx
        obtain ⟨A', c', e1, e2⟩ := hc26.2.1 k xs hx
        exact ⟨A', c', by rw [List.getElem?_append_left (by omega)]; exact e1, e2.mono (Nat.le_refl _) (by omega)⟩
      · rw [List.getElem?_append_right (by omega)] at hx
        have hk0 : k - cells.length = 0 := by
          have := (List.getElem?_eq_some_iff.1 hx).1
          simp at this
          omega
        rw [hk0] at hx
        simp at hx
        subst hx
        exact ⟨A4, c4, by rw [List.getElem?_append_right (by omega), show k - cs.length = 0 by omega]; rfl, ho6'.mono hl2 (by omega)⟩
    · have hin : ∀ i v, i < cs.length → (cs ++ [Value.slice A4 own.length c4])[i]? = some v → cs[i]? = some v := fun i v h1 h2 => by rwa [List.getElem?_append_left h1] at h2
      have hout : ∀ i v, ¬ i < cs.length → (cs ++ [Value.slice A4 own.length c4])[i]? = some v → i = cs.length ∧ v = .slice A4 own.length c4 := fun i v h1 h2 => by
        rw [List.getElem?_append_right (by omega)] at h2
        have hk0 : i - cs.length = 0 := by
          have := (List.getElem?_eq_some_iff.1 h2).1
          simp at this
          omega
        rw [hk0] at h2
        simp at h2
        exact ⟨by omega, h2.symm⟩
      have hno : ∀ v, v ∈ cs → v.ownBlock = some q → (Value.slice A4 own.length c4).ownBlock = some q → False := fun v h1 h2 h3 => by
        obtain ⟨cur, hq⟩ := hz q h3
        exact (hcz q cur hq).2 v h1 h2
      by_cases hi1 : i < cs.length
      · by_cases hj1 : j < cs.length
        · exact hc2.2.2 i j v v' q (hin i v hi1 hi) (hin j v' hj1 hj) hv hv'
        · obtain ⟨_, rfl⟩ := hout j v' hj1 hj
          exact (hno v (List.mem_of_getElem? (hin i v hi1 hi)) hv hv').elim
      · obtain ⟨rfl, rfl⟩ := hout i v hi1 hi
        by_cases hj1 : j < cs.length
        · exact (hno v' (List.mem_of_getElem? (hin j v' hj1 hj)) hv' hv).elim
        · obtain ⟨rfl, rfl⟩ := hout j v' hj1 hj
          rfl
  refine ⟨hk6, ⟨⟨AE, cE, A6, c6, ?_, ?_, ?_⟩, hlo⟩, fun k cz hkz => ?_⟩
  · dsimp only; rw [hcat]; exact hk6.set53 _
  · exact (OwnC.farT hev6 hk6 (by decide) 3 _).mono (Nat.le_refl _) (by simp; omega)
  · dsimp only
    rw [hcat]
    exact OwnIIz.none ⟨_, (OwnC.farT ho6 hk6 (by decide) 3 _).mono (Nat.le_refl _) (by simp), (hN.farT hk6 (by decide) 3 _).mono (Nat.le_refl _) (by simp)⟩
  · have h1 := (hkz.alloc (.cells #[.slice A4 own.length c4] 24)).grownT ho' (by decide) hg
    exact h1.far (p := ⟨g, 3, none⟩) (h1.ne hk6 (by decide)) _

set_option maxHeartbeats 4000000 in
set_option maxRecDepth 10000 in
theorem impl_hbegin {lo g : Nat} {d car : Int} {AK : Option Addr} {ck : Nat} {ks : List Int} {AS : Option Addr} {cS : Nat} {st : List Int} {w : World} (h : IHd none lo g d car (.slice AK ks.length ck) w ⟨[], []⟩) (hks : ∀ w', Below lo w w' → Ints w' AK ks) (hst : stitchesB ks = true) (hs : Ints w AS st) (hsz : sizesB st = true) (ht : takenS ks = st.length) :
    Calls Tryz.prog 48 #[.pointer (some ⟨g, 0, none⟩), .slice AS st.length cS] w fun e w' =>
      e = .returned (.tuple #[]) ∧ IHd none lo g d car (.slice AK ks.length ck) w' (crossN ks ks.length ⟨[], cutC ks st⟩) ∧ Below lo w w' := by
  obtain ⟨hl16, hmem⟩ := stitchesB_of hst
  obtain ⟨i1, ie0, iz0, iz1, iz2⟩ := info_parts info_ints
  have HM := Lib.hid hmem; clear hmem
  have hNN : NN st := by
    intro x hx
    have h1 := hsz
    unfold sizesB stacksB at h1
    simp only [Bool.and_eq_true, List.all_eq_true] at h1
    have := inR_iff.1 (h1.1.2.1 x hx)
    omega
  have hst8 : 0 < st.length ∧ st.length ≤ 8 := by
    have h1 := hsz
    unfold sizesB stacksB at h1
    simp only [Bool.and_eq_true, decide_eq_true_eq] at h1
    exact ⟨h1.1.1, h1.1.2.2⟩
  obtain ⟨hst0, hst8⟩ := hst8
  have hS12 : sumI st ≤ 12 := by
    have h1 := hsz
    unfold sizesB stacksB at h1
    simp only [Bool.and_eq_true, List.all_eq_true, decide_eq_true_eq] at h1
    have h2 : tinyB st := fun x hx => by have := inR_iff.1 (h1.1.2.1 x hx); omega
    have h3 := sumI_le h2
    have h4 := sum64_sumI hNN (by omega)
    omega
  have HT := Lib.hid ht
  have HCR := Lib.hid (fun n hn => crossN_ok hNN HM.out ht hS12 n hn)
  have HSTEP := Lib.hid (fun i k (hi : ks[i]? = some k) t (htt : takenS (ks.take i) = t) => crossN_step hNN HM.out ht hS12 hi htt)
  have HKS := Lib.hid hks
  have hlz := h.lt
  have H0 := Lib.hid h
  obtain ⟨AC0, cC0, _, _, p2, _⟩ := h.read
  clear h hks ht hNN hsz hst
  go_enter Tryz.func48, Tryz.ntmps48
  go_wp2_with (fail)
  refine (slices_Clone AS cS st w hs (by omega)).mono ?_; rintro e w1 ⟨A1, c1, rfl, o1, b1⟩
  have o1' : OwnC w1 w.heap.size w1.heap.size 2 1 A1 st.length c1 (st.map (Value.int .i64)) := o1
  obtain ⟨b0, rfl, hb0, _⟩ := o1'.cell (j := 0) (by simpa using hst0)
  obtain ⟨curB, hB1, _, hB0⟩ := o1'.blkEx
  have hcap := o1'.cap
  have hcm := OwnC.capmax o1
  have HIB := Lib.hid o1.ints
  have HBW := Lib.hid hB1
  have p2' := cells_below b1 _ _ p2
  have B1 : Below lo w w1 := b1.mono hlz
  have hI1 := H0.out.below b1
  clear o1 o1' p2
  go_wp2_with (fail)
  go_loopw [4, 5, 18] (fun rv pv iv wr => ∃ (i t o lr cr : Nat) (E : List EventD) (CS : List (List Int)), i ≤ ks.length ∧ iv = .int .i64 i ∧ rv = .slice (some ⟨b0, o, none⟩) lr cr ∧ st.length = t + lr ∧ c1 = t + cr ∧ (0 < lr → o = t) ∧ pv = .int .i64 (tot CS) ∧ IHd none lo g d car (.slice AK ks.length ck) wr ⟨E, CS⟩ ∧ Blk wr b0 2 curB ∧ Below lo w wr ∧ Hid (takenS (ks.take i) = t) ∧
      Hid (E = (crossN ks i ⟨[], cutC ks st⟩).evs) ∧ Hid (CS = (crossN ks i ⟨[], cutC ks st⟩).cells.take i)) (fun _ _ iv _ => ks.length - (intOf iv).toNat)
  case atStart =>
    exact ⟨0, 0, 0, st.length, c1, [], [], Nat.zero_le _, rfl, rfl, by omega, by omega, fun _ => rfl, rfl, hI1, hB1, B1, Lib.hid rfl, Lib.hid rfl, Lib.hid rfl⟩
  case round =>
    clear hI1 hB1 B1 p2'
    obtain ⟨i, t, o, lr, cr, E, CS, hi, rfl, rfl, hlr, hcr, hor, rfl, hI, hB, hb, HTT, HE, HCS⟩ := hrel
    have hok := HCR.out i hi
    have hEl : E.length ≤ 2304 := by rw [HE.out]; have := hok.evs; omega
    have hCl : CS.length = i := by rw [HCS.out, List.length_take, hok.good.len]; omega
    have hT := hok.good.take i
    rw [← HCS.out] at hT
    have HCL := Lib.hid hCl; clear hCl hok
    by_cases hlt : i < ks.length
    · obtain ⟨b, off, k, rfl, hc, hk⟩ := HKS.out wr hb i hlt
      have hq := HM.out k (List.mem_of_getElem? hk)
      have hle : t + takenN k ≤ st.length := by have := takenS_at hk; rw [HTT.out, HT.out] at this; exact this
      have HT2 : Hid (takenS (ks.take (i + 1)) = t + takenN k) := Lib.hid (by rw [takenS_snoc hk, HTT.out])
      obtain ⟨s1, s2, s3, s4⟩ := HSTEP.out i k hk t HTT.out
      rw [← HE.out, ← HCS.out] at s1
      rw [← HCS.out] at s2
      have HB : Hid (takenB k = takenN k) := Lib.hid (takenB_of hq)
      have HQ := Lib.hid hq
      obtain ⟨n, hn⟩ : ∃ n, n = takenN k := ⟨_, rfl⟩
      have hn4 : n ≤ 4 := by rw [hn]; exact takenN_le4 hq
      obtain ⟨part, hpart⟩ : ∃ part, part = (st.drop t).take n := ⟨_, rfl⟩
      rw [← hn] at s1 s2 s3 s4 HT2 hle HB
      rw [← hpart] at s1 s2 s3 s4
      have hpl : part.length = n := by rw [hpart, List.length_take, List.length_drop]; omega
      have hib : Ints wr (some ⟨b0, 0, none⟩) st := HIB.out.blk HBW.out hB
      have hip : Ints wr (some ⟨b0, o, none⟩) part := by
        by_cases h0 : 0 < lr
        · have := Ints.take (hib.drop t) n
          rw [hor h0, hpart]
          rwa [Nat.zero_add] at this
        · have : part = [] := List.eq_nil_of_length_eq_zero (by omega)
          rw [this]; exact Ints.nil
      have HCLN : Hid (Calls Tryz.prog 73 #[.slice (some ⟨b0, o, none⟩) n cr] wr fun e w' => ∃ A' c', e = .returned (.slice A' n c') ∧ OwnC w' wr.heap.size w'.heap.size 2 1 A' n c' (part.map (Value.int .i64)) ∧ Below wr.heap.size wr w') := Lib.hid (by
        have := slices_Clone (some ⟨b0, o, none⟩) cr part wr hip (by omega)
        rw [hpl] at this
        refine this.mono ?_
        rintro e w' ⟨A', c', h1, h2, h3⟩
        refine ⟨A', c', h1, ?_, h3⟩
        have h2' : OwnC w' wr.heap.size w'.heap.size 2 1 A' part.length c' (part.map (Value.int .i64)) := h2
        rw [hpl] at h2'
        exact h2')
      have HPL := Lib.hid hpl
      have HNK := Lib.hid hn
      have HS1 := Lib.hid s1; have HS2 := Lib.hid s2
      have hnx : NN (ownX k part) := ownX_nn s3
      have hsx : sumI (ownX k part) = sumI part := ownX_sum k part
      have hsx2 : 0 ≤ sumI part := s3.sum
      have HNP := Lib.hid s3
      have HXL : Hid ((ownX k part).length = n) := Lib.hid (by rw [ownX_length, hpl])
      have HTX : Hid (tot (CS ++ [ownX k part]) = tot CS + sumI part) := Lib.hid (by rw [tot_append]; simp [tot, hsx])
      have HTB : Hid (tot CS + sumI part ≤ 24) := Lib.hid (by omega)
      clear hk HTT HCS HE s1 s2 s3 hpl hip hib hpart hn
      have hn1 : n ≤ lr := by omega
      have hn2 : n ≤ cr := by omega
      have hn3 : lr ≤ cr := by omega
      have hn4' : cr ≤ 9223372036854775807 := by omega
      have HLR := Lib.hid hlr; clear hlr
      have HCR2 := Lib.hid hcr; clear hcr
      have hzr := hI.lt
      have hbr0 := hB.lt
      have dk : decide ((i : Int) < (ks.length : Int)) = true := decide_eq_true (by omega)
      have j1 : (0 : Int) ≤ (i : Int) := by omega
      have j2 : (i : Int) < (ks.length : Int) := by omega
      go_wp2_with (fail)
      refine (impl_ColumnsTaken _ _).mono ?_; rintro e _ ⟨rfl, rfl⟩
      rw [HB.out]
      go_wp2_with (fail)
      refine HCLN.out.mono ?_; rintro e w2 ⟨A4, c4, rfl, o4, b4⟩
      have hz4 := b4.size
      obtain ⟨z, hz, hI2⟩ : ∃ z, (∀ q, (Value.slice A4 n c4).ownBlock = some q → ∃ cur, z = some (q, cur)) ∧ IHd z lo g d car (.slice (some ⟨b, off, none⟩) ks.length ck) w2 ⟨E, CS⟩ := by
        rcases o4.form with ⟨rfl, _⟩ | ⟨q, cur, rfl, h3, h4, h5, _⟩
        · exact ⟨none, fun q hq => by simp [Value.ownBlock] at hq, hI.below b4⟩
        · exact ⟨some (q, cur), fun q' hq => by simp [Value.ownBlock] at hq; subst hq; exact ⟨cur, rfl⟩, hI.seal_ b4 h3 h5⟩
      have hB2 := hB.below b4 hbr0
      have hb2 : Below lo w w2 := hb.trans (b4.mono hzr)
      go_upto_block 2 with fail
      go_cut [29] (fun _ wx => ∃ z, (∀ q, (Value.slice A4 n c4).ownBlock = some q → ∃ cur, z = some (q, cur)) ∧ IHd z lo g d car (.slice (some ⟨b, off, none⟩) ks.length ck) wx ⟨E ++ evX (tot CS) k part, CS⟩ ∧ OwnC wx wr.heap.size w2.heap.size 2 1 A4 n c4 ((ownX k part).map (Value.int .i64)) ∧ Blk wx b0 2 curB ∧ Below lo w wx ∧ w2.heap.size ≤ wx.heap.size)
      case first =>
        by_cases h0 : signI k = 0
        · have e0 : (k == 8) = false ∧ (k == 9) = false ∧ (k == 10) = false ∧ (k == 11) = false ∧ (k == 5) = false := by
            rcases stitch_cases HQ.out with rfl | rfl | rfl | rfl | rfl | rfl | rfl | rfl | rfl | rfl | rfl <;> first | decide | exact absurd h0 (by decide)
          obtain ⟨e8, e9, e10, e11, e5⟩ := e0
          have HEX : Hid (evX (tot CS) k part = []) := Lib.hid (by unfold evX; rw [if_pos h0])
          have HOX : Hid (ownX k part = part) := Lib.hid (by unfold ownX; rw [if_pos h0])
          clear h0
          have HI2 := Lib.hid hI2; have HO4 := Lib.hid o4; have HB2 := Lib.hid hB2; have Hb2 := Lib.hid hb2; have HZ := Lib.hid hz
          clear hI2 o4 hB2 hb2 hz
          go_wp2_with (fail)
          go_meet
          exact ⟨z, HZ.out, by rw [HEX.out, List.append_nil]; exact HI2.out, by rw [HOX.out]; exact HO4.out, HB2.out, Hb2.out, Nat.le_refl _⟩
        · have hn2' : 2 ≤ n := by
            rw [HNK.out]
            rcases stitch_cases HQ.out with rfl | rfl | rfl | rfl | rfl | rfl | rfl | rfl | rfl | rfl | rfl <;> first | decide | exact absurd rfl h0
          obtain ⟨q, rfl, hq1, hq2, hq3⟩ := o4.cell (j := 0) (by rw [o4.len]; omega)
          clear hq3
          obtain ⟨cur, rfl⟩ := hz q rfl
          have CX := Lib.hid (impl_hcross (p := tot CS) HQ.out h0 hI2 (by omega) (by omega) HNK.out HPL.out HNP.out (by omega) o4 (by dsimp only; omega))
          have hsw : (k == 8) = true ∨ ((k == 8) = false ∧ (k == 9) = true) ∨ ((k == 8) = false ∧ (k == 9) = false ∧ (k == 10) = true) ∨ ((k == 8) = false ∧ (k == 9) = false ∧ (k == 10) = false ∧ (k == 11) = true) ∨ ((k == 8) = false ∧ (k == 9) = false ∧ (k == 10) = false ∧ (k == 11) = false ∧ (k == 5) = true) := by
            rcases stitch_cases HQ.out with rfl | rfl | rfl | rfl | rfl | rfl | rfl | rfl | rfl | rfl | rfl <;> first | decide | exact absurd rfl h0
          have HB2 := Lib.hid hB2; have Hb2 := Lib.hid hb2; have HZ := Lib.hid hz
          clear hI2 o4 hB2 hb2 hz h0
          rcases hsw with e8 | ⟨e8, e9⟩ | ⟨e8, e9, e10⟩ | ⟨e8, e9, e10, e11⟩ | ⟨e8, e9, e10, e11, e5⟩
          all_goals
            go_wp2_with (fail)
            refine CX.out.mono ?_; rintro e w5 ⟨rfl, ⟨cur', hI5⟩, o5, b5, hfr⟩
            have HI5 := Lib.hid hI5; have HO5 := Lib.hid o5
            clear hI5 o5
            go_wp2_with (fail)
            go_meet
            exact ⟨some (q, cur'), fun q' hq' => by simp [Value.ownBlock] at hq'; subst hq'; exact ⟨cur', rfl⟩, HI5.out, HO5.out, hfr b0 curB (by omega) HB2.out, Hb2.out.trans b5, b5.size⟩
      case rest =>
      clear hI2 o4 hB2 hb2 hz hI hB hb
      obtain ⟨z, hz, hI3, o3, hB3, hb3, hz3⟩ := hcut
      have hi3 : Ints wc A4 (ownX k part) := by
        have : OwnI wc wr.heap.size w2.heap.size A4 c4 (ownX k part) := by show OwnC _ _ _ _ _ _ _ _ _; rw [HXL.out]; exact o3
        exact this.ints
      have CSM : Hid (Calls Tryz.prog 20 #[.slice A4 n c4] wc fun e w' => e = .returned (.int .i64 (sumI part)) ∧ wc = w') := Lib.hid (by
        have := impl_sumOf A4 c4 (ownX k part) wc hi3 (by rw [HXL.out]; omega)
        rw [HXL.out, sum64_sumI hnx (by rw [hsx]; omega), hsx] at this
        exact this)
      obtain ⟨⟨AE, cE, AC, cC, hk3, hoE3, hcC3⟩, hlo⟩ := hI3
      obtain ⟨cs, hc1, hc2, hcz⟩ := hcC3.ex
      dsimp only at hk3 hoE3 hc1 hc2
      have wS : IntKind.i64.wrap (tot CS + sumI part) = tot CS + sumI part := IntWalk.i64_in _ ⟨by omega, by have := HTB.out; omega⟩
      obtain ⟨x0, x1, x2, x3, x4⟩ := hk3.c5
      have hcsl : CS.length ≤ 16 := by rw [HCL.out]; omega
      clear hi3
      by_cases hcn : cr = n
      · have hcn' : cr ≤ n := by omega
        clear hcn
        go_wp2_with (fail)
        refine CSM.out.mono ?_; rintro e _ ⟨rfl, rfl⟩
        go_wp2_with (at_builtin; refine wpList_append1 wc [.slice A4 n c4] _ rfl (.tmp 51) (.tmp 53) _ rfl 24 i1 _ 1 24 Tryz.underlying71 ie0 iz0 iz1 iz2 rfl (by decide) rfl hc1 (by omega) 1 rfl rfl (by simp [Value.oneCell']) (by omega) (by decide) ?_; intro A6 c6 w6 ho6 hg6 hb6 hz6; obtain ⟨hk6, hI6, hX6⟩ := IHd.pushRow hk3 hoE3 hc1 hc2 hcz hlo HXL.out hz o3 hzr hz3 hg6 hz6 ho6; have y3 := hk6.c5.2.2.2.1; have y9 := hk6.frozen 3; have HI6 := Lib.hid hI6; have HX6 := Lib.hid hX6; clear hI6 hX6 hk6)
        exact ⟨⟨i + 1, t + n, o, lr - n, cr - n, E ++ evX (tot CS) k part, CS ++ [ownX k part], by omega, by go_num, by first | rfl | (simp; done) | (simp; omega), by have := HLR.out; omega, by have := HCR2.out; omega, fun h0 => by omega, by rw [HTX.out], HI6.out, HX6.out b0 curB hB3, (hb3.trans hb6).setCell hlo _, HT2, Lib.hid HS1.out.symm, Lib.hid HS2.out.symm⟩, by first | (simp [intOf]; done) | (simp [intOf]; omega)⟩
      · go_wp2_with (fail)
        refine CSM.out.mono ?_; rintro e _ ⟨rfl, rfl⟩
        go_wp2_with (at_builtin; refine wpList_append1 wc [.slice A4 n c4] _ rfl (.tmp 51) (.tmp 53) _ rfl 24 i1 _ 1 24 Tryz.underlying71 ie0 iz0 iz1 iz2 rfl (by decide) rfl hc1 (by omega) 1 rfl rfl (by simp [Value.oneCell']) (by omega) (by decide) ?_; intro A6 c6 w6 ho6 hg6 hb6 hz6; obtain ⟨hk6, hI6, hX6⟩ := IHd.pushRow hk3 hoE3 hc1 hc2 hcz hlo HXL.out hz o3 hzr hz3 hg6 hz6 ho6; have y3 := hk6.c5.2.2.2.1; have y9 := hk6.frozen 3; have HI6 := Lib.hid hI6; have HX6 := Lib.hid hX6; clear hI6 hX6 hk6)
        exact ⟨⟨i + 1, t + n, o + n, lr - n, cr - n, E ++ evX (tot CS) k part, CS ++ [ownX k part], by omega, by go_num, by first | rfl | (simp; done) | (simp; omega), by have := HLR.out; omega, by have := HCR2.out; omega, fun h0 => by have := hor (by omega); omega, by rw [HTX.out], HI6.out, HX6.out b0 curB hB3, (hb3.trans hb6).setCell hlo _, HT2, Lib.hid HS1.out.symm, Lib.hid HS2.out.symm⟩, by first | (simp [intOf]; done) | (simp [intOf]; omega)⟩
    · obtain rfl : i = ks.length := by omega
      have dk : decide ((ks.length : Int) < (ks.length : Int)) = false := decide_eq_false (by omega)
      have hok := HCR.out ks.length (Nat.le_refl _)
      have e1 : (crossN ks ks.length ⟨[], cutC ks st⟩).cells.take ks.length = (crossN ks ks.length ⟨[], cutC ks st⟩).cells := List.take_of_length_le (by rw [hok.good.len]; exact Nat.le_refl _)
      have HIE : Hid (IHd none lo g d car (.slice AK ks.length ck) wr (crossN ks ks.length ⟨[], cutC ks st⟩)) := Lib.hid (by
        rw [HE.out, HCS.out, e1] at hI
        exact hI)
      clear hok e1 hI
      go_wp2_with (fail)
      go_end0
      exact ⟨rfl, HIE.out, hb⟩

end Go.Proofs.YthjamohaeahipaaGreat
