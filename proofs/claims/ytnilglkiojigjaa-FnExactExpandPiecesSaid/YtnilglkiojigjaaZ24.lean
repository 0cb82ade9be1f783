/- Steps of the proof, joined from several texts: EB EC ED. -/
import Derived.Test.YtnilglkiojigjaaZ23
import Derived.Test.YtnilglkiojigjaaZ14
import Derived.Test.YtnilglkiojigjaaZ7
import Derived.Deep.DeepCutAuto

/- ExpandPieces: the stitches of pieces, the given side. -/
namespace Go.Proofs.Ytnilglkiojigjaa
open Go Go.RowKit

theorem wpList_appendC_at {P : Program} (w : World) {ops : Array Oper} {rest : List Oper} {o : Oper} {a : Act} {Q : Exit → Act → World → Prop} (hgd : o.guard = none) (s x : Operand) (t : TypeId)
    (hop : o.op = .call { callee := .builtin .append, args := #[s, x], argTypes := #[t, t] })
    (e : TypeId) (i : TypeInfo) (z : Value) (size bytes : Nat) (ht : P.underlying t = some (.slice e)) (hi : P.info? e = some i) (hz : i.zero = some z)
    (hsize : i.size = size) (hby : i.bytes = bytes) (hzs : z.cells.size = size) (hsz : 0 < size)
    {lo hi' n c : Nat} {A : Option Addr} {cs : List Value} (hs : a.eval s = .slice A n c) (hown : OwnC w lo hi' e size A n c cs) (hlo : lo ≤ w.heap.size)
    (A2 : Option Addr) (m c2 : Nat) (news : List Value) (hx : a.eval x = .slice A2 m c2) (hl : news.length = m * size)
    (hnews : ∀ j u, news[j]? = some u → ∃ b off, A2 = some ⟨b, off, none⟩ ∧ w.cell? ⟨b, off + j, none⟩ = some u) (h1 : ∀ u ∈ news, u.oneCell' = true)
    (h63 : n + m ≤ maxLen) (hbytes : (n + m) * bytes ≤ 140737488355328)
    (h : ∀ A' c' w', OwnC w' lo w'.heap.size e size A' (n + m) c' (cs ++ news) → w.grownBy w' (Value.slice A n c).ownBlock → Below lo w w' → ((Value.slice A' (n + m) c').ownBlock = (Value.slice A n c).ownBlock ∨ (Value.slice A' (n + m) c').ownBlock = some w.heap.size) → wpList P ops Q rest (a.put o.dst (.slice A' (n + m) c')) w') : wpList P ops Q (o :: rest) a w :=
  wpList_plain hgd fun _ hK => wp_appendC_at w s x t hop e i z size bytes ht hi hz hsize hby hzs hsz hs hown hlo A2 m c2 news hx hl hnews h1 h63 hbytes fun A' c' w' h2 h3 h4 h5 => hK _ _ (h A' c' w' h2 h3 h4 h5)
/-- The two slices do not lie in one block. -/
def Apart (A B : Option Addr) : Prop := ∀ a b, A = some a → B = some b → a.block ≠ b.block
theorem Apart.of {w : World} {lo hi lo' hi' : Nat} {A B : Option Addr} {n c m d : Nat} {xs ys : List Value} (h : OwnC w lo hi 2 1 A n c xs) (h' : OwnC w lo' hi' 2 1 B m d ys) (hh : hi ≤ lo') : Apart A B := by
  intro a b ha hb e
  have h1 := h.lt a ha
  rcases h'.form with ⟨hB, _⟩ | ⟨q, _, hB, h2, _⟩
  · rw [hB] at hb; cases hb
  · rw [hB] at hb
    injection hb with hb
    subst hb
    have : lo' ≤ q := h2
    have e' : a.block = q := e
    omega
theorem Apart.kept {w w' : World} {lo hi : Nat} {A B : Option Addr} {n c m d : Nat} {ys : List Value} (ha : Apart A B) (h : OwnC w lo hi 2 1 B m d ys) (hhi : hi ≤ w.heap.size) (hg : w.grownBy w' (Value.slice A n c).ownBlock) : OwnC w' lo hi 2 1 B m d ys := by
  refine h.keep1 fun q hq => hg.block q ?_ ?_
  · have := h.lt _ hq; exact Nat.lt_of_lt_of_le this hhi
  · intro e
    cases A with
    | none => cases e
    | some a =>
      injection e with e
      exact ha a ⟨q, 0, none⟩ rfl hq e.symm
theorem Apart.next {w : World} {lo hi : Nat} {A A' B : Option Addr} {n c n' c' m d : Nat} {ys : List Value} (ha : Apart A B) (h : OwnC w lo hi 2 1 B m d ys) (hhi : hi ≤ w.heap.size) (hat : (Value.slice A' n' c').ownBlock = (Value.slice A n c).ownBlock ∨ (Value.slice A' n' c').ownBlock = some w.heap.size) : Apart A' B := by
  intro a b hA hB e
  subst hA
  have hb := h.lt b hB
  rcases hat with hat | hat
  · cases A with
    | none => cases hat
    | some a0 =>
      injection hat with hat
      exact ha a0 b rfl hB (by rw [← hat]; exact e)
  · injection hat with hat
    omega

set_option maxHeartbeats 4000000 in
set_option maxRecDepth 10000 in
theorem spec_l16Expand (o : Int) (ho : 0 ≤ o ∧ o ≤ 16) (m : Nat) : ∀ (ps : List PieceD) (A : Option Addr) (c d : Nat) (w : World), ps.length ≤ m → ps.length ≤ 100 → ps.length ≤ c → c ≤ 9223372036854775807 → Pieces w A ps → Good d ps →
    Calls Try.prog 80 #[.slice A ps.length c, .int .i64 o] w fun e w' => ∃ A' c', e = .returned (.slice A' (expP o ps).length c') ∧ OwnI w' w.heap.size w'.heap.size A' c' (expP o ps) ∧ Below w.heap.size w w' := by
  obtain ⟨ho0, ho16⟩ := ho
  obtain ⟨iI, hi0, hu0, hu1, hu2⟩ := info_parts info_int64
  induction m using Nat.strongRecOn with
  | ind m ih =>
  intro ps A c d w hm hl hc hcm h hg
  have IH := Lib.hid ih; clear ih
  have HSM : Hid ((expP o ps).length ≤ 30000000) := Lib.hid (by
    have h1 := expP_small ps.length o ho16 d ps (Nat.le_refl _) hg
    have h2 := Nat.mul_le_mul hl (roomOf_le d)
    omega)
  have o1 := (OwnC.lit (w := w) (lo := w.heap.size) (n := 0) 2 1 #[] (Nat.le_refl _) (Nat.zero_le _) rfl).mono (Nat.le_refl _) (show w.heap.size + 1 ≤ (w.alloc (.cells #[] 2)).heap.size by simp)
  have O1 := Lib.hid o1; clear o1
  have hb1 : Below w.heap.size w (w.alloc (.cells #[] 2)) := by (repeat (first | exact Below.refl _ _ | assumption | apply Below.drew | apply below_drewN | (refine Below.alloc ?_ (by first | omega | (simp; done) | (simp; omega)) _) | (refine Below.setCell ?_ (by first | omega | (simp; done) | (simp; omega)) _)))
  go_enter Try.func80, Try.ntmps80
  go_wp2_with (fail)
  go_loopw [5, 6] (fun ov iv wr => ∃ (k : Nat) (A' : Option Addr) (c' : Nat) (out : List Int), k ≤ ps.length ∧ iv = .int .i64 k ∧ ov = .slice A' out.length c' ∧ OwnI wr w.heap.size wr.heap.size A' c' out ∧ Hid (expP o ps = out ++ expP o (ps.drop k)) ∧ Hid (Good d (ps.drop k)) ∧ Below w.heap.size w wr) (fun _ iv _ => ps.length - (intOf iv).toNat)
  case atStart => exact ⟨0, some ⟨w.heap.size, 0, none⟩, 0, [], Nat.zero_le _, rfl, rfl, O1.out, Lib.hid rfl, Lib.hid hg, hb1⟩
  case round =>
    clear O1 hb1
    obtain ⟨k, A', c', out, hk, rfl, rfl, ho, HS, HG, hb⟩ := hrel
    have hz := hb.size
    by_cases hlt : k < ps.length
    · obtain ⟨b1, off, p, rfl, hp, p0, p1, p2⟩ := (h.below hb) k hlt
      have HP := Lib.hid hp; clear hp
      have j1 : (0 : Int) ≤ (k : Int) := by omega
      have j2 : (k : Int) < (ps.length : Int) := by omega
      by_cases hk12 : p.kind = 12
      · obtain ⟨n, hnl, hn1, hn2, _, _, ht0, ht16, hg2, hg3, _, _⟩ := good_at_group HG.out HP.out hk12
        have HXG : Hid (expP o (ps.drop k) = rep (if p.times = 0 then o else p.times) (expP o (segP ps (k + 1) (k + 1 + n))) ++ expP o (ps.drop (k + 1 + n))) := Lib.hid (exp_at_group HP.out hk12 hnl o)
        have HG3 := Lib.hid hg3; clear hg3
        rw [hnl] at p2
        have i1 : (k : Int) + 1 ≤ (k : Int) + 1 + (n : Int) := by omega
        have i2 : (k : Int) + 1 + (n : Int) ≤ (c : Int) := by omega
        have w1 : IntKind.i64.wrap ((k : Int) + 1) = (k : Int) + 1 := IntWalk.i64_in _ (by omega)
        have w2 : IntKind.i64.wrap ((k : Int) + 1 + (n : Int)) = (k : Int) + 1 + (n : Int) := IntWalk.i64_in _ (by omega)
        have w3 : ((k : Int) + 1).toNat = k + 1 := by omega
        have w4 : ((k : Int) + 1 + (n : Int)).toNat = k + 1 + n := by omega
        have w5 : (0 : Int) ≤ (k : Int) + 1 := by omega
        have w6 : (0 : Int) ≤ (k : Int) + 1 + (n : Int) := by omega
        have w7 : (k : Int) + 1 ≤ max ((k : Int) + 1 + (n : Int)) 0 := by omega
        have w8 : ¬ c = k + 1 := by omega
        have w9 : k + 1 + n - (k + 1) = n := by omega
        have w10 : IntKind.i64.wrap ((k : Int) + (n : Int)) = (k : Int) + (n : Int) := IntWalk.i64_in _ (by omega)
        have hsl : (segP ps (k + 1) (k + 1 + n)).length = n := by rw [segP_length hn2]; omega
        have HPL : Hid ((expP o (segP ps (k + 1) (k + 1 + n))).length ≤ 30000000) := Lib.hid (by
          have h1 := expP_small n o ho16 (d + 1) _ (by rw [hsl]; exact Nat.le_refl _) hg2
          have h2 := Nat.mul_le_mul (show (segP ps (k + 1) (k + 1 + n)).length ≤ 100 by omega) (roomOf_le (d + 1))
          omega)
        have HIC : Hid (∀ (W : World), Below w.heap.size w W → Calls Try.prog 80 #[.slice (some ⟨b1, off + (k + 1) * 3, none⟩) n (c - (k + 1)), .int .i64 o] W fun e w' => ∃ A' c', e = .returned (.slice A' (expP o (segP ps (k + 1) (k + 1 + n))).length c') ∧ OwnI w' W.heap.size w'.heap.size A' c' (expP o (segP ps (k + 1) (k + 1 + n))) ∧ Below W.heap.size W w') := Lib.hid (fun W hW => by
          have := IH.out n (by omega) (segP ps (k + 1) (k + 1 + n)) (some ⟨b1, off + (k + 1) * 3, none⟩) (c - (k + 1)) (d + 1) W (by rw [hsl]; exact Nat.le_refl _) (by rw [hsl]; omega) (by rw [hsl]; omega) (by omega) ((Pieces.seg h hn2).below hW) hg2
          rwa [hsl] at this)
        clear hsl hg2 hnl
        have hk' : (p.kind == 12) = true := by simp [hk12]
        clear hk12
        have hba : Below w.heap.size w ((wr.alloc (.cells #[.int .i64 p.kind, .int .i64 p.times, .int .i64 (n : Int)] 107)).alloc (.cells #[.int .i64 p.kind] 2)) := by (repeat (first | exact Below.refl _ _ | assumption | apply Below.drew | apply below_drewN | (refine Below.alloc ?_ (by first | omega | (simp; done) | (simp; omega)) _) | (refine Below.setCell ?_ (by first | omega | (simp; done) | (simp; omega)) _)))
        have kb := (Blk.new wr 107 #[.int .i64 p.kind, .int .i64 p.times, .int .i64 (n : Int)]).alloc (.cells #[.int .i64 p.kind] 2)
        have hoA := (ho.alloc (.cells #[.int .i64 p.kind, .int .i64 p.times, .int .i64 (n : Int)] 107)).alloc (.cells #[.int .i64 p.kind] 2)
        obtain ⟨u0, u1, u2⟩ := kb.c3
        go_wp2_with (fail)
        refine (HIC.out _ hba).mono ?_; rintro e w7 ⟨A7, c7, rfl, o7, b7⟩
        have hb7 : Below w.heap.size w w7 := hba.trans (b7.mono (by simp; omega))
        have kb7 := kb.below b7 (by simp; omega)
        have ho7 := OwnC.below hoA b7 (by simp; omega)
        have o7' : OwnI w7 wr.heap.size w7.heap.size A7 c7 (expP o (segP ps (k + 1) (k + 1 + n))) := OwnC.mono o7 (by simp; omega) (Nat.le_refl _)
        have hz7 : wr.heap.size ≤ w7.heap.size := by have := b7.size; simp at this; omega
        clear u0 u1 u2 kb hoA hba b7 ho o7 HIC
        obtain ⟨v0, v1, v2⟩ := kb7.c3
        have hpl := HPL.out
        generalize expP o (segP ps (k + 1) (k + 1 + n)) = part at o7' hpl HXG ⊢
        clear HPL
        by_cases ht : p.times = 0
        · have HX : Hid (expP o (ps.drop k) = rep o part ++ expP o (ps.drop (k + 1 + n))) := Lib.hid (by rw [HXG.out, if_pos ht])
          have ht' : (p.times == 0) = true := by simp [ht]
          obtain ⟨T, hT⟩ := Int.eq_ofNat_of_zero_le ho0
          have HT := Lib.hid hT
          clear HXG ht hT
          have hap := Apart.of ho7 o7' (Nat.le_refl _)
          have HOL : Hid (out.length + T * (part).length ≤ 30000000) := Lib.hid (by
            have h1 := HSM.out
            rw [HS.out, HX.out, List.length_append, List.length_append, rep_length, HT.out, Int.toNat_natCast] at h1
            omega)
          go_wp2_with (fail)
          go_loopw [5, 9] (fun ov sv ws => ∃ (q : Nat) (A5 : Option Addr) (c5 : Nat), q ≤ T ∧ sv = .int .i64 ((T : Int) - (q : Int)) ∧ ov = .slice A5 (out ++ rep (q : Int) (part)).length c5 ∧ OwnI ws w.heap.size ws.heap.size A5 c5 (out ++ rep (q : Int) (part)) ∧ OwnI ws wr.heap.size w7.heap.size A7 c7 (part) ∧ Apart A5 A7 ∧ w7.heap.size ≤ ws.heap.size ∧ Below w.heap.size w ws) (fun _ sv _ => (intOf sv).toNat)
          case atStart => exact ⟨0, A', c', Nat.zero_le _, by rw [HT.out]; simp, by simp [rep], by simpa [rep] using OwnC.mono ho7 (Nat.le_refl _) hz7, o7', hap, Nat.le_refl _, hb7⟩
          case round =>
            obtain ⟨q, A5, c5, hq, rfl, rfl, hoq, opq, hapq, hzq, hbq⟩ := hrel
            by_cases hqT : q < T
            · have d1 : decide ((0 : Int) < (T : Int) - (q : Int)) = true := decide_eq_true (by omega)
              have HR : Hid (rep ((q : Int) + 1) (part) = rep (q : Int) (part) ++ (part)) := Lib.hid (rep_snoc q (part))
              have hlen : (out ++ rep (q : Int) (part)).length + (part).length ≤ 30000000 := by
                have h1 := HOL.out
                have h2 := Nat.mul_le_mul_right (part).length (show q + 1 ≤ T from hqT)
                rw [Nat.add_mul, Nat.one_mul] at h2
                rw [List.length_append, rep_length, Int.toNat_natCast]
                omega
              have w12 : IntKind.i64.wrap ((T : Int) - (q : Int) - 1) = (T : Int) - (q : Int) - 1 := IntWalk.i64_in _ ⟨by omega, by have := HT.out; omega⟩
              have hap2 : (((out ++ rep (q : Int) (part)).map (Value.int .i64)) ++ ((part).map (Value.int .i64))) = ((out ++ rep ((q : Int) + 1) (part)).map (Value.int .i64)) := by rw [HR.out, ← List.map_append, List.append_assoc]
              have HA2 := Lib.hid hap2; clear hap2
              generalize hOQ : out ++ rep (q : Int) (part) = oq at hoq hlen HA2
              have HOQ := Lib.hid hOQ; clear hOQ
              go_wp2_with (at_builtin; refine wpList_appendC_at wr rfl (.tmp 51) (.tmp 52) _ rfl 2 iI _ 1 8 Try.underlying22 hi0 hu0 hu1 hu2 rfl (by decide) rfl hoq (by omega) A7 (part).length c7 ((part).map (Value.int .i64)) rfl (by simp) opq.news (ints_one _) (by unfold maxLen; omega) (by omega) ?_; intro A9 c9 w8 ho8 hg8 hb8 hat8)
              have hz8 := hg8.size
              refine ⟨⟨q + 1, A9, c9, by omega, by first | go_num | (push_cast; go_num), ?_, ?_, hapq.kept opq hzq hg8, hapq.next opq hzq hat8, by omega, hbq.trans hb8⟩, by first | (simp [intOf]; done) | (simp [intOf]; omega)⟩
              · push_cast; rw [HR.out, ← List.append_assoc, HOQ.out, List.length_append]
                all_goals rfl
              · show OwnC _ _ _ _ _ _ _ _ _
                rw [show (((q + 1 : Nat) : Int)) = (q : Int) + 1 by push_cast; rfl, ← HA2.out]
                rw [show (out ++ rep ((q : Int) + 1) (part)).length = oq.length + (part).length by rw [HR.out, ← List.append_assoc, HOQ.out, List.length_append]]
                exact ho8
            · obtain rfl : q = T := by omega
              have d1 : decide ((0 : Int) < (q : Int) - (q : Int)) = false := decide_eq_false (by omega)
              have HO : Hid (expP o ps = (out ++ rep (q : Int) (part)) ++ expP o (ps.drop (k + 1 + n))) := Lib.hid (by rw [HS.out, HX.out, HT.out, List.append_assoc])
              go_wp2_with (fail)
              refine ⟨⟨k + 1 + n, A5, c5, _, by omega, by go_num, rfl, hoq, HO, HG3, hbq⟩, by first | (simp [intOf]; done) | (simp [intOf]; omega)⟩
        · have HX : Hid (expP o (ps.drop k) = rep p.times part ++ expP o (ps.drop (k + 1 + n))) := Lib.hid (by rw [HXG.out, if_neg ht])
          have ht' : (p.times == 0) = false := by simp [ht]
          obtain ⟨T, hT⟩ := Int.eq_ofNat_of_zero_le ht0
          have HT := Lib.hid hT
          clear HXG ht hT
          have hap := Apart.of ho7 o7' (Nat.le_refl _)
          have HOL : Hid (out.length + T * (part).length ≤ 30000000) := Lib.hid (by
            have h1 := HSM.out
            rw [HS.out, HX.out, List.length_append, List.length_append, rep_length, HT.out, Int.toNat_natCast] at h1
            omega)
          go_wp2_with (fail)
          go_loopw [5, 9] (fun ov sv ws => ∃ (q : Nat) (A5 : Option Addr) (c5 : Nat), q ≤ T ∧ sv = .int .i64 ((T : Int) - (q : Int)) ∧ ov = .slice A5 (out ++ rep (q : Int) (part)).length c5 ∧ OwnI ws w.heap.size ws.heap.size A5 c5 (out ++ rep (q : Int) (part)) ∧ OwnI ws wr.heap.size w7.heap.size A7 c7 (part) ∧ Apart A5 A7 ∧ w7.heap.size ≤ ws.heap.size ∧ Below w.heap.size w ws) (fun _ sv _ => (intOf sv).toNat)
          case atStart => exact ⟨0, A', c', Nat.zero_le _, by rw [HT.out]; simp, by simp [rep], by simpa [rep] using OwnC.mono ho7 (Nat.le_refl _) hz7, o7', hap, Nat.le_refl _, hb7⟩
          case round =>
            obtain ⟨q, A5, c5, hq, rfl, rfl, hoq, opq, hapq, hzq, hbq⟩ := hrel
            by_cases hqT : q < T
            · have d1 : decide ((0 : Int) < (T : Int) - (q : Int)) = true := decide_eq_true (by omega)
              have HR : Hid (rep ((q : Int) + 1) (part) = rep (q : Int) (part) ++ (part)) := Lib.hid (rep_snoc q (part))
              have hlen : (out ++ rep (q : Int) (part)).length + (part).length ≤ 30000000 := by
                have h1 := HOL.out
                have h2 := Nat.mul_le_mul_right (part).length (show q + 1 ≤ T from hqT)
                rw [Nat.add_mul, Nat.one_mul] at h2
                rw [List.length_append, rep_length, Int.toNat_natCast]
                omega
              have w12 : IntKind.i64.wrap ((T : Int) - (q : Int) - 1) = (T : Int) - (q : Int) - 1 := IntWalk.i64_in _ ⟨by omega, by have := HT.out; omega⟩
              have hap2 : (((out ++ rep (q : Int) (part)).map (Value.int .i64)) ++ ((part).map (Value.int .i64))) = ((out ++ rep ((q : Int) + 1) (part)).map (Value.int .i64)) := by rw [HR.out, ← List.map_append, List.append_assoc]
              have HA2 := Lib.hid hap2; clear hap2
              generalize hOQ : out ++ rep (q : Int) (part) = oq at hoq hlen HA2
              have HOQ := Lib.hid hOQ; clear hOQ
              go_wp2_with (at_builtin; refine wpList_appendC_at wr rfl (.tmp 51) (.tmp 52) _ rfl 2 iI _ 1 8 Try.underlying22 hi0 hu0 hu1 hu2 rfl (by decide) rfl hoq (by omega) A7 (part).length c7 ((part).map (Value.int .i64)) rfl (by simp) opq.news (ints_one _) (by unfold maxLen; omega) (by omega) ?_; intro A9 c9 w8 ho8 hg8 hb8 hat8)
              have hz8 := hg8.size
              refine ⟨⟨q + 1, A9, c9, by omega, by first | go_num | (push_cast; go_num), ?_, ?_, hapq.kept opq hzq hg8, hapq.next opq hzq hat8, by omega, hbq.trans hb8⟩, by first | (simp [intOf]; done) | (simp [intOf]; omega)⟩
              · push_cast; rw [HR.out, ← List.append_assoc, HOQ.out, List.length_append]
                all_goals rfl
              · show OwnC _ _ _ _ _ _ _ _ _
                rw [show (((q + 1 : Nat) : Int)) = (q : Int) + 1 by push_cast; rfl, ← HA2.out]
                rw [show (out ++ rep ((q : Int) + 1) (part)).length = oq.length + (part).length by rw [HR.out, ← List.append_assoc, HOQ.out, List.length_append]]
                exact ho8
            · obtain rfl : q = T := by omega
              have d1 : decide ((0 : Int) < (q : Int) - (q : Int)) = false := decide_eq_false (by omega)
              have HO : Hid (expP o ps = (out ++ rep (q : Int) (part)) ++ expP o (ps.drop (k + 1 + n))) := Lib.hid (by rw [HS.out, HX.out, HT.out, List.append_assoc])
              go_wp2_with (fail)
              refine ⟨⟨k + 1 + n, A5, c5, _, by omega, by go_num, rfl, hoq, HO, HG3, hbq⟩, by first | (simp [intOf]; done) | (simp [intOf]; omega)⟩
      · obtain ⟨hpl0, hg2⟩ := good_at_plain HG.out HP.out hk12
        obtain ⟨t1, t2, hp0, _⟩ := times_of hpl0
        rw [hp0] at p2
        clear hp0
        have HG3 := Lib.hid hg2; clear hg2 hpl0
        have HX : Hid (expP o (ps.drop k) = rep p.times [p.kind] ++ expP o (ps.drop (k + 1))) := Lib.hid (exp_at_plain HP.out hk12 o)
        have hk' : (p.kind == 12) = false := by simp [hk12]
        clear hk12
        obtain ⟨T, hT⟩ := Int.eq_ofNat_of_zero_le (show 0 ≤ p.times by omega)
        have HT := Lib.hid hT
        clear hT
        obtain ⟨w7, hw7⟩ : ∃ w7, w7 = (wr.alloc (.cells #[.int .i64 p.kind, .int .i64 p.times, .int .i64 0] 107)).alloc (.cells #[.int .i64 p.kind] 2) := ⟨_, rfl⟩
        have hb7 : Below w.heap.size w w7 := by rw [hw7]; exact (hb.alloc hz _).alloc (by simp; omega) _
        have ho7 : OwnI w7 w.heap.size wr.heap.size A' c' out := by rw [hw7]; exact OwnC.alloc (OwnC.alloc ho _) _
        have o7' : OwnI w7 wr.heap.size w7.heap.size (some ⟨wr.heap.size + 1, 0, none⟩) 1 [p.kind] := by
          rw [hw7]
          have := (OwnC.lit (w := wr.alloc (.cells #[.int .i64 p.kind, .int .i64 p.times, .int .i64 0] 107)) (lo := wr.heap.size) (n := 1) 2 1 #[.int .i64 p.kind] (by simp) (by decide) rfl).mono (Nat.le_refl _) (show _ ≤ ((wr.alloc (.cells #[.int .i64 p.kind, .int .i64 p.times, .int .i64 0] 107)).alloc (.cells #[.int .i64 p.kind] 2)).heap.size by simp)
          rw [show (wr.alloc (.cells #[.int .i64 p.kind, .int .i64 p.times, .int .i64 0] 107)).heap.size = wr.heap.size + 1 by simp] at this
          exact this
        have hz7 : wr.heap.size ≤ w7.heap.size := by rw [hw7]; simp; omega
        have kb7 : Blk w7 wr.heap.size 107 #[.int .i64 p.kind, .int .i64 p.times, .int .i64 0] := by rw [hw7]; exact (Blk.new wr _ _).alloc _
        obtain ⟨v0, v1, v2⟩ := kb7.c3
        have hpl : ([p.kind] : List Int).length ≤ 30000000 := by simp
        obtain ⟨gL, hgL⟩ : ∃ gL, gL = wr.heap.size + 1 := ⟨_, rfl⟩
        rw [← hgL] at o7'
        go_upto_region 8 with fail
        rw [← hw7, ← hgL]
        clear hw7 ho hgL
        have hap := Apart.of ho7 o7' (Nat.le_refl _)
        have HOL : Hid (out.length + T * ([p.kind]).length ≤ 30000000) := Lib.hid (by
          have h1 := HSM.out
          rw [HS.out, HX.out, List.length_append, List.length_append, rep_length, HT.out, Int.toNat_natCast] at h1
          omega)
        go_wp2_with (fail)
        go_loopw [5, 9] (fun ov sv ws => ∃ (q : Nat) (A5 : Option Addr) (c5 : Nat), q ≤ T ∧ sv = .int .i64 ((T : Int) - (q : Int)) ∧ ov = .slice A5 (out ++ rep (q : Int) ([p.kind])).length c5 ∧ OwnI ws w.heap.size ws.heap.size A5 c5 (out ++ rep (q : Int) ([p.kind])) ∧ OwnI ws wr.heap.size w7.heap.size (some ⟨gL, 0, none⟩) 1 ([p.kind]) ∧ Apart A5 (some ⟨gL, 0, none⟩) ∧ w7.heap.size ≤ ws.heap.size ∧ Below w.heap.size w ws) (fun _ sv _ => (intOf sv).toNat)
        case atStart => exact ⟨0, A', c', Nat.zero_le _, by rw [HT.out]; simp, by simp [rep], by simpa [rep] using OwnC.mono ho7 (Nat.le_refl _) hz7, o7', hap, Nat.le_refl _, hb7⟩
        case round =>
          obtain ⟨q, A5, c5, hq, rfl, rfl, hoq, opq, hapq, hzq, hbq⟩ := hrel
          by_cases hqT : q < T
          · have d1 : decide ((0 : Int) < (T : Int) - (q : Int)) = true := decide_eq_true (by omega)
            have HR : Hid (rep ((q : Int) + 1) ([p.kind]) = rep (q : Int) ([p.kind]) ++ ([p.kind])) := Lib.hid (rep_snoc q ([p.kind]))
            have hlen : (out ++ rep (q : Int) ([p.kind])).length + ([p.kind]).length ≤ 30000000 := by
              have h1 := HOL.out
              have h2 := Nat.mul_le_mul_right ([p.kind]).length (show q + 1 ≤ T from hqT)
              rw [Nat.add_mul, Nat.one_mul] at h2
              rw [List.length_append, rep_length, Int.toNat_natCast]
              omega
            have w12 : IntKind.i64.wrap ((T : Int) - (q : Int) - 1) = (T : Int) - (q : Int) - 1 := IntWalk.i64_in _ ⟨by omega, by have := HT.out; omega⟩
            have hap2 : (((out ++ rep (q : Int) ([p.kind])).map (Value.int .i64)) ++ (([p.kind]).map (Value.int .i64))) = ((out ++ rep ((q : Int) + 1) ([p.kind])).map (Value.int .i64)) := by rw [HR.out, ← List.map_append, List.append_assoc]
            have HA2 := Lib.hid hap2; clear hap2
            generalize hOQ : out ++ rep (q : Int) ([p.kind]) = oq at hoq hlen HA2
            have HOQ := Lib.hid hOQ; clear hOQ
            go_wp2_with (at_builtin; refine wpList_appendC_at wr rfl (.tmp 51) (.tmp 52) _ rfl 2 iI _ 1 8 Try.underlying22 hi0 hu0 hu1 hu2 rfl (by decide) rfl hoq (by omega) (some ⟨gL, 0, none⟩) ([p.kind]).length 1 (([p.kind]).map (Value.int .i64)) rfl (by simp) opq.news (ints_one _) (by unfold maxLen; omega) (by omega) ?_; intro A9 c9 w8 ho8 hg8 hb8 hat8)
            have hz8 := hg8.size
            refine ⟨⟨q + 1, A9, c9, by omega, by first | go_num | (push_cast; go_num), ?_, ?_, hapq.kept opq hzq hg8, hapq.next opq hzq hat8, by omega, hbq.trans hb8⟩, by first | (simp [intOf]; done) | (simp [intOf]; omega)⟩
            · push_cast; rw [HR.out, ← List.append_assoc, HOQ.out, List.length_append]
              all_goals rfl
            · show OwnC _ _ _ _ _ _ _ _ _
              rw [show (((q + 1 : Nat) : Int)) = (q : Int) + 1 by push_cast; rfl, ← HA2.out]
              rw [show (out ++ rep ((q : Int) + 1) ([p.kind])).length = oq.length + ([p.kind]).length by rw [HR.out, ← List.append_assoc, HOQ.out, List.length_append]]
              exact ho8
          · obtain rfl : q = T := by omega
            have d1 : decide ((0 : Int) < (q : Int) - (q : Int)) = false := decide_eq_false (by omega)
            have HO : Hid (expP o ps = (out ++ rep (q : Int) ([p.kind])) ++ expP o (ps.drop (k + 1))) := Lib.hid (by rw [HS.out, HX.out, HT.out, List.append_assoc])
            go_wp2_with (fail)
            refine ⟨⟨k + 1, A5, c5, _, by omega, by go_num, rfl, hoq, HO, HG3, hbq⟩, by first | (simp [intOf]; done) | (simp [intOf]; omega)⟩
    · obtain rfl : k = ps.length := by omega
      have he := HS.out
      rw [drop_all (Nat.le_refl _), expP_nil, List.append_nil] at he
      have HE := Lib.hid he; clear he
      go_wp2_with (fail)
      go_ret
      refine ⟨A', c', by rw [HE.out]; rfl, ?_, hb⟩
      rw [HE.out]
      exact ho

end Go.Proofs.Ytnilglkiojigjaa

/- ExpandPieces, the given side. -/
namespace Go.Proofs.Ytnilglkiojigjaa
open Go Go.RowKit

theorem ex_1 {ps : List PieceD} {cols : Int} (h : piecesB ps = false) : exRes ps cols = [] ∧ exCode ps cols = 1 := ex_err (by simp [exCode, h]) (by decide)
theorem ex_2 {ps : List PieceD} {cols : Int} (h : piecesB ps = true) (hc : inR cols 1 8 = false) : exRes ps cols = [] ∧ exCode ps cols = 2 := ex_err (by simp [exCode, h, hc]) (by decide)
theorem ex_10 {ps : List PieceD} {cols : Int} (h : piecesB ps = true) (hc : inR cols 1 8 = true) (he : ¬ needOf ps + timesOf ps cols * eachOf ps = cols) : exRes ps cols = [] ∧ exCode ps cols = 10 := ex_err (by simp [exCode, h, hc, he]) (by decide)
theorem ex_5 {ps : List PieceD} {cols : Int} (h : piecesB ps = true) (hc : inR cols 1 8 = true) (he : needOf ps + timesOf ps cols * eachOf ps = cols) (hs : ¬ sumP true ps 0 + timesOf ps cols * sumP true (openPart ps) 0 ≤ 16) : exRes ps cols = [] ∧ exCode ps cols = 5 := ex_err (by rw [exCode, if_pos h, if_pos hc, if_pos he, if_neg hs]) (by decide)
theorem ex_0 {ps : List PieceD} {cols : Int} (h : piecesB ps = true) (hc : inR cols 1 8 = true) (he : needOf ps + timesOf ps cols * eachOf ps = cols) (hs : sumP true ps 0 + timesOf ps cols * sumP true (openPart ps) 0 ≤ 16) : exRes ps cols = expP (timesOf ps cols) ps ∧ exCode ps cols = 0 := ex_ok (by rw [exCode, if_pos h, if_pos hc, if_pos he, if_pos hs])

set_option maxHeartbeats 4000000 in
theorem spec_ExpandPieces (ps : List PieceD) (cols : Int) (A : Option Addr) (c : Nat) (w : World) (h : Pieces w A ps) (hl : ps.length ≤ 9223372036854775807) (hc : ps.length ≤ c) (hcm : c ≤ 9223372036854775807) :
    Calls Try.prog 27 #[.slice A ps.length c, .int .i64 cols] w fun e w' => ∃ A' c', e = .returned (.tuple #[.slice A' (exRes ps cols).length c', .int .i64 (exCode ps cols)]) ∧ OwnI w' w.heap.size w'.heap.size A' c' (exRes ps cols) ∧ Below w.heap.size w w' := by
  cases hv : piecesB ps
  · have HF := Lib.hid (ex_1 (cols := cols) hv)
    go_enter Try.func27, Try.ntmps27
    go_wp2_with (fail)
    refine (spec_l16Ok _ _ _ _ h hl).mono ?_; rintro e w2 ⟨rfl, b2⟩
    rw [hv]
    go_wp2_with (fail)
    go_ret2
    rw [HF.out.1, HF.out.2]
    exact ⟨none, 0, rfl, OwnC.nil _ _ _ _ _, b2⟩
  · cases hcb : inR cols 1 8
    · have HF := Lib.hid (ex_2 hv hcb)
      go_enter Try.func27, Try.ntmps27
      go_wp2_with (fail)
      refine (spec_l16Ok _ _ _ _ h hl).mono ?_; rintro e w2 ⟨rfl, b2⟩
      rw [hv]
      clear hv
      go_wp2_with (go_at_call 63; refine (spec_l00In _ _ _ _).mono ?_; rintro e _ ⟨rfl, rfl⟩; rw [hcb])
      go_ret2
      rw [HF.out.1, HF.out.2]
      exact ⟨none, 0, rfl, OwnC.nil _ _ _ _ _, b2⟩
    · obtain ⟨h24, _, hg⟩ := piecesB_good hv
      obtain ⟨d, hd⟩ := openPart_good ps.length ps (Nat.le_refl _) hg
      have hpl := openPart_length ps
      obtain ⟨⟨n0, n1⟩, ⟨e0, e1⟩⟩ := sums_small hv false
      obtain ⟨⟨s0, s1⟩, ⟨o0, o1⟩⟩ := sums_small hv true
      obtain ⟨q1, q8⟩ := inR_iff.1 hcb
      have HV := Lib.hid hv
      have HCB := Lib.hid hcb
      have HG := Lib.hid hg; clear hg
      have HD := Lib.hid hd; clear hd
      have HT8 := Lib.hid (expT_range (each := eachOf ps) (show 0 ≤ needOf ps from n0) q8)
      have HN : Hid (needOf ps = sumP false ps 0) := Lib.hid rfl
      have HE : Hid (eachOf ps = sumP false (openPart ps) 0) := Lib.hid rfl
      have HTM : Hid (timesOf ps cols = expT (needOf ps) cols (eachOf ps)) := Lib.hid rfl
      go_enter Try.func27, Try.ntmps27
      go_wp2_with (fail)
      refine (spec_l16Ok _ _ _ _ h hl).mono ?_; rintro e w2 ⟨rfl, b2⟩
      rw [hv]
      clear hv
      go_wp2_with (go_at_call 63; refine (spec_l00In _ _ _ _).mono ?_; rintro e _ ⟨rfl, rfl⟩; rw [hcb])
      clear hcb
      refine (spec_l16Open _ _ _ _ (by omega) hc hcm (h.below b2) HG.out).mono ?_; rintro e _ ⟨⟨A', c', ok, rfl, hp, hc1, hc2⟩, rfl⟩
      go_wp2_with (fail)
      refine (spec_l16Sum false ps.length ps A c 0 _ (Nat.le_refl _) (by omega) hc hcm (h.below b2) HG.out).mono ?_; rintro e w3 ⟨rfl, b3⟩
      have hb3 : Below w.heap.size w w3 := b2.trans (b3.mono b2.size)
      have hp3 := hp.below b3
      have z3 := hb3.size
      obtain ⟨need, hneed⟩ : ∃ x, x = sumP false ps 0 := ⟨_, rfl⟩
      rw [← hneed] at n0 n1 HN ⊢
      have hR : IntKind.i64.wrap (cols - need) = cols - need := IntWalk.i64_in _ ⟨by omega, by omega⟩
      clear hneed
      go_wp2_with (fail)
      refine (spec_l16Sum false (openPart ps).length (openPart ps) A' c' d _ (Nat.le_refl _) (by omega) hc1 hc2 hp3 HD.out).mono ?_; rintro e w4 ⟨rfl, b4⟩
      have hb4 : Below w.heap.size w w4 := hb3.trans (b4.mono z3)
      have hp4 := hp3.below b4
      have z4 := hb4.size
      have hps4 := h.below hb4
      obtain ⟨each, heach⟩ : ∃ x, x = sumP false (openPart ps) 0 := ⟨_, rfl⟩
      rw [← heach] at e0 e1 HE ⊢
      clear heach b2 b3 b4 hp hp3 hR
      obtain ⟨R, hR⟩ : ∃ R, R = cols - need := ⟨_, rfl⟩
      have HR := Lib.hid hR
      have R0 : -100000000 ≤ R ∧ R ≤ 100000000 := by omega
      obtain ⟨R1, R2⟩ := R0
      rw [← hR]
      have HST : Hid (∀ W, Below w.heap.size w W → Calls Try.prog 79 #[.slice A ps.length c, .bool true] W fun e w' => e = .returned (.int .i64 (sumP true ps 0)) ∧ Below W.heap.size W w') := Lib.hid (fun W hW => spec_l16Sum true ps.length ps A c 0 W (Nat.le_refl _) (by omega) hc hcm (h.below hW) HG.out)
      have HSO : Hid (∀ W, Below w4.heap.size w4 W → Calls Try.prog 79 #[.slice A' (openPart ps).length c', .bool true] W fun e w' => e = .returned (.int .i64 (sumP true (openPart ps) 0)) ∧ Below W.heap.size W w') := Lib.hid (fun W hW => spec_l16Sum true (openPart ps).length (openPart ps) A' c' d W (Nat.le_refl _) (by omega) hc1 hc2 (hp4.below hW) HD.out)
      have HEX : Hid (∀ W, Below w.heap.size w W → Calls Try.prog 80 #[.slice A ps.length c, .int .i64 (timesOf ps cols)] W fun e w' => ∃ A' c', e = .returned (.slice A' (expP (timesOf ps cols) ps).length c') ∧ OwnI w' W.heap.size w'.heap.size A' c' (expP (timesOf ps cols) ps) ∧ Below W.heap.size W w') := Lib.hid (fun W hW => spec_l16Expand _ (by have := HT8.out; rw [← HTM.out] at this; omega) ps.length ps A c 0 W (Nat.le_refl _) (by omega) hc hcm (h.below hW) HG.out)
      have HF10 := Lib.hid (fun he => ex_10 (ps := ps) (cols := cols) HV.out HCB.out he)
      have HF5 := Lib.hid (fun he hs => ex_5 (ps := ps) (cols := cols) HV.out HCB.out he hs)
      have HF0 := Lib.hid (fun he hs => ex_0 (ps := ps) (cols := cols) HV.out HCB.out he hs)
      have HT := HT8.out
      rw [← HTM.out] at HT
      rw [HN.out, HE.out] at HTM HF10 HF5 HF0
      obtain ⟨T, hT⟩ : ∃ T, T = timesOf ps cols := ⟨_, rfl⟩
      rw [← hT] at HEX HF10 HF5 HF0 HTM HT
      have HTT := Lib.hid hT; clear hT HT8
      obtain ⟨T0, T8⟩ := HT
      clear hps4 hp4
      generalize sumP true ps 0 = st at s0 s1 HST HF5 HF0
      generalize sumP true (openPart ps) 0 = os at o0 o1 HSO HF5 HF0
      have HTV : Hid (T = if 0 < R ∧ 0 < each then R.tdiv each else 0) := Lib.hid (by
        rw [HTM.out, expT, hR]
        by_cases hn : need < cols
        · by_cases he : 0 < each
          · rw [if_pos ⟨hn, he⟩, if_pos ⟨by omega, he⟩]
          · rw [if_neg (fun x => he x.2), if_neg (fun x => he x.2)]
        · rw [if_neg (fun x => hn x.1), if_neg (fun x => hn (by omega))])
      have HEQ : Hid (need + T * each = cols ↔ T * each = R) := Lib.hid (by rw [hR]; omega)
      clear hR
      have m0 := Int.mul_nonneg T0 e0
      have m1 := Int.mul_le_mul T8 e1 e0 (by omega)
      have x0 := Int.mul_nonneg T0 o0
      have x1 := Int.mul_le_mul T8 o1 o0 (by omega)
      have HM : Hid (IntKind.i64.wrap (T * each) = T * each) := Lib.hid (IntWalk.i64_in _ ⟨by omega, by omega⟩)
      have HX : Hid (IntKind.i64.wrap (T * os) = T * os) := Lib.hid (IntWalk.i64_in _ ⟨by omega, by omega⟩)
      have HY : Hid (IntKind.i64.wrap (st + T * os) = st + T * os) := Lib.hid (IntWalk.i64_in _ ⟨by omega, by omega⟩)
      generalize hme : T * each = me at m0 m1 HM HEQ HF10 HF5 HF0
      generalize hmo : T * os = mo at x0 x1 HX HY HF5 HF0
      have HME := Lib.hid hme; clear hme
      have HMO := Lib.hid hmo; clear hmo
      go_upto_region 9 with fail
      go_cut [33] (fun bv wx => bv = .bool (decide (0 < R ∧ 0 < each)) ∧ w4 = wx)
      case first =>
        by_cases hr : 0 < R
        · have HB : Hid (decide (0 < R ∧ 0 < each) = decide (0 < each)) := Lib.hid (by rw [decide_eq_decide]; omega)
          go_wp2_with (fail)
          go_meet
          exact ⟨bool_eq HB.out.symm, rfl⟩
        · have HB : Hid (decide (0 < R ∧ 0 < each) = false) := Lib.hid (decide_eq_false (by omega))
          go_wp2_with (fail)
          go_meet
          exact ⟨bool_eq HB.out.symm, rfl⟩
      case rest =>
      obtain ⟨rfl, rfl⟩ := hcut
      go_upto_if 33 with fail
      go_cut [10] (fun tv wx => tv = .int .i64 T ∧ w4 = wx)
      case first =>
        by_cases hr : 0 < R
        · by_cases he : 0 < each
          · have HV2 : Hid (R.tdiv each = T) := Lib.hid (by rw [HTV.out, if_pos ⟨hr, he⟩])
            have hq : IntKind.i64.wrap (R.tdiv each) = T := by rw [HV2.out]; exact IntWalk.i64_in _ ⟨by omega, by omega⟩
            have hne : ¬ each = 0 := by omega
            have hbt : decide (0 < R ∧ 0 < each) = true := decide_eq_true ⟨hr, he⟩
            go_wp2_with (fail)
            go_meet
            exact ⟨by first | rfl | rw [HV2.out], rfl⟩
          · have HV2 : Hid (T = 0) := Lib.hid (by rw [HTV.out, if_neg (fun x => he x.2)])
            have hbt : decide (0 < R ∧ 0 < each) = false := decide_eq_false (fun x => he x.2)
            go_wp2_with (fail)
            go_meet
            exact ⟨by rw [HV2.out], rfl⟩
        · have HV2 : Hid (T = 0) := Lib.hid (by rw [HTV.out, if_neg (fun x => hr x.1)])
          have hbt : decide (0 < R ∧ 0 < each) = false := decide_eq_false (fun x => hr x.1)
          go_wp2_with (fail)
          go_meet
          exact ⟨by rw [HV2.out], rfl⟩
      case rest =>
      obtain ⟨rfl, rfl⟩ := hcut
      have hM : IntKind.i64.wrap (T * each) = me := by rw [HME.out]; exact HM.out
      have hX : IntKind.i64.wrap (T * os) = mo := by rw [HMO.out]; exact HX.out
      have hY := HY.out
      by_cases hme : me = R
      · have hmb : (me != R) = false := by simp [hme]
        have HEQ2 := Lib.hid (HEQ.out.2 hme)
        clear hme
        by_cases hs : st + mo ≤ 16
        · have hsb : decide ((16 : Int) < st + mo) = false := decide_eq_false (by omega)
          have HF := Lib.hid (HF0.out HEQ2.out (by omega))
          clear hs
          go_wp2_with (fail)
          refine (HST.out _ hb4).mono ?_; rintro e w5 ⟨rfl, b5⟩
          have hb5 : Below w.heap.size w w5 := hb4.trans (b5.mono z4)
          have z5 := hb5.size
          go_wp2_with (fail)
          refine (HSO.out _ b5).mono ?_; rintro e w6 ⟨rfl, b6⟩
          have hb6 : Below w.heap.size w w6 := hb5.trans (b6.mono z5)
          have z6 := hb6.size
          go_wp2_with (fail)
          refine (HEX.out _ hb6).mono ?_; rintro e w7 ⟨A7, c7, rfl, o7, b7⟩
          have hb7 : Below w.heap.size w w7 := hb6.trans (b7.mono z6)
          go_wp2_with (fail)
          go_ret2
          rw [HF.out.1, HF.out.2]
          exact ⟨A7, c7, rfl, OwnC.mono o7 z6 (Nat.le_refl _), hb7⟩
        · have hsb : decide ((16 : Int) < st + mo) = true := decide_eq_true (by omega)
          have HF := Lib.hid (HF5.out HEQ2.out (by omega))
          clear hs
          go_wp2_with (fail)
          refine (HST.out _ hb4).mono ?_; rintro e w5 ⟨rfl, b5⟩
          have hb5 : Below w.heap.size w w5 := hb4.trans (b5.mono z4)
          have z5 := hb5.size
          go_wp2_with (fail)
          refine (HSO.out _ b5).mono ?_; rintro e w6 ⟨rfl, b6⟩
          have hb6 : Below w.heap.size w w6 := hb5.trans (b6.mono z5)
          go_wp2_with (fail)
          go_ret2
          rw [HF.out.1, HF.out.2]
          exact ⟨none, 0, rfl, OwnC.nil _ _ _ _ _, hb6⟩
      · have hmb : (me != R) = true := by simp [hme]
        have HF := Lib.hid (HF10.out (fun x => hme (HEQ.out.1 x)))
        clear hme
        go_wp2_with (fail)
        go_ret2
        rw [HF.out.1, HF.out.2]
        exact ⟨none, 0, rfl, OwnC.nil _ _ _ _ _, hb4⟩

end Go.Proofs.Ytnilglkiojigjaa

/- ExpandPieces, the program's side. -/
namespace Go.Proofs.Ytnilglkiojigjaa
open Go Go.RowKit

/-- What the closure works on: the box with the number of times, the box with the stitches until now. -/
structure ES (w : World) (g gO lo : Nat) (o : Int) (A : Option Addr) (c : Nat) (out : List Int) : Prop where
  bT : Blk w g 2 #[.int .i64 o]
  bO : Blk w gO 22 #[.slice A out.length c]
  ow : OwnI w lo w.heap.size A c out
  ord : g < lo ∧ lo ≤ gO
theorem ES.alloc {w : World} {g gO lo : Nat} {o : Int} {A : Option Addr} {c : Nat} {out : List Int} (h : ES w g gO lo o A c out) (x : Obj) : ES (w.alloc x) g gO lo o A c out :=
  ⟨h.bT.alloc x, h.bO.alloc x, (OwnC.alloc h.ow x).mono (Nat.le_refl _) (by simp), h.ord⟩
theorem ES.below {w w' : World} {g gO lo : Nat} {o : Int} {A : Option Addr} {c : Nat} {out : List Int} (h : ES w g gO lo o A c out) (hb : Below w.heap.size w w') : ES w' g gO lo o A c out :=
  ⟨h.bT.below hb h.bT.lt, h.bO.below hb h.bO.lt, (OwnC.below h.ow hb (Nat.le_refl _)).mono (Nat.le_refl _) hb.size, h.ord⟩
set_option maxHeartbeats 2000000 in
theorem expd_plain (p : PieceD) (A' : Option Addr) (n c' g gO lo : Nat) (o : Int) (A : Option Addr) (c : Nat) (out : List Int) (w : World) (hs : ES w g gO lo o A c out) (hk : p.kind ≠ 12) (ht : 1 ≤ p.times ∧ p.times ≤ 16) (hl : out.length ≤ 100000000) :
    Calls Try.prog 141 #[.agg #[.int .i64 p.kind, .int .i64 p.times, .int .i64 p.len], .slice A' n c', .pointer (some ⟨g, 0, none⟩), .pointer (some ⟨gO, 0, none⟩)] w fun e w' =>
      e = .returned (.tuple #[]) ∧ (∃ A2 c2, ES w' g gO lo o A2 c2 (out ++ rep p.times [p.kind])) ∧ Below lo w w' := by
  obtain ⟨iI, hi0, hu0, hu1, hu2⟩ := info_parts info_int64
  have t1 : (22 : TypeId) ≠ 2 := by decide
  have t2 : (107 : TypeId) ≠ 2 := by decide
  have hk' : (p.kind == 12) = false := by simp [hk]
  have ht' : (p.times == 0) = false := by simp; omega
  obtain ⟨hgl, hlg⟩ := hs.ord
  have hlO := hs.bO.lt
  obtain ⟨T, hT⟩ := Int.eq_ofNat_of_zero_le (show 0 ≤ p.times by omega)
  have hT16 : T ≤ 16 := by omega
  have HT := Lib.hid hT
  have kp := Blk.new w 107 #[.int .i64 p.kind, .int .i64 p.times, .int .i64 p.len]
  have hsA := hs.alloc (.cells #[.int .i64 p.kind, .int .i64 p.times, .int .i64 p.len] 107)
  have hbA : Below lo w (w.alloc (.cells #[.int .i64 p.kind, .int .i64 p.times, .int .i64 p.len] 107)) := (Below.refl _ _).alloc (by omega) _
  obtain ⟨u0, u1, u2⟩ := kp.c3
  obtain ⟨gP, hgP⟩ : ∃ gP, gP = w.heap.size := ⟨_, rfl⟩
  rw [← hgP] at kp u0 u1 u2 hlO
  have hgPO : gP ≠ gO := by omega
  clear hk hT ht
  go_enter Try.func141, Try.ntmps141
  go_wp2_with (fail)
  rw [← hgP]
  clear hgP
  go_loopw [13] (fun iv wr => ∃ (q : Nat) (A5 : Option Addr) (c5 : Nat), q ≤ T ∧ iv = .int .i64 (q : Int) ∧ ES wr g gO lo o A5 c5 (out ++ rep (q : Int) ([p.kind])) ∧ Blk wr gP 107 #[.int .i64 p.kind, .int .i64 p.times, .int .i64 p.len] ∧ Below lo w wr) (fun iv _ => T - (intOf iv).toNat)
  case atStart => exact ⟨0, A, c, Nat.zero_le _, rfl, by simpa [rep] using hsA, kp, hbA⟩
  case round =>
    clear hsA kp hbA u0 u1 u2 hs
    obtain ⟨q, A5, c5, hq, rfl, hsq, kpq, hbq⟩ := hrel
    have hlq := hsq.bO.lt
    obtain ⟨u0, u1, u2⟩ := kpq.c3
    have b0 := hsq.bO.c1
    by_cases hqT : q < T
    · have d1 : decide ((q : Int) < p.times) = true := decide_eq_true (by rw [HT.out]; omega)
      have HR : Hid (rep ((q : Int) + 1) ([p.kind]) = rep (q : Int) ([p.kind]) ++ ([p.kind])) := Lib.hid (rep_snoc q ([p.kind]))
      have hlen : (out ++ rep (q : Int) ([p.kind])).length ≤ 600000000 := by
        rw [List.length_append, rep_length, Int.toNat_natCast]
        have h1 := Nat.mul_le_mul (show q ≤ 15 by omega) (show ([p.kind]).length ≤ 30000000 by simp)
        omega
      have w12 : IntKind.i64.wrap ((q : Int) + 1) = (q : Int) + 1 := IntWalk.i64_in _ ⟨by omega, by omega⟩
      have HA2 : Hid ((((out ++ rep (q : Int) ([p.kind])).map (Value.int .i64)) ++ (([p.kind]).map (Value.int .i64))) = ((out ++ rep ((q : Int) + 1) ([p.kind])).map (Value.int .i64))) := Lib.hid (by rw [HR.out, ← List.map_append, List.append_assoc])
      have HA3 : Hid ((out ++ rep ((q : Int) + 1) ([p.kind])).length = (out ++ rep (q : Int) ([p.kind])).length + ([p.kind]).length) := Lib.hid (by rw [HR.out, ← List.append_assoc, List.length_append])
      generalize hOQ : out ++ rep (q : Int) ([p.kind]) = oq at hsq hlen HA2 HA3 b0
      generalize hON : out ++ rep ((q : Int) + 1) ([p.kind]) = on at HA2 HA3
      have HON : Hid (out ++ rep (((q + 1 : Nat)) : Int) ([p.kind]) = on) := Lib.hid (by rw [← hON]; push_cast; rfl)
      clear hOQ hON HR
      have HKB : Hid (∀ w8, (wr.alloc (.cells #[.int .i64 p.kind] 2)).grownBy w8 (Value.slice A5 oq.length c5).ownBlock → Blk w8 gO 22 #[.slice A5 oq.length c5]) := Lib.hid (fun w8 hg => (hsq.bO.alloc _).grownT (hsq.ow.alloc (.cells #[.int .i64 p.kind] 2)) t1 hg)
      go_wp2_with (at_builtin; refine wpList_append1 wr [.int .i64 p.kind] _ rfl (.tmp 22) (.tmp 25) _ rfl 2 iI _ 1 8 Try.underlying22 hi0 hu0 hu1 hu2 rfl (by decide) rfl hsq.ow (by omega) 1 rfl rfl (by simp [Value.oneCell']) (by omega) (by decide) ?_; intro A9 c9 w8 ho8 hg8 hb8 hz8; have kb8 := HKB.out w8 hg8; have x0' := kb8.c1; have x1' := kb8.frozen 0)
      have kb8 := HKB.out w8 hg8
      have kp8 := (kpq.alloc (.cells #[.int .i64 p.kind] 2)).grownT (hsq.ow.alloc (.cells #[.int .i64 p.kind] 2)) t2 hg8
      have bT8 := hsq.bT.below hb8 hgl
      refine ⟨⟨q + 1, A9, c9, by omega, by first | go_num | (push_cast; go_num), ?_, kp8.far hgPO _, ?_⟩, by first | (simp [intOf]; done) | (simp [intOf]; omega)⟩
      · rw [HON.out]
        refine ⟨bT8.far (by show g ≠ gO; omega) _, ?_, ?_, ⟨hgl, hlg⟩⟩
        · rw [HA3.out]; simpa using kb8.set1 _
        · show OwnC _ _ _ _ _ _ _ _ _
          rw [HA3.out, ← HA2.out]
          exact (OwnC.farT ho8 kb8 t1 0 _).mono (Nat.le_refl _) (by simp)
      · exact (hbq.trans hb8).setCell (by show lo ≤ gO; omega) _
    · obtain rfl : q = T := by omega
      have d1 : decide ((q : Int) < p.times) = false := decide_eq_false (by rw [HT.out]; omega)
      rw [← HT.out] at hsq
      go_wp2_with (fail)
      go_end0
      exact ⟨rfl, ⟨A5, c5, hsq⟩, hbq⟩
set_option maxHeartbeats 4000000 in
theorem expd_group (p : PieceD) (A' : Option Addr) (n c' g gO lo : Nat) (o : Int) (A : Option Addr) (c : Nat) (out part : List Int) (w : World) (hs : ES w g gO lo o A c out) (hk : p.kind = 12) (ht : 0 ≤ p.times ∧ p.times ≤ 16) (ho : 0 ≤ o ∧ o ≤ 16) (hl : out.length ≤ 100000000) (hpl : part.length ≤ 30000000)
    (HM : Hid (∀ W, Below lo w W → Calls Try.prog 85 #[.slice A' n c', .int .i64 0] W fun e w' => ∃ A5 c5, e = .returned (.slice A5 part.length c5) ∧ OwnI w' W.heap.size w'.heap.size A5 c5 part ∧ Below W.heap.size W w')) :
    Calls Try.prog 141 #[.agg #[.int .i64 p.kind, .int .i64 p.times, .int .i64 p.len], .slice A' n c', .pointer (some ⟨g, 0, none⟩), .pointer (some ⟨gO, 0, none⟩)] w fun e w' =>
      e = .returned (.tuple #[]) ∧ (∃ A2 c2, ES w' g gO lo o A2 c2 (out ++ rep (if p.times = 0 then o else p.times) part)) ∧ Below lo w w' := by
  obtain ⟨iI, hi0, hu0, hu1, hu2⟩ := info_parts info_int64
  have t1 : (22 : TypeId) ≠ 2 := by decide
  have t2 : (107 : TypeId) ≠ 2 := by decide
  have hk' : (p.kind == 12) = true := by simp [hk]
  obtain ⟨hgl, hlg⟩ := hs.ord
  obtain ⟨ho0, ho16⟩ := ho
  obtain ⟨ht0, ht16⟩ := ht
  have hlO := hs.bO.lt
  have kp := Blk.new w 107 #[.int .i64 p.kind, .int .i64 p.times, .int .i64 p.len]
  have hsA := hs.alloc (.cells #[.int .i64 p.kind, .int .i64 p.times, .int .i64 p.len] 107)
  have hbA : Below lo w (w.alloc (.cells #[.int .i64 p.kind, .int .i64 p.times, .int .i64 p.len] 107)) := (Below.refl _ _).alloc (by omega) _
  obtain ⟨u0, u1, u2⟩ := kp.c3
  have v0 := hsA.bT.c1
  obtain ⟨gP, hgP⟩ : ∃ gP, gP = w.heap.size := ⟨_, rfl⟩
  rw [← hgP] at kp u0 u1 u2 hlO
  have hgPO : gP ≠ gO := by omega
  clear hk
  by_cases htz : p.times = 0
  · rw [if_pos htz]
    have ht' : (p.times == 0) = true := by simp [htz]
    obtain ⟨T, hT⟩ := Int.eq_ofNat_of_zero_le ho0
    have hT16 : T ≤ 16 := by omega
    have HT := Lib.hid hT
    clear hT htz ht0 ht16
    go_enter Try.func141, Try.ntmps141
    go_wp2_with (fail)
    rw [← hgP]
    clear hgP
    go_loopw [13] (fun iv wr => ∃ (q : Nat) (A5 : Option Addr) (c5 : Nat), q ≤ T ∧ iv = .int .i64 (q : Int) ∧ ES wr g gO lo o A5 c5 (out ++ rep (q : Int) (part)) ∧ Blk wr gP 107 #[.int .i64 p.kind, .int .i64 p.times, .int .i64 p.len] ∧ Below lo w wr) (fun iv _ => T - (intOf iv).toNat)
    case atStart => exact ⟨0, A, c, Nat.zero_le _, rfl, by simpa [rep] using hsA, kp, hbA⟩
    case round =>
      clear hsA kp hbA u0 u1 u2 hs
      obtain ⟨q, A5, c5, hq, rfl, hsq, kpq, hbq⟩ := hrel
      have hlq := hsq.bO.lt
      obtain ⟨u0, u1, u2⟩ := kpq.c3
      have b0 := hsq.bO.c1
      by_cases hqT : q < T
      · have d1 : decide ((q : Int) < o) = true := decide_eq_true (by rw [HT.out]; omega)
        have HR : Hid (rep ((q : Int) + 1) (part) = rep (q : Int) (part) ++ (part)) := Lib.hid (rep_snoc q (part))
        have hlen : (out ++ rep (q : Int) (part)).length ≤ 600000000 := by
          rw [List.length_append, rep_length, Int.toNat_natCast]
          have h1 := Nat.mul_le_mul (show q ≤ 15 by omega) (show (part).length ≤ 30000000 by exact hpl)
          omega
        have w12 : IntKind.i64.wrap ((q : Int) + 1) = (q : Int) + 1 := IntWalk.i64_in _ ⟨by omega, by omega⟩
        have HA2 : Hid ((((out ++ rep (q : Int) (part)).map (Value.int .i64)) ++ ((part).map (Value.int .i64))) = ((out ++ rep ((q : Int) + 1) (part)).map (Value.int .i64))) := Lib.hid (by rw [HR.out, ← List.map_append, List.append_assoc])
        have HA3 : Hid ((out ++ rep ((q : Int) + 1) (part)).length = (out ++ rep (q : Int) (part)).length + (part).length) := Lib.hid (by rw [HR.out, ← List.append_assoc, List.length_append])
        generalize hOQ : out ++ rep (q : Int) (part) = oq at hsq hlen HA2 HA3 b0
        generalize hON : out ++ rep ((q : Int) + 1) (part) = on at HA2 HA3
        have HON : Hid (out ++ rep (((q + 1 : Nat)) : Int) (part) = on) := Lib.hid (by rw [← hON]; push_cast; rfl)
        clear hOQ hON HR
        go_wp2_with (fail)
        (refine wp_region_pops 2 (S := (fun W' => W'.cell? ⟨gO, 0, none⟩ = some (.slice A5 oq.length c5))) (pre := ?_) (T := ?_) (n := ?_) (by kernel_rfl) (by kernel_rfl) ?_ ?_ ?_ ?_ (fun hHeld => ?_); rotate_left 3; (focus (simp only [pops, List.pop_toArray, List.dropLast_cons_cons, List.dropLast_singleton]; rfl)); (focus (simp only [tailOf, List.pop_toArray, List.dropLast_cons_cons, List.dropLast_singleton, List.back?_toArray, List.getLast?_cons_cons, List.getLast?_singleton, Option.toList_some, List.nil_append, List.cons_append]; rfl)); (focus rfl); (focus (exact b0)))
        ((refine wpAnyH_take (i := 0) (v := ?_) rfl (by kernel_rfl) (by kernel_rfl) (by kernel_rfl) (fun _ _ _ h => h) (Or.inl ⟨by rfl, ?_⟩) (by assumption) ?_; rotate_left; (focus (intro W hSw; (try dsimp only at hSw); go_simp; try (with_reducible rfl)))); (try simp only [List.getElem_toArray, List.getElem_cons_zero, Act.put, List.setIfInBounds_toArray, List.set_cons_zero, List.set_cons_succ]); (refine wpAnyH_take (i := 1) (v := ?_) rfl (by kernel_rfl) (by kernel_rfl) (by kernel_rfl) (fun _ _ _ h => h) (Or.inl ⟨by rfl, ?_⟩) (by assumption) ?_; rotate_left; (focus (intro W hSw; (try dsimp only at hSw); go_simp; try (with_reducible rfl)))); (try simp only [List.getElem_toArray, List.getElem_cons_zero, List.getElem_cons_succ, Act.put, List.setIfInBounds_toArray, List.set_cons_zero, List.set_cons_succ]))
        (refine wpAnyH_ready (rs := [2]) (by kernel_rfl) (by simp) ?_; refine AllReadyH.cons rfl (fun K hK => ?_) AllReadyH.nil)
        go_simp
        refine (HM.out _ (Below.drew hbq)).mono ?_; rintro e w7 ⟨A7, c7, rfl, o7', b7'⟩
        have b7 := undrew b7'
        have o7 : OwnI w7 wr.heap.size w7.heap.size A7 c7 part := o7'
        have hz7 := b7.size
        have hs7 := hsq.below b7
        have kp7 := kpq.below b7 kpq.lt
        refine hK.out _ _ hs7.bO.c1 (fun hHeld => ?_)
        clear hK K b7' o7'
        (try simp only [List.getElem_toArray, List.getElem_cons_zero, List.getElem_cons_succ, Act.put, List.setIfInBounds_toArray, List.set_cons_zero, List.set_cons_succ])
        (refine wpAnyH_done (by kernel_rfl) ?_ _; change wpList _ _ _ _ _ _)
        clear hHeld b0 u0 u1 u2
        have ow7 := OwnC.below hsq.ow b7 (Nat.le_refl _)
        have HKB : Hid (∀ w8, w7.grownBy w8 (Value.slice A5 oq.length c5).ownBlock → Blk w8 gO 22 #[.slice A5 oq.length c5]) := Lib.hid (fun w8 hg => hs7.bO.grownT hs7.ow t1 hg)
        go_wp2_with (at_builtin; refine wpList_appendC w7 rfl (.tmp 18) (.tmp 20) _ rfl 2 iI _ 1 8 Try.underlying22 hi0 hu0 hu1 hu2 rfl (by decide) rfl hs7.ow (by omega) A7 part.length c7 (part.map (Value.int .i64)) rfl (by simp) o7.news (ints_one _) (by unfold maxLen; omega) (by omega) ?_; intro A9 c9 w8 ho8 hg8 hb8; have kb8 := HKB.out w8 hg8; have x0' := kb8.c1; have x1' := kb8.frozen 0)
        have kb8 := HKB.out w8 hg8
        have kp8 := kp7.grownT hs7.ow t2 hg8
        have bT8 := hs7.bT.below hb8 hgl
        have hz8 := hg8.size
        refine ⟨⟨q + 1, A9, c9, by omega, by first | go_num | (push_cast; go_num), ?_, kp8.far hgPO _, ?_⟩, by first | (simp [intOf]; done) | (simp [intOf]; omega)⟩
        · rw [HON.out]
          refine ⟨bT8.far (by show g ≠ gO; omega) _, ?_, ?_, ⟨hgl, hlg⟩⟩
          · rw [HA3.out]; simpa using kb8.set1 _
          · show OwnC _ _ _ _ _ _ _ _ _
            rw [HA3.out, ← HA2.out]
            exact (OwnC.farT ho8 kb8 t1 0 _).mono (Nat.le_refl _) (by simp)
        · exact ((hbq.trans (b7.mono (by omega))).trans hb8).setCell (by show lo ≤ gO; omega) _
      · obtain rfl : q = T := by omega
        have d1 : decide ((q : Int) < o) = false := decide_eq_false (by rw [HT.out]; omega)
        rw [← HT.out] at hsq
        go_wp2_with (fail)
        go_end0
        exact ⟨rfl, ⟨A5, c5, hsq⟩, hbq⟩
  · rw [if_neg htz]
    have ht' : (p.times == 0) = false := by simp [htz]
    obtain ⟨T, hT⟩ := Int.eq_ofNat_of_zero_le ht0
    have hT16 : T ≤ 16 := by omega
    have HT := Lib.hid hT
    clear hT htz ht0 ht16
    go_enter Try.func141, Try.ntmps141
    go_wp2_with (fail)
    rw [← hgP]
    clear hgP
    go_loopw [13] (fun iv wr => ∃ (q : Nat) (A5 : Option Addr) (c5 : Nat), q ≤ T ∧ iv = .int .i64 (q : Int) ∧ ES wr g gO lo o A5 c5 (out ++ rep (q : Int) (part)) ∧ Blk wr gP 107 #[.int .i64 p.kind, .int .i64 p.times, .int .i64 p.len] ∧ Below lo w wr) (fun iv _ => T - (intOf iv).toNat)
    case atStart => exact ⟨0, A, c, Nat.zero_le _, rfl, by simpa [rep] using hsA, kp, hbA⟩
    case round =>
      clear hsA kp hbA u0 u1 u2 hs
      obtain ⟨q, A5, c5, hq, rfl, hsq, kpq, hbq⟩ := hrel
      have hlq := hsq.bO.lt
      obtain ⟨u0, u1, u2⟩ := kpq.c3
      have b0 := hsq.bO.c1
      by_cases hqT : q < T
      · have d1 : decide ((q : Int) < p.times) = true := decide_eq_true (by rw [HT.out]; omega)
        have HR : Hid (rep ((q : Int) + 1) (part) = rep (q : Int) (part) ++ (part)) := Lib.hid (rep_snoc q (part))
        have hlen : (out ++ rep (q : Int) (part)).length ≤ 600000000 := by
          rw [List.length_append, rep_length, Int.toNat_natCast]
          have h1 := Nat.mul_le_mul (show q ≤ 15 by omega) (show (part).length ≤ 30000000 by exact hpl)
          omega
        have w12 : IntKind.i64.wrap ((q : Int) + 1) = (q : Int) + 1 := IntWalk.i64_in _ ⟨by omega, by omega⟩
        have HA2 : Hid ((((out ++ rep (q : Int) (part)).map (Value.int .i64)) ++ ((part).map (Value.int .i64))) = ((out ++ rep ((q : Int) + 1) (part)).map (Value.int .i64))) := Lib.hid (by rw [HR.out, ← List.map_append, List.append_assoc])
        have HA3 : Hid ((out ++ rep ((q : Int) + 1) (part)).length = (out ++ rep (q : Int) (part)).length + (part).length) := Lib.hid (by rw [HR.out, ← List.append_assoc, List.length_append])
        generalize hOQ : out ++ rep (q : Int) (part) = oq at hsq hlen HA2 HA3 b0
        generalize hON : out ++ rep ((q : Int) + 1) (part) = on at HA2 HA3
        have HON : Hid (out ++ rep (((q + 1 : Nat)) : Int) (part) = on) := Lib.hid (by rw [← hON]; push_cast; rfl)
        clear hOQ hON HR
        go_wp2_with (fail)
        (refine wp_region_pops 2 (S := (fun W' => W'.cell? ⟨gO, 0, none⟩ = some (.slice A5 oq.length c5))) (pre := ?_) (T := ?_) (n := ?_) (by kernel_rfl) (by kernel_rfl) ?_ ?_ ?_ ?_ (fun hHeld => ?_); rotate_left 3; (focus (simp only [pops, List.pop_toArray, List.dropLast_cons_cons, List.dropLast_singleton]; rfl)); (focus (simp only [tailOf, List.pop_toArray, List.dropLast_cons_cons, List.dropLast_singleton, List.back?_toArray, List.getLast?_cons_cons, List.getLast?_singleton, Option.toList_some, List.nil_append, List.cons_append]; rfl)); (focus rfl); (focus (exact b0)))
        ((refine wpAnyH_take (i := 0) (v := ?_) rfl (by kernel_rfl) (by kernel_rfl) (by kernel_rfl) (fun _ _ _ h => h) (Or.inl ⟨by rfl, ?_⟩) (by assumption) ?_; rotate_left; (focus (intro W hSw; (try dsimp only at hSw); go_simp; try (with_reducible rfl)))); (try simp only [List.getElem_toArray, List.getElem_cons_zero, Act.put, List.setIfInBounds_toArray, List.set_cons_zero, List.set_cons_succ]); (refine wpAnyH_take (i := 1) (v := ?_) rfl (by kernel_rfl) (by kernel_rfl) (by kernel_rfl) (fun _ _ _ h => h) (Or.inl ⟨by rfl, ?_⟩) (by assumption) ?_; rotate_left; (focus (intro W hSw; (try dsimp only at hSw); go_simp; try (with_reducible rfl)))); (try simp only [List.getElem_toArray, List.getElem_cons_zero, List.getElem_cons_succ, Act.put, List.setIfInBounds_toArray, List.set_cons_zero, List.set_cons_succ]))
        (refine wpAnyH_ready (rs := [2]) (by kernel_rfl) (by simp) ?_; refine AllReadyH.cons rfl (fun K hK => ?_) AllReadyH.nil)
        go_simp
        refine (HM.out _ (Below.drew hbq)).mono ?_; rintro e w7 ⟨A7, c7, rfl, o7', b7'⟩
        have b7 := undrew b7'
        have o7 : OwnI w7 wr.heap.size w7.heap.size A7 c7 part := o7'
        have hz7 := b7.size
        have hs7 := hsq.below b7
        have kp7 := kpq.below b7 kpq.lt
        refine hK.out _ _ hs7.bO.c1 (fun hHeld => ?_)
        clear hK K b7' o7'
        (try simp only [List.getElem_toArray, List.getElem_cons_zero, List.getElem_cons_succ, Act.put, List.setIfInBounds_toArray, List.set_cons_zero, List.set_cons_succ])
        (refine wpAnyH_done (by kernel_rfl) ?_ _; change wpList _ _ _ _ _ _)
        clear hHeld b0 u0 u1 u2
        have ow7 := OwnC.below hsq.ow b7 (Nat.le_refl _)
        have HKB : Hid (∀ w8, w7.grownBy w8 (Value.slice A5 oq.length c5).ownBlock → Blk w8 gO 22 #[.slice A5 oq.length c5]) := Lib.hid (fun w8 hg => hs7.bO.grownT hs7.ow t1 hg)
        go_wp2_with (at_builtin; refine wpList_appendC w7 rfl (.tmp 18) (.tmp 20) _ rfl 2 iI _ 1 8 Try.underlying22 hi0 hu0 hu1 hu2 rfl (by decide) rfl hs7.ow (by omega) A7 part.length c7 (part.map (Value.int .i64)) rfl (by simp) o7.news (ints_one _) (by unfold maxLen; omega) (by omega) ?_; intro A9 c9 w8 ho8 hg8 hb8; have kb8 := HKB.out w8 hg8; have x0' := kb8.c1; have x1' := kb8.frozen 0)
        have kb8 := HKB.out w8 hg8
        have kp8 := kp7.grownT hs7.ow t2 hg8
        have bT8 := hs7.bT.below hb8 hgl
        have hz8 := hg8.size
        refine ⟨⟨q + 1, A9, c9, by omega, by first | go_num | (push_cast; go_num), ?_, kp8.far hgPO _, ?_⟩, by first | (simp [intOf]; done) | (simp [intOf]; omega)⟩
        · rw [HON.out]
          refine ⟨bT8.far (by show g ≠ gO; omega) _, ?_, ?_, ⟨hgl, hlg⟩⟩
          · rw [HA3.out]; simpa using kb8.set1 _
          · show OwnC _ _ _ _ _ _ _ _ _
            rw [HA3.out, ← HA2.out]
            exact (OwnC.farT ho8 kb8 t1 0 _).mono (Nat.le_refl _) (by simp)
        · exact ((hbq.trans (b7.mono (by omega))).trans hb8).setCell (by show lo ≤ gO; omega) _
      · obtain rfl : q = T := by omega
        have d1 : decide ((q : Int) < p.times) = false := decide_eq_false (by rw [HT.out]; omega)
        rw [← HT.out] at hsq
        go_wp2_with (fail)
        go_end0
        exact ⟨rfl, ⟨A5, c5, hsq⟩, hbq⟩

end Go.Proofs.Ytnilglkiojigjaa
