/- Steps of the proof, joined from several texts: XK ZB ZC PP ZD ZE ZF ZG ZH. -/
import Derived.Test.YtifjdiiafofnpaaZ11
import Derived.Test.YtifjdiiafofnpaaZ10
import Derived.Test.YtifjdiiafofnpaaZ4
import Derived.Test.YtifjdiiafofnpaaZ8

/- Charts: one inner slice of rows grows; the plain law of charts side by side. -/
namespace Go.Proofs.Ytifjdiiafofnpaa
open Go Go.RowKit

/-- append of some cells that stand in memory; where the new slice lies. -/
theorem wp_appendC_at {P : Program} (w : World) {o : Oper} {a : Act} {K : Act → World → Prop} {Q : Exit → Act → World → Prop} (s x : Operand) (t : TypeId)
    (hop : o.op = .call { callee := .builtin .append, args := #[s, x], argTypes := #[t, t] })
    (e : TypeId) (i : TypeInfo) (z : Value) (size bytes : Nat) (ht : P.underlying t = some (.slice e)) (hi : P.info? e = some i) (hz : i.zero = some z)
    (hsize : i.size = size) (hby : i.bytes = bytes) (hzs : z.cells.size = size) (hsz : 0 < size)
    {lo hi' n c : Nat} {A : Option Addr} {cs : List Value} (hs : a.eval s = .slice A n c) (hown : OwnC w lo hi' e size A n c cs) (hlo : lo ≤ w.heap.size)
    (A2 : Option Addr) (m c2 : Nat) (news : List Value) (hx : a.eval x = .slice A2 m c2) (hl : news.length = m * size)
    (hnews : ∀ j u, news[j]? = some u → ∃ b off, A2 = some ⟨b, off, none⟩ ∧ w.cell? ⟨b, off + j, none⟩ = some u) (h1 : ∀ u ∈ news, u.oneCell' = true)
    (h63 : n + m ≤ maxLen) (hbytes : (n + m) * bytes ≤ 140737488355328)
    (h : ∀ A' c' w', OwnC w' lo w'.heap.size e size A' (n + m) c' (cs ++ news) → w.grownBy w' (Value.slice A n c).ownBlock → Below lo w w' → ((Value.slice A' (n + m) c').ownBlock = (Value.slice A n c).ownBlock ∨ (Value.slice A' (n + m) c').ownBlock = some w.heap.size) → K (a.put o.dst (.slice A' (n + m) c')) w') : o.wp P a w K Q := by
  cases A2 with
  | none =>
    have hn : news = [] := by
      cases news with
      | nil => rfl
      | cons u r => obtain ⟨_, _, h, _⟩ := hnews 0 u rfl; cases h
    subst hn
    have hm : m = 0 := by
      rcases Nat.eq_zero_or_pos m with h | h
      · exact h
      · have := Nat.mul_pos h hsz
        rw [← hl] at this
        simp at this
    subst hm
    have hr : (Builtin.append_ #[t, t] o.type #[.slice A n c, .slice none 0 c2]).run P w = .ok (.slice A n c) w := by
      rcases hown.form with ⟨rfl, rfl, rfl, _⟩ | ⟨g, cur, rfl, _, _, _, hnc, _⟩
      · simp [Builtin.append_, run_underlying ht, sizeOf, typeInfo, hi, Builtin.lenOf, Builtin.firstCells]
      · simp [Builtin.append_, run_underlying ht, sizeOf, typeInfo, hi, Builtin.lenOf, Builtin.firstCells, hnc, storeCells]
    unfold Oper.wp execOp
    simp only [hop, resolve, invoke, builtin, Sem.run_bind, Sem.run_pure, Result.andThen_ok, List.map_toArray, List.map_cons, List.map_nil, hs, hx, hr]
    have := h A c w (by simpa using (OwnC.of_own hown.own (Nat.le_refl _))) (World.grownBy.refl w _) (Below.refl _ _) (by simp [Value.ownBlock])
    have h2 : K (a.put o.dst (.slice A n c)) w := by simpa using this
    exact h2
  | some ad =>
    obtain ⟨v', w', hr, h2, h3, _, h5⟩ := run_append_own_at (P := P) w lo t o.type e i z size bytes ht hi hz hsize hby hzs hsz (.slice A n c) n cs hown.own ad m c2 news hl (by
      intro j u hu
      obtain ⟨b, off, he, hc⟩ := hnews j u hu
      injection he with he
      subst he
      unfold Addr.add
      split
      · subst_vars; simpa using hc
      · exact hc) h1 h63 hbytes hlo
    obtain ⟨A', c', rfl, h4⟩ := OwnC.of_own' h2
    unfold Oper.wp execOp
    simp only [hop, resolve, invoke, builtin, Sem.run_bind, Sem.run_pure, Result.andThen_ok, List.map_toArray, List.map_cons, List.map_nil, hs, hx, hr]
    exact h A' c' w' h4 h3 (grown_below hown hlo h3) h5

/-- One inner slice of rows grows, and its row's cell is set to it. -/
theorem OwnRows.grow {w : World} {lo hi n : Nat} {A : Option Addr} {c : Nat} {rs : List RowD} (h : OwnRows w lo hi A n c rs) (hhi : hi ≤ w.heap.size) {k : Nat} {r : RowD} (hx : rs[k]? = some r) :
    ∃ g A' c', A = some ⟨g, 0, none⟩ ∧ lo ≤ g ∧ g < hi ∧ w.cell? ⟨g, k * 3, none⟩ = some (.int .i64 r.d) ∧ w.cell? ⟨g, k * 3 + 1, none⟩ = some (.int .i64 r.r) ∧ w.cell? ⟨g, k * 3 + 2, none⟩ = some (.slice A' r.s.length c') ∧ OwnI w lo hi A' c' r.s ∧
      ∀ (w5 : World) (A2 : Option Addr) (c2 : Nat) (ys : List Int), w.grownBy w5 (Value.slice A' r.s.length c').ownBlock → OwnI w5 lo w5.heap.size A2 c2 ys →
        ((Value.slice A2 ys.length c2).ownBlock = (Value.slice A' r.s.length c').ownBlock ∨ (Value.slice A2 ys.length c2).ownBlock = some w.heap.size) →
        w5.frozen? ⟨g, k * 3 + 2, none⟩ = false ∧ w5.cell? ⟨g, k * 3 + 2, none⟩ = some (.slice A' r.s.length c') ∧ OwnRows (w5.setCell ⟨g, k * 3 + 2, none⟩ (.slice A2 ys.length c2)) lo w5.heap.size A n c (rs.set k ⟨r.d, r.r, ys⟩) := by
  obtain ⟨cs, ho, ha, hb, hc⟩ := h.ex
  have hk : k < rs.length := (List.getElem?_eq_some_iff.1 hx).1
  obtain ⟨A', c', e0, e1, e2, h2⟩ := hb k r hx
  obtain ⟨g, rfl, hg1, hg2, q0, _⟩ := ho.cell (j := k * 3) (by omega)
  obtain ⟨_, hA, _, _, q1, _⟩ := ho.cell (j := k * 3 + 1) (by omega)
  injection hA with hA
  injection hA with hA
  subst hA
  obtain ⟨_, hA, _, _, q2, _⟩ := ho.cell (j := k * 3 + 2) (by omega)
  injection hA with hA
  injection hA with hA
  subst hA
  have e0' := e0; have e1' := e1; have e2' := e2
  rw [List.getElem?_eq_getElem (by omega)] at e0' e1' e2'
  injection e0' with e0'
  injection e1' with e1'
  injection e2' with e2'
  rw [e0'] at q0
  rw [e1'] at q1
  rw [e2'] at q2
  refine ⟨g, A', c', rfl, hg1, hg2, q0, q1, q2, h2, fun w5 A2 c2 ys hgr hn hat => ?_⟩
  have t3 : (29 : TypeId) ≠ 2 := by decide
  have hsz := hgr.size
  have ho5 := ho.grownT h2 t3 hgr
  obtain ⟨_, hA, _, _, q2', f2'⟩ := ho5.cell (j := k * 3 + 2) (by omega)
  injection hA with hA
  injection hA with hA
  subst hA
  rw [e2'] at q2'
  refine ⟨f2', q2', ⟨_, (ho5.store _).1.mono (Nat.le_refl _) (by omega), ?_⟩⟩
  have far : ∀ (lo' hi' : Nat) (B : Option Addr) (cB : Nat) (zs : List Int) (u : Value), OwnI w5 lo' hi' B cB zs → OwnI (w5.setCell ⟨g, k * 3 + 2, none⟩ u) lo' hi' B cB zs := by
    intro lo' hi' B cB zs u hB
    refine hB.keepT fun q cur _ _ hq => Below.heap_setCell w5 _ u q ?_
    rintro rfl
    rcases ho5.form with ⟨hA, _⟩ | ⟨q', cur2, hA, _, _, hh, _⟩
    · cases hA
    · injection hA with hA
      injection hA with hA
      subst hA
      rw [hq] at hh
      injection hh with hh
      injection hh with _ hh
      exact t3 hh.symm
  have blk : ∀ {i : Nat} {v : Value} {q : Nat}, cs[i]? = some v → v.ownBlock = some q → q < hi := fun hi' hv => ((show CellsRows w lo hi cs rs from ⟨ha, hb, hc⟩).block hi' hv).2.1
  refine ⟨by simpa using ha, fun j z hz => ?_, fun i j v v' q hi' hj hv hv' => ?_⟩
  · by_cases e : k = j
    · subst e
      rw [List.getElem?_set_self hk] at hz
      injection hz with hz
      subst hz
      refine ⟨A2, c2, ?_, ?_, ?_, far _ _ _ _ _ _ hn⟩
      · rw [List.getElem?_set_ne (by omega)]; exact e0
      · rw [List.getElem?_set_ne (by omega)]; exact e1
      · rw [List.getElem?_set_self (by omega)]
    · rw [List.getElem?_set_ne e] at hz
      obtain ⟨A3, c3, z0, z1, z2, h6⟩ := hb j z hz
      refine ⟨A3, c3, ?_, ?_, ?_, (far _ _ _ _ _ _ (h6.keep1 fun q hq => ?_)).mono (Nat.le_refl _) (by omega)⟩
      · rw [List.getElem?_set_ne (by omega)]; exact z0
      · rw [List.getElem?_set_ne (by omega)]; exact z1
      · rw [List.getElem?_set_ne (by omega)]; exact z2
      · subst hq
        have hql : q < w.heap.size := by have := h6.lt _ rfl; exact Nat.lt_of_lt_of_le this hhi
        refine hgr.block q hql fun eq => ?_
        have := hc (k * 3 + 2) (j * 3 + 2) _ _ q e2 z2 eq.symm rfl
        omega
  · have hil : i < cs.length := by have := (List.getElem?_eq_some_iff.1 hi').1; simpa using this
    have hjl : j < cs.length := by have := (List.getElem?_eq_some_iff.1 hj).1; simpa using this
    rw [List.getElem?_set] at hi' hj
    split at hi'
    · rename_i ei
      split at hj
      · rename_i ej; omega
      · rename_i ej
        split at hi'
        · injection hi' with hi'
          subst hi'
          exfalso
          have hql := blk hj hv'
          rcases hat with hat | hat
          · rw [hat] at hv
            have := hc (k * 3 + 2) j _ _ q e2 hj hv hv'
            omega
          · rw [hat] at hv
            injection hv with hv
            omega
        · cases hi'
    · split at hj
      · rename_i ei ej
        split at hj
        · injection hj with hj
          subst hj
          exfalso
          have hql := blk hi' hv
          rcases hat with hat | hat
          · rw [hat] at hv'
            have := hc (k * 3 + 2) i _ _ q e2 hi' hv' hv
            omega
          · rw [hat] at hv'
            injection hv' with hv'
            omega
        · cases hj
      · exact hc i j v v' q hi' hj hv hv'

theorem OwnRows.drew1 {w : World} {lo hi n : Nat} {A : Option Addr} {c : Nat} {rs : List RowD} (h : OwnRows w lo hi A n c rs) : OwnRows (World.drew w) lo hi A n c rs := h.keep fun _ _ _ _ => rfl
theorem OwnC.drew1 {w : World} {lo hi : Nat} {e : TypeId} {sz : Nat} {A : Option Addr} {n c : Nat} {cs : List Value} (h : OwnC w lo hi e sz A n c cs) : OwnC (World.drew w) lo hi e sz A n c cs := h.keep fun _ _ _ _ => rfl
theorem joinRows_snoc {rs ss : List RowD} {i : Nat} {a b : RowD} (ha : rs[i]? = some a) (hb : ss[i]? = some b) : joinRows (rs.take (i + 1)) (ss.take (i + 1)) = joinRows (rs.take i) (ss.take i) ++ [joinRow a b] := by
  induction i generalizing rs ss with
  | zero =>
    cases rs with
    | nil => simp at ha
    | cons x rs =>
      cases ss with
      | nil => simp at hb
      | cons y ss =>
        simp at ha hb
        subst ha hb
        simp [joinRows]
  | succ i ih =>
    cases rs with
    | nil => simp at ha
    | cons x rs =>
      cases ss with
      | nil => simp at hb
      | cons y ss =>
        simp only [List.getElem?_cons_succ] at ha hb
        simp only [List.take_succ_cons, joinRows, List.cons_append]
        rw [ih ha hb]
def joinTo (rs ss : List RowD) (i : Nat) : List RowD := joinRows (rs.take i) (ss.take i) ++ rs.drop i
theorem joinTo_at {rs ss : List RowD} (hl : rs.length = ss.length) {i : Nat} {a b : RowD} (ha : rs[i]? = some a) (hb : ss[i]? = some b) : (joinTo rs ss i)[i]? = some a ∧ (joinTo rs ss i).set i (joinRow a b) = joinTo rs ss (i + 1) := by
  have hi := (List.getElem?_eq_some_iff.1 ha).1
  have hjl : (joinRows (rs.take i) (ss.take i)).length = i := by rw [joinRows_length _ _ (by simp [hl]), List.length_take]; omega
  refine ⟨?_, ?_⟩
  · unfold joinTo
    rw [List.getElem?_append_right (by omega), hjl, Nat.sub_self, List.getElem?_drop, Nat.add_zero]
    exact ha
  · unfold joinTo
    rw [List.set_append_right _ _ (by omega), hjl, Nat.sub_self, drop_cons ha, List.set_cons_zero, joinRows_snoc ha hb, List.append_assoc]
    rfl
theorem joinTo_length {rs ss : List RowD} (hl : rs.length = ss.length) {i : Nat} (hi : i ≤ rs.length) : (joinTo rs ss i).length = rs.length := by
  unfold joinTo
  rw [List.length_append, joinRows_length _ _ (by simp [hl]), List.length_take, List.length_drop]
  omega
theorem joinTo_end {rs ss : List RowD} (hl : rs.length = ss.length) : joinTo rs ss rs.length = joinRows rs ss := by
  unfold joinTo
  rw [take_all (Nat.le_refl _), take_all (by omega), drop_all (Nat.le_refl _), List.append_nil]
theorem sameHeads_drop {rs ss : List RowD} {i : Nat} {a b : RowD} (ha : rs[i]? = some a) (hb : ss[i]? = some b) : sameHeads (rs.drop i) (ss.drop i) = (sameHead a b && sameHeads (rs.drop (i + 1)) (ss.drop (i + 1))) := by
  rw [drop_cons ha, drop_cons hb, sameHeads]
theorem sameHead_d {a b : RowD} (h : a.d ≠ b.d) : sameHead a b = false := by simp [sameHead, h]
theorem sameHead_r {a b : RowD} (h : a.r ≠ b.r) : sameHead a b = false := by simp [sameHead, h]
theorem besCode_1 {n m : Int} {rs ss : List RowD} (h : chartB n rs = false ∨ chartB m ss = false) : besCode n rs m ss = 1 := by
  unfold besCode
  rw [if_neg (by rcases h with h | h <;> simp [h])]
theorem besCode_2 {n m : Int} {rs ss : List RowD} (h1 : chartB n rs = true) (h2 : chartB m ss = true) : besCode n rs m ss = if rs.length = ss.length then (if sameHeads rs ss then (if chartB (n + m) (joinRows rs ss) then 0 else 5) else 6) else 6 := by
  unfold besCode
  rw [if_pos (by simp [h1, h2])]

end Go.Proofs.Ytifjdiiafofnpaa

/- Permutations: the given side's sorting word. -/
namespace Go.Proofs.Ytifjdiiafofnpaa
open Go Go.RowKit

def lenV : Value → Nat
  | .slice _ n _ => n
  | _ => 0
end Go.Proofs.Ytifjdiiafofnpaa

/- Permutations: the program's descents. -/
namespace Go.Proofs.Ytifjdiiafofnpaa
open Go Go.RowKit

def desL (i : Nat) : List Int → List Int
  | a :: b :: xs => if b < a then (i : Int) :: desL (i + 1) (b :: xs) else desL (i + 1) (b :: xs)
  | _ => []
theorem desL_length (i : Nat) (xs : List Int) : (desL i xs).length ≤ xs.length := by
  induction xs generalizing i with
  | nil => simp [desL]
  | cons a xs ih =>
    cases xs with
    | nil => simp [desL]
    | cons b xs =>
      have := ih (i + 1)
      rw [desL]
      split
      · simp only [List.length_cons] at this ⊢; omega
      · simp only [List.length_cons] at this ⊢; omega
theorem desL_none {xs : List Int} (h : firstDes xs = none) : ∀ i, desL i xs = [] := by
  induction xs with
  | nil => intro i; rfl
  | cons a xs ih =>
    cases xs with
    | nil => intro i; rfl
    | cons b xs =>
      intro i
      rw [firstDes] at h
      split at h
      · cases h
      · rename_i hab
        rw [desL, if_neg hab]
        refine ih ?_ (i + 1)
        cases hf : firstDes (b :: xs) with
        | none => rfl
        | some m => rw [hf] at h; cases h
theorem desL_some {xs : List Int} : ∀ {k : Nat}, firstDes xs = some k → ∀ i, ∃ tl, desL i xs = ((i + k : Nat) : Int) :: tl := by
  induction xs with
  | nil => intro k h; simp [firstDes] at h
  | cons a xs ih =>
    cases xs with
    | nil => intro k h; simp [firstDes] at h
    | cons b xs =>
      intro k h i
      rw [firstDes] at h
      split at h
      · rename_i hab
        injection h with h
        subst h
        rw [desL, if_pos hab]
        exact ⟨_, rfl⟩
      · rename_i hab
        rw [Option.map_eq_some_iff] at h
        obtain ⟨j, hj, rfl⟩ := h
        rw [desL, if_neg hab]
        obtain ⟨tl, e⟩ := ih hj (i + 1)
        exact ⟨tl, by rw [e, show i + 1 + j = i + (j + 1) by omega]⟩
theorem desL_drop {xs : List Int} {i : Nat} {a b : Int} (ha : xs[i]? = some a) (hb : xs[i + 1]? = some b) : desL i (xs.drop i) = (if b < a then [(i : Int)] else []) ++ desL (i + 1) (xs.drop (i + 1)) := by
  rw [drop_cons ha, drop_cons hb, desL]
  split <;> simp
theorem desL_end {xs : List Int} {i : Nat} (h : xs.length ≤ i + 1) : desL i (xs.drop i) = [] := by
  have hl : (xs.drop i).length ≤ 1 := by rw [List.length_drop]; omega
  match hd : xs.drop i, hl with
  | [], _ => rfl
  | [_], _ => rfl
  | _ :: _ :: _, hl => simp at hl

set_option maxHeartbeats 2000000 in
set_option maxRecDepth 10000 in
theorem impl_descents (p : List Int) (A : Option Addr) (c : Nat) (w : World) (h : Ints w A p) (hl : p.length ≤ 12) :
    Calls Try.prog 164 #[.slice A p.length c] w fun e w' => ∃ A' c', e = .returned (.slice A' (desL 0 p).length c') ∧ OwnI w' w.heap.size w'.heap.size A' c' (desL 0 p) ∧ Below w.heap.size w w' := by
  obtain ⟨i0, hi0, hz0, hz1, hz2⟩ := info_parts info_int64
  have o1 := (OwnC.lit (w := w) (lo := w.heap.size) (n := 0) 2 1 #[] (Nat.le_refl _) (Nat.zero_le _) rfl).mono (Nat.le_refl _) (show w.heap.size + 1 ≤ (w.alloc (.cells #[] 2)).heap.size by simp)
  have O1 := Lib.hid o1; clear o1
  have hb1 : Below w.heap.size w (w.alloc (.cells #[] 2)) := by (repeat (first | exact Below.refl _ _ | assumption | apply Below.drew | apply below_drewN | (refine Below.alloc ?_ (by first | omega | (simp; done) | (simp; omega)) _) | (refine Below.setCell ?_ (by first | omega | (simp; done) | (simp; omega)) _)))
  go_enter Try.func164, Try.ntmps164
  go_wp2_with (fail)
  go_loopw [3, 4] (fun ov kv wr => ∃ (k : Nat) (A' : Option Addr) (c' : Nat) (out : List Int), k ≤ p.length + 1 ∧ kv = .int .i64 k ∧ ov = .slice A' out.length c' ∧ OwnI wr w.heap.size wr.heap.size A' c' out ∧ Below w.heap.size w wr ∧ Hid (desL 0 p = out ++ desL k (p.drop k)) ∧ out.length ≤ k) (fun _ kv _ => p.length + 1 - (intOf kv).toNat)
  case atStart => exact ⟨0, some ⟨w.heap.size, 0, none⟩, 0, [], by omega, rfl, rfl, O1.out, hb1, Lib.hid rfl, by simp⟩
  case round =>
    clear O1 hb1
    obtain ⟨k, A', c', out, hk, rfl, rfl, ho, hb, HD, hol⟩ := hrel
    have hzs := hb.size
    by_cases hkl : k + 1 < p.length
    · obtain ⟨b, off, a, rfl, ca, ha⟩ := (h.below hb) k (by omega)
      obtain ⟨b', off', bb, hA, cb, hbb⟩ := (h.below hb) (k + 1) hkl
      injection hA with hA
      injection hA with hA1 hA2
      subst hA1 hA2
      have j1 : (0 : Int) ≤ (k : Int) := by omega
      have j2 : (k : Int) < (p.length : Int) := by omega
      have j3 : (k : Int) + 1 < (p.length : Int) := by omega
      have j4 : (0 : Int) ≤ (k : Int) + 1 := by omega
      have j5 : ((k : Int) + 1).toNat = k + 1 := by omega
      have j6 : IntKind.i64.wrap ((k : Int) + 1) = (k : Int) + 1 := IntWalk.i64_in _ (by omega)
      have hdr := desL_drop ha hbb
      by_cases hab : bb < a
      · have hd : decide (bb < a) = true := decide_eq_true hab
        have HD2 : Hid (desL 0 p = (out ++ [(k : Int)]) ++ desL (k + 1) (p.drop (k + 1))) := Lib.hid (by rw [HD.out, hdr, if_pos hab, List.append_assoc])
        clear hab hdr
        go_wp2_with (fail)
        (refine wp_region_pops 0 (S := (fun W' => W'.cell? ⟨b, off + k, none⟩ = some (.int .i64 a) ∧ W'.cell? ⟨b, off + (k + 1), none⟩ = some (.int .i64 bb))) (pre := ?_) (T := ?_) (n := ?_) (by kernel_rfl) (by kernel_rfl) ?_ ?_ ?_ ?_ (fun hHeld => ?_); rotate_left 3; (focus (simp only [pops]; rfl)); (focus (simp only [tailOf]; rfl)); (focus rfl); (focus (exact ⟨ca, cb⟩)))
        ((refine wpAnyH_take (i := 0) (v := ?_) rfl (by kernel_rfl) (by kernel_rfl) (by kernel_rfl) (fun _ _ _ h => h) (Or.inl ⟨by rfl, ?_⟩) (by assumption) ?_; rotate_left; (focus (intro W hSw; (try dsimp only at hSw); go_simp; try (with_reducible rfl)))); (try simp only [List.getElem_toArray, List.getElem_cons_zero, Act.put, List.setIfInBounds_toArray, List.set_cons_zero, List.set_cons_succ]); (refine wpAnyH_take (i := 1) (v := ?_) rfl (by kernel_rfl) (by kernel_rfl) (by kernel_rfl) (fun _ _ _ h => h) (Or.inl ⟨by rfl, ?_⟩) (by assumption) ?_; rotate_left; (focus (intro W hSw; (try dsimp only at hSw); go_simp; try (with_reducible rfl)))); (try simp only [List.getElem_toArray, List.getElem_cons_zero, List.getElem_cons_succ, Act.put, List.setIfInBounds_toArray, List.set_cons_zero, List.set_cons_succ]); (refine wpAnyH_take (i := 2) (v := ?_) rfl (by kernel_rfl) (by kernel_rfl) (by kernel_rfl) (fun _ _ _ h => h) (Or.inl ⟨by rfl, ?_⟩) (by assumption) ?_; rotate_left; (focus (intro W hSw; (try dsimp only at hSw); go_simp; try (with_reducible rfl)))); (try simp only [List.getElem_toArray, List.getElem_cons_zero, List.getElem_cons_succ, Act.put, List.setIfInBounds_toArray, List.set_cons_zero, List.set_cons_succ]); (refine wpAnyH_take (i := 3) (v := ?_) rfl (by kernel_rfl) (by kernel_rfl) (by kernel_rfl) (fun _ _ _ h => h) (Or.inl ⟨by rfl, ?_⟩) (by assumption) ?_; rotate_left; (focus (intro W hSw; (try dsimp only at hSw); go_simp; try (with_reducible rfl)))); (try simp only [List.getElem_toArray, List.getElem_cons_zero, List.getElem_cons_succ, Act.put, List.setIfInBounds_toArray, List.set_cons_zero, List.set_cons_succ]); (refine wpAnyH_take (i := 4) (v := ?_) rfl (by kernel_rfl) (by kernel_rfl) (by kernel_rfl) (fun _ _ _ h => h) (Or.inl ⟨by rfl, ?_⟩) (by assumption) ?_; rotate_left; (focus (intro W hSw; (try dsimp only at hSw); go_simp; try (with_reducible rfl)))); (try simp only [List.getElem_toArray, List.getElem_cons_zero, List.getElem_cons_succ, Act.put, List.setIfInBounds_toArray, List.set_cons_zero, List.set_cons_succ]); (refine wpAnyH_take (i := 5) (v := ?_) rfl (by kernel_rfl) (by kernel_rfl) (by kernel_rfl) (fun _ _ _ h => h) (Or.inl ⟨by rfl, ?_⟩) (by assumption) ?_; rotate_left; (focus (intro W hSw; (try dsimp only at hSw); go_simp; try (with_reducible rfl)))); (try simp only [List.getElem_toArray, List.getElem_cons_zero, List.getElem_cons_succ, Act.put, List.setIfInBounds_toArray, List.set_cons_zero, List.set_cons_succ]); (refine wpAnyH_take (i := 6) (v := ?_) rfl (by kernel_rfl) (by kernel_rfl) (by kernel_rfl) (fun _ _ _ h => h) (Or.inl ⟨by rfl, ?_⟩) (by assumption) ?_; rotate_left; (focus (intro W hSw; (try dsimp only at hSw); go_simp; try (with_reducible rfl)))); (try simp only [List.getElem_toArray, List.getElem_cons_zero, List.getElem_cons_succ, Act.put, List.setIfInBounds_toArray, List.set_cons_zero, List.set_cons_succ]); (refine wpAnyH_take (i := 7) (v := ?_) rfl (by kernel_rfl) (by kernel_rfl) (by kernel_rfl) (fun _ _ _ h => h) (Or.inl ⟨by rfl, ?_⟩) (by assumption) ?_; rotate_left; (focus (intro W hSw; (try dsimp only at hSw); go_simp; try (with_reducible rfl)))); (try simp only [List.getElem_toArray, List.getElem_cons_zero, List.getElem_cons_succ, Act.put, List.setIfInBounds_toArray, List.set_cons_zero, List.set_cons_succ]); (refine wpAnyH_take (i := 8) (v := ?_) rfl (by kernel_rfl) (by kernel_rfl) (by kernel_rfl) (fun _ _ _ h => h) (Or.inl ⟨by rfl, ?_⟩) (by assumption) ?_; rotate_left; (focus (intro W hSw; (try dsimp only at hSw); go_simp; try (with_reducible rfl)))); (try simp only [List.getElem_toArray, List.getElem_cons_zero, List.getElem_cons_succ, Act.put, List.setIfInBounds_toArray, List.set_cons_zero, List.set_cons_succ]); (refine wpAnyH_take (i := 9) (v := ?_) rfl (by kernel_rfl) (by kernel_rfl) (by kernel_rfl) (fun _ _ _ h => h) (Or.inl ⟨by rfl, ?_⟩) (by assumption) ?_; rotate_left; (focus (intro W hSw; (try dsimp only at hSw); go_simp; try (with_reducible rfl)))); (try simp only [List.getElem_toArray, List.getElem_cons_zero, List.getElem_cons_succ, Act.put, List.setIfInBounds_toArray, List.set_cons_zero, List.set_cons_succ]))
        (refine wpAnyH_done (by kernel_rfl) ?_ _; change wpList _ _ _ _ _ _)
        clear hHeld
        obtain ⟨w7, hw7⟩ : ∃ w7, w7 = World.drew wr := ⟨_, rfl⟩
        have ho7 : OwnI w7 w.heap.size w7.heap.size A' c' out := by rw [hw7]; exact OwnC.drew1 ho
        have hb7 : Below w.heap.size w w7 := by rw [hw7]; exact hb.drew
        have hz7 : w.heap.size ≤ w7.heap.size := hb7.size
        rw [← hw7]
        clear hw7 ca cb ho hb hzs
        go_wp2_with (at_builtin; refine wpList_append1 w7 [.int .i64 (k : Int)] _ rfl (.tmp 23) (.tmp 25) _ rfl 2 i0 _ 1 8 Try.underlying22 hi0 hz0 hz1 hz2 rfl (by decide) rfl ho7 hz7 1 rfl rfl (by simp [Value.oneCell']) (by omega) (by decide) ?_; intro A9 c9 w8 ho8 hg8 hb8 hz8)
        refine ⟨⟨k + 1, A9, c9, out ++ [(k : Int)], by omega, by go_num, by simp, ?_, hb7.trans hb8, HD2, by simp; omega⟩, by simp [intOf]; omega⟩
        show OwnC _ _ _ _ _ _ _ _ _
        rw [List.map_append, List.length_append]
        exact ho8
      · have hd : decide (bb < a) = false := decide_eq_false hab
        have HD2 : Hid (desL 0 p = out ++ desL (k + 1) (p.drop (k + 1))) := Lib.hid (by rw [HD.out, hdr, if_neg hab]; rfl)
        clear hab hdr
        go_wp2_with (fail)
        (refine wp_region_pops 0 (S := (fun W' => W'.cell? ⟨b, off + k, none⟩ = some (.int .i64 a) ∧ W'.cell? ⟨b, off + (k + 1), none⟩ = some (.int .i64 bb))) (pre := ?_) (T := ?_) (n := ?_) (by kernel_rfl) (by kernel_rfl) ?_ ?_ ?_ ?_ (fun hHeld => ?_); rotate_left 3; (focus (simp only [pops]; rfl)); (focus (simp only [tailOf]; rfl)); (focus rfl); (focus (exact ⟨ca, cb⟩)))
        ((refine wpAnyH_take (i := 0) (v := ?_) rfl (by kernel_rfl) (by kernel_rfl) (by kernel_rfl) (fun _ _ _ h => h) (Or.inl ⟨by rfl, ?_⟩) (by assumption) ?_; rotate_left; (focus (intro W hSw; (try dsimp only at hSw); go_simp; try (with_reducible rfl)))); (try simp only [List.getElem_toArray, List.getElem_cons_zero, Act.put, List.setIfInBounds_toArray, List.set_cons_zero, List.set_cons_succ]); (refine wpAnyH_take (i := 1) (v := ?_) rfl (by kernel_rfl) (by kernel_rfl) (by kernel_rfl) (fun _ _ _ h => h) (Or.inl ⟨by rfl, ?_⟩) (by assumption) ?_; rotate_left; (focus (intro W hSw; (try dsimp only at hSw); go_simp; try (with_reducible rfl)))); (try simp only [List.getElem_toArray, List.getElem_cons_zero, List.getElem_cons_succ, Act.put, List.setIfInBounds_toArray, List.set_cons_zero, List.set_cons_succ]); (refine wpAnyH_take (i := 2) (v := ?_) rfl (by kernel_rfl) (by kernel_rfl) (by kernel_rfl) (fun _ _ _ h => h) (Or.inl ⟨by rfl, ?_⟩) (by assumption) ?_; rotate_left; (focus (intro W hSw; (try dsimp only at hSw); go_simp; try (with_reducible rfl)))); (try simp only [List.getElem_toArray, List.getElem_cons_zero, List.getElem_cons_succ, Act.put, List.setIfInBounds_toArray, List.set_cons_zero, List.set_cons_succ]); (refine wpAnyH_take (i := 3) (v := ?_) rfl (by kernel_rfl) (by kernel_rfl) (by kernel_rfl) (fun _ _ _ h => h) (Or.inl ⟨by rfl, ?_⟩) (by assumption) ?_; rotate_left; (focus (intro W hSw; (try dsimp only at hSw); go_simp; try (with_reducible rfl)))); (try simp only [List.getElem_toArray, List.getElem_cons_zero, List.getElem_cons_succ, Act.put, List.setIfInBounds_toArray, List.set_cons_zero, List.set_cons_succ]); (refine wpAnyH_take (i := 4) (v := ?_) rfl (by kernel_rfl) (by kernel_rfl) (by kernel_rfl) (fun _ _ _ h => h) (Or.inl ⟨by rfl, ?_⟩) (by assumption) ?_; rotate_left; (focus (intro W hSw; (try dsimp only at hSw); go_simp; try (with_reducible rfl)))); (try simp only [List.getElem_toArray, List.getElem_cons_zero, List.getElem_cons_succ, Act.put, List.setIfInBounds_toArray, List.set_cons_zero, List.set_cons_succ]); (refine wpAnyH_take (i := 5) (v := ?_) rfl (by kernel_rfl) (by kernel_rfl) (by kernel_rfl) (fun _ _ _ h => h) (Or.inl ⟨by rfl, ?_⟩) (by assumption) ?_; rotate_left; (focus (intro W hSw; (try dsimp only at hSw); go_simp; try (with_reducible rfl)))); (try simp only [List.getElem_toArray, List.getElem_cons_zero, List.getElem_cons_succ, Act.put, List.setIfInBounds_toArray, List.set_cons_zero, List.set_cons_succ]); (refine wpAnyH_take (i := 6) (v := ?_) rfl (by kernel_rfl) (by kernel_rfl) (by kernel_rfl) (fun _ _ _ h => h) (Or.inl ⟨by rfl, ?_⟩) (by assumption) ?_; rotate_left; (focus (intro W hSw; (try dsimp only at hSw); go_simp; try (with_reducible rfl)))); (try simp only [List.getElem_toArray, List.getElem_cons_zero, List.getElem_cons_succ, Act.put, List.setIfInBounds_toArray, List.set_cons_zero, List.set_cons_succ]); (refine wpAnyH_take (i := 7) (v := ?_) rfl (by kernel_rfl) (by kernel_rfl) (by kernel_rfl) (fun _ _ _ h => h) (Or.inl ⟨by rfl, ?_⟩) (by assumption) ?_; rotate_left; (focus (intro W hSw; (try dsimp only at hSw); go_simp; try (with_reducible rfl)))); (try simp only [List.getElem_toArray, List.getElem_cons_zero, List.getElem_cons_succ, Act.put, List.setIfInBounds_toArray, List.set_cons_zero, List.set_cons_succ]); (refine wpAnyH_take (i := 8) (v := ?_) rfl (by kernel_rfl) (by kernel_rfl) (by kernel_rfl) (fun _ _ _ h => h) (Or.inl ⟨by rfl, ?_⟩) (by assumption) ?_; rotate_left; (focus (intro W hSw; (try dsimp only at hSw); go_simp; try (with_reducible rfl)))); (try simp only [List.getElem_toArray, List.getElem_cons_zero, List.getElem_cons_succ, Act.put, List.setIfInBounds_toArray, List.set_cons_zero, List.set_cons_succ]); (refine wpAnyH_take (i := 9) (v := ?_) rfl (by kernel_rfl) (by kernel_rfl) (by kernel_rfl) (fun _ _ _ h => h) (Or.inl ⟨by rfl, ?_⟩) (by assumption) ?_; rotate_left; (focus (intro W hSw; (try dsimp only at hSw); go_simp; try (with_reducible rfl)))); (try simp only [List.getElem_toArray, List.getElem_cons_zero, List.getElem_cons_succ, Act.put, List.setIfInBounds_toArray, List.set_cons_zero, List.set_cons_succ]))
        (refine wpAnyH_done (by kernel_rfl) ?_ _; change wpList _ _ _ _ _ _)
        clear hHeld
        go_wp2_with (fail)
        refine ⟨⟨k + 1, A', c', out, by omega, by go_num, rfl, OwnC.drew1 ho, hb.drew, HD2, by omega⟩, by simp [intOf]; omega⟩
    · have HE : Hid (desL 0 p = out) := Lib.hid (by rw [HD.out, desL_end (by omega), List.append_nil])
      go_wp2_with (fail)
      go_ret
      rw [HE.out]
      exact ⟨_, _, rfl, ho, hb⟩

end Go.Proofs.Ytifjdiiafofnpaa

/- A region whose last ready operation is a store. -/
namespace Go.Proofs.Ytifjdiiafofnpaa
open Go Go.RowKit

def lastQ (S : World → Prop) (Q : Exit → Act → World → Prop) : Exit → Act → World → Prop
  | .normal, a, w => S w ∧ Q .normal a w
  | e, a, w => Q e a w
theorem lastQ_mk {S : World → Prop} {Q : Exit → Act → World → Prop} {a : Act} {w : World} (hS : S w) (hQ : Q .normal a w) : lastQ S Q .normal a w := ⟨hS, hQ⟩
theorem wpAnyH_end {P : Program} {md : Region.Mode} {ops : Array Oper} {Q : Exit → Act → World → Prop} {S : World → Prop} {fuel : Nat} {listed : Array Bool} {a : Act} {w : World} {i : Nat} {o : Oper}
    (hr : Region.ready md ops listed = [i]) (ho : ops[i]? = some o) (hg : o.guard = none) (hall : Region.ready md ops (listed.setIfInBounds i true) = []) (h : wpList P #[] (lastQ S Q) [o] a w) : wpAnyH P md ops Q S (fuel + 1) listed a w :=
  wpAnyH_ready hr (by simp) (fun j hj => by
    obtain rfl := List.mem_singleton.1 hj
    unfold wpOp
    rw [ho]
    have hw : Region.wanted o (yielded ops a.tmps) = true := by simp [Region.wanted, hg]
    have hw0 : Region.wanted o (yielded #[] a.tmps) = true := by simp [Region.wanted, hg]
    simp only [hw, if_true]
    unfold wpList at h
    simp only [hw0, if_true] at h
    rcases h with h | ⟨h1, h2⟩
    · exact .inl (Oper.wp_le (fun a w hq => ⟨hq.1, wpAnyH_done hall hq.2 _⟩) (fun _ _ _ h => h) (fun ⟨a, w, h⟩ => ⟨a, w, h⟩) h)
    · exact .inr ⟨h1, h2.imp fun a h => h.imp fun w h => h⟩)

end Go.Proofs.Ytifjdiiafofnpaa

/- Permutations: the program's sorting word. -/
namespace Go.Proofs.Ytifjdiiafofnpaa
open Go Go.RowKit

set_option maxHeartbeats 4000000 in
set_option maxRecDepth 10000 in
theorem impl_reducedWord (p : List Int) (A : Option Addr) (c : Nat) (w : World) (h : Ints w A p) (hl : p.length ≤ 12) :
    Calls Try.prog 137 #[.slice A p.length c] w fun e w' => ∃ A' c', e = .returned (.slice A' (permWord p).length c') ∧ OwnI w' w.heap.size w'.heap.size A' c' (permWord p) ∧ Below w.heap.size w w' := by
  obtain ⟨i0, hi0, hz0, hz1, hz2⟩ := info_parts info_int64
  go_enter Try.func137, Try.ntmps137
  go_wp2_with (fail)
  refine (slices_Clone A c p w h (by omega)).mono ?_; rintro e w5 ⟨A5, c5, rfl, o5, b5⟩
  have hz5 := b5.size
  have o6 := (OwnC.lit (w := w5) (lo := w5.heap.size) (n := 0) 2 1 #[] (Nat.le_refl _) (Nat.zero_le _) rfl).mono (Nat.le_refl _) (show w5.heap.size + 1 ≤ (w5.alloc (.cells #[] 2)).heap.size by simp)
  have hb6 : Below w.heap.size w (w5.alloc (.cells #[] 2)) := b5.alloc (by omega) _
  have o5a := o5.alloc (.cells #[] 2)
  have O6 := Lib.hid o6; clear o6
  go_wp2_with (fail)
  go_loopw [4] (fun ov wr => ∃ (A' : Option Addr) (c' : Nat) (out now : List Int), ov = .slice A' out.length c' ∧ OwnI wr w5.heap.size wr.heap.size A' c' out ∧ OwnI wr w.heap.size w5.heap.size A5 c5 now ∧ Hid (now.length = p.length) ∧ Below w.heap.size w wr ∧ w5.heap.size ≤ wr.heap.size ∧ Hid (permWord p = out ++ permWord now) ∧ Hid (out.length + invs now = invs p)) (fun ov _ => invs p - lenV ov)
  case atStart => exact ⟨some ⟨w5.heap.size, 0, none⟩, 0, [], p, rfl, O6.out, o5a, Lib.hid rfl, hb6, by simp, Lib.hid rfl, Lib.hid (by simp)⟩
  case round =>
    clear O6 hb6 o5a
    obtain ⟨A', c', out, now, rfl, ho, hnow, HNL, hb, hz, HD, HI⟩ := hrel
    have hin := OwnC.ints hnow
    have HDE : Hid (∀ W, Ints W A5 now → Calls Try.prog 164 #[.slice A5 p.length c5] W fun e w' => ∃ A' c', e = .returned (.slice A' (desL 0 now).length c') ∧ OwnI w' W.heap.size w'.heap.size A' c' (desL 0 now) ∧ Below W.heap.size W w') := Lib.hid (fun W hW => by
      have e := impl_descents now A5 c5 W hW (by rw [HNL.out]; exact hl)
      rw [HNL.out] at e
      exact e)
    go_wp2_with (fail)
    refine (HDE.out _ hin).mono ?_; rintro e w6 ⟨A6, c6, rfl, o6, b6⟩
    have hnow6 := OwnC.below hnow b6 (by omega)
    have ho6 : OwnI w6 w5.heap.size w6.heap.size A' c' out := OwnC.mono (OwnC.below ho b6 (Nat.le_refl _)) (Nat.le_refl _) b6.size
    have hz6 := b6.size
    have hb6 : Below w.heap.size w w6 := hb.trans (b6.mono (by have := hb.size; omega))
    cases hfd : firstDes now with
    | none =>
      have HL := Lib.hid (desL_none hfd 0)
      have HE : Hid (permWord p = out) := Lib.hid (by rw [HD.out, permWord_none hfd, List.append_nil])
      clear hfd
      rw [HL.out] at o6 ⊢
      go_wp2_with (fail)
      go_ret
      rw [HE.out]
      exact ⟨_, _, rfl, ho6.mono (by have := hb.size; omega) (by omega), hb6⟩
    | some k =>
      obtain ⟨tl, htl⟩ := desL_some hfd 0
      rw [Nat.zero_add] at htl
      obtain ⟨a, bb, ha, hbb, hab⟩ := firstDes_some hfd
      have hin := invs_step hfd
      have hi := HI.out
      have HD2 : Hid (permWord p = (out ++ [(k : Int)]) ++ permWord (swapL k now)) := Lib.hid (by rw [HD.out, permWord_some hfd, List.append_assoc]; rfl)
      have HI2 : Hid ((out ++ [(k : Int)]).length + invs (swapL k now) = invs p) := Lib.hid (by rw [List.length_append, List.length_singleton]; omega)
      have HLT : Hid (out.length + 1 ≤ invs p) := Lib.hid (by omega)
      have HNL2 : Hid ((swapL k now).length = p.length) := Lib.hid (by rw [swapL_at ha hbb, List.length_set, List.length_set]; exact HNL.out)
      have hqq : invs p ≤ 144 := Nat.le_trans (invs_le p) (Nat.mul_le_mul hl hl)
      have hol : out.length ≤ 144 := by omega
      have hkl : k + 1 < p.length := by have := (List.getElem?_eq_some_iff.1 hbb).1; have := HNL.out; omega
      obtain ⟨g5, rfl⟩ := OwnC.head hnow6 (by have := HNL.out; omega)
      obtain ⟨ca, fa, ga, gb⟩ := own_at hnow6 ha
      obtain ⟨cb, fb, _, _⟩ := own_at hnow6 hbb
      rw [htl] at o6 ⊢
      obtain ⟨g6, rfl⟩ := OwnC.head o6 (by simp)
      obtain ⟨c0, _, _, _⟩ := own_at o6 (j := 0) (y := (k : Int)) rfl
      have hcl : decide (((tl.length : Int) + 1) = 0) = false := decide_eq_false (by omega)
      have hcl2 : ((((k : Int) :: tl).length : Int) == 0) = false := by simp; omega
      have j1 : (0 : Int) ≤ (k : Int) := by omega
      have j2 : (k : Int) < (p.length : Int) := by omega
      have j3 : (k : Int) + 1 < (p.length : Int) := by omega
      have j4 : (0 : Int) ≤ (k : Int) + 1 := by omega
      have j5 : ((k : Int) + 1).toNat = k + 1 := by omega
      have j6 : IntKind.i64.wrap ((k : Int) + 1) = (k : Int) + 1 := IntWalk.i64_in _ (by omega)
      clear hfd hin hi hab hqq htl
      go_wp2_with (fail)
      have hnow9 := OwnC.drew1 (own_swap hnow6 ha hbb)
      have ho9 : OwnI (World.drew ((w6.setCell ⟨g5, k, none⟩ (.int .i64 bb)).setCell ⟨g5, k + 1, none⟩ (.int .i64 a))) w5.heap.size w6.heap.size A' c' out := OwnC.drew1 (OwnC.far (p := ⟨g5, k + 1, none⟩) (OwnC.far (p := ⟨g5, k, none⟩) ho6 (.inl gb) _) (.inl gb) _)
      have hw6 : w.heap.size ≤ g5 := ga
      have hb9 : Below w.heap.size w (World.drew ((w6.setCell ⟨g5, k, none⟩ (.int .i64 bb)).setCell ⟨g5, k + 1, none⟩ (.int .i64 a))) := Below.drew (Below.setCell (p := ⟨g5, k + 1, none⟩) (Below.setCell (p := ⟨g5, k, none⟩) hb6 (by show w.heap.size ≤ g5; omega) _) (by show w.heap.size ≤ g5; omega) _)
      have hz9 : w5.heap.size ≤ (World.drew ((w6.setCell ⟨g5, k, none⟩ (.int .i64 bb)).setCell ⟨g5, k + 1, none⟩ (.int .i64 a))).heap.size := by
        show w5.heap.size ≤ ((w6.setCell ⟨g5, k, none⟩ (.int .i64 bb)).setCell ⟨g5, k + 1, none⟩ (.int .i64 a)).heap.size
        simp; omega
      (refine wp_region_pops 2 (S := (fun _ => True)) (pre := ?_) (T := ?_) (n := ?_) (by kernel_rfl) (by kernel_rfl) ?_ ?_ ?_ ?_ (fun hHeld => ?_); rotate_left 3; (focus (simp only [pops, List.pop_toArray, List.dropLast_cons_cons, List.dropLast_singleton]; rfl)); (focus (simp only [tailOf, List.pop_toArray, List.dropLast_cons_cons, List.dropLast_singleton, List.back?_toArray, List.getLast?_cons_cons, List.getLast?_singleton, Option.toList_some, List.nil_append, List.cons_append]; rfl)); (focus rfl); (focus (exact trivial)))
      ((refine wpAnyH_take (i := 0) (v := ?_) rfl (by kernel_rfl) (by kernel_rfl) (by kernel_rfl) (fun _ _ _ h => h) (Or.inl ⟨by rfl, ?_⟩) (by assumption) ?_; rotate_left; (focus (intro W hSw; (try dsimp only at hSw); go_simp; try (with_reducible rfl)))); (try simp only [List.getElem_toArray, List.getElem_cons_zero, Act.put, List.setIfInBounds_toArray, List.set_cons_zero, List.set_cons_succ]); (refine wpAnyH_take (i := 1) (v := ?_) rfl (by kernel_rfl) (by kernel_rfl) (by kernel_rfl) (fun _ _ _ h => h) (Or.inl ⟨by rfl, ?_⟩) (by assumption) ?_; rotate_left; (focus (intro W hSw; (try dsimp only at hSw); go_simp; try (with_reducible rfl)))); (try simp only [List.getElem_toArray, List.getElem_cons_zero, List.getElem_cons_succ, Act.put, List.setIfInBounds_toArray, List.set_cons_zero, List.set_cons_succ]); (refine wpAnyH_take (i := 2) (v := ?_) rfl (by kernel_rfl) (by kernel_rfl) (by kernel_rfl) (fun _ _ _ h => h) (Or.inl ⟨by rfl, ?_⟩) (by assumption) ?_; rotate_left; (focus (intro W hSw; (try dsimp only at hSw); go_simp; try (with_reducible rfl)))); (try simp only [List.getElem_toArray, List.getElem_cons_zero, List.getElem_cons_succ, Act.put, List.setIfInBounds_toArray, List.set_cons_zero, List.set_cons_succ]); (refine wpAnyH_take (i := 3) (v := ?_) rfl (by kernel_rfl) (by kernel_rfl) (by kernel_rfl) (fun _ _ _ h => h) (Or.inl ⟨by rfl, ?_⟩) (by assumption) ?_; rotate_left; (focus (intro W hSw; (try dsimp only at hSw); go_simp; try (with_reducible rfl)))); (try simp only [List.getElem_toArray, List.getElem_cons_zero, List.getElem_cons_succ, Act.put, List.setIfInBounds_toArray, List.set_cons_zero, List.set_cons_succ]); (refine wpAnyH_take (i := 4) (v := ?_) rfl (by kernel_rfl) (by kernel_rfl) (by kernel_rfl) (fun _ _ _ h => h) (Or.inl ⟨by rfl, ?_⟩) (by assumption) ?_; rotate_left; (focus (intro W hSw; (try dsimp only at hSw); go_simp; try (with_reducible rfl)))); (try simp only [List.getElem_toArray, List.getElem_cons_zero, List.getElem_cons_succ, Act.put, List.setIfInBounds_toArray, List.set_cons_zero, List.set_cons_succ]); (refine wpAnyH_take (i := 5) (v := ?_) rfl (by kernel_rfl) (by kernel_rfl) (by kernel_rfl) (fun _ _ _ h => h) (Or.inl ⟨by rfl, ?_⟩) (by assumption) ?_; rotate_left; (focus (intro W hSw; (try dsimp only at hSw); go_simp; try (with_reducible rfl)))); (try simp only [List.getElem_toArray, List.getElem_cons_zero, List.getElem_cons_succ, Act.put, List.setIfInBounds_toArray, List.set_cons_zero, List.set_cons_succ]); (refine wpAnyH_take (i := 6) (v := ?_) rfl (by kernel_rfl) (by kernel_rfl) (by kernel_rfl) (fun _ _ _ h => h) (Or.inl ⟨by rfl, ?_⟩) (by assumption) ?_; rotate_left; (focus (intro W hSw; (try dsimp only at hSw); go_simp; try (with_reducible rfl)))); (try simp only [List.getElem_toArray, List.getElem_cons_zero, List.getElem_cons_succ, Act.put, List.setIfInBounds_toArray, List.set_cons_zero, List.set_cons_succ]); (refine wpAnyH_take (i := 7) (v := ?_) rfl (by kernel_rfl) (by kernel_rfl) (by kernel_rfl) (fun _ _ _ h => h) (Or.inl ⟨by rfl, ?_⟩) (by assumption) ?_; rotate_left; (focus (intro W hSw; (try dsimp only at hSw); go_simp; try (with_reducible rfl)))); (try simp only [List.getElem_toArray, List.getElem_cons_zero, List.getElem_cons_succ, Act.put, List.setIfInBounds_toArray, List.set_cons_zero, List.set_cons_succ]); (refine wpAnyH_take (i := 8) (v := ?_) rfl (by kernel_rfl) (by kernel_rfl) (by kernel_rfl) (fun _ _ _ h => h) (Or.inl ⟨by rfl, ?_⟩) (by assumption) ?_; rotate_left; (focus (intro W hSw; (try dsimp only at hSw); go_simp; try (with_reducible rfl)))); (try simp only [List.getElem_toArray, List.getElem_cons_zero, List.getElem_cons_succ, Act.put, List.setIfInBounds_toArray, List.set_cons_zero, List.set_cons_succ]); (refine wpAnyH_take (i := 10) (v := ?_) rfl (by kernel_rfl) (by kernel_rfl) (by kernel_rfl) (fun _ _ _ h => h) (Or.inl ⟨by rfl, ?_⟩) (by assumption) ?_; rotate_left; (focus (intro W hSw; (try dsimp only at hSw); go_simp; try (with_reducible rfl)))); (try simp only [List.getElem_toArray, List.getElem_cons_zero, List.getElem_cons_succ, Act.put, List.setIfInBounds_toArray, List.set_cons_zero, List.set_cons_succ]); (refine wpAnyH_take (i := 11) (v := ?_) rfl (by kernel_rfl) (by kernel_rfl) (by kernel_rfl) (fun _ _ _ h => h) (Or.inl ⟨by rfl, ?_⟩) (by assumption) ?_; rotate_left; (focus (intro W hSw; (try dsimp only at hSw); go_simp; try (with_reducible rfl)))); (try simp only [List.getElem_toArray, List.getElem_cons_zero, List.getElem_cons_succ, Act.put, List.setIfInBounds_toArray, List.set_cons_zero, List.set_cons_succ]); (refine wpAnyH_take (i := 12) (v := ?_) rfl (by kernel_rfl) (by kernel_rfl) (by kernel_rfl) (fun _ _ _ h => h) (Or.inl ⟨by rfl, ?_⟩) (by assumption) ?_; rotate_left; (focus (intro W hSw; (try dsimp only at hSw); go_simp; try (with_reducible rfl)))); (try simp only [List.getElem_toArray, List.getElem_cons_zero, List.getElem_cons_succ, Act.put, List.setIfInBounds_toArray, List.set_cons_zero, List.set_cons_succ]))
      refine wpAnyH_ready (rs := [9, 13]) (by kernel_rfl) (by simp) ?_
      refine AllReadyH.cons rfl (fun K hK => ?_) (AllReadyH.cons rfl (fun K hK => ?_) AllReadyH.nil)
      · go_simp
        refine hK.out _ _ trivial (fun hHeld => ?_)
        clear hK K
        (try simp only [List.getElem_toArray, List.getElem_cons_zero, List.getElem_cons_succ, Act.put, List.setIfInBounds_toArray, List.set_cons_zero, List.set_cons_succ])
        (refine wpAnyH_ready (rs := [13]) (by kernel_rfl) (by simp) ?_; refine AllReadyH.cons rfl (fun K hK => ?_) AllReadyH.nil)
        go_simp
        refine hK.out _ _ trivial (fun hHeld => ?_)
        clear hK K
        (try simp only [List.getElem_toArray, List.getElem_cons_zero, List.getElem_cons_succ, Act.put, List.setIfInBounds_toArray, List.set_cons_zero, List.set_cons_succ])
        ((refine wpAnyH_take (i := 14) (v := ?_) rfl (by kernel_rfl) (by kernel_rfl) (by kernel_rfl) (fun _ _ _ h => h) (Or.inl ⟨by rfl, ?_⟩) (by assumption) ?_; rotate_left; (focus (intro W hSw; (try dsimp only at hSw); go_simp; try (with_reducible rfl)))); (try simp only [List.getElem_toArray, List.getElem_cons_zero, List.getElem_cons_succ, Act.put, List.setIfInBounds_toArray, List.set_cons_zero, List.set_cons_succ]))
        refine wpAnyH_end (i := 15) (by kernel_rfl) rfl rfl (by kernel_rfl) ?_
        go_wp2_with (fail)
        refine lastQ_mk trivial ?_
        change wpList _ _ _ _ _ _
        go_wp2_with (at_builtin; refine wpList_append1q (World.drew ((w6.setCell ⟨g5, k, none⟩ (.int .i64 bb)).setCell ⟨g5, k + 1, none⟩ (.int .i64 a))) w6.heap.size (by simp) [.int .i64 (k : Int)] _ rfl (.tmp 35) (.tmp 37) _ rfl 2 i0 _ 1 8 Try.underlying22 hi0 hz0 hz1 hz2 rfl (by decide) rfl ho9 hz9 1 rfl rfl (by simp [Value.oneCell']) (by omega) (by decide) ?_; intro A9 c9 w8 ho8 hg8 hb8 hz8)
        refine ⟨⟨A9, c9, out ++ [(k : Int)], swapL k now, by simp, ?_, OwnC.below hnow9 hb8 (Nat.le_refl _), HNL2, hb9.trans (hb8.mono (by omega)), Nat.le_trans hz9 hb8.size, HD2, HI2⟩, ?_⟩
        · show OwnC _ _ _ _ _ _ _ _ _
          rw [List.map_append, List.length_append]
          exact ho8
        · have hlt := HLT.out
          show invs p - (out.length + 1) < invs p - out.length
          omega
      · go_simp
        refine hK.out _ _ trivial (fun hHeld => ?_)
        clear hK K
        (try simp only [List.getElem_toArray, List.getElem_cons_zero, List.getElem_cons_succ, Act.put, List.setIfInBounds_toArray, List.set_cons_zero, List.set_cons_succ])
        (refine wpAnyH_ready (rs := [9]) (by kernel_rfl) (by simp) ?_; refine AllReadyH.cons rfl (fun K hK => ?_) AllReadyH.nil)
        go_simp
        refine hK.out _ _ trivial (fun hHeld => ?_)
        clear hK K
        (try simp only [List.getElem_toArray, List.getElem_cons_zero, List.getElem_cons_succ, Act.put, List.setIfInBounds_toArray, List.set_cons_zero, List.set_cons_succ])
        ((refine wpAnyH_take (i := 14) (v := ?_) rfl (by kernel_rfl) (by kernel_rfl) (by kernel_rfl) (fun _ _ _ h => h) (Or.inl ⟨by rfl, ?_⟩) (by assumption) ?_; rotate_left; (focus (intro W hSw; (try dsimp only at hSw); go_simp; try (with_reducible rfl)))); (try simp only [List.getElem_toArray, List.getElem_cons_zero, List.getElem_cons_succ, Act.put, List.setIfInBounds_toArray, List.set_cons_zero, List.set_cons_succ]))
        refine wpAnyH_end (i := 15) (by kernel_rfl) rfl rfl (by kernel_rfl) ?_
        go_wp2_with (fail)
        refine lastQ_mk trivial ?_
        change wpList _ _ _ _ _ _
        go_wp2_with (at_builtin; refine wpList_append1q (World.drew ((w6.setCell ⟨g5, k, none⟩ (.int .i64 bb)).setCell ⟨g5, k + 1, none⟩ (.int .i64 a))) w6.heap.size (by simp) [.int .i64 (k : Int)] _ rfl (.tmp 35) (.tmp 37) _ rfl 2 i0 _ 1 8 Try.underlying22 hi0 hz0 hz1 hz2 rfl (by decide) rfl ho9 hz9 1 rfl rfl (by simp [Value.oneCell']) (by omega) (by decide) ?_; intro A9 c9 w8 ho8 hg8 hb8 hz8)
        refine ⟨⟨A9, c9, out ++ [(k : Int)], swapL k now, by simp, ?_, OwnC.below hnow9 hb8 (Nat.le_refl _), HNL2, hb9.trans (hb8.mono (by omega)), Nat.le_trans hz9 hb8.size, HD2, HI2⟩, ?_⟩
        · show OwnC _ _ _ _ _ _ _ _ _
          rw [List.map_append, List.length_append]
          exact ho8
        · have hlt := HLT.out
          show invs p - (out.length + 1) < invs p - out.length
          omega

end Go.Proofs.Ytifjdiiafofnpaa

/- Permutations: the letters. -/
namespace Go.Proofs.Ytifjdiiafofnpaa
open Go Go.RowKit

theorem permWord_mem (p : List Int) : ∀ x ∈ permWord p, 0 ≤ x ∧ x + 1 < (p.length : Int) := by
  have key : ∀ (f : Nat) (xs : List Int), ∀ x ∈ permFuel f xs, 0 ≤ x ∧ x + 1 < (xs.length : Int) := by
    intro f
    induction f with
    | zero => intro xs x h; simp [permFuel] at h
    | succ f ih =>
      intro xs x h
      rw [permFuel] at h
      cases hf : firstDes xs with
      | none => rw [hf] at h; simp at h
      | some k =>
        rw [hf] at h
        obtain ⟨a, b, ha, hb, _⟩ := firstDes_some hf
        have hk := (List.getElem?_eq_some_iff.1 hb).1
        rcases List.mem_cons.1 h with rfl | h
        · omega
        · have := ih _ x h
          rw [swapL_at ha hb, List.length_set, List.length_set] at this
          exact this
  exact key _ _
def addTo (i : Nat) (ws : List Int) : List Int := (ws.take i).map (· + 1) ++ ws.drop i
theorem addTo_at {ws : List Int} {i : Nat} {x : Int} (h : ws[i]? = some x) : (addTo i ws)[i]? = some x ∧ (addTo i ws).set i (x + 1) = addTo (i + 1) ws := by
  have hi := (List.getElem?_eq_some_iff.1 h).1
  have hl : ((ws.take i).map (· + 1)).length = i := by rw [List.length_map, List.length_take]; omega
  refine ⟨?_, ?_⟩
  · unfold addTo
    rw [List.getElem?_append_right (by omega), hl, Nat.sub_self, List.getElem?_drop, Nat.add_zero]
    exact h
  · unfold addTo
    rw [List.set_append_right _ _ (by omega), hl, Nat.sub_self, drop_cons h, List.set_cons_zero, take_snoc h, List.map_append, List.append_assoc]
    rfl
theorem addTo_length (i : Nat) (ws : List Int) : (addTo i ws).length = ws.length := by
  unfold addTo
  rw [List.length_append, List.length_map, List.length_take, List.length_drop]
  omega
theorem addTo_end (ws : List Int) : addTo ws.length ws = ws.map (· + 1) := by
  unfold addTo
  rw [List.take_length, List.drop_length, List.append_nil]
def permLetters (p : List Int) : List Int := (permWord p).map (· + 1)

set_option maxHeartbeats 2000000 in
theorem impl_permutationLetters (p : List Int) (A : Option Addr) (c : Nat) (w : World) (h : Ints w A p) (hl : p.length ≤ 12) :
    Calls Try.prog 87 #[.slice A p.length c] w fun e w' => ∃ A' c', e = .returned (.slice A' (permLetters p).length c') ∧ OwnI w' w.heap.size w'.heap.size A' c' (permLetters p) ∧ Below w.heap.size w w' := by
  have hmem := permWord_mem p
  have h144 : (permWord p).length ≤ 144 := Nat.le_trans (permWord_length p) (Nat.le_trans (invs_le p) (Nat.mul_le_mul hl hl))
  have HM := Lib.hid hmem; clear hmem
  go_enter Try.func87, Try.ntmps87
  go_wp2_with (fail)
  refine (impl_reducedWord p A c w h hl).mono ?_; rintro e w5 ⟨A5, c5, rfl, o5, b5⟩
  have HP : Hid (permLetters p = (permWord p).map (· + 1)) := Lib.hid rfl
  generalize permWord p = ws at o5 HM h144 HP ⊢
  have hz5 := b5.size
  go_wp2_with (fail)
  go_loopw [9] (fun iv wr => ∃ i : Nat, i ≤ ws.length ∧ iv = .int .i64 i ∧ OwnC wr w.heap.size w5.heap.size 2 1 A5 ws.length c5 ((addTo i ws).map (Value.int .i64)) ∧ Below w.heap.size w wr ∧ w5.heap.size ≤ wr.heap.size) (fun iv _ => ws.length - (intOf iv).toNat)
  case atStart => exact ⟨0, Nat.zero_le _, rfl, by simpa [addTo] using o5, b5, Nat.le_refl _⟩
  case round =>
    obtain ⟨i, hi, rfl, ho, hb, hz⟩ := hrel
    by_cases hil : i < ws.length
    · obtain ⟨g5, rfl⟩ := OwnC.head ho (by omega)
      have hx : ws[i]? = some (ws[i]'hil) := List.getElem?_eq_getElem hil
      obtain ⟨x, hxx⟩ : ∃ x, x = ws[i]'hil := ⟨_, rfl⟩
      rw [← hxx] at hx
      clear hxx
      obtain ⟨hat, hset⟩ := addTo_at hx
      have hm := HM.out x (List.mem_of_getElem? hx)
      have hho : OwnI wr w.heap.size w5.heap.size (some ⟨g5, 0, none⟩) c5 (addTo i ws) := by show OwnC _ _ _ _ _ _ _ _ _; rw [addTo_length]; exact ho
      obtain ⟨cx, fx, ga, gb⟩ := own_at hho hat
      have hst := (OwnC.store (j := i) ho (.int .i64 (x + 1))).1
      rw [← List.map_set, hset] at hst
      have hx1 : -9223372036854775808 ≤ x + 1 ∧ x + 1 ≤ 9223372036854775807 := by omega
      obtain ⟨hx1, hx2⟩ := hx1
      have HST := Lib.hid hst; clear hst hset hat hho hx
      have j1 : (0 : Int) ≤ (i : Int) := by omega
      have j2 : (i : Int) < (ws.length : Int) := by omega
      go_wp2_with (fail)
      refine ⟨⟨i + 1, by omega, by go_num, HST.out, Below.setCell (p := ⟨g5, i, none⟩) hb (by show w.heap.size ≤ g5; omega) _, by simpa using hz⟩, by simp [intOf]; omega⟩
    · obtain rfl : i = ws.length := by omega
      rw [addTo_end] at ho
      go_wp2_with (fail)
      go_ret
      refine ⟨A5, c5, by rw [HP.out, List.length_map]; first | rfl | simp [results, go_sem], ?_, hb⟩
      rw [HP.out]
      show OwnC _ _ _ _ _ _ _ _ _
      rw [List.length_map]
      exact ho.mono (Nat.le_refl _) hz

end Go.Proofs.Ytifjdiiafofnpaa

/- Permutations: the plain tests. -/
namespace Go.Proofs.Ytifjdiiafofnpaa
open Go Go.RowKit

/-- Each entry lies between 0 and n-1 and is not among those before it. -/
def permGo (n : Int) : List Int → List Int → Bool
  | _, [] => true
  | done, x :: xs => inR x 0 (n - 1) && !decide (x ∈ done) && permGo n (done ++ [x]) xs
def permB (p : List Int) : Bool := decide (p.length ≤ 12) && permGo p.length [] p
theorem invs_half (xs : List Int) : 2 * invs xs + xs.length ≤ xs.length * xs.length := by
  induction xs with
  | nil => simp [invs]
  | cons x xs ih =>
    have h := List.countP_le_length (p := fun y => decide (y < x)) (l := xs)
    rw [invs, List.length_cons]
    have e : (xs.length + 1) * (xs.length + 1) = xs.length * xs.length + 2 * xs.length + 1 := by simp [Nat.add_mul, Nat.mul_add]; omega
    omega
theorem permLetters_length (p : List Int) : (permLetters p).length = (permWord p).length := by rw [permLetters, List.length_map]
theorem perm_braid {p : List Int} (h : p.length ≤ 8) : braidB p.length (permLetters p) = true ∧ (permLetters p).length ≤ 28 := by
  have h1 := permWord_length p
  have h2 := invs_half p
  have h3 : p.length * p.length ≤ 7 * p.length + p.length := by have := Nat.mul_le_mul_right p.length h; omega
  have h28 : (permLetters p).length ≤ 28 := by
    rw [permLetters_length]
    rcases (by omega : p.length = 0 ∨ p.length = 1 ∨ p.length = 2 ∨ p.length = 3 ∨ p.length = 4 ∨ p.length = 5 ∨ p.length = 6 ∨ p.length = 7 ∨ p.length = 8) with e | e | e | e | e | e | e | e | e <;> rw [e] at h2 <;> omega
  refine ⟨?_, h28⟩
  rw [braidB]
  simp only [Bool.and_eq_true, decide_eq_true_eq]
  refine ⟨⟨by rw [inR_iff]; omega, by omega⟩, ?_⟩
  rw [lettersB, List.all_eq_true]
  intro y hy
  rw [permLetters, List.mem_map] at hy
  obtain ⟨x, hx, rfl⟩ := hy
  have := permWord_mem p x hx
  unfold letterB
  rw [Bool.and_eq_true, decide_eq_true_eq, inR_iff]
  omega

end Go.Proofs.Ytifjdiiafofnpaa

/- Permutations: the given side's test. -/
namespace Go.Proofs.Ytifjdiiafofnpaa
open Go Go.RowKit

def seenC (n : Nat) (done : List Int) : List Value := (List.range n).map fun (v : Nat) => Value.bool (decide ((v : Int) ∈ done))
theorem seenC_length (n : Nat) (done : List Int) : (seenC n done).length = n := by simp [seenC]
theorem seenC_at {n v : Nat} (done : List Int) (h : v < n) : (seenC n done)[v]? = some (.bool (decide ((v : Int) ∈ done))) := by simp [seenC, h]
theorem seenC_set {n v : Nat} (done : List Int) (h : v < n) : (seenC n done).set v (.bool true) = seenC n (done ++ [(v : Int)]) := by
  apply List.ext_getElem?
  intro i
  rw [List.getElem?_set]
  by_cases hi : i < n
  · rw [seenC_at _ hi]
    by_cases hv : v = i
    · subst hv
      rw [if_pos rfl, if_pos (by rw [seenC_length]; exact h), seenC_at _ h]
      congr 2
      exact (decide_eq_true (List.mem_append.2 (.inr (List.mem_singleton.2 rfl)))).symm
    · rw [if_neg hv, seenC_at _ hi]
      have : ((i : Int) ∈ done ++ [(v : Int)]) ↔ (i : Int) ∈ done := by
        rw [List.mem_append, List.mem_singleton]
        constructor
        · rintro (h | h)
          · exact h
          · omega
        · exact .inl
      simp only [this]
  · rw [if_neg (by omega), List.getElem?_eq_none (by rw [seenC_length]; omega), List.getElem?_eq_none (by rw [seenC_length]; omega)]
theorem seenC_nil (n : Nat) : seenC n [] = List.replicate n (.bool false) := by
  apply List.ext_getElem?
  intro i
  by_cases hi : i < n
  · rw [seenC_at _ hi, List.getElem?_replicate, if_pos hi]; rfl
  · rw [List.getElem?_eq_none (by rw [seenC_length]; omega), List.getElem?_replicate, if_neg hi]
theorem permGo_drop {p : List Int} {k : Nat} {x : Int} (h : p[k]? = some x) (n : Int) : permGo n (p.take k) (p.drop k) = (inR x 0 (n - 1) && !decide (x ∈ p.take k) && permGo n (p.take (k + 1)) (p.drop (k + 1))) := by
  rw [drop_cons h, permGo, ← take_snoc h]

end Go.Proofs.Ytifjdiiafofnpaa

/- Permutations: the given side's test, walked. -/
namespace Go.Proofs.Ytifjdiiafofnpaa
open Go Go.RowKit

theorem info_bool : (Try.prog.info? 4).map (fun i => (i.zero, i.size, i.bytes)) = some (some (.bool false), 1, 1) := by kernel_rfl

set_option maxHeartbeats 2000000 in
set_option maxRecDepth 10000 in
theorem spec_l02Ok (p : List Int) (A : Option Addr) (c : Nat) (w : World) (h : Ints w A p) (hl : p.length ≤ 9223372036854775807) :
    Calls Try.prog 92 #[.slice A p.length c] w fun e w' => e = .returned (.bool (permB p)) ∧ Below w.heap.size w w' := by
  obtain ⟨i0, hi0, hz0, hz1, hz2⟩ := info_parts info_bool
  by_cases h12 : p.length ≤ 12
  · have hd : decide ((12 : Int) < (p.length : Int)) = false := decide_eq_false (by omega)
    have HF : Hid (permB p = permGo p.length [] p) := Lib.hid (by rw [permB, decide_eq_true h12]; rfl)
    go_enter Try.func92, Try.ntmps92
    go_wp2_with (refine wpList_make_full _ rfl _ _ _ rfl w.heap.size 4 i0 _ 1 Try.underlying153 hi0 hz0 hz1 .i64 .i64 _ _ p.length rfl rfl rfl rfl (by rw [hz2]; omega) (by unfold maxLen; omega) (Nat.le_refl _) ?_; intro w1 hown hg)
    have hb1 : Below w.heap.size w w1 := (Below.refl _ _).grown hg (Nat.le_refl _) (by simp)
    have hown' : w1.ownsRow w.heap.size 4 1 (.slice (some ⟨w.heap.size, 0, none⟩) p.length p.length) p.length (seenC p.length []) := by
      have e : (madeCells (Value.bool false).cells (p.length * 1)).toList = seenC p.length [] := by
        rw [seenC_nil]
        apply List.ext_getElem?
        intro i
        simp [madeCells, Value.cells, Nat.mod_one, List.getElem?_replicate]
        by_cases hi : i < p.length <;> simp [hi]
      rw [← e]
      exact hown
    have hh := h.below hb1
    clear hg
    go_loopw [4] (fun iv wr => ∃ k : Nat, k ≤ p.length ∧ iv = .int .i64 k ∧ wr.ownsRow w.heap.size 4 1 (.slice (some ⟨w.heap.size, 0, none⟩) p.length p.length) p.length (seenC p.length (p.take k)) ∧ Below w.heap.size w wr ∧ Hid (permB p = permGo p.length (p.take k) (p.drop k))) (fun iv _ => p.length - (intOf iv).toNat)
    case atStart => exact ⟨0, Nat.zero_le _, rfl, hown', hb1, HF⟩
    case round =>
      clear hown hown' hb1 HF hh
      obtain ⟨k, hk, rfl, hown, hb, HF⟩ := hrel
      by_cases hkl : k < p.length
      · obtain ⟨b, off, x, rfl, hc, hx⟩ := (h.below hb) k hkl
        have j1 : (0 : Int) ≤ (k : Int) := by omega
        have j2 : (k : Int) < (p.length : Int) := by omega
        have hgo := permGo_drop hx (p.length : Int)
        cases hin : inR x 0 ((p.length : Int) - 1)
        · have HE : Hid (permB p = false) := Lib.hid (by rw [HF.out, hgo, hin]; rfl)
          clear hgo hx
          go_wp2_with (go_at_call 109; refine (spec_l00In _ _ _ _).mono ?_; rintro e _ ⟨rfl, rfl⟩; rw [hin])
          go_ret
          exact ⟨ret_bool HE.out.symm, hb⟩
        · obtain ⟨hx0, hx1⟩ := inR_iff.1 hin
          obtain ⟨X, rfl⟩ := Int.eq_ofNat_of_zero_le hx0
          have hX : X < p.length := by omega
          have hcell : wr.cell? ⟨w.heap.size, X, none⟩ = some (.bool (decide ((X : Int) ∈ p.take k))) := by
            rw [hown.cellAt X (by omega), seenC_at _ hX]
          have hfz := hown.frozenAt X
          have j3 : (0 : Int) ≤ (X : Int) := by omega
          have j4 : (X : Int) < (p.length : Int) := by omega
          cases hm : decide ((X : Int) ∈ p.take k)
          · have HE : Hid (permB p = permGo p.length (p.take (k + 1)) (p.drop (k + 1))) := Lib.hid (by rw [HF.out, hgo, hin, hm]; rfl)
            have hset := (hown.stored X (.bool true)).1
            rw [seenC_set _ hX, ← take_snoc hx] at hset
            rw [hm] at hcell
            have HST := Lib.hid hset
            clear hgo hx hset hm
            go_wp2_with (go_at_call 109; refine (spec_l00In _ _ _ _).mono ?_; rintro e _ ⟨rfl, rfl⟩; rw [hin])
            refine ⟨⟨k + 1, by omega, by go_num, HST.out, hb.setCell (p := ⟨w.heap.size, X, none⟩) (Nat.le_refl _) _, HE⟩, by simp [intOf]; omega⟩
          · have HE : Hid (permB p = false) := Lib.hid (by rw [HF.out, hgo, hin, hm]; rfl)
            rw [hm] at hcell
            clear hgo hx hm
            go_wp2_with (go_at_call 109; refine (spec_l00In _ _ _ _).mono ?_; rintro e _ ⟨rfl, rfl⟩; rw [hin])
            go_ret
            exact ⟨ret_bool HE.out.symm, hb⟩
      · have HE : Hid (permB p = true) := Lib.hid (by rw [HF.out, drop_all (by omega)]; rfl)
        go_wp2_with (fail)
        go_ret
        exact ⟨ret_bool HE.out.symm, hb⟩
  · have hd : decide ((12 : Int) < (p.length : Int)) = true := decide_eq_true (by omega)
    have HF : Hid (permB p = false) := Lib.hid (by rw [permB, decide_eq_false h12]; rfl)
    clear h12
    go_enter Try.func92, Try.ntmps92
    go_wp2_with (fail)
    go_ret
    exact ⟨ret_bool HF.out.symm, Below.refl _ _⟩

end Go.Proofs.Ytifjdiiafofnpaa
