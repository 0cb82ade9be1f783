/- Steps of the proof, joined from several texts: XK. -/
import Derived.Test.YtfgbhhkmdeljoaaZ13

/- Charts: one inner slice of rows grows; the plain law of charts side by side. -/
namespace Go.Proofs.Ytfgbhhkmdeljoaa
open Go Go.RowKit

/-- append of some cells that stand in memory; where the new slice lies. -/
theorem wp_appendC_at {P : Program} (w : World) {o : Oper} {a : Act} {K : Act → World → Prop} {Q : Exit → Act → World → Prop} (s x : Operand) (t : TypeId)
    (hop : o.op = .call { callee := .builtin .append, args := #[s, x], argTypes := #[t, t] })
    (e : TypeId) (i : TypeInfo) (z : Value) (size bytes : Nat) (ht : P.underlying t = some (.slice e)) (hi : P.info? e = some i) (hz : i.zero = some z)
    (hsize : i.size = size) (hby : i.bytes = bytes) (hzs : z.cells.size = size) (hsz : 0 < size)
    {lo hi' n c : Nat} {A : Option Addr} {cs : List Value} (hs : a.eval s = .slice A n c) (hown : OwnC w lo hi' e size A n c cs) (hlo : lo ≤ w.heap.size)
    (A2 : Option Addr) (m c2 : Nat) (news : List Value) (hx : a.eval x = .slice A2 m c2) (hl : news.length = m * size)
    (hnews : ∀ j u, news[j]? = some u → ∃ b off, A2 = some ⟨b, off, none⟩ ∧ w.cell? ⟨b, off + j, none⟩ = some u) (h1 : ∀ u ∈ news, u.oneCell' = true)
    (h63 : n + m ≤ maxLen) (hbytes : (n + m) * bytes ≤ 140737488355328)
    (h : ∀ A' c' w', OwnC w' lo w'.heap.size e size A' (n + m) c' (cs ++ news) → w.grownBy w' (Value.slice A n c).ownBlock → Below lo w w' → ((Value.slice A' (n + m) c').ownBlock = (Value.slice A n c).ownBlock ∨ (Value.slice A' (n + m) c').ownBlock = some w.heap.size) → K (a.put o.dst (.slice A' (n + m) c')) w') : o.wp P a w K Q := by
  cases A2 with
  | none =>
    have hn : news = [] := by
      cases news with
      | nil => rfl
      | cons u r => obtain ⟨_, _, h, _⟩ := hnews 0 u rfl; cases h
    subst hn
    have hm : m = 0 := by
      rcases Nat.eq_zero_or_pos m with h | h
      · exact h
      · have := Nat.mul_pos h hsz
        rw [← hl] at this
        simp at this
    subst hm
    have hr : (Builtin.append_ #[t, t] o.type #[.slice A n c, .slice none 0 c2]).run P w = .ok (.slice A n c) w := by
      rcases hown.form with ⟨rfl, rfl, rfl, _⟩ | ⟨g, cur, rfl, _, _, _, hnc, _⟩
      · simp [Builtin.append_, run_underlying ht, sizeOf, typeInfo, hi, Builtin.lenOf, Builtin.firstCells]
      · simp [Builtin.append_, run_underlying ht, sizeOf, typeInfo, hi, Builtin.lenOf, Builtin.firstCells, hnc, storeCells]
    unfold Oper.wp execOp
    simp only [hop, resolve, invoke, builtin, Sem.run_bind, Sem.run_pure, Result.andThen_ok, List.map_toArray, List.map_cons, List.map_nil, hs, hx, hr]
    have := h A c w (by simpa using (OwnC.of_own hown.own (Nat.le_refl _))) (World.grownBy.refl w _) (Below.refl _ _) (by simp [Value.ownBlock])
    have h2 : K (a.put o.dst (.slice A n c)) w := by simpa using this
    exact h2
  | some ad =>
    obtain ⟨v', w', hr, h2, h3, _, h5⟩ := run_append_own_at (P := P) w lo t o.type e i z size bytes ht hi hz hsize hby hzs hsz (.slice A n c) n cs hown.own ad m c2 news hl (by
      intro j u hu
      obtain ⟨b, off, he, hc⟩ := hnews j u hu
      injection he with he
      subst he
      unfold Addr.add
      split
      · subst_vars; simpa using hc
      · exact hc) h1 h63 hbytes hlo
    obtain ⟨A', c', rfl, h4⟩ := OwnC.of_own' h2
    unfold Oper.wp execOp
    simp only [hop, resolve, invoke, builtin, Sem.run_bind, Sem.run_pure, Result.andThen_ok, List.map_toArray, List.map_cons, List.map_nil, hs, hx, hr]
    exact h A' c' w' h4 h3 (grown_below hown hlo h3) h5

/-- One inner slice of rows grows, and its row's cell is set to it. -/
theorem OwnRows.grow {w : World} {lo hi n : Nat} {A : Option Addr} {c : Nat} {rs : List RowD} (h : OwnRows w lo hi A n c rs) (hhi : hi ≤ w.heap.size) {k : Nat} {r : RowD} (hx : rs[k]? = some r) :
    ∃ g A' c', A = some ⟨g, 0, none⟩ ∧ lo ≤ g ∧ g < hi ∧ w.cell? ⟨g, k * 3, none⟩ = some (.int .i64 r.d) ∧ w.cell? ⟨g, k * 3 + 1, none⟩ = some (.int .i64 r.r) ∧ w.cell? ⟨g, k * 3 + 2, none⟩ = some (.slice A' r.s.length c') ∧ OwnI w lo hi A' c' r.s ∧
      ∀ (w5 : World) (A2 : Option Addr) (c2 : Nat) (ys : List Int), w.grownBy w5 (Value.slice A' r.s.length c').ownBlock → OwnI w5 lo w5.heap.size A2 c2 ys →
        ((Value.slice A2 ys.length c2).ownBlock = (Value.slice A' r.s.length c').ownBlock ∨ (Value.slice A2 ys.length c2).ownBlock = some w.heap.size) →
        w5.frozen? ⟨g, k * 3 + 2, none⟩ = false ∧ w5.cell? ⟨g, k * 3 + 2, none⟩ = some (.slice A' r.s.length c') ∧ OwnRows (w5.setCell ⟨g, k * 3 + 2, none⟩ (.slice A2 ys.length c2)) lo w5.heap.size A n c (rs.set k ⟨r.d, r.r, ys⟩) := by
  obtain ⟨cs, ho, ha, hb, hc⟩ := h.ex
  have hk : k < rs.length := (List.getElem?_eq_some_iff.1 hx).1
  obtain ⟨A', c', e0, e1, e2, h2⟩ := hb k r hx
  obtain ⟨g, rfl, hg1, hg2, q0, _⟩ := ho.cell (j := k * 3) (by omega)
  obtain ⟨_, hA, _, _, q1, _⟩ := ho.cell (j := k * 3 + 1) (by omega)
  injection hA with hA
  injection hA with hA
  subst hA
  obtain ⟨_, hA, _, _, q2, _⟩ := ho.cell (j := k * 3 + 2) (by omega)
  injection hA with hA
  injection hA with hA
  subst hA
  have e0' := e0; have e1' := e1; have e2' := e2
  rw [List.getElem?_eq_getElem (by omega)] at e0' e1' e2'
  injection e0' with e0'
  injection e1' with e1'
  injection e2' with e2'
  rw [e0'] at q0
  rw [e1'] at q1
  rw [e2'] at q2
  refine ⟨g, A', c', rfl, hg1, hg2, q0, q1, q2, h2, fun w5 A2 c2 ys hgr hn hat => ?_⟩
  have t3 : (60 : TypeId) ≠ 2 := by decide
  have hsz := hgr.size
  have ho5 := ho.grownT h2 t3 hgr
  obtain ⟨_, hA, _, _, q2', f2'⟩ := ho5.cell (j := k * 3 + 2) (by omega)
  injection hA with hA
  injection hA with hA
  subst hA
  rw [e2'] at q2'
  refine ⟨f2', q2', ⟨_, (ho5.store _).1.mono (Nat.le_refl _) (by omega), ?_⟩⟩
  have far : ∀ (lo' hi' : Nat) (B : Option Addr) (cB : Nat) (zs : List Int) (u : Value), OwnI w5 lo' hi' B cB zs → OwnI (w5.setCell ⟨g, k * 3 + 2, none⟩ u) lo' hi' B cB zs := by
    intro lo' hi' B cB zs u hB
    refine hB.keepT fun q cur _ _ hq => Below.heap_setCell w5 _ u q ?_
    rintro rfl
    rcases ho5.form with ⟨hA, _⟩ | ⟨q', cur2, hA, _, _, hh, _⟩
    · cases hA
    · injection hA with hA
      injection hA with hA
      subst hA
      rw [hq] at hh
      injection hh with hh
      injection hh with _ hh
      exact t3 hh.symm
  have blk : ∀ {i : Nat} {v : Value} {q : Nat}, cs[i]? = some v → v.ownBlock = some q → q < hi := fun hi' hv => ((show CellsRows w lo hi cs rs from ⟨ha, hb, hc⟩).block hi' hv).2.1
  refine ⟨by simpa using ha, fun j z hz => ?_, fun i j v v' q hi' hj hv hv' => ?_⟩
  · by_cases e : k = j
    · subst e
      rw [List.getElem?_set_self hk] at hz
      injection hz with hz
      subst hz
      refine ⟨A2, c2, ?_, ?_, ?_, far _ _ _ _ _ _ hn⟩
      · rw [List.getElem?_set_ne (by omega)]; exact e0
      · rw [List.getElem?_set_ne (by omega)]; exact e1
      · rw [List.getElem?_set_self (by omega)]
    · rw [List.getElem?_set_ne e] at hz
      obtain ⟨A3, c3, z0, z1, z2, h6⟩ := hb j z hz
      refine ⟨A3, c3, ?_, ?_, ?_, (far _ _ _ _ _ _ (h6.keep1 fun q hq => ?_)).mono (Nat.le_refl _) (by omega)⟩
      · rw [List.getElem?_set_ne (by omega)]; exact z0
      · rw [List.getElem?_set_ne (by omega)]; exact z1
      · rw [List.getElem?_set_ne (by omega)]; exact z2
      · subst hq
        have hql : q < w.heap.size := by have := h6.lt _ rfl; exact Nat.lt_of_lt_of_le this hhi
        refine hgr.block q hql fun eq => ?_
        have := hc (k * 3 + 2) (j * 3 + 2) _ _ q e2 z2 eq.symm rfl
        omega
  · have hil : i < cs.length := by have := (List.getElem?_eq_some_iff.1 hi').1; simpa using this
    have hjl : j < cs.length := by have := (List.getElem?_eq_some_iff.1 hj).1; simpa using this
    rw [List.getElem?_set] at hi' hj
    split at hi'
    · rename_i ei
      split at hj
      · rename_i ej; omega
      · rename_i ej
        split at hi'
        · injection hi' with hi'
          subst hi'
          exfalso
          have hql := blk hj hv'
          rcases hat with hat | hat
          · rw [hat] at hv
            have := hc (k * 3 + 2) j _ _ q e2 hj hv hv'
            omega
          · rw [hat] at hv
            injection hv with hv
            omega
        · cases hi'
    · split at hj
      · rename_i ei ej
        split at hj
        · injection hj with hj
          subst hj
          exfalso
          have hql := blk hi' hv
          rcases hat with hat | hat
          · rw [hat] at hv'
            have := hc (k * 3 + 2) i _ _ q e2 hi' hv' hv
            omega
          · rw [hat] at hv'
            injection hv' with hv'
            omega
        · cases hj
      · exact hc i j v v' q hi' hj hv hv'

theorem OwnRows.drew1 {w : World} {lo hi n : Nat} {A : Option Addr} {c : Nat} {rs : List RowD} (h : OwnRows w lo hi A n c rs) : OwnRows (World.drew w) lo hi A n c rs := h.keep fun _ _ _ _ => rfl
theorem OwnC.drew1 {w : World} {lo hi : Nat} {e : TypeId} {sz : Nat} {A : Option Addr} {n c : Nat} {cs : List Value} (h : OwnC w lo hi e sz A n c cs) : OwnC (World.drew w) lo hi e sz A n c cs := h.keep fun _ _ _ _ => rfl
theorem joinRows_snoc {rs ss : List RowD} {i : Nat} {a b : RowD} (ha : rs[i]? = some a) (hb : ss[i]? = some b) : joinRows (rs.take (i + 1)) (ss.take (i + 1)) = joinRows (rs.take i) (ss.take i) ++ [joinRow a b] := by
  induction i generalizing rs ss with
  | zero =>
    cases rs with
    | nil => simp at ha
    | cons x rs =>
      cases ss with
      | nil => simp at hb
      | cons y ss =>
        simp at ha hb
        subst ha hb
        simp [joinRows]
  | succ i ih =>
    cases rs with
    | nil => simp at ha
    | cons x rs =>
      cases ss with
      | nil => simp at hb
      | cons y ss =>
        simp only [List.getElem?_cons_succ] at ha hb
        simp only [List.take_succ_cons, joinRows, List.cons_append]
        rw [ih ha hb]
def joinTo (rs ss : List RowD) (i : Nat) : List RowD := joinRows (rs.take i) (ss.take i) ++ rs.drop i
theorem joinTo_at {rs ss : List RowD} (hl : rs.length = ss.length) {i : Nat} {a b : RowD} (ha : rs[i]? = some a) (hb : ss[i]? = some b) : (joinTo rs ss i)[i]? = some a ∧ (joinTo rs ss i).set i (joinRow a b) = joinTo rs ss (i + 1) := by
  have hi := (List.getElem?_eq_some_iff.1 ha).1
  have hjl : (joinRows (rs.take i) (ss.take i)).length = i := by rw [joinRows_length _ _ (by simp [hl]), List.length_take]; omega
  refine ⟨?_, ?_⟩
  · unfold joinTo
    rw [List.getElem?_append_right (by omega), hjl, Nat.sub_self, List.getElem?_drop, Nat.add_zero]
    exact ha
  · unfold joinTo
    rw [List.set_append_right _ _ (by omega), hjl, Nat.sub_self, drop_cons ha, List.set_cons_zero, joinRows_snoc ha hb, List.append_assoc]
    rfl
theorem joinTo_length {rs ss : List RowD} (hl : rs.length = ss.length) {i : Nat} (hi : i ≤ rs.length) : (joinTo rs ss i).length = rs.length := by
  unfold joinTo
  rw [List.length_append, joinRows_length _ _ (by simp [hl]), List.length_take, List.length_drop]
  omega
theorem joinTo_end {rs ss : List RowD} (hl : rs.length = ss.length) : joinTo rs ss rs.length = joinRows rs ss := by
  unfold joinTo
  rw [take_all (Nat.le_refl _), take_all (by omega), drop_all (Nat.le_refl _), List.append_nil]
theorem sameHeads_drop {rs ss : List RowD} {i : Nat} {a b : RowD} (ha : rs[i]? = some a) (hb : ss[i]? = some b) : sameHeads (rs.drop i) (ss.drop i) = (sameHead a b && sameHeads (rs.drop (i + 1)) (ss.drop (i + 1))) := by
  rw [drop_cons ha, drop_cons hb, sameHeads]
theorem sameHead_d {a b : RowD} (h : a.d ≠ b.d) : sameHead a b = false := by simp [sameHead, h]
theorem sameHead_r {a b : RowD} (h : a.r ≠ b.r) : sameHead a b = false := by simp [sameHead, h]
theorem besCode_1 {n m : Int} {rs ss : List RowD} (h : chartB n rs = false ∨ chartB m ss = false) : besCode n rs m ss = 1 := by
  unfold besCode
  rw [if_neg (by rcases h with h | h <;> simp [h])]
theorem besCode_2 {n m : Int} {rs ss : List RowD} (h1 : chartB n rs = true) (h2 : chartB m ss = true) : besCode n rs m ss = if rs.length = ss.length then (if sameHeads rs ss then (if chartB (n + m) (joinRows rs ss) then 0 else 5) else 6) else 6 := by
  unfold besCode
  rw [if_pos (by simp [h1, h2])]

end Go.Proofs.Ytfgbhhkmdeljoaa
