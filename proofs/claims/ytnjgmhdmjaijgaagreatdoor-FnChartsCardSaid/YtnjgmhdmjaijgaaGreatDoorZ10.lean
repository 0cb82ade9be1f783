/- Steps of the proof, joined from several texts: XK DA KS KR XC GJ PP DC. -/
import Derived.Test.YtnjgmhdmjaijgaaGreatDoorZ9
import Derived.Test.YtnjgmhdmjaijgaaGreatDoorZ2
import Derived.Test.YtnjgmhdmjaijgaaGreatDoorZ3
import Derived.Laws.BytesArg
import Derived.Laws.IdiomStrings
import Derived.Test.YtnjgmhdmjaijgaaGreatDoorZ5
import Derived.Lib.Strings
import Derived.Lib.Walk
import Derived.Lib.Bytealg
import Derived.Test.YtnjgmhdmjaijgaaGreatDoorZ8
import Derived.Deep.DeepCutAuto

/- Charts: one inner slice of rows grows; the plain law of charts side by side. -/
namespace Go.Proofs.YtnjgmhdmjaijgaaGreatDoor
open Go Go.RowKit

/-- append of some cells that stand in memory; where the new slice lies. -/
theorem wp_appendC_at {P : Program} (w : World) {o : Oper} {a : Act} {K : Act → World → Prop} {Q : Exit → Act → World → Prop} (s x : Operand) (t : TypeId)
    (hop : o.op = .call { callee := .builtin .append, args := #[s, x], argTypes := #[t, t] })
    (e : TypeId) (i : TypeInfo) (z : Value) (size bytes : Nat) (ht : P.underlying t = some (.slice e)) (hi : P.info? e = some i) (hz : i.zero = some z)
    (hsize : i.size = size) (hby : i.bytes = bytes) (hzs : z.cells.size = size) (hsz : 0 < size)
    {lo hi' n c : Nat} {A : Option Addr} {cs : List Value} (hs : a.eval s = .slice A n c) (hown : OwnC w lo hi' e size A n c cs) (hlo : lo ≤ w.heap.size)
    (A2 : Option Addr) (m c2 : Nat) (news : List Value) (hx : a.eval x = .slice A2 m c2) (hl : news.length = m * size)
    (hnews : ∀ j u, news[j]? = some u → ∃ b off, A2 = some ⟨b, off, none⟩ ∧ w.cell? ⟨b, off + j, none⟩ = some u) (h1 : ∀ u ∈ news, u.oneCell' = true)
    (h63 : n + m ≤ maxLen) (hbytes : (n + m) * bytes ≤ 140737488355328)
    (h : ∀ A' c' w', OwnC w' lo w'.heap.size e size A' (n + m) c' (cs ++ news) → w.grownBy w' (Value.slice A n c).ownBlock → Below lo w w' → ((Value.slice A' (n + m) c').ownBlock = (Value.slice A n c).ownBlock ∨ (Value.slice A' (n + m) c').ownBlock = some w.heap.size) → K (a.put o.dst (.slice A' (n + m) c')) w') : o.wp P a w K Q := by
  cases A2 with
  | none =>
    have hn : news = [] := by
      cases news with
      | nil => rfl
      | cons u r => obtain ⟨_, _, h, _⟩ := hnews 0 u rfl; cases h
    subst hn
    have hm : m = 0 := by
      rcases Nat.eq_zero_or_pos m with h | h
      · exact h
      · have := Nat.mul_pos h hsz
        rw [← hl] at this
        simp at this
    subst hm
    have hr : (Builtin.append_ #[t, t] o.type #[.slice A n c, .slice none 0 c2]).run P w = .ok (.slice A n c) w := by
      rcases hown.form with ⟨rfl, rfl, rfl, _⟩ | ⟨g, cur, rfl, _, _, _, hnc, _⟩
      · simp [Builtin.append_, run_underlying ht, sizeOf, typeInfo, hi, Builtin.lenOf, Builtin.firstCells]
      · simp [Builtin.append_, run_underlying ht, sizeOf, typeInfo, hi, Builtin.lenOf, Builtin.firstCells, hnc, storeCells]
    unfold Oper.wp execOp
    simp only [hop, resolve, invoke, builtin, Sem.run_bind, Sem.run_pure, Result.andThen_ok, List.map_toArray, List.map_cons, List.map_nil, hs, hx, hr]
    have := h A c w (by simpa using (OwnC.of_own hown.own (Nat.le_refl _))) (World.grownBy.refl w _) (Below.refl _ _) (by simp [Value.ownBlock])
    have h2 : K (a.put o.dst (.slice A n c)) w := by simpa using this
    exact h2
  | some ad =>
    obtain ⟨v', w', hr, h2, h3, _, h5⟩ := run_append_own_at (P := P) w lo t o.type e i z size bytes ht hi hz hsize hby hzs hsz (.slice A n c) n cs hown.own ad m c2 news hl (by
      intro j u hu
      obtain ⟨b, off, he, hc⟩ := hnews j u hu
      injection he with he
      subst he
      unfold Addr.add
      split
      · subst_vars; simpa using hc
      · exact hc) h1 h63 hbytes hlo
    obtain ⟨A', c', rfl, h4⟩ := OwnC.of_own' h2
    unfold Oper.wp execOp
    simp only [hop, resolve, invoke, builtin, Sem.run_bind, Sem.run_pure, Result.andThen_ok, List.map_toArray, List.map_cons, List.map_nil, hs, hx, hr]
    exact h A' c' w' h4 h3 (grown_below hown hlo h3) h5

/- The type of rows is 42. -/
/-- One inner slice of rows grows, and its row's cell is set to it. -/
theorem OwnRows.grow {w : World} {lo hi n : Nat} {A : Option Addr} {c : Nat} {rs : List RowD} (h : OwnRows w lo hi A n c rs) (hhi : hi ≤ w.heap.size) {k : Nat} {r : RowD} (hx : rs[k]? = some r) :
    ∃ g A' c', A = some ⟨g, 0, none⟩ ∧ lo ≤ g ∧ g < hi ∧ w.cell? ⟨g, k * 3, none⟩ = some (.int .i64 r.d) ∧ w.cell? ⟨g, k * 3 + 1, none⟩ = some (.int .i64 r.r) ∧ w.cell? ⟨g, k * 3 + 2, none⟩ = some (.slice A' r.s.length c') ∧ OwnI w lo hi A' c' r.s ∧
      ∀ (w5 : World) (A2 : Option Addr) (c2 : Nat) (ys : List Int), w.grownBy w5 (Value.slice A' r.s.length c').ownBlock → OwnI w5 lo w5.heap.size A2 c2 ys →
        ((Value.slice A2 ys.length c2).ownBlock = (Value.slice A' r.s.length c').ownBlock ∨ (Value.slice A2 ys.length c2).ownBlock = some w.heap.size) →
        w5.frozen? ⟨g, k * 3 + 2, none⟩ = false ∧ w5.cell? ⟨g, k * 3 + 2, none⟩ = some (.slice A' r.s.length c') ∧ OwnRows (w5.setCell ⟨g, k * 3 + 2, none⟩ (.slice A2 ys.length c2)) lo w5.heap.size A n c (rs.set k ⟨r.d, r.r, ys⟩) := by
  obtain ⟨cs, ho, ha, hb, hc⟩ := h.ex
  have hk : k < rs.length := (List.getElem?_eq_some_iff.1 hx).1
  obtain ⟨A', c', e0, e1, e2, h2⟩ := hb k r hx
  obtain ⟨g, rfl, hg1, hg2, q0, _⟩ := ho.cell (j := k * 3) (by omega)
  obtain ⟨_, hA, _, _, q1, _⟩ := ho.cell (j := k * 3 + 1) (by omega)
  injection hA with hA
  injection hA with hA
  subst hA
  obtain ⟨_, hA, _, _, q2, _⟩ := ho.cell (j := k * 3 + 2) (by omega)
  injection hA with hA
  injection hA with hA
  subst hA
  have e0' := e0; have e1' := e1; have e2' := e2
  rw [List.getElem?_eq_getElem (by omega)] at e0' e1' e2'
  injection e0' with e0'
  injection e1' with e1'
  injection e2' with e2'
  rw [e0'] at q0
  rw [e1'] at q1
  rw [e2'] at q2
  refine ⟨g, A', c', rfl, hg1, hg2, q0, q1, q2, h2, fun w5 A2 c2 ys hgr hn hat => ?_⟩
  have t3 : (42 : TypeId) ≠ 2 := by decide
  have hsz := hgr.size
  have ho5 := ho.grownT h2 t3 hgr
  obtain ⟨_, hA, _, _, q2', f2'⟩ := ho5.cell (j := k * 3 + 2) (by omega)
  injection hA with hA
  injection hA with hA
  subst hA
  rw [e2'] at q2'
  refine ⟨f2', q2', ⟨_, (ho5.store _).1.mono (Nat.le_refl _) (by omega), ?_⟩⟩
  have far : ∀ (lo' hi' : Nat) (B : Option Addr) (cB : Nat) (zs : List Int) (u : Value), OwnI w5 lo' hi' B cB zs → OwnI (w5.setCell ⟨g, k * 3 + 2, none⟩ u) lo' hi' B cB zs := by
    intro lo' hi' B cB zs u hB
    refine hB.keepT fun q cur _ _ hq => Below.heap_setCell w5 _ u q ?_
    rintro rfl
    rcases ho5.form with ⟨hA, _⟩ | ⟨q', cur2, hA, _, _, hh, _⟩
    · cases hA
    · injection hA with hA
      injection hA with hA
      subst hA
      rw [hq] at hh
      injection hh with hh
      injection hh with _ hh
      exact t3 hh.symm
  have blk : ∀ {i : Nat} {v : Value} {q : Nat}, cs[i]? = some v → v.ownBlock = some q → q < hi := fun hi' hv => ((show CellsRows w lo hi cs rs from ⟨ha, hb, hc⟩).block hi' hv).2.1
  refine ⟨by simpa using ha, fun j z hz => ?_, fun i j v v' q hi' hj hv hv' => ?_⟩
  · by_cases e : k = j
    · subst e
      rw [List.getElem?_set_self hk] at hz
      injection hz with hz
      subst hz
      refine ⟨A2, c2, ?_, ?_, ?_, far _ _ _ _ _ _ hn⟩
      · rw [List.getElem?_set_ne (by omega)]; exact e0
      · rw [List.getElem?_set_ne (by omega)]; exact e1
      · rw [List.getElem?_set_self (by omega)]
    · rw [List.getElem?_set_ne e] at hz
      obtain ⟨A3, c3, z0, z1, z2, h6⟩ := hb j z hz
      refine ⟨A3, c3, ?_, ?_, ?_, (far _ _ _ _ _ _ (h6.keep1 fun q hq => ?_)).mono (Nat.le_refl _) (by omega)⟩
      · rw [List.getElem?_set_ne (by omega)]; exact z0
      · rw [List.getElem?_set_ne (by omega)]; exact z1
      · rw [List.getElem?_set_ne (by omega)]; exact z2
      · subst hq
        have hql : q < w.heap.size := by have := h6.lt _ rfl; exact Nat.lt_of_lt_of_le this hhi
        refine hgr.block q hql fun eq => ?_
        have := hc (k * 3 + 2) (j * 3 + 2) _ _ q e2 z2 eq.symm rfl
        omega
  · have hil : i < cs.length := by have := (List.getElem?_eq_some_iff.1 hi').1; simpa using this
    have hjl : j < cs.length := by have := (List.getElem?_eq_some_iff.1 hj).1; simpa using this
    rw [List.getElem?_set] at hi' hj
    split at hi'
    · rename_i ei
      split at hj
      · rename_i ej; omega
      · rename_i ej
        split at hi'
        · injection hi' with hi'
          subst hi'
          exfalso
          have hql := blk hj hv'
          rcases hat with hat | hat
          · rw [hat] at hv
            have := hc (k * 3 + 2) j _ _ q e2 hj hv hv'
            omega
          · rw [hat] at hv
            injection hv with hv
            omega
        · cases hi'
    · split at hj
      · rename_i ei ej
        split at hj
        · injection hj with hj
          subst hj
          exfalso
          have hql := blk hi' hv
          rcases hat with hat | hat
          · rw [hat] at hv'
            have := hc (k * 3 + 2) i _ _ q e2 hi' hv' hv
            omega
          · rw [hat] at hv'
            injection hv' with hv'
            omega
        · cases hj
      · exact hc i j v v' q hi' hj hv hv'

/- The type of rows is 42. -/
theorem OwnRows.drew1 {w : World} {lo hi n : Nat} {A : Option Addr} {c : Nat} {rs : List RowD} (h : OwnRows w lo hi A n c rs) : OwnRows (World.drew w) lo hi A n c rs := h.keep fun _ _ _ _ => rfl
theorem OwnC.drew1 {w : World} {lo hi : Nat} {e : TypeId} {sz : Nat} {A : Option Addr} {n c : Nat} {cs : List Value} (h : OwnC w lo hi e sz A n c cs) : OwnC (World.drew w) lo hi e sz A n c cs := h.keep fun _ _ _ _ => rfl
theorem joinRows_snoc {rs ss : List RowD} {i : Nat} {a b : RowD} (ha : rs[i]? = some a) (hb : ss[i]? = some b) : joinRows (rs.take (i + 1)) (ss.take (i + 1)) = joinRows (rs.take i) (ss.take i) ++ [joinRow a b] := by
  induction i generalizing rs ss with
  | zero =>
    cases rs with
    | nil => simp at ha
    | cons x rs =>
      cases ss with
      | nil => simp at hb
      | cons y ss =>
        simp at ha hb
        subst ha hb
        simp [joinRows]
  | succ i ih =>
    cases rs with
    | nil => simp at ha
    | cons x rs =>
      cases ss with
      | nil => simp at hb
      | cons y ss =>
        simp only [List.getElem?_cons_succ] at ha hb
        simp only [List.take_succ_cons, joinRows, List.cons_append]
        rw [ih ha hb]
def joinTo (rs ss : List RowD) (i : Nat) : List RowD := joinRows (rs.take i) (ss.take i) ++ rs.drop i
theorem joinTo_at {rs ss : List RowD} (hl : rs.length = ss.length) {i : Nat} {a b : RowD} (ha : rs[i]? = some a) (hb : ss[i]? = some b) : (joinTo rs ss i)[i]? = some a ∧ (joinTo rs ss i).set i (joinRow a b) = joinTo rs ss (i + 1) := by
  have hi := (List.getElem?_eq_some_iff.1 ha).1
  have hjl : (joinRows (rs.take i) (ss.take i)).length = i := by rw [joinRows_length _ _ (by simp [hl]), List.length_take]; omega
  refine ⟨?_, ?_⟩
  · unfold joinTo
    rw [List.getElem?_append_right (by omega), hjl, Nat.sub_self, List.getElem?_drop, Nat.add_zero]
    exact ha
  · unfold joinTo
    rw [List.set_append_right _ _ (by omega), hjl, Nat.sub_self, drop_cons ha, List.set_cons_zero, joinRows_snoc ha hb, List.append_assoc]
    rfl
theorem joinTo_length {rs ss : List RowD} (hl : rs.length = ss.length) {i : Nat} (hi : i ≤ rs.length) : (joinTo rs ss i).length = rs.length := by
  unfold joinTo
  rw [List.length_append, joinRows_length _ _ (by simp [hl]), List.length_take, List.length_drop]
  omega
theorem joinTo_end {rs ss : List RowD} (hl : rs.length = ss.length) : joinTo rs ss rs.length = joinRows rs ss := by
  unfold joinTo
  rw [take_all (Nat.le_refl _), take_all (by omega), drop_all (Nat.le_refl _), List.append_nil]
theorem sameHeads_drop {rs ss : List RowD} {i : Nat} {a b : RowD} (ha : rs[i]? = some a) (hb : ss[i]? = some b) : sameHeads (rs.drop i) (ss.drop i) = (sameHead a b && sameHeads (rs.drop (i + 1)) (ss.drop (i + 1))) := by
  rw [drop_cons ha, drop_cons hb, sameHeads]
theorem sameHead_d {a b : RowD} (h : a.d ≠ b.d) : sameHead a b = false := by simp [sameHead, h]
theorem sameHead_r {a b : RowD} (h : a.r ≠ b.r) : sameHead a b = false := by simp [sameHead, h]
theorem besCode_1 {n m : Int} {rs ss : List RowD} (h : chartB n rs = false ∨ chartB m ss = false) : besCode n rs m ss = 1 := by
  unfold besCode
  rw [if_neg (by rcases h with h | h <;> simp [h])]
theorem besCode_2 {n m : Int} {rs ss : List RowD} (h1 : chartB n rs = true) (h2 : chartB m ss = true) : besCode n rs m ss = if rs.length = ss.length then (if sameHeads rs ss then (if chartB (n + m) (joinRows rs ss) then 0 else 5) else 6) else 6 := by
  unfold besCode
  rw [if_pos (by simp [h1, h2])]

end Go.Proofs.YtnjgmhdmjaijgaaGreatDoor

/- Small numbers in decimal: the program's side and the given side. -/
namespace Go.Proofs.YtnjgmhdmjaijgaaGreatDoor
open Go Go.RowKit

/-- A number below a hundred in decimal. -/
def decL (n : Nat) : List UInt8 := if n < 10 then [UInt8.ofNat (48 + n)] else [UInt8.ofNat (48 + n / 10), UInt8.ofNat (48 + n % 10)]
def decT (n : Nat) : ByteArray := ⟨(decL n).toArray⟩
theorem cases17 {n : Nat} (h : n ≤ 16) : n = 0 ∨ n = 1 ∨ n = 2 ∨ n = 3 ∨ n = 4 ∨ n = 5 ∨ n = 6 ∨ n = 7 ∨ n = 8 ∨ n = 9 ∨ n = 10 ∨ n = 11 ∨ n = 12 ∨ n = 13 ∨ n = 14 ∨ n = 15 ∨ n = 16 := by omega
theorem decT_size (n : Nat) : 1 ≤ (decT n).size ∧ (decT n).size ≤ 2 := by
  show 1 ≤ (decL n).toArray.size ∧ (decL n).toArray.size ≤ 2
  unfold decL
  split <;> simp

set_option maxHeartbeats 2000000 in
set_option maxRecDepth 10000 in
theorem small_dec (n : Nat) (hn : n ≤ 16) (w : World) : Calls Tryz.prog 135 #[.int .i64 (n : Int)] w fun e w' => e = .returned (.string (decT n)) ∧ w = w' := by
  rcases cases17 hn with rfl | rfl | rfl | rfl | rfl | rfl | rfl | rfl | rfl | rfl | rfl | rfl | rfl | rfl | rfl | rfl | rfl
  all_goals
    go_enter Tryz.func135, Tryz.ntmps135
    go_wp2_with (fail)
    go_ret
    exact ⟨rfl, rfl⟩

theorem fmt_dec (n : Nat) (hn : n ≤ 16) (w : World) : Calls Tryz.prog 111 #[.int .i64 (n : Int), .int .i64 10] w fun e w' => e = .returned (.string (decT n)) ∧ w = w' := by
  have d1 : decide ((0 : Int) ≤ (n : Int)) = true := decide_eq_true (by omega)
  have d2 : decide ((n : Int) < 100) = true := decide_eq_true (by omega)
  go_enter Tryz.func111, Tryz.ntmps111
  go_wp2_with (fail)
  refine (small_dec n hn w).mono ?_; rintro e _ ⟨rfl, rfl⟩
  go_wp2_with (fail)
  go_ret
  exact ⟨rfl, rfl⟩
theorem impl_Decimal (n : Nat) (hn : n ≤ 16) (w : World) : Calls Tryz.prog 48 #[.int .i64 (n : Int)] w fun e w' => e = .returned (.string (decT n)) ∧ w = w' := by
  have key : ∀ W : World, Calls Tryz.prog 79 #[.int .i64 (n : Int), .int .i64 10] W fun e w' => e = .returned (.string (decT n)) ∧ W = w' := fun W => by
    go_enter Tryz.func79, Tryz.ntmps79
    go_wp2_with (fail)
    refine (fmt_dec n hn W).mono ?_; rintro e _ ⟨rfl, rfl⟩
    go_wp2_with (fail)
    go_ret
    exact ⟨rfl, rfl⟩
  have KEY := Lib.hid key; clear key
  go_enter Tryz.func48, Tryz.ntmps48
  go_wp2_with (fail)
  refine (KEY.out w).mono ?_; rintro e _ ⟨rfl, rfl⟩
  go_wp2_with (fail)
  go_ret
  exact ⟨rfl, rfl⟩

theorem info_u8 : (Tryz.prog.info? 5).map (fun i => (i.zero, i.size, i.bytes)) = some (some (.int .u8 0), 1, 1) := by kernel_rfl
set_option maxHeartbeats 2000000 in
set_option maxRecDepth 10000 in
theorem spec_l01Dec (n : Nat) (hn : 1 ≤ n ∧ n ≤ 16) (w : World) : Calls Tryz.prog 72 #[.int .i64 (n : Int)] w fun e w' => e = .returned (.string (decT n)) ∧ Below w.heap.size w w' := by
  obtain ⟨iB, hi0, hu0, hu1, hu2⟩ := info_parts info_u8
  go_enter Tryz.func72, Tryz.ntmps72
  go_wp2_with (fail)
  go_loopw [3, 4] (fun ov kv wr => ∃ (k : Nat) (A3 : Option Addr) (c3 : Nat) (l : List UInt8), kv = .int .i64 (k : Int) ∧ ov = .slice A3 l.length c3 ∧ OwnC wr w.heap.size wr.heap.size 5 1 A3 l.length c3 (l.map fun b => Value.int .u8 (b.toNat : Int)) ∧ Below w.heap.size w wr ∧ l.length ≤ 2 ∧ ((k = n ∧ l = []) ∨ (k = n / 10 ∧ l = [UInt8.ofNat (48 + n % 10)]) ∨ (k = 0 ∧ n / 10 ≠ 0 ∧ l = [UInt8.ofNat (48 + n / 10), UInt8.ofNat (48 + n % 10)]))) (fun _ kv _ => (intOf kv).toNat)
  case atStart =>
    refine ⟨n, some ⟨w.heap.size, 0, none⟩, 0, [], rfl, rfl, ?_, by (repeat (first | exact Below.refl _ _ | assumption | apply Below.drew | apply below_drewN | (refine Below.alloc ?_ (by first | omega | (simp; done) | (simp; omega)) _) | (refine Below.setCell ?_ (by first | omega | (simp; done) | (simp; omega)) _))), by simp, .inl ⟨rfl, rfl⟩⟩
    exact (OwnC.lit (w := w) (lo := w.heap.size) (n := 0) 5 1 #[] (Nat.le_refl _) (Nat.zero_le _) rfl).mono (Nat.le_refl _) (by simp)
  case round =>
    obtain ⟨k, A3, c3, l, rfl, rfl, o3, hb, hl2, hst⟩ := hrel
    have hzs := hb.size
    have hk16 : k ≤ 16 := by rcases hst with h | h | h <;> omega
    by_cases hk0 : k = 0
    · subst hk0
      have hl : l = decL n := by
        unfold decL
        rcases hst with ⟨h1, h2⟩ | ⟨h1, h2⟩ | ⟨_, h1, h2⟩
        · omega
        · have h10 : n < 10 := by omega
          rw [if_pos h10, h2, Nat.mod_eq_of_lt h10]
        · rw [if_neg (by omega), h2]
      have hl1 : 1 ≤ l.length := by rw [hl]; unfold decL; split <;> simp
      obtain ⟨g, rfl⟩ : ∃ g, A3 = some ⟨g, 0, none⟩ := by
        rcases o3.form with ⟨_, h2, _⟩ | ⟨g, _, h2, _⟩
        · omega
        · exact ⟨g, h2⟩
      have kc := run_convert_bytes_back (P := Tryz.prog) wr 30 9 5 ⟨g, 0, none⟩ c3 l Tryz.underlying30 Tryz.underlying5 Tryz.underlying9 (fun j hj => by
        obtain ⟨g', hg', _, _, hc, _⟩ := o3.cell (j := j) (by simpa using hj)
        injection hg' with hg'
        injection hg' with hg'
        subst hg'
        have e : (⟨g, 0, none⟩ : Addr).add j = ⟨g, j, none⟩ := by unfold Addr.add; split <;> simp_all
        rw [e, hc]
        simp)
      have hT : (⟨l.toArray⟩ : ByteArray) = decT n := by rw [hl]; rfl
      rw [hT] at kc
      have HKC := Lib.hid kc
      have hne : ((l.length : Int) == 0) = false := by simp; intro e; rw [e] at hl1; simp at hl1
      have hlz : decide ((n : Int) < 0) = false := decide_eq_false (by omega)
      clear hl hT hst
      go_wp2_with (fail)
      go_ret
      exact ⟨rfl, hb⟩
    · have hkb : ((k : Int) != 0) = true := by simp; omega
      have m1 : Int.tmod (k : Int) 10 = ((k % 10 : Nat) : Int) := by rw [Int.tmod_eq_emod_of_nonneg (by omega)]; omega
      have m2 : Int.tdiv (k : Int) 10 = ((k / 10 : Nat) : Int) := by rw [Int.tdiv_eq_ediv_of_nonneg (by omega)]; omega
      have hq : k % 10 < 10 := Nat.mod_lt _ (by decide)
      obtain ⟨b, hbb⟩ : ∃ b, b = UInt8.ofNat (48 + k % 10) := ⟨_, rfl⟩
      have hbn : b.toNat = 48 + k % 10 := by rw [hbb]; simp; omega
      have hst2 : ((k / 10 = n ∧ b :: l = []) ∨ (k / 10 = n / 10 ∧ b :: l = [UInt8.ofNat (48 + n % 10)]) ∨ (k / 10 = 0 ∧ n / 10 ≠ 0 ∧ b :: l = [UInt8.ofNat (48 + n / 10), UInt8.ofNat (48 + n % 10)])) := by
        rcases hst with ⟨h1, h2⟩ | ⟨h1, h2⟩ | ⟨h0, _⟩
        · exact .inr (.inl ⟨by rw [h1], by rw [hbb, h1, h2]⟩)
        · refine .inr (.inr ⟨by omega, by omega, ?_⟩)
          rw [hbb, h2, h1, Nat.mod_eq_of_lt (show n / 10 < 10 by omega)]
        · omega
      have hl1 : l.length ≤ 1 := by
        rcases hst with ⟨_, h2⟩ | ⟨_, h2⟩ | ⟨h0, _⟩
        · rw [h2]; simp
        · rw [h2]; simp
        · omega
      have HST := Lib.hid hst2; clear hst2 hst hbb
      have w1 : IntKind.i64.wrap (48 + ((k % 10 : Nat) : Int)) = (b.toNat : Int) := by rw [hbn]; rw [show (48 : Int) + ((k % 10 : Nat) : Int) = ((48 + k % 10 : Nat) : Int) by omega]; exact IntWalk.i64_in _ ⟨by omega, by omega⟩
      have w2 : IntKind.u8.wrap (b.toNat : Int) = (b.toNat : Int) := by
        rw [hbn]
        exact IntWalk.u8_in _ ⟨by omega, by omega⟩
      have dlt : decide (((k % 10 : Nat) : Int) < 0) = false := decide_eq_false (by omega)
      have HBN := Lib.hid hbn; clear hbn
      generalize hr : k % 10 = r at *
      clear hr
      have HDV : Hid (k / 10 < k) := Lib.hid (by omega)
      have w3 : wrap64 ((k / 10 : Nat) : Int) = ((k / 10 : Nat) : Int) := IntWalk.wrap64_in _ ⟨by omega, by omega⟩
      generalize k / 10 = q at *
      have W3 := Lib.hid w3; clear w3
      have olit := (OwnC.lit (w := wr) (lo := wr.heap.size) (n := 1) 5 1 #[.int .u8 (b.toNat : Int)] (Nat.le_refl _) (by decide) rfl)
      have HNW := Lib.hid (OwnC.news (OwnC.alloc o3 (.cells #[.int .u8 (b.toNat : Int)] 5)))
      have hz1 : wr.heap.size ≤ (wr.alloc (.cells #[.int .u8 (b.toNat : Int)] 5)).heap.size := by simp
      go_wp2_with (at_builtin; refine wpList_appendC (wr.alloc (.cells #[.int .u8 (b.toNat : Int)] 5)) rfl (.tmp 21) (.tmp 22) _ rfl 5 iB _ 1 1 Tryz.underlying30 hi0 hu0 hu1 hu2 rfl (by decide) rfl olit hz1 A3 l.length c3 _ rfl (by simp) HNW.out (by intro u hu; simp at hu; obtain ⟨x, _, rfl⟩ := hu; rfl) (by unfold maxLen; omega) (by omega) ?_; intro A9 c9 w8 ho8 hg8 hb8)
      have hz8 := hb8.size
      have hlen : 1 + l.length = (b :: l).length := by simp [Nat.add_comm]
      have hdv := HDV.out
      rw [W3.out]
      clear W3 HDV m1 m2 w1 w2
      refine ⟨⟨q, A9, c9, b :: l, rfl, by rw [hlen], ?_, ?_, by rw [← hlen]; omega, HST.out⟩, hdv⟩
      · have e : 1 + l.length = (b :: l).length := by simp [Nat.add_comm]
        rw [e] at ho8
        exact ho8.mono hzs (Nat.le_refl _)
      · exact (Below.alloc hb hzs (.cells #[.int .u8 (b.toNat : Int)] 5)).trans (hb8.mono (by omega))

end Go.Proofs.YtnjgmhdmjaijgaaGreatDoor

/- ReadStitches. -/
namespace Go.Proofs.YtnjgmhdmjaijgaaGreatDoor
open Go.RowKit

def symBytes : List UInt8 := [107, 112, 111, 100, 101, 116, 115, 120, 121, 88, 89]
def symB (k : Nat) : UInt8 := symBytes[k - 1]?.getD 0
def kindB (b : UInt8) : Int := if Lib.indexByte (32 :: symBytes) b < 0 then 0 else Lib.indexByte (32 :: symBytes) b
def kinds (s : ByteArray) : List Int := s.data.toList.map kindB
def readOk (s : ByteArray) : Bool := decide (s.size ≤ 16) && (kinds s).all isStitchB
def readP (s : ByteArray) : List Int := if readOk s then kinds s else []
theorem cases11 {k : Nat} (h1 : 1 ≤ k) (h2 : k ≤ 11) : k = 1 ∨ k = 2 ∨ k = 3 ∨ k = 4 ∨ k = 5 ∨ k = 6 ∨ k = 7 ∨ k = 8 ∨ k = 9 ∨ k = 10 ∨ k = 11 := by omega
theorem kindB_found {k : Nat} {b : UInt8} (h1 : 1 ≤ k) (h2 : k ≤ 11) (h : symB k = b) : kindB b = k := by
  subst h
  rcases cases11 h1 h2 with rfl | rfl | rfl | rfl | rfl | rfl | rfl | rfl | rfl | rfl | rfl <;> decide
theorem kindB_none {b : UInt8} (h : ∀ j, 1 ≤ j → j < 12 → symB j ≠ b) : kindB b = 0 := by
  have e : ∀ j, 1 ≤ j → j < 12 → (symB j == b) = false := fun j h1 h2 => by simpa using h j h1 h2
  have e1 : ((107 : UInt8) == b) = false := e 1 (by omega) (by omega)
  have e2 : ((112 : UInt8) == b) = false := e 2 (by omega) (by omega)
  have e3 : ((111 : UInt8) == b) = false := e 3 (by omega) (by omega)
  have e4 : ((100 : UInt8) == b) = false := e 4 (by omega) (by omega)
  have e5 : ((101 : UInt8) == b) = false := e 5 (by omega) (by omega)
  have e6 : ((116 : UInt8) == b) = false := e 6 (by omega) (by omega)
  have e7 : ((115 : UInt8) == b) = false := e 7 (by omega) (by omega)
  have e8 : ((120 : UInt8) == b) = false := e 8 (by omega) (by omega)
  have e9 : ((121 : UInt8) == b) = false := e 9 (by omega) (by omega)
  have e10 : ((88 : UInt8) == b) = false := e 10 (by omega) (by omega)
  have e11 : ((89 : UInt8) == b) = false := e 11 (by omega) (by omega)
  have hi : Lib.indexByte symBytes b = -1 := by
    unfold symBytes
    simp only [Lib.indexByte, e1, e2, e3, e4, e5, e6, e7, e8, e9, e10, e11, Bool.false_eq_true, if_false]
    rfl
  unfold kindB
  rw [Lib.indexByte, hi]
  split
  · rfl
  · split <;> simp_all
theorem kindB_range (b : UInt8) : 0 ≤ kindB b ∧ kindB b ≤ 11 := by
  by_cases h : ∀ j, 1 ≤ j → j < 12 → symB j ≠ b
  · rw [kindB_none h]; omega
  · have : ∃ j, 1 ≤ j ∧ j < 12 ∧ symB j = b := by
      apply Classical.byContradiction
      intro hn
      exact h fun j h1 h2 h3 => hn ⟨j, h1, h2, h3⟩
    obtain ⟨j, h1, h2, h3⟩ := this
    rw [kindB_found h1 (by omega) h3]
    omega
theorem kindB_stitch (b : UInt8) : isStitchB (kindB b) = !decide (kindB b = 0) := by
  have := kindB_range b
  unfold isStitchB inR
  apply Bool.eq_iff_iff.2
  simp
  omega
theorem kinds_length (s : ByteArray) : (kinds s).length = s.size := by simp [kinds]
theorem readP_length (s : ByteArray) : (readP s).length ≤ 16 := by
  unfold readP
  split
  · rename_i h
    unfold readOk at h
    simp only [Bool.and_eq_true, decide_eq_true_eq] at h
    rw [kinds_length]
    exact h.1
  · simp
theorem extract_one {s : ByteArray} {i : Nat} (h : i < s.size) : s.extract i (i + 1) = ⟨#[s.data[i]'h]⟩ := by
  obtain ⟨a⟩ := s
  have h' : i < a.size := h
  rw [show (ByteArray.mk a).extract i (i + 1) = ⟨a.extract i (i + 1)⟩ from by
    apply ByteArray.ext
    simp]
  congr 1
  apply Array.ext
  · simp; omega
  · intro j h1 h2
    simp at h2
    subst h2
    simp
theorem kinds_snoc {s : ByteArray} {i : Nat} (h : i < s.size) : (kinds s).take (i + 1) = (kinds s).take i ++ [kindB (s.data[i]'h)] := by
  apply take_snoc
  unfold kinds
  rw [List.getElem?_map]
  have : s.data.toList[i]? = some (s.data[i]'h) := by
    rw [Array.getElem?_toList]
    exact Array.getElem?_eq_getElem h
  rw [this]
  rfl

set_option maxHeartbeats 2000000 in
set_option maxRecDepth 10000 in
theorem spec_SymbolOf (k : Nat) (w : World) (h1 : 1 ≤ k) (h2 : k ≤ 11) : Calls Tryz.prog 70 #[.int .i64 k] w fun e w' => e = .returned (.string ⟨#[symB k]⟩) ∧ w = w' := by
  rcases cases11 h1 h2 with rfl | rfl | rfl | rfl | rfl | rfl | rfl | rfl | rfl | rfl | rfl
  all_goals
    go_enter Tryz.func70, Tryz.ntmps70
    go_wp2_with (first | (go_at_call 98; refine (spec_l14Kind _ _).mono ?_; rintro e _ ⟨rfl, rfl⟩) | go_in)
    go_ret
    exact ⟨rfl, rfl⟩

set_option maxHeartbeats 1000000 in
set_option maxRecDepth 10000 in
theorem spec_KindOf (b : UInt8) (w : World) : Calls Tryz.prog 43 #[.string ⟨#[b]⟩] w fun e w' => e = .returned (.int .i64 (kindB b)) ∧ w = w' := by
  go_enter Tryz.func43, Tryz.ntmps43
  go_wp2_with (fail)
  go_loop [3] (fun kv => ∃ k : Nat, 1 ≤ k ∧ k ≤ 12 ∧ kv = .int .i64 k ∧ Hid (∀ j, 1 ≤ j → j < k → symB j ≠ b)) (fun kv => 12 - (intOf kv).toNat)
  case atStart => exact ⟨1, by omega, by omega, rfl, Lib.hid (fun j h1 h2 => by omega)⟩
  case round =>
    obtain ⟨k, hk1, hk2, rfl, HA⟩ := hrel
    by_cases hlt : k ≤ 11
    · have h12 : ((k : Int) ≤ 11) := by omega
      by_cases hb : symB k = b
      · have HF : Hid (kindB b = k) := Lib.hid (kindB_found hk1 hlt hb)
        have hb1 : (symB k == b) = true := by simp [hb]
        clear hb
        go_wp2_with (fail)
        refine (spec_SymbolOf k _ hk1 hlt).mono ?_; rintro e _ ⟨rfl, rfl⟩
        go_wp2_with (fail)
        go_ret
        exact ⟨ret_int HF.out.symm, rfl⟩
      · have hb1 : (symB k == b) = false := by simpa using hb
        have HB := Lib.hid hb; clear hb
        go_wp2_with (fail)
        refine (spec_SymbolOf k _ hk1 hlt).mono ?_; rintro e _ ⟨rfl, rfl⟩
        go_wp2_with (fail)
        go_round
        case rel =>
          refine ⟨k + 1, by omega, by omega, by go_num, Lib.hid (fun j h1 h2 => ?_)⟩
          rcases Nat.lt_or_ge j k with h3 | h3
          · exact HA.out j h1 h3
          · obtain rfl : j = k := by omega
            exact HB.out
        case measure => simp [intOf]; omega
    · obtain rfl : k = 12 := by omega
      have HF : Hid (kindB b = 0) := Lib.hid (kindB_none HA.out)
      go_wp2_with (fail)
      go_ret
      exact ⟨ret_int HF.out.symm, rfl⟩

set_option maxHeartbeats 1000000 in
set_option maxRecDepth 100000 in
theorem stringslite_IndexByte (s : ByteArray) (c : Int) (w : World) :
    Calls Tryz.prog 126 #[.string s, .int .u8 c] w fun e w' => e = .returned (.int .i64 (Lib.indexByte s.data.toList c.toNat.toUInt8)) ∧ w' = w := by
  go_enter Tryz.func126, Tryz.ntmps126
  go_wp2
  rw [run_callFunc_extern Tryz.func139 (by kernel_rfl) (by kernel_rfl) (by kernel_rfl) (e := Extern.BytealgIndexByte.indexByte) (by kernel_rfl), Lib.run_indexByteString]
  simp only [Result.andThen]
  rw [Oper.upon_value]
  go_wp2
  go_ret
  exact ⟨rfl, rfl⟩
set_option maxHeartbeats 2000000 in
set_option maxRecDepth 100000 in
theorem stringslite_Index_one (s : ByteArray) (c : UInt8) (w : World) :
    Calls Tryz.prog 105 #[.string s, .string ⟨#[c]⟩] w fun e w' => e = .returned (.int .i64 (Lib.indexByte s.data.toList c)) ∧ w' = w := by
  go_enter Tryz.func105, Tryz.ntmps105
  go_wp2_with (go_at_call 126; refine (stringslite_IndexByte _ _ _).mono ?_; rintro e w' ⟨rfl, rfl⟩)
  · have h : ([c] == s.toList) = true := by assumption
    go_ret
    refine ⟨?_, rfl⟩
    have e : s.data.toList = [c] := by rw [← Lib.toList_data]; exact (beq_iff_eq.1 h).symm
    rw [e]
    simp [Lib.indexByte]
  · go_ret
    exact ⟨rfl, rfl⟩

set_option maxHeartbeats 1000000 in
set_option maxRecDepth 10000 in
theorem impl_KindOf (b : UInt8) (w : World) : Calls Tryz.prog 81 #[.string ⟨#[b]⟩] w fun e w' => e = .returned (.int .i64 (kindB b)) ∧ w = w' := by
  have hr := kindB_range b
  have hI := Lib.indexByte_ge (32 :: symBytes) b
  have hk : Hid (kindB b = if Lib.indexByte (32 :: symBytes) b < 0 then 0 else Lib.indexByte (32 :: symBytes) b) := Lib.hid rfl
  go_enter Tryz.func81, Tryz.ntmps81
  go_wp2_with (first | (go_at_call 105; refine (stringslite_Index_one _ _ _).mono ?_; rintro e w' ⟨rfl, rfl⟩) | go_in)
  go_ret
  refine ⟨?_, rfl⟩
  show Ending.returned (.int .i64 (max 0 (Lib.indexByte (32 :: symBytes) b))) = _
  exact ret_int (by rw [hk.out]; split <;> omega)

end Go.Proofs.YtnjgmhdmjaijgaaGreatDoor

/- ReadStitches: the two functions. -/
namespace Go.Proofs.YtnjgmhdmjaijgaaGreatDoor
open Go.RowKit

theorem kinds_at {s : ByteArray} {i : Nat} (h : i < s.size) : (kinds s)[i]? = some (kindB (s.data[i]'h)) := by
  unfold kinds
  rw [List.getElem?_map]
  have : s.data.toList[i]? = some (s.data[i]'h) := by
    rw [Array.getElem?_toList]
    exact Array.getElem?_eq_getElem h
  rw [this]
  rfl
theorem readOk_stitches {s : ByteArray} : readOk s = stitchesB (kinds s) := by
  unfold readOk stitchesB
  rw [kinds_length, Bool.and_comm]

set_option maxHeartbeats 1000000 in
set_option maxRecDepth 10000 in
theorem spec_ReadStitches (s : ByteArray) (w : World) (hl : s.size ≤ 9223372036854775807) :
    Calls Tryz.prog 21 #[.string s] w fun e w' => ∃ A' c', e = .returned (.tuple #[.slice A' (readP s).length c', .bool (readOk s)]) ∧ OwnI w' w.heap.size w'.heap.size A' c' (readP s) ∧ Below w.heap.size w w' := by
  obtain ⟨i0, hi0, hz0, hz1, hz2⟩ := info_parts info_int64
  by_cases h16 : s.size ≤ 16
  · go_enter Tryz.func21, Tryz.ntmps21
    go_wp2_with (fail)
    go_loopw [4, 5] (fun ov iv wr => ∃ (i : Nat) (A' : Option Addr) (c' : Nat) (out : List Int), i ≤ s.size ∧ iv = .int .i64 i ∧ ov = .slice A' out.length c' ∧ OwnI wr w.heap.size wr.heap.size A' c' out ∧ Below w.heap.size w wr ∧ Hid (out = (kinds s).take i) ∧ out.length ≤ 16 ∧ Hid (((kinds s).take i).all isStitchB = true)) (fun _ iv _ => s.size - (intOf iv).toNat)
    case atStart =>
      exact ⟨0, some ⟨w.heap.size, 0, none⟩, 0, [], Nat.zero_le _, rfl, rfl, (OwnC.lit _ 1 #[] (Nat.le_refl _) (Nat.zero_le _) rfl).mono (Nat.le_refl _) (by simp), by (repeat (first | exact Below.refl _ _ | assumption | apply Below.drew | apply below_drewN | (refine Below.alloc ?_ (by first | omega | (simp; done) | (simp; omega)) _) | (refine Below.setCell ?_ (by first | omega | (simp; done) | (simp; omega)) _))), Lib.hid (by simp), by simp, Lib.hid (by simp)⟩
    case round =>
      obtain ⟨i, A', c', out, hi, rfl, rfl, ho, hb, HO, hol, HS⟩ := hrel
      have hzs := hb.size
      by_cases hlt : i < s.size
      · have hcon : ∀ W, Calls Tryz.prog 43 #[.string (s.extract i (i + 1))] W fun e w' => e = .returned (.int .i64 (kindB (s.data[i]'hlt))) ∧ W = w' := fun W => by rw [extract_one hlt]; exact spec_KindOf _ _
        have HC := Lib.hid hcon; clear hcon
        have HK := Lib.hid (kinds_snoc hlt)
        have HA := Lib.hid (kinds_at hlt)
        have HB := Lib.hid (kindB_stitch (s.data[i]'hlt))
        generalize kindB (s.data[i]'hlt) = k at HC HK HA HB
        have hol2 : out.length + 1 ≤ 16 := by rw [HO.out, List.length_take]; omega
        by_cases hk0 : k = 0
        · have hk0' : (k == 0) = true := by simp [hk0]
          have HF : Hid (readOk s = false) := Lib.hid (by
            rw [readOk, all_false_at HA.out (by rw [HB.out, hk0]; rfl), Bool.and_false])
          clear hk0
          go_wp2_with (fail)
          refine (HC.out _).mono ?_; rintro e _ ⟨rfl, rfl⟩
          go_wp2_with (fail)
          go_ret2
          rw [show readP s = [] from by rw [readP, HF.out]; rfl, HF.out]
          exact ⟨_, _, rfl, OwnC.nil _ _ _ _ _, hb⟩
        · have hk0' : (k == 0) = false := by simpa using hk0
          have HB2 : Hid (isStitchB k = true) := Lib.hid (by rw [HB.out, decide_eq_false hk0]; rfl)
          clear hk0
          go_wp2_with (fail)
          refine (HC.out _).mono ?_; rintro e _ ⟨rfl, rfl⟩
          go_wp2_with (at_builtin; refine wpList_append1 wr [.int .i64 k] _ rfl (.tmp 25) (.tmp 27) _ rfl 2 i0 _ 1 8 Tryz.underlying34 hi0 hz0 hz1 hz2 rfl (by decide) rfl ho hzs 1 rfl rfl (by simp [Value.oneCell']) (by omega) (by decide) ?_; intro A2 c2 w2 ho2 hg2 hb2 hz2')
          go_roundw
          case rel =>
            refine ⟨i + 1, A2, c2, out ++ [k], by omega, by go_num, by simp, ?_, hb.trans hb2, Lib.hid (by rw [HK.out, HO.out]), by simp; omega, Lib.hid (by rw [HK.out, List.all_append, HS.out]; simp [HB2.out])⟩
            show OwnC _ _ _ _ _ _ _ _ _
            rw [List.map_append, List.length_append]
            exact ho2
          case measure => simp [intOf]; omega
      · have hall := HS.out
        rw [take_all (by rw [kinds_length]; omega)] at hall
        have hout := HO.out
        rw [take_all (by rw [kinds_length]; omega)] at hout
        have HF : Hid (readOk s = true ∧ readP s = out) := Lib.hid (by
          have e : readOk s = true := by rw [readOk, decide_eq_true h16, hall]; rfl
          exact ⟨e, by rw [readP, if_pos e, hout]⟩)
        clear hall hout
        go_wp2_with (fail)
        go_ret2
        rw [HF.out.1, HF.out.2]
        exact ⟨_, _, rfl, ho, hb⟩
  · have HF : Hid (readOk s = false) := Lib.hid (by rw [readOk, decide_eq_false h16, Bool.false_and])
    go_enter Tryz.func21, Tryz.ntmps21
    go_wp2_with (fail)
    go_ret2
    rw [show readP s = [] from by rw [readP, HF.out]; rfl, HF.out]
    exact ⟨_, _, rfl, OwnC.nil _ _ _ _ _, Below.refl _ _⟩

set_option maxHeartbeats 1000000 in
set_option maxRecDepth 10000 in
theorem impl_ReadStitches (s : ByteArray) (w : World) (hl : s.size ≤ 9223372036854775807) :
    Calls Tryz.prog 50 #[.string s] w fun e w' => ∃ A' c', e = .returned (.tuple #[.slice A' (readP s).length c', .bool (readOk s)]) ∧ OwnI w' w.heap.size w'.heap.size A' c' (readP s) ∧ Below w.heap.size w w' := by
  obtain ⟨i0, hi0, hz0, hz1, hz2⟩ := info_parts info_int64
  by_cases h16 : s.size ≤ 16
  · have HR : Hid (readOk s = stitchesB (kinds s)) := Lib.hid (readOk_stitches)
    go_enter Tryz.func50, Tryz.ntmps50
    go_wp2_with (fail)
    go_loopw [4, 12] (fun ov iv wr => ∃ (i : Nat) (A' : Option Addr) (c' : Nat) (out : List Int), i ≤ s.size ∧ iv = .int .i64 i ∧ ov = .slice A' out.length c' ∧ OwnI wr w.heap.size wr.heap.size A' c' out ∧ Below w.heap.size w wr ∧ Hid (out = (kinds s).take i) ∧ out.length ≤ 16) (fun _ iv _ => s.size - (intOf iv).toNat)
    case atStart =>
      exact ⟨0, some ⟨w.heap.size, 0, none⟩, 0, [], Nat.zero_le _, rfl, rfl, (OwnC.lit _ 1 #[] (Nat.le_refl _) (Nat.zero_le _) rfl).mono (Nat.le_refl _) (by simp), by (repeat (first | exact Below.refl _ _ | assumption | apply Below.drew | apply below_drewN | (refine Below.alloc ?_ (by first | omega | (simp; done) | (simp; omega)) _) | (refine Below.setCell ?_ (by first | omega | (simp; done) | (simp; omega)) _))), Lib.hid (by simp), by simp⟩
    case round =>
      obtain ⟨i, A', c', out, hi, rfl, rfl, ho, hb, HO, hol⟩ := hrel
      have hzs := hb.size
      by_cases hlt : i < s.size
      · have hcon : ∀ W, Calls Tryz.prog 81 #[.string (s.extract i (i + 1))] W fun e w' => e = .returned (.int .i64 (kindB (s.data[i]'hlt))) ∧ W = w' := fun W => by rw [extract_one hlt]; exact impl_KindOf _ _
        have HC := Lib.hid hcon; clear hcon
        have HK := Lib.hid (kinds_snoc hlt)
        generalize kindB (s.data[i]'hlt) = k at HC HK
        have hol2 : out.length + 1 ≤ 16 := by rw [HO.out, List.length_take]; omega
        go_wp2_with (fail)
        refine (HC.out _).mono ?_; rintro e _ ⟨rfl, rfl⟩
        go_wp2_with (at_builtin; refine wpList_append1 wr [.int .i64 k] _ rfl (.tmp 15) (.tmp 22) _ rfl 2 i0 _ 1 8 Tryz.underlying34 hi0 hz0 hz1 hz2 rfl (by decide) rfl ho hzs 1 rfl rfl (by simp [Value.oneCell']) (by omega) (by decide) ?_; intro A2 c2 w2 ho2 hg2 hb2 hz2')
        go_roundw
        case rel =>
          refine ⟨i + 1, A2, c2, out ++ [k], by omega, by go_num, by simp, ?_, hb.trans hb2, Lib.hid (by rw [HK.out, HO.out]), by simp; omega⟩
          show OwnC _ _ _ _ _ _ _ _ _
          rw [List.map_append, List.length_append]
          exact ho2
        case measure => simp [intOf]; omega
      · have hout := HO.out
        rw [take_all (by rw [kinds_length]; omega)] at hout
        rw [← hout] at HR
        have HOUT := Lib.hid hout; clear hout
        have HAR := Lib.hid (impl_areStitches A' c' out wr ho.ints (by omega))
        cases hst : stitchesB out
        · rw [hst] at HAR HR
          have HF : Hid (readOk s = false ∧ readP s = []) := Lib.hid ⟨HR.out, by rw [readP, HR.out]; rfl⟩
          go_wp2_with (fail)
          refine HAR.out.mono ?_; rintro e _ ⟨rfl, rfl⟩
          go_wp2_with (fail)
          go_ret2
          rw [HF.out.1, HF.out.2]
          exact ⟨_, _, rfl, OwnC.nil _ _ _ _ _, hb⟩
        · rw [hst] at HAR HR
          have HF : Hid (readOk s = true ∧ readP s = out) := Lib.hid ⟨HR.out, by rw [readP, if_pos HR.out, HOUT.out]⟩
          go_wp2_with (fail)
          refine HAR.out.mono ?_; rintro e _ ⟨rfl, rfl⟩
          go_wp2_with (fail)
          go_ret2
          rw [HF.out.1, HF.out.2]
          exact ⟨_, _, rfl, ho, hb⟩
  · have HF : Hid (readOk s = false) := Lib.hid (by rw [readOk, decide_eq_false h16, Bool.false_and])
    go_enter Tryz.func50, Tryz.ntmps50
    go_wp2_with (fail)
    go_ret2
    rw [show readP s = [] from by rw [readP, HF.out]; rfl, HF.out]
    exact ⟨_, _, rfl, OwnC.nil _ _ _ _ _, Below.refl _ _⟩

end Go.Proofs.YtnjgmhdmjaijgaaGreatDoor

/- Charts: MirrorStitch, MirrorChart. -/
namespace Go.Proofs.YtnjgmhdmjaijgaaGreatDoor
open Go.RowKit

theorem mirK_bad {k : Int} (h : isStitchB k = false) : mirK k = 0 := by
  have h1 : k ≠ 4 := by rintro rfl; exact absurd h (by decide)
  have h2 : k ≠ 5 := by rintro rfl; exact absurd h (by decide)
  have h3 : k ≠ 8 := by rintro rfl; exact absurd h (by decide)
  have h4 : k ≠ 9 := by rintro rfl; exact absurd h (by decide)
  have h5 : k ≠ 10 := by rintro rfl; exact absurd h (by decide)
  have h6 : k ≠ 11 := by rintro rfl; exact absurd h (by decide)
  rw [mirK, if_neg h1, if_neg h2, if_neg h3, if_neg h4, if_neg h5, if_neg h6, if_neg (by rw [h]; decide)]


end Go.Proofs.YtnjgmhdmjaijgaaGreatDoor

/- Texts of stitches, the program's side. -/
namespace Go.Proofs.YtnjgmhdmjaijgaaGreatDoor
open Go Go.RowKit

/-- The text of some stitches. -/
def symT (ks : List Int) : ByteArray := ⟨(ks.map fun k => symB k.toNat).toArray⟩
theorem symT_size (ks : List Int) : (symT ks).size = ks.length := by
  show (ks.map fun k => symB k.toNat).toArray.size = _
  simp
theorem symT_snoc (ks : List Int) (k : Int) : symT (ks ++ [k]) = symT ks ++ ⟨#[symB k.toNat]⟩ := by
  apply ByteArray.ext
  simp [symT]
theorem kinds_symT {ks : List Int} (h : ∀ k ∈ ks, isStitchB k = true) : kinds (symT ks) = ks := by
  unfold kinds symT
  simp only [List.map_map]
  conv => rhs; rw [← List.map_id ks]
  refine List.map_congr_left fun k hk => ?_
  have := inR_iff.1 (h k hk)
  show kindB (symB k.toNat) = k
  rw [kindB_found (k := k.toNat) (by omega) (by omega) rfl]
  omega
theorem read_symT {ks : List Int} (h : stitchesB ks = true) : readOk (symT ks) = true ∧ readP (symT ks) = ks := by
  obtain ⟨h1, h2⟩ := stitchesB_of h
  have e : readOk (symT ks) = true := by
    rw [readOk_stitches, kinds_symT h2, h]
  exact ⟨e, by rw [readP, if_pos e, kinds_symT h2]⟩

set_option maxHeartbeats 2000000 in
theorem impl_SymbolOf (k : Int) (w : World) (hk : isStitchB k = true) : Calls Tryz.prog 82 #[.int .i64 k] w fun e w' => e = .returned (.string ⟨#[symB k.toNat]⟩) ∧ w = w' := by
  rcases stitch_cases hk with rfl | rfl | rfl | rfl | rfl | rfl | rfl | rfl | rfl | rfl | rfl
  all_goals
    go_enter Tryz.func82, Tryz.ntmps82
    go_wp2_with (go_at_call 66; refine (impl_isStitch _ _).mono ?_; rintro e _ ⟨rfl, rfl⟩)
    go_ret
    exact ⟨rfl, rfl⟩

set_option maxHeartbeats 1000000 in
theorem impl_stitchesText (ks : List Int) (A : Option Addr) (c : Nat) (w : World) (h : Ints w A ks) (hl : ks.length ≤ 16) (hs : ∀ k ∈ ks, isStitchB k = true) :
    Calls Tryz.prog 52 #[.slice A ks.length c] w fun e w' => e = .returned (.string (symT ks)) ∧ w = w' := by
  have HS := Lib.hid hs; clear hs
  go_enter Tryz.func52, Tryz.ntmps52
  go_wp2_with (fail)
  go_loop [3, 8] (fun tv iv => ∃ i : Nat, i ≤ ks.length ∧ iv = .int .i64 i ∧ tv = .string (symT (ks.take i))) (fun _ iv => ks.length - (intOf iv).toNat)
  case atStart => exact ⟨0, Nat.zero_le _, rfl, rfl⟩
  case round =>
    obtain ⟨i, hi, rfl, rfl⟩ := hrel
    by_cases hil : i < ks.length
    · obtain ⟨b, off, k, rfl, hc, hx⟩ := h i hil
      have hst := HS.out k (List.mem_of_getElem? hx)
      have HX : Hid (symT (ks.take (i + 1)) = symT (ks.take i) ++ ⟨#[symB k.toNat]⟩) := Lib.hid (by rw [take_snoc hx, symT_snoc])
      have hsz : (symT (ks.take i)).size ≤ 16 := by rw [symT_size, List.length_take]; omega
      clear hx
      go_wp2_with (go_at_call 82; refine (impl_SymbolOf k _ hst).mono ?_; rintro e _ ⟨rfl, rfl⟩)
      exact ⟨⟨i + 1, by omega, by go_num, by rw [HX.out]⟩, by simp [intOf]; omega⟩
    · go_wp2_with (fail)
      go_ret
      rw [take_all (by omega)]
      exact ⟨rfl, rfl⟩

end Go.Proofs.YtnjgmhdmjaijgaaGreatDoor

/- A region whose last ready operation is a store. -/
namespace Go.Proofs.YtnjgmhdmjaijgaaGreatDoor
open Go Go.RowKit

def lastQ (S : World → Prop) (Q : Exit → Act → World → Prop) : Exit → Act → World → Prop
  | .normal, a, w => S w ∧ Q .normal a w
  | e, a, w => Q e a w
theorem lastQ_mk {S : World → Prop} {Q : Exit → Act → World → Prop} {a : Act} {w : World} (hS : S w) (hQ : Q .normal a w) : lastQ S Q .normal a w := ⟨hS, hQ⟩
theorem wpAnyH_end {P : Program} {md : Region.Mode} {ops : Array Oper} {Q : Exit → Act → World → Prop} {S : World → Prop} {fuel : Nat} {listed : Array Bool} {a : Act} {w : World} {i : Nat} {o : Oper}
    (hr : Region.ready md ops listed = [i]) (ho : ops[i]? = some o) (hg : o.guard = none) (hall : Region.ready md ops (listed.setIfInBounds i true) = []) (h : wpList P #[] (lastQ S Q) [o] a w) : wpAnyH P md ops Q S (fuel + 1) listed a w :=
  wpAnyH_ready hr (by simp) (fun j hj => by
    obtain rfl := List.mem_singleton.1 hj
    unfold wpOp
    rw [ho]
    have hw : Region.wanted o (yielded ops a.tmps) = true := by simp [Region.wanted, hg]
    have hw0 : Region.wanted o (yielded #[] a.tmps) = true := by simp [Region.wanted, hg]
    simp only [hw, if_true]
    unfold wpList at h
    simp only [hw0, if_true] at h
    rcases h with h | ⟨h1, h2⟩
    · exact .inl (Oper.wp_le (fun a w hq => ⟨hq.1, wpAnyH_done hall hq.2 _⟩) (fun _ _ _ h => h) (fun ⟨a, w, h⟩ => ⟨a, w, h⟩) h)
    · exact .inr ⟨h1, h2.imp fun a h => h.imp fun w h => h⟩)

end Go.Proofs.YtnjgmhdmjaijgaaGreatDoor

/- Texts of charts. -/
namespace Go.Proofs.YtnjgmhdmjaijgaaGreatDoor
open Go Go.RowKit

theorem ba_assoc (a b c : ByteArray) : (a ++ b) ++ c = a ++ (b ++ c) := by
  apply ByteArray.ext
  simp [Array.append_assoc]
def spT : ByteArray := ⟨#[32]⟩
def nlT' : ByteArray := ⟨#[10]⟩
def dirT (d : Int) : ByteArray := if d = 1 then ⟨#[62]⟩ else ⟨#[60]⟩
def lineT (r : RowD) : ByteArray := ((((dirT r.d ++ spT) ++ decT r.r.toNat) ++ spT) ++ symT r.s) ++ nlT'
def headT (n : Int) : ByteArray := ((⟨#[99, 104, 97, 114, 116, 32]⟩ : ByteArray) ++ decT n.toNat) ++ nlT'
def chTo (n : Int) (rs : List RowD) : ByteArray := rs.foldl (fun t r => t ++ lineT r) (headT n)
def chText (n : Int) (rs : List RowD) : ByteArray := if chartB n rs then chTo n rs else ⟨#[]⟩
theorem chTo_snoc {n : Int} {rs : List RowD} {k : Nat} {r : RowD} (h : rs[k]? = some r) : chTo n (rs.take (k + 1)) = chTo n (rs.take k) ++ lineT r := by
  rw [take_snoc h]; simp [chTo]
theorem dirT_size (d : Int) : (dirT d).size = 1 := by unfold dirT; split <;> rfl
theorem lineT_size (r : RowD) : (lineT r).size ≤ 6 + r.s.length := by
  have h1 := dirT_size r.d
  have h2 := decT_size r.r.toNat
  have h3 := symT_size r.s
  have h4 : spT.size = 1 := rfl
  have h5 : nlT'.size = 1 := rfl
  unfold lineT
  simp only [ByteArray.size_append]
  omega
theorem chTo_size {n : Int} {rs : List RowD} (h : ∀ r ∈ rs, r.s.length ≤ 16) : (chTo n rs).size ≤ 9 + 22 * rs.length := by
  have key : ∀ (t : ByteArray) (ys : List RowD), (∀ r ∈ ys, r.s.length ≤ 16) → (ys.foldl (fun t r => t ++ lineT r) t).size ≤ t.size + 22 * ys.length := by
    intro t ys
    induction ys generalizing t with
    | nil => intro _; simp
    | cons y ys ih =>
      intro hy
      have h1 := ih (t ++ lineT y) (fun r hr => hy r (by simp [hr]))
      have h2 := lineT_size y
      have h3 := hy y (by simp)
      rw [ByteArray.size_append] at h1
      rw [List.foldl_cons, List.length_cons]
      omega
  have h1 := key (headT n) rs h
  have h2 := decT_size n.toNat
  have h3 : (headT n).size = 6 + (decT n.toNat).size + 1 := by
    unfold headT
    simp only [ByteArray.size_append]
    rfl
  unfold chTo
  omega

theorem impl_directionText (d : Int) (w : World) : Calls Tryz.prog 51 #[.int .i64 d] w fun e w' => e = .returned (.string (dirT d)) ∧ w = w' := by
  by_cases h : d = 1
  · subst h
    go_enter Tryz.func51, Tryz.ntmps51
    go_wp2_with (fail)
    go_ret
    exact ⟨rfl, rfl⟩
  · have hb : (d == 1) = false := by simpa using h
    have HF : Hid (dirT d = ⟨#[60]⟩) := Lib.hid (by rw [dirT, if_neg h])
    clear h
    go_enter Tryz.func51, Tryz.ntmps51
    go_wp2_with (fail)
    go_ret
    exact ⟨by rw [HF.out]; rfl, rfl⟩
set_option maxHeartbeats 4000000 in
set_option maxRecDepth 10000 in
theorem impl_chartText (n : Int) (rs : List RowD) (A : Option Addr) (c : Nat) (w : World) (h : RowsR w A rs) (hch : chartB n rs = true) :
    Calls Tryz.prog 27 #[.agg #[.int .i64 n, .slice A rs.length c]] w fun e w' => e = .returned (.string (chTo n rs)) ∧ Below w.heap.size w w' := by
  obtain ⟨⟨n1, n8⟩, ⟨r1, r8⟩, hrow⟩ := chartB_of hch
  obtain ⟨m, rfl⟩ := Int.eq_ofNat_of_zero_le (show (0 : Int) ≤ n by omega)
  have HR := Lib.hid hrow; clear hrow hch
  have hb1 : Below w.heap.size w (w.alloc (.cells #[.int .i64 (m : Int), .slice A rs.length c] 24)) := by (repeat (first | exact Below.refl _ _ | assumption | apply Below.drew | apply below_drewN | (refine Below.alloc ?_ (by first | omega | (simp; done) | (simp; omega)) _) | (refine Below.setCell ?_ (by first | omega | (simp; done) | (simp; omega)) _)))
  obtain ⟨w1, hw1⟩ : ∃ w1, w1 = w.alloc (.cells #[.int .i64 (m : Int), .slice A rs.length c] 24) := ⟨_, rfl⟩
  have k1 : Blk w1 w.heap.size 24 #[.int .i64 (m : Int), .slice A rs.length c] := by rw [hw1]; exact Blk.new _ _ _
  have r1' : RowsR w1 A rs := by rw [hw1]; exact h.below hb1
  have B1 : Below w.heap.size w w1 := by rw [hw1]; exact hb1
  have hH : headT m = ((⟨#[99, 104, 97, 114, 116, 32]⟩ : ByteArray) ++ decT m) ++ ⟨#[10]⟩ := rfl
  have HH := Lib.hid hH; clear hH
  have hd2 := decT_size m
  go_enter Tryz.func27, Tryz.ntmps27
  go_upto_region 1 with fail
  rw [← hw1]
  clear hw1 hb1
  have q1 := k1.c2
  go_wp2_with (fail)
  refine (impl_Decimal m (by omega) _).mono ?_; rintro e _ ⟨rfl, rfl⟩
  generalize decT m = dm at *
  go_wp2_with (fail)
  go_loopw [3, 14] (fun tv iv wr => ∃ i : Nat, i ≤ rs.length ∧ iv = .int .i64 i ∧ tv = .string (chTo m (rs.take i)) ∧ Below w.heap.size w wr ∧ Below w1.heap.size w1 wr) (fun _ iv _ => rs.length - (intOf iv).toNat)
  case atStart => exact ⟨0, Nat.zero_le _, rfl, by rw [List.take_zero, chTo, List.foldl_nil, HH.out], B1, Below.refl _ _⟩
  case round =>
    obtain ⟨i, hi, rfl, rfl, hb, hb1⟩ := hrel
    by_cases hil : i < rs.length
    · obtain ⟨b, off, A7, c7, r, rfl, hx, hc0, hc1, hc2, hir, hrl⟩ := (r1'.below hb1) i hil
      have hrr := HR.out r (List.mem_of_getElem? hx)
      obtain ⟨hd, hcr, hsr, hs16⟩ := rowB_of hrr
      have HS := Lib.hid (chTo_snoc (n := (m : Int)) hx)
      have hsz : (chTo m (rs.take i)).size ≤ 300 := by
        have h1 := chTo_size (n := (m : Int)) (rs := rs.take i) (fun r hr => (rowB_of (HR.out r (List.mem_of_mem_take hr))).2.2.2)
        rw [List.length_take] at h1
        omega
      clear hx hrr
      obtain ⟨d, cr, ss⟩ := r
      obtain ⟨q, rfl⟩ : ∃ q : Nat, cr = (q : Int) := ⟨cr.toNat, by have : 1 ≤ cr ∧ cr ≤ 4 := hcr; omega⟩
      have hq4 : q ≤ 4 := by have : 1 ≤ (q : Int) ∧ (q : Int) ≤ 4 := hcr; omega
      have hLL : lineT ⟨d, q, ss⟩ = ((((dirT d ++ ⟨#[32]⟩) ++ decT q) ++ ⟨#[32]⟩) ++ symT ss) ++ ⟨#[10]⟩ := rfl
      rw [hLL] at HS
      clear hLL
      have hz1 := dirT_size d
      have hz2 := decT_size q
      have hz3 := symT_size ss
      have hsk := (stitchesB_of hsr).2
      have HSK := Lib.hid hsk; clear hsk
      have hl16 : ss.length ≤ 16 := hs16
      generalize chTo m (rs.take i) = t0 at *
      obtain ⟨w3, hw3⟩ : ∃ w3, w3 = wr.alloc (.cells #[.int .i64 d, .int .i64 (q : Int), .slice A7 ss.length c7] 42) := ⟨_, rfl⟩
      have b3 : Below wr.heap.size wr w3 := by rw [hw3]; (repeat (first | exact Below.refl _ _ | assumption | apply Below.drew | apply below_drewN | (refine Below.alloc ?_ (by first | omega | (simp; done) | (simp; omega)) _) | (refine Below.setCell ?_ (by first | omega | (simp; done) | (simp; omega)) _)))
      obtain ⟨g3, hg3⟩ : ∃ g3, g3 = wr.heap.size := ⟨_, rfl⟩
      have k3 : Blk w3 g3 42 #[.int .i64 d, .int .i64 (q : Int), .slice A7 ss.length c7] := by rw [hw3, hg3]; exact Blk.new _ _ _
      have hb3 : Below w.heap.size w w3 := hb.trans (b3.mono hb.size)
      have hb13 : Below w1.heap.size w1 w3 := hb1.trans (b3.mono hb1.size)
      have hi3 : Ints w3 A7 ss := hir.below b3
      have hcb0 : wr.cell? ⟨b, off + i * 3, none⟩ = some (.int .i64 d) := hc0
      have hcb1 : wr.cell? ⟨b, off + i * 3 + 1, none⟩ = some (.int .i64 (q : Int)) := hc1
      have hcb2 : wr.cell? ⟨b, off + i * 3 + 2, none⟩ = some (.slice A7 ss.length c7) := hc2
      clear hc0 hc1 hc2
      go_upto_region 5 with fail
      rw [← hw3, ← hg3]
      clear hw3 hg3 hcb0 hcb1 hcb2 b3 hir hb hb1
      have q3 := k3.c3
      have c1 : ∀ W, Calls Tryz.prog 51 #[.int .i64 d] W fun e w' => e = .returned (.string (dirT d)) ∧ W = w' := fun W => impl_directionText d W
      have c2 : ∀ W, Calls Tryz.prog 48 #[.int .i64 (q : Int)] W fun e w' => e = .returned (.string (decT q)) ∧ W = w' := fun W => impl_Decimal q (by omega) W
      have c3 : ∀ k, Calls Tryz.prog 52 #[.slice A7 ss.length c7] (w3.drewN k) fun e w' => e = .returned (.string (symT ss)) ∧ w3.drewN k = w' := fun k => impl_stitchesText ss A7 c7 _ (hi3.drewN k) hl16 HSK.out
      have C1 := Lib.hid c1; clear c1
      have C2 := Lib.hid c2; clear c2
      have C3 := Lib.hid c3; clear c3
      generalize dirT d = dt at *
      generalize decT q = dq at *
      generalize symT ss = st at *
      go_quiet ((first | (go_at_call 51; exact quietS (C1.out _)) | (go_at_call 48; exact quietS (C2.out _)) | (go_at_call 52; exact quietS (C3.out _))))
      clear C1 C2 C3
      go_wp2_with (fail)
      exact ⟨⟨i + 1, by omega, by go_num, by rw [HS.out], below_drewN hb3 _, below_drewN hb13 _⟩, by simp [intOf]; omega⟩
    · go_wp2_with (fail)
      go_ret
      rw [take_all (by omega)]
      exact ⟨rfl, hb⟩

theorem impl_ChartText (n : Int) (rs : List RowD) (A : Option Addr) (c : Nat) (w : World) (h : RowsR w A rs) (hl : rs.length ≤ 9223372036854775807) :
    Calls Tryz.prog 12 #[.agg #[.int .i64 n, .slice A rs.length c]] w fun e w' => e = .returned (.string (chText n rs)) ∧ Below w.heap.size w w' := by
  have hb1 : Below w.heap.size w (w.alloc (.cells #[.int .i64 n, .slice A rs.length c] 24)) := by (repeat (first | exact Below.refl _ _ | assumption | apply Below.drew | apply below_drewN | (refine Below.alloc ?_ (by first | omega | (simp; done) | (simp; omega)) _) | (refine Below.setCell ?_ (by first | omega | (simp; done) | (simp; omega)) _)))
  have kb := Blk.new w 24 #[.int .i64 n, .slice A rs.length c]
  cases hv : chartB n rs
  · have HF : Hid (chText n rs = ⟨#[]⟩) := Lib.hid (by rw [chText, hv]; rfl)
    go_enter Tryz.func12, Tryz.ntmps12
    go_wp2_with (fail)
    refine (impl_ValidChart n rs A c _ (h.below hb1) hl).mono ?_; rintro e w2 ⟨rfl, b2⟩
    rw [hv]
    go_wp2_with (fail)
    go_ret
    exact ⟨by rw [HF.out]; rfl, hb1.trans (b2.mono (by simp))⟩
  · have HF : Hid (chText n rs = chTo n rs) := Lib.hid (by rw [chText, hv]; rfl)
    go_enter Tryz.func12, Tryz.ntmps12
    go_wp2_with (fail)
    refine (impl_ValidChart n rs A c _ (h.below hb1) hl).mono ?_; rintro e w2 ⟨rfl, b2⟩
    rw [hv]
    have HV := Lib.hid hv; clear hv
    have hb2 := hb1.trans (b2.mono (by simp))
    have k2 := kb.below b2 (by simp)
    have q2 := k2.c2
    go_wp2_with (fail)
    refine (impl_chartText n rs A c _ (h.below hb2) HV.out).mono ?_; rintro e w3 ⟨rfl, b3⟩
    go_wp2_with (fail)
    go_ret
    exact ⟨by rw [HF.out]; rfl, hb2.trans (b3.mono hb2.size)⟩

end Go.Proofs.YtnjgmhdmjaijgaaGreatDoor
