/- Steps of the proof, joined from several texts: Ap PK CC SC SM RL RK PKs RP. -/
import Derived.Test.YthjamohaeahipaaGreatZ1
import Derived.Maps.AppendAt
import Derived.OwnWalk
import Derived.Test.YthjamohaeahipaaGreatZ2
import Derived.BigGuard
import Derived.BigCall
import Derived.BigQuiet
import Derived.Deep.RegionLaw
import Derived.Laws.CopyOwn

/- append to a slice of the call's own. -/
namespace Go.Proofs.YthjamohaeahipaaGreat
open Go.RowKit

theorem OwnC.of_own' {w : World} {lo : Nat} {e : TypeId} {sz n : Nat} {v : Value} {cs : List Value} (h : w.ownsRow lo e sz v n cs) : ∃ A c, v = .slice A n c ∧ OwnC w lo w.heap.size e sz A n c cs := by
  rcases h.2 with ⟨rfl, rfl⟩ | ⟨g, cap, cur, rfl, _⟩
  · exact ⟨none, 0, rfl, OwnC.of_own h (Nat.le_refl _)⟩
  · exact ⟨some ⟨g, 0, none⟩, cap, rfl, OwnC.of_own h (Nat.le_refl _)⟩
theorem grown_below {w w' : World} {lo hi : Nat} {e : TypeId} {sz n c : Nat} {A : Option Addr} {cs : List Value} (h : OwnC w lo hi e sz A n c cs) (hlo : lo ≤ w.heap.size) (hg : w.grownBy w' (Value.slice A n c).ownBlock) : Below lo w w' :=
  (Below.refl lo w).grown hg hlo fun k hk => (h.own.lt k hk).1

/-- append of some cells that stand in memory. -/
theorem wp_appendC {P : Program} (w : World) {o : Oper} {a : Act} {K : Act → World → Prop} {Q : Exit → Act → World → Prop} (s x : Operand) (t : TypeId)
    (hop : o.op = .call { callee := .builtin .append, args := #[s, x], argTypes := #[t, t] })
    (e : TypeId) (i : TypeInfo) (z : Value) (size bytes : Nat) (ht : P.underlying t = some (.slice e)) (hi : P.info? e = some i) (hz : i.zero = some z)
    (hsize : i.size = size) (hby : i.bytes = bytes) (hzs : z.cells.size = size) (hsz : 0 < size)
    {lo hi' n c : Nat} {A : Option Addr} {cs : List Value} (hs : a.eval s = .slice A n c) (hown : OwnC w lo hi' e size A n c cs) (hlo : lo ≤ w.heap.size)
    (A2 : Option Addr) (m c2 : Nat) (news : List Value) (hx : a.eval x = .slice A2 m c2) (hl : news.length = m * size)
    (hnews : ∀ j u, news[j]? = some u → ∃ b off, A2 = some ⟨b, off, none⟩ ∧ w.cell? ⟨b, off + j, none⟩ = some u) (h1 : ∀ u ∈ news, u.oneCell' = true)
    (h63 : n + m ≤ maxLen) (hbytes : (n + m) * bytes ≤ 140737488355328)
    (h : ∀ A' c' w', OwnC w' lo w'.heap.size e size A' (n + m) c' (cs ++ news) → w.grownBy w' (Value.slice A n c).ownBlock → Below lo w w' → K (a.put o.dst (.slice A' (n + m) c')) w') : o.wp P a w K Q := by
  cases A2 with
  | none =>
    have hn : news = [] := by
      cases news with
      | nil => rfl
      | cons u r => obtain ⟨_, _, h, _⟩ := hnews 0 u rfl; cases h
    subst hn
    have hm : m = 0 := by
      rcases Nat.eq_zero_or_pos m with h | h
      · exact h
      · have := Nat.mul_pos h hsz
        rw [← hl] at this
        simp at this
    subst hm
    have hr : (Builtin.append_ #[t, t] o.type #[.slice A n c, .slice none 0 c2]).run P w = .ok (.slice A n c) w := by
      rcases hown.form with ⟨rfl, rfl, rfl, _⟩ | ⟨g, cur, rfl, _, _, _, hnc, _⟩
      · simp [Builtin.append_, run_underlying ht, sizeOf, typeInfo, hi, Builtin.lenOf, Builtin.firstCells]
      · simp [Builtin.append_, run_underlying ht, sizeOf, typeInfo, hi, Builtin.lenOf, Builtin.firstCells, hnc, storeCells]
    unfold Oper.wp execOp
    simp only [hop, resolve, invoke, builtin, Sem.run_bind, Sem.run_pure, Result.andThen_ok, List.map_toArray, List.map_cons, List.map_nil, hs, hx, hr]
    have := h A c w (by simpa using (OwnC.of_own hown.own (Nat.le_refl _))) (World.grownBy.refl w _) (Below.refl _ _)
    have h2 : K (a.put o.dst (.slice A n c)) w := by simpa using this
    exact h2
  | some ad =>
    refine wp_append_own w s x t hop lo e i z size bytes ht hi hz hsize hby hzs hsz (.slice A n c) n cs hs hown.own ad m c2 news hx hl ?_ h1 h63 hbytes hlo fun v' w' h2 h3 _ => ?_
    · intro j u hu
      obtain ⟨b, off, he, hc⟩ := hnews j u hu
      injection he with he
      subst he
      unfold Addr.add
      split
      · subst_vars; simpa using hc
      · exact hc
    · obtain ⟨A', c', rfl, h4⟩ := OwnC.of_own' h2
      exact h A' c' w' h4 h3 (grown_below hown hlo h3)

theorem wpList_appendC {P : Program} (w : World) {ops : Array Oper} {rest : List Oper} {o : Oper} {a : Act} {Q : Exit → Act → World → Prop} (hgd : o.guard = none) (s x : Operand) (t : TypeId)
    (hop : o.op = .call { callee := .builtin .append, args := #[s, x], argTypes := #[t, t] })
    (e : TypeId) (i : TypeInfo) (z : Value) (size bytes : Nat) (ht : P.underlying t = some (.slice e)) (hi : P.info? e = some i) (hz : i.zero = some z)
    (hsize : i.size = size) (hby : i.bytes = bytes) (hzs : z.cells.size = size) (hsz : 0 < size)
    {lo hi' n c : Nat} {A : Option Addr} {cs : List Value} (hs : a.eval s = .slice A n c) (hown : OwnC w lo hi' e size A n c cs) (hlo : lo ≤ w.heap.size)
    (A2 : Option Addr) (m c2 : Nat) (news : List Value) (hx : a.eval x = .slice A2 m c2) (hl : news.length = m * size)
    (hnews : ∀ j u, news[j]? = some u → ∃ b off, A2 = some ⟨b, off, none⟩ ∧ w.cell? ⟨b, off + j, none⟩ = some u) (h1 : ∀ u ∈ news, u.oneCell' = true)
    (h63 : n + m ≤ maxLen) (hbytes : (n + m) * bytes ≤ 140737488355328)
    (h : ∀ A' c' w', OwnC w' lo w'.heap.size e size A' (n + m) c' (cs ++ news) → w.grownBy w' (Value.slice A n c).ownBlock → Below lo w w' → wpList P ops Q rest (a.put o.dst (.slice A' (n + m) c')) w') : wpList P ops Q (o :: rest) a w :=
  wpList_plain hgd fun _ hK => wp_appendC w s x t hop e i z size bytes ht hi hz hsize hby hzs hsz hs hown hlo A2 m c2 news hx hl hnews h1 h63 hbytes fun A' c' w' h2 h3 h4 => hK _ _ (h A' c' w' h2 h3 h4)

/-- append of one element: its cells stand in the newest block. -/
theorem wpList_append1 {P : Program} (w : World) (u : List Value) (te : TypeId) {ops : Array Oper} {rest : List Oper} {o : Oper} {a : Act} {Q : Exit → Act → World → Prop} (hgd : o.guard = none) (s x : Operand) (t : TypeId)
    (hop : o.op = .call { callee := .builtin .append, args := #[s, x], argTypes := #[t, t] })
    (e : TypeId) (i : TypeInfo) (z : Value) (size bytes : Nat) (ht : P.underlying t = some (.slice e)) (hi : P.info? e = some i) (hz : i.zero = some z)
    (hsize : i.size = size) (hby : i.bytes = bytes) (hzs : z.cells.size = size) (hsz : 0 < size)
    {lo hi' n c : Nat} {A : Option Addr} {cs : List Value} (hs : a.eval s = .slice A n c) (hown : OwnC w lo hi' e size A n c cs) (hlo : lo ≤ w.heap.size)
    (c2 : Nat) (hx : a.eval x = .slice (some ⟨w.heap.size, 0, none⟩) 1 c2) (hl : u.length = size) (h1 : ∀ v ∈ u, v.oneCell' = true)
    (hn : n ≤ 1000000000000) (hb : bytes ≤ 100)
    (h : ∀ A' c' w', OwnC w' lo w'.heap.size e size A' (n + 1) c' (cs ++ u) → (w.alloc (.cells u.toArray te)).grownBy w' (Value.slice A n c).ownBlock → Below lo w w' → w.heap.size < w'.heap.size → wpList P ops Q rest (a.put o.dst (.slice A' (n + 1) c')) w') : wpList P ops Q (o :: rest) a (w.alloc (.cells u.toArray te)) := by
  refine wpList_appendC _ hgd s x t hop e i z size bytes ht hi hz hsize hby hzs hsz hs (hown.alloc _) (by simp; omega) (some ⟨w.heap.size, 0, none⟩) 1 c2 u hx (by omega) ?_ h1 (by unfold maxLen; omega) ?_ fun A' c' w' h2 h3 h4 => ?_
  · intro j v hv
    refine ⟨w.heap.size, 0, rfl, ?_⟩
    have := World.cell?_alloc_new w u.toArray te (0 + j)
    rw [this]
    simpa using hv
  · have : (n + 1) * bytes ≤ (n + 1) * 100 := Nat.mul_le_mul_left _ hb
    omega
  · have hz := h3.size
    simp only [World.size_alloc] at hz
    exact h A' c' w' h2 h3 (Below.trans ((Below.refl _ _).alloc hlo _) h4) (by omega)
theorem OwnC.lit {w : World} {lo n : Nat} (e : TypeId) (size : Nat) (cs : Array Value) (hlo : lo ≤ w.heap.size) (hn : n ≤ maxLen) (hs : cs.size = n * size) :
    OwnC (w.alloc (.cells cs e)) lo (w.heap.size + 1) e size (some ⟨w.heap.size, 0, none⟩) n n cs.toList :=
  ⟨World.ownsRow_lit w cs n hlo hn hs, fun a h => by injection h with h; subst h; exact Nat.lt_succ_self _⟩

end Go.Proofs.YthjamohaeahipaaGreat

/- Letters of braids: the plain functions; a slice of slices whose last one grows. -/
namespace Go.Proofs.YthjamohaeahipaaGreat
open Go.RowKit

def absI (x : Int) : Int := if x < 0 then -x else x
def letterB (n x : Int) : Bool := decide (x ≠ 0) && inR x (1 - n) (n - 1)
def lettersB (n : Int) (xs : List Int) : Bool := xs.all (letterB n)
def braidB (n : Int) (xs : List Int) : Bool := inR n 0 12 && decide (xs.length ≤ 40) && lettersB n xs
def touchB (a b : Int) : Bool := inR (absI a - absI b) (-1) 1
def touchAny (xs : List Int) (x : Int) : Bool := xs.any fun y => touchB y x
/-- All groups but the last, and the last. -/
def packStep (s : List (List Int) × List Int) (x : Int) : List (List Int) × List Int := if touchAny s.2 x then (s.1 ++ [s.2], [x]) else (s.1, s.2 ++ [x])
def packFrom (s : List (List Int) × List Int) (xs : List Int) : List (List Int) × List Int := xs.foldl packStep s
def pack : List Int → List (List Int)
  | [] => []
  | x :: xs => (packFrom ([], [x]) xs).1 ++ [(packFrom ([], [x]) xs).2]
def packP (n : Int) (xs : List Int) : List (List Int) := if braidB n xs then pack xs else []

def packS : List Int → Option (List (List Int) × List Int)
  | [] => none
  | x :: xs => some (packFrom ([], [x]) xs)
theorem touchB_comm (a b : Int) : touchB a b = touchB b a := by
  unfold touchB inR
  apply Bool.eq_iff_iff.2
  simp only [Bool.and_eq_true, decide_eq_true_eq]
  omega
theorem packFrom_snoc (s : List (List Int) × List Int) (xs : List Int) (x : Int) : packFrom s (xs ++ [x]) = packStep (packFrom s xs) x := by simp [packFrom]
theorem packS_none {xs : List Int} {x : Int} (h : packS xs = none) : packS (xs ++ [x]) = some ([], [x]) := by
  cases xs with
  | nil => rfl
  | cons y ys => cases h
theorem packS_some {xs : List Int} {x : Int} {s : List (List Int) × List Int} (h : packS xs = some s) : packS (xs ++ [x]) = some (packStep s x) := by
  cases xs with
  | nil => cases h
  | cons y ys =>
    injection h with h
    rw [List.cons_append, packS, packFrom_snoc, h]
theorem pack_of_none {xs : List Int} (h : packS xs = none) : pack xs = [] := by
  cases xs with
  | nil => rfl
  | cons y ys => cases h
theorem pack_of_some {xs : List Int} {a : List (List Int)} {l : List Int} (h : packS xs = some (a, l)) : pack xs = a ++ [l] := by
  cases xs with
  | nil => cases h
  | cons y ys =>
    injection h with h
    rw [pack, h]
theorem packFrom_cnt (s : List (List Int) × List Int) (xs : List Int) : cntII (packFrom s xs).1 + (packFrom s xs).2.length = cntII s.1 + s.2.length + xs.length := by
  induction xs generalizing s with
  | nil => rfl
  | cons x xs ih =>
    have h := ih (packStep s x)
    have e : packFrom s (x :: xs) = packFrom (packStep s x) xs := rfl
    rw [e, h]
    unfold packStep
    split
    · simp [cntII_append, cntII]; omega
    · simp; omega
theorem packFrom_len (s : List (List Int) × List Int) (xs : List Int) : (packFrom s xs).1.length ≤ s.1.length + xs.length := by
  induction xs generalizing s with
  | nil => simp [packFrom]
  | cons x xs ih =>
    have h := ih (packStep s x)
    have e : packFrom s (x :: xs) = packFrom (packStep s x) xs := rfl
    rw [e]
    have : (packStep s x).1.length ≤ s.1.length + 1 := by unfold packStep; split <;> simp
    simp only [List.length_cons]
    omega
theorem packS_len {xs : List Int} {a : List (List Int)} {l : List Int} (h : packS xs = some (a, l)) : a.length ≤ xs.length ∧ l.length ≤ xs.length := by
  cases xs with
  | nil => cases h
  | cons y ys =>
    injection h with h
    have h1 := packFrom_len ([], [y]) ys
    have h2 := packFrom_cnt ([], [y]) ys
    rw [h] at h1 h2
    simp [cntII] at h1 h2
    simp
    omega
theorem packFrom_mem {P : Int → Prop} (s : List (List Int) × List Int) (xs : List Int) (h : ∀ y ∈ s.2, P y) (hx : ∀ x ∈ xs, P x) : ∀ y ∈ (packFrom s xs).2, P y := by
  induction xs generalizing s with
  | nil => exact h
  | cons x xs ih =>
    have e : packFrom s (x :: xs) = packFrom (packStep s x) xs := rfl
    rw [e]
    refine ih _ ?_ fun y hy => hx y (by simp [hy])
    unfold packStep
    split
    · intro y hy
      simp at hy
      subst hy
      exact hx y (by simp)
    · intro y hy
      rcases List.mem_append.1 hy with hy | hy
      · exact h y hy
      · simp at hy
        subst hy
        exact hx y (by simp)
theorem packS_mem {P : Int → Prop} {xs : List Int} {a : List (List Int)} {l : List Int} (h : packS xs = some (a, l)) (hx : ∀ x ∈ xs, P x) : ∀ y ∈ l, P y := by
  cases xs with
  | nil => cases h
  | cons y ys =>
    injection h with h
    have := packFrom_mem (P := P) ([], [y]) ys (by simpa using hx y (by simp)) fun z hz => hx z (by simp [hz])
    rwa [h] at this
theorem pack_size (xs : List Int) : (pack xs).length ≤ xs.length ∧ cntII (pack xs) = xs.length := by
  cases xs with
  | nil => simp [pack, cntII]
  | cons x xs =>
    have h1 := packFrom_len ([], [x]) xs
    have h2 := packFrom_cnt ([], [x]) xs
    simp [cntII] at h1 h2
    simp [pack, cntII_append, cntII]
    omega
theorem braidB_of {n : Int} {xs : List Int} (h : braidB n xs = true) : 0 ≤ n ∧ n ≤ 12 ∧ xs.length ≤ 40 ∧ ∀ x ∈ xs, x ≠ 0 ∧ 1 - n ≤ x ∧ x ≤ n - 1 := by
  unfold braidB lettersB letterB inR at h
  simp only [Bool.and_eq_true, List.all_eq_true, decide_eq_true_eq] at h
  exact ⟨h.1.1.1, h.1.1.2, h.1.2, fun x hx => by have := h.2 x hx; exact ⟨this.1, this.2.1, this.2.2⟩⟩
theorem packP_size (n : Int) (xs : List Int) : (packP n xs).length ≤ 40 ∧ cntII (packP n xs) ≤ 40 := by
  unfold packP
  split
  · have := braidB_of (by assumption : braidB n xs = true)
    have := pack_size xs
    omega
  · simp [cntII]

/-- One more inner slice, in blocks behind those of the others. -/
theorem CellsII.snoc {w : World} {lo m hi : Nat} {cs : List Value} {xss : List (List Int)} {A' : Option Addr} {c' : Nat} {xs : List Int}
    (h : CellsII w lo m cs xss) (ho : OwnI w m hi A' c' xs) (h1 : lo ≤ m) (h2 : m ≤ hi) : CellsII w lo hi (cs ++ [.slice A' xs.length c']) (xss ++ [xs]) := by
  obtain ⟨ha, hb, hc⟩ := h
  refine ⟨by simp [ha], fun j ys hy => ?_, fun i j v v' g hi' hj hv hv' => ?_⟩
  · rcases Nat.lt_or_ge j xss.length with hj | hj
    · rw [List.getElem?_append_left hj] at hy
      obtain ⟨A2, c2, h5, h6⟩ := hb j ys hy
      exact ⟨A2, c2, by rw [List.getElem?_append_left (by omega)]; exact h5, h6.mono (Nat.le_refl _) h2⟩
    · have hjl := (List.getElem?_eq_some_iff.1 hy).1
      simp at hjl
      have : j = xss.length := by omega
      subst this
      simp at hy
      subst hy
      exact ⟨A', c', by rw [List.getElem?_append_right (by omega)]; simp [ha], ho.mono h1 (Nat.le_refl _)⟩
  · have new : (Value.slice A' xs.length c').ownBlock = some g → m ≤ g := fun e => (ho.own.lt g e).1
    have old : ∀ i v, i < cs.length → (cs ++ [Value.slice A' xs.length c'])[i]? = some v → v.ownBlock = some g → g < m := by
      intro i v hil h7 h8
      rw [List.getElem?_append_left hil] at h7
      obtain ⟨A2, c2, h5, h6⟩ := hb i _ (List.getElem?_eq_getElem (by omega))
      rw [h5] at h7
      injection h7 with h7
      subst h7
      cases A2 with
      | none => simp [Value.ownBlock] at h8
      | some a => simp [Value.ownBlock] at h8; subst h8; exact h6.lt a rfl
    have last : ∀ i v, ¬ i < cs.length → (cs ++ [Value.slice A' xs.length c'])[i]? = some v → i = cs.length ∧ v = .slice A' xs.length c' := by
      intro i v hn h7
      have hil := (List.getElem?_eq_some_iff.1 h7).1
      simp at hil
      have : i = cs.length := by omega
      subst this
      simp at h7
      exact ⟨rfl, h7.symm⟩
    by_cases ei : i < cs.length
    · by_cases ej : j < cs.length
      · rw [List.getElem?_append_left ei] at hi'
        rw [List.getElem?_append_left ej] at hj
        exact hc i j v v' g hi' hj hv hv'
      · obtain ⟨_, rfl⟩ := last j v' ej hj
        have := new hv'
        have := old i v ei hi' hv
        omega
    · by_cases ej : j < cs.length
      · obtain ⟨_, rfl⟩ := last i v ei hi'
        have := new hv
        have := old j v' ej hj hv'
        omega
      · have := last i v ei hi'
        have := last j v' ej hj
        omega

theorem OwnC.keepT {w w' : World} {lo hi : Nat} {e : TypeId} {sz : Nat} {A : Option Addr} {n c : Nat} {cs : List Value} (h : OwnC w lo hi e sz A n c cs) (hk : ∀ k cur, lo ≤ k → k < hi → w.heap[k]? = some (.cells cur e (0, 0)) → w'.heap[k]? = w.heap[k]?) : OwnC w' lo hi e sz A n c cs := by
  refine ⟨⟨h.own.1, ?_⟩, h.lt⟩
  rcases h.own.2 with h2 | ⟨g, cap, cur, h4, h5, h6, h7⟩
  · exact .inl h2
  · injection h4 with h4 hn h11
    subst h4 h11
    exact .inr ⟨g, c, cur, rfl, h5, by rw [hk g cur h5 (h.lt _ rfl) h6]; exact h6, h7⟩
theorem CellsII.keepT {w w' : World} {lo hi : Nat} {cs : List Value} {xss : List (List Int)} (h : CellsII w lo hi cs xss) (hk : ∀ k cur, lo ≤ k → k < hi → w.heap[k]? = some (.cells cur 2 (0, 0)) → w'.heap[k]? = w.heap[k]?) : CellsII w' lo hi cs xss :=
  ⟨h.1, fun k xs hx => by obtain ⟨A', c', h1, h2⟩ := h.2.1 k xs hx; exact ⟨A', c', h1, h2.keepT hk⟩, h.2.2⟩

/-- A slice of slices of the call's own, whose last one (l) lies in blocks behind those of the others. -/
structure OwnL (w : World) (lo hi : Nat) (A : Option Addr) (c : Nat) (xss : List (List Int)) (l : List Int) (A' : Option Addr) (c' m : Nat) (cs : List Value) : Prop where
  out : OwnC w lo hi 24 1 A (xss.length + 1) c (cs ++ [.slice A' l.length c'])
  cells : CellsII w lo m cs xss
  last : OwnI w m hi A' c' l
  lom : lo ≤ m
  mhi : m ≤ hi
section
variable {w w' : World} {lo hi : Nat} {A : Option Addr} {c : Nat} {xss : List (List Int)} {l : List Int} {A' : Option Addr} {c' m : Nat} {cs : List Value}
theorem OwnL.toII (h : OwnL w lo hi A c xss l A' c' m cs) : OwnII w lo hi A (xss ++ [l]).length c (xss ++ [l]) :=
  ⟨cs ++ [.slice A' l.length c'], by simpa using h.out, h.cells.snoc h.last h.lom h.mhi⟩
theorem OwnL.keep (h : OwnL w lo hi A c xss l A' c' m cs) (hk : ∀ k, lo ≤ k → k < hi → k < w.heap.size → w'.heap[k]? = w.heap[k]?) : OwnL w' lo hi A c xss l A' c' m cs :=
  ⟨h.out.keep hk, h.cells.keep fun k h1 h2 h3 => hk k h1 (by have := h.mhi; omega) h3, h.last.keep fun k h1 h2 h3 => hk k (by have := h.lom; omega) h2 h3, h.lom, h.mhi⟩
theorem OwnL.cell (h : OwnL w lo hi A c xss l A' c' m cs) : ∃ g, A = some ⟨g, 0, none⟩ ∧ lo ≤ g ∧ g < hi ∧ w.cell? ⟨g, xss.length, none⟩ = some (.slice A' l.length c') ∧ w.frozen? ⟨g, xss.length, none⟩ = false := by
  have hl : cs.length = xss.length := h.cells.1
  obtain ⟨g, rfl, h1, h2, h3, h4⟩ := h.out.cell (j := xss.length) (by simp [hl])
  exact ⟨g, rfl, h1, h2, by simpa [hl] using h3, h4⟩
/-- The last inner slice is put anew. -/
theorem OwnL.put {g : Nat} {A2 : Option Addr} {c2 : Nat} {l2 : List Int} (h : OwnL w lo hi (some ⟨g, 0, none⟩) c xss l A' c' m cs) (hhi : hi ≤ w.heap.size) (hg : w.grownBy w' (Value.slice A' l.length c').ownBlock) (ho : OwnI w' m w'.heap.size A2 c2 l2) :
    OwnL (w'.setCell ⟨g, xss.length, none⟩ (.slice A2 l2.length c2)) lo (w'.setCell ⟨g, xss.length, none⟩ (.slice A2 l2.length c2)).heap.size (some ⟨g, 0, none⟩) c xss l2 A2 c2 m cs ∧ w'.cell? ⟨g, xss.length, none⟩ = some (.slice A' l.length c') ∧ w'.frozen? ⟨g, xss.length, none⟩ = false := by
  have hl : cs.length = xss.length := h.cells.1
  have hz := hg.size
  have hlast : ∀ q, (Value.slice A' l.length c').ownBlock = some q → m ≤ q := fun q e => (h.last.own.lt q e).1
  have hne : ∀ q, (Value.slice A' l.length c').ownBlock = some q → q ≠ g := by
    intro q e
    rintro rfl
    rcases h.last.form with ⟨rfl, _⟩ | ⟨q', cur, rfl, _, _, h4, _⟩
    · simp [Value.ownBlock] at e
    · simp [Value.ownBlock] at e
      subst e
      rcases h.out.form with ⟨h5, _⟩ | ⟨q2, cur', h5, _, _, h6, _⟩
      · simp at h5
      · injection h5 with h5
        injection h5 with h5
        subst h5
        rw [h4] at h6
        injection h6 with h6
        injection h6 with _ h6
        simp at h6
  have hgl : g < w.heap.size := Nat.lt_of_lt_of_le (h.out.lt _ rfl) hhi
  have o1 : OwnC w' lo w'.heap.size 24 1 (some ⟨g, 0, none⟩) (xss.length + 1) c (cs ++ [.slice A' l.length c']) :=
    (h.out.keep1 fun q hq => by
      injection hq with hq
      injection hq with hq
      subst hq
      exact hg.block _ hgl fun e => hne _ e.symm rfl).mono (Nat.le_refl _) (Nat.le_trans hhi hz)
  have hset : (cs ++ [Value.slice A' l.length c']).set xss.length (.slice A2 l2.length c2) = cs ++ [.slice A2 l2.length c2] := by
    rw [← hl, List.set_append_right _ _ (Nat.le_refl _)]
    simp
  have o2 := (o1.store (j := xss.length) (.slice A2 l2.length c2)).1
  rw [hset] at o2
  have hgt : ∀ k cur, w'.heap[k]? = some (.cells cur 2 (0, 0)) → k ≠ g := by
    intro k cur h4 e
    subst e
    rcases o1.form with ⟨h5, _⟩ | ⟨q2, cur', h5, _, _, h6, _⟩
    · simp at h5
    · injection h5 with h5
      injection h5 with h5
      subst h5
      rw [h4] at h6
      injection h6 with h6
      injection h6 with _ h6
      simp at h6
  obtain ⟨_, hA, _, _, q1, q2⟩ := o1.cell (j := xss.length) (by simp [hl])
  injection hA with hA
  injection hA with hA
  subst hA
  refine ⟨⟨by simpa using o2, ?_, ?_, h.lom, by have := h.mhi; simp; omega⟩, by simpa [hl] using q1, q2⟩
  · refine CellsII.keepT (w := w) h.cells fun k cur h1 h2 h3 => ?_
    have hk3 : k < w.heap.size := (Array.getElem?_eq_some_iff.1 h3).1
    have e1 : w'.heap[k]? = w.heap[k]? := hg.block _ hk3 fun e => by have := hlast _ e.symm; omega
    rw [Below.heap_setCell w' _ _ k (hgt k cur (e1.trans h3)), e1]
  · refine (ho.keepT fun k cur h1 h2 h3 => Below.heap_setCell w' _ _ k (hgt k cur h3)).mono (Nat.le_refl _) (by simp)
/-- One more inner slice is appended; it lies in blocks from hi on. -/
theorem OwnL.next {A2 : Option Addr} {c2 : Nat} {A3 : Option Addr} {c3 : Nat} {l3 : List Int} (h : OwnL w lo hi A c xss l A' c' m cs) (hk : ∀ k cur, lo ≤ k → k < hi → w.heap[k]? = some (.cells cur 2 (0, 0)) → w'.heap[k]? = w.heap[k]?) (hhi : hi ≤ w'.heap.size)
    (ho : OwnC w' lo w'.heap.size 24 1 A2 (xss.length + 1 + 1) c2 ((cs ++ [.slice A' l.length c']) ++ [.slice A3 l3.length c3])) (h3 : OwnI w' hi w'.heap.size A3 c3 l3) :
    OwnL w' lo w'.heap.size A2 c2 (xss ++ [l]) l3 A3 c3 hi (cs ++ [.slice A' l.length c']) :=
  ⟨by simpa using ho, (h.cells.snoc h.last h.lom h.mhi).keepT hk, h3, Nat.le_trans h.lom h.mhi, hhi⟩
/-- The first inner slice. -/
theorem OwnL.one {w : World} {lo hi : Nat} {A : Option Addr} {c : Nat} {l : List Int} {A' : Option Addr} {c' : Nat} (m : Nat) (h : OwnC w lo hi 24 1 A 1 c [.slice A' l.length c']) (h' : OwnI w m hi A' c' l) (h1 : lo ≤ m) (h2 : m ≤ hi) : OwnL w lo hi A c [] l A' c' m [] :=
  ⟨by simpa using h, ⟨rfl, fun k xs hx => by simp at hx, fun i j v v' g hi' => by simp at hi'⟩, h', h1, h2⟩
end

end Go.Proofs.YthjamohaeahipaaGreat

/- Colour charts: ValidColours, SameColours. -/
namespace Go.Proofs.YthjamohaeahipaaGreat
open Go.RowKit

def rowOfB (n : Int) (row : List Int) : Bool := decide ((row.length : Int) = n) && row.all carrierB
def coloursB (n : Int) (xss : List (List Int)) : Bool := inR n 1 8 && inR xss.length 1 8 && xss.all (rowOfB n)
def sameColoursB (n m : Int) (xss yss : List (List Int)) : Bool := decide (n = m ∧ xss = yss)


end Go.Proofs.YthjamohaeahipaaGreat

/- SameColours. -/
namespace Go.Proofs.YthjamohaeahipaaGreat
open Go.RowKit

theorem Drawn.trans {a b c : World} (h : Drawn a b) (k : Drawn b c) : Drawn a c := by
  obtain ⟨n, rfl⟩ := k
  exact h.drewN n


end Go.Proofs.YthjamohaeahipaaGreat

/- SameChart. -/
namespace Go.Proofs.YthjamohaeahipaaGreat
open Go.RowKit

theorem cell_alloc {w : World} {a : Addr} {v : Value} (h : w.cell? a = some v) (o : Obj) : (w.alloc o).cell? a = some v := cells_below (by (repeat (first | exact Below.refl _ _ | assumption | apply Below.drew | apply below_drewN | (refine Below.alloc ?_ (by first | omega | (simp; done) | (simp; omega)) _) | (refine Below.setCell ?_ (by first | omega | (simp; done) | (simp; omega)) _)))) _ _ h
def sameChartB (n m : Int) (xs ys : List RowD) : Bool := decide (n = m ∧ xs = ys)


end Go.Proofs.YthjamohaeahipaaGreat

/- Letters: which are valid, which touch. -/
namespace Go.Proofs.YthjamohaeahipaaGreat
open Go.RowKit

def smallB (xs : List Int) : Prop := ∀ y ∈ xs, -1000 ≤ y ∧ y ≤ 1000
theorem smallB_of {n : Int} {xs : List Int} (h : braidB n xs = true) : smallB xs := fun y hy => by
  obtain ⟨_, h1, _, h2⟩ := braidB_of h
  have := h2 y hy
  omega
theorem smallB_at {xs : List Int} (h : smallB xs) {k : Nat} {x : Int} (hx : xs[k]? = some x) : -1000 ≤ x ∧ x ≤ 1000 := h x (List.mem_of_getElem? hx)
theorem absI_le {x : Int} (h : -1000 ≤ x ∧ x ≤ 1000) : 0 ≤ absI x ∧ absI x ≤ 1000 := by unfold absI; split <;> omega

theorem spec_l03Abs (x : Int) (w : World) (hx : -1000 ≤ x ∧ x ≤ 1000) : Calls Tryz.prog 80 #[.int .i64 x] w fun e w' => e = .returned (.int .i64 (absI x)) ∧ w = w' := by
  obtain ⟨h0, h1⟩ := hx
  unfold absI
  by_cases h2 : x < 0
  · go_enter Tryz.func80, Tryz.ntmps80
    go_wp2
    go_ret
    exact ⟨rfl, rfl⟩
  · go_enter Tryz.func80, Tryz.ntmps80
    go_wp2
    go_ret
    exact ⟨rfl, rfl⟩

theorem spec_l03Letters (A : Option Addr) (c : Nat) (xs : List Int) (n : Int) (w : World) (h : Ints w A xs) (hl : xs.length ≤ 9223372036854775807) (hn : 0 ≤ n ∧ n ≤ 1000) :
    Calls Tryz.prog 60 #[.slice A xs.length c, .int .i64 n] w fun e w' => e = .returned (.bool (lettersB n xs)) ∧ w = w' := by
  obtain ⟨hn0, hn1⟩ := hn
  go_enter Tryz.func60, Tryz.ntmps60
  go_wp2
  go_loop [5] (fun i => ∃ k : Nat, k ≤ xs.length ∧ i = .int .i64 k ∧ (xs.take k).all (letterB n) = true) (fun i => xs.length - (intOf i).toNat)
  case atStart => exact ⟨0, Nat.zero_le _, rfl, rfl⟩
  case round =>
    obtain ⟨k, hk, rfl, ha⟩ := hrel
    have HA := Lib.hid ha; clear ha
    by_cases hlt : k < xs.length
    · obtain ⟨b, off, x, rfl, hc, hx⟩ := h k hlt
      have HX := Lib.hid hx; clear hx
      by_cases hz : x = 0
      · have hz' : (x == 0) = true := by simp [hz]
        have HQ : Hid (letterB n x = false) := Lib.hid (by simp [letterB, hz])
        clear hz
        go_wp2_with (go_at_call 30; refine (spec_l00In _ _ _ _).mono ?_; rintro e w' ⟨rfl, rfl⟩)
        go_ret
        exact ⟨ret_bool (by rw [lettersB, all_false_at HX.out HQ.out]), rfl⟩
      · have hz' : (x == 0) = false := by simpa using hz
        have HQ : Hid (letterB n x = inR x (1 - n) (n - 1)) := Lib.hid (by simp [letterB, hz])
        clear hz
        cases hq : inR x (1 - n) (n - 1)
        · go_wp2_with (go_at_call 30; refine (spec_l00In _ _ _ _).mono ?_; rintro e w' ⟨rfl, rfl⟩)
          go_ret
          exact ⟨ret_bool (by rw [lettersB, all_false_at HX.out (HQ.out.trans hq)]), rfl⟩
        · go_wp2_with (go_at_call 30; refine (spec_l00In _ _ _ _).mono ?_; rintro e w' ⟨rfl, rfl⟩)
          go_round
          case rel => exact ⟨k + 1, by omega, by go_num, by rw [take_snoc HX.out, List.all_append, HA.out]; simp [HQ.out, hq]⟩
          case measure => simp [intOf]; omega
    · go_wp2_with (fail)
      go_ret
      have ha := HA.out
      rw [take_all (by omega)] at ha
      exact ⟨ret_bool (by rw [lettersB, ha]), rfl⟩


end Go.Proofs.YthjamohaeahipaaGreat

/- l03Ok. -/
namespace Go.Proofs.YthjamohaeahipaaGreat
open Go.RowKit

theorem spec_l03Ok (g o : Nat) (n : Int) (A : Option Addr) (c : Nat) (xs : List Int) (w : World) (h : Ints w A xs) (hl : xs.length ≤ 9223372036854775807)
    (c0 : w.cell? ⟨g, o, none⟩ = some (.int .i64 n)) (c1 : w.cell? ⟨g, o + 1, none⟩ = some (.slice A xs.length c)) :
    Calls Tryz.prog 32 #[.pointer (some ⟨g, o, none⟩)] w fun e w' => e = .returned (.bool (braidB n xs)) ∧ Drawn w w' := by
  cases hn : inR n 0 12
  · have hc : ∀ W, Calls Tryz.prog 30 #[.int .i64 n, .int .i64 0, .int .i64 12] W fun e w' => e = .returned (.bool false) ∧ W = w' := fun W => by have := spec_l00In n 0 12 W; rwa [hn] at this
    have HF : Hid (braidB n xs = false) := Lib.hid (by simp [braidB, hn])
    have HC := Lib.hid hc; clear hc
    go_enter Tryz.func32, Tryz.ntmps32
    go_wp2_with (fail)
    go_quiet (first | (go_at_call 30; exact quietS (HC.out _)))
    go_wp2_with (fail)
    go_ret
    exact ⟨ret_bool HF.out.symm, (Drawn.refl _).drewN _⟩
  · have hc : ∀ W, Calls Tryz.prog 30 #[.int .i64 n, .int .i64 0, .int .i64 12] W fun e w' => e = .returned (.bool true) ∧ W = w' := fun W => by have := spec_l00In n 0 12 W; rwa [hn] at this
    have HC := Lib.hid hc; clear hc
    by_cases h4 : xs.length ≤ 40
    · have h4' : decide ((xs.length : Int) ≤ 40) = true := decide_eq_true (by omega)
      have HF : Hid (braidB n xs = lettersB n xs) := Lib.hid (by simp [braidB, hn, h4])
      have hnn := inR_iff.1 hn
      go_enter Tryz.func32, Tryz.ntmps32
      go_wp2_with (fail)
      go_quiet (first | (go_at_call 30; exact quietS (HC.out _)) | (go_at_call 60; exact quietS (spec_l03Letters _ _ _ _ _ h hl (by omega))))
      go_wp2_with (fail)
      go_ret
      exact ⟨ret_bool HF.out.symm, (Drawn.refl _).drewN _⟩
    · have h4' : decide ((xs.length : Int) ≤ 40) = false := decide_eq_false (by omega)
      have HF : Hid (braidB n xs = false) := Lib.hid (by simp [braidB, h4])
      go_enter Tryz.func32, Tryz.ntmps32
      go_wp2_with (fail)
      go_quiet (first | (go_at_call 30; exact quietS (HC.out _)))
      go_wp2_with (fail)
      go_ret
      exact ⟨ret_bool HF.out.symm, (Drawn.refl _).drewN _⟩

end Go.Proofs.YthjamohaeahipaaGreat

/- l18Pack. -/
namespace Go.Proofs.YthjamohaeahipaaGreat
open Go.RowKit

theorem wpList_append1q {P : Program} (w : World) (q : Nat) (hq : w.heap.size = q) (u : List Value) (te : TypeId) {ops : Array Oper} {rest : List Oper} {o : Oper} {a : Act} {Q : Exit → Act → World → Prop} (hgd : o.guard = none) (s x : Operand) (t : TypeId)
    (hop : o.op = .call { callee := .builtin .append, args := #[s, x], argTypes := #[t, t] })
    (e : TypeId) (i : TypeInfo) (z : Value) (size bytes : Nat) (ht : P.underlying t = some (.slice e)) (hi : P.info? e = some i) (hz : i.zero = some z)
    (hsize : i.size = size) (hby : i.bytes = bytes) (hzs : z.cells.size = size) (hsz : 0 < size)
    {lo hi' n c : Nat} {A : Option Addr} {cs : List Value} (hs : a.eval s = .slice A n c) (hown : OwnC w lo hi' e size A n c cs) (hlo : lo ≤ w.heap.size)
    (c2 : Nat) (hx : a.eval x = .slice (some ⟨q, 0, none⟩) 1 c2) (hl : u.length = size) (h1 : ∀ v ∈ u, v.oneCell' = true)
    (hn : n ≤ 1000000000000) (hb : bytes ≤ 100)
    (h : ∀ A' c' w', OwnC w' lo w'.heap.size e size A' (n + 1) c' (cs ++ u) → (w.alloc (.cells u.toArray te)).grownBy w' (Value.slice A n c).ownBlock → Below lo w w' → w.heap.size < w'.heap.size → wpList P ops Q rest (a.put o.dst (.slice A' (n + 1) c')) w') : wpList P ops Q (o :: rest) a (w.alloc (.cells u.toArray te)) := by
  subst hq
  exact wpList_append1 w u te hgd s x t hop e i z size bytes ht hi hz hsize hby hzs hsz hs hown hlo c2 hx hl h1 hn hb h

/-- append of one element inside a region that draws. -/
theorem step_append1 {P : Program} {ops : Array Oper} {w : World} {o : Oper} {a : Act} {K : Act → World → Prop} {Q : Exit → Act → World → Prop} {E : Prop} (u : List Value) (te : TypeId) (hgd : o.guard = none) (s x : Operand) (t : TypeId)
    (hop : o.op = .call { callee := .builtin .append, args := #[s, x], argTypes := #[t, t] })
    (e : TypeId) (i : TypeInfo) (z : Value) (size bytes : Nat) (ht : P.underlying t = some (.slice e)) (hi : P.info? e = some i) (hz : i.zero = some z)
    (hsize : i.size = size) (hby : i.bytes = bytes) (hzs : z.cells.size = size) (hsz : 0 < size)
    {lo hi' n c : Nat} {A : Option Addr} {cs : List Value} (hs : a.eval s = .slice A n c) (hown : OwnC w lo hi' e size A n c cs) (hlo : lo ≤ w.heap.size)
    (c2 : Nat) (hx : a.eval x = .slice (some ⟨w.heap.size, 0, none⟩) 1 c2) (hl : u.length = size) (h1 : ∀ v ∈ u, v.oneCell' = true)
    (hn : n ≤ 1000000000000) (hb : bytes ≤ 100)
    (h : ∀ A' c' w', OwnC w' lo w'.heap.size e size A' (n + 1) c' (cs ++ u) → (w.alloc (.cells u.toArray te)).grownBy w' (Value.slice A n c).ownBlock → Below lo w w' → w.heap.size < w'.heap.size → K (a.put o.dst (.slice A' (n + 1) c')) w') :
    if Region.wanted o (yielded ops a.tmps) = true then Oper.wp P o a (w.alloc (.cells u.toArray te)) K Q else E := by
  have hw : Region.wanted o (yielded ops a.tmps) = true := by simp [Region.wanted, hgd]
  rw [if_pos hw]
  refine wp_appendC _ s x t hop e i z size bytes ht hi hz hsize hby hzs hsz hs (hown.alloc _) (by simp; omega) (some ⟨w.heap.size, 0, none⟩) 1 c2 u hx (by omega) ?_ h1 (by unfold maxLen; omega) ?_ fun A' c' w' h2 h3 h4 => ?_
  · intro j v hv
    refine ⟨w.heap.size, 0, rfl, ?_⟩
    have := World.cell?_alloc_new w u.toArray te (0 + j)
    rw [this]
    simpa using hv
  · have : (n + 1) * bytes ≤ (n + 1) * 100 := Nat.mul_le_mul_left _ hb
    omega
  · have hz := h3.size
    simp only [World.size_alloc] at hz
    exact h A' c' w' h2 h3 (Below.trans ((Below.refl _ _).alloc hlo _) h4) (by omega)
theorem step_append1d {P : Program} {ops : Array Oper} {w : World} {o : Oper} {a : Act} {K : Act → World → Prop} {Q : Exit → Act → World → Prop} {E : Prop} (u : List Value) (te : TypeId) (hgd : o.guard = none) (s x : Operand) (t : TypeId)
    (hop : o.op = .call { callee := .builtin .append, args := #[s, x], argTypes := #[t, t] })
    (e : TypeId) (i : TypeInfo) (z : Value) (size bytes : Nat) (ht : P.underlying t = some (.slice e)) (hi : P.info? e = some i) (hz : i.zero = some z)
    (hsize : i.size = size) (hby : i.bytes = bytes) (hzs : z.cells.size = size) (hsz : 0 < size)
    {lo hi' n c : Nat} {A : Option Addr} {cs : List Value} (hs : a.eval s = .slice A n c) (hown : OwnC w lo hi' e size A n c cs) (hlo : lo ≤ w.heap.size)
    (c2 : Nat) (hx : a.eval x = .slice (some ⟨w.heap.size, 0, none⟩) 1 c2) (hl : u.length = size) (h1 : ∀ v ∈ u, v.oneCell' = true)
    (hn : n ≤ 1000000000000) (hb : bytes ≤ 100)
    (h : ∀ A' c' w', OwnC w' lo w'.heap.size e size A' (n + 1) c' (cs ++ u) → (World.drew (w.alloc (.cells u.toArray te))).grownBy w' (Value.slice A n c).ownBlock → Below lo w w' → w.heap.size < w'.heap.size → K (a.put o.dst (.slice A' (n + 1) c')) w') :
    if Region.wanted o (yielded ops a.tmps) = true then Oper.wp P o a (World.drew (w.alloc (.cells u.toArray te))) K Q else E := by
  have hw : Region.wanted o (yielded ops a.tmps) = true := by simp [Region.wanted, hgd]
  rw [if_pos hw]
  refine wp_appendC _ s x t hop e i z size bytes ht hi hz hsize hby hzs hsz hs (OwnC.keep (hown.alloc (.cells u.toArray te)) (w' := World.drew (w.alloc (.cells u.toArray te))) fun _ _ _ _ => rfl) (show lo ≤ (w.alloc (.cells u.toArray te)).heap.size by simp; omega) (some ⟨w.heap.size, 0, none⟩) 1 c2 u hx (by omega) ?_ h1 (by unfold maxLen; omega) ?_ fun A' c' w' h2 h3 h4 => ?_
  · intro j v hv
    refine ⟨w.heap.size, 0, rfl, ?_⟩
    have := World.cell?_alloc_new w u.toArray te (0 + j)
    show (w.alloc (.cells u.toArray te)).cell? _ = _
    rw [this]
    simpa using hv
  · have : (n + 1) * bytes ≤ (n + 1) * 100 := Nat.mul_le_mul_left _ hb
    omega
  · have hz : (w.alloc (.cells u.toArray te)).heap.size ≤ w'.heap.size := h3.size
    simp only [World.size_alloc] at hz
    exact h A' c' w' h2 h3 (Below.trans (show Below lo w (World.drew (w.alloc (.cells u.toArray te))) from (((Below.refl _ _).alloc hlo _).trans (b := w.alloc (.cells u.toArray te)) ⟨rfl, rfl, rfl, Nat.le_refl _, fun _ _ => rfl⟩)) h4) (by omega)
theorem OwnL.drewN {w : World} {lo hi : Nat} {A : Option Addr} {c : Nat} {xss : List (List Int)} {l : List Int} {A' : Option Addr} {c' m : Nat} {cs : List Value} (h : OwnL w lo hi A c xss l A' c' m cs) (n : Nat) : OwnL (w.drewN n) lo hi A c xss l A' c' m cs := h.keep fun _ _ _ _ => rfl

theorem OwnL.mono' {w : World} {lo hi hi' : Nat} {A : Option Addr} {c : Nat} {xss : List (List Int)} {l : List Int} {A' : Option Addr} {c' m : Nat} {cs : List Value} (h : OwnL w lo hi A c xss l A' c' m cs) (h2 : hi ≤ hi') : OwnL w lo hi' A c xss l A' c' m cs :=
  ⟨h.out.mono (Nat.le_refl _) h2, h.cells, h.last.mono (Nat.le_refl _) h2, h.lom, Nat.le_trans h.mhi h2⟩
theorem OwnL.ne {w : World} {lo hi g : Nat} {c : Nat} {xss : List (List Int)} {l : List Int} {A' : Option Addr} {c' m : Nat} {cs : List Value} (h : OwnL w lo hi (some ⟨g, 0, none⟩) c xss l A' c' m cs) (k : Nat) (cur : Array Value) (h4 : w.heap[k]? = some (.cells cur 2 (0, 0))) : k ≠ g := by
  intro e
  subst e
  rcases h.out.form with ⟨h5, _⟩ | ⟨q2, cur', h5, _, _, h6, _⟩
  · simp at h5
  · injection h5 with h5
    injection h5 with h5
    subst h5
    rw [h4] at h6
    injection h6 with h6
    injection h6 with _ h6
    simp at h6
theorem OwnL.alloc {w : World} {lo hi : Nat} {A : Option Addr} {c : Nat} {xss : List (List Int)} {l : List Int} {A' : Option Addr} {c' m : Nat} {cs : List Value} (h : OwnL w lo hi A c xss l A' c' m cs) (o : Obj) : OwnL (w.alloc o) lo hi A c xss l A' c' m cs := h.keep fun k _ _ h4 => Below.heap_alloc w o k h4


end Go.Proofs.YthjamohaeahipaaGreat

/- slices.Repeat of [1]; how many columns a stitch takes and makes. -/
namespace Go.Proofs.YthjamohaeahipaaGreat
open Go.RowKit

theorem addr_add (g i : Nat) : (⟨g, 0, none⟩ : Addr).add i = ⟨g, i, none⟩ := by
  unfold Addr.add
  split <;> simp_all
theorem src_of_heap {w : World} {g : Nat} {t : TypeId} {L cs : List Value} (h : w.heap[g]? = some (.cells L.toArray t (0, 0))) (hp : cs = L.take cs.length) : ∀ j v, cs[j]? = some v → w.cell? ((⟨g, 0, none⟩ : Addr).add j) = some v := by
  intro j v hv
  rw [addr_add, cell_of_row w g j L.toArray t (0, 0) h]
  have hj := (List.getElem?_eq_some_iff.1 hv).1
  rw [hp, List.getElem?_take, if_pos hj] at hv
  simpa using hv
def ones (m z : Nat) : List Value := (List.replicate m (1 : Int) ++ List.replicate z 0).map (Value.int .i64)

theorem bits_Mul1 (b : Int) (w : World) (hb : b = 1 ∨ b = 2 ∨ b = 4) : Calls Tryz.prog 94 #[.int .u64 1, .int .u64 b] w fun e w' => e = .returned (.tuple #[.int .u64 0, .int .u64 b]) ∧ w = w' := by
  rcases hb with rfl | rfl | rfl
  · go_enter Tryz.func94, Tryz.ntmps94
    go_wp2_with (go_in)
    go_ret2
    exact ⟨rfl, rfl⟩
  · go_enter Tryz.func94, Tryz.ntmps94
    go_wp2_with (go_in)
    go_ret2
    exact ⟨rfl, rfl⟩
  · go_enter Tryz.func94, Tryz.ntmps94
    go_wp2_with (go_in)
    go_ret2
    exact ⟨rfl, rfl⟩

theorem impl_ColumnsTaken (k : Int) (w : World) : Calls Tryz.prog 71 #[.int .i64 k] w fun e w' => e = .returned (.int .i64 (takenB k)) ∧ w = w' := by
  by_cases hk : isStitchB k = true
  · rcases stitch_cases hk with rfl | rfl | rfl | rfl | rfl | rfl | rfl | rfl | rfl | rfl | rfl
    all_goals
      go_enter Tryz.func71, Tryz.ntmps71
      go_wp2_with (fail)
      refine (impl_isStitch _ _).mono ?_; rintro e _ ⟨rfl, rfl⟩
      go_wp2_with (fail)
      go_ret
      exact ⟨rfl, rfl⟩
  · have hk' : isStitchB k = false := by simpa using hk
    have HF : Hid (takenB k = -1) := Lib.hid (by rw [takenB, if_neg hk])
    clear hk
    go_enter Tryz.func71, Tryz.ntmps71
    go_wp2_with (fail)
    refine (impl_isStitch _ _).mono ?_; rintro e _ ⟨rfl, rfl⟩
    go_wp2_with (fail)
    go_ret
    exact ⟨ret_int HF.out.symm, rfl⟩

theorem impl_ColumnsMade (k : Int) (w : World) : Calls Tryz.prog 88 #[.int .i64 k] w fun e w' => e = .returned (.int .i64 (madeB k)) ∧ w = w' := by
  by_cases hk : isStitchB k = true
  · rcases stitch_cases hk with rfl | rfl | rfl | rfl | rfl | rfl | rfl | rfl | rfl | rfl | rfl
    all_goals
      go_enter Tryz.func88, Tryz.ntmps88
      go_wp2_with (fail)
      refine (impl_isStitch _ _).mono ?_; rintro e _ ⟨rfl, rfl⟩
      go_wp2_with (fail)
      go_ret
      exact ⟨rfl, rfl⟩
  · have hk' : isStitchB k = false := by simpa using hk
    have HF : Hid (madeB k = -1) := Lib.hid (by rw [madeB, if_neg hk])
    clear hk
    go_enter Tryz.func88, Tryz.ntmps88
    go_wp2_with (fail)
    refine (impl_isStitch _ _).mono ?_; rintro e _ ⟨rfl, rfl⟩
    go_wp2_with (fail)
    go_ret
    exact ⟨ret_int HF.out.symm, rfl⟩

set_option maxHeartbeats 4000000 in
theorem spec_ColumnsTaken (k : Int) (w : World) : Calls Tryz.prog 54 #[.int .i64 k] w fun e w' => e = .returned (.int .i64 (takenB k)) ∧ Below w.heap.size w w' := by
  by_cases hk : isStitchB k = true
  · rcases stitch_cases hk with rfl | rfl | rfl | rfl | rfl | rfl | rfl | rfl | rfl | rfl | rfl
    all_goals
      go_enter Tryz.func54, Tryz.ntmps54
      go_wp2_with (fail)
      refine (spec_l14Kind _ _).mono ?_; rintro e _ ⟨rfl, rfl⟩
      go_wp2_with (fail)
      go_ret
      exact ⟨rfl, by (repeat (first | exact Below.refl _ _ | assumption | apply Below.drew | apply below_drewN | (refine Below.alloc ?_ (by first | omega | (simp; done) | (simp; omega)) _) | (refine Below.setCell ?_ (by first | omega | (simp; done) | (simp; omega)) _)))⟩
  · have hk' : isStitchB k = false := by simpa using hk
    have HF : Hid (takenB k = -1) := Lib.hid (by rw [takenB, if_neg hk])
    clear hk
    go_enter Tryz.func54, Tryz.ntmps54
    go_wp2_with (fail)
    refine (spec_l14Kind _ _).mono ?_; rintro e _ ⟨rfl, rfl⟩
    go_wp2_with (fail)
    go_ret
    exact ⟨ret_int HF.out.symm, Below.refl _ _⟩

set_option maxHeartbeats 4000000 in
theorem spec_ColumnsMade (k : Int) (w : World) : Calls Tryz.prog 65 #[.int .i64 k] w fun e w' => e = .returned (.int .i64 (madeB k)) ∧ Below w.heap.size w w' := by
  by_cases hk : isStitchB k = true
  · rcases stitch_cases hk with rfl | rfl | rfl | rfl | rfl | rfl | rfl | rfl | rfl | rfl | rfl
    all_goals
      go_enter Tryz.func65, Tryz.ntmps65
      go_wp2_with (fail)
      refine (spec_l14Kind _ _).mono ?_; rintro e _ ⟨rfl, rfl⟩
      go_wp2_with (fail)
      go_ret
      exact ⟨rfl, by (repeat (first | exact Below.refl _ _ | assumption | apply Below.drew | apply below_drewN | (refine Below.alloc ?_ (by first | omega | (simp; done) | (simp; omega)) _) | (refine Below.setCell ?_ (by first | omega | (simp; done) | (simp; omega)) _)))⟩
  · have hk' : isStitchB k = false := by simpa using hk
    have HF : Hid (madeB k = -1) := Lib.hid (by rw [madeB, if_neg hk])
    clear hk
    go_enter Tryz.func65, Tryz.ntmps65
    go_wp2_with (fail)
    refine (spec_l14Kind _ _).mono ?_; rintro e _ ⟨rfl, rfl⟩
    go_wp2_with (fail)
    go_ret
    exact ⟨ret_int HF.out.symm, Below.refl _ _⟩

theorem impl_takenBy (A : Option Addr) (c : Nat) (ks : List Int) (w : World) (h : Ints w A ks) (hs : stitchesB ks = true) :
    Calls Tryz.prog 46 #[.slice A ks.length c] w fun e w' => e = .returned (.int .i64 (takenS ks)) ∧ w = w' := by
  obtain ⟨hl, hst⟩ := stitchesB_of hs
  have hsum := (sums_le hst).1
  have HST := Lib.hid hst; clear hst
  go_enter Tryz.func46, Tryz.ntmps46
  go_wp2_with (fail)
  go_loop [3, 8] (fun s i => ∃ k : Nat, k ≤ ks.length ∧ i = .int .i64 k ∧ s = .int .i64 (takenS (ks.take k))) (fun _ i => ks.length - (intOf i).toNat)
  case atStart => exact ⟨0, Nat.zero_le _, rfl, rfl⟩
  case round =>
    obtain ⟨k, hk, rfl, rfl⟩ := hrel
    by_cases hlt : k < ks.length
    · obtain ⟨b, off, x, rfl, hc, hx⟩ := h k hlt
      have hq := HST.out x (List.mem_of_getElem? hx)
      have hle := takenS_at hx
      have HS : Hid (takenS (ks.take (k + 1)) = takenS (ks.take k) + takenN x) := Lib.hid (takenS_snoc hx)
      have HB : Hid (takenB x = takenN x) := Lib.hid (takenB_of hq)
      clear hx hq
      go_wp2_with (fail)
      refine (impl_ColumnsTaken _ _).mono ?_; rintro e _ ⟨rfl, rfl⟩
      rw [HB.out]
      go_wp2_with (fail)
      go_round
      case rel => exact ⟨k + 1, by omega, by go_num, by rw [HS.out]; push_cast; go_num⟩
      case measure => simp [intOf]; omega
    · go_wp2_with (fail)
      go_ret
      exact ⟨ret_int (by rw [take_all (by omega)]), rfl⟩

theorem spec_TakenBy (A : Option Addr) (c : Nat) (ks : List Int) (w : World) (h : Ints w A ks) (hl9 : ks.length ≤ 9223372036854775807) :
    Calls Tryz.prog 27 #[.slice A ks.length c] w fun e w' => e = .returned (.int .i64 (takenP ks)) ∧ Below w.heap.size w w' := by
  by_cases hs : stitchesB ks = true
  · have HF : Hid (takenP ks = takenS ks) := Lib.hid (by rw [takenP, if_pos hs])
    obtain ⟨hl, hst⟩ := stitchesB_of hs
    have HST := Lib.hid hst; clear hst
    go_enter Tryz.func27, Tryz.ntmps27
    go_wp2_with (fail)
    refine (spec_l14Ok _ _ _ _ h hl9).mono ?_; rintro e _ ⟨rfl, rfl⟩
    go_wp2_with (fail)
    go_loopw [3, 4] (fun s i wr => ∃ k : Nat, k ≤ ks.length ∧ i = .int .i64 k ∧ s = .int .i64 (takenS (ks.take k)) ∧ Below w.heap.size w wr) (fun _ i _ => ks.length - (intOf i).toNat)
    case atStart => exact ⟨0, Nat.zero_le _, rfl, rfl, Below.refl _ _⟩
    case round =>
      obtain ⟨k, hk, rfl, rfl, hb⟩ := hrel
      have hzs := hb.size
      by_cases hlt : k < ks.length
      · obtain ⟨b, off, x, rfl, hc, hx⟩ := h k hlt
        replace hc := cells_below hb _ _ hc
        have hq := HST.out x (List.mem_of_getElem? hx)
        have HS : Hid (takenS (ks.take (k + 1)) = takenS (ks.take k) + takenN x) := Lib.hid (takenS_snoc hx)
        have hle : takenS (ks.take (k + 1)) ≤ 4 * (k + 1) ∧ madeS (ks.take (k + 1)) ≤ 4 * (k + 1) := by
          have := (sums_le (ks := ks.take (k + 1)) fun y hy => HST.out y (List.mem_of_mem_take hy))
          have h2 := List.length_take_le (k + 1) ks
          omega
        have hle2 : takenS (ks.take (k + 1)) ≤ 4 * (k + 1) := by first | exact hle.1 | exact hle.2
        clear hle
        rw [HS.out] at hle2
        have HB : Hid (takenB x = takenN x) := Lib.hid (takenB_of hq)
        clear hx hq
        go_wp2_with (fail)
        refine (spec_ColumnsTaken _ _).mono ?_; rintro e w2 ⟨rfl, b2⟩
        have hb2 : Below w.heap.size w w2 := hb.trans (b2.mono hzs)
        rw [HB.out]
        go_wp2_with (fail)
        go_roundw
        case rel => exact ⟨k + 1, by omega, by go_num, by rw [HS.out]; push_cast; go_num, hb2⟩
        case measure => simp [intOf]; omega
      · go_wp2_with (fail)
        go_ret
        exact ⟨ret_int (by rw [HF.out, take_all (by omega)]), hb⟩
  · have hs' : stitchesB ks = false := by simpa using hs
    have HF : Hid (takenP ks = -1) := Lib.hid (by rw [takenP, if_neg hs])
    clear hs
    go_enter Tryz.func27, Tryz.ntmps27
    go_wp2_with (fail)
    refine (spec_l14Ok _ _ _ _ h hl9).mono ?_; rintro e _ ⟨rfl, rfl⟩
    go_wp2_with (fail)
    go_ret
    exact ⟨ret_int HF.out.symm, Below.refl _ _⟩
theorem spec_MadeBy (A : Option Addr) (c : Nat) (ks : List Int) (w : World) (h : Ints w A ks) (hl9 : ks.length ≤ 9223372036854775807) :
    Calls Tryz.prog 53 #[.slice A ks.length c] w fun e w' => e = .returned (.int .i64 (madeP ks)) ∧ Below w.heap.size w w' := by
  by_cases hs : stitchesB ks = true
  · have HF : Hid (madeP ks = madeS ks) := Lib.hid (by rw [madeP, if_pos hs])
    obtain ⟨hl, hst⟩ := stitchesB_of hs
    have HST := Lib.hid hst; clear hst
    go_enter Tryz.func53, Tryz.ntmps53
    go_wp2_with (fail)
    refine (spec_l14Ok _ _ _ _ h hl9).mono ?_; rintro e _ ⟨rfl, rfl⟩
    go_wp2_with (fail)
    go_loopw [3, 4] (fun s i wr => ∃ k : Nat, k ≤ ks.length ∧ i = .int .i64 k ∧ s = .int .i64 (madeS (ks.take k)) ∧ Below w.heap.size w wr) (fun _ i _ => ks.length - (intOf i).toNat)
    case atStart => exact ⟨0, Nat.zero_le _, rfl, rfl, Below.refl _ _⟩
    case round =>
      obtain ⟨k, hk, rfl, rfl, hb⟩ := hrel
      have hzs := hb.size
      by_cases hlt : k < ks.length
      · obtain ⟨b, off, x, rfl, hc, hx⟩ := h k hlt
        replace hc := cells_below hb _ _ hc
        have hq := HST.out x (List.mem_of_getElem? hx)
        have HS : Hid (madeS (ks.take (k + 1)) = madeS (ks.take k) + madeN x) := Lib.hid (madeS_snoc hx)
        have hle : takenS (ks.take (k + 1)) ≤ 4 * (k + 1) ∧ madeS (ks.take (k + 1)) ≤ 4 * (k + 1) := by
          have := (sums_le (ks := ks.take (k + 1)) fun y hy => HST.out y (List.mem_of_mem_take hy))
          have h2 := List.length_take_le (k + 1) ks
          omega
        have hle2 : madeS (ks.take (k + 1)) ≤ 4 * (k + 1) := by first | exact hle.1 | exact hle.2
        clear hle
        rw [HS.out] at hle2
        have HB : Hid (madeB x = madeN x) := Lib.hid (madeB_of hq)
        clear hx hq
        go_wp2_with (fail)
        refine (spec_ColumnsMade _ _).mono ?_; rintro e w2 ⟨rfl, b2⟩
        have hb2 : Below w.heap.size w w2 := hb.trans (b2.mono hzs)
        rw [HB.out]
        go_wp2_with (fail)
        go_roundw
        case rel => exact ⟨k + 1, by omega, by go_num, by rw [HS.out]; push_cast; go_num, hb2⟩
        case measure => simp [intOf]; omega
      · go_wp2_with (fail)
        go_ret
        exact ⟨ret_int (by rw [HF.out, take_all (by omega)]), hb⟩
  · have hs' : stitchesB ks = false := by simpa using hs
    have HF : Hid (madeP ks = -1) := Lib.hid (by rw [madeP, if_neg hs])
    clear hs
    go_enter Tryz.func53, Tryz.ntmps53
    go_wp2_with (fail)
    refine (spec_l14Ok _ _ _ _ h hl9).mono ?_; rintro e _ ⟨rfl, rfl⟩
    go_wp2_with (fail)
    go_ret
    exact ⟨ret_int HF.out.symm, Below.refl _ _⟩

end Go.Proofs.YthjamohaeahipaaGreat
