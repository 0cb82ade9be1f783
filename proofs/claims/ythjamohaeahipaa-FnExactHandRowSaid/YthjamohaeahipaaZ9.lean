/- Steps of the proof, joined from several texts: XE PO XF XG XK PP. -/
import Derived.Test.YthjamohaeahipaaZ8
import Derived.Test.YthjamohaeahipaaZ1
import Derived.Deep.RegionHeld3

/- Charts: ifChart, the last columns, own copies. -/
namespace Go.Proofs.Ythjamohaeahipaa
open Go.RowKit

theorem chartStacks_last {n : Int} {rs : List RowD} (h : chartB n rs = true) : ∃ m xs, (chartStacks n rs).length = m + 1 ∧ (chartStacks n rs)[m]? = some xs ∧ lastOf n rs = (xs.length : Int) := by
  have h1 := (chartB_of h).2.1.1
  have h2 : (chartStacks n rs).length = rs.length := by rw [chartStacks, if_pos h, stacksFrom_length]
  obtain ⟨m, hm⟩ : ∃ m, (chartStacks n rs).length = m + 1 := ⟨rs.length - 1, by omega⟩
  obtain ⟨xs, hx⟩ : ∃ xs, (chartStacks n rs)[m]? = some xs := ⟨_, List.getElem?_eq_getElem (by omega)⟩
  refine ⟨m, xs, hm, hx, ?_⟩
  unfold lastOf
  rw [List.getLast?_eq_getElem?, hm, Nat.add_sub_cancel, hx]
  rfl


end Go.Proofs.Ythjamohaeahipaa

/- A region that draws its order and whose last operation waits for all the others: it is carried out last. -/
namespace Go.Proofs.Ythjamohaeahipaa
open Go Go.RowKit

/-- What is left to do behind the region's other operations: these, one after the other. -/
def QTail (P : Program) (T : List Oper) (Q : Exit → Act → World → Prop) : Exit → Act → World → Prop
  | .normal, a, w => wpList P #[] Q T a w
  | e, a, w => Q e a w
def popB (ops : Array Oper) : Bool :=
  ops.toList.all (fun x => x.guard.isNone) &&
  (List.range ops.size).all (fun i => match ops[i]? with | some x => x.after.toList.all (fun e => !Region.binds .any e || decide (e.on < i)) | none => false) &&
  (List.range (ops.size - 1)).all (fun i => (List.range ops.size).any fun j => decide (i < j) && (match ops[j]? with | some x => x.after.toList.any (fun e => Region.binds .any e && decide (e.on = i)) | none => false))
theorem pop_guard {ops : Array Oper} (h : popB ops = true) {i : Nat} {x : Oper} (hx : ops[i]? = some x) : x.guard = none := by
  unfold popB at h
  simp only [Bool.and_eq_true, List.all_eq_true] at h
  have := h.1.1 x (by rw [Array.mem_toList_iff]; exact Array.mem_of_getElem? hx)
  simpa using this
theorem pop_low {ops : Array Oper} (h : popB ops = true) {i : Nat} {x : Oper} (hx : ops[i]? = some x) : ∀ e ∈ x.after, Region.binds .any e = true → e.on < i := by
  unfold popB at h
  simp only [Bool.and_eq_true, List.all_eq_true] at h
  have hi : i < ops.size := (Array.getElem?_eq_some_iff.1 hx).1
  have := h.1.2 i (by simpa using hi)
  rw [hx] at this
  simp only [List.all_eq_true, Bool.or_eq_true, Bool.not_eq_true', decide_eq_true_eq] at this
  intro e he hb
  rcases this e (by rw [Array.mem_toList_iff]; exact he) with h | h
  · rw [hb] at h; cases h
  · exact h
theorem pop_wait {ops : Array Oper} (h : popB ops = true) {i : Nat} (hi : i < ops.size - 1) : ∃ j x e, i < j ∧ ops[j]? = some x ∧ e ∈ x.after ∧ Region.binds .any e = true ∧ e.on = i := by
  unfold popB at h
  simp only [Bool.and_eq_true, List.all_eq_true] at h
  have := h.2 i (by simpa using hi)
  obtain ⟨j, hj, hb⟩ := List.any_eq_true.1 this
  simp only [Bool.and_eq_true, decide_eq_true_eq] at hb
  obtain ⟨hij, hb⟩ := hb
  cases hx : ops[j]? with
  | none => rw [hx] at hb; cases hb
  | some x =>
    rw [hx] at hb
    obtain ⟨e, he, hb⟩ := List.any_eq_true.1 hb
    simp only [Bool.and_eq_true, decide_eq_true_eq] at hb
    exact ⟨j, x, e, hij, hx, by rw [← Array.mem_toList_iff]; exact he, hb.1, hb.2⟩

structure PopRel (ops : Array Oper) (l l' : Array Bool) : Prop where
  s : l.size = ops.size
  s' : l'.size + 1 = ops.size
  same : ∀ i, i < l'.size → l[i]? = l'[i]?
  last : l[l'.size]? = some false
  closed : ∀ i x, i < l'.size → l[i]? = some true → ops[i]? = some x → ∀ e ∈ x.after, Region.binds .any e = true → l[e.on]? = some true
theorem getD_f {l : Array Bool} {i : Nat} : l.getD i true = false ↔ l[i]? = some false := by
  rw [Array.getD_eq_getD_getElem?]
  cases l[i]? with
  | none => simp
  | some b => simp
theorem getD_t {l : Array Bool} {i : Nat} : l.getD i false = true ↔ l[i]? = some true := by
  rw [Array.getD_eq_getD_getElem?]
  cases l[i]? with
  | none => simp
  | some b => simp
theorem ready_iff {md : Region.Mode} {ops : Array Oper} {l : Array Bool} {i : Nat} : i ∈ Region.ready md ops l ↔ l[i]? = some false ∧ ∃ x, ops[i]? = some x ∧ ∀ e ∈ x.after, Region.binds md e = true → l[e.on]? = some true := by
  rw [mem_ready, getD_f]
  constructor
  · rintro ⟨h1, x, hx, h2⟩; exact ⟨h1, x, hx, fun e he hb => getD_t.1 (h2 e he hb)⟩
  · rintro ⟨h1, x, hx, h2⟩; exact ⟨h1, x, hx, fun e he hb => getD_t.2 (h2 e he hb)⟩
section
variable {P : Program} {ops : Array Oper} {Q : Exit → Act → World → Prop} {l l' : Array Bool}
theorem pop_at {i : Nat} (hi : i < ops.size - 1) : ops.pop[i]? = ops[i]? := by
  rw [Array.getElem?_pop]
  simp [hi]
theorem PopRel.ready (h : PopRel ops l l') (hp : popB ops = true) {i : Nat} (hi : i < l'.size) : i ∈ Region.ready .any ops.pop l' ↔ i ∈ Region.ready .any ops l := by
  have hs := h.s'
  rw [ready_iff, ready_iff, pop_at (by omega), h.same i hi]
  constructor
  · rintro ⟨h1, x, hx, h2⟩
    exact ⟨h1, x, hx, fun e he hb => by have := pop_low hp hx e he hb; rw [h.same _ (by omega)]; exact h2 e he hb⟩
  · rintro ⟨h1, x, hx, h2⟩
    exact ⟨h1, x, hx, fun e he hb => by have := pop_low hp hx e he hb; rw [← h.same _ (by omega)]; exact h2 e he hb⟩
theorem PopRel.all_of_last (h : PopRel ops l l') (hp : popB ops = true) (hn : l'.size ∈ Region.ready .any ops l) : ∀ i, i < l'.size → l[i]? = some true := by
  have hs := h.s'
  have key : ∀ m i, l'.size - i ≤ m → i < l'.size → l[i]? = some true := by
    intro m
    induction m with
    | zero => intro i h1 h2; omega
    | succ m ih =>
      intro i h1 h2
      obtain ⟨j, x, e, hij, hx, he, hb, hon⟩ := pop_wait hp (i := i) (by omega)
      have hj : j < ops.size := (Array.getElem?_eq_some_iff.1 hx).1
      by_cases hjn : j = l'.size
      · subst hjn
        obtain ⟨_, y, hy, h3⟩ := ready_iff.1 hn
        rw [hx] at hy
        injection hy with hy
        subst hy
        rw [← hon]
        exact h3 e he hb
      · have := ih j (by omega) (by omega)
        rw [← hon]
        exact h.closed j x (by omega) this hx e he hb
  intro i hi
  exact key l'.size i (by omega) hi
theorem PopRel.all_of_none (h : PopRel ops l l') (hp : popB ops = true) (hn : Region.ready .any ops.pop l' = []) : ∀ i, i < l'.size → l[i]? = some true := by
  have hs := h.s'
  intro i
  induction i using Nat.strongRecOn with
  | ind i ih =>
    intro hi
    have hx : ops[i]? = some ops[i] := Array.getElem?_eq_getElem (by omega)
    have hl : l[i]? = some (l[i]'(by rw [h.s]; omega)) := Array.getElem?_eq_getElem (by rw [h.s]; omega)
    cases hb : l[i]'(by rw [h.s]; omega) with
    | true => rw [hl, hb]
    | false =>
      rw [hb] at hl
      have : i ∈ Region.ready .any ops l := ready_iff.2 ⟨hl, _, hx, fun e he hb => by have := pop_low hp hx e he hb; exact ih _ this (by omega)⟩
      rw [← h.ready hp hi, hn] at this
      cases this
theorem PopRel.last_ready (h : PopRel ops l l') (hp : popB ops = true) (ha : ∀ i, i < l'.size → l[i]? = some true) : l'.size ∈ Region.ready .any ops l := by
  have hs := h.s'
  have hx : ops[l'.size]? = some (ops[l'.size]'(by omega)) := Array.getElem?_eq_getElem (by omega)
  exact ready_iff.2 ⟨h.last, _, hx, fun e he hb => ha _ (pop_low hp hx e he hb)⟩
theorem PopRel.step (h : PopRel ops l l') {i : Nat} (hi : i < l'.size) (hr : i ∈ Region.ready .any ops l) : PopRel ops (l.setIfInBounds i true) (l'.setIfInBounds i true) := by
  have hs := h.s
  have hs' := h.s'
  have at_ : ∀ j : Nat, l[j]? = some true → (l.setIfInBounds i true)[j]? = some true := by
    intro j hj
    rw [Array.getElem?_setIfInBounds]
    split
    · rename_i e; subst e; rw [if_pos (by omega)]
    · exact hj
  refine ⟨by simpa using hs, by simpa using hs', fun j hj => ?_, ?_, fun j x hj hl hx e he hb => ?_⟩
  · simp only [Array.size_setIfInBounds] at hj
    rw [Array.getElem?_setIfInBounds, Array.getElem?_setIfInBounds]
    split
    · rw [if_pos (by omega)]
    · exact h.same j hj
  · simp only [Array.size_setIfInBounds]
    rw [Array.getElem?_setIfInBounds, if_neg (by omega)]
    exact h.last
  · simp only [Array.size_setIfInBounds] at hj
    rw [Array.getElem?_setIfInBounds] at hl
    split at hl
    · rename_i e'
      subst e'
      obtain ⟨_, y, hy, h3⟩ := ready_iff.1 hr
      rw [hx] at hy
      injection hy with hy
      subst hy
      exact at_ _ (h3 e he hb)
    · exact at_ _ (h.closed j x hj hl hx e he hb)
theorem Oper.wp_le {o : Oper} {a : Act} {w : World} {K K' : Act → World → Prop} {Q' : Exit → Act → World → Prop} (hk : ∀ a w, K a w → K' a w) (hp : ∀ c a w, Q (.panic c) a w → Q' (.panic c) a w) (hout : LetsOut Q → LetsOut Q')
    (hh : o.wp P a w K Q) : o.wp P a w K' Q' := by
  unfold Oper.wp at *
  generalize (execOp a.eval o).run P w = r at *
  cases r with
  | ok n w' =>
    cases n <;> simp only [Oper.upon] at hh ⊢ <;>
      first
        | exact hk _ _ hh
        | exact Calls.mono hh (fun e w'' he => by cases e <;> first | exact hk _ _ he | exact hout he | exact hp _ _ _ he)
        | exact Rows.mono hh (fun _ _ he => hk _ _ he)
  | halt x w' => cases x <;> simp only [Oper.upon] at hh ⊢ <;> exact hp _ _ _ hh
theorem wpOp_le {i : Nat} {a : Act} {w : World} {K K' : Act → World → Prop} {Q' : Exit → Act → World → Prop} (hk : ∀ a w, K a w → K' a w) (hp : ∀ c a w, Q (.panic c) a w → Q' (.panic c) a w) (hout : LetsOut Q → LetsOut Q')
    (hh : wpOp P ops Q i K a w) : wpOp P ops Q' i K' a w := by
  unfold wpOp at *
  split
  · rename_i hx
    rw [hx] at hh
    exact hk _ _ hh
  · rename_i o ho
    simp only [ho] at hh
    split
    · rename_i hw
      simp only [hw, if_true] at hh
      exact hh.imp (Oper.wp_le hk hp hout) fun h => ⟨h.1, hout h.2⟩
    · rename_i hw
      simp only [hw] at hh
      exact hk _ _ hh
theorem wpAny_le {Q' : Exit → Act → World → Prop} {md : Region.Mode} (hn : ∀ a w, Q .normal a w → Q' .normal a w) (hp : ∀ c a w, Q (.panic c) a w → Q' (.panic c) a w) (hout : LetsOut Q → LetsOut Q') :
    ∀ (fuel : Nat) (l : Array Bool) (a : Act) (w : World), wpAny P md ops Q fuel l a w → wpAny P md ops Q' fuel l a w
  | 0, _, _, _, h => ⟨h.1, hn _ _ h.2⟩
  | fuel + 1, _, _, _, h => ⟨fun h0 => hn _ _ (h.1 h0), fun i hi => wpOp_le (fun _ _ h' => wpAny_le hn hp hout fuel _ _ _ h') hp hout (h.2 i hi)⟩
theorem wpList_join {T : List Oper} {o : Oper} (hg : ∀ x ∈ T, x.guard = none) : ∀ (a : Act) (w : World), wpList P #[] Q (T ++ [o]) a w → wpList P #[] (QTail P [o] Q) T a w := by
  induction T with
  | nil => intro a w h; exact h
  | cons x T ih =>
    intro a w h
    rw [List.cons_append] at h
    unfold wpList at h ⊢
    have hw : Region.wanted x (yielded #[] a.tmps) = true := by simp [Region.wanted, hg x (by simp)]
    simp only [hw, if_true] at h ⊢
    exact h.imp (Oper.wp_le (ih fun y hy => hg y (by simp [hy])) (fun _ _ _ h => h) (fun ⟨a, w, h⟩ => ⟨a, w, h⟩)) fun h => ⟨h.1, h.2.imp fun a h => h.imp fun w h => h⟩
theorem pop_fin {o : Oper} (h : PopRel ops l l') (hp : popB ops = true) (ho : ops[l'.size]? = some o) (ha : ∀ i, i < l'.size → l[i]? = some true) {a : Act} {w : World} (hq : wpList P #[] Q [o] a w) (fuel : Nat) :
    wpOp P ops Q l'.size (wpAny P .any ops Q fuel (l.setIfInBounds l'.size true)) a w := by
  have hg := pop_guard hp ho
  have hr : Region.ready .any ops (l.setIfInBounds l'.size true) = [] := by
    apply List.eq_nil_iff_forall_not_mem.2
    intro i hi
    obtain ⟨h1, x, hx, _⟩ := ready_iff.1 hi
    rw [Array.getElem?_setIfInBounds] at h1
    split at h1
    · split at h1
      · cases h1
      · cases h1
    · have hil : i < ops.size := (Array.getElem?_eq_some_iff.1 hx).1
      have hs := h.s'
      rw [ha i (by omega)] at h1
      cases h1
  have fin : ∀ a w, Q .normal a w → wpAny P .any ops Q fuel (l.setIfInBounds l'.size true) a w := by
    intro a w hq
    cases fuel with
    | zero => exact ⟨hr, hq⟩
    | succ fuel => exact ⟨fun _ => hq, by rw [hr]; simp⟩
  unfold wpOp
  rw [ho]
  have hw : Region.wanted o (yielded ops a.tmps) = true := by simp [Region.wanted, hg]
  have hw0 : Region.wanted o (yielded #[] a.tmps) = true := by simp [Region.wanted, hg]
  simp only [hw, if_true]
  unfold wpList at hq
  simp only [hw0, if_true] at hq
  rcases hq with hq | hq
  · exact .inl (Oper.wp_mono fin hq)
  · exact .inr hq
theorem wpAny_pop {o : Oper} (hp : popB ops = true) (ho : ops[ops.size - 1]? = some o) : ∀ (fuel : Nat) (l l' : Array Bool) (a : Act) (w : World), PopRel ops l l' →
    wpAny P .any ops.pop (QTail P [o] Q) fuel l' a w → wpAny P .any ops Q (fuel + 1) l a w := by
  intro fuel
  induction fuel with
  | zero =>
    intro l l' a w h H
    have hs := h.s'
    have ha := h.all_of_none hp H.1
    have hn := h.last_ready hp ha
    have ho' : ops[l'.size]? = some o := by rw [← ho]; congr 1; omega
    refine ⟨fun h0 => (by rw [h0] at hn; cases hn), fun i hi => ?_⟩
    obtain ⟨h1, x, hx, _⟩ := ready_iff.1 hi
    have hil : i < ops.size := (Array.getElem?_eq_some_iff.1 hx).1
    have : i = l'.size := by
      rcases Nat.lt_or_ge i l'.size with hlt | hge
      · rw [ha i hlt] at h1; cases h1
      · omega
    subst this
    exact pop_fin h hp ho' ha H.2 0
  | succ fuel ih =>
    intro l l' a w h H
    have hs := h.s'
    have ho' : ops[l'.size]? = some o := by rw [← ho]; congr 1; omega
    refine ⟨fun h0 => ?_, fun i hi => ?_⟩
    · have hn : Region.ready .any ops.pop l' = [] := by
        apply List.eq_nil_iff_forall_not_mem.2
        intro i hi
        have hil : i < l'.size := by
          have h1 := (ready_iff.1 hi).1
          exact (Array.getElem?_eq_some_iff.1 h1).1
        rw [h.ready hp hil, h0] at hi
        cases hi
      have := h.last_ready hp (h.all_of_none hp hn)
      rw [h0] at this
      cases this
    · have hil : i < l.size := by
        have h1 := (ready_iff.1 hi).1
        exact (Array.getElem?_eq_some_iff.1 h1).1
      have hsz := h.s
      by_cases hin : i = l'.size
      · subst hin
        have ha := h.all_of_last hp hi
        have hn : Region.ready .any ops.pop l' = [] := by
          apply List.eq_nil_iff_forall_not_mem.2
          intro i hi
          have h1 := (ready_iff.1 hi).1
          have hil : i < l'.size := (Array.getElem?_eq_some_iff.1 h1).1
          rw [← h.same i hil, ha i hil] at h1
          cases h1
        exact pop_fin h hp ho' ha (H.1 hn) (fuel + 1)
      · have hlt : i < l'.size := by omega
        have h2 := H.2 i ((h.ready hp hlt).2 hi)
        have hx : ops[i]? = some (ops[i]'(by omega)) := Array.getElem?_eq_getElem (by omega)
        have hg := pop_guard hp hx
        unfold wpOp at h2 ⊢
        rw [pop_at (by omega), hx] at h2
        rw [hx]
        have hw1 : Region.wanted (ops[i]'(by omega)) (yielded ops.pop a.tmps) = true := by simp [Region.wanted, hg]
        have hw2 : Region.wanted (ops[i]'(by omega)) (yielded ops a.tmps) = true := by simp [Region.wanted, hg]
        simp only [hw1, if_true] at h2
        simp only [hw2, if_true]
        rcases h2 with h2 | ⟨h2, h3⟩
        · exact .inl (Oper.wp_le (fun a w hk => ih _ _ a w (h.step hlt hi) hk) (fun _ _ _ h => h) (fun ⟨a, w, h⟩ => ⟨a, w, h⟩) h2)
        · exact .inr ⟨h2, h3⟩
theorem PopRel.start (hpos : 0 < ops.size) : PopRel ops (Array.replicate ops.size false) (Array.replicate (ops.size - 1) false) := by
  refine ⟨by simp, by simp; omega, fun i hi => ?_, ?_, fun i x hi hl => ?_⟩
  · simp at hi
    simp [Array.getElem?_replicate, hi]
    omega
  · simp [Array.getElem?_replicate]
    omega
  · simp [Array.getElem?_replicate] at hl
/-- The region without its last k operations. -/
def pops : Nat → Array Oper → Array Oper
  | 0, ops => ops
  | k + 1, ops => pops k ops.pop
def popsB : Nat → Array Oper → Bool
  | 0, _ => true
  | k + 1, ops => popB ops && decide (0 < ops.size) && popsB k ops.pop
def tailOf : Nat → Array Oper → List Oper
  | 0, _ => []
  | k + 1, ops => tailOf k ops.pop ++ (ops.back?).toList
theorem tailOf_guard {k : Nat} : ∀ {ops : Array Oper}, popsB k ops = true → ∀ x ∈ tailOf k ops, x.guard = none := by
  induction k with
  | zero => intro ops _ x hx; simp [tailOf] at hx
  | succ k ih =>
    intro ops h x hx
    simp only [popsB, Bool.and_eq_true] at h
    simp only [tailOf, List.mem_append] at hx
    rcases hx with hx | hx
    · exact ih h.2 x hx
    · simp only [Option.mem_toList] at hx
      exact pop_guard h.1.1 (i := ops.size - 1) (by rw [← Array.back?_eq_getElem?]; exact hx)
theorem wpAny_pops {k : Nat} : ∀ {ops : Array Oper} {Q : Exit → Act → World → Prop} {a : Act} {w : World}, popsB k ops = true →
    wpAny P .any (pops k ops) (QTail P (tailOf k ops) Q) (ops.size - k) (Array.replicate (ops.size - k) false) a w → wpAny P .any ops Q ops.size (Array.replicate ops.size false) a w := by
  induction k with
  | zero => intro ops Q a w _ h; exact wpAny_le (Q := QTail P (tailOf 0 ops) Q) (Q' := Q) (fun _ _ h => h) (fun _ _ _ h => h) (fun ⟨a, w, h⟩ => ⟨a, w, h⟩) _ _ _ _ h
  | succ k ih =>
    intro ops Q a w hp h
    simp only [popsB, Bool.and_eq_true, decide_eq_true_eq] at hp
    obtain ⟨⟨hp1, hpos⟩, hp2⟩ := hp
    obtain ⟨o, ho⟩ : ∃ o, ops[ops.size - 1]? = some o := ⟨_, Array.getElem?_eq_getElem (by omega)⟩
    have hb : ops.back? = some o := by rw [Array.back?_eq_getElem?]; exact ho
    have h1 : wpAny P .any ops.pop (QTail P [o] Q) ops.pop.size (Array.replicate ops.pop.size false) a w := by
      refine ih hp2 ?_
      have e : ops.pop.size - k = ops.size - (k + 1) := by simp; omega
      rw [e]
      refine wpAny_le (Q := QTail P (tailOf (k + 1) ops) Q) (Q' := QTail P (tailOf k ops.pop) (QTail P [o] Q)) (fun a w hn => ?_) (fun _ _ _ h => h) (fun ⟨a, w, h⟩ => ⟨a, w, h⟩) _ _ _ _ h
      have hn' : wpList P #[] Q (tailOf k ops.pop ++ [o]) a w := by
        have : wpList P #[] Q (tailOf k ops.pop ++ (ops.back?).toList) a w := hn
        rwa [hb] at this
      exact wpList_join (tailOf_guard hp2) a w hn'
    have h2 := wpAny_pop (Q := Q) hp1 ho ops.pop.size (Array.replicate ops.size false) (Array.replicate ops.pop.size false) a w (by rw [Array.size_pop]; exact PopRel.start hpos) h1
    have e : ops.pop.size + 1 = ops.size := by simp; omega
    rwa [e] at h2
/-- The beginning of such a region: its last k operations are carried out last, one after the other. -/
theorem wp_region_pops (k : Nat) {S : World → Prop} {id : Nat} {a : Act} {w : World} {pre : Array Oper} {T : List Oper} {n : Nat} (hm : P.follows .mixedOrders = true) (hp : popsB k ops = true)
    (hpre : pops k ops = pre) (hT : tailOf k ops = T) (hn : ops.size - k = n) (hS : S w.drew)
    (h : S w.drew → wpAnyH P .any pre (QTail P T Q) S n (Array.replicate n false) a w.drew) : (Code.region id ops true).wp P Q a w := by
  subst hpre hT hn
  exact wp_region_any hm (wpAny_pops hp (wpAny_of_held _ _ _ _ (h hS)))
end

end Go.Proofs.Ythjamohaeahipaa

/- Charts: own copies, the given side. -/
namespace Go.Proofs.Ythjamohaeahipaa
open Go Go.RowKit


end Go.Proofs.Ythjamohaeahipaa

/- Charts: StackCharts. -/
namespace Go.Proofs.Ythjamohaeahipaa
open Go Go.RowKit

/-- Rows behind rows, their stitches in blocks of their own. -/
theorem CellsRows.append {w : World} {lo m hi : Nat} {cs ds : List Value} {rs ss : List RowD} (h : CellsRows w lo m cs rs) (h' : CellsRows w m hi ds ss) (h1 : lo ≤ m) (h2 : m ≤ hi) : CellsRows w lo hi (cs ++ ds) (rs ++ ss) := by
  have hB : ∀ {i : Nat} {v : Value} {g : Nat}, cs[i]? = some v → v.ownBlock = some g → g < m := fun hi' hv => (h.block hi' hv).2.1
  have hC : ∀ {i : Nat} {v : Value} {g : Nat}, ds[i]? = some v → v.ownBlock = some g → m ≤ g := fun hi' hv => (h'.block hi' hv).1
  obtain ⟨ha, hb, hc⟩ := h
  obtain ⟨ha', hb', hc'⟩ := h'
  refine ⟨by simp [ha, ha']; omega, fun k q hq => ?_, fun i j v v' g hi' hj hv hv' => ?_⟩
  · rcases Nat.lt_or_ge k rs.length with hk | hk
    · rw [List.getElem?_append_left hk] at hq
      obtain ⟨A2, c2, e0, e1, e2, e3⟩ := hb k q hq
      exact ⟨A2, c2, by rw [List.getElem?_append_left (by omega)]; exact e0, by rw [List.getElem?_append_left (by omega)]; exact e1, by rw [List.getElem?_append_left (by omega)]; exact e2, e3.mono (Nat.le_refl _) h2⟩
    · rw [List.getElem?_append_right hk] at hq
      obtain ⟨A2, c2, e0, e1, e2, e3⟩ := hb' _ q hq
      refine ⟨A2, c2, ?_, ?_, ?_, e3.mono h1 (Nat.le_refl _)⟩
      · rw [List.getElem?_append_right (by omega), show k * 3 - cs.length = (k - rs.length) * 3 by omega]; exact e0
      · rw [List.getElem?_append_right (by omega), show k * 3 + 1 - cs.length = (k - rs.length) * 3 + 1 by omega]; exact e1
      · rw [List.getElem?_append_right (by omega), show k * 3 + 2 - cs.length = (k - rs.length) * 3 + 2 by omega]; exact e2
  · rcases Nat.lt_or_ge i cs.length with ei | ei
    · rw [List.getElem?_append_left ei] at hi'
      rcases Nat.lt_or_ge j cs.length with ej | ej
      · rw [List.getElem?_append_left ej] at hj
        exact hc i j v v' g hi' hj hv hv'
      · rw [List.getElem?_append_right ej] at hj
        have := hB hi' hv
        have := hC hj hv'
        omega
    · rw [List.getElem?_append_right ei] at hi'
      rcases Nat.lt_or_ge j cs.length with ej | ej
      · rw [List.getElem?_append_left ej] at hj
        have := hC hi' hv
        have := hB hj hv'
        omega
      · rw [List.getElem?_append_right ej] at hj
        have := hc' _ _ v v' g hi' hj hv hv'
        omega
theorem CellsRows.one {w : World} {lo hi : Nat} {cs : List Value} {rs : List RowD} (h : CellsRows w lo hi cs rs) : ∀ u ∈ cs, u.oneCell' = true := by
  intro u hu
  obtain ⟨i, hi⟩ := List.getElem?_of_mem hu
  have hil : i < cs.length := (List.getElem?_eq_some_iff.1 hi).1
  have hl := h.1
  obtain ⟨A', c', h0, h1, h2, _⟩ := h.2.1 (i / 3) _ (List.getElem?_eq_getElem (by omega))
  have : i = i / 3 * 3 ∨ i = i / 3 * 3 + 1 ∨ i = i / 3 * 3 + 2 := by omega
  rcases this with e | e | e
  · rw [← e, hi] at h0; injection h0 with h0; subst h0; rfl
  · rw [← e, hi] at h1; injection h1 with h1; subst h1; rfl
  · rw [← e, hi] at h2; injection h2 with h2; subst h2; rfl
theorem RowsR.drew1 {w : World} {A : Option Addr} {rs : List RowD} (h : RowsR w A rs) : RowsR (World.drew w) A rs := h
theorem Blk.drew1 {w : World} {g : Nat} {t : TypeId} {cs : Array Value} (h : Blk w g t cs) : Blk (World.drew w) g t cs := h
theorem lens_of_chart {n : Int} {rs : List RowD} (h : chartB n rs = true) : rs.length ≤ 8 ∧ ∀ r ∈ rs, r.s.length ≤ 16 := ⟨(chart_size h).1, fun r hr => (rowB_of ((chartB_of h).2.2 r hr)).2.2.2⟩
theorem stackCode_1 {n m : Int} {rs ss : List RowD} (h : chartB n rs = false ∨ chartB m ss = false) : stackCode n rs m ss = 1 := by
  unfold stackCode
  rw [if_neg (by rcases h with h | h <;> simp [h])]
theorem stackCode_2 {n m : Int} {rs ss : List RowD} (h1 : chartB n rs = true) (h2 : chartB m ss = true) : stackCode n rs m ss = if lastOf n rs = m then (if chartB n (rs ++ ss) then 0 else 5) else 10 := by
  unfold stackCode
  rw [if_pos (by simp [h1, h2])]


end Go.Proofs.Ythjamohaeahipaa

/- Charts: one inner slice of rows grows; the plain law of charts side by side. -/
namespace Go.Proofs.Ythjamohaeahipaa
open Go Go.RowKit

/-- append of some cells that stand in memory; where the new slice lies. -/
theorem wp_appendC_at {P : Program} (w : World) {o : Oper} {a : Act} {K : Act → World → Prop} {Q : Exit → Act → World → Prop} (s x : Operand) (t : TypeId)
    (hop : o.op = .call { callee := .builtin .append, args := #[s, x], argTypes := #[t, t] })
    (e : TypeId) (i : TypeInfo) (z : Value) (size bytes : Nat) (ht : P.underlying t = some (.slice e)) (hi : P.info? e = some i) (hz : i.zero = some z)
    (hsize : i.size = size) (hby : i.bytes = bytes) (hzs : z.cells.size = size) (hsz : 0 < size)
    {lo hi' n c : Nat} {A : Option Addr} {cs : List Value} (hs : a.eval s = .slice A n c) (hown : OwnC w lo hi' e size A n c cs) (hlo : lo ≤ w.heap.size)
    (A2 : Option Addr) (m c2 : Nat) (news : List Value) (hx : a.eval x = .slice A2 m c2) (hl : news.length = m * size)
    (hnews : ∀ j u, news[j]? = some u → ∃ b off, A2 = some ⟨b, off, none⟩ ∧ w.cell? ⟨b, off + j, none⟩ = some u) (h1 : ∀ u ∈ news, u.oneCell' = true)
    (h63 : n + m ≤ maxLen) (hbytes : (n + m) * bytes ≤ 140737488355328)
    (h : ∀ A' c' w', OwnC w' lo w'.heap.size e size A' (n + m) c' (cs ++ news) → w.grownBy w' (Value.slice A n c).ownBlock → Below lo w w' → ((Value.slice A' (n + m) c').ownBlock = (Value.slice A n c).ownBlock ∨ (Value.slice A' (n + m) c').ownBlock = some w.heap.size) → K (a.put o.dst (.slice A' (n + m) c')) w') : o.wp P a w K Q := by
  cases A2 with
  | none =>
    have hn : news = [] := by
      cases news with
      | nil => rfl
      | cons u r => obtain ⟨_, _, h, _⟩ := hnews 0 u rfl; cases h
    subst hn
    have hm : m = 0 := by
      rcases Nat.eq_zero_or_pos m with h | h
      · exact h
      · have := Nat.mul_pos h hsz
        rw [← hl] at this
        simp at this
    subst hm
    have hr : (Builtin.append_ #[t, t] o.type #[.slice A n c, .slice none 0 c2]).run P w = .ok (.slice A n c) w := by
      rcases hown.form with ⟨rfl, rfl, rfl, _⟩ | ⟨g, cur, rfl, _, _, _, hnc, _⟩
      · simp [Builtin.append_, run_underlying ht, sizeOf, typeInfo, hi, Builtin.lenOf, Builtin.firstCells]
      · simp [Builtin.append_, run_underlying ht, sizeOf, typeInfo, hi, Builtin.lenOf, Builtin.firstCells, hnc, storeCells]
    unfold Oper.wp execOp
    simp only [hop, resolve, invoke, builtin, Sem.run_bind, Sem.run_pure, Result.andThen_ok, List.map_toArray, List.map_cons, List.map_nil, hs, hx, hr]
    have := h A c w (by simpa using (OwnC.of_own hown.own (Nat.le_refl _))) (World.grownBy.refl w _) (Below.refl _ _) (by simp [Value.ownBlock])
    have h2 : K (a.put o.dst (.slice A n c)) w := by simpa using this
    exact h2
  | some ad =>
    obtain ⟨v', w', hr, h2, h3, _, h5⟩ := run_append_own_at (P := P) w lo t o.type e i z size bytes ht hi hz hsize hby hzs hsz (.slice A n c) n cs hown.own ad m c2 news hl (by
      intro j u hu
      obtain ⟨b, off, he, hc⟩ := hnews j u hu
      injection he with he
      subst he
      unfold Addr.add
      split
      · subst_vars; simpa using hc
      · exact hc) h1 h63 hbytes hlo
    obtain ⟨A', c', rfl, h4⟩ := OwnC.of_own' h2
    unfold Oper.wp execOp
    simp only [hop, resolve, invoke, builtin, Sem.run_bind, Sem.run_pure, Result.andThen_ok, List.map_toArray, List.map_cons, List.map_nil, hs, hx, hr]
    exact h A' c' w' h4 h3 (grown_below hown hlo h3) h5

/- The type of rows is 29. -/
/-- One inner slice of rows grows, and its row's cell is set to it. -/
theorem OwnRows.grow {w : World} {lo hi n : Nat} {A : Option Addr} {c : Nat} {rs : List RowD} (h : OwnRows w lo hi A n c rs) (hhi : hi ≤ w.heap.size) {k : Nat} {r : RowD} (hx : rs[k]? = some r) :
    ∃ g A' c', A = some ⟨g, 0, none⟩ ∧ lo ≤ g ∧ g < hi ∧ w.cell? ⟨g, k * 3, none⟩ = some (.int .i64 r.d) ∧ w.cell? ⟨g, k * 3 + 1, none⟩ = some (.int .i64 r.r) ∧ w.cell? ⟨g, k * 3 + 2, none⟩ = some (.slice A' r.s.length c') ∧ OwnI w lo hi A' c' r.s ∧
      ∀ (w5 : World) (A2 : Option Addr) (c2 : Nat) (ys : List Int), w.grownBy w5 (Value.slice A' r.s.length c').ownBlock → OwnI w5 lo w5.heap.size A2 c2 ys →
        ((Value.slice A2 ys.length c2).ownBlock = (Value.slice A' r.s.length c').ownBlock ∨ (Value.slice A2 ys.length c2).ownBlock = some w.heap.size) →
        w5.frozen? ⟨g, k * 3 + 2, none⟩ = false ∧ w5.cell? ⟨g, k * 3 + 2, none⟩ = some (.slice A' r.s.length c') ∧ OwnRows (w5.setCell ⟨g, k * 3 + 2, none⟩ (.slice A2 ys.length c2)) lo w5.heap.size A n c (rs.set k ⟨r.d, r.r, ys⟩) := by
  obtain ⟨cs, ho, ha, hb, hc⟩ := h.ex
  have hk : k < rs.length := (List.getElem?_eq_some_iff.1 hx).1
  obtain ⟨A', c', e0, e1, e2, h2⟩ := hb k r hx
  obtain ⟨g, rfl, hg1, hg2, q0, _⟩ := ho.cell (j := k * 3) (by omega)
  obtain ⟨_, hA, _, _, q1, _⟩ := ho.cell (j := k * 3 + 1) (by omega)
  injection hA with hA
  injection hA with hA
  subst hA
  obtain ⟨_, hA, _, _, q2, _⟩ := ho.cell (j := k * 3 + 2) (by omega)
  injection hA with hA
  injection hA with hA
  subst hA
  have e0' := e0; have e1' := e1; have e2' := e2
  rw [List.getElem?_eq_getElem (by omega)] at e0' e1' e2'
  injection e0' with e0'
  injection e1' with e1'
  injection e2' with e2'
  rw [e0'] at q0
  rw [e1'] at q1
  rw [e2'] at q2
  refine ⟨g, A', c', rfl, hg1, hg2, q0, q1, q2, h2, fun w5 A2 c2 ys hgr hn hat => ?_⟩
  have t3 : (29 : TypeId) ≠ 2 := by decide
  have hsz := hgr.size
  have ho5 := ho.grownT h2 t3 hgr
  obtain ⟨_, hA, _, _, q2', f2'⟩ := ho5.cell (j := k * 3 + 2) (by omega)
  injection hA with hA
  injection hA with hA
  subst hA
  rw [e2'] at q2'
  refine ⟨f2', q2', ⟨_, (ho5.store _).1.mono (Nat.le_refl _) (by omega), ?_⟩⟩
  have far : ∀ (lo' hi' : Nat) (B : Option Addr) (cB : Nat) (zs : List Int) (u : Value), OwnI w5 lo' hi' B cB zs → OwnI (w5.setCell ⟨g, k * 3 + 2, none⟩ u) lo' hi' B cB zs := by
    intro lo' hi' B cB zs u hB
    refine hB.keepT fun q cur _ _ hq => Below.heap_setCell w5 _ u q ?_
    rintro rfl
    rcases ho5.form with ⟨hA, _⟩ | ⟨q', cur2, hA, _, _, hh, _⟩
    · cases hA
    · injection hA with hA
      injection hA with hA
      subst hA
      rw [hq] at hh
      injection hh with hh
      injection hh with _ hh
      exact t3 hh.symm
  have blk : ∀ {i : Nat} {v : Value} {q : Nat}, cs[i]? = some v → v.ownBlock = some q → q < hi := fun hi' hv => ((show CellsRows w lo hi cs rs from ⟨ha, hb, hc⟩).block hi' hv).2.1
  refine ⟨by simpa using ha, fun j z hz => ?_, fun i j v v' q hi' hj hv hv' => ?_⟩
  · by_cases e : k = j
    · subst e
      rw [List.getElem?_set_self hk] at hz
      injection hz with hz
      subst hz
      refine ⟨A2, c2, ?_, ?_, ?_, far _ _ _ _ _ _ hn⟩
      · rw [List.getElem?_set_ne (by omega)]; exact e0
      · rw [List.getElem?_set_ne (by omega)]; exact e1
      · rw [List.getElem?_set_self (by omega)]
    · rw [List.getElem?_set_ne e] at hz
      obtain ⟨A3, c3, z0, z1, z2, h6⟩ := hb j z hz
      refine ⟨A3, c3, ?_, ?_, ?_, (far _ _ _ _ _ _ (h6.keep1 fun q hq => ?_)).mono (Nat.le_refl _) (by omega)⟩
      · rw [List.getElem?_set_ne (by omega)]; exact z0
      · rw [List.getElem?_set_ne (by omega)]; exact z1
      · rw [List.getElem?_set_ne (by omega)]; exact z2
      · subst hq
        have hql : q < w.heap.size := by have := h6.lt _ rfl; exact Nat.lt_of_lt_of_le this hhi
        refine hgr.block q hql fun eq => ?_
        have := hc (k * 3 + 2) (j * 3 + 2) _ _ q e2 z2 eq.symm rfl
        omega
  · have hil : i < cs.length := by have := (List.getElem?_eq_some_iff.1 hi').1; simpa using this
    have hjl : j < cs.length := by have := (List.getElem?_eq_some_iff.1 hj).1; simpa using this
    rw [List.getElem?_set] at hi' hj
    split at hi'
    · rename_i ei
      split at hj
      · rename_i ej; omega
      · rename_i ej
        split at hi'
        · injection hi' with hi'
          subst hi'
          exfalso
          have hql := blk hj hv'
          rcases hat with hat | hat
          · rw [hat] at hv
            have := hc (k * 3 + 2) j _ _ q e2 hj hv hv'
            omega
          · rw [hat] at hv
            injection hv with hv
            omega
        · cases hi'
    · split at hj
      · rename_i ei ej
        split at hj
        · injection hj with hj
          subst hj
          exfalso
          have hql := blk hi' hv
          rcases hat with hat | hat
          · rw [hat] at hv'
            have := hc (k * 3 + 2) i _ _ q e2 hi' hv' hv
            omega
          · rw [hat] at hv'
            injection hv' with hv'
            omega
        · cases hj
      · exact hc i j v v' q hi' hj hv hv'

/- The type of rows is 29. -/
theorem OwnRows.drew1 {w : World} {lo hi n : Nat} {A : Option Addr} {c : Nat} {rs : List RowD} (h : OwnRows w lo hi A n c rs) : OwnRows (World.drew w) lo hi A n c rs := h.keep fun _ _ _ _ => rfl
theorem OwnC.drew1 {w : World} {lo hi : Nat} {e : TypeId} {sz : Nat} {A : Option Addr} {n c : Nat} {cs : List Value} (h : OwnC w lo hi e sz A n c cs) : OwnC (World.drew w) lo hi e sz A n c cs := h.keep fun _ _ _ _ => rfl
theorem joinRows_snoc {rs ss : List RowD} {i : Nat} {a b : RowD} (ha : rs[i]? = some a) (hb : ss[i]? = some b) : joinRows (rs.take (i + 1)) (ss.take (i + 1)) = joinRows (rs.take i) (ss.take i) ++ [joinRow a b] := by
  induction i generalizing rs ss with
  | zero =>
    cases rs with
    | nil => simp at ha
    | cons x rs =>
      cases ss with
      | nil => simp at hb
      | cons y ss =>
        simp at ha hb
        subst ha hb
        simp [joinRows]
  | succ i ih =>
    cases rs with
    | nil => simp at ha
    | cons x rs =>
      cases ss with
      | nil => simp at hb
      | cons y ss =>
        simp only [List.getElem?_cons_succ] at ha hb
        simp only [List.take_succ_cons, joinRows, List.cons_append]
        rw [ih ha hb]
def joinTo (rs ss : List RowD) (i : Nat) : List RowD := joinRows (rs.take i) (ss.take i) ++ rs.drop i
theorem joinTo_at {rs ss : List RowD} (hl : rs.length = ss.length) {i : Nat} {a b : RowD} (ha : rs[i]? = some a) (hb : ss[i]? = some b) : (joinTo rs ss i)[i]? = some a ∧ (joinTo rs ss i).set i (joinRow a b) = joinTo rs ss (i + 1) := by
  have hi := (List.getElem?_eq_some_iff.1 ha).1
  have hjl : (joinRows (rs.take i) (ss.take i)).length = i := by rw [joinRows_length _ _ (by simp [hl]), List.length_take]; omega
  refine ⟨?_, ?_⟩
  · unfold joinTo
    rw [List.getElem?_append_right (by omega), hjl, Nat.sub_self, List.getElem?_drop, Nat.add_zero]
    exact ha
  · unfold joinTo
    rw [List.set_append_right _ _ (by omega), hjl, Nat.sub_self, drop_cons ha, List.set_cons_zero, joinRows_snoc ha hb, List.append_assoc]
    rfl
theorem joinTo_length {rs ss : List RowD} (hl : rs.length = ss.length) {i : Nat} (hi : i ≤ rs.length) : (joinTo rs ss i).length = rs.length := by
  unfold joinTo
  rw [List.length_append, joinRows_length _ _ (by simp [hl]), List.length_take, List.length_drop]
  omega
theorem joinTo_end {rs ss : List RowD} (hl : rs.length = ss.length) : joinTo rs ss rs.length = joinRows rs ss := by
  unfold joinTo
  rw [take_all (Nat.le_refl _), take_all (by omega), drop_all (Nat.le_refl _), List.append_nil]
theorem sameHeads_drop {rs ss : List RowD} {i : Nat} {a b : RowD} (ha : rs[i]? = some a) (hb : ss[i]? = some b) : sameHeads (rs.drop i) (ss.drop i) = (sameHead a b && sameHeads (rs.drop (i + 1)) (ss.drop (i + 1))) := by
  rw [drop_cons ha, drop_cons hb, sameHeads]
theorem sameHead_d {a b : RowD} (h : a.d ≠ b.d) : sameHead a b = false := by simp [sameHead, h]
theorem sameHead_r {a b : RowD} (h : a.r ≠ b.r) : sameHead a b = false := by simp [sameHead, h]
theorem besCode_1 {n m : Int} {rs ss : List RowD} (h : chartB n rs = false ∨ chartB m ss = false) : besCode n rs m ss = 1 := by
  unfold besCode
  rw [if_neg (by rcases h with h | h <;> simp [h])]
theorem besCode_2 {n m : Int} {rs ss : List RowD} (h1 : chartB n rs = true) (h2 : chartB m ss = true) : besCode n rs m ss = if rs.length = ss.length then (if sameHeads rs ss then (if chartB (n + m) (joinRows rs ss) then 0 else 5) else 6) else 6 := by
  unfold besCode
  rw [if_pos (by simp [h1, h2])]

end Go.Proofs.Ythjamohaeahipaa

/- A region whose last ready operation is a store. -/
namespace Go.Proofs.Ythjamohaeahipaa
open Go Go.RowKit

def lastQ (S : World → Prop) (Q : Exit → Act → World → Prop) : Exit → Act → World → Prop
  | .normal, a, w => S w ∧ Q .normal a w
  | e, a, w => Q e a w
theorem lastQ_mk {S : World → Prop} {Q : Exit → Act → World → Prop} {a : Act} {w : World} (hS : S w) (hQ : Q .normal a w) : lastQ S Q .normal a w := ⟨hS, hQ⟩
theorem wpAnyH_end {P : Program} {md : Region.Mode} {ops : Array Oper} {Q : Exit → Act → World → Prop} {S : World → Prop} {fuel : Nat} {listed : Array Bool} {a : Act} {w : World} {i : Nat} {o : Oper}
    (hr : Region.ready md ops listed = [i]) (ho : ops[i]? = some o) (hg : o.guard = none) (hall : Region.ready md ops (listed.setIfInBounds i true) = []) (h : wpList P #[] (lastQ S Q) [o] a w) : wpAnyH P md ops Q S (fuel + 1) listed a w :=
  wpAnyH_ready hr (by simp) (fun j hj => by
    obtain rfl := List.mem_singleton.1 hj
    unfold wpOp
    rw [ho]
    have hw : Region.wanted o (yielded ops a.tmps) = true := by simp [Region.wanted, hg]
    have hw0 : Region.wanted o (yielded #[] a.tmps) = true := by simp [Region.wanted, hg]
    simp only [hw, if_true]
    unfold wpList at h
    simp only [hw0, if_true] at h
    rcases h with h | ⟨h1, h2⟩
    · exact .inl (Oper.wp_le (fun a w hq => ⟨hq.1, wpAnyH_done hall hq.2 _⟩) (fun _ _ _ h => h) (fun ⟨a, w, h⟩ => ⟨a, w, h⟩) h)
    · exact .inr ⟨h1, h2.imp fun a h => h.imp fun w h => h⟩)

end Go.Proofs.Ythjamohaeahipaa
