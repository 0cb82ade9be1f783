/- Steps of the proof, joined from several texts: PO XF XG XK ZB ZC PP ZD ZE ZF ZG ZH ZI GB O4. -/
import Derived.Test.YthjamohaeahipaaGreatZ1
import Derived.Deep.RegionHeld3
import Derived.Test.YthjamohaeahipaaGreatZ8
import Derived.Test.YthjamohaeahipaaGreatZ3
import Derived.Test.YthjamohaeahipaaGreatZ6
import Derived.Test.YthjamohaeahipaaGreatZ2
import Derived.Laws.Bits64b

/- A region that draws its order and whose last operation waits for all the others: it is carried out last. -/
namespace Go.Proofs.YthjamohaeahipaaGreat
open Go Go.RowKit

/-- What is left to do behind the region's other operations: these, one after the other. -/
def QTail (P : Program) (T : List Oper) (Q : Exit → Act → World → Prop) : Exit → Act → World → Prop
  | .normal, a, w => wpList P #[] Q T a w
  | e, a, w => Q e a w
def popB (ops : Array Oper) : Bool :=
  ops.toList.all (fun x => x.guard.isNone) &&
  (List.range ops.size).all (fun i => match ops[i]? with | some x => x.after.toList.all (fun e => !Region.binds .any e || decide (e.on < i)) | none => false) &&
  (List.range (ops.size - 1)).all (fun i => (List.range ops.size).any fun j => decide (i < j) && (match ops[j]? with | some x => x.after.toList.any (fun e => Region.binds .any e && decide (e.on = i)) | none => false))
theorem pop_guard {ops : Array Oper} (h : popB ops = true) {i : Nat} {x : Oper} (hx : ops[i]? = some x) : x.guard = none := by
  unfold popB at h
  simp only [Bool.and_eq_true, List.all_eq_true] at h
  have := h.1.1 x (by rw [Array.mem_toList_iff]; exact Array.mem_of_getElem? hx)
  simpa using this
theorem pop_low {ops : Array Oper} (h : popB ops = true) {i : Nat} {x : Oper} (hx : ops[i]? = some x) : ∀ e ∈ x.after, Region.binds .any e = true → e.on < i := by
  unfold popB at h
  simp only [Bool.and_eq_true, List.all_eq_true] at h
  have hi : i < ops.size := (Array.getElem?_eq_some_iff.1 hx).1
  have := h.1.2 i (by simpa using hi)
  rw [hx] at this
  simp only [List.all_eq_true, Bool.or_eq_true, Bool.not_eq_true', decide_eq_true_eq] at this
  intro e he hb
  rcases this e (by rw [Array.mem_toList_iff]; exact he) with h | h
  · rw [hb] at h; cases h
  · exact h
theorem pop_wait {ops : Array Oper} (h : popB ops = true) {i : Nat} (hi : i < ops.size - 1) : ∃ j x e, i < j ∧ ops[j]? = some x ∧ e ∈ x.after ∧ Region.binds .any e = true ∧ e.on = i := by
  unfold popB at h
  simp only [Bool.and_eq_true, List.all_eq_true] at h
  have := h.2 i (by simpa using hi)
  obtain ⟨j, hj, hb⟩ := List.any_eq_true.1 this
  simp only [Bool.and_eq_true, decide_eq_true_eq] at hb
  obtain ⟨hij, hb⟩ := hb
  cases hx : ops[j]? with
  | none => rw [hx] at hb; cases hb
  | some x =>
    rw [hx] at hb
    obtain ⟨e, he, hb⟩ := List.any_eq_true.1 hb
    simp only [Bool.and_eq_true, decide_eq_true_eq] at hb
    exact ⟨j, x, e, hij, hx, by rw [← Array.mem_toList_iff]; exact he, hb.1, hb.2⟩

structure PopRel (ops : Array Oper) (l l' : Array Bool) : Prop where
  s : l.size = ops.size
  s' : l'.size + 1 = ops.size
  same : ∀ i, i < l'.size → l[i]? = l'[i]?
  last : l[l'.size]? = some false
  closed : ∀ i x, i < l'.size → l[i]? = some true → ops[i]? = some x → ∀ e ∈ x.after, Region.binds .any e = true → l[e.on]? = some true
theorem getD_f {l : Array Bool} {i : Nat} : l.getD i true = false ↔ l[i]? = some false := by
  rw [Array.getD_eq_getD_getElem?]
  cases l[i]? with
  | none => simp
  | some b => simp
theorem getD_t {l : Array Bool} {i : Nat} : l.getD i false = true ↔ l[i]? = some true := by
  rw [Array.getD_eq_getD_getElem?]
  cases l[i]? with
  | none => simp
  | some b => simp
theorem ready_iff {md : Region.Mode} {ops : Array Oper} {l : Array Bool} {i : Nat} : i ∈ Region.ready md ops l ↔ l[i]? = some false ∧ ∃ x, ops[i]? = some x ∧ ∀ e ∈ x.after, Region.binds md e = true → l[e.on]? = some true := by
  rw [mem_ready, getD_f]
  constructor
  · rintro ⟨h1, x, hx, h2⟩; exact ⟨h1, x, hx, fun e he hb => getD_t.1 (h2 e he hb)⟩
  · rintro ⟨h1, x, hx, h2⟩; exact ⟨h1, x, hx, fun e he hb => getD_t.2 (h2 e he hb)⟩
section
variable {P : Program} {ops : Array Oper} {Q : Exit → Act → World → Prop} {l l' : Array Bool}
theorem pop_at {i : Nat} (hi : i < ops.size - 1) : ops.pop[i]? = ops[i]? := by
  rw [Array.getElem?_pop]
  simp [hi]
theorem PopRel.ready (h : PopRel ops l l') (hp : popB ops = true) {i : Nat} (hi : i < l'.size) : i ∈ Region.ready .any ops.pop l' ↔ i ∈ Region.ready .any ops l := by
  have hs := h.s'
  rw [ready_iff, ready_iff, pop_at (by omega), h.same i hi]
  constructor
  · rintro ⟨h1, x, hx, h2⟩
    exact ⟨h1, x, hx, fun e he hb => by have := pop_low hp hx e he hb; rw [h.same _ (by omega)]; exact h2 e he hb⟩
  · rintro ⟨h1, x, hx, h2⟩
    exact ⟨h1, x, hx, fun e he hb => by have := pop_low hp hx e he hb; rw [← h.same _ (by omega)]; exact h2 e he hb⟩
theorem PopRel.all_of_last (h : PopRel ops l l') (hp : popB ops = true) (hn : l'.size ∈ Region.ready .any ops l) : ∀ i, i < l'.size → l[i]? = some true := by
  have hs := h.s'
  have key : ∀ m i, l'.size - i ≤ m → i < l'.size → l[i]? = some true := by
    intro m
    induction m with
    | zero => intro i h1 h2; omega
    | succ m ih =>
      intro i h1 h2
      obtain ⟨j, x, e, hij, hx, he, hb, hon⟩ := pop_wait hp (i := i) (by omega)
      have hj : j < ops.size := (Array.getElem?_eq_some_iff.1 hx).1
      by_cases hjn : j = l'.size
      · subst hjn
        obtain ⟨_, y, hy, h3⟩ := ready_iff.1 hn
        rw [hx] at hy
        injection hy with hy
        subst hy
        rw [← hon]
        exact h3 e he hb
      · have := ih j (by omega) (by omega)
        rw [← hon]
        exact h.closed j x (by omega) this hx e he hb
  intro i hi
  exact key l'.size i (by omega) hi
theorem PopRel.all_of_none (h : PopRel ops l l') (hp : popB ops = true) (hn : Region.ready .any ops.pop l' = []) : ∀ i, i < l'.size → l[i]? = some true := by
  have hs := h.s'
  intro i
  induction i using Nat.strongRecOn with
  | ind i ih =>
    intro hi
    have hx : ops[i]? = some ops[i] := Array.getElem?_eq_getElem (by omega)
    have hl : l[i]? = some (l[i]'(by rw [h.s]; omega)) := Array.getElem?_eq_getElem (by rw [h.s]; omega)
    cases hb : l[i]'(by rw [h.s]; omega) with
    | true => rw [hl, hb]
    | false =>
      rw [hb] at hl
      have : i ∈ Region.ready .any ops l := ready_iff.2 ⟨hl, _, hx, fun e he hb => by have := pop_low hp hx e he hb; exact ih _ this (by omega)⟩
      rw [← h.ready hp hi, hn] at this
      cases this
theorem PopRel.last_ready (h : PopRel ops l l') (hp : popB ops = true) (ha : ∀ i, i < l'.size → l[i]? = some true) : l'.size ∈ Region.ready .any ops l := by
  have hs := h.s'
  have hx : ops[l'.size]? = some (ops[l'.size]'(by omega)) := Array.getElem?_eq_getElem (by omega)
  exact ready_iff.2 ⟨h.last, _, hx, fun e he hb => ha _ (pop_low hp hx e he hb)⟩
theorem PopRel.step (h : PopRel ops l l') {i : Nat} (hi : i < l'.size) (hr : i ∈ Region.ready .any ops l) : PopRel ops (l.setIfInBounds i true) (l'.setIfInBounds i true) := by
  have hs := h.s
  have hs' := h.s'
  have at_ : ∀ j : Nat, l[j]? = some true → (l.setIfInBounds i true)[j]? = some true := by
    intro j hj
    rw [Array.getElem?_setIfInBounds]
    split
    · rename_i e; subst e; rw [if_pos (by omega)]
    · exact hj
  refine ⟨by simpa using hs, by simpa using hs', fun j hj => ?_, ?_, fun j x hj hl hx e he hb => ?_⟩
  · simp only [Array.size_setIfInBounds] at hj
    rw [Array.getElem?_setIfInBounds, Array.getElem?_setIfInBounds]
    split
    · rw [if_pos (by omega)]
    · exact h.same j hj
  · simp only [Array.size_setIfInBounds]
    rw [Array.getElem?_setIfInBounds, if_neg (by omega)]
    exact h.last
  · simp only [Array.size_setIfInBounds] at hj
    rw [Array.getElem?_setIfInBounds] at hl
    split at hl
    · rename_i e'
      subst e'
      obtain ⟨_, y, hy, h3⟩ := ready_iff.1 hr
      rw [hx] at hy
      injection hy with hy
      subst hy
      exact at_ _ (h3 e he hb)
    · exact at_ _ (h.closed j x hj hl hx e he hb)
theorem Oper.wp_le {o : Oper} {a : Act} {w : World} {K K' : Act → World → Prop} {Q' : Exit → Act → World → Prop} (hk : ∀ a w, K a w → K' a w) (hp : ∀ c a w, Q (.panic c) a w → Q' (.panic c) a w) (hout : LetsOut Q → LetsOut Q')
    (hh : o.wp P a w K Q) : o.wp P a w K' Q' := by
  unfold Oper.wp at *
  generalize (execOp a.eval o).run P w = r at *
  cases r with
  | ok n w' =>
    cases n <;> simp only [Oper.upon] at hh ⊢ <;>
      first
        | exact hk _ _ hh
        | exact Calls.mono hh (fun e w'' he => by cases e <;> first | exact hk _ _ he | exact hout he | exact hp _ _ _ he)
        | exact Rows.mono hh (fun _ _ he => hk _ _ he)
  | halt x w' => cases x <;> simp only [Oper.upon] at hh ⊢ <;> exact hp _ _ _ hh
theorem wpOp_le {i : Nat} {a : Act} {w : World} {K K' : Act → World → Prop} {Q' : Exit → Act → World → Prop} (hk : ∀ a w, K a w → K' a w) (hp : ∀ c a w, Q (.panic c) a w → Q' (.panic c) a w) (hout : LetsOut Q → LetsOut Q')
    (hh : wpOp P ops Q i K a w) : wpOp P ops Q' i K' a w := by
  unfold wpOp at *
  split
  · rename_i hx
    rw [hx] at hh
    exact hk _ _ hh
  · rename_i o ho
    simp only [ho] at hh
    split
    · rename_i hw
      simp only [hw, if_true] at hh
      exact hh.imp (Oper.wp_le hk hp hout) fun h => ⟨h.1, hout h.2⟩
    · rename_i hw
      simp only [hw] at hh
      exact hk _ _ hh
theorem wpAny_le {Q' : Exit → Act → World → Prop} {md : Region.Mode} (hn : ∀ a w, Q .normal a w → Q' .normal a w) (hp : ∀ c a w, Q (.panic c) a w → Q' (.panic c) a w) (hout : LetsOut Q → LetsOut Q') :
    ∀ (fuel : Nat) (l : Array Bool) (a : Act) (w : World), wpAny P md ops Q fuel l a w → wpAny P md ops Q' fuel l a w
  | 0, _, _, _, h => ⟨h.1, hn _ _ h.2⟩
  | fuel + 1, _, _, _, h => ⟨fun h0 => hn _ _ (h.1 h0), fun i hi => wpOp_le (fun _ _ h' => wpAny_le hn hp hout fuel _ _ _ h') hp hout (h.2 i hi)⟩
theorem wpList_join {T : List Oper} {o : Oper} (hg : ∀ x ∈ T, x.guard = none) : ∀ (a : Act) (w : World), wpList P #[] Q (T ++ [o]) a w → wpList P #[] (QTail P [o] Q) T a w := by
  induction T with
  | nil => intro a w h; exact h
  | cons x T ih =>
    intro a w h
    rw [List.cons_append] at h
    unfold wpList at h ⊢
    have hw : Region.wanted x (yielded #[] a.tmps) = true := by simp [Region.wanted, hg x (by simp)]
    simp only [hw, if_true] at h ⊢
    exact h.imp (Oper.wp_le (ih fun y hy => hg y (by simp [hy])) (fun _ _ _ h => h) (fun ⟨a, w, h⟩ => ⟨a, w, h⟩)) fun h => ⟨h.1, h.2.imp fun a h => h.imp fun w h => h⟩
theorem pop_fin {o : Oper} (h : PopRel ops l l') (hp : popB ops = true) (ho : ops[l'.size]? = some o) (ha : ∀ i, i < l'.size → l[i]? = some true) {a : Act} {w : World} (hq : wpList P #[] Q [o] a w) (fuel : Nat) :
    wpOp P ops Q l'.size (wpAny P .any ops Q fuel (l.setIfInBounds l'.size true)) a w := by
  have hg := pop_guard hp ho
  have hr : Region.ready .any ops (l.setIfInBounds l'.size true) = [] := by
    apply List.eq_nil_iff_forall_not_mem.2
    intro i hi
    obtain ⟨h1, x, hx, _⟩ := ready_iff.1 hi
    rw [Array.getElem?_setIfInBounds] at h1
    split at h1
    · split at h1
      · cases h1
      · cases h1
    · have hil : i < ops.size := (Array.getElem?_eq_some_iff.1 hx).1
      have hs := h.s'
      rw [ha i (by omega)] at h1
      cases h1
  have fin : ∀ a w, Q .normal a w → wpAny P .any ops Q fuel (l.setIfInBounds l'.size true) a w := by
    intro a w hq
    cases fuel with
    | zero => exact ⟨hr, hq⟩
    | succ fuel => exact ⟨fun _ => hq, by rw [hr]; simp⟩
  unfold wpOp
  rw [ho]
  have hw : Region.wanted o (yielded ops a.tmps) = true := by simp [Region.wanted, hg]
  have hw0 : Region.wanted o (yielded #[] a.tmps) = true := by simp [Region.wanted, hg]
  simp only [hw, if_true]
  unfold wpList at hq
  simp only [hw0, if_true] at hq
  rcases hq with hq | hq
  · exact .inl (Oper.wp_mono fin hq)
  · exact .inr hq
theorem wpAny_pop {o : Oper} (hp : popB ops = true) (ho : ops[ops.size - 1]? = some o) : ∀ (fuel : Nat) (l l' : Array Bool) (a : Act) (w : World), PopRel ops l l' →
    wpAny P .any ops.pop (QTail P [o] Q) fuel l' a w → wpAny P .any ops Q (fuel + 1) l a w := by
  intro fuel
  induction fuel with
  | zero =>
    intro l l' a w h H
    have hs := h.s'
    have ha := h.all_of_none hp H.1
    have hn := h.last_ready hp ha
    have ho' : ops[l'.size]? = some o := by rw [← ho]; congr 1; omega
    refine ⟨fun h0 => (by rw [h0] at hn; cases hn), fun i hi => ?_⟩
    obtain ⟨h1, x, hx, _⟩ := ready_iff.1 hi
    have hil : i < ops.size := (Array.getElem?_eq_some_iff.1 hx).1
    have : i = l'.size := by
      rcases Nat.lt_or_ge i l'.size with hlt | hge
      · rw [ha i hlt] at h1; cases h1
      · omega
    subst this
    exact pop_fin h hp ho' ha H.2 0
  | succ fuel ih =>
    intro l l' a w h H
    have hs := h.s'
    have ho' : ops[l'.size]? = some o := by rw [← ho]; congr 1; omega
    refine ⟨fun h0 => ?_, fun i hi => ?_⟩
    · have hn : Region.ready .any ops.pop l' = [] := by
        apply List.eq_nil_iff_forall_not_mem.2
        intro i hi
        have hil : i < l'.size := by
          have h1 := (ready_iff.1 hi).1
          exact (Array.getElem?_eq_some_iff.1 h1).1
        rw [h.ready hp hil, h0] at hi
        cases hi
      have := h.last_ready hp (h.all_of_none hp hn)
      rw [h0] at this
      cases this
    · have hil : i < l.size := by
        have h1 := (ready_iff.1 hi).1
        exact (Array.getElem?_eq_some_iff.1 h1).1
      have hsz := h.s
      by_cases hin : i = l'.size
      · subst hin
        have ha := h.all_of_last hp hi
        have hn : Region.ready .any ops.pop l' = [] := by
          apply List.eq_nil_iff_forall_not_mem.2
          intro i hi
          have h1 := (ready_iff.1 hi).1
          have hil : i < l'.size := (Array.getElem?_eq_some_iff.1 h1).1
          rw [← h.same i hil, ha i hil] at h1
          cases h1
        exact pop_fin h hp ho' ha (H.1 hn) (fuel + 1)
      · have hlt : i < l'.size := by omega
        have h2 := H.2 i ((h.ready hp hlt).2 hi)
        have hx : ops[i]? = some (ops[i]'(by omega)) := Array.getElem?_eq_getElem (by omega)
        have hg := pop_guard hp hx
        unfold wpOp at h2 ⊢
        rw [pop_at (by omega), hx] at h2
        rw [hx]
        have hw1 : Region.wanted (ops[i]'(by omega)) (yielded ops.pop a.tmps) = true := by simp [Region.wanted, hg]
        have hw2 : Region.wanted (ops[i]'(by omega)) (yielded ops a.tmps) = true := by simp [Region.wanted, hg]
        simp only [hw1, if_true] at h2
        simp only [hw2, if_true]
        rcases h2 with h2 | ⟨h2, h3⟩
        · exact .inl (Oper.wp_le (fun a w hk => ih _ _ a w (h.step hlt hi) hk) (fun _ _ _ h => h) (fun ⟨a, w, h⟩ => ⟨a, w, h⟩) h2)
        · exact .inr ⟨h2, h3⟩
theorem PopRel.start (hpos : 0 < ops.size) : PopRel ops (Array.replicate ops.size false) (Array.replicate (ops.size - 1) false) := by
  refine ⟨by simp, by simp; omega, fun i hi => ?_, ?_, fun i x hi hl => ?_⟩
  · simp at hi
    simp [Array.getElem?_replicate, hi]
    omega
  · simp [Array.getElem?_replicate]
    omega
  · simp [Array.getElem?_replicate] at hl
/-- The region without its last k operations. -/
def pops : Nat → Array Oper → Array Oper
  | 0, ops => ops
  | k + 1, ops => pops k ops.pop
def popsB : Nat → Array Oper → Bool
  | 0, _ => true
  | k + 1, ops => popB ops && decide (0 < ops.size) && popsB k ops.pop
def tailOf : Nat → Array Oper → List Oper
  | 0, _ => []
  | k + 1, ops => tailOf k ops.pop ++ (ops.back?).toList
theorem tailOf_guard {k : Nat} : ∀ {ops : Array Oper}, popsB k ops = true → ∀ x ∈ tailOf k ops, x.guard = none := by
  induction k with
  | zero => intro ops _ x hx; simp [tailOf] at hx
  | succ k ih =>
    intro ops h x hx
    simp only [popsB, Bool.and_eq_true] at h
    simp only [tailOf, List.mem_append] at hx
    rcases hx with hx | hx
    · exact ih h.2 x hx
    · simp only [Option.mem_toList] at hx
      exact pop_guard h.1.1 (i := ops.size - 1) (by rw [← Array.back?_eq_getElem?]; exact hx)
theorem wpAny_pops {k : Nat} : ∀ {ops : Array Oper} {Q : Exit → Act → World → Prop} {a : Act} {w : World}, popsB k ops = true →
    wpAny P .any (pops k ops) (QTail P (tailOf k ops) Q) (ops.size - k) (Array.replicate (ops.size - k) false) a w → wpAny P .any ops Q ops.size (Array.replicate ops.size false) a w := by
  induction k with
  | zero => intro ops Q a w _ h; exact wpAny_le (Q := QTail P (tailOf 0 ops) Q) (Q' := Q) (fun _ _ h => h) (fun _ _ _ h => h) (fun ⟨a, w, h⟩ => ⟨a, w, h⟩) _ _ _ _ h
  | succ k ih =>
    intro ops Q a w hp h
    simp only [popsB, Bool.and_eq_true, decide_eq_true_eq] at hp
    obtain ⟨⟨hp1, hpos⟩, hp2⟩ := hp
    obtain ⟨o, ho⟩ : ∃ o, ops[ops.size - 1]? = some o := ⟨_, Array.getElem?_eq_getElem (by omega)⟩
    have hb : ops.back? = some o := by rw [Array.back?_eq_getElem?]; exact ho
    have h1 : wpAny P .any ops.pop (QTail P [o] Q) ops.pop.size (Array.replicate ops.pop.size false) a w := by
      refine ih hp2 ?_
      have e : ops.pop.size - k = ops.size - (k + 1) := by simp; omega
      rw [e]
      refine wpAny_le (Q := QTail P (tailOf (k + 1) ops) Q) (Q' := QTail P (tailOf k ops.pop) (QTail P [o] Q)) (fun a w hn => ?_) (fun _ _ _ h => h) (fun ⟨a, w, h⟩ => ⟨a, w, h⟩) _ _ _ _ h
      have hn' : wpList P #[] Q (tailOf k ops.pop ++ [o]) a w := by
        have : wpList P #[] Q (tailOf k ops.pop ++ (ops.back?).toList) a w := hn
        rwa [hb] at this
      exact wpList_join (tailOf_guard hp2) a w hn'
    have h2 := wpAny_pop (Q := Q) hp1 ho ops.pop.size (Array.replicate ops.size false) (Array.replicate ops.pop.size false) a w (by rw [Array.size_pop]; exact PopRel.start hpos) h1
    have e : ops.pop.size + 1 = ops.size := by simp; omega
    rwa [e] at h2
/-- The beginning of such a region: its last k operations are carried out last, one after the other. -/
theorem wp_region_pops (k : Nat) {S : World → Prop} {id : Nat} {a : Act} {w : World} {pre : Array Oper} {T : List Oper} {n : Nat} (hm : P.follows .mixedOrders = true) (hp : popsB k ops = true)
    (hpre : pops k ops = pre) (hT : tailOf k ops = T) (hn : ops.size - k = n) (hS : S w.drew)
    (h : S w.drew → wpAnyH P .any pre (QTail P T Q) S n (Array.replicate n false) a w.drew) : (Code.region id ops true).wp P Q a w := by
  subst hpre hT hn
  exact wp_region_any hm (wpAny_pops hp (wpAny_of_held _ _ _ _ (h hS)))
end

end Go.Proofs.YthjamohaeahipaaGreat

/- Charts: own copies, the given side. -/
namespace Go.Proofs.YthjamohaeahipaaGreat
open Go Go.RowKit


end Go.Proofs.YthjamohaeahipaaGreat

/- Charts: StackCharts. -/
namespace Go.Proofs.YthjamohaeahipaaGreat
open Go Go.RowKit

/-- Rows behind rows, their stitches in blocks of their own. -/
theorem CellsRows.append {w : World} {lo m hi : Nat} {cs ds : List Value} {rs ss : List RowD} (h : CellsRows w lo m cs rs) (h' : CellsRows w m hi ds ss) (h1 : lo ≤ m) (h2 : m ≤ hi) : CellsRows w lo hi (cs ++ ds) (rs ++ ss) := by
  have hB : ∀ {i : Nat} {v : Value} {g : Nat}, cs[i]? = some v → v.ownBlock = some g → g < m := fun hi' hv => (h.block hi' hv).2.1
  have hC : ∀ {i : Nat} {v : Value} {g : Nat}, ds[i]? = some v → v.ownBlock = some g → m ≤ g := fun hi' hv => (h'.block hi' hv).1
  obtain ⟨ha, hb, hc⟩ := h
  obtain ⟨ha', hb', hc'⟩ := h'
  refine ⟨by simp [ha, ha']; omega, fun k q hq => ?_, fun i j v v' g hi' hj hv hv' => ?_⟩
  · rcases Nat.lt_or_ge k rs.length with hk | hk
    · rw [List.getElem?_append_left hk] at hq
      obtain ⟨A2, c2, e0, e1, e2, e3⟩ := hb k q hq
      exact ⟨A2, c2, by rw [List.getElem?_append_left (by omega)]; exact e0, by rw [List.getElem?_append_left (by omega)]; exact e1, by rw [List.getElem?_append_left (by omega)]; exact e2, e3.mono (Nat.le_refl _) h2⟩
    · rw [List.getElem?_append_right hk] at hq
      obtain ⟨A2, c2, e0, e1, e2, e3⟩ := hb' _ q hq
      refine ⟨A2, c2, ?_, ?_, ?_, e3.mono h1 (Nat.le_refl _)⟩
      · rw [List.getElem?_append_right (by omega), show k * 3 - cs.length = (k - rs.length) * 3 by omega]; exact e0
      · rw [List.getElem?_append_right (by omega), show k * 3 + 1 - cs.length = (k - rs.length) * 3 + 1 by omega]; exact e1
      · rw [List.getElem?_append_right (by omega), show k * 3 + 2 - cs.length = (k - rs.length) * 3 + 2 by omega]; exact e2
  · rcases Nat.lt_or_ge i cs.length with ei | ei
    · rw [List.getElem?_append_left ei] at hi'
      rcases Nat.lt_or_ge j cs.length with ej | ej
      · rw [List.getElem?_append_left ej] at hj
        exact hc i j v v' g hi' hj hv hv'
      · rw [List.getElem?_append_right ej] at hj
        have := hB hi' hv
        have := hC hj hv'
        omega
    · rw [List.getElem?_append_right ei] at hi'
      rcases Nat.lt_or_ge j cs.length with ej | ej
      · rw [List.getElem?_append_left ej] at hj
        have := hC hi' hv
        have := hB hj hv'
        omega
      · rw [List.getElem?_append_right ej] at hj
        have := hc' _ _ v v' g hi' hj hv hv'
        omega
theorem CellsRows.one {w : World} {lo hi : Nat} {cs : List Value} {rs : List RowD} (h : CellsRows w lo hi cs rs) : ∀ u ∈ cs, u.oneCell' = true := by
  intro u hu
  obtain ⟨i, hi⟩ := List.getElem?_of_mem hu
  have hil : i < cs.length := (List.getElem?_eq_some_iff.1 hi).1
  have hl := h.1
  obtain ⟨A', c', h0, h1, h2, _⟩ := h.2.1 (i / 3) _ (List.getElem?_eq_getElem (by omega))
  have : i = i / 3 * 3 ∨ i = i / 3 * 3 + 1 ∨ i = i / 3 * 3 + 2 := by omega
  rcases this with e | e | e
  · rw [← e, hi] at h0; injection h0 with h0; subst h0; rfl
  · rw [← e, hi] at h1; injection h1 with h1; subst h1; rfl
  · rw [← e, hi] at h2; injection h2 with h2; subst h2; rfl
theorem RowsR.drew1 {w : World} {A : Option Addr} {rs : List RowD} (h : RowsR w A rs) : RowsR (World.drew w) A rs := h
theorem Blk.drew1 {w : World} {g : Nat} {t : TypeId} {cs : Array Value} (h : Blk w g t cs) : Blk (World.drew w) g t cs := h
theorem lens_of_chart {n : Int} {rs : List RowD} (h : chartB n rs = true) : rs.length ≤ 8 ∧ ∀ r ∈ rs, r.s.length ≤ 16 := ⟨(chart_size h).1, fun r hr => (rowB_of ((chartB_of h).2.2 r hr)).2.2.2⟩
theorem stackCode_1 {n m : Int} {rs ss : List RowD} (h : chartB n rs = false ∨ chartB m ss = false) : stackCode n rs m ss = 1 := by
  unfold stackCode
  rw [if_neg (by rcases h with h | h <;> simp [h])]
theorem stackCode_2 {n m : Int} {rs ss : List RowD} (h1 : chartB n rs = true) (h2 : chartB m ss = true) : stackCode n rs m ss = if lastOf n rs = m then (if chartB n (rs ++ ss) then 0 else 5) else 10 := by
  unfold stackCode
  rw [if_pos (by simp [h1, h2])]


end Go.Proofs.YthjamohaeahipaaGreat

/- Charts: one inner slice of rows grows; the plain law of charts side by side. -/
namespace Go.Proofs.YthjamohaeahipaaGreat
open Go Go.RowKit

/-- append of some cells that stand in memory; where the new slice lies. -/
theorem wp_appendC_at {P : Program} (w : World) {o : Oper} {a : Act} {K : Act → World → Prop} {Q : Exit → Act → World → Prop} (s x : Operand) (t : TypeId)
    (hop : o.op = .call { callee := .builtin .append, args := #[s, x], argTypes := #[t, t] })
    (e : TypeId) (i : TypeInfo) (z : Value) (size bytes : Nat) (ht : P.underlying t = some (.slice e)) (hi : P.info? e = some i) (hz : i.zero = some z)
    (hsize : i.size = size) (hby : i.bytes = bytes) (hzs : z.cells.size = size) (hsz : 0 < size)
    {lo hi' n c : Nat} {A : Option Addr} {cs : List Value} (hs : a.eval s = .slice A n c) (hown : OwnC w lo hi' e size A n c cs) (hlo : lo ≤ w.heap.size)
    (A2 : Option Addr) (m c2 : Nat) (news : List Value) (hx : a.eval x = .slice A2 m c2) (hl : news.length = m * size)
    (hnews : ∀ j u, news[j]? = some u → ∃ b off, A2 = some ⟨b, off, none⟩ ∧ w.cell? ⟨b, off + j, none⟩ = some u) (h1 : ∀ u ∈ news, u.oneCell' = true)
    (h63 : n + m ≤ maxLen) (hbytes : (n + m) * bytes ≤ 140737488355328)
    (h : ∀ A' c' w', OwnC w' lo w'.heap.size e size A' (n + m) c' (cs ++ news) → w.grownBy w' (Value.slice A n c).ownBlock → Below lo w w' → ((Value.slice A' (n + m) c').ownBlock = (Value.slice A n c).ownBlock ∨ (Value.slice A' (n + m) c').ownBlock = some w.heap.size) → K (a.put o.dst (.slice A' (n + m) c')) w') : o.wp P a w K Q := by
  cases A2 with
  | none =>
    have hn : news = [] := by
      cases news with
      | nil => rfl
      | cons u r => obtain ⟨_, _, h, _⟩ := hnews 0 u rfl; cases h
    subst hn
    have hm : m = 0 := by
      rcases Nat.eq_zero_or_pos m with h | h
      · exact h
      · have := Nat.mul_pos h hsz
        rw [← hl] at this
        simp at this
    subst hm
    have hr : (Builtin.append_ #[t, t] o.type #[.slice A n c, .slice none 0 c2]).run P w = .ok (.slice A n c) w := by
      rcases hown.form with ⟨rfl, rfl, rfl, _⟩ | ⟨g, cur, rfl, _, _, _, hnc, _⟩
      · simp [Builtin.append_, run_underlying ht, sizeOf, typeInfo, hi, Builtin.lenOf, Builtin.firstCells]
      · simp [Builtin.append_, run_underlying ht, sizeOf, typeInfo, hi, Builtin.lenOf, Builtin.firstCells, hnc, storeCells]
    unfold Oper.wp execOp
    simp only [hop, resolve, invoke, builtin, Sem.run_bind, Sem.run_pure, Result.andThen_ok, List.map_toArray, List.map_cons, List.map_nil, hs, hx, hr]
    have := h A c w (by simpa using (OwnC.of_own hown.own (Nat.le_refl _))) (World.grownBy.refl w _) (Below.refl _ _) (by simp [Value.ownBlock])
    have h2 : K (a.put o.dst (.slice A n c)) w := by simpa using this
    exact h2
  | some ad =>
    obtain ⟨v', w', hr, h2, h3, _, h5⟩ := run_append_own_at (P := P) w lo t o.type e i z size bytes ht hi hz hsize hby hzs hsz (.slice A n c) n cs hown.own ad m c2 news hl (by
      intro j u hu
      obtain ⟨b, off, he, hc⟩ := hnews j u hu
      injection he with he
      subst he
      unfold Addr.add
      split
      · subst_vars; simpa using hc
      · exact hc) h1 h63 hbytes hlo
    obtain ⟨A', c', rfl, h4⟩ := OwnC.of_own' h2
    unfold Oper.wp execOp
    simp only [hop, resolve, invoke, builtin, Sem.run_bind, Sem.run_pure, Result.andThen_ok, List.map_toArray, List.map_cons, List.map_nil, hs, hx, hr]
    exact h A' c' w' h4 h3 (grown_below hown hlo h3) h5

/- The type of rows is 26. -/
/-- One inner slice of rows grows, and its row's cell is set to it. -/
theorem OwnRows.grow {w : World} {lo hi n : Nat} {A : Option Addr} {c : Nat} {rs : List RowD} (h : OwnRows w lo hi A n c rs) (hhi : hi ≤ w.heap.size) {k : Nat} {r : RowD} (hx : rs[k]? = some r) :
    ∃ g A' c', A = some ⟨g, 0, none⟩ ∧ lo ≤ g ∧ g < hi ∧ w.cell? ⟨g, k * 3, none⟩ = some (.int .i64 r.d) ∧ w.cell? ⟨g, k * 3 + 1, none⟩ = some (.int .i64 r.r) ∧ w.cell? ⟨g, k * 3 + 2, none⟩ = some (.slice A' r.s.length c') ∧ OwnI w lo hi A' c' r.s ∧
      ∀ (w5 : World) (A2 : Option Addr) (c2 : Nat) (ys : List Int), w.grownBy w5 (Value.slice A' r.s.length c').ownBlock → OwnI w5 lo w5.heap.size A2 c2 ys →
        ((Value.slice A2 ys.length c2).ownBlock = (Value.slice A' r.s.length c').ownBlock ∨ (Value.slice A2 ys.length c2).ownBlock = some w.heap.size) →
        w5.frozen? ⟨g, k * 3 + 2, none⟩ = false ∧ w5.cell? ⟨g, k * 3 + 2, none⟩ = some (.slice A' r.s.length c') ∧ OwnRows (w5.setCell ⟨g, k * 3 + 2, none⟩ (.slice A2 ys.length c2)) lo w5.heap.size A n c (rs.set k ⟨r.d, r.r, ys⟩) := by
  obtain ⟨cs, ho, ha, hb, hc⟩ := h.ex
  have hk : k < rs.length := (List.getElem?_eq_some_iff.1 hx).1
  obtain ⟨A', c', e0, e1, e2, h2⟩ := hb k r hx
  obtain ⟨g, rfl, hg1, hg2, q0, _⟩ := ho.cell (j := k * 3) (by omega)
  obtain ⟨_, hA, _, _, q1, _⟩ := ho.cell (j := k * 3 + 1) (by omega)
  injection hA with hA
  injection hA with hA
  subst hA
  obtain ⟨_, hA, _, _, q2, _⟩ := ho.cell (j := k * 3 + 2) (by omega)
  injection hA with hA
  injection hA with hA
  subst hA
  have e0' := e0; have e1' := e1; have e2' := e2
  rw [List.getElem?_eq_getElem (by omega)] at e0' e1' e2'
  injection e0' with e0'
  injection e1' with e1'
  injection e2' with e2'
  rw [e0'] at q0
  rw [e1'] at q1
  rw [e2'] at q2
  refine ⟨g, A', c', rfl, hg1, hg2, q0, q1, q2, h2, fun w5 A2 c2 ys hgr hn hat => ?_⟩
  have t3 : (26 : TypeId) ≠ 2 := by decide
  have hsz := hgr.size
  have ho5 := ho.grownT h2 t3 hgr
  obtain ⟨_, hA, _, _, q2', f2'⟩ := ho5.cell (j := k * 3 + 2) (by omega)
  injection hA with hA
  injection hA with hA
  subst hA
  rw [e2'] at q2'
  refine ⟨f2', q2', ⟨_, (ho5.store _).1.mono (Nat.le_refl _) (by omega), ?_⟩⟩
  have far : ∀ (lo' hi' : Nat) (B : Option Addr) (cB : Nat) (zs : List Int) (u : Value), OwnI w5 lo' hi' B cB zs → OwnI (w5.setCell ⟨g, k * 3 + 2, none⟩ u) lo' hi' B cB zs := by
    intro lo' hi' B cB zs u hB
    refine hB.keepT fun q cur _ _ hq => Below.heap_setCell w5 _ u q ?_
    rintro rfl
    rcases ho5.form with ⟨hA, _⟩ | ⟨q', cur2, hA, _, _, hh, _⟩
    · cases hA
    · injection hA with hA
      injection hA with hA
      subst hA
      rw [hq] at hh
      injection hh with hh
      injection hh with _ hh
      exact t3 hh.symm
  have blk : ∀ {i : Nat} {v : Value} {q : Nat}, cs[i]? = some v → v.ownBlock = some q → q < hi := fun hi' hv => ((show CellsRows w lo hi cs rs from ⟨ha, hb, hc⟩).block hi' hv).2.1
  refine ⟨by simpa using ha, fun j z hz => ?_, fun i j v v' q hi' hj hv hv' => ?_⟩
  · by_cases e : k = j
    · subst e
      rw [List.getElem?_set_self hk] at hz
      injection hz with hz
      subst hz
      refine ⟨A2, c2, ?_, ?_, ?_, far _ _ _ _ _ _ hn⟩
      · rw [List.getElem?_set_ne (by omega)]; exact e0
      · rw [List.getElem?_set_ne (by omega)]; exact e1
      · rw [List.getElem?_set_self (by omega)]
    · rw [List.getElem?_set_ne e] at hz
      obtain ⟨A3, c3, z0, z1, z2, h6⟩ := hb j z hz
      refine ⟨A3, c3, ?_, ?_, ?_, (far _ _ _ _ _ _ (h6.keep1 fun q hq => ?_)).mono (Nat.le_refl _) (by omega)⟩
      · rw [List.getElem?_set_ne (by omega)]; exact z0
      · rw [List.getElem?_set_ne (by omega)]; exact z1
      · rw [List.getElem?_set_ne (by omega)]; exact z2
      · subst hq
        have hql : q < w.heap.size := by have := h6.lt _ rfl; exact Nat.lt_of_lt_of_le this hhi
        refine hgr.block q hql fun eq => ?_
        have := hc (k * 3 + 2) (j * 3 + 2) _ _ q e2 z2 eq.symm rfl
        omega
  · have hil : i < cs.length := by have := (List.getElem?_eq_some_iff.1 hi').1; simpa using this
    have hjl : j < cs.length := by have := (List.getElem?_eq_some_iff.1 hj).1; simpa using this
    rw [List.getElem?_set] at hi' hj
    split at hi'
    · rename_i ei
      split at hj
      · rename_i ej; omega
      · rename_i ej
        split at hi'
        · injection hi' with hi'
          subst hi'
          exfalso
          have hql := blk hj hv'
          rcases hat with hat | hat
          · rw [hat] at hv
            have := hc (k * 3 + 2) j _ _ q e2 hj hv hv'
            omega
          · rw [hat] at hv
            injection hv with hv
            omega
        · cases hi'
    · split at hj
      · rename_i ei ej
        split at hj
        · injection hj with hj
          subst hj
          exfalso
          have hql := blk hi' hv
          rcases hat with hat | hat
          · rw [hat] at hv'
            have := hc (k * 3 + 2) i _ _ q e2 hi' hv' hv
            omega
          · rw [hat] at hv'
            injection hv' with hv'
            omega
        · cases hj
      · exact hc i j v v' q hi' hj hv hv'

/- The type of rows is 26. -/
theorem OwnRows.drew1 {w : World} {lo hi n : Nat} {A : Option Addr} {c : Nat} {rs : List RowD} (h : OwnRows w lo hi A n c rs) : OwnRows (World.drew w) lo hi A n c rs := h.keep fun _ _ _ _ => rfl
theorem OwnC.drew1 {w : World} {lo hi : Nat} {e : TypeId} {sz : Nat} {A : Option Addr} {n c : Nat} {cs : List Value} (h : OwnC w lo hi e sz A n c cs) : OwnC (World.drew w) lo hi e sz A n c cs := h.keep fun _ _ _ _ => rfl
theorem joinRows_snoc {rs ss : List RowD} {i : Nat} {a b : RowD} (ha : rs[i]? = some a) (hb : ss[i]? = some b) : joinRows (rs.take (i + 1)) (ss.take (i + 1)) = joinRows (rs.take i) (ss.take i) ++ [joinRow a b] := by
  induction i generalizing rs ss with
  | zero =>
    cases rs with
    | nil => simp at ha
    | cons x rs =>
      cases ss with
      | nil => simp at hb
      | cons y ss =>
        simp at ha hb
        subst ha hb
        simp [joinRows]
  | succ i ih =>
    cases rs with
    | nil => simp at ha
    | cons x rs =>
      cases ss with
      | nil => simp at hb
      | cons y ss =>
        simp only [List.getElem?_cons_succ] at ha hb
        simp only [List.take_succ_cons, joinRows, List.cons_append]
        rw [ih ha hb]
def joinTo (rs ss : List RowD) (i : Nat) : List RowD := joinRows (rs.take i) (ss.take i) ++ rs.drop i
theorem joinTo_at {rs ss : List RowD} (hl : rs.length = ss.length) {i : Nat} {a b : RowD} (ha : rs[i]? = some a) (hb : ss[i]? = some b) : (joinTo rs ss i)[i]? = some a ∧ (joinTo rs ss i).set i (joinRow a b) = joinTo rs ss (i + 1) := by
  have hi := (List.getElem?_eq_some_iff.1 ha).1
  have hjl : (joinRows (rs.take i) (ss.take i)).length = i := by rw [joinRows_length _ _ (by simp [hl]), List.length_take]; omega
  refine ⟨?_, ?_⟩
  · unfold joinTo
    rw [List.getElem?_append_right (by omega), hjl, Nat.sub_self, List.getElem?_drop, Nat.add_zero]
    exact ha
  · unfold joinTo
    rw [List.set_append_right _ _ (by omega), hjl, Nat.sub_self, drop_cons ha, List.set_cons_zero, joinRows_snoc ha hb, List.append_assoc]
    rfl
theorem joinTo_length {rs ss : List RowD} (hl : rs.length = ss.length) {i : Nat} (hi : i ≤ rs.length) : (joinTo rs ss i).length = rs.length := by
  unfold joinTo
  rw [List.length_append, joinRows_length _ _ (by simp [hl]), List.length_take, List.length_drop]
  omega
theorem joinTo_end {rs ss : List RowD} (hl : rs.length = ss.length) : joinTo rs ss rs.length = joinRows rs ss := by
  unfold joinTo
  rw [take_all (Nat.le_refl _), take_all (by omega), drop_all (Nat.le_refl _), List.append_nil]
theorem sameHeads_drop {rs ss : List RowD} {i : Nat} {a b : RowD} (ha : rs[i]? = some a) (hb : ss[i]? = some b) : sameHeads (rs.drop i) (ss.drop i) = (sameHead a b && sameHeads (rs.drop (i + 1)) (ss.drop (i + 1))) := by
  rw [drop_cons ha, drop_cons hb, sameHeads]
theorem sameHead_d {a b : RowD} (h : a.d ≠ b.d) : sameHead a b = false := by simp [sameHead, h]
theorem sameHead_r {a b : RowD} (h : a.r ≠ b.r) : sameHead a b = false := by simp [sameHead, h]
theorem besCode_1 {n m : Int} {rs ss : List RowD} (h : chartB n rs = false ∨ chartB m ss = false) : besCode n rs m ss = 1 := by
  unfold besCode
  rw [if_neg (by rcases h with h | h <;> simp [h])]
theorem besCode_2 {n m : Int} {rs ss : List RowD} (h1 : chartB n rs = true) (h2 : chartB m ss = true) : besCode n rs m ss = if rs.length = ss.length then (if sameHeads rs ss then (if chartB (n + m) (joinRows rs ss) then 0 else 5) else 6) else 6 := by
  unfold besCode
  rw [if_pos (by simp [h1, h2])]

end Go.Proofs.YthjamohaeahipaaGreat

/- Permutations: the given side's sorting word. -/
namespace Go.Proofs.YthjamohaeahipaaGreat
open Go Go.RowKit

def lenV : Value → Nat
  | .slice _ n _ => n
  | _ => 0
end Go.Proofs.YthjamohaeahipaaGreat

/- Permutations: the program's descents. -/
namespace Go.Proofs.YthjamohaeahipaaGreat
open Go Go.RowKit

def desL (i : Nat) : List Int → List Int
  | a :: b :: xs => if b < a then (i : Int) :: desL (i + 1) (b :: xs) else desL (i + 1) (b :: xs)
  | _ => []
theorem desL_length (i : Nat) (xs : List Int) : (desL i xs).length ≤ xs.length := by
  induction xs generalizing i with
  | nil => simp [desL]
  | cons a xs ih =>
    cases xs with
    | nil => simp [desL]
    | cons b xs =>
      have := ih (i + 1)
      rw [desL]
      split
      · simp only [List.length_cons] at this ⊢; omega
      · simp only [List.length_cons] at this ⊢; omega
theorem desL_none {xs : List Int} (h : firstDes xs = none) : ∀ i, desL i xs = [] := by
  induction xs with
  | nil => intro i; rfl
  | cons a xs ih =>
    cases xs with
    | nil => intro i; rfl
    | cons b xs =>
      intro i
      rw [firstDes] at h
      split at h
      · cases h
      · rename_i hab
        rw [desL, if_neg hab]
        refine ih ?_ (i + 1)
        cases hf : firstDes (b :: xs) with
        | none => rfl
        | some m => rw [hf] at h; cases h
theorem desL_some {xs : List Int} : ∀ {k : Nat}, firstDes xs = some k → ∀ i, ∃ tl, desL i xs = ((i + k : Nat) : Int) :: tl := by
  induction xs with
  | nil => intro k h; simp [firstDes] at h
  | cons a xs ih =>
    cases xs with
    | nil => intro k h; simp [firstDes] at h
    | cons b xs =>
      intro k h i
      rw [firstDes] at h
      split at h
      · rename_i hab
        injection h with h
        subst h
        rw [desL, if_pos hab]
        exact ⟨_, rfl⟩
      · rename_i hab
        rw [Option.map_eq_some_iff] at h
        obtain ⟨j, hj, rfl⟩ := h
        rw [desL, if_neg hab]
        obtain ⟨tl, e⟩ := ih hj (i + 1)
        exact ⟨tl, by rw [e, show i + 1 + j = i + (j + 1) by omega]⟩
theorem desL_drop {xs : List Int} {i : Nat} {a b : Int} (ha : xs[i]? = some a) (hb : xs[i + 1]? = some b) : desL i (xs.drop i) = (if b < a then [(i : Int)] else []) ++ desL (i + 1) (xs.drop (i + 1)) := by
  rw [drop_cons ha, drop_cons hb, desL]
  split <;> simp
theorem desL_end {xs : List Int} {i : Nat} (h : xs.length ≤ i + 1) : desL i (xs.drop i) = [] := by
  have hl : (xs.drop i).length ≤ 1 := by rw [List.length_drop]; omega
  match hd : xs.drop i, hl with
  | [], _ => rfl
  | [_], _ => rfl
  | _ :: _ :: _, hl => simp at hl

end Go.Proofs.YthjamohaeahipaaGreat

/- A region whose last ready operation is a store. -/
namespace Go.Proofs.YthjamohaeahipaaGreat
open Go Go.RowKit

def lastQ (S : World → Prop) (Q : Exit → Act → World → Prop) : Exit → Act → World → Prop
  | .normal, a, w => S w ∧ Q .normal a w
  | e, a, w => Q e a w
theorem lastQ_mk {S : World → Prop} {Q : Exit → Act → World → Prop} {a : Act} {w : World} (hS : S w) (hQ : Q .normal a w) : lastQ S Q .normal a w := ⟨hS, hQ⟩
theorem wpAnyH_end {P : Program} {md : Region.Mode} {ops : Array Oper} {Q : Exit → Act → World → Prop} {S : World → Prop} {fuel : Nat} {listed : Array Bool} {a : Act} {w : World} {i : Nat} {o : Oper}
    (hr : Region.ready md ops listed = [i]) (ho : ops[i]? = some o) (hg : o.guard = none) (hall : Region.ready md ops (listed.setIfInBounds i true) = []) (h : wpList P #[] (lastQ S Q) [o] a w) : wpAnyH P md ops Q S (fuel + 1) listed a w :=
  wpAnyH_ready hr (by simp) (fun j hj => by
    obtain rfl := List.mem_singleton.1 hj
    unfold wpOp
    rw [ho]
    have hw : Region.wanted o (yielded ops a.tmps) = true := by simp [Region.wanted, hg]
    have hw0 : Region.wanted o (yielded #[] a.tmps) = true := by simp [Region.wanted, hg]
    simp only [hw, if_true]
    unfold wpList at h
    simp only [hw0, if_true] at h
    rcases h with h | ⟨h1, h2⟩
    · exact .inl (Oper.wp_le (fun a w hq => ⟨hq.1, wpAnyH_done hall hq.2 _⟩) (fun _ _ _ h => h) (fun ⟨a, w, h⟩ => ⟨a, w, h⟩) h)
    · exact .inr ⟨h1, h2.imp fun a h => h.imp fun w h => h⟩)

end Go.Proofs.YthjamohaeahipaaGreat

/- Permutations: the program's sorting word. -/
namespace Go.Proofs.YthjamohaeahipaaGreat
open Go Go.RowKit

end Go.Proofs.YthjamohaeahipaaGreat

/- Permutations: the letters. -/
namespace Go.Proofs.YthjamohaeahipaaGreat
open Go Go.RowKit

theorem permWord_mem (p : List Int) : ∀ x ∈ permWord p, 0 ≤ x ∧ x + 1 < (p.length : Int) := by
  have key : ∀ (f : Nat) (xs : List Int), ∀ x ∈ permFuel f xs, 0 ≤ x ∧ x + 1 < (xs.length : Int) := by
    intro f
    induction f with
    | zero => intro xs x h; simp [permFuel] at h
    | succ f ih =>
      intro xs x h
      rw [permFuel] at h
      cases hf : firstDes xs with
      | none => rw [hf] at h; simp at h
      | some k =>
        rw [hf] at h
        obtain ⟨a, b, ha, hb, _⟩ := firstDes_some hf
        have hk := (List.getElem?_eq_some_iff.1 hb).1
        rcases List.mem_cons.1 h with rfl | h
        · omega
        · have := ih _ x h
          rw [swapL_at ha hb, List.length_set, List.length_set] at this
          exact this
  exact key _ _
def addTo (i : Nat) (ws : List Int) : List Int := (ws.take i).map (· + 1) ++ ws.drop i
theorem addTo_at {ws : List Int} {i : Nat} {x : Int} (h : ws[i]? = some x) : (addTo i ws)[i]? = some x ∧ (addTo i ws).set i (x + 1) = addTo (i + 1) ws := by
  have hi := (List.getElem?_eq_some_iff.1 h).1
  have hl : ((ws.take i).map (· + 1)).length = i := by rw [List.length_map, List.length_take]; omega
  refine ⟨?_, ?_⟩
  · unfold addTo
    rw [List.getElem?_append_right (by omega), hl, Nat.sub_self, List.getElem?_drop, Nat.add_zero]
    exact h
  · unfold addTo
    rw [List.set_append_right _ _ (by omega), hl, Nat.sub_self, drop_cons h, List.set_cons_zero, take_snoc h, List.map_append, List.append_assoc]
    rfl
theorem addTo_length (i : Nat) (ws : List Int) : (addTo i ws).length = ws.length := by
  unfold addTo
  rw [List.length_append, List.length_map, List.length_take, List.length_drop]
  omega
theorem addTo_end (ws : List Int) : addTo ws.length ws = ws.map (· + 1) := by
  unfold addTo
  rw [List.take_length, List.drop_length, List.append_nil]
def permLetters (p : List Int) : List Int := (permWord p).map (· + 1)

end Go.Proofs.YthjamohaeahipaaGreat

/- Permutations: the plain tests. -/
namespace Go.Proofs.YthjamohaeahipaaGreat
open Go Go.RowKit

/-- Each entry lies between 0 and n-1 and is not among those before it. -/
def permGo (n : Int) : List Int → List Int → Bool
  | _, [] => true
  | done, x :: xs => inR x 0 (n - 1) && !decide (x ∈ done) && permGo n (done ++ [x]) xs
def permB (p : List Int) : Bool := decide (p.length ≤ 12) && permGo p.length [] p
theorem invs_half (xs : List Int) : 2 * invs xs + xs.length ≤ xs.length * xs.length := by
  induction xs with
  | nil => simp [invs]
  | cons x xs ih =>
    have h := List.countP_le_length (p := fun y => decide (y < x)) (l := xs)
    rw [invs, List.length_cons]
    have e : (xs.length + 1) * (xs.length + 1) = xs.length * xs.length + 2 * xs.length + 1 := by simp [Nat.add_mul, Nat.mul_add]; omega
    omega
theorem permLetters_length (p : List Int) : (permLetters p).length = (permWord p).length := by rw [permLetters, List.length_map]
theorem perm_braid {p : List Int} (h : p.length ≤ 8) : braidB p.length (permLetters p) = true ∧ (permLetters p).length ≤ 28 := by
  have h1 := permWord_length p
  have h2 := invs_half p
  have h3 : p.length * p.length ≤ 7 * p.length + p.length := by have := Nat.mul_le_mul_right p.length h; omega
  have h28 : (permLetters p).length ≤ 28 := by
    rw [permLetters_length]
    rcases (by omega : p.length = 0 ∨ p.length = 1 ∨ p.length = 2 ∨ p.length = 3 ∨ p.length = 4 ∨ p.length = 5 ∨ p.length = 6 ∨ p.length = 7 ∨ p.length = 8) with e | e | e | e | e | e | e | e | e <;> rw [e] at h2 <;> omega
  refine ⟨?_, h28⟩
  rw [braidB]
  simp only [Bool.and_eq_true, decide_eq_true_eq]
  refine ⟨⟨by rw [inR_iff]; omega, by omega⟩, ?_⟩
  rw [lettersB, List.all_eq_true]
  intro y hy
  rw [permLetters, List.mem_map] at hy
  obtain ⟨x, hx, rfl⟩ := hy
  have := permWord_mem p x hx
  unfold letterB
  rw [Bool.and_eq_true, decide_eq_true_eq, inR_iff]
  omega

end Go.Proofs.YthjamohaeahipaaGreat

/- Permutations: the given side's test. -/
namespace Go.Proofs.YthjamohaeahipaaGreat
open Go Go.RowKit

def seenC (n : Nat) (done : List Int) : List Value := (List.range n).map fun (v : Nat) => Value.bool (decide ((v : Int) ∈ done))
theorem seenC_length (n : Nat) (done : List Int) : (seenC n done).length = n := by simp [seenC]
theorem seenC_at {n v : Nat} (done : List Int) (h : v < n) : (seenC n done)[v]? = some (.bool (decide ((v : Int) ∈ done))) := by simp [seenC, h]
theorem seenC_set {n v : Nat} (done : List Int) (h : v < n) : (seenC n done).set v (.bool true) = seenC n (done ++ [(v : Int)]) := by
  apply List.ext_getElem?
  intro i
  rw [List.getElem?_set]
  by_cases hi : i < n
  · rw [seenC_at _ hi]
    by_cases hv : v = i
    · subst hv
      rw [if_pos rfl, if_pos (by rw [seenC_length]; exact h), seenC_at _ h]
      congr 2
      exact (decide_eq_true (List.mem_append.2 (.inr (List.mem_singleton.2 rfl)))).symm
    · rw [if_neg hv, seenC_at _ hi]
      have : ((i : Int) ∈ done ++ [(v : Int)]) ↔ (i : Int) ∈ done := by
        rw [List.mem_append, List.mem_singleton]
        constructor
        · rintro (h | h)
          · exact h
          · omega
        · exact .inl
      simp only [this]
  · rw [if_neg (by omega), List.getElem?_eq_none (by rw [seenC_length]; omega), List.getElem?_eq_none (by rw [seenC_length]; omega)]
theorem seenC_nil (n : Nat) : seenC n [] = List.replicate n (.bool false) := by
  apply List.ext_getElem?
  intro i
  by_cases hi : i < n
  · rw [seenC_at _ hi, List.getElem?_replicate, if_pos hi]; rfl
  · rw [List.getElem?_eq_none (by rw [seenC_length]; omega), List.getElem?_replicate, if_neg hi]
theorem permGo_drop {p : List Int} {k : Nat} {x : Int} (h : p[k]? = some x) (n : Int) : permGo n (p.take k) (p.drop k) = (inR x 0 (n - 1) && !decide (x ∈ p.take k) && permGo n (p.take (k + 1)) (p.drop (k + 1))) := by
  rw [drop_cons h, permGo, ← take_snoc h]

end Go.Proofs.YthjamohaeahipaaGreat

/- Permutations: the given side's test, walked. -/
namespace Go.Proofs.YthjamohaeahipaaGreat
open Go Go.RowKit

theorem info_bool : (Tryz.prog.info? 4).map (fun i => (i.zero, i.size, i.bytes)) = some (some (.bool false), 1, 1) := by kernel_rfl

end Go.Proofs.YthjamohaeahipaaGreat

/- Permutations: the program's test. -/
namespace Go.Proofs.YthjamohaeahipaaGreat
open Go Go.RowKit

theorem Blk.setAt {w : World} {g : Nat} {t : TypeId} {cs : Array Value} (h : Blk w g t cs) (j : Nat) (u : Value) : Blk (w.setCell ⟨g, j, none⟩ u) g t (cs.setIfInBounds j u) := by
  unfold Blk at h ⊢
  simp [World.setCell, Array.getElem?_modify, h]
end Go.Proofs.YthjamohaeahipaaGreat

/- The draws: the source. -/
namespace Go.Proofs.YthjamohaeahipaaGreat
open Go Go.RowKit

theorem drawn_sets (w : World) (a b : Nat) (p q : Addr) (u v : Value) : (((w.drewN a).setCell p u).setCell q v).drewN b = World.drewN ((w.setCell p u).setCell q v) (a + b) := by
  simp [World.drewN, World.setCell, Nat.add_comm, Nat.add_left_comm]
/-- A slice of bytes that is read. -/
def Bytes (w : World) (A : Option Addr) (bs : List Int) : Prop :=
  ∀ k, k < bs.length → ∃ b off x, A = some ⟨b, off, none⟩ ∧ bs[k]? = some x ∧ w.cell? ⟨b, off + k, none⟩ = some (.int .u8 x) ∧ 0 ≤ x ∧ x < 256
theorem Bytes.of_cells {w w' : World} {A : Option Addr} {bs : List Int} (h : Bytes w A bs) (hk : ∀ a v, w.cell? a = some v → w'.cell? a = some v) : Bytes w' A bs :=
  fun k hk' => by
    obtain ⟨b, off, x, hA, hx, hc, h0⟩ := h k hk'
    exact ⟨b, off, x, hA, hx, hk _ _ hc, h0⟩
/-- The source's box. -/
abbrev Src (w : World) (g : Nat) (A : Option Addr) (n c : Nat) (p s : Nat) : Prop := Blk w g 64 #[.slice A n c, .int .i64 (p : Int), .int .u64 (s : Int)]

set_option maxHeartbeats 1000000 in
theorem spec_next_end (g : Nat) (A : Option Addr) (c p s : Nat) (bs : List Int) (w : World) (h : Src w g A bs.length c p s) (hp : bs.length ≤ p) (hp2 : p ≤ 1152921504606846976) :
    Calls Tryz.prog 64 #[.pointer (some ⟨g, 0, none⟩)] w fun e w' => ∃ n, e = .returned (.int .i64 (byteOf (lcg s) : Nat)) ∧ w' = World.drewN ((w.setCell ⟨g, 1, none⟩ (.int .i64 ((p + 1 : Nat) : Int))).setCell ⟨g, 2, none⟩ (.int .u64 (lcg s : Nat))) n := by
  obtain ⟨c0, c1, c2⟩ := h.c3
  have f1 := h.frozen 1
  have f2 := h.frozen 2
  have d1 : decide ((p : Int) < (bs.length : Int)) = false := decide_eq_false (by omega)
  have j1 : IntKind.i64.wrap ((p : Int) + 1) = (p : Int) + 1 := IntWalk.i64_in _ ⟨by omega, by omega⟩
  go_enter Tryz.func64, Tryz.ntmps64
  go_wp2_with (fail)
  go_quiet (fail)
  go_wp2_with (fail)
  go_wp2_with (fail)
  have hu : IntKind.u64.wrap (IntKind.u64.wrap (IntKind.u64.wrap ((s : Int) * 6364136223846793005)) + 1442695040888963407) = ((lcg s : Nat) : Int) := by
    simp only [IntKind.wrap_u64, lin]
    omega
  rw [hu]
  have hL : lcg s < 18446744073709551616 := Nat.mod_lt _ (by decide)
  obtain ⟨L, hLs⟩ : ∃ L, L = lcg s := ⟨_, rfl⟩
  rw [← hLs] at hL ⊢
  have HL := Lib.hid hLs; clear hLs hu
  have d2 : decide ((p : Int) + 1 ≤ (bs.length : Int)) = false := decide_eq_false (by omega)
  go_quiet (fail)
  go_wp2_with (fail)
  have e1 : wrap64 (bits BinOp.and IntKind.u64 ((L : Int) / 1099511627776) 255) = ((byteOf L : Nat) : Int) := by
    have e2 := bits_and_u64_nat (L / 1099511627776) 255 (by omega) (by decide)
    rw [show ((L : Int) / 1099511627776) = ((L / 1099511627776 : Nat) : Int) from rfl]
    rw [show ((255 : Int)) = ((255 : Nat) : Int) from rfl, e2, show (255 : Nat) = 2 ^ 8 - 1 from rfl, Nat.and_two_pow_sub_one_eq_mod]
    unfold byteOf
    exact IntWalk.wrap64_in _ ⟨by omega, by omega⟩
  rw [e1]
  clear e1
  go_ret
  rw [drawn_sets, ← HL.out]
  exact ⟨_, rfl, rfl⟩

set_option maxHeartbeats 1000000 in
theorem spec_next_in (g : Nat) (A : Option Addr) (c p s : Nat) (bs : List Int) (w : World) (h : Src w g A bs.length c p s) (hby : Bytes w A bs) (hp : p < bs.length) (hp2 : p ≤ 1152921504606846976) :
    Calls Tryz.prog 64 #[.pointer (some ⟨g, 0, none⟩)] w fun e w' => ∃ (x : Int) (s' n : Nat), e = .returned (.int .i64 x) ∧ (0 ≤ x ∧ x < 256) ∧ s' < 18446744073709551616 ∧ w' = World.drewN ((w.setCell ⟨g, 1, none⟩ (.int .i64 ((p + 1 : Nat) : Int))).setCell ⟨g, 2, none⟩ (.int .u64 (s' : Int))) n := by
  obtain ⟨c0, c1, c2⟩ := h.c3
  have f1 := h.frozen 1
  have f2 := h.frozen 2
  obtain ⟨b, off, x, rfl, hx, hc, hx0, hx1⟩ := hby p hp
  clear hx
  have d1 : decide ((p : Int) < (bs.length : Int)) = true := decide_eq_true (by omega)
  have j1 : IntKind.i64.wrap ((p : Int) + 1) = (p : Int) + 1 := IntWalk.i64_in _ ⟨by omega, by omega⟩
  have j2 : (0 : Int) ≤ (p : Int) := by omega
  have j3 : (p : Int) < (bs.length : Int) := by omega
  have j4 : IntKind.i64.wrap x = x := IntWalk.i64_in _ ⟨by omega, by omega⟩
  have j5 : IntKind.u64.wrap x = x := IntWalk.u64_in _ ⟨by omega, by omega⟩
  go_enter Tryz.func64, Tryz.ntmps64
  go_wp2_with (fail)
  go_quiet (fail)
  go_wp2_with (fail)
  go_quiet (fail)
  go_wp2_with (fail)
  obtain ⟨s', hs1, hs2⟩ : ∃ s' : Nat, s' < 18446744073709551616 ∧ IntKind.u64.wrap (IntKind.u64.wrap (IntKind.u64.wrap ((s : Int) * 6364136223846793005) + x) + 1442695040888963407) = (s' : Int) := by
    refine ⟨(IntKind.u64.wrap (IntKind.u64.wrap (IntKind.u64.wrap ((s : Int) * 6364136223846793005) + x) + 1442695040888963407)).toNat, ?_, ?_⟩ <;> simp only [IntKind.wrap_u64] <;> omega
  rw [hs2]
  clear hs2
  have d2 : decide ((p : Int) + 1 ≤ (bs.length : Int)) = true := decide_eq_true (by omega)
  go_quiet (fail)
  go_wp2_with (fail)
  rw [drawn_sets]
  go_ret
  exact ⟨x, s', _, rfl, ⟨hx0, hx1⟩, hs1, rfl⟩
/-- What a number costs: while there is code, one of its bytes; then the seed goes on. -/
def Next (len p s : Nat) (x : Int) (s' : Nat) : Prop := (0 ≤ x ∧ x < 256) ∧ s' < 18446744073709551616 ∧ (len ≤ p → s' = lcg s ∧ x = ((byteOf s' : Nat) : Int))
theorem spec_next (g : Nat) (A : Option Addr) (c p s : Nat) (bs : List Int) (w : World) (h : Src w g A bs.length c p s) (hby : Bytes w A bs) (hp2 : p ≤ 1152921504606846976) (_hs : s < 18446744073709551616) :
    Calls Tryz.prog 64 #[.pointer (some ⟨g, 0, none⟩)] w fun e w' => ∃ (x : Int) (s' n : Nat), e = .returned (.int .i64 x) ∧ Next bs.length p s x s' ∧ w' = World.drewN ((w.setCell ⟨g, 1, none⟩ (.int .i64 ((p + 1 : Nat) : Int))).setCell ⟨g, 2, none⟩ (.int .u64 (s' : Int))) n := by
  by_cases hp : p < bs.length
  · refine (spec_next_in g A c p s bs w h hby hp hp2).mono ?_
    rintro e w2 ⟨x, s', n, rfl, hx, hs', rfl⟩
    exact ⟨x, s', n, rfl, ⟨hx, hs', fun hh => by omega⟩, rfl⟩
  · refine (spec_next_end g A c p s bs w h (by omega) hp2).mono ?_
    rintro e w2 ⟨n, rfl, rfl⟩
    have hb : byteOf (lcg s) < 256 := Nat.mod_lt _ (by decide)
    refine ⟨_, lcg s, n, rfl, ⟨⟨by omega, by omega⟩, Nat.mod_lt _ (by decide), fun _ => ⟨rfl, rfl⟩⟩, rfl⟩

/-- The world behind one number: the source's box, one number on. -/
def nextW (w : World) (g p s' n : Nat) : World := World.drewN ((w.setCell ⟨g, 1, none⟩ (.int .i64 ((p + 1 : Nat) : Int))).setCell ⟨g, 2, none⟩ (.int .u64 (s' : Int))) n
theorem nextW_src {w : World} {g p s s' n m c : Nat} {A : Option Addr} (h : Src w g A m c p s) : Src (nextW w g p s' n) g A m c (p + 1) s' := by
  have k := (h.setAt 1 (.int .i64 ((p + 1 : Nat) : Int))).setAt 2 (.int .u64 (s' : Int))
  have e : ((#[Value.slice A m c, .int .i64 (p : Int), .int .u64 (s : Int)] : Array Value).setIfInBounds 1 (.int .i64 ((p + 1 : Nat) : Int))).setIfInBounds 2 (.int .u64 (s' : Int)) = #[.slice A m c, .int .i64 ((p + 1 : Nat) : Int), .int .u64 (s' : Int)] := rfl
  rw [e] at k
  exact k.drewN n
theorem nextW_below (w : World) (g p s' n : Nat) : Below g w (nextW w g p s' n) :=
  below_drewN (((Below.refl _ _).setCell (p := ⟨g, 1, none⟩) (Nat.le_refl _) _).setCell (p := ⟨g, 2, none⟩) (Nat.le_refl _) _) n
theorem nextW_far {w : World} {g p s' n q : Nat} (h : q ≠ g) : (nextW w g p s' n).heap[q]? = w.heap[q]? :=
  (Below.heap_setCell _ _ _ q h).trans (Below.heap_setCell _ _ _ q h)
theorem spec_pick (m : Int) (g : Nat) (A : Option Addr) (c p s : Nat) (bs : List Int) (w : World) (h : Src w g A bs.length c p s) (hby : Bytes w A bs) (hp2 : p ≤ 1152921504606846976) (hs : s < 18446744073709551616) (hm : 2 ≤ m ∧ m ≤ 200) :
    Calls Tryz.prog 34 #[.pointer (some ⟨g, 0, none⟩), .int .i64 m] w fun e w' => ∃ (x : Int) (s' n : Nat), e = .returned (.int .i64 (x % m)) ∧ Next bs.length p s x s' ∧ w' = nextW w g p s' n := by
  obtain ⟨hm2, hm200⟩ := hm
  go_enter Tryz.func34, Tryz.ntmps34
  go_wp2_with (fail)
  refine (spec_next g A c p s bs w h hby hp2 hs).mono ?_
  rintro e w2 ⟨x, s', n, rfl, hx, rfl⟩
  obtain ⟨hx0, hx1⟩ := hx.1
  have HX := Lib.hid hx; clear hx
  have e1 : x.tmod m = x % m := Int.tmod_eq_emod_of_nonneg hx0
  have e2 := Int.emod_nonneg x (show m ≠ 0 by omega)
  have e3 := Int.emod_lt_of_pos x (show 0 < m by omega)
  have hm0 : ¬ m = 0 := by omega
  go_wp2_with (fail)
  go_ret
  exact ⟨x, s', n, rfl, HX.out, rfl⟩

theorem spec_one (m : Int) (g : Nat) (A : Option Addr) (c p s : Nat) (bs : List Int) (w : World) (h : Src w g A bs.length c p s) (hby : Bytes w A bs) (hp2 : p ≤ 1152921504606846976) (hs : s < 18446744073709551616) (hm : 2 ≤ m ∧ m ≤ 200) :
    Calls Tryz.prog 16 #[.pointer (some ⟨g, 0, none⟩), .int .i64 m] w fun e w' => ∃ (b : Bool) (x : Int) (s' n : Nat), e = .returned (.bool b) ∧ Next bs.length p s x s' ∧ w' = nextW w g p s' n := by
  go_enter Tryz.func16, Tryz.ntmps16
  go_wp2_with (fail)
  refine (spec_pick m g A c p s bs w h hby hp2 hs hm).mono ?_
  rintro e w2 ⟨x, s', n, rfl, hx, rfl⟩
  have HX := Lib.hid hx; clear hx
  generalize x % m = y
  go_wp2_with (fail)
  go_ret
  exact ⟨_, x, s', n, rfl, HX.out, rfl⟩

theorem spec_among (l : List Int) (L : Option Addr) (d : Nat) (g : Nat) (A : Option Addr) (c p s : Nat) (bs : List Int) (w : World) (h : Src w g A bs.length c p s) (hby : Bytes w A bs) (hp2 : p ≤ 1152921504606846976) (hs : s < 18446744073709551616) (hL : Ints w L l) (hLg : ∀ a, L = some a → a.block ≠ g) (hm : 2 ≤ l.length ∧ l.length ≤ 200) :
    Calls Tryz.prog 35 #[.pointer (some ⟨g, 0, none⟩), .slice L l.length d] w fun e w' => ∃ (x y : Int) (s' n : Nat), e = .returned (.int .i64 y) ∧ l[(x % (l.length : Int)).toNat]? = some y ∧ Next bs.length p s x s' ∧ w' = nextW w g p s' n := by
  go_enter Tryz.func35, Tryz.ntmps35
  go_wp2_with (fail)
  refine (spec_pick l.length g A c p s bs w h hby hp2 hs ⟨by omega, by omega⟩).mono ?_
  rintro e w2 ⟨x, s', n, rfl, hx, rfl⟩
  have e2 := Int.emod_nonneg x (show (l.length : Int) ≠ 0 by omega)
  have e3 := Int.emod_lt_of_pos x (show 0 < (l.length : Int) by omega)
  obtain ⟨k, hk⟩ := Int.eq_ofNat_of_zero_le e2
  rw [hk] at e3 ⊢
  have HK := Lib.hid hk; clear hk
  obtain ⟨b, off, y, rfl, hc, hy⟩ := hL k (by omega)
  have hb : b ≠ g := hLg _ rfl
  have hc' : (nextW w g p s' n).cell? ⟨b, off + k, none⟩ = some (.int .i64 y) := by
    rw [← hc]
    unfold World.cell?
    rw [nextW_far hb]
  have HX := Lib.hid hx; clear hx hc
  have HY := Lib.hid hy; clear hy
  generalize hW : nextW w g p s' n = W at hc'
  have HW := Lib.hid hW; clear hW
  go_wp2_with (fail)
  go_ret
  exact ⟨x, y, s', n, rfl, by rw [HK.out]; simpa using HY.out, HX.out, HW.out.symm⟩

end Go.Proofs.YthjamohaeahipaaGreat

/- Arguments of the laws: bytes. -/
namespace Go.Proofs.YthjamohaeahipaaGreat
open Go.ChangeShapes Go.WideShapes Go.ChangeAt Go.RowKit
open Go.ChangeMaps (open_string shut_string)

section
variable {H : Type} {enc : TypeId × Value → H} {W : World} {base : Nat} {v : Value} {d : DataW H} {p : List MemPlace} {fuel : Nat} {cs : List Value} {x : DataW H × List MemPlace} {b0 : Nat}
theorem trod_bytes (h : DataW.trod enc Tryz.prog W b0 (fun _ => true) true fuel 22 cs = some x) :
    ∃ A c xs, cs = [.slice A xs.length c] ∧ Bytes W A xs ∧ xs.length ≤ 9223372036854775807 := by
  rcases open_ints Tryz.underlying22 Tryz.underlying5 (by kernel_rfl) h with ⟨hcs, _⟩ | ⟨x, n, c, zs, hcs, _, hl, hm, hz, _, hcell, hwz⟩
  · exact ⟨none, 0, [], hcs, fun k hk => by simp at hk, by rw [List.length_nil]; omega⟩
  · have hz' : zs.length = c := by simpa using hz
    have hlen : (zs.take n).length = n := by rw [List.length_take]; omega
    refine ⟨some x, c, zs.take n, by rw [hlen]; exact hcs, fun k hk => ?_, by rw [hlen]; unfold maxLen at hm; omega⟩
    have hk' : k < n := by omega
    have h0 := hcell 0 (by omega)
    rw [show x.add 0 = x by simp [Addr.add]] at h0
    have hx := addr_of_cell h0
    have hw := hwz (zs[k]'(by omega)) (List.getElem_mem _)
    refine ⟨x.block, x.off, zs[k]'(by omega), by rw [← hx], ?_, ?_, ?_⟩
    · rw [List.getElem?_take, if_pos hk', List.getElem?_eq_getElem]
    · have := hcell k (by omega)
      rw [hx, add_form] at this
      rw [this]
      simp [show k < zs.length by omega]
    · have e0 : IntKind.u8.min = 0 := rfl
      have e1 : IntKind.u8.max = 255 := rfl
      simp only [Lit.wf, e0, e1, Bool.and_eq_true, decide_eq_true_eq] at hw
      omega
set_option maxRecDepth 100000 in
theorem open_Bytes (hv : Value.okWide Tryz.prog W .any base 22 v) (h : DataW.Trod enc Tryz.prog W 0 (fun _ => true) true 22 v d p) :
    ∃ A c xs, v = .slice A xs.length c ∧ Bytes W A xs ∧ xs.length ≤ 9223372036854775807 := by
  obtain ⟨A, n, c, rfl⟩ := okWide_slice Tryz.underlying22 hv
  obtain ⟨fuel, hf⟩ := h
  obtain ⟨A', c', xs, hcs, hi, hl⟩ := trod_bytes hf
  simp [Value.cells] at hcs
  obtain ⟨rfl, rfl, rfl⟩ := hcs
  exact ⟨_, _, _, rfl, hi, hl⟩

end
end Go.Proofs.YthjamohaeahipaaGreat
