/- Steps of the proof, joined from several texts: PO XF XG. -/
import Derived.Test.YtfgbhhkmdeljoaaZ1
import Derived.Deep.RegionHeld3
import Derived.Test.YtfgbhhkmdeljoaaZ12

/- A region that draws its order and whose last operation waits for all the others: it is carried out last. -/
namespace Go.Proofs.Ytfgbhhkmdeljoaa
open Go Go.RowKit

/-- What is left to do behind the region's other operations: these, one after the other. -/
def QTail (P : Program) (T : List Oper) (Q : Exit → Act → World → Prop) : Exit → Act → World → Prop
  | .normal, a, w => wpList P #[] Q T a w
  | e, a, w => Q e a w
def popB (ops : Array Oper) : Bool :=
  ops.toList.all (fun x => x.guard.isNone) &&
  (List.range ops.size).all (fun i => match ops[i]? with | some x => x.after.toList.all (fun e => !Region.binds .any e || decide (e.on < i)) | none => false) &&
  (List.range (ops.size - 1)).all (fun i => (List.range ops.size).any fun j => decide (i < j) && (match ops[j]? with | some x => x.after.toList.any (fun e => Region.binds .any e && decide (e.on = i)) | none => false))
theorem pop_guard {ops : Array Oper} (h : popB ops = true) {i : Nat} {x : Oper} (hx : ops[i]? = some x) : x.guard = none := by
  unfold popB at h
  simp only [Bool.and_eq_true, List.all_eq_true] at h
  have := h.1.1 x (by rw [Array.mem_toList_iff]; exact Array.mem_of_getElem? hx)
  simpa using this
theorem pop_low {ops : Array Oper} (h : popB ops = true) {i : Nat} {x : Oper} (hx : ops[i]? = some x) : ∀ e ∈ x.after, Region.binds .any e = true → e.on < i := by
  unfold popB at h
  simp only [Bool.and_eq_true, List.all_eq_true] at h
  have hi : i < ops.size := (Array.getElem?_eq_some_iff.1 hx).1
  have := h.1.2 i (by simpa using hi)
  rw [hx] at this
  simp only [List.all_eq_true, Bool.or_eq_true, Bool.not_eq_true', decide_eq_true_eq] at this
  intro e he hb
  rcases this e (by rw [Array.mem_toList_iff]; exact he) with h | h
  · rw [hb] at h; cases h
  · exact h
theorem pop_wait {ops : Array Oper} (h : popB ops = true) {i : Nat} (hi : i < ops.size - 1) : ∃ j x e, i < j ∧ ops[j]? = some x ∧ e ∈ x.after ∧ Region.binds .any e = true ∧ e.on = i := by
  unfold popB at h
  simp only [Bool.and_eq_true, List.all_eq_true] at h
  have := h.2 i (by simpa using hi)
  obtain ⟨j, hj, hb⟩ := List.any_eq_true.1 this
  simp only [Bool.and_eq_true, decide_eq_true_eq] at hb
  obtain ⟨hij, hb⟩ := hb
  cases hx : ops[j]? with
  | none => rw [hx] at hb; cases hb
  | some x =>
    rw [hx] at hb
    obtain ⟨e, he, hb⟩ := List.any_eq_true.1 hb
    simp only [Bool.and_eq_true, decide_eq_true_eq] at hb
    exact ⟨j, x, e, hij, hx, by rw [← Array.mem_toList_iff]; exact he, hb.1, hb.2⟩

structure PopRel (ops : Array Oper) (l l' : Array Bool) : Prop where
  s : l.size = ops.size
  s' : l'.size + 1 = ops.size
  same : ∀ i, i < l'.size → l[i]? = l'[i]?
  last : l[l'.size]? = some false
  closed : ∀ i x, i < l'.size → l[i]? = some true → ops[i]? = some x → ∀ e ∈ x.after, Region.binds .any e = true → l[e.on]? = some true
theorem getD_f {l : Array Bool} {i : Nat} : l.getD i true = false ↔ l[i]? = some false := by
  rw [Array.getD_eq_getD_getElem?]
  cases l[i]? with
  | none => simp
  | some b => simp
theorem getD_t {l : Array Bool} {i : Nat} : l.getD i false = true ↔ l[i]? = some true := by
  rw [Array.getD_eq_getD_getElem?]
  cases l[i]? with
  | none => simp
  | some b => simp
theorem ready_iff {md : Region.Mode} {ops : Array Oper} {l : Array Bool} {i : Nat} : i ∈ Region.ready md ops l ↔ l[i]? = some false ∧ ∃ x, ops[i]? = some x ∧ ∀ e ∈ x.after, Region.binds md e = true → l[e.on]? = some true := by
  rw [mem_ready, getD_f]
  constructor
  · rintro ⟨h1, x, hx, h2⟩; exact ⟨h1, x, hx, fun e he hb => getD_t.1 (h2 e he hb)⟩
  · rintro ⟨h1, x, hx, h2⟩; exact ⟨h1, x, hx, fun e he hb => getD_t.2 (h2 e he hb)⟩
section
variable {P : Program} {ops : Array Oper} {Q : Exit → Act → World → Prop} {l l' : Array Bool}
theorem pop_at {i : Nat} (hi : i < ops.size - 1) : ops.pop[i]? = ops[i]? := by
  rw [Array.getElem?_pop]
  simp [hi]
theorem PopRel.ready (h : PopRel ops l l') (hp : popB ops = true) {i : Nat} (hi : i < l'.size) : i ∈ Region.ready .any ops.pop l' ↔ i ∈ Region.ready .any ops l := by
  have hs := h.s'
  rw [ready_iff, ready_iff, pop_at (by omega), h.same i hi]
  constructor
  · rintro ⟨h1, x, hx, h2⟩
    exact ⟨h1, x, hx, fun e he hb => by have := pop_low hp hx e he hb; rw [h.same _ (by omega)]; exact h2 e he hb⟩
  · rintro ⟨h1, x, hx, h2⟩
    exact ⟨h1, x, hx, fun e he hb => by have := pop_low hp hx e he hb; rw [← h.same _ (by omega)]; exact h2 e he hb⟩
theorem PopRel.all_of_last (h : PopRel ops l l') (hp : popB ops = true) (hn : l'.size ∈ Region.ready .any ops l) : ∀ i, i < l'.size → l[i]? = some true := by
  have hs := h.s'
  have key : ∀ m i, l'.size - i ≤ m → i < l'.size → l[i]? = some true := by
    intro m
    induction m with
    | zero => intro i h1 h2; omega
    | succ m ih =>
      intro i h1 h2
      obtain ⟨j, x, e, hij, hx, he, hb, hon⟩ := pop_wait hp (i := i) (by omega)
      have hj : j < ops.size := (Array.getElem?_eq_some_iff.1 hx).1
      by_cases hjn : j = l'.size
      · subst hjn
        obtain ⟨_, y, hy, h3⟩ := ready_iff.1 hn
        rw [hx] at hy
        injection hy with hy
        subst hy
        rw [← hon]
        exact h3 e he hb
      · have := ih j (by omega) (by omega)
        rw [← hon]
        exact h.closed j x (by omega) this hx e he hb
  intro i hi
  exact key l'.size i (by omega) hi
theorem PopRel.all_of_none (h : PopRel ops l l') (hp : popB ops = true) (hn : Region.ready .any ops.pop l' = []) : ∀ i, i < l'.size → l[i]? = some true := by
  have hs := h.s'
  intro i
  induction i using Nat.strongRecOn with
  | ind i ih =>
    intro hi
    have hx : ops[i]? = some ops[i] := Array.getElem?_eq_getElem (by omega)
    have hl : l[i]? = some (l[i]'(by rw [h.s]; omega)) := Array.getElem?_eq_getElem (by rw [h.s]; omega)
    cases hb : l[i]'(by rw [h.s]; omega) with
    | true => rw [hl, hb]
    | false =>
      rw [hb] at hl
      have : i ∈ Region.ready .any ops l := ready_iff.2 ⟨hl, _, hx, fun e he hb => by have := pop_low hp hx e he hb; exact ih _ this (by omega)⟩
      rw [← h.ready hp hi, hn] at this
      cases this
theorem PopRel.last_ready (h : PopRel ops l l') (hp : popB ops = true) (ha : ∀ i, i < l'.size → l[i]? = some true) : l'.size ∈ Region.ready .any ops l := by
  have hs := h.s'
  have hx : ops[l'.size]? = some (ops[l'.size]'(by omega)) := Array.getElem?_eq_getElem (by omega)
  exact ready_iff.2 ⟨h.last, _, hx, fun e he hb => ha _ (pop_low hp hx e he hb)⟩
theorem PopRel.step (h : PopRel ops l l') {i : Nat} (hi : i < l'.size) (hr : i ∈ Region.ready .any ops l) : PopRel ops (l.setIfInBounds i true) (l'.setIfInBounds i true) := by
  have hs := h.s
  have hs' := h.s'
  have at_ : ∀ j : Nat, l[j]? = some true → (l.setIfInBounds i true)[j]? = some true := by
    intro j hj
    rw [Array.getElem?_setIfInBounds]
    split
    · rename_i e; subst e; rw [if_pos (by omega)]
    · exact hj
  refine ⟨by simpa using hs, by simpa using hs', fun j hj => ?_, ?_, fun j x hj hl hx e he hb => ?_⟩
  · simp only [Array.size_setIfInBounds] at hj
    rw [Array.getElem?_setIfInBounds, Array.getElem?_setIfInBounds]
    split
    · rw [if_pos (by omega)]
    · exact h.same j hj
  · simp only [Array.size_setIfInBounds]
    rw [Array.getElem?_setIfInBounds, if_neg (by omega)]
    exact h.last
  · simp only [Array.size_setIfInBounds] at hj
    rw [Array.getElem?_setIfInBounds] at hl
    split at hl
    · rename_i e'
      subst e'
      obtain ⟨_, y, hy, h3⟩ := ready_iff.1 hr
      rw [hx] at hy
      injection hy with hy
      subst hy
      exact at_ _ (h3 e he hb)
    · exact at_ _ (h.closed j x hj hl hx e he hb)
theorem Oper.wp_le {o : Oper} {a : Act} {w : World} {K K' : Act → World → Prop} {Q' : Exit → Act → World → Prop} (hk : ∀ a w, K a w → K' a w) (hp : ∀ c a w, Q (.panic c) a w → Q' (.panic c) a w) (hout : LetsOut Q → LetsOut Q')
    (hh : o.wp P a w K Q) : o.wp P a w K' Q' := by
  unfold Oper.wp at *
  generalize (execOp a.eval o).run P w = r at *
  cases r with
  | ok n w' =>
    cases n <;> simp only [Oper.upon] at hh ⊢ <;>
      first
        | exact hk _ _ hh
        | exact Calls.mono hh (fun e w'' he => by cases e <;> first | exact hk _ _ he | exact hout he | exact hp _ _ _ he)
        | exact Rows.mono hh (fun _ _ he => hk _ _ he)
  | halt x w' => cases x <;> simp only [Oper.upon] at hh ⊢ <;> exact hp _ _ _ hh
theorem wpOp_le {i : Nat} {a : Act} {w : World} {K K' : Act → World → Prop} {Q' : Exit → Act → World → Prop} (hk : ∀ a w, K a w → K' a w) (hp : ∀ c a w, Q (.panic c) a w → Q' (.panic c) a w) (hout : LetsOut Q → LetsOut Q')
    (hh : wpOp P ops Q i K a w) : wpOp P ops Q' i K' a w := by
  unfold wpOp at *
  split
  · rename_i hx
    rw [hx] at hh
    exact hk _ _ hh
  · rename_i o ho
    simp only [ho] at hh
    split
    · rename_i hw
      simp only [hw, if_true] at hh
      exact hh.imp (Oper.wp_le hk hp hout) fun h => ⟨h.1, hout h.2⟩
    · rename_i hw
      simp only [hw] at hh
      exact hk _ _ hh
theorem wpAny_le {Q' : Exit → Act → World → Prop} {md : Region.Mode} (hn : ∀ a w, Q .normal a w → Q' .normal a w) (hp : ∀ c a w, Q (.panic c) a w → Q' (.panic c) a w) (hout : LetsOut Q → LetsOut Q') :
    ∀ (fuel : Nat) (l : Array Bool) (a : Act) (w : World), wpAny P md ops Q fuel l a w → wpAny P md ops Q' fuel l a w
  | 0, _, _, _, h => ⟨h.1, hn _ _ h.2⟩
  | fuel + 1, _, _, _, h => ⟨fun h0 => hn _ _ (h.1 h0), fun i hi => wpOp_le (fun _ _ h' => wpAny_le hn hp hout fuel _ _ _ h') hp hout (h.2 i hi)⟩
theorem wpList_join {T : List Oper} {o : Oper} (hg : ∀ x ∈ T, x.guard = none) : ∀ (a : Act) (w : World), wpList P #[] Q (T ++ [o]) a w → wpList P #[] (QTail P [o] Q) T a w := by
  induction T with
  | nil => intro a w h; exact h
  | cons x T ih =>
    intro a w h
    rw [List.cons_append] at h
    unfold wpList at h ⊢
    have hw : Region.wanted x (yielded #[] a.tmps) = true := by simp [Region.wanted, hg x (by simp)]
    simp only [hw, if_true] at h ⊢
    exact h.imp (Oper.wp_le (ih fun y hy => hg y (by simp [hy])) (fun _ _ _ h => h) (fun ⟨a, w, h⟩ => ⟨a, w, h⟩)) fun h => ⟨h.1, h.2.imp fun a h => h.imp fun w h => h⟩
theorem pop_fin {o : Oper} (h : PopRel ops l l') (hp : popB ops = true) (ho : ops[l'.size]? = some o) (ha : ∀ i, i < l'.size → l[i]? = some true) {a : Act} {w : World} (hq : wpList P #[] Q [o] a w) (fuel : Nat) :
    wpOp P ops Q l'.size (wpAny P .any ops Q fuel (l.setIfInBounds l'.size true)) a w := by
  have hg := pop_guard hp ho
  have hr : Region.ready .any ops (l.setIfInBounds l'.size true) = [] := by
    apply List.eq_nil_iff_forall_not_mem.2
    intro i hi
    obtain ⟨h1, x, hx, _⟩ := ready_iff.1 hi
    rw [Array.getElem?_setIfInBounds] at h1
    split at h1
    · split at h1
      · cases h1
      · cases h1
    · have hil : i < ops.size := (Array.getElem?_eq_some_iff.1 hx).1
      have hs := h.s'
      rw [ha i (by omega)] at h1
      cases h1
  have fin : ∀ a w, Q .normal a w → wpAny P .any ops Q fuel (l.setIfInBounds l'.size true) a w := by
    intro a w hq
    cases fuel with
    | zero => exact ⟨hr, hq⟩
    | succ fuel => exact ⟨fun _ => hq, by rw [hr]; simp⟩
  unfold wpOp
  rw [ho]
  have hw : Region.wanted o (yielded ops a.tmps) = true := by simp [Region.wanted, hg]
  have hw0 : Region.wanted o (yielded #[] a.tmps) = true := by simp [Region.wanted, hg]
  simp only [hw, if_true]
  unfold wpList at hq
  simp only [hw0, if_true] at hq
  rcases hq with hq | hq
  · exact .inl (Oper.wp_mono fin hq)
  · exact .inr hq
theorem wpAny_pop {o : Oper} (hp : popB ops = true) (ho : ops[ops.size - 1]? = some o) : ∀ (fuel : Nat) (l l' : Array Bool) (a : Act) (w : World), PopRel ops l l' →
    wpAny P .any ops.pop (QTail P [o] Q) fuel l' a w → wpAny P .any ops Q (fuel + 1) l a w := by
  intro fuel
  induction fuel with
  | zero =>
    intro l l' a w h H
    have hs := h.s'
    have ha := h.all_of_none hp H.1
    have hn := h.last_ready hp ha
    have ho' : ops[l'.size]? = some o := by rw [← ho]; congr 1; omega
    refine ⟨fun h0 => (by rw [h0] at hn; cases hn), fun i hi => ?_⟩
    obtain ⟨h1, x, hx, _⟩ := ready_iff.1 hi
    have hil : i < ops.size := (Array.getElem?_eq_some_iff.1 hx).1
    have : i = l'.size := by
      rcases Nat.lt_or_ge i l'.size with hlt | hge
      · rw [ha i hlt] at h1; cases h1
      · omega
    subst this
    exact pop_fin h hp ho' ha H.2 0
  | succ fuel ih =>
    intro l l' a w h H
    have hs := h.s'
    have ho' : ops[l'.size]? = some o := by rw [← ho]; congr 1; omega
    refine ⟨fun h0 => ?_, fun i hi => ?_⟩
    · have hn : Region.ready .any ops.pop l' = [] := by
        apply List.eq_nil_iff_forall_not_mem.2
        intro i hi
        have hil : i < l'.size := by
          have h1 := (ready_iff.1 hi).1
          exact (Array.getElem?_eq_some_iff.1 h1).1
        rw [h.ready hp hil, h0] at hi
        cases hi
      have := h.last_ready hp (h.all_of_none hp hn)
      rw [h0] at this
      cases this
    · have hil : i < l.size := by
        have h1 := (ready_iff.1 hi).1
        exact (Array.getElem?_eq_some_iff.1 h1).1
      have hsz := h.s
      by_cases hin : i = l'.size
      · subst hin
        have ha := h.all_of_last hp hi
        have hn : Region.ready .any ops.pop l' = [] := by
          apply List.eq_nil_iff_forall_not_mem.2
          intro i hi
          have h1 := (ready_iff.1 hi).1
          have hil : i < l'.size := (Array.getElem?_eq_some_iff.1 h1).1
          rw [← h.same i hil, ha i hil] at h1
          cases h1
        exact pop_fin h hp ho' ha (H.1 hn) (fuel + 1)
      · have hlt : i < l'.size := by omega
        have h2 := H.2 i ((h.ready hp hlt).2 hi)
        have hx : ops[i]? = some (ops[i]'(by omega)) := Array.getElem?_eq_getElem (by omega)
        have hg := pop_guard hp hx
        unfold wpOp at h2 ⊢
        rw [pop_at (by omega), hx] at h2
        rw [hx]
        have hw1 : Region.wanted (ops[i]'(by omega)) (yielded ops.pop a.tmps) = true := by simp [Region.wanted, hg]
        have hw2 : Region.wanted (ops[i]'(by omega)) (yielded ops a.tmps) = true := by simp [Region.wanted, hg]
        simp only [hw1, if_true] at h2
        simp only [hw2, if_true]
        rcases h2 with h2 | ⟨h2, h3⟩
        · exact .inl (Oper.wp_le (fun a w hk => ih _ _ a w (h.step hlt hi) hk) (fun _ _ _ h => h) (fun ⟨a, w, h⟩ => ⟨a, w, h⟩) h2)
        · exact .inr ⟨h2, h3⟩
theorem PopRel.start (hpos : 0 < ops.size) : PopRel ops (Array.replicate ops.size false) (Array.replicate (ops.size - 1) false) := by
  refine ⟨by simp, by simp; omega, fun i hi => ?_, ?_, fun i x hi hl => ?_⟩
  · simp at hi
    simp [Array.getElem?_replicate, hi]
    omega
  · simp [Array.getElem?_replicate]
    omega
  · simp [Array.getElem?_replicate] at hl
/-- The region without its last k operations. -/
def pops : Nat → Array Oper → Array Oper
  | 0, ops => ops
  | k + 1, ops => pops k ops.pop
def popsB : Nat → Array Oper → Bool
  | 0, _ => true
  | k + 1, ops => popB ops && decide (0 < ops.size) && popsB k ops.pop
def tailOf : Nat → Array Oper → List Oper
  | 0, _ => []
  | k + 1, ops => tailOf k ops.pop ++ (ops.back?).toList
theorem tailOf_guard {k : Nat} : ∀ {ops : Array Oper}, popsB k ops = true → ∀ x ∈ tailOf k ops, x.guard = none := by
  induction k with
  | zero => intro ops _ x hx; simp [tailOf] at hx
  | succ k ih =>
    intro ops h x hx
    simp only [popsB, Bool.and_eq_true] at h
    simp only [tailOf, List.mem_append] at hx
    rcases hx with hx | hx
    · exact ih h.2 x hx
    · simp only [Option.mem_toList] at hx
      exact pop_guard h.1.1 (i := ops.size - 1) (by rw [← Array.back?_eq_getElem?]; exact hx)
theorem wpAny_pops {k : Nat} : ∀ {ops : Array Oper} {Q : Exit → Act → World → Prop} {a : Act} {w : World}, popsB k ops = true →
    wpAny P .any (pops k ops) (QTail P (tailOf k ops) Q) (ops.size - k) (Array.replicate (ops.size - k) false) a w → wpAny P .any ops Q ops.size (Array.replicate ops.size false) a w := by
  induction k with
  | zero => intro ops Q a w _ h; exact wpAny_le (Q := QTail P (tailOf 0 ops) Q) (Q' := Q) (fun _ _ h => h) (fun _ _ _ h => h) (fun ⟨a, w, h⟩ => ⟨a, w, h⟩) _ _ _ _ h
  | succ k ih =>
    intro ops Q a w hp h
    simp only [popsB, Bool.and_eq_true, decide_eq_true_eq] at hp
    obtain ⟨⟨hp1, hpos⟩, hp2⟩ := hp
    obtain ⟨o, ho⟩ : ∃ o, ops[ops.size - 1]? = some o := ⟨_, Array.getElem?_eq_getElem (by omega)⟩
    have hb : ops.back? = some o := by rw [Array.back?_eq_getElem?]; exact ho
    have h1 : wpAny P .any ops.pop (QTail P [o] Q) ops.pop.size (Array.replicate ops.pop.size false) a w := by
      refine ih hp2 ?_
      have e : ops.pop.size - k = ops.size - (k + 1) := by simp; omega
      rw [e]
      refine wpAny_le (Q := QTail P (tailOf (k + 1) ops) Q) (Q' := QTail P (tailOf k ops.pop) (QTail P [o] Q)) (fun a w hn => ?_) (fun _ _ _ h => h) (fun ⟨a, w, h⟩ => ⟨a, w, h⟩) _ _ _ _ h
      have hn' : wpList P #[] Q (tailOf k ops.pop ++ [o]) a w := by
        have : wpList P #[] Q (tailOf k ops.pop ++ (ops.back?).toList) a w := hn
        rwa [hb] at this
      exact wpList_join (tailOf_guard hp2) a w hn'
    have h2 := wpAny_pop (Q := Q) hp1 ho ops.pop.size (Array.replicate ops.size false) (Array.replicate ops.pop.size false) a w (by rw [Array.size_pop]; exact PopRel.start hpos) h1
    have e : ops.pop.size + 1 = ops.size := by simp; omega
    rwa [e] at h2
/-- The beginning of such a region: its last k operations are carried out last, one after the other. -/
theorem wp_region_pops (k : Nat) {S : World → Prop} {id : Nat} {a : Act} {w : World} {pre : Array Oper} {T : List Oper} {n : Nat} (hm : P.follows .mixedOrders = true) (hp : popsB k ops = true)
    (hpre : pops k ops = pre) (hT : tailOf k ops = T) (hn : ops.size - k = n) (hS : S w.drew)
    (h : S w.drew → wpAnyH P .any pre (QTail P T Q) S n (Array.replicate n false) a w.drew) : (Code.region id ops true).wp P Q a w := by
  subst hpre hT hn
  exact wp_region_any hm (wpAny_pops hp (wpAny_of_held _ _ _ _ (h hS)))
end

end Go.Proofs.Ytfgbhhkmdeljoaa

/- Charts: own copies, the given side. -/
namespace Go.Proofs.Ytfgbhhkmdeljoaa
open Go Go.RowKit

set_option maxHeartbeats 4000000 in
set_option maxRecDepth 10000 in
theorem spec_l15Own (g o : Nat) (n : Int) (rs : List RowD) (A : Option Addr) (c : Nat) (w : World) (h : RowsR w A rs) (hl : rs.length ≤ 1000000) (hs : ∀ r ∈ rs, r.s.length ≤ 1000000)
    (c0 : w.cell? ⟨g, o, none⟩ = some (.int .i64 n)) (c1 : w.cell? ⟨g, o + 1, none⟩ = some (.slice A rs.length c)) :
    Calls Try.prog 68 #[.pointer (some ⟨g, o, none⟩)] w fun e w' => ∃ A' c', e = .returned (.agg #[.int .i64 n, .slice A' rs.length c']) ∧ OwnRows w' w.heap.size w'.heap.size A' rs.length c' rs ∧ Below w.heap.size w w' := by
  have t1 : (29 : TypeId) ≠ 2 := by decide
  have t2 : (29 : TypeId) ≠ 60 := by decide
  obtain ⟨i0, hi0, hy0, hy1, hy2⟩ := info_parts info_Row
  have hgl : g < w.heap.size := cell_lt c0
  have hb1 : Below w.heap.size w (w.alloc (.cells #[.int .i64 0, .slice none 0 0] 29)) := by (repeat (first | exact Below.refl _ _ | assumption | apply Below.drew | apply below_drewN | (refine Below.alloc ?_ (by first | omega | (simp; done) | (simp; omega)) _) | (refine Below.setCell ?_ (by first | omega | (simp; done) | (simp; omega)) _)))
  have kz0 := Blk.new w 29 #[.int .i64 0, .slice none 0 0]
  have HS := Lib.hid hs; clear hs
  have HR := Lib.hid (h.below hb1)
  have HW := Lib.hid (rfl : w.alloc (.cells #[.int .i64 0, .slice none 0 0] 29) = w.alloc (.cells #[.int .i64 0, .slice none 0 0] 29))
  have C0 := Lib.hid (cells_below hb1 _ _ c0)
  have C1 := Lib.hid (cells_below hb1 _ _ c1)
  go_enter Try.func68, Try.ntmps68
  go_wp2_with (fail)
  obtain ⟨wB, hwB⟩ : ∃ wB, wB = w.alloc (.cells #[.int .i64 0, .slice none 0 0] 29) := ⟨_, rfl⟩
  have hzB : wB.heap.size = w.heap.size + 1 := by rw [hwB]; simp
  have HZB := Lib.hid hzB
  rw [← hwB] at HR C0 C1 kz0 hb1 ⊢
  rw [← hzB]
  clear hzB hwB HW
  have hzl : w.heap.size < wB.heap.size := kz0.lt
  go_loopw [4] (fun iv wr => ∃ k : Nat, k ≤ rs.length ∧ iv = .int .i64 k ∧ ChartInv n wB.heap.size wB wr k (rs.take k)) (fun iv _ => rs.length - (intOf iv).toNat)
  case atStart => exact ⟨0, Nat.zero_le _, rfl, ChartInv.start _ _⟩
  case round =>
    obtain ⟨k, hk, rfl, hinv⟩ := hrel
    obtain ⟨hdl, hb, hlt, A', c', cs, kb, ho, hcr⟩ := hinv
    have kzr := kz0.below hb (by omega)
    obtain ⟨s0, s1⟩ := kb.c2
    have d0 := cells_below hb _ _ C0.out
    have d1 := cells_below hb _ _ C1.out
    by_cases hkl : k < rs.length
    · obtain ⟨b, off, A7, c7, q, rfl, hx, f0, f1, f2, hi, hil⟩ := (HR.out.below hb) k hkl
      have hq := HS.out q (List.mem_of_getElem? hx)
      have HX : Hid (rs.take (k + 1) = rs.take k ++ [q]) := Lib.hid (take_snoc hx)
      clear hx
      have j1 : (0 : Int) ≤ (k : Int) := by omega
      have j2 : (k : Int) < (rs.length : Int) := by omega
      have HI := Lib.hid (Ints.drew1 hi)
      have HOW : Hid (∀ W, Ints W A7 q.s → Calls Try.prog 62 #[.slice A7 q.s.length c7] W fun e w' => ∃ A' c', e = .returned (.slice A' q.s.length c') ∧ OwnI w' W.heap.size w'.heap.size A' c' q.s ∧ Below W.heap.size W w') := Lib.hid (fun W hW => spec_l00Own A7 c7 q.s W hW (by omega))
      go_wp2_with (fail)
      (refine wp_region_pops 3 (S := (fun W' => W'.cell? ⟨wB.heap.size, 1, none⟩ = some (.slice A' k c') ∧ W'.cell? ⟨g, o, none⟩ = some (.int .i64 n) ∧ W'.cell? ⟨g, o + 1, none⟩ = some (.slice (some ⟨b, off, none⟩) rs.length c) ∧ W'.cell? ⟨b, off + k * 3, none⟩ = some (.int .i64 q.d) ∧ W'.cell? ⟨b, off + k * 3 + 1, none⟩ = some (.int .i64 q.r) ∧ W'.cell? ⟨b, off + k * 3 + 2, none⟩ = some (.slice A7 q.s.length c7))) (pre := ?_) (T := ?_) (n := ?_) (by kernel_rfl) (by kernel_rfl) ?_ ?_ ?_ ?_ (fun hHeld => ?_); rotate_left 3; (focus (simp only [pops, List.pop_toArray, List.dropLast_cons_cons, List.dropLast_singleton]; rfl)); (focus (simp only [tailOf, List.pop_toArray, List.dropLast_cons_cons, List.dropLast_singleton, List.back?_toArray, List.getLast?_cons_cons, List.getLast?_singleton, Option.toList_some, List.nil_append, List.cons_append]; rfl)); (focus rfl); (focus (exact ⟨s1, d0, d1, f0, f1, f2⟩)))
      ((refine wpAnyH_take (i := 0) (v := ?_) rfl (by kernel_rfl) (by kernel_rfl) (by kernel_rfl) (fun _ _ _ h => h) (Or.inl ⟨by rfl, ?_⟩) (by assumption) ?_; rotate_left; (focus (intro W hSw; (try dsimp only at hSw); go_simp; try (with_reducible rfl)))); (try simp only [List.getElem_toArray, List.getElem_cons_zero, Act.put, List.setIfInBounds_toArray, List.set_cons_zero, List.set_cons_succ]); (refine wpAnyH_take (i := 1) (v := ?_) rfl (by kernel_rfl) (by kernel_rfl) (by kernel_rfl) (fun _ _ _ h => h) (Or.inl ⟨by rfl, ?_⟩) (by assumption) ?_; rotate_left; (focus (intro W hSw; (try dsimp only at hSw); go_simp; try (with_reducible rfl)))); (try simp only [List.getElem_toArray, List.getElem_cons_zero, List.getElem_cons_succ, Act.put, List.setIfInBounds_toArray, List.set_cons_zero, List.set_cons_succ]); (refine wpAnyH_take (i := 2) (v := ?_) rfl (by kernel_rfl) (by kernel_rfl) (by kernel_rfl) (fun _ _ _ h => h) (Or.inl ⟨by rfl, ?_⟩) (by assumption) ?_; rotate_left; (focus (intro W hSw; (try dsimp only at hSw); go_simp; try (with_reducible rfl)))); (try simp only [List.getElem_toArray, List.getElem_cons_zero, List.getElem_cons_succ, Act.put, List.setIfInBounds_toArray, List.set_cons_zero, List.set_cons_succ]); (refine wpAnyH_take (i := 3) (v := ?_) rfl (by kernel_rfl) (by kernel_rfl) (by kernel_rfl) (fun _ _ _ h => h) (Or.inl ⟨by rfl, ?_⟩) (by assumption) ?_; rotate_left; (focus (intro W hSw; (try dsimp only at hSw); go_simp; try (with_reducible rfl)))); (try simp only [List.getElem_toArray, List.getElem_cons_zero, List.getElem_cons_succ, Act.put, List.setIfInBounds_toArray, List.set_cons_zero, List.set_cons_succ]); (refine wpAnyH_take (i := 4) (v := ?_) rfl (by kernel_rfl) (by kernel_rfl) (by kernel_rfl) (fun _ _ _ h => h) (Or.inl ⟨by rfl, ?_⟩) (by assumption) ?_; rotate_left; (focus (intro W hSw; (try dsimp only at hSw); go_simp; try (with_reducible rfl)))); (try simp only [List.getElem_toArray, List.getElem_cons_zero, List.getElem_cons_succ, Act.put, List.setIfInBounds_toArray, List.set_cons_zero, List.set_cons_succ]); (refine wpAnyH_take (i := 5) (v := ?_) rfl (by kernel_rfl) (by kernel_rfl) (by kernel_rfl) (fun _ _ _ h => h) (Or.inl ⟨by rfl, ?_⟩) (by assumption) ?_; rotate_left; (focus (intro W hSw; (try dsimp only at hSw); go_simp; try (with_reducible rfl)))); (try simp only [List.getElem_toArray, List.getElem_cons_zero, List.getElem_cons_succ, Act.put, List.setIfInBounds_toArray, List.set_cons_zero, List.set_cons_succ]); (refine wpAnyH_take (i := 6) (v := ?_) rfl (by kernel_rfl) (by kernel_rfl) (by kernel_rfl) (fun _ _ _ h => h) (Or.inl ⟨by rfl, ?_⟩) (by assumption) ?_; rotate_left; (focus (intro W hSw; (try dsimp only at hSw); go_simp; try (with_reducible rfl)))); (try simp only [List.getElem_toArray, List.getElem_cons_zero, List.getElem_cons_succ, Act.put, List.setIfInBounds_toArray, List.set_cons_zero, List.set_cons_succ]); (refine wpAnyH_take (i := 7) (v := ?_) rfl (by kernel_rfl) (by kernel_rfl) (by kernel_rfl) (fun _ _ _ h => h) (Or.inl ⟨by rfl, ?_⟩) (by assumption) ?_; rotate_left; (focus (intro W hSw; (try dsimp only at hSw); go_simp; try (with_reducible rfl)))); (try simp only [List.getElem_toArray, List.getElem_cons_zero, List.getElem_cons_succ, Act.put, List.setIfInBounds_toArray, List.set_cons_zero, List.set_cons_succ]); (refine wpAnyH_take (i := 8) (v := ?_) rfl (by kernel_rfl) (by kernel_rfl) (by kernel_rfl) (fun _ _ _ h => h) (Or.inl ⟨by rfl, ?_⟩) (by assumption) ?_; rotate_left; (focus (intro W hSw; (try dsimp only at hSw); go_simp; try (with_reducible rfl)))); (try simp only [List.getElem_toArray, List.getElem_cons_zero, List.getElem_cons_succ, Act.put, List.setIfInBounds_toArray, List.set_cons_zero, List.set_cons_succ]); (refine wpAnyH_take (i := 9) (v := ?_) rfl (by kernel_rfl) (by kernel_rfl) (by kernel_rfl) (fun _ _ _ h => h) (Or.inl ⟨by rfl, ?_⟩) (by assumption) ?_; rotate_left; (focus (intro W hSw; (try dsimp only at hSw); go_simp; try (with_reducible rfl)))); (try simp only [List.getElem_toArray, List.getElem_cons_zero, List.getElem_cons_succ, Act.put, List.setIfInBounds_toArray, List.set_cons_zero, List.set_cons_succ]); (refine wpAnyH_take (i := 10) (v := ?_) rfl (by kernel_rfl) (by kernel_rfl) (by kernel_rfl) (fun _ _ _ h => h) (Or.inl ⟨by rfl, ?_⟩) (by assumption) ?_; rotate_left; (focus (intro W hSw; (try dsimp only at hSw); go_simp; try (with_reducible rfl)))); (try simp only [List.getElem_toArray, List.getElem_cons_zero, List.getElem_cons_succ, Act.put, List.setIfInBounds_toArray, List.set_cons_zero, List.set_cons_succ]); (refine wpAnyH_take (i := 11) (v := ?_) rfl (by kernel_rfl) (by kernel_rfl) (by kernel_rfl) (fun _ _ _ h => h) (Or.inl ⟨by rfl, ?_⟩) (by assumption) ?_; rotate_left; (focus (intro W hSw; (try dsimp only at hSw); go_simp; try (with_reducible rfl)))); (try simp only [List.getElem_toArray, List.getElem_cons_zero, List.getElem_cons_succ, Act.put, List.setIfInBounds_toArray, List.set_cons_zero, List.set_cons_succ]); (refine wpAnyH_take (i := 12) (v := ?_) rfl (by kernel_rfl) (by kernel_rfl) (by kernel_rfl) (fun _ _ _ h => h) (Or.inl ⟨by rfl, ?_⟩) (by assumption) ?_; rotate_left; (focus (intro W hSw; (try dsimp only at hSw); go_simp; try (with_reducible rfl)))); (try simp only [List.getElem_toArray, List.getElem_cons_zero, List.getElem_cons_succ, Act.put, List.setIfInBounds_toArray, List.set_cons_zero, List.set_cons_succ]); (refine wpAnyH_take (i := 13) (v := ?_) rfl (by kernel_rfl) (by kernel_rfl) (by kernel_rfl) (fun _ _ _ h => h) (Or.inl ⟨by rfl, ?_⟩) (by assumption) ?_; rotate_left; (focus (intro W hSw; (try dsimp only at hSw); go_simp; try (with_reducible rfl)))); (try simp only [List.getElem_toArray, List.getElem_cons_zero, List.getElem_cons_succ, Act.put, List.setIfInBounds_toArray, List.set_cons_zero, List.set_cons_succ]); (refine wpAnyH_take (i := 14) (v := ?_) rfl (by kernel_rfl) (by kernel_rfl) (by kernel_rfl) (fun _ _ _ h => h) (Or.inl ⟨by rfl, ?_⟩) (by assumption) ?_; rotate_left; (focus (intro W hSw; (try dsimp only at hSw); go_simp; try (with_reducible rfl)))); (try simp only [List.getElem_toArray, List.getElem_cons_zero, List.getElem_cons_succ, Act.put, List.setIfInBounds_toArray, List.set_cons_zero, List.set_cons_succ]); (refine wpAnyH_take (i := 15) (v := ?_) rfl (by kernel_rfl) (by kernel_rfl) (by kernel_rfl) (fun _ _ _ h => h) (Or.inl ⟨by rfl, ?_⟩) (by assumption) ?_; rotate_left; (focus (intro W hSw; (try dsimp only at hSw); go_simp; try (with_reducible rfl)))); (try simp only [List.getElem_toArray, List.getElem_cons_zero, List.getElem_cons_succ, Act.put, List.setIfInBounds_toArray, List.set_cons_zero, List.set_cons_succ]); (refine wpAnyH_take (i := 16) (v := ?_) rfl (by kernel_rfl) (by kernel_rfl) (by kernel_rfl) (fun _ _ _ h => h) (Or.inl ⟨by rfl, ?_⟩) (by assumption) ?_; rotate_left; (focus (intro W hSw; (try dsimp only at hSw); go_simp; try (with_reducible rfl)))); (try simp only [List.getElem_toArray, List.getElem_cons_zero, List.getElem_cons_succ, Act.put, List.setIfInBounds_toArray, List.set_cons_zero, List.set_cons_succ]); (refine wpAnyH_take (i := 17) (v := ?_) rfl (by kernel_rfl) (by kernel_rfl) (by kernel_rfl) (fun _ _ _ h => h) (Or.inl ⟨by rfl, ?_⟩) (by assumption) ?_; rotate_left; (focus (intro W hSw; (try dsimp only at hSw); go_simp; try (with_reducible rfl)))); (try simp only [List.getElem_toArray, List.getElem_cons_zero, List.getElem_cons_succ, Act.put, List.setIfInBounds_toArray, List.set_cons_zero, List.set_cons_succ]); (refine wpAnyH_take (i := 18) (v := ?_) rfl (by kernel_rfl) (by kernel_rfl) (by kernel_rfl) (fun _ _ _ h => h) (Or.inl ⟨by rfl, ?_⟩) (by assumption) ?_; rotate_left; (focus (intro W hSw; (try dsimp only at hSw); go_simp; try (with_reducible rfl)))); (try simp only [List.getElem_toArray, List.getElem_cons_zero, List.getElem_cons_succ, Act.put, List.setIfInBounds_toArray, List.set_cons_zero, List.set_cons_succ]); (refine wpAnyH_take (i := 19) (v := ?_) rfl (by kernel_rfl) (by kernel_rfl) (by kernel_rfl) (fun _ _ _ h => h) (Or.inl ⟨by rfl, ?_⟩) (by assumption) ?_; rotate_left; (focus (intro W hSw; (try dsimp only at hSw); go_simp; try (with_reducible rfl)))); (try simp only [List.getElem_toArray, List.getElem_cons_zero, List.getElem_cons_succ, Act.put, List.setIfInBounds_toArray, List.set_cons_zero, List.set_cons_succ]); (refine wpAnyH_take (i := 20) (v := ?_) rfl (by kernel_rfl) (by kernel_rfl) (by kernel_rfl) (fun _ _ _ h => h) (Or.inl ⟨by rfl, ?_⟩) (by assumption) ?_; rotate_left; (focus (intro W hSw; (try dsimp only at hSw); go_simp; try (with_reducible rfl)))); (try simp only [List.getElem_toArray, List.getElem_cons_zero, List.getElem_cons_succ, Act.put, List.setIfInBounds_toArray, List.set_cons_zero, List.set_cons_succ]); (refine wpAnyH_take (i := 21) (v := ?_) rfl (by kernel_rfl) (by kernel_rfl) (by kernel_rfl) (fun _ _ _ h => h) (Or.inl ⟨by rfl, ?_⟩) (by assumption) ?_; rotate_left; (focus (intro W hSw; (try dsimp only at hSw); go_simp; try (with_reducible rfl)))); (try simp only [List.getElem_toArray, List.getElem_cons_zero, List.getElem_cons_succ, Act.put, List.setIfInBounds_toArray, List.set_cons_zero, List.set_cons_succ]); (refine wpAnyH_take (i := 22) (v := ?_) rfl (by kernel_rfl) (by kernel_rfl) (by kernel_rfl) (fun _ _ _ h => h) (Or.inl ⟨by rfl, ?_⟩) (by assumption) ?_; rotate_left; (focus (intro W hSw; (try dsimp only at hSw); go_simp; try (with_reducible rfl)))); (try simp only [List.getElem_toArray, List.getElem_cons_zero, List.getElem_cons_succ, Act.put, List.setIfInBounds_toArray, List.set_cons_zero, List.set_cons_succ]); (refine wpAnyH_take (i := 23) (v := ?_) rfl (by kernel_rfl) (by kernel_rfl) (by kernel_rfl) (fun _ _ _ h => h) (Or.inl ⟨by rfl, ?_⟩) (by assumption) ?_; rotate_left; (focus (intro W hSw; (try dsimp only at hSw); go_simp; try (with_reducible rfl)))); (try simp only [List.getElem_toArray, List.getElem_cons_zero, List.getElem_cons_succ, Act.put, List.setIfInBounds_toArray, List.set_cons_zero, List.set_cons_succ]); (refine wpAnyH_take (i := 24) (v := ?_) rfl (by kernel_rfl) (by kernel_rfl) (by kernel_rfl) (fun _ _ _ h => h) (Or.inl ⟨by rfl, ?_⟩) (by assumption) ?_; rotate_left; (focus (intro W hSw; (try dsimp only at hSw); go_simp; try (with_reducible rfl)))); (try simp only [List.getElem_toArray, List.getElem_cons_zero, List.getElem_cons_succ, Act.put, List.setIfInBounds_toArray, List.set_cons_zero, List.set_cons_succ]); (refine wpAnyH_take (i := 25) (v := ?_) rfl (by kernel_rfl) (by kernel_rfl) (by kernel_rfl) (fun _ _ _ h => h) (Or.inl ⟨by rfl, ?_⟩) (by assumption) ?_; rotate_left; (focus (intro W hSw; (try dsimp only at hSw); go_simp; try (with_reducible rfl)))); (try simp only [List.getElem_toArray, List.getElem_cons_zero, List.getElem_cons_succ, Act.put, List.setIfInBounds_toArray, List.set_cons_zero, List.set_cons_succ]))
      (refine wpAnyH_ready (rs := [26]) (by kernel_rfl) (by simp) ?_; refine AllReadyH.cons rfl (fun K hK => ?_) AllReadyH.nil)
      go_simp
      refine (HOW.out _ HI.out).mono ?_; rintro e w4 ⟨A4, c4, rfl, o4', b4'⟩
      have b4 := undrew b4'
      have u1 := (kb.below b4 hlt).c2.2
      refine hK.out _ _ ⟨u1, cells_below b4 _ _ d0, cells_below b4 _ _ d1, cells_below b4 _ _ f0, cells_below b4 _ _ f1, cells_below b4 _ _ f2⟩ (fun hHeld => ?_)
      clear hK K
      (try simp only [List.getElem_toArray, List.getElem_cons_zero, List.getElem_cons_succ, Act.put, List.setIfInBounds_toArray, List.set_cons_zero, List.set_cons_succ])
      ((refine wpAnyH_take (i := 27) (v := ?_) rfl (by kernel_rfl) (by kernel_rfl) (by kernel_rfl) (fun _ _ _ h => h) (Or.inl ⟨by rfl, ?_⟩) (by assumption) ?_; rotate_left; (focus (intro W hSw; (try dsimp only at hSw); go_simp; try (with_reducible rfl)))); (try simp only [List.getElem_toArray, List.getElem_cons_zero, List.getElem_cons_succ, Act.put, List.setIfInBounds_toArray, List.set_cons_zero, List.set_cons_succ]))
      (refine wpAnyH_ready (rs := [28]) (by kernel_rfl) (by simp) ?_; refine AllReadyH.cons rfl (fun K hK => ?_) AllReadyH.nil)
      go_simp
      refine hK.out _ _ ⟨cell_alloc u1 _, cell_alloc (cells_below b4 _ _ d0) _, cell_alloc (cells_below b4 _ _ d1) _, cell_alloc (cells_below b4 _ _ f0) _, cell_alloc (cells_below b4 _ _ f1) _, cell_alloc (cells_below b4 _ _ f2) _⟩ (fun hHeld => ?_)
      clear hK K
      (try simp only [List.getElem_toArray, List.getElem_cons_zero, List.getElem_cons_succ, Act.put, List.setIfInBounds_toArray, List.set_cons_zero, List.set_cons_succ])
      (refine wpAnyH_done (by kernel_rfl) ?_ _; change wpList _ _ _ _ _ _)
      have hoo := ho.below b4 (Nat.le_refl _)
      have z4 := b4.size
      go_wp2_with (at_builtin; refine wpList_append1 w4 [.int .i64 q.d, .int .i64 q.r, .slice A4 q.s.length c4] _ rfl (.tmp 20) (.tmp 47) _ rfl 60 i0 _ 3 40 Try.underlying27 hi0 hy0 hy1 hy2 rfl (by decide) rfl hoo (by omega) 1 rfl rfl (by simp [Value.oneCell']) (by omega) (by decide) ?_; intro A5 c5 w5 ho5 hg5 hb5 hz5; have kb5 := ((kb.below b4 hlt).alloc (.cells #[.int .i64 q.d, .int .i64 q.r, .slice A4 q.s.length c4] 60)).grownT (hoo.alloc (.cells #[.int .i64 q.d, .int .i64 q.r, .slice A4 q.s.length c4] 60)) t2 hg5; obtain ⟨v0, v1⟩ := kb5.c2; have v2 := kb5.frozen 1)
      have hinv' := ChartInv.step q hdl hb hlt kb ho hcr b4 o4' ho5 hg5 hb5 hz5
      refine ⟨⟨k + 1, by omega, by go_num, by rw [HX.out]; exact hinv'⟩, by simp [intOf]; omega⟩
    · obtain rfl : k = rs.length := by omega
      rw [take_all (Nat.le_refl _)] at hcr hdl
      obtain ⟨A8, c8, kc, oo⟩ := ChartInv.rows ⟨hdl, hb, hlt, A', c', cs, kb, ho, hcr⟩
      obtain ⟨p0, p1⟩ := kc.c2
      obtain ⟨r0, r1⟩ := kzr.c2
      have g0 := kzr.frozen 0
      have g1 := kzr.frozen 1
      have hbw : Below w.heap.size w wr := hb1.trans (hb.mono (by omega))
      clear s0 s1
      go_wp2_with (fail)
      refine bodyPost_ret (v := .agg #[.int .i64 n, .slice A8 rs.length c8]) (by simp [results, Try.results68, go_sem, r0, r1]) rfl ⟨A8, c8, rfl, ?_, ?_⟩
      · have k1 := kzr.set20 (.int .i64 n)
        exact ((oo.farT kzr t1 t2 0 _).farT k1 t1 t2 1 _).mono (by omega) (by simp)
      · (repeat (first | exact Below.refl _ _ | assumption | apply Below.drew | apply below_drewN | (refine Below.alloc ?_ (by first | omega | (simp; done) | (simp; omega)) _) | (refine Below.setCell ?_ (by first | omega | (simp; done) | (simp; omega)) _)))

end Go.Proofs.Ytfgbhhkmdeljoaa

/- Charts: StackCharts. -/
namespace Go.Proofs.Ytfgbhhkmdeljoaa
open Go Go.RowKit

/-- Rows behind rows, their stitches in blocks of their own. -/
theorem CellsRows.append {w : World} {lo m hi : Nat} {cs ds : List Value} {rs ss : List RowD} (h : CellsRows w lo m cs rs) (h' : CellsRows w m hi ds ss) (h1 : lo ≤ m) (h2 : m ≤ hi) : CellsRows w lo hi (cs ++ ds) (rs ++ ss) := by
  have hB : ∀ {i : Nat} {v : Value} {g : Nat}, cs[i]? = some v → v.ownBlock = some g → g < m := fun hi' hv => (h.block hi' hv).2.1
  have hC : ∀ {i : Nat} {v : Value} {g : Nat}, ds[i]? = some v → v.ownBlock = some g → m ≤ g := fun hi' hv => (h'.block hi' hv).1
  obtain ⟨ha, hb, hc⟩ := h
  obtain ⟨ha', hb', hc'⟩ := h'
  refine ⟨by simp [ha, ha']; omega, fun k q hq => ?_, fun i j v v' g hi' hj hv hv' => ?_⟩
  · rcases Nat.lt_or_ge k rs.length with hk | hk
    · rw [List.getElem?_append_left hk] at hq
      obtain ⟨A2, c2, e0, e1, e2, e3⟩ := hb k q hq
      exact ⟨A2, c2, by rw [List.getElem?_append_left (by omega)]; exact e0, by rw [List.getElem?_append_left (by omega)]; exact e1, by rw [List.getElem?_append_left (by omega)]; exact e2, e3.mono (Nat.le_refl _) h2⟩
    · rw [List.getElem?_append_right hk] at hq
      obtain ⟨A2, c2, e0, e1, e2, e3⟩ := hb' _ q hq
      refine ⟨A2, c2, ?_, ?_, ?_, e3.mono h1 (Nat.le_refl _)⟩
      · rw [List.getElem?_append_right (by omega), show k * 3 - cs.length = (k - rs.length) * 3 by omega]; exact e0
      · rw [List.getElem?_append_right (by omega), show k * 3 + 1 - cs.length = (k - rs.length) * 3 + 1 by omega]; exact e1
      · rw [List.getElem?_append_right (by omega), show k * 3 + 2 - cs.length = (k - rs.length) * 3 + 2 by omega]; exact e2
  · rcases Nat.lt_or_ge i cs.length with ei | ei
    · rw [List.getElem?_append_left ei] at hi'
      rcases Nat.lt_or_ge j cs.length with ej | ej
      · rw [List.getElem?_append_left ej] at hj
        exact hc i j v v' g hi' hj hv hv'
      · rw [List.getElem?_append_right ej] at hj
        have := hB hi' hv
        have := hC hj hv'
        omega
    · rw [List.getElem?_append_right ei] at hi'
      rcases Nat.lt_or_ge j cs.length with ej | ej
      · rw [List.getElem?_append_left ej] at hj
        have := hC hi' hv
        have := hB hj hv'
        omega
      · rw [List.getElem?_append_right ej] at hj
        have := hc' _ _ v v' g hi' hj hv hv'
        omega
theorem CellsRows.one {w : World} {lo hi : Nat} {cs : List Value} {rs : List RowD} (h : CellsRows w lo hi cs rs) : ∀ u ∈ cs, u.oneCell' = true := by
  intro u hu
  obtain ⟨i, hi⟩ := List.getElem?_of_mem hu
  have hil : i < cs.length := (List.getElem?_eq_some_iff.1 hi).1
  have hl := h.1
  obtain ⟨A', c', h0, h1, h2, _⟩ := h.2.1 (i / 3) _ (List.getElem?_eq_getElem (by omega))
  have : i = i / 3 * 3 ∨ i = i / 3 * 3 + 1 ∨ i = i / 3 * 3 + 2 := by omega
  rcases this with e | e | e
  · rw [← e, hi] at h0; injection h0 with h0; subst h0; rfl
  · rw [← e, hi] at h1; injection h1 with h1; subst h1; rfl
  · rw [← e, hi] at h2; injection h2 with h2; subst h2; rfl
theorem RowsR.drew1 {w : World} {A : Option Addr} {rs : List RowD} (h : RowsR w A rs) : RowsR (World.drew w) A rs := h
theorem Blk.drew1 {w : World} {g : Nat} {t : TypeId} {cs : Array Value} (h : Blk w g t cs) : Blk (World.drew w) g t cs := h
theorem lens_of_chart {n : Int} {rs : List RowD} (h : chartB n rs = true) : rs.length ≤ 8 ∧ ∀ r ∈ rs, r.s.length ≤ 16 := ⟨(chart_size h).1, fun r hr => (rowB_of ((chartB_of h).2.2 r hr)).2.2.2⟩
theorem stackCode_1 {n m : Int} {rs ss : List RowD} (h : chartB n rs = false ∨ chartB m ss = false) : stackCode n rs m ss = 1 := by
  unfold stackCode
  rw [if_neg (by rcases h with h | h <;> simp [h])]
theorem stackCode_2 {n m : Int} {rs ss : List RowD} (h1 : chartB n rs = true) (h2 : chartB m ss = true) : stackCode n rs m ss = if lastOf n rs = m then (if chartB n (rs ++ ss) then 0 else 5) else 10 := by
  unfold stackCode
  rw [if_pos (by simp [h1, h2])]

set_option maxHeartbeats 4000000 in
set_option maxRecDepth 10000 in
theorem spec_StackCharts (n m : Int) (rs ss : List RowD) (A B : Option Addr) (c d : Nat) (w : World) (h : RowsR w A rs) (hl : rs.length ≤ 9223372036854775807) (h' : RowsR w B ss) (hl' : ss.length ≤ 9223372036854775807) :
    Calls Try.prog 37 #[.agg #[.int .i64 n, .slice A rs.length c], .agg #[.int .i64 m, .slice B ss.length d]] w fun e w' => ∃ A' c', e = .returned (.tuple #[.agg #[.int .i64 (stackX n rs m ss).n, .slice A' (stackX n rs m ss).xs.length c'], .int .i64 (stackCode n rs m ss)]) ∧ OwnRows w' w.heap.size w'.heap.size A' (stackX n rs m ss).xs.length c' (stackX n rs m ss).xs ∧ Below w.heap.size w w' := by
  have t1 : (29 : TypeId) ≠ 2 := by decide
  have t2 : (29 : TypeId) ≠ 60 := by decide
  have t3 : (2 : TypeId) ≠ 60 := by decide
  obtain ⟨i0, hi0, hy0, hy1, hy2⟩ := info_parts info_Row
  obtain ⟨w1, hw1⟩ : ∃ w1, w1 = ((w.alloc (.cells #[.int .i64 n, .slice A rs.length c] 29)).alloc (.cells #[.int .i64 m, .slice B ss.length d] 29)).alloc (.cells #[.int .i64 0, .slice none 0 0] 29) := ⟨_, rfl⟩
  have hb1 : Below w.heap.size w w1 := by rw [hw1]; (repeat (first | exact Below.refl _ _ | assumption | apply Below.drew | apply below_drewN | (refine Below.alloc ?_ (by first | omega | (simp; done) | (simp; omega)) _) | (refine Below.setCell ?_ (by first | omega | (simp; done) | (simp; omega)) _)))
  have ka : Blk w1 w.heap.size 29 #[.int .i64 n, .slice A rs.length c] := by rw [hw1]; exact ((Blk.new w _ _).alloc _).alloc _
  have kb : Blk w1 (w.heap.size + 1) 29 #[.int .i64 m, .slice B ss.length d] := by rw [hw1]; exact Blk.alloc (by simpa using Blk.new (w.alloc (.cells #[.int .i64 n, .slice A rs.length c] 29)) 29 #[.int .i64 m, .slice B ss.length d]) _
  have kz : Blk w1 (w.heap.size + 2) 29 #[.int .i64 0, .slice none 0 0] := by rw [hw1]; simpa using Blk.new ((w.alloc (.cells #[.int .i64 n, .slice A rs.length c] 29)).alloc (.cells #[.int .i64 m, .slice B ss.length d] 29)) 29 #[.int .i64 0, .slice none 0 0]
  have hz1 : w1.heap.size = w.heap.size + 3 := by rw [hw1]; simp
  have HZ1 := Lib.hid hz1
  have hz1' : w.heap.size + 3 ≤ w1.heap.size := by omega
  clear hz1
  cases hv1 : chartB n rs
  · have HF := Lib.hid (stack_err (stackCode_1 (rs := rs) (ss := ss) (n := n) (m := m) (.inl hv1)) (by decide))
    go_enter Try.func37, Try.ntmps37
    go_wp2_with (fail)
    rw [← hw1]
    refine (spec_l15Ok _ _ n rs A c _ (h.below hb1) hl ka.c2.1 ka.c2.2).mono ?_; rintro e w2 ⟨rfl, b2⟩
    have hb2 : Below w.heap.size w w2 := hb1.trans (b2.mono (by omega))
    have kz2 := kz.below b2 (by omega)
    obtain ⟨r0, r1⟩ := kz2.c2
    have g0 := kz2.frozen 0
    have g1 := kz2.frozen 1
    rw [hv1]
    clear hw1
    go_wp2_with (fail)
    refine bodyPost_ret (v := .tuple #[.agg #[.int .i64 (stackX n rs m ss).n, .slice none (stackX n rs m ss).xs.length 0], .int .i64 (stackCode n rs m ss)]) (by rw [HF.out.1, HF.out.2]; simp [results, Try.results37, go_sem, r0, r1]) rfl ⟨none, 0, rfl, ?_, ?_⟩
    · rw [HF.out.1]; exact OwnRows.nil _ _ _
    · (repeat (first | exact Below.refl _ _ | assumption | apply Below.drew | apply below_drewN | (refine Below.alloc ?_ (by first | omega | (simp; done) | (simp; omega)) _) | (refine Below.setCell ?_ (by first | omega | (simp; done) | (simp; omega)) _)))
  · cases hv2 : chartB m ss
    · have HF := Lib.hid (stack_err (stackCode_1 (rs := rs) (ss := ss) (n := n) (m := m) (.inr hv2)) (by decide))
      go_enter Try.func37, Try.ntmps37
      go_wp2_with (fail)
      rw [← hw1]
      refine (spec_l15Ok _ _ n rs A c _ (h.below hb1) hl ka.c2.1 ka.c2.2).mono ?_; rintro e w2 ⟨rfl, b2⟩
      have hb2 : Below w.heap.size w w2 := hb1.trans (b2.mono (by omega))
      have kb2 := kb.below b2 (by omega)
      have kz2 := kz.below b2 (by omega)
      have z2 := b2.size
      rw [hv1]
      clear hw1
      go_wp2_with (fail)
      refine (spec_l15Ok _ _ m ss B d _ (h'.below hb2) hl' kb2.c2.1 kb2.c2.2).mono ?_; rintro e w3 ⟨rfl, b3⟩
      have hb3 : Below w.heap.size w w3 := hb2.trans (b3.mono (by omega))
      have kz3 := kz2.below b3 (by omega)
      obtain ⟨r0, r1⟩ := kz3.c2
      have g0 := kz3.frozen 0
      have g1 := kz3.frozen 1
      rw [hv2]
      go_wp2_with (fail)
      refine bodyPost_ret (v := .tuple #[.agg #[.int .i64 (stackX n rs m ss).n, .slice none (stackX n rs m ss).xs.length 0], .int .i64 (stackCode n rs m ss)]) (by rw [HF.out.1, HF.out.2]; simp [results, Try.results37, go_sem, r0, r1]) rfl ⟨none, 0, rfl, ?_, ?_⟩
      · rw [HF.out.1]; exact OwnRows.nil _ _ _
      · (repeat (first | exact Below.refl _ _ | assumption | apply Below.drew | apply below_drewN | (refine Below.alloc ?_ (by first | omega | (simp; done) | (simp; omega)) _) | (refine Below.setCell ?_ (by first | omega | (simp; done) | (simp; omega)) _)))
    · have HC := Lib.hid (stackCode_2 hv1 hv2)
      have h8 := lens_of_chart hv1
      have h8' := lens_of_chart hv2
      obtain ⟨h8, hs8⟩ := h8
      obtain ⟨h8', hs8'⟩ := h8'
      have HS8 := Lib.hid hs8; clear hs8
      have HS8' := Lib.hid hs8'; clear hs8'
      have HV1 := Lib.hid hv1
      go_enter Try.func37, Try.ntmps37
      go_wp2_with (fail)
      rw [← hw1]
      refine (spec_l15Ok _ _ n rs A c _ (h.below hb1) hl ka.c2.1 ka.c2.2).mono ?_; rintro e w2 ⟨rfl, b2⟩
      have hb2 : Below w.heap.size w w2 := hb1.trans (b2.mono (by omega))
      have ka2 := ka.below b2 (by omega)
      have kb2 := kb.below b2 (by omega)
      have kz2 := kz.below b2 (by omega)
      have z2 := b2.size
      rw [hv1]
      clear hw1
      go_wp2_with (fail)
      refine (spec_l15Ok _ _ m ss B d _ (h'.below hb2) hl' kb2.c2.1 kb2.c2.2).mono ?_; rintro e w3 ⟨rfl, b3⟩
      have hb3 : Below w.heap.size w w3 := hb2.trans (b3.mono (by omega))
      have ka3 := ka2.below b3 (by omega)
      have kb3 := kb2.below b3 (by omega)
      have kz3 := kz2.below b3 (by omega)
      have z3 := b3.size
      rw [hv2]
      clear hv1 hv2
      go_wp2_with (fail)
      (refine wp_region_pops 0 (S := (fun W' => W'.cell? ⟨w.heap.size + 1, 0, none⟩ = some (.int .i64 m) ∧ W'.cell? ⟨w.heap.size + 1, 1, none⟩ = some (.slice B ss.length d))) (pre := ?_) (T := ?_) (n := ?_) (by kernel_rfl) (by kernel_rfl) ?_ ?_ ?_ ?_ (fun hHeld => ?_); rotate_left 3; (focus (simp only [pops]; rfl)); (focus (simp only [tailOf]; rfl)); (focus rfl); (focus (exact kb3.c2)))
      ((refine wpAnyH_take (i := 1) (v := ?_) rfl (by kernel_rfl) (by kernel_rfl) (by kernel_rfl) (fun _ _ _ h => h) (Or.inl ⟨by rfl, ?_⟩) (by assumption) ?_; rotate_left; (focus (intro W hSw; (try dsimp only at hSw); go_simp; try (with_reducible rfl)))); (try simp only [List.getElem_toArray, List.getElem_cons_zero, List.getElem_cons_succ, Act.put, List.setIfInBounds_toArray, List.set_cons_zero, List.set_cons_succ]); (refine wpAnyH_take (i := 2) (v := ?_) rfl (by kernel_rfl) (by kernel_rfl) (by kernel_rfl) (fun _ _ _ h => h) (Or.inl ⟨by rfl, ?_⟩) (by assumption) ?_; rotate_left; (focus (intro W hSw; (try dsimp only at hSw); go_simp; try (with_reducible rfl)))); (try simp only [List.getElem_toArray, List.getElem_cons_zero, List.getElem_cons_succ, Act.put, List.setIfInBounds_toArray, List.set_cons_zero, List.set_cons_succ]))
      (refine wpAnyH_ready (rs := [0]) (by kernel_rfl) (by simp) ?_; refine AllReadyH.cons rfl (fun K hK => ?_) AllReadyH.nil)
      go_simp
      refine (spec_l15Last _ _ n rs A c _ (h.below hb3).drew1 hl HV1.out ka3.drew1.c2.1 ka3.drew1.c2.2).mono ?_; rintro e w4 ⟨rfl, b4'⟩
      have b4 := undrew b4'
      have hb4 : Below w.heap.size w w4 := hb3.trans (b4.mono (by omega))
      have ka4 := ka3.below b4 (by omega)
      have kb4 := kb3.below b4 (by omega)
      have kz4 := kz3.below b4 (by omega)
      have z4 := b4.size
      refine hK.out _ _ kb4.c2 (fun hHeld => ?_)
      clear hK K b4'
      (try simp only [List.getElem_toArray, List.getElem_cons_zero, List.getElem_cons_succ, Act.put, List.setIfInBounds_toArray, List.set_cons_zero, List.set_cons_succ])
      generalize lastOf n rs = L at HC ⊢
      by_cases hlm : L = m
      · have hlm' : (L != m) = false := by simp [hlm]
        rw [hlm] at HC
        have HLM := Lib.hid hlm; clear hlm
        ((refine wpAnyH_take (i := 3) (v := ?_) rfl (by kernel_rfl) (by kernel_rfl) (by kernel_rfl) (fun _ _ _ h => h) (Or.inl ⟨by rfl, ?_⟩) (by assumption) ?_; rotate_left; (focus (intro W hSw; (try dsimp only at hSw); go_simp; try (with_reducible rfl)))); (try simp only [List.getElem_toArray, List.getElem_cons_zero, List.getElem_cons_succ, Act.put, List.setIfInBounds_toArray, List.set_cons_zero, List.set_cons_succ]))
        (refine wpAnyH_done (by kernel_rfl) ?_ _; change wpList _ _ _ _ _ _)
        go_wp2_with (fail)
        refine (spec_l15Own _ _ n rs A c _ (h.below hb4) (by omega) (fun r hr => by have := HS8.out r hr; omega) ka4.c2.1 ka4.c2.2).mono ?_; rintro e w5 ⟨A5, c5, rfl, o5, b5⟩
        have z5 := b5.size
        have hb5 : Below w.heap.size w w5 := hb4.trans (b5.mono (by omega))
        have hb5a : Below w.heap.size w (w5.alloc (.cells #[.int .i64 n, .slice A5 rs.length c5] 29)) := hb5.alloc (by omega) _
        have kb5 := (kb4.below b5 (by omega)).alloc (.cells #[.int .i64 n, .slice A5 rs.length c5] 29)
        have kz5 := (kz4.below b5 (by omega)).alloc (.cells #[.int .i64 n, .slice A5 rs.length c5] 29)
        have kx5 := Blk.new w5 29 #[.int .i64 n, .slice A5 rs.length c5]
        have o5a := o5.alloc (.cells #[.int .i64 n, .slice A5 rs.length c5] 29)
        go_wp2_with (fail)
        refine (spec_l15Own _ _ m ss B d _ (h'.below hb5a) (by omega) (fun r hr => by have := HS8'.out r hr; omega) kb5.c2.1 kb5.c2.2).mono ?_; rintro e w6 ⟨A6, c6, rfl, o6, b6⟩
        have z6 := b6.size
        simp only [World.size_alloc] at z6 o6
        have hb6 : Below w.heap.size w w6 := hb5a.trans (b6.mono (by simp; omega))
        have hb6a : Below w.heap.size w (w6.alloc (.cells #[.int .i64 m, .slice A6 ss.length c6] 29)) := hb6.alloc (by omega) _
        have kz6 := (kz5.below b6 (by simp; omega)).alloc (.cells #[.int .i64 m, .slice A6 ss.length c6] 29)
        have kx6 := (kx5.below b6 (by simp)).alloc (.cells #[.int .i64 m, .slice A6 ss.length c6] 29)
        have ky6 := Blk.new w6 29 #[.int .i64 m, .slice A6 ss.length c6]
        have o5b := (o5a.below b6 (by simp)).alloc (.cells #[.int .i64 m, .slice A6 ss.length c6] 29)
        have o6b := o6.alloc (.cells #[.int .i64 m, .slice A6 ss.length c6] 29)
        obtain ⟨cs1, oc1, cr1⟩ := o5b.ex
        obtain ⟨cs2, oc2, cr2⟩ := o6b.ex
        have H2 := Lib.hid oc2.cellsAt
        have H1 := Lib.hid cr2.one
        have HLL := Lib.hid (oc2.len)
        obtain ⟨x0, x1⟩ := kx6.c2
        obtain ⟨y0, y1⟩ := ky6.c2
        have HKX : Hid (∀ w8, (w6.alloc (.cells #[.int .i64 m, .slice A6 ss.length c6] 29)).grownBy w8 (Value.slice A5 rs.length c5).ownBlock → Blk w8 w5.heap.size 29 #[.int .i64 n, .slice A5 rs.length c5]) := Lib.hid (fun w8 hg => kx6.grownT oc1 t2 hg)
        go_wp2_with (at_builtin; refine wpList_appendC (w6.alloc (.cells #[.int .i64 m, .slice A6 ss.length c6] 29)) rfl (.tmp 23) (.tmp 25) _ rfl 60 i0 _ 3 40 Try.underlying27 hi0 hy0 hy1 hy2 rfl (by decide) rfl oc1 (by simp; omega) A6 ss.length c6 cs2 rfl HLL.out H2.out H1.out (by unfold maxLen; omega) (by omega) ?_; intro A8 c8 w8 ho8 hg8 hb8; have kx8 := HKX.out w8 hg8; obtain ⟨x0', x1'⟩ := kx8.c2; have x2' := kx8.frozen 1)
        have kx8 := HKX.out w8 hg8
        have kz8 := kz6.grownT oc1 t2 hg8
        have cr1' := cr1.grownT oc1 t3 hg8
        have cr2' := cr2.grownT oc1 t3 hg8
        have hz8 := hg8.size
        simp only [World.size_alloc] at hz8
        have crr := ((cr1'.mono (Nat.le_refl _) (show w5.heap.size ≤ w5.heap.size + 1 by omega)).append cr2' (by omega) (by omega)).mono (lo' := w4.heap.size) (hi' := w8.heap.size) (Nat.le_refl _) (by omega)
        have hb8' : Below w.heap.size w w8 := hb6a.trans (hb8.mono (by omega))
        have oo : OwnRows (w8.setCell ⟨w5.heap.size, 1, none⟩ (.slice A8 (rs.length + ss.length) c8)) w4.heap.size w8.heap.size A8 (rs ++ ss).length c8 (rs ++ ss) := by
          rw [List.length_append]
          exact ⟨_, ho8.farT kx8 t2 1 _, crr.farT kx8 t1 1 _⟩
        have kx9 := kx8.set21 (.slice A8 (rs.length + ss.length) c8)
        have kz9 := kz8.far (p := ⟨w5.heap.size, 1, none⟩) (by show w.heap.size + 2 ≠ w5.heap.size; omega) (.slice A8 (rs.length + ss.length) c8)
        have hb9 : Below w.heap.size w (w8.setCell ⟨w5.heap.size, 1, none⟩ (.slice A8 (rs.length + ss.length) c8)) := by (repeat (first | exact Below.refl _ _ | assumption | apply Below.drew | apply below_drewN | (refine Below.alloc ?_ (by first | omega | (simp; done) | (simp; omega)) _) | (refine Below.setCell ?_ (by first | omega | (simp; done) | (simp; omega)) _)))
        have hz9 : (w8.setCell ⟨w5.heap.size, 1, none⟩ (.slice A8 (rs.length + ss.length) c8)).heap.size = w8.heap.size := by simp
        rw [← List.length_append] at kx9 kz9 hb9 oo hz9 ⊢
        generalize w8.setCell ⟨w5.heap.size, 1, none⟩ (.slice A8 (rs ++ ss).length c8) = w9 at kx9 kz9 hb9 oo hz9 ⊢
        have HR9 := Lib.hid oo.rowsR
        have hlen : (rs ++ ss).length ≤ 16 := by rw [List.length_append]; omega
        generalize hqs : rs ++ ss = qs at kx9 oo HR9 hlen HC ⊢
        have HQ := Lib.hid hqs; clear hqs
        refine (spec_l15Ok _ _ n qs A8 c8 _ HR9.out (by omega) kx9.c2.1 kx9.c2.2).mono ?_; rintro e w10 ⟨rfl, b10⟩
        have z10 := b10.size
        have kz10 := kz9.below b10 (by omega)
        have kx10 := kx9.below b10 (by omega)
        have oo10 := oo.below b10 (by omega)
        have hb10 : Below w.heap.size w w10 := hb9.trans (b10.mono (by omega))
        obtain ⟨x0, x1⟩ := kx10.c2
        obtain ⟨r0, r1⟩ := kz10.c2
        have g0 := kz10.frozen 0
        have g1 := kz10.frozen 1
        cases hq : chartB n qs
        · have HF : Hid (stackX n rs m ss = ⟨0, []⟩ ∧ stackCode n rs m ss = 5) := Lib.hid (stack_err (by rw [HC.out]; simp [hq]) (by decide))
          go_wp2_with (fail)
          refine bodyPost_ret (v := .tuple #[.agg #[.int .i64 (stackX n rs m ss).n, .slice none (stackX n rs m ss).xs.length 0], .int .i64 (stackCode n rs m ss)]) (by rw [HF.out.1, HF.out.2]; simp [results, Try.results37, go_sem, r0, r1]) rfl ⟨none, 0, rfl, ?_, ?_⟩
          · rw [HF.out.1]; exact OwnRows.nil _ _ _
          · (repeat (first | exact Below.refl _ _ | assumption | apply Below.drew | apply below_drewN | (refine Below.alloc ?_ (by first | omega | (simp; done) | (simp; omega)) _) | (refine Below.setCell ?_ (by first | omega | (simp; done) | (simp; omega)) _)))
        · have HF : Hid (stackX n rs m ss = ⟨n, qs⟩ ∧ stackCode n rs m ss = 0) := Lib.hid (by
            have e : stackCode n rs m ss = 0 := by rw [HC.out]; simp [hq]
            exact ⟨by rw [stackX, if_pos e, HQ.out], e⟩)
          go_wp2_with (fail)
          refine bodyPost_ret (v := .tuple #[.agg #[.int .i64 (stackX n rs m ss).n, .slice A8 (stackX n rs m ss).xs.length c8], .int .i64 (stackCode n rs m ss)]) (by rw [HF.out.1, HF.out.2]; simp [results, Try.results37, go_sem, r0, r1]) rfl ⟨A8, c8, rfl, ?_, ?_⟩
          · rw [HF.out.1]
            have k1 := kz10.set20 (.int .i64 n)
            exact ((oo10.farT kz10 t1 t2 0 _).farT k1 t1 t2 1 _).mono (by omega) (by simp; omega)
          · (repeat (first | exact Below.refl _ _ | assumption | apply Below.drew | apply below_drewN | (refine Below.alloc ?_ (by first | omega | (simp; done) | (simp; omega)) _) | (refine Below.setCell ?_ (by first | omega | (simp; done) | (simp; omega)) _)))
      · have hlm' : (L != m) = true := by simpa using hlm
        have HF : Hid (stackX n rs m ss = ⟨0, []⟩ ∧ stackCode n rs m ss = 10) := Lib.hid (stack_err (by rw [HC.out, if_neg hlm]) (by decide))
        clear hlm
        obtain ⟨r0, r1⟩ := kz4.c2
        have g0 := kz4.frozen 0
        have g1 := kz4.frozen 1
        ((refine wpAnyH_take (i := 3) (v := ?_) rfl (by kernel_rfl) (by kernel_rfl) (by kernel_rfl) (fun _ _ _ h => h) (Or.inl ⟨by rfl, ?_⟩) (by assumption) ?_; rotate_left; (focus (intro W hSw; (try dsimp only at hSw); go_simp; try (with_reducible rfl)))); (try simp only [List.getElem_toArray, List.getElem_cons_zero, List.getElem_cons_succ, Act.put, List.setIfInBounds_toArray, List.set_cons_zero, List.set_cons_succ]))
        (refine wpAnyH_done (by kernel_rfl) ?_ _; change wpList _ _ _ _ _ _)
        go_wp2_with (fail)
        refine bodyPost_ret (v := .tuple #[.agg #[.int .i64 (stackX n rs m ss).n, .slice none (stackX n rs m ss).xs.length 0], .int .i64 (stackCode n rs m ss)]) (by rw [HF.out.1, HF.out.2]; simp [results, Try.results37, go_sem, r0, r1]) rfl ⟨none, 0, rfl, ?_, ?_⟩
        · rw [HF.out.1]; exact OwnRows.nil _ _ _
        · (repeat (first | exact Below.refl _ _ | assumption | apply Below.drew | apply below_drewN | (refine Below.alloc ?_ (by first | omega | (simp; done) | (simp; omega)) _) | (refine Below.setCell ?_ (by first | omega | (simp; done) | (simp; omega)) _)))

end Go.Proofs.Ytfgbhhkmdeljoaa
