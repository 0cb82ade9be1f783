/- Steps of the proof, joined from several texts: BC BD HY HF. -/
import Derived.Test.YthjamohaeahipaaGreatZ14
import Derived.Test.YthjamohaeahipaaGreatZ13
import Derived.Test.YthjamohaeahipaaGreatZ8

/- Normal forms of braids, plain: what divides a left-weighted product divides its first factor, and left-weighted products are unique. -/
namespace Go.Proofs.YthjamohaeahipaaGreat.Br

/-- The inverse. -/
def invl (l : List Int) : List Int := (List.range l.length).map (fun v : Nat => ((l.idxOf (v : Int) : Nat) : Int))
theorem invl_length (l : List Int) : (invl l).length = l.length := by simp [invl]
theorem idx_get : ∀ {l : List Int} {i : Nat} {v : Int}, l.Nodup → l[i]? = some v → l.idxOf v = i
  | [], _, _, _, h => by simp at h
  | x :: l, 0, v, _, h => by
    simp only [List.getElem?_cons_zero, Option.some.injEq] at h
    subst h
    exact List.idxOf_cons_self
  | x :: l, i + 1, v, hn, h => by
    rw [List.nodup_cons] at hn
    rw [List.getElem?_cons_succ] at h
    have hm := List.mem_of_getElem? h
    have hne : (x == v) = false := by
      rw [beq_eq_false_iff_ne]
      intro e
      exact hn.1 (e ▸ hm)
    rw [List.idxOf_cons, hne, idx_get hn.2 h]
    rfl
theorem invl_get {n : Nat} {l : List Int} (h : Pm n l) {i : Nat} {v : Nat} (hi : l[i]? = some (v : Int)) : (invl l)[v]? = some (i : Int) := by
  have hv := (h.mem.1 (List.mem_of_getElem? hi)).2
  have hl := h.len
  unfold invl
  rw [List.getElem?_map, List.getElem?_range (by omega)]
  simp only [Option.map_some]
  rw [idx_get h.nodup hi]
theorem invl_uniq {n : Nat} {l r : List Int} (h : Pm n l) (hr : r.length = n) (hg : ∀ i v : Nat, l[i]? = some (v : Int) → r[v]? = some (i : Int)) : r = invl l := by
  refine List.ext_getElem? fun v => ?_
  by_cases hv : v < n
  · have hm : (v : Int) ∈ l := h.mem.2 (by omega)
    obtain ⟨i, hi, he⟩ := List.mem_iff_getElem.1 hm
    have h1 : l[i]? = some (v : Int) := by rw [List.getElem?_eq_getElem hi, he]
    rw [hg i v h1, invl_get h h1]
  · rw [List.getElem?_eq_none (by omega), List.getElem?_eq_none (by rw [invl_length, h.len]; omega)]
/-- The inverse is what the word makes of the numbers in order. -/
theorem invl_run {n : Nat} {l : List Int} (h : Pm n l) : run (wd l) (idl n) = invl l := by
  have hr := (Pm.id n).run (wd l)
  refine invl_uniq h hr.len fun i v hiv => ?_
  have hil : i < n := by rw [← h.len]; exact (List.getElem?_eq_some_iff.1 hiv).1
  have e1 : (idl n).map (fun x => l.getD x.toNat 0) = l := by
    refine List.ext_getElem? fun j => ?_
    by_cases hj : j < n
    · rw [List.getElem?_map, idl_get hj]
      have hj2 : j < l.length := by rw [h.len]; exact hj
      simp [List.getElem?_eq_getElem hj2]
    · rw [List.getElem?_eq_none (by rw [List.length_map, idl_length]; omega), List.getElem?_eq_none (by rw [h.len]; omega)]
  have e2 : (run (wd l) (idl n)).map (fun x => l.getD x.toNat 0) = idl n := by rw [← run_map, e1, h.runs]
  have hv := (h.mem.1 (List.mem_of_getElem? hiv))
  have hvn : v < n := by omega
  have h3 : v < (run (wd l) (idl n)).length := by rw [hr.len]; exact hvn
  generalize hR : run (wd l) (idl n) = R at *
  have h4 : (R.map (fun x => l.getD x.toNat 0))[v]? = some (v : Int) := by rw [e2, idl_get hvn]
  rw [List.getElem?_map, List.getElem?_eq_getElem h3, Option.map_some] at h4
  injection h4 with h4
  have h5 := hr.mem.1 (List.getElem_mem h3)
  have h6 : l[(R[v]).toNat]? = some (v : Int) := by
    have hlt : (R[v]).toNat < l.length := by rw [h.len]; omega
    rw [List.getElem?_eq_getElem hlt, ← h4]
    simp [List.getElem?_eq_getElem hlt]
  have h7 := idx_get h.nodup h6
  rw [idx_get h.nodup hiv] at h7
  rw [List.getElem?_eq_getElem h3]
  congr 1
  omega
/-- A letter with which a permutation can end. -/
def finB (k : Nat) (l : List Int) : Bool := dB k (invl l)
theorem dB_get {k : Nat} {l : List Int} {x y : Int} (hx : l[k]? = some x) (hy : l[k + 1]? = some y) : dB k l = decide (y < x) := by
  have hlt := (List.getElem?_eq_some_iff.1 hy).1
  obtain ⟨a, x', y', b, rfl, ha⟩ := bi hlt
  rw [List.getElem?_append_right (by omega), ha, Nat.sub_self] at hx
  rw [List.getElem?_append_right (by omega), ha, Nat.add_sub_cancel_left] at hy
  simp only [List.getElem?_cons_zero, List.getElem?_cons_succ, Option.some.injEq] at hx hy
  subst hx hy
  exact dB_at' ha _ _ _
theorem fin_ord {n k : Nat} {l : List Int} (h : Pm n l) (hf : finB k l = false) : ordK k l := by
  unfold ordK
  rw [List.pairwise_iff_getElem]
  intro i j hi hj hij hh
  have h1 : l[i]? = some ((k + 1 : Nat) : Int) := by rw [List.getElem?_eq_getElem hi, hh.1]; simp
  have h2 : l[j]? = some (k : Int) := by rw [List.getElem?_eq_getElem hj, hh.2]
  have g1 := invl_get h h1
  have g2 := invl_get h h2
  rw [finB, dB_get g2 g1] at hf
  have := of_decide_eq_false hf
  omega
theorem dB_neg {k : Nat} {l : List Int} {c : Int} (h : dB k l = true) : dB k (l.map (fun x => c - x)) = false := by
  obtain ⟨a, x, y, b, rfl, ha⟩ := bi (dB_lt h)
  rw [dB_at' ha] at h
  have h := of_decide_eq_true h
  rw [List.map_append, List.map_cons, List.map_cons, dB_at' (by simpa using ha)]
  exact decide_eq_false (by omega)
theorem fin_stop {n k : Nat} {l : List Int} (h : Pm n l) (hf : finB k l = true) : redB (wd l ++ [k]) (halfl n) = false := by
  have e : run (wd l) (halfl n) = (invl l).map (fun x => (n : Int) - 1 - x) := by rw [halfl, run_map, invl_run h]
  rw [redB_app, e, redB_cons, dB_neg hf]
  simp
/-- The product of factors. -/
def prod (F : List (List Int)) : List Nat := (F.map wd).flatten
theorem prod_nil : prod [] = [] := rfl
theorem prod_cons (p : List Int) (F : List (List Int)) : prod (p :: F) = wd p ++ prod F := rfl
theorem prod_app (F G : List (List Int)) : prod (F ++ G) = prod F ++ prod G := by simp [prod]
/-- Each letter with which the next factor can begin is one with which a factor can end. -/
def lwB (p q : List Int) : Prop := ∀ k, dB k q = true → finB k p = true
def LW : List (List Int) → Prop
  | p :: q :: F => lwB p q ∧ LW (q :: F)
  | _ => True
theorem LW.tail {p : List Int} {F : List (List Int)} (h : LW (p :: F)) : LW F := by
  cases F with
  | nil => trivial
  | cons q F => exact h.2
theorem wd_half {n : Nat} {l : List Int} (h : Pm n l) : redB (wd l) (halfl n) = true := red_half h.len (wd_redB l)
/-- What divides a left-weighted product and the half twist divides the first factor. -/
theorem head {n : Nat} : ∀ (G : List (List Int)) (g : List Int) (u : List Nat), (∀ p ∈ g :: G, Pm n p) → LW (g :: G) → redB u (halfl n) = true → Dv u (prod (g :: G)) → Dv u (wd g)
  | [], g, u, _, _, _, h => by rwa [prod_cons, prod_nil, List.append_nil] at h
  | g2 :: G, g, u, hp, hw, hu, h => by
    have hg := hp g (by simp)
    rw [prod_cons] at h
    obtain ⟨v, z, e, hmin⟩ := lcm _ (wd g) u (wd g ++ prod (g2 :: G)) (Nat.le_refl _) (.app _ _) h
    have hD : Dv (wd g ++ v) (D n) := hmin (D n) (red_dv (wd_half hg)) (red_dv hu)
    have hM : Dv v (prod (g2 :: G)) := Dv.cancel (hmin _ (.app _ _) h)
    cases v with
    | nil => rw [List.append_nil] at e; exact ⟨z, e.symm⟩
    | cons k v =>
      have h1 : redB (wd g ++ [k]) (halfl n) = true := by
        have h2 := dv_red hD
        rw [show wd g ++ k :: v = (wd g ++ [k]) ++ v by simp, redB_app, Bool.and_eq_true] at h2
        exact h2.1
      have hk : k + 1 < n := by have := wd_lt _ _ h1 k (by simp); rwa [halfl_length] at this
      have h3 : Dv [k] (wd g2) := head G g2 [k] (fun p hpm => hp p (by simp [hpm])) hw.2 (by rw [redB_cons, half_dB hk]; rfl) (by obtain ⟨y, hy⟩ := hM; exact ⟨v ++ y, by simpa using hy⟩)
      have h4 := dv_red h3
      rw [redB_cons, Bool.and_eq_true] at h4
      rw [fin_stop hg (hw.1 k h4.1)] at h1
      cases h1
theorem dv_nil {w : List Nat} (h : Eqv w []) : w = [] := List.eq_nil_of_length_eq_zero h.len
theorem dv_both {u v : List Nat} (h : Dv u v) (k : Dv v u) : Eqv u v := by
  obtain ⟨x, h⟩ := h
  obtain ⟨y, k⟩ := k
  have h1 := h.len
  have h2 := k.len
  simp only [List.length_append] at h1 h2
  have : x = [] := List.eq_nil_of_length_eq_zero (by omega)
  subst this
  rwa [List.append_nil] at h
theorem wd_inj {n : Nat} {p q : List Int} (hp : Pm n p) (hq : Pm n q) (h : Eqv (wd p) (wd q)) : p = q := by
  have h1 := (h.symm.red (wd_redB q)).2
  refine run_inj (w := wd p) ?_
  rw [hp.runs, h1, hq.runs]
theorem wd_empty {n : Nat} {p : List Int} (hp : Pm n p) (h : wd p = []) : p = idl n := by
  have := hp.runs
  rw [h] at this
  exact this
theorem wd_idl (n : Nat) : wd (idl n) = [] := wd_noD (idl_noD n)
theorem uniq {n : Nat} : ∀ (F G : List (List Int)), (∀ p ∈ F, Pm n p ∧ p ≠ idl n) → (∀ p ∈ G, Pm n p ∧ p ≠ idl n) → LW F → LW G → Eqv (prod F) (prod G) → F = G
  | [], [], _, _, _, _, _ => rfl
  | [], g :: G, _, hg, _, _, h => by
    have h1 := dv_nil h.symm
    rw [prod_cons, List.append_eq_nil_iff] at h1
    obtain ⟨h2, h3⟩ := hg g (by simp)
    exact absurd (wd_empty h2 h1.1) h3
  | f :: F, [], hf, _, _, _, h => by
    have h1 := dv_nil h
    rw [prod_cons, List.append_eq_nil_iff] at h1
    obtain ⟨h2, h3⟩ := hf f (by simp)
    exact absurd (wd_empty h2 h1.1) h3
  | f :: F, g :: G, hf, hg, lf, lg, h => by
    have pf := (hf f (by simp)).1
    have pg := (hg g (by simp)).1
    have d1 := head F f (wd g) (fun p hp => (hf p hp).1) lf (wd_half pg) ((Dv.app (wd g) (prod G)).eqv h.symm)
    have d2 := head G g (wd f) (fun p hp => (hg p hp).1) lg (wd_half pf) ((Dv.app (wd f) (prod F)).eqv h)
    have e := wd_inj pf pg (dv_both d2 d1)
    subst e
    rw [prod_cons, prod_cons] at h
    rw [uniq F G (fun p hp => hf p (by simp [hp])) (fun p hp => hg p (by simp [hp])) lf.tail lg.tail (cancelL h)]
/-- Powers of the half twist. -/
def Dp (n : Nat) : Nat → List Nat
  | 0 => []
  | k + 1 => D n ++ Dp n k
theorem Dp_add (n : Nat) : ∀ a b, Dp n (a + b) = Dp n a ++ Dp n b
  | 0, b => by rw [Nat.zero_add]; rfl
  | a + 1, b => by rw [Nat.add_right_comm, Dp, Dp_add n a b, Dp, List.append_assoc]
theorem Dp_comm (n a b : Nat) : Dp n a ++ Dp n b = Dp n b ++ Dp n a := by rw [← Dp_add, ← Dp_add, Nat.add_comm]
theorem Dp_one (n : Nat) : Dp n 1 = D n := by simp [Dp]
theorem Dp_snoc (n a : Nat) : Dp n (a + 1) = Dp n a ++ D n := by rw [Dp_add, Dp_one]
theorem Fl.pow (n : Nat) : ∀ a, Fl n (Dp n a) (Dp n a)
  | 0 => .nil n
  | a + 1 => (Fl.D n).app (Fl.pow n a)
/-- A left-weighted product that is a power of the half twist consists of half twists and nothing. -/
theorem all_half {n : Nat} : ∀ (m : Nat) (F : List (List Int)), (∀ p ∈ F, Pm n p) → LW F → Eqv (prod F) (Dp n m) → (1 < n ∨ m = 0) → (∀ p ∈ F, p = idl n ∨ p = halfl n) ∧ (F.countP (fun p => decide (p ≠ idl n)) = m)
  | 0, F, hp, _, h, _ => by
    have h1 := dv_nil h
    have h2 : ∀ p ∈ F, p = idl n := fun p hpm => by
      refine wd_empty (hp p hpm) ?_
      unfold prod at h1
      rw [List.flatten_eq_nil_iff] at h1
      exact h1 _ (List.mem_map_of_mem hpm)
    exact ⟨fun p hpm => .inl (h2 p hpm), by rw [List.countP_eq_zero]; intro p hpm; simp [h2 p hpm]⟩
  | m + 1, [], _, _, h, hn => by
    have h1 := h.len
    rw [Dp, prod_nil, List.length_nil, List.length_append] at h1
    have h2 : (D n).length = 0 := by omega
    have h3 := wd_empty (halfl_Pm n) (List.eq_nil_of_length_eq_zero h2)
    have h4 : dB 0 (halfl n) = true := half_dB (by omega)
    rw [h3, idl_noD n 0] at h4
    cases h4
  | m + 1, f :: F, hp, lf, h, hn => by
    have pf := hp f (by simp)
    have hH : redB (D n) (halfl n) = true := wd_redB _
    have d1 : Dv (D n) (wd f) := head F f (D n) hp lf hH ((Dv.app (D n) (Dp n m)).eqv h.symm)
    have d2 : Dv (wd f) (D n) := red_dv (wd_half pf)
    have e := wd_inj pf (halfl_Pm n) (dv_both d2 d1)
    subst e
    have hn' : halfl n ≠ idl n := by
      intro e
      have h4 : dB 0 (halfl n) = true := half_dB (by omega)
      rw [e, idl_noD n 0] at h4
      cases h4
    rw [prod_cons] at h
    obtain ⟨i1, i2⟩ := all_half m F (fun p hpm => hp p (by simp [hpm])) lf.tail (cancelL h) (by omega)
    refine ⟨fun p hpm => ?_, ?_⟩
    · rcases List.mem_cons.1 hpm with rfl | hpm
      · exact .inr rfl
      · exact i1 p hpm
    · rw [List.countP_cons_of_pos (by simpa using hn'), i2]
theorem prod_half {n : Nat} : ∀ (F : List (List Int)), (∀ p ∈ F, p = idl n ∨ p = halfl n) → prod F = Dp n (F.countP (fun p => decide (p ≠ idl n)))
  | [], _ => rfl
  | f :: F, h => by
    rw [prod_cons, prod_half F fun p hp => h p (by simp [hp])]
    by_cases hf : f = idl n
    · rw [hf, wd_idl, List.countP_cons_of_neg (by simp)]; rfl
    · rw [List.countP_cons_of_pos (by simpa using hf)]
      rcases h f (by simp) with e | e
      · exact absurd e hf
      · rw [e]; rfl
/-- Normal forms are unique: a power of the half twist, then left-weighted factors of which the first is none. -/
def NFok (n : Nat) (F : List (List Int)) : Prop := (∀ p ∈ F, Pm n p ∧ p ≠ idl n) ∧ LW F ∧ ∀ p G, F = p :: G → p ≠ halfl n
theorem nf_uniq {n : Nat} {F G : List (List Int)} {a b : Nat} (hF : NFok n F) (hG : NFok n G) (h : Eqv (Dp n a ++ prod F) (Dp n b ++ prod G)) (hn : 1 < n ∨ (a = 0 ∧ b = 0)) : a = b ∧ F = G := by
  have key : ∀ (c : Nat) (F G : List (List Int)), NFok n F → NFok n G → Eqv (Dp n (c + 1) ++ prod F) (prod G) → 1 < n → False := by
    intro c F G hF hG h hn
    have h0 : dB 0 (halfl n) = true := half_dB (by omega)
    have hDv : Dv (D n) (prod G) := ⟨Dp n c ++ prod F, by rw [← List.append_assoc]; exact h⟩
    cases G with
    | nil =>
      obtain ⟨x, hx⟩ := hDv
      have h1 := dv_nil hx
      rw [List.append_eq_nil_iff] at h1
      have h3 := wd_empty (halfl_Pm n) h1.1
      rw [h3, idl_noD n 0] at h0
      cases h0
    | cons g G =>
      have pg := (hG.1 g (by simp)).1
      have d1 : Dv (D n) (wd g) := head G g (D n) (fun p hp => (hG.1 p hp).1) hG.2.1 (wd_redB _) hDv
      exact hG.2.2 g G rfl (wd_inj pg (halfl_Pm n) (dv_both (red_dv (wd_half pg)) d1))
  rcases Nat.lt_trichotomy a b with hab | hab | hab
  · obtain ⟨c, rfl⟩ : ∃ c, b = a + (c + 1) := ⟨b - a - 1, by omega⟩
    rw [Dp_add, List.append_assoc] at h
    exact (key c G F hG hF (cancelL h).symm (by omega)).elim
  · subst hab
    exact ⟨rfl, uniq F G hF.1 hG.1 hF.2.1 hG.2.1 (cancelL h)⟩
  · obtain ⟨c, rfl⟩ : ∃ c, a = b + (c + 1) := ⟨a - b - 1, by omega⟩
    rw [Dp_add, List.append_assoc] at h
    exact (key c F G hF hG (cancelL h) (by omega)).elim
/-- One letter goes from a factor to the one before it. -/
theorem move {n k : Nat} {p q : List Int} (hp : Pm n p) (hq : Pm n q) (hk : dB k q = true) (hf : finB k p = false) : Pm n (bh k p) ∧ Pm n (sw k q) ∧ Eqv (wd (bh k p) ++ wd (sw k q)) (wd p ++ wd q) := by
  have hkn : k + 1 < n := by have := dB_lt hk; rwa [hq.len] at this
  refine ⟨hp.bh hkn, hq.sw k, ?_⟩
  have h1 := (wd_behind hp hkn (fin_ord hp hf)).post (wd (sw k q))
  have h2 := (wd_start hk).symm.pre (wd p)
  rw [List.append_assoc] at h1
  exact h1.trans h2

end Go.Proofs.YthjamohaeahipaaGreat.Br

/- Braids with letters of both signs, plain: a word is a power of the half twist to the left of a positive word. -/
namespace Go.Proofs.YthjamohaeahipaaGreat.Br

/-- A braid: so many inverse half twists, then a positive word. -/
abbrev Sg := Nat × List Nat
def Sq (n : Nat) (x y : Sg) : Prop := Eqv (Dp n y.1 ++ x.2) (Dp n x.1 ++ y.2)
theorem Sq.refl (n : Nat) (x : Sg) : Sq n x x := Eqv.refl _
theorem Sq.symm {n : Nat} {x y : Sg} (h : Sq n x y) : Sq n y x := Eqv.symm h
theorem Sq.trans {n : Nat} {x y z : Sg} (h : Sq n x y) (k : Sq n y z) : Sq n x z := by
  unfold Sq at *
  have h1 := h.pre (Dp n z.1)
  have h2 := k.pre (Dp n x.1)
  rw [← List.append_assoc, ← List.append_assoc, Dp_comm n z.1 y.1, Dp_comm n z.1 x.1, List.append_assoc, List.append_assoc] at h1
  rw [← List.append_assoc, ← List.append_assoc, Dp_comm n x.1 y.1, List.append_assoc, List.append_assoc] at h2
  exact cancelL (h1.trans h2)
theorem Sq.of {n a : Nat} {P Q : List Nat} (h : Eqv P Q) : Sq n (a, P) (a, Q) := h.pre _
/-- What the last letter lacks of the half twist. -/
def Ek (n k : Nat) : List Nat := wd (bh k (halfl n))
theorem Ek_last {n k : Nat} (h : k + 1 < n) : Eqv (Ek n k ++ [k]) (D n) := by
  obtain ⟨j, hj, hjk⟩ : ∃ j, j + 1 < n ∧ n - 2 - j = k := ⟨n - 2 - k, by omega, by omega⟩
  have h1 := D_last hj
  have h2 := (half_bh hj).2.1
  rw [hjk] at h1 h2
  rw [Ek, h2]
  exact h1.symm
theorem Ek_first {n k : Nat} (h : k + 1 < n) : Eqv ((n - 2 - k) :: Ek n k) (D n) := by
  obtain ⟨j, hj, hjk⟩ : ∃ j, j + 1 < n ∧ n - 2 - j = k := ⟨n - 2 - k, by omega, by omega⟩
  have h1 := D_first hj
  have h2 := (half_bh hj).2.1
  rw [hjk] at h2
  rw [Ek, h2, show n - 2 - k = j by omega]
  exact h1.symm
/-- A letter behind a braid: what the program makes of it, up to relations. -/
def Stp (n : Nat) (x : Sg) (a : Int) (y : Sg) : Prop :=
  (0 < a ∧ a < n ∧ y.1 = x.1 ∧ Eqv y.2 (x.2 ++ [a.toNat - 1])) ∨ (a < 0 ∧ -a < n ∧ y.1 = x.1 + 1 ∧ ∃ Q, Fl n x.2 Q ∧ Eqv y.2 (Q ++ Ek n ((-a).toNat - 1)))
theorem Stp.same {n : Nat} {x x' y y' : Sg} {a : Int} (h : Stp n x a y) (h' : Stp n x' a y') (e : Sq n x x') : Sq n y y' := by
  unfold Sq at *
  rcases h with ⟨p1, p2, p3, p4⟩ | ⟨p1, p2, p3, Q, p4, p5⟩
  · rcases h' with ⟨_, _, q3, q4⟩ | ⟨q1, _⟩
    · rw [p3, q3]
      refine ((p4.pre _).trans ?_).trans (q4.symm.pre _)
      rw [← List.append_assoc, ← List.append_assoc]
      exact e.post _
    · omega
  · rcases h' with ⟨q1, _⟩ | ⟨_, _, q3, R, q4, q5⟩
    · omega
    · rw [p3, q3]
      refine ((p5.pre _).trans ?_).trans (q5.symm.pre _)
      rw [← List.append_assoc, ← List.append_assoc]
      have h1 : Eqv (Dp n x'.1 ++ Q) (Dp n x.1 ++ R) := Fl.uniq ((Fl.pow n _).app p4) ((Fl.pow n _).app q4) e
      have h2 := (h1.pre (D n)).post (Ek n ((-a).toNat - 1))
      simpa [Dp, List.append_assoc] using h2
/-- Words of letters. -/
inductive Wal (n : Nat) : Sg → List Int → Sg → Prop
  | nil (x : Sg) : Wal n x [] x
  | cons {x y z : Sg} {a : Int} {w : List Int} (h : Stp n x a y) (t : Wal n y w z) : Wal n x (a :: w) z
theorem Wal.app {n : Nat} {x y z : Sg} {u v : List Int} (h : Wal n x u y) (t : Wal n y v z) : Wal n x (u ++ v) z := by
  induction h with
  | nil x => exact t
  | cons s _ ih => exact .cons s (ih t)
theorem Wal.same {n : Nat} {x y : Sg} {w : List Int} (h : Wal n x w y) : ∀ {x' y' : Sg}, Wal n x' w y' → Sq n x x' → Sq n y y' := by
  induction h with
  | nil x => intro x' y' h' e; cases h'; exact e
  | cons s _ ih =>
    intro x' y' h' e
    cases h' with
    | cons s' t' => exact ih t' (s.same s' e)
def Lt (n : Nat) (a : Int) : Prop := a ≠ 0 ∧ -(n : Int) < a ∧ a < n
theorem Fl.ex {n : Nat} (P : List Nat) (h : ∀ j ∈ P, j + 1 < n) : ∃ Q, Fl n P Q ∧ ∀ j ∈ Q, j + 1 < n := ⟨_, Fl.map P h, fun j hj => by
  obtain ⟨k, hk, rfl⟩ := List.mem_map.1 hj
  have := h k hk
  omega⟩
/-- Positive words on the strands. -/
def On (n : Nat) (P : List Nat) : Prop := ∀ j ∈ P, j + 1 < n
theorem On.app {n : Nat} {P Q : List Nat} (h : On n P) (k : On n Q) : On n (P ++ Q) := fun j hj => by
  rcases List.mem_append.1 hj with hj | hj
  · exact h j hj
  · exact k j hj
theorem On.wd {n : Nat} {l : List Int} (h : Pm n l) : On n (wd l) := fun j hj => by have := wd_lt _ _ (wd_redB l) j hj; rwa [h.len] at this
theorem On.Ek {n k : Nat} (h : k + 1 < n) : On n (Ek n k) := On.wd ((halfl_Pm n).bh h)
theorem Stp.ex {n : Nat} {x : Sg} {a : Int} (ha : Lt n a) (hx : On n x.2) : ∃ y, Stp n x a y ∧ On n y.2 := by
  obtain ⟨h0, h1, h2⟩ := ha
  by_cases h : 0 < a
  · exact ⟨(x.1, x.2 ++ [a.toNat - 1]), .inl ⟨h, h2, rfl, .refl _⟩, hx.app fun j hj => by simp at hj; omega⟩
  · obtain ⟨Q, q1, q2⟩ := Fl.ex x.2 hx
    exact ⟨(x.1 + 1, Q ++ Ek n ((-a).toNat - 1)), .inr ⟨by omega, by omega, rfl, Q, q1, .refl _⟩, On.app q2 (On.Ek (by omega))⟩
theorem Wal.ex {n : Nat} : ∀ (w : List Int) (x : Sg), (∀ a ∈ w, Lt n a) → On n x.2 → ∃ y, Wal n x w y ∧ On n y.2
  | [], x, _, hx => ⟨x, .nil x, hx⟩
  | a :: w, x, h, hx => by
    obtain ⟨y, h1, h2⟩ := Stp.ex (h a (by simp)) hx
    obtain ⟨z, h3, h4⟩ := Wal.ex w y (fun b hb => h b (by simp [hb])) h2
    exact ⟨z, .cons h1 h3, h4⟩
theorem flip_flip {n : Nat} {P : List Nat} (h : On n P) : (P.map (fun j => n - 2 - j)).map (fun j => n - 2 - j) = P := by
  rw [List.map_map]
  have : P.map ((fun j => n - 2 - j) ∘ (fun j => n - 2 - j)) = P.map (fun j => j) := List.map_congr_left fun j hj => by
    have := h j hj
    show n - 2 - (n - 2 - j) = j
    omega
  rw [this, List.map_id']
theorem Fl.back {n : Nat} {P Q : List Nat} (h : Fl n P Q) (hp : On n P) : Fl n Q P := by
  have h1 := Fl.map P hp
  have h2 := Fl.map (n := n) (P.map (fun j => n - 2 - j)) (fun j hj => by
    obtain ⟨k, hk, hkj⟩ := List.mem_map.1 hj
    have := hp k hk
    have hkj : n - 2 - k = j := hkj
    omega)
  rw [flip_flip hp] at h2
  exact h2.eqv (Fl.uniq h h1 (.refl _)).symm (.refl _)
/-- The square of the half twist is central. -/
theorem central {n : Nat} {P : List Nat} (hp : On n P) : Eqv (P ++ (D n ++ D n)) (D n ++ (D n ++ P)) := by
  obtain ⟨Q, hQ, _⟩ := Fl.ex P hp
  have h1 : Eqv (P ++ D n) (D n ++ Q) := hQ
  have h2 : Eqv (Q ++ D n) (D n ++ P) := hQ.back hp
  have h3 := h1.post (D n)
  have h4 := h2.pre (D n)
  rw [List.append_assoc] at h3
  rw [List.append_assoc] at h3
  exact h3.trans h4
/-- A letter and its inverse cancel. -/
theorem Stp.back {n : Nat} {x y z : Sg} {a : Int} (hx : On n x.2) (h : Stp n x a y) (k : Stp n y (-a) z) : Sq n z x := by
  unfold Sq
  rcases h with ⟨p1, p2, p3, p4⟩ | ⟨p1, p2, p3, Q, p4, p5⟩
  · rcases k with ⟨q1, _⟩ | ⟨_, _, q3, Q, q4, q5⟩
    · omega
    · rw [q3, p3, Dp_snoc, List.append_assoc]
      refine Eqv.pre _ ?_
      rw [show (-(-a)).toNat = a.toNat by rw [Int.neg_neg]] at q5
      have hk : a.toNat - 1 + 1 < n := by omega
      generalize a.toNat - 1 = m at *
      have h1 : Eqv (y.2 ++ D n) ((x.2 ++ D n) ++ [n - 2 - m]) := by
        refine (p4.post _).trans ?_
        rw [List.append_assoc, List.append_assoc]
        exact (Fl.one hk).pre _
      have h2 : Eqv (D n ++ Q) ((x.2 ++ D n) ++ [n - 2 - m]) := Eqv.trans (Eqv.symm q4) h1
      have h3 : Eqv (D n ++ z.2) (x.2 ++ (D n ++ D n)) := by
        refine (q5.pre _).trans ?_
        rw [← List.append_assoc]
        refine (h2.post _).trans ?_
        rw [List.append_assoc, List.append_assoc]
        exact ((Ek_first hk).pre _).pre _
      exact cancelL (h3.trans (central hx))
  · rcases k with ⟨q1, q2, q3, q4⟩ | ⟨q1, _⟩
    · rw [q3, p3, Dp_snoc, List.append_assoc]
      refine Eqv.pre _ ?_
      have hk : (-a).toNat - 1 + 1 < n := by omega
      generalize (-a).toNat - 1 = m at *
      have h1 : Eqv z.2 (Q ++ D n) := by
        refine q4.trans ((p5.post _).trans ?_)
        rw [List.append_assoc]
        exact (Ek_last hk).pre _
      exact h1.trans (p4.back hx)
    · omega
theorem Ek_comm {n m k : Nat} (hm : m + 1 < n) (hk : k + 1 < n) (h : apart m k) : Eqv ((n - 2 - m) :: Ek n k) (Ek n k ++ [m]) := by
  refine cancelR (x := [k]) ?_
  have h1 : Eqv ((n - 2 - m) :: Ek n k ++ [k]) ((n - 2 - m) :: D n) := (Ek_last hk).cons _
  have h2 : Eqv ((n - 2 - m) :: D n) (D n ++ [m]) := by
    have := Fl.one (n := n) (j := n - 2 - m) (by omega)
    rw [show n - 2 - (n - 2 - m) = m by omega] at this
    exact this
  have h3 : Eqv (D n ++ [m]) (Ek n k ++ [m] ++ [k]) := by
    refine ((Ek_last hk).symm.post [m]).trans ?_
    rw [List.append_assoc, List.append_assoc]
    exact fr _ [] h.symm
  exact (h1.trans h2).trans h3
theorem Ek_flips {n j k : Nat} {F G : List Nat} (hj : j + 1 < n) (hk : k + 1 < n) (h : apart j k) (f : Fl n (Ek n j) F) (g : Fl n (Ek n k) G) : Eqv (F ++ Ek n k) (G ++ Ek n j) := by
  refine cancelR (x := [k, j]) ?_
  have lhs : Eqv (F ++ Ek n k ++ [k, j]) (D n ++ D n) := by
    have h1 : Eqv (F ++ Ek n k ++ [k, j]) (F ++ D n ++ [j]) := by
      have := ((Ek_last hk).pre F).post [j]
      simpa [List.append_assoc] using this
    have h2 : Eqv (F ++ D n ++ [j]) (D n ++ Ek n j ++ [j]) := Eqv.post [j] (f.back (On.Ek hj))
    have h3 : Eqv (D n ++ Ek n j ++ [j]) (D n ++ D n) := by
      rw [List.append_assoc]
      exact (Ek_last hj).pre _
    exact (h1.trans h2).trans h3
  have rhs : Eqv (G ++ Ek n j ++ [k, j]) (D n ++ D n) := by
    have h0 : Eqv (G ++ Ek n j ++ [k, j]) (G ++ Ek n j ++ [j, k]) := fr _ [] h.symm
    have h1 : Eqv (G ++ Ek n j ++ [j, k]) (G ++ D n ++ [k]) := by
      have := ((Ek_last hj).pre G).post [k]
      simpa [List.append_assoc] using this
    have h2 : Eqv (G ++ D n ++ [k]) (D n ++ Ek n k ++ [k]) := Eqv.post [k] (g.back (On.Ek hk))
    have h3 : Eqv (D n ++ Ek n k ++ [k]) (D n ++ D n) := by
      rw [List.append_assoc]
      exact (Ek_last hk).pre _
    exact ((h0.trans h1).trans h2).trans h3
  exact lhs.trans rhs.symm
/-- Letters that do not touch. -/
def farI (a b : Int) : Prop := apart a.natAbs b.natAbs
theorem far_pn {n : Nat} {x y z y' z' : Sg} {a b : Int} (ha : 0 < a) (hb : b < 0) (hab : farI a b) (h1 : Stp n x a y) (h2 : Stp n y b z) (h3 : Stp n x b y') (h4 : Stp n y' a z') : Sq n z z' := by
  rcases h1 with ⟨_, p2, p3, p4⟩ | ⟨p1, _⟩
  · rcases h2 with ⟨q1, _⟩ | ⟨_, q2, q3, Q, q4, q5⟩
    · omega
    · rcases h3 with ⟨r1, _⟩ | ⟨_, _, r3, R, r4, r5⟩
      · omega
      · rcases h4 with ⟨_, _, s3, s4⟩ | ⟨s1, _⟩
        · have hm : a.toNat - 1 + 1 < n := by omega
          have hk : (-b).toNat - 1 + 1 < n := by omega
          have hap : apart (a.toNat - 1) ((-b).toNat - 1) := by unfold farI apart at *; omega
          generalize a.toNat - 1 = m at *
          generalize (-b).toNat - 1 = k at *
          unfold Sq
          rw [q3, p3, s3, r3]
          refine Eqv.pre _ ?_
          have e1 : Eqv Q (R ++ [n - 2 - m]) := Fl.uniq q4 (r4.app (Fl.one hm)) p4
          refine q5.trans ((e1.post _).trans ?_)
          refine Eqv.trans ?_ ((r5.post _).symm.trans s4.symm)
          rw [List.append_assoc, List.append_assoc]
          exact (Ek_comm hm hk hap).pre _
        · omega
  · omega
theorem Stp.far {n : Nat} {x y z y' z' : Sg} {a b : Int} (hx : On n x.2) (hab : farI a b) (h1 : Stp n x a y) (h2 : Stp n y b z) (h3 : Stp n x b y') (h4 : Stp n y' a z') : Sq n z z' := by
  have ha : a ≠ 0 := by rcases h1 with ⟨p, _⟩ | ⟨p, _⟩ <;> omega
  have hb : b ≠ 0 := by rcases h2 with ⟨p, _⟩ | ⟨p, _⟩ <;> omega
  by_cases pa : 0 < a
  · by_cases pb : 0 < b
    · rcases h1 with ⟨_, p2, p3, p4⟩ | ⟨p1, _⟩
      · rcases h2 with ⟨_, q2, q3, q4⟩ | ⟨q1, _⟩
        · rcases h3 with ⟨_, _, r3, r4⟩ | ⟨r1, _⟩
          · rcases h4 with ⟨_, _, s3, s4⟩ | ⟨s1, _⟩
            · have hap : apart (a.toNat - 1) (b.toNat - 1) := by unfold farI apart at *; omega
              unfold Sq
              rw [q3, p3, s3, r3]
              refine Eqv.pre _ ?_
              refine (q4.trans (p4.post _)).trans (Eqv.trans ?_ ((r4.post _).symm.trans s4.symm))
              rw [List.append_assoc, List.append_assoc]
              exact fr _ [] hap
            · omega
          · omega
        · omega
      · omega
    · exact far_pn pa (by omega) hab h1 h2 h3 h4
  · by_cases pb : 0 < b
    · exact (far_pn pb (by omega) hab.symm h3 h4 h1 h2).symm
    · rcases h1 with ⟨p1, _⟩ | ⟨_, p2, p3, P, p4, p5⟩
      · omega
      · rcases h2 with ⟨q1, _⟩ | ⟨_, q2, q3, Q, q4, q5⟩
        · omega
        · rcases h3 with ⟨r1, _⟩ | ⟨_, _, r3, R, r4, r5⟩
          · omega
          · rcases h4 with ⟨s1, _⟩ | ⟨_, _, s3, S, s4, s5⟩
            · omega
            · have hj : (-a).toNat - 1 + 1 < n := by omega
              have hk : (-b).toNat - 1 + 1 < n := by omega
              have hap : apart ((-a).toNat - 1) ((-b).toNat - 1) := by unfold farI apart at *; omega
              generalize (-a).toNat - 1 = j at *
              generalize (-b).toNat - 1 = k at *
              unfold Sq
              rw [q3, p3, s3, r3]
              refine Eqv.pre _ ?_
              obtain ⟨F, hF, _⟩ := Fl.ex (Ek n j) (On.Ek hj)
              obtain ⟨G, hG, _⟩ := Fl.ex (Ek n k) (On.Ek hk)
              have e1 : Eqv P R := Fl.uniq p4 r4 (.refl _)
              have e2 : Fl n P x.2 := p4.back hx
              have e3 : Eqv Q (x.2 ++ F) := Fl.uniq q4 (e2.app hF) p5
              have e4 : Eqv S (x.2 ++ G) := Fl.uniq s4 ((r4.back hx).app hG) r5
              refine (q5.trans (e3.post _)).trans (Eqv.trans ?_ ((e4.post _).symm.trans s5.symm))
              rw [List.append_assoc, List.append_assoc]
              exact (Ek_flips hj hk hap hF hG).pre _
/-- Words whose letters change places where they do not touch. -/
inductive FarQ : List Int → List Int → Prop
  | refl (a : List Int) : FarQ a a
  | step {a b : Int} {u v c : List Int} (h : farI a b) (t : FarQ (u ++ b :: a :: v) c) : FarQ (u ++ a :: b :: v) c
theorem FarQ.trans {a b c : List Int} (h : FarQ a b) (t : FarQ b c) : FarQ a c := by
  induction h with
  | refl a => exact t
  | step h _ ih => exact .step h (ih t)
theorem FarQ.pre (x : List Int) {a b : List Int} (h : FarQ a b) : FarQ (x ++ a) (x ++ b) := by
  induction h with
  | refl a => exact .refl _
  | step h _ ih =>
    rw [← List.append_assoc] at ih ⊢
    exact .step h ih
theorem FarQ.post (x : List Int) {a b : List Int} (h : FarQ a b) : FarQ (a ++ x) (b ++ x) := by
  induction h with
  | refl a => exact .refl _
  | @step p q u v c h _ ih =>
    rw [List.append_assoc] at ih ⊢
    exact .step (v := v ++ x) h ih
theorem FarQ.app {a b c d : List Int} (h : FarQ a b) (k : FarQ c d) : FarQ (a ++ c) (b ++ d) := (h.post c).trans (k.pre b)
theorem FarQ.one {a b : Int} (u v : List Int) (h : farI a b) : FarQ (u ++ a :: b :: v) (u ++ b :: a :: v) := .step h (.refl _)
theorem FarQ.symm {a b : List Int} (h : FarQ a b) : FarQ b a := by
  induction h with
  | refl a => exact .refl _
  | step h _ ih => exact ih.trans (.one _ _ (apart.symm h))
theorem FarQ.perm {a b : List Int} (h : FarQ a b) : List.Perm a b := by
  induction h with
  | refl a => exact .refl _
  | @step p q u v c h _ ih => exact (List.Perm.append_left u (List.Perm.swap q p v)).trans ih
theorem FarQ.same {n : Nat} {a b : List Int} (h : FarQ a b) : ∀ {x y y' : Sg}, (∀ c ∈ a, Lt n c) → On n x.2 → Wal n x a y → Wal n x b y' → Sq n y y' := by
  induction h with
  | refl a => intro x y y' _ _ h1 h2; exact h1.same h2 (.refl _ _)
  | @step p q u v c h t ih =>
    intro x y y' hl hx h1 h2
    obtain ⟨m, m1, m2⟩ := Wal.ex u x (fun c hc => hl c (by simp [hc])) hx
    have lp := hl p (by simp)
    have lq := hl q (by simp)
    obtain ⟨s1, s2, s3⟩ := Stp.ex lp m2
    obtain ⟨s4, s5, s6⟩ := Stp.ex lq s3
    obtain ⟨t1, t2, t3⟩ := Stp.ex lq m2
    obtain ⟨t4, t5, t6⟩ := Stp.ex lp t3
    obtain ⟨r1, r2, r3⟩ := Wal.ex v s4 (fun c hc => hl c (by simp [hc])) s6
    obtain ⟨r4, r5, r6⟩ := Wal.ex v t4 (fun c hc => hl c (by simp [hc])) t6
    have e1 := r2.same r5 (Stp.far m2 h s2 s5 t2 t5)
    have e2 := h1.same (m1.app (.cons s2 (.cons s5 r2))) (.refl _ _)
    have e3 := ih (fun c hc => hl c (by simp only [List.mem_append, List.mem_cons] at hc ⊢; rcases hc with h | h | h | h <;> simp [h])) hx (m1.app (.cons t2 (.cons t5 r5))) h2
    exact (e2.trans e1).trans e3
/-- The inverse of a word. -/
def winv (w : List Int) : List Int := (w.map (fun x => -x)).reverse
theorem winv_snoc (w : List Int) (a : Int) : winv (w ++ [a]) = -a :: winv w := by simp [winv]
theorem winv_winv (w : List Int) : winv (winv w) = w := by
  unfold winv
  rw [List.map_reverse, List.reverse_reverse, List.map_map]
  have : w.map ((fun x => -x) ∘ fun x => -x) = w.map (fun x => x) := List.map_congr_left fun x _ => by simp
  rw [this, List.map_id']
theorem Lt.neg {n : Nat} {a : Int} (h : Lt n a) : Lt n (-a) := by unfold Lt at *; omega
theorem Lt.winv {n : Nat} {w : List Int} (h : ∀ a ∈ w, Lt n a) : ∀ a ∈ winv w, Lt n a := by
  intro a ha
  unfold Br.winv at ha
  rw [List.mem_reverse, List.mem_map] at ha
  obtain ⟨b, hb, rfl⟩ := ha
  exact (h b hb).neg
theorem cancels {n : Nat} (k : Nat) : ∀ (w : List Int), w.length = k → ∀ (x y : Sg), (∀ a ∈ w, Lt n a) → On n x.2 → Wal n x (w ++ winv w) y → Sq n y x := by
  induction k with
  | zero =>
    intro w hw x y _ _ h
    have : w = [] := List.eq_nil_of_length_eq_zero hw
    subst this
    cases h
    exact .refl _ _
  | succ k ih =>
    intro w hw x y hl hx h
    rcases List.eq_nil_or_concat w with rfl | ⟨v, a, rfl⟩
    · simp at hw
    · rw [List.concat_eq_append] at *
      simp only [List.length_append, List.length_cons, List.length_nil] at hw
      have hlv : ∀ c ∈ v, Lt n c := fun c hc => hl c (by simp [hc])
      have hla := hl a (by simp)
      obtain ⟨m, m1, m2⟩ := Wal.ex v x hlv hx
      obtain ⟨s1, s2, s3⟩ := Stp.ex hla m2
      obtain ⟨s4, s5, s6⟩ := Stp.ex hla.neg s3
      obtain ⟨r1, r2, r3⟩ := Wal.ex (winv v) s4 (Lt.winv hlv) s6
      obtain ⟨r4, r5, r6⟩ := Wal.ex (winv v) m (Lt.winv hlv) m2
      have e1 := r2.same r5 (Stp.back m2 s2 s5)
      have e2 := ih v (by omega) x r4 hlv hx (m1.app r5)
      have e3 := h.same (y' := r1) (x' := x) (by rw [winv_snoc, List.append_assoc]; exact m1.app (.cons s2 (.cons s5 r2))) (.refl _ _)
      exact (e3.trans e1).trans e2
theorem On.nil (n : Nat) : On n [] := fun _ h => by cases h
/-- Words that differ by letters that do not touch are equal braids. -/
theorem equal_far {n : Nat} {a b : List Int} (h : FarQ a b) (ha : ∀ c ∈ a, Lt n c) {y : Sg} (hy : Wal n (0, []) (a ++ winv b) y) : Eqv y.2 (Dp n y.1) := by
  have hb : ∀ c ∈ b, Lt n c := fun c hc => ha c ((List.Perm.mem_iff h.perm).2 hc)
  obtain ⟨z, z1, z2⟩ := Wal.ex (n := n) (b ++ winv b) (0, []) (fun c hc => by
    rcases List.mem_append.1 hc with hc | hc
    · exact hb c hc
    · exact Lt.winv hb c hc) (On.nil n)
  have e1 := (h.post (winv b)).same (n := n) (fun c hc => by
    rcases List.mem_append.1 hc with hc | hc
    · exact ha c hc
    · exact Lt.winv hb c hc) (On.nil n) hy z1
  have e2 := e1.trans (cancels _ b rfl _ _ hb (On.nil n) z1)
  unfold Sq at e2
  rw [List.append_nil] at e2
  exact e2
/-- The two ways to say that words are equal braids. -/
theorem equal_iff {n : Nat} {a b : List Int} (ha : ∀ c ∈ a, Lt n c) (hb : ∀ c ∈ b, Lt n c) {y ya yb : Sg} (hy : Wal n (0, []) (a ++ winv b) y) (h1 : Wal n (0, []) a ya) (h2 : Wal n (0, []) b yb) : Eqv y.2 (Dp n y.1) ↔ Sq n ya yb := by
  have e0 : Eqv y.2 (Dp n y.1) ↔ Sq n y (0, []) := by unfold Sq; rw [List.append_nil]; exact Iff.rfl
  rw [e0]
  obtain ⟨za, za1, za2⟩ := Wal.ex (n := n) a (0, []) ha (On.nil n)
  obtain ⟨zb, zb1, zb2⟩ := Wal.ex (n := n) b (0, []) hb (On.nil n)
  obtain ⟨z, z1, z2⟩ := Wal.ex (winv b) za (Lt.winv hb) za2
  have ey := hy.same (za1.app z1) (.refl _ _)
  have ea := h1.same za1 (.refl _ _)
  have eb := h2.same zb1 (.refl _ _)
  constructor
  · intro h
    obtain ⟨t, t1, t2⟩ := Wal.ex b z hb z2
    have g1 := t1.same zb1 (ey.symm.trans h)
    have g2 := cancels _ (winv b) rfl za t (Lt.winv hb) za2 (by rw [winv_winv]; exact z1.app t1)
    exact (ea.trans (g2.symm.trans g1)).trans eb.symm
  · intro h
    obtain ⟨t, t1, t2⟩ := Wal.ex (winv b) zb (Lt.winv hb) zb2
    have g1 := z1.same t1 ((ea.symm.trans h).trans eb)
    have g2 := cancels _ b rfl _ _ hb (On.nil n) (zb1.app t1)
    exact ey.trans (g1.trans g2)

end Go.Proofs.YthjamohaeahipaaGreat.Br

/- Knitting by hand, plain: the crossings of a row are its braid, up to far letters that change places. -/
namespace Go.Proofs.YthjamohaeahipaaGreat
open Go Go.RowKit
open Br (FarQ farI)

def wX (p k : Int) (c : List Int) : List Int := if signI k = 0 then [] else swTo p (signI k) (sumI (c.take (c.length / 2))).toNat (sumI (c.drop (c.length / 2))).toNat
def handW : Int → List Int → List Int → List Int
  | _, [], _ => []
  | p, k :: ks, st => wX p k (st.take (takenN k)) ++ handW (p + sumI (st.take (takenN k))) ks (st.drop (takenN k))
def evL (e : EventD) : Int := e.count * (e.place + 1)
theorem crossEvs_word (p s : Int) (a b : Nat) : (crossEvs p s a b).map evL = swTo p s a b := by
  rw [crossEvs, List.map_map, swTo_sign p s]
  refine List.map_congr_left fun x _ => ?_
  show s * (x - 1 + 1) = s * x
  rw [Int.sub_add_cancel]
theorem evX_word (p k : Int) (c : List Int) : (evX p k c).map evL = wX p k c := by
  unfold evX wX
  split
  · rfl
  · exact crossEvs_word _ _ _ _
theorem sumI_take_add (st : List Int) (a b : Nat) : sumI (st.take (a + b)) = sumI (st.take a) + sumI ((st.drop a).take b) := by
  rw [List.take_add, sumI_append]
theorem handW_snoc {ks st : List Int} {p : Int} {i : Nat} {k : Int} (h : ks[i]? = some k) :
    handW p (ks.take (i + 1)) st = handW p (ks.take i) st ++ wX (p + sumI (st.take (takenS (ks.take i)))) k ((st.drop (takenS (ks.take i))).take (takenN k)) := by
  induction ks generalizing i p st with
  | nil => simp at h
  | cons x ks ih =>
    cases i with
    | zero =>
      simp at h
      subst h
      simp [handW, takenS, sumI]
    | succ i =>
      have := ih (p := p + sumI (st.take (takenN x))) (st := st.drop (takenN x)) (i := i) (by simpa using h)
      rw [List.take_succ_cons, handW, this, List.take_succ_cons, handW, takenS, sumI_take_add, List.drop_drop, List.append_assoc, Int.add_assoc]
/-- What holds behind the crossings of the first i stitches. -/
theorem crossN_word {ks st : List Int} (hs : NN st) (hk : ∀ k ∈ ks, isStitchB k = true) (ht : takenS ks = st.length) (hS : sumI st ≤ 12) : ∀ i, i ≤ ks.length →
    (crossN ks i ⟨[], cutC ks st⟩).evs.map evL = handW 0 (ks.take i) st ∧ tot ((crossN ks i ⟨[], cutC ks st⟩).cells.take i) = sumI (st.take (takenS (ks.take i))) ∧
    ∀ e ∈ (crossN ks i ⟨[], cutC ks st⟩).evs, ∃ s x : Int, (s = 1 ∨ s = -1) ∧ 1 ≤ x ∧ e = evCross s x := by
  intro i
  induction i with
  | zero => intro _; exact ⟨rfl, rfl, fun e he => by simp [crossN] at he⟩
  | succ i ih =>
    intro hi
    obtain ⟨h1, h2, h3⟩ := ih (by omega)
    obtain ⟨k, hkk⟩ : ∃ k, ks[i]? = some k := ⟨_, List.getElem?_eq_getElem (by omega)⟩
    obtain ⟨s1, s2, _, _⟩ := crossN_step hs hk ht hS hkk rfl
    refine ⟨?_, ?_, fun e he => ?_⟩
    · rw [s1, List.map_append, h1, evX_word, h2, handW_snoc hkk, Int.zero_add]
    · rw [s2, tot_append, h2, takenS_snoc hkk, sumI_take_add]
      simp [tot, ownX_sum]
    · rw [s1, List.mem_append] at he
      rcases he with he | he
      · exact h3 e he
      · unfold evX at he
        split at he
        · simp at he
        · rename_i h0
          obtain ⟨x, hx, rfl⟩ := List.mem_map.1 he
          have hx1 := (swTo_in hx).1
          have hp := (hs.take (takenS (ks.take i))).sum
          rw [h2] at hx1
          refine ⟨_, x, ?_, by omega, rfl⟩
          unfold signI at h0 ⊢
          split
          · exact .inl rfl
          · split
            · exact .inr rfl
            · rename_i h5 h6
              rw [if_neg h5, if_neg h6] at h0
              exact absurd rfl h0

/-- Far letters change places. -/
theorem far_move (x : Int) (v : List Int) (h : ∀ y ∈ v, farI x y) : FarQ (x :: v) (v ++ [x]) := by
  induction v with
  | nil => exact .refl _
  | cons y v ih =>
    have h1 : FarQ (x :: y :: v) (y :: x :: v) := FarQ.one [] v (h y (by simp))
    exact h1.trans (FarQ.pre [y] (ih fun z hz => h z (by simp [hz])))
theorem far_comm {u v : List Int} (h : ∀ x ∈ u, ∀ y ∈ v, farI x y) : FarQ (u ++ v) (v ++ u) := by
  induction u with
  | nil => rw [List.append_nil]; exact .refl _
  | cons x u ih =>
    have h1 : FarQ (x :: (u ++ v)) (x :: (v ++ u)) := FarQ.pre [x] (ih fun z hz => h z (by simp [hz]))
    have h2 := FarQ.post u (far_move x v (h x (by simp)))
    rw [List.append_assoc] at h2
    exact h1.trans h2
theorem swRow_split (q s : Int) (a0 a1 : Nat) : swRow q s (a0 + a1) = swRow (q + a0) s a1 ++ swRow q s a0 := by
  induction a1 with
  | zero => rfl
  | succ a1 ih =>
    rw [← Nat.add_assoc, swRow, ih, swRow]
    simp only [List.cons_append]
    rw [show q + ((a0 + a1 : Nat) : Int) + 1 = q + (a0 : Int) + (a1 : Int) + 1 by push_cast; omega]
theorem swTo_add (p s : Int) (a b b' : Nat) : swTo p s a (b + b') = swTo p s a b ++ swTo (p + b) s a b' := by
  induction b' with
  | zero => simp [swTo]
  | succ b' ih =>
    rw [← Nat.add_assoc, swTo, ih, swTo, List.append_assoc]
    rw [show p + ((b + b' : Nat) : Int) = p + (b : Int) + (b' : Int) by push_cast; omega]
theorem swTo_split {p s : Int} (hs : s = 1 ∨ s = -1) (hp : 0 ≤ p) (a0 a1 b : Nat) : FarQ (swTo p s (a0 + a1) b) (swTo (p + a0) s a1 b ++ swTo p s a0 b) := by
  induction b with
  | zero => exact .refl _
  | succ b ih =>
    rw [swTo, swTo, swTo, swRow_split]
    have h1 := FarQ.post (swRow (p + b + a0) s a1 ++ swRow (p + b) s a0) ih
    refine h1.trans ?_
    have h2 : FarQ (swTo p s a0 b ++ swRow (p + b + a0) s a1) (swRow (p + b + a0) s a1 ++ swTo p s a0 b) := far_comm fun x hx y hy => by
      obtain ⟨j, u, hj, hu, rfl⟩ := swTo_mem hx
      obtain ⟨j', hj', rfl⟩ := swRow_mem hy
      unfold farI Br.apart
      rcases hs with rfl | rfl <;> omega
    have h3 := FarQ.pre (swTo (p + a0) s a1 b) (FarQ.post (swRow (p + b) s a0) h2)
    rw [show p + (a0 : Int) + (b : Int) = p + (b : Int) + (a0 : Int) by omega]
    simpa only [List.append_assoc] using h3
theorem swTo_four {p s : Int} (hs : s = 1 ∨ s = -1) (hp : 0 ≤ p) (a b e f : Nat) :
    FarQ (swTo p s (a + b) (e + f)) (swTo (p + a) s b e ++ (swTo p s a e ++ (swTo (p + e + a) s b f ++ swTo (p + e) s a f))) := by
  rw [swTo_add]
  have h1 := swTo_split hs hp a b e
  have h2 := swTo_split hs (show 0 ≤ p + (e : Int) by omega) a b f
  have h3 := h1.app h2
  rwa [List.append_assoc] at h3
theorem dbl_one {c : Nat} {x a b : Int} {done rest xs : List Int} (hc : done.length = c) (hx : x.natAbs = c + 1) :
    dblFrom (x :: xs) (done ++ a :: b :: rest) = swTo (sumI done) (sgnI x) a.toNat b.toNat ++ dblFrom xs (done ++ b :: a :: rest) := by
  subst hc
  have e0 : x.natAbs - 1 = done.length := by omega
  have e1 : (done ++ a :: b :: rest).getD done.length 0 = a := by simp
  have e2 : (done ++ a :: b :: rest).getD (done.length + 1) 0 = b := by simp [List.getD_eq_getElem?_getD]
  have e3 : swapL done.length (done ++ a :: b :: rest) = done ++ b :: a :: rest := by
    rw [swapL, e1, e2]
    exact swapL_eq
  rw [dblFrom, e0, e1, e2, e3, List.take_left]
theorem sgn_pos (c : Nat) (j : Int) (hj : 1 ≤ j) : sgnI ((c : Int) + j) = 1 := by unfold sgnI; rw [if_neg (by omega)]
theorem sgn_neg (c : Nat) (j : Int) (hj : 1 ≤ j) : sgnI (-(c : Int) - j) = -1 := by unfold sgnI; rw [if_pos (by omega)]
theorem sumI_two (a b : Int) (l : List Int) : sumI (l ++ [a, b]) = sumI l + (a + b) := by rw [sumI_append]; simp [sumI]

theorem two_of {st : List Int} (h : 2 ≤ st.length) : ∃ a b r, st = a :: b :: r := by
  match st, h with
  | a :: b :: r, _ => exact ⟨a, b, r, rfl⟩
theorem four_of {st : List Int} (h : 4 ≤ st.length) : ∃ a b e f r, st = a :: b :: e :: f :: r := by
  match st, h with
  | a :: b :: e :: f :: r, _ => exact ⟨a, b, e, f, r, rfl⟩
/-- The crossings by hand and the doubled letters. -/
theorem hand_dbl : ∀ (ks st done : List Int) (p : Int) (c : Nat), (∀ k ∈ ks, isStitchB k = true) → takenS ks = st.length → NN st → done.length = c → sumI done = p → 0 ≤ p →
    FarQ (handW p ks st) (dblFrom (lettersFrom ks c) (done ++ st))
  | [], st, done, p, c, _, _, _, _, _, _ => by rw [handW, lettersFrom, dblFrom]; exact .refl _
  | k :: ks, st, done, p, c, hk, ht, hn, hc, hp, hp0 => by
    rw [takenS] at ht
    have hkk := hk k (by simp)
    have ih := hand_dbl ks (st.drop (takenN k))
    have hk' : ∀ j ∈ ks, isStitchB j = true := fun j hj => hk j (by simp [hj])
    have ht' : takenS ks = (st.drop (takenN k)).length := by rw [List.length_drop]; omega
    have hn' := hn.drop (takenN k)
    have hP := hn.part (takenN k)
    rw [handW, lettersFrom]
    by_cases h0 : signI k = 0
    · have e1 : stLetters k c = [] := by
        rcases stitch_cases hkk with rfl | rfl | rfl | rfl | rfl | rfl | rfl | rfl | rfl | rfl | rfl <;> first | rfl | exact absurd h0 (by decide)
      rw [wX, if_pos h0, e1, List.nil_append, List.nil_append]
      have h1 := ih (done ++ st.take (takenN k)) (p + sumI (st.take (takenN k))) (c + takenN k) hk' ht' hn' (by rw [List.length_append, List.length_take, hc]; omega) (by rw [sumI_append, hp]) (by omega)
      rw [List.append_assoc, List.take_append_drop] at h1
      push_cast at h1
      exact h1
    · have hw : wX p k (st.take (takenN k)) = swTo p (signI k) (sumI ((st.take (takenN k)).take ((st.take (takenN k)).length / 2))).toNat (sumI ((st.take (takenN k)).drop ((st.take (takenN k)).length / 2))).toNat := by rw [wX, if_neg h0]
      rw [hw]
      rcases stitch_cases hkk with rfl | rfl | rfl | rfl | rfl | rfl | rfl | rfl | rfl | rfl | rfl
      · exact absurd rfl h0
      · exact absurd rfl h0
      · exact absurd rfl h0
      · exact absurd rfl h0
      · obtain ⟨a, b, r, rfl⟩ := two_of (st := st) (by have : takenN 5 = 2 := rfl; omega)
        have h1 := ih (done ++ [b, a]) (p + (a + b)) (c + 2) hk' ht' hn' (by rw [List.length_append, hc]; rfl) (by rw [sumI_two, hp]; omega) (by
          have h2 : sumI ((a :: b :: r).take 2) = a + b := by simp [sumI]
          have h3 : takenN 5 = 2 := rfl
          rw [h3, h2] at hP
          omega)
        push_cast at h1
        rw [List.append_assoc] at h1
        have h4 : FarQ (swTo p (-1) a.toNat b.toNat ++ handW (p + (a + b)) ks r) (dblFrom ((-(c : Int) - 1) :: lettersFrom ks ((c : Int) + 2)) (done ++ a :: b :: r)) := by
          rw [dbl_one hc (by omega), sgn_neg c 1 (by decide), hp]
          exact FarQ.pre _ h1
        have e1 : sumI [a] = a := by simp [sumI]
        have e2 : sumI [b] = b := by simp [sumI]
        have e3 : sumI [a, b] = a + b := by simp [sumI]
        have t2 : (a :: b :: r).take (takenN 5) = [a, b] := rfl
        have d2 : (a :: b :: r).drop (takenN 5) = r := rfl
        have s5 : signI 5 = (-1) := by decide
        have l5 : stLetters 5 (c : Int) = [(-(c : Int) - 1)] := by simp [stLetters]
        have n5 : ((takenN 5 : Nat) : Int) = 2 := rfl
        have t3 : ([a, b] : List Int).take (([a, b] : List Int).length / 2) = [a] := by simp
        have d3 : ([a, b] : List Int).drop (([a, b] : List Int).length / 2) = [b] := by simp
        rw [t2, d2, s5, l5, n5, t3, d3, e1, e2, e3]
        exact h4
      · exact absurd rfl h0
      · exact absurd rfl h0
      · obtain ⟨a, b, r, rfl⟩ := two_of (st := st) (by have : takenN 8 = 2 := rfl; omega)
        have h1 := ih (done ++ [b, a]) (p + (a + b)) (c + 2) hk' ht' hn' (by rw [List.length_append, hc]; rfl) (by rw [sumI_two, hp]; omega) (by
          have h2 : sumI ((a :: b :: r).take 2) = a + b := by simp [sumI]
          have h3 : takenN 8 = 2 := rfl
          rw [h3, h2] at hP
          omega)
        push_cast at h1
        rw [List.append_assoc] at h1
        have h4 : FarQ (swTo p 1 a.toNat b.toNat ++ handW (p + (a + b)) ks r) (dblFrom (((c : Int) + 1) :: lettersFrom ks ((c : Int) + 2)) (done ++ a :: b :: r)) := by
          rw [dbl_one hc (by omega), sgn_pos c 1 (by decide), hp]
          exact FarQ.pre _ h1
        have e1 : sumI [a] = a := by simp [sumI]
        have e2 : sumI [b] = b := by simp [sumI]
        have e3 : sumI [a, b] = a + b := by simp [sumI]
        have t2 : (a :: b :: r).take (takenN 8) = [a, b] := rfl
        have d2 : (a :: b :: r).drop (takenN 8) = r := rfl
        have s5 : signI 8 = 1 := by decide
        have l5 : stLetters 8 (c : Int) = [((c : Int) + 1)] := by simp [stLetters]
        have n5 : ((takenN 8 : Nat) : Int) = 2 := rfl
        have t3 : ([a, b] : List Int).take (([a, b] : List Int).length / 2) = [a] := by simp
        have d3 : ([a, b] : List Int).drop (([a, b] : List Int).length / 2) = [b] := by simp
        rw [t2, d2, s5, l5, n5, t3, d3, e1, e2, e3]
        exact h4
      · obtain ⟨a, b, r, rfl⟩ := two_of (st := st) (by have : takenN 9 = 2 := rfl; omega)
        have h1 := ih (done ++ [b, a]) (p + (a + b)) (c + 2) hk' ht' hn' (by rw [List.length_append, hc]; rfl) (by rw [sumI_two, hp]; omega) (by
          have h2 : sumI ((a :: b :: r).take 2) = a + b := by simp [sumI]
          have h3 : takenN 9 = 2 := rfl
          rw [h3, h2] at hP
          omega)
        push_cast at h1
        rw [List.append_assoc] at h1
        have h4 : FarQ (swTo p (-1) a.toNat b.toNat ++ handW (p + (a + b)) ks r) (dblFrom ((-(c : Int) - 1) :: lettersFrom ks ((c : Int) + 2)) (done ++ a :: b :: r)) := by
          rw [dbl_one hc (by omega), sgn_neg c 1 (by decide), hp]
          exact FarQ.pre _ h1
        have e1 : sumI [a] = a := by simp [sumI]
        have e2 : sumI [b] = b := by simp [sumI]
        have e3 : sumI [a, b] = a + b := by simp [sumI]
        have t2 : (a :: b :: r).take (takenN 9) = [a, b] := rfl
        have d2 : (a :: b :: r).drop (takenN 9) = r := rfl
        have s5 : signI 9 = (-1) := by decide
        have l5 : stLetters 9 (c : Int) = [(-(c : Int) - 1)] := by simp [stLetters]
        have n5 : ((takenN 9 : Nat) : Int) = 2 := rfl
        have t3 : ([a, b] : List Int).take (([a, b] : List Int).length / 2) = [a] := by simp
        have d3 : ([a, b] : List Int).drop (([a, b] : List Int).length / 2) = [b] := by simp
        rw [t2, d2, s5, l5, n5, t3, d3, e1, e2, e3]
        exact h4
      · obtain ⟨a, b, e, f, r, rfl⟩ := four_of (st := st) (by have : takenN 10 = 4 := rfl; omega)
        have na := hn a (by simp)
        have nb := hn b (by simp)
        have ne := hn e (by simp)
        have nf := hn f (by simp)
        have h1 := ih (done ++ [e, f, a, b]) (p + (a + b + e + f)) (c + 4) hk' ht' hn' (by rw [List.length_append, hc]; rfl) (by rw [sumI_append, hp]; simp only [sumI]; omega) (by omega)
        rw [show ((c + 4 : Nat) : Int) = (c : Int) + 4 by omega] at h1
        rw [List.append_assoc] at h1
        have h4 : FarQ (swTo p 1 (a + b).toNat (e + f).toNat ++ handW (p + (a + b + e + f)) ks r) (dblFrom (((c : Int) + 2) :: ((c : Int) + 1) :: ((c : Int) + 3) :: ((c : Int) + 2) :: lettersFrom ks ((c : Int) + 4)) (done ++ a :: b :: e :: f :: r)) := by
          have d1 := dbl_one (c := c + 1) (x := ((c : Int) + 2)) (a := b) (b := e) (done := done ++ [a]) (rest := f :: r) (xs := ((c : Int) + 1) :: ((c : Int) + 3) :: ((c : Int) + 2) :: lettersFrom ks ((c : Int) + 4)) (by simp [hc]) (by omega)
          have d2 := dbl_one (c := c) (x := ((c : Int) + 1)) (a := a) (b := e) (done := done) (rest := b :: f :: r) (xs := ((c : Int) + 3) :: ((c : Int) + 2) :: lettersFrom ks ((c : Int) + 4)) hc (by omega)
          have d3 := dbl_one (c := c + 2) (x := ((c : Int) + 3)) (a := b) (b := f) (done := done ++ [e, a]) (rest := r) (xs := ((c : Int) + 2) :: lettersFrom ks ((c : Int) + 4)) (by simp [hc]) (by omega)
          have d4 := dbl_one (c := c + 1) (x := ((c : Int) + 2)) (a := a) (b := f) (done := done ++ [e]) (rest := b :: r) (xs := lettersFrom ks ((c : Int) + 4)) (by simp [hc]) (by omega)
          simp only [List.append_assoc, List.cons_append, List.nil_append] at d1 d2 d3 d4
          rw [d1, d2, d3, d4, sgn_pos c 2 (by decide), sgn_pos c 1 (by decide), sgn_pos c 3 (by decide)]
          have q1 : sumI (done ++ [a]) = p + a := by rw [sumI_append, hp]; simp [sumI]
          have q2 : sumI (done ++ [e, a]) = p + e + a := by rw [sumI_append, hp]; simp only [sumI]; omega
          have q3 : sumI (done ++ [e]) = p + e := by rw [sumI_append, hp]; simp [sumI]
          rw [q1, q2, q3, hp]
          have h5 := swTo_four (p := p) (s := 1) (by decide) hp0 a.toNat b.toNat e.toNat f.toNat
          rw [Int.toNat_of_nonneg na, Int.toNat_of_nonneg ne] at h5
          rw [Int.toNat_add na nb, Int.toNat_add ne nf]
          have d2 : (a :: b :: e :: f :: r).drop (takenN 10) = r := rfl
          rw [d2] at h1
          have h6 := h5.app h1
          simpa only [List.append_assoc, List.cons_append, List.nil_append] using h6 
        have e1 : sumI [a, b] = a + b := by simp [sumI]
        have e2 : sumI [e, f] = e + f := by simp [sumI]
        have e3 : sumI [a, b, e, f] = a + b + e + f := by simp only [sumI]; omega
        have t2 : (a :: b :: e :: f :: r).take (takenN 10) = [a, b, e, f] := rfl
        have d2 : (a :: b :: e :: f :: r).drop (takenN 10) = r := rfl
        have s5 : signI 10 = 1 := by decide
        have l5 : stLetters 10 (c : Int) = [((c : Int) + 2), ((c : Int) + 1), ((c : Int) + 3), ((c : Int) + 2)] := by simp [stLetters]
        have n5 : ((takenN 10 : Nat) : Int) = 4 := rfl
        have t3 : ([a, b, e, f] : List Int).take (([a, b, e, f] : List Int).length / 2) = [a, b] := by simp
        have d3 : ([a, b, e, f] : List Int).drop (([a, b, e, f] : List Int).length / 2) = [e, f] := by simp
        rw [t2, d2, s5, l5, n5, t3, d3, e1, e2, e3]
        exact h4
      · obtain ⟨a, b, e, f, r, rfl⟩ := four_of (st := st) (by have : takenN 11 = 4 := rfl; omega)
        have na := hn a (by simp)
        have nb := hn b (by simp)
        have ne := hn e (by simp)
        have nf := hn f (by simp)
        have h1 := ih (done ++ [e, f, a, b]) (p + (a + b + e + f)) (c + 4) hk' ht' hn' (by rw [List.length_append, hc]; rfl) (by rw [sumI_append, hp]; simp only [sumI]; omega) (by omega)
        rw [show ((c + 4 : Nat) : Int) = (c : Int) + 4 by omega] at h1
        rw [List.append_assoc] at h1
        have h4 : FarQ (swTo p (-1) (a + b).toNat (e + f).toNat ++ handW (p + (a + b + e + f)) ks r) (dblFrom ((-(c : Int) - 2) :: (-(c : Int) - 1) :: (-(c : Int) - 3) :: (-(c : Int) - 2) :: lettersFrom ks ((c : Int) + 4)) (done ++ a :: b :: e :: f :: r)) := by
          have d1 := dbl_one (c := c + 1) (x := (-(c : Int) - 2)) (a := b) (b := e) (done := done ++ [a]) (rest := f :: r) (xs := (-(c : Int) - 1) :: (-(c : Int) - 3) :: (-(c : Int) - 2) :: lettersFrom ks ((c : Int) + 4)) (by simp [hc]) (by omega)
          have d2 := dbl_one (c := c) (x := (-(c : Int) - 1)) (a := a) (b := e) (done := done) (rest := b :: f :: r) (xs := (-(c : Int) - 3) :: (-(c : Int) - 2) :: lettersFrom ks ((c : Int) + 4)) hc (by omega)
          have d3 := dbl_one (c := c + 2) (x := (-(c : Int) - 3)) (a := b) (b := f) (done := done ++ [e, a]) (rest := r) (xs := (-(c : Int) - 2) :: lettersFrom ks ((c : Int) + 4)) (by simp [hc]) (by omega)
          have d4 := dbl_one (c := c + 1) (x := (-(c : Int) - 2)) (a := a) (b := f) (done := done ++ [e]) (rest := b :: r) (xs := lettersFrom ks ((c : Int) + 4)) (by simp [hc]) (by omega)
          simp only [List.append_assoc, List.cons_append, List.nil_append] at d1 d2 d3 d4
          rw [d1, d2, d3, d4, sgn_neg c 2 (by decide), sgn_neg c 1 (by decide), sgn_neg c 3 (by decide)]
          have q1 : sumI (done ++ [a]) = p + a := by rw [sumI_append, hp]; simp [sumI]
          have q2 : sumI (done ++ [e, a]) = p + e + a := by rw [sumI_append, hp]; simp only [sumI]; omega
          have q3 : sumI (done ++ [e]) = p + e := by rw [sumI_append, hp]; simp [sumI]
          rw [q1, q2, q3, hp]
          have h5 := swTo_four (p := p) (s := (-1)) (by decide) hp0 a.toNat b.toNat e.toNat f.toNat
          rw [Int.toNat_of_nonneg na, Int.toNat_of_nonneg ne] at h5
          rw [Int.toNat_add na nb, Int.toNat_add ne nf]
          have d2 : (a :: b :: e :: f :: r).drop (takenN 11) = r := rfl
          rw [d2] at h1
          have h6 := h5.app h1
          simpa only [List.append_assoc, List.cons_append, List.nil_append] using h6 
        have e1 : sumI [a, b] = a + b := by simp [sumI]
        have e2 : sumI [e, f] = e + f := by simp [sumI]
        have e3 : sumI [a, b, e, f] = a + b + e + f := by simp only [sumI]; omega
        have t2 : (a :: b :: e :: f :: r).take (takenN 11) = [a, b, e, f] := rfl
        have d2 : (a :: b :: e :: f :: r).drop (takenN 11) = r := rfl
        have s5 : signI 11 = (-1) := by decide
        have l5 : stLetters 11 (c : Int) = [(-(c : Int) - 2), (-(c : Int) - 1), (-(c : Int) - 3), (-(c : Int) - 2)] := by simp [stLetters]
        have n5 : ((takenN 11 : Nat) : Int) = 4 := rfl
        have t3 : ([a, b, e, f] : List Int).take (([a, b, e, f] : List Int).length / 2) = [a, b] := by simp
        have d3 : ([a, b, e, f] : List Int).drop (([a, b, e, f] : List Int).length / 2) = [e, f] := by simp
        rw [t2, d2, s5, l5, n5, t3, d3, e1, e2, e3]
        exact h4
end Go.Proofs.YthjamohaeahipaaGreat

/- Knitting by hand, the given side: crossings. -/
namespace Go.Proofs.YthjamohaeahipaaGreat
open Go Go.RowKit

theorem OwnC.blkEx {w : World} {lo hi n c g : Nat} {e : TypeId} {sz : Nat} {cs : List Value} (h : OwnC w lo hi e sz (some ⟨g, 0, none⟩) n c cs) : ∃ cur, Blk w g e cur ∧ lo ≤ g ∧ g < hi := by
  rcases h.form with ⟨h1, _⟩ | ⟨q, cur, h1, h3, h4, h2, _⟩
  · cases h1
  · injection h1 with h1
    injection h1 with h1
    subst h1
    exact ⟨cur, h2, h3, h4⟩
theorem Ints.blk {w w' : World} {g : Nat} {t : TypeId} {cur : Array Value} {xs : List Int} (h : Ints w (some ⟨g, 0, none⟩) xs) (hb : Blk w g t cur) (hb' : Blk w' g t cur) : Ints w' (some ⟨g, 0, none⟩) xs := by
  intro k hk
  obtain ⟨b, off, x, hA, hc, hx⟩ := h k hk
  injection hA with hA
  injection hA with hA1 hA2
  subst hA1 hA2
  exact ⟨g, 0, x, rfl, cell_blk hb hb' _ hc, hx⟩

theorem spec_l03Abs_pos (x : Int) (w : World) (h : 0 ≤ x) : Calls Tryz.prog 80 #[.int .i64 x] w fun e w' => e = .returned (.int .i64 x) ∧ w = w' := by
  have d1 : decide (x < 0) = false := decide_eq_false (by omega)
  go_enter Tryz.func80, Tryz.ntmps80
  go_wp2_with (fail)
  go_ret
  exact ⟨rfl, rfl⟩
theorem spec_l03Abs_neg (x : Int) (w : World) (h : 0 < x) (h2 : x ≤ 1000) : Calls Tryz.prog 80 #[.int .i64 (-x)] w fun e w' => e = .returned (.int .i64 x) ∧ w = w' := by
  have d1 : decide (-x < 0) = true := decide_eq_true (by omega)
  have d2 : IntKind.i64.wrap (- -x) = x := by rw [Int.neg_neg]; exact IntWalk.i64_in _ ⟨by omega, by omega⟩
  have d3 : IntKind.i64.wrap x = x := IntWalk.i64_in _ ⟨by omega, by omega⟩
  have d4 : decide (0 < x) = true := decide_eq_true h
  go_enter Tryz.func80, Tryz.ntmps80
  go_wp2_with (fail)
  go_ret
  exact ⟨rfl, rfl⟩
theorem spec_abs_sign (s x : Int) (hs : s = 1 ∨ s = -1) (w : World) (h : 0 < x) (h2 : x ≤ 1000) : Calls Tryz.prog 80 #[.int .i64 (s * x)] w fun e w' => e = .returned (.int .i64 x) ∧ w = w' := by
  rcases hs with rfl | rfl
  · rw [Int.one_mul]; exact spec_l03Abs_pos x w (by omega)
  · rw [show (-1 : Int) * x = -x by omega]; exact spec_l03Abs_neg x w h h2

end Go.Proofs.YthjamohaeahipaaGreat
