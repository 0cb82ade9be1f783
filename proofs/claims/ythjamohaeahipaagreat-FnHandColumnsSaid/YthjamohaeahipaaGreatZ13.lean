/- Steps of the proof, joined from several texts: HA ME HB HC ND HD HE HH HL HT. -/
import Derived.Test.YthjamohaeahipaaGreatZ6
import Derived.Test.YthjamohaeahipaaGreatZ12
import Derived.Test.YthjamohaeahipaaGreatZ8
import Derived.Test.YthjamohaeahipaaGreatZ5
import Derived.Test.YthjamohaeahipaaGreatZ9
import Derived.Deep.DeepCutAuto
import Derived.Test.YthjamohaeahipaaGreatZ2
import Derived.Deep.QuietTactic
import Derived.BigQuiet
import Derived.Test.YthjamohaeahipaaGreatZ7
import Derived.Test.YthjamohaeahipaaGreatZ3

/- Knitting by hand, plain: the columns of the stitches, the events of crossings and of the yarn. -/
namespace Go.Proofs.YthjamohaeahipaaGreat
open Go.RowKit

def tot : List (List Int) → Int
  | [] => 0
  | c :: cs => sumI c + tot cs
theorem tot_append (a b : List (List Int)) : tot (a ++ b) = tot a + tot b := by
  induction a with
  | nil => simp [tot]
  | cons x r ih => simp only [List.cons_append, tot, ih]; omega
theorem tot_snoc {cs : List (List Int)} {k : Nat} {c : List Int} (h : cs[k]? = some c) : tot (cs.take (k + 1)) = tot (cs.take k) + sumI c := by
  rw [take_snoc h, tot_append]; simp [tot]
def NN (c : List Int) : Prop := ∀ x ∈ c, 0 ≤ x
theorem NN.sum {c : List Int} (h : NN c) : 0 ≤ sumI c := by
  induction c with
  | nil => simp [sumI]
  | cons x r ih =>
    have h1 := h x (by simp)
    have h2 := ih (fun y hy => h y (by simp [hy]))
    rw [sumI]; omega
theorem NN.take {c : List Int} (h : NN c) (k : Nat) : NN (c.take k) := fun x hx => h x (List.mem_of_mem_take hx)
theorem NN.drop {c : List Int} (h : NN c) (k : Nat) : NN (c.drop k) := fun x hx => h x (List.mem_of_mem_drop hx)
theorem sumI_split (c : List Int) (k : Nat) : sumI (c.take k) + sumI (c.drop k) = sumI c := by rw [← sumI_append, List.take_append_drop]
theorem NN.part {c : List Int} (h : NN c) (k : Nat) : 0 ≤ sumI (c.take k) ∧ sumI (c.take k) ≤ sumI c ∧ 0 ≤ sumI (c.drop k) ∧ sumI (c.drop k) ≤ sumI c := by
  have h1 := (h.take k).sum
  have h2 := (h.drop k).sum
  have h3 := sumI_split c k
  omega
theorem NN.at_le {c : List Int} (h : NN c) {k : Nat} {x : Int} (hx : c[k]? = some x) : 0 ≤ x ∧ x ≤ sumI c ∧ sumI (c.take k) + x ≤ sumI c := by
  have h1 := (h.part (k + 1)).2.1
  rw [sumI_snoc hx] at h1
  have h2 := (h.part k).1
  have h3 := h x (List.mem_of_getElem? hx)
  omega
theorem sum64_sumI {c : List Int} (h : NN c) (hs : sumI c ≤ 1000000) : sum64 c = sumI c := by
  have e : ∀ k, k ≤ c.length → sum64 (c.take k) = sumI (c.take k) := by
    intro k
    induction k with
    | zero => intro _; simp [sum64, sumI]
    | succ k ih =>
      intro hk
      have hx : c[k]? = some c[k] := List.getElem?_eq_getElem (by omega)
      have h1 := h.at_le hx
      have h2 := (h.part k).1
      rw [sumI_snoc hx, take_snoc hx, sum64_snoc, ih (by omega), IntWalk.wrap64_in _ (by omega)]
  have := e c.length (Nat.le_refl _)
  rwa [List.take_of_length_le (Nat.le_refl _)] at this

/-- The columns of the stitches: none has more than four, no size is below 0. -/
structure GoodC (m : Nat) (cs : List (List Int)) (S : Int) : Prop where
  len : cs.length = m
  nn : ∀ c ∈ cs, NN c ∧ c.length ≤ 4
  sum : tot cs = S
theorem tot_nn {cs : List (List Int)} (h : ∀ c ∈ cs, NN c) : 0 ≤ tot cs := by
  induction cs with
  | nil => simp [tot]
  | cons x r ih =>
    have h1 := (h x (by simp)).sum
    have h2 := ih (fun y hy => h y (by simp [hy]))
    rw [tot]; omega
theorem GoodC.take {m : Nat} {cs : List (List Int)} {S : Int} (h : GoodC m cs S) (k : Nat) : 0 ≤ tot (cs.take k) ∧ tot (cs.take k) ≤ S := by
  have h1 := tot_nn (cs := cs.take k) (fun c hc => (h.nn c (List.mem_of_mem_take hc)).1)
  have h2 := tot_nn (cs := cs.drop k) (fun c hc => (h.nn c (List.mem_of_mem_drop hc)).1)
  have h3 := tot_append (cs.take k) (cs.drop k)
  rw [List.take_append_drop] at h3
  have := h.sum
  omega
theorem GoodC.at_ {m : Nat} {cs : List (List Int)} {S : Int} (h : GoodC m cs S) {k : Nat} {c : List Int} (hc : cs[k]? = some c) : NN c ∧ c.length ≤ 4 ∧ tot (cs.take k) + sumI c ≤ S ∧ 0 ≤ sumI c := by
  obtain ⟨h1, h2⟩ := h.nn c (List.mem_of_getElem? hc)
  have h3 := h.take (k + 1)
  rw [tot_snoc hc] at h3
  exact ⟨h1, h2, h3.2, h1.sum⟩
theorem tot_set {cs : List (List Int)} {k : Nat} {c c' : List Int} (hc : cs[k]? = some c) : tot (cs.set k c') = tot cs - sumI c + sumI c' := by
  induction cs generalizing k with
  | nil => simp at hc
  | cons x r ih =>
    cases k with
    | zero =>
      simp at hc
      subst hc
      simp only [List.set_cons_zero, tot]
      omega
    | succ k =>
      have := ih (k := k) (by simpa using hc)
      simp only [List.set_cons_succ, tot, this]
      omega
theorem sumI_set {c : List Int} {k : Nat} {x y : Int} (hx : c[k]? = some x) : sumI (c.set k y) = sumI c - x + y := by
  induction c generalizing k with
  | nil => simp at hx
  | cons z r ih =>
    cases k with
    | zero =>
      simp at hx
      subst hx
      simp only [List.set_cons_zero, sumI]
      omega
    | succ k =>
      have := ih (k := k) (by simpa using hx)
      simp only [List.set_cons_succ, sumI, this]
      omega
theorem GoodC.set {m : Nat} {cs : List (List Int)} {S : Int} (h : GoodC m cs S) {k : Nat} {c c' : List Int} (hc : cs[k]? = some c) (h1 : NN c') (h2 : c'.length ≤ 4) : GoodC m (cs.set k c') (S - sumI c + sumI c') := by
  refine ⟨by rw [List.length_set]; exact h.len, fun d hd => ?_, by rw [tot_set hc, h.sum]⟩
  rcases List.mem_or_eq_of_mem_set hd with hd | rfl
  · exact h.nn d hd
  · exact ⟨h1, h2⟩
theorem NN.set {c : List Int} (h : NN c) (k : Nat) {y : Int} (hy : 0 ≤ y) : NN (c.set k y) := by
  intro x hx
  rcases List.mem_or_eq_of_mem_set hx with hx | rfl
  · exact h x hx
  · exact hy

structure HS where
  evs : List EventD
  cells : List (List Int)

def signI (k : Int) : Int := if k = 8 ∨ k = 10 then 1 else if k = 9 ∨ k = 11 ∨ k = 5 then -1 else 0
def evCross (s l : Int) : EventD := ⟨1, l - 1, s, 0, 0, 0⟩
def crossEvs (p s : Int) (a b : Nat) : List EventD := (swTo p 1 a b).map (evCross s)
def evYarn (d car kind place count bed : Int) : EventD := ⟨kind, place, count, bed, car, d⟩
def crossTo (k : Int) (i : Nat) (c : List Int) (s : HS) : HS :=
  if signI k = 0 then s else ⟨s.evs ++ crossEvs (tot (s.cells.take i)) (signI k) (sumI (c.take (c.length / 2))).toNat (sumI (c.drop (c.length / 2))).toNat, s.cells.set i (c.drop (c.length / 2) ++ c.take (c.length / 2))⟩
def crossStep (k : Int) (i : Nat) (s : HS) : HS := match s.cells[i]? with | none => s | some c => crossTo k i c s
def crossN (ks : List Int) : Nat → HS → HS
  | 0, s => s
  | i + 1, s => crossStep (ks.getD i 0) i (crossN ks i s)

def knitAt (d : Int) (n t : Nat) : Nat := if d = -1 then n - 1 - t else t
def knitTo (d car bed : Int) (i k : Nat) (c : List Int) (s : HS) : HS :=
  ⟨s.evs ++ [evYarn d car 2 (tot (s.cells.take i) + sumI (c.take k)) (c.getD k 0) bed], s.cells.set i (c.set k 1)⟩
def knitStep (d car bed : Int) (i t : Nat) (s : HS) : HS := match s.cells[i]? with | none => s | some c => knitTo d car bed i (knitAt d c.length t) c s
def knitN (d car bed : Int) (i : Nat) : Nat → HS → HS
  | 0, s => s
  | t + 1, s => knitStep d car bed i t (knitN d car bed i t s)
def makeTo (d car k : Int) (i : Nat) (c : List Int) (s : HS) : HS :=
  if k = 3 then ⟨s.evs ++ [evYarn d car 3 (tot (s.cells.take i)) 0 1], s.cells.set i [1]⟩
  else if k = 6 then ⟨s.evs ++ [evYarn d car 3 (tot (s.cells.take i) + c.getD 0 0) 0 1], s.cells.set i (c.set 0 (c.getD 0 0 + 1))⟩
  else if k = 7 then s
  else if k = 4 ∨ k = 5 then ⟨s.evs ++ [evYarn d car 2 (tot (s.cells.take i)) (sumI c) 1], s.cells.set i [1]⟩
  else knitN d car (if k = 2 then 2 else 1) i c.length s
def makeStep (d car : Int) (ks : List Int) (i : Nat) (s : HS) : HS := match s.cells[i]? with | none => s | some c => makeTo d car (ks.getD i 0) i c s
/-- The stitches in the order of the yarn; none, if there are too many strands at some time. -/
def makeN (d car : Int) (ks : List Int) (ord : List Int) : Nat → HS → Option HS
  | 0, s => some s
  | n + 1, s => match makeN d car ks ord n s with
    | none => none
    | some s1 => if 12 < tot (makeStep d car ks (ord.getD n 0).toNat s1).cells then none else some (makeStep d car ks (ord.getD n 0).toNat s1)
def cutC : List Int → List Int → List (List Int)
  | [], _ => []
  | k :: ks, st => st.take (takenN k) :: cutC ks (st.drop (takenN k))
theorem cutC_length (ks st : List Int) : (cutC ks st).length = ks.length := by
  induction ks generalizing st with
  | nil => rfl
  | cons k ks ih => simp [cutC, ih]
def handS (d car : Int) (ks st : List Int) : Option HS := makeN d car ks (orderP d ks.length) ks.length (crossN ks ks.length ⟨[], cutC ks st⟩)
def handEvs (d car : Int) (ks st : List Int) : List EventD := match handS d car ks st with | none => [] | some s => s.evs
def handAfter (d car : Int) (ks st : List Int) : List Int := match handS d car ks st with | none => [] | some s => s.cells.flatten

theorem swRow_sign (p s : Int) (a : Nat) : swRow p s a = (swRow p 1 a).map (s * ·) := by
  induction a with
  | zero => rfl
  | succ a ih => simp [swRow, ih]
theorem swTo_sign (p s : Int) (a b : Nat) : swTo p s a b = (swTo p 1 a b).map (s * ·) := by
  induction b with
  | zero => rfl
  | succ b ih => rw [swTo, swTo, List.map_append, ← ih, ← swRow_sign]
theorem swRow_in {p : Int} {a : Nat} {x : Int} (h : x ∈ swRow p 1 a) : p + 1 ≤ x ∧ x ≤ p + a := by
  induction a with
  | zero => simp [swRow] at h
  | succ a ih =>
    simp only [swRow, List.mem_cons] at h
    rcases h with rfl | h
    · omega
    · have := ih h; omega
theorem swTo_in {p : Int} {a b : Nat} {x : Int} (h : x ∈ swTo p 1 a b) : p + 1 ≤ x ∧ x ≤ p + a + b := by
  induction b with
  | zero => simp [swTo] at h
  | succ b ih =>
    simp only [swTo, List.mem_append] at h
    rcases h with h | h
    · have := ih h; omega
    · have := swRow_in h; omega
theorem crossEvs_length (p s : Int) (a b : Nat) : (crossEvs p s a b).length = a * b := by rw [crossEvs, List.length_map, swTo_length]
end Go.Proofs.YthjamohaeahipaaGreat

/- MirrorColours, the program's function. -/
namespace Go.Proofs.YthjamohaeahipaaGreat
open Go.RowKit

theorem OwnII.farT {w : World} {lo hi n : Nat} {A : Option Addr} {c : Nat} {xss : List (List Int)} {g : Nat} {t : TypeId} {bs : Array Value} (h : OwnII w lo hi A n c xss) (hb : Blk w g t bs) (t1 : t ≠ 2) (t2 : t ≠ 24) (j : Nat) (u : Value) : OwnII (w.setCell ⟨g, j, none⟩ u) lo hi A n c xss := by
  obtain ⟨cs, h1, h2⟩ := h.ex
  exact ⟨cs, h1.farT hb t2 j u, h2.farT hb t1 j u⟩
theorem cntII_rev (xss : List (List Int)) : cntII (xss.map List.reverse) = cntII xss := by
  induction xss with
  | nil => rfl
  | cons x r ih => simp [cntII, ih]
def revTo (xss : List (List Int)) (k : Nat) : List (List Int) := (xss.take k).map List.reverse ++ xss.drop k
theorem revTo_length (xss : List (List Int)) (k : Nat) : (revTo xss k).length = xss.length := by simp [revTo]; omega
theorem revTo_at {xss : List (List Int)} {k : Nat} {row : List Int} (h : xss[k]? = some row) : (revTo xss k)[k]? = some row ∧ (revTo xss k).set k row.reverse = revTo xss (k + 1) := by
  have hk : k < xss.length := (List.getElem?_eq_some_iff.1 h).1
  have hl : ((xss.take k).map List.reverse).length = k := by simp; omega
  refine ⟨?_, ?_⟩
  · unfold revTo
    rw [List.getElem?_append_right (by omega), hl, Nat.sub_self, List.getElem?_drop, Nat.add_zero]
    exact h
  · unfold revTo
    rw [List.set_append_right _ _ (by omega), hl, Nat.sub_self, drop_cons h, List.set_cons_zero, take_snoc h, List.map_append, List.append_assoc]
    rfl


end Go.Proofs.YthjamohaeahipaaGreat

/- Knitting by hand: the hand of the given side in memory; before, add. -/
namespace Go.Proofs.YthjamohaeahipaaGreat
open Go Go.RowKit

/-- A block of numbers apart from these slices stays what it is. -/
def OffZ (z : Option (Nat × Array Value)) (w : World) (cs : List Value) : Prop :=
  ∀ q cur, z = some (q, cur) → Blk w q 2 cur ∧ ∀ v ∈ cs, v.ownBlock ≠ some q
theorem OffZ.step {z : Option (Nat × Array Value)} {w w' : World} {cs : List Value} (h : OffZ z w cs) (hk : ∀ q cur, Blk w q 2 cur → Blk w' q 2 cur) : OffZ z w' cs :=
  fun q cur hz => ⟨hk q cur (h q cur hz).1, (h q cur hz).2⟩
structure OwnIIz (z : Option (Nat × Array Value)) (w : World) (lo hi : Nat) (A : Option Addr) (n c : Nat) (xss : List (List Int)) : Prop where
  ex : ∃ cs, OwnC w lo hi 24 1 A n c cs ∧ CellsII w lo hi cs xss ∧ OffZ z w cs
section
variable {z : Option (Nat × Array Value)} {w w' : World} {lo hi n : Nat} {A : Option Addr} {c : Nat} {xss : List (List Int)}
theorem OwnIIz.two (h : OwnIIz z w lo hi A n c xss) : OwnII w lo hi A n c xss := by
  obtain ⟨cs, h1, h2, _⟩ := h.ex
  exact ⟨cs, h1, h2⟩
theorem OwnIIz.ints2 (h : OwnIIz z w lo hi A n c xss) : Ints2 w A xss := h.two.ints2
theorem OwnIIz.below (h : OwnIIz z w lo hi A n c xss) (hb : Below w.heap.size w w') (hB : hi ≤ w.heap.size) : OwnIIz z w' lo hi A n c xss := by
  obtain ⟨cs, h1, h2, h3⟩ := h.ex
  exact ⟨cs, h1.below hb hB, h2.keep fun k _ h2 _ => hb.block k (by omega), h3.step fun q cur hq => hq.below hb hq.lt⟩
theorem OwnIIz.mono {lo' hi' : Nat} (h : OwnIIz z w lo hi A n c xss) (h1 : lo' ≤ lo) (h2 : hi ≤ hi') : OwnIIz z w lo' hi' A n c xss := by
  obtain ⟨cs, h3, h4, h5⟩ := h.ex
  exact ⟨cs, h3.mono h1 h2, h4.mono h1 h2, h5⟩
theorem OwnIIz.farT {g : Nat} {t : TypeId} {bs : Array Value} (h : OwnIIz z w lo hi A n c xss) (hb : Blk w g t bs) (t1 : t ≠ 2) (t2 : t ≠ 24) (j : Nat) (u : Value) : OwnIIz z (w.setCell ⟨g, j, none⟩ u) lo hi A n c xss := by
  obtain ⟨cs, h1, h2, h3⟩ := h.ex
  refine ⟨cs, h1.farT hb t2 j u, h2.farT hb t1 j u, h3.step fun q cur hq => hq.far (p := ⟨g, j, none⟩) ?_ u⟩
  show q ≠ g
  rintro rfl
  have := hq.symm.trans hb
  injection this with this
  injection this with _ this
  exact t1 this.symm
theorem OwnIIz.none (h : OwnII w lo hi A n c xss) : OwnIIz none w lo hi A n c xss := by
  obtain ⟨cs, h1, h2⟩ := h.ex
  exact ⟨cs, h1, h2, fun q cur hz => by cases hz⟩
end
end Go.Proofs.YthjamohaeahipaaGreat

/- Knitting by hand: the given side's knit. -/
namespace Go.Proofs.YthjamohaeahipaaGreat
open Go Go.RowKit

theorem GoodC.lt {m : Nat} {cs : List (List Int)} {S : Int} (h : GoodC m cs S) {k : Nat} {c : List Int} (hc : cs[k]? = some c) : k < m := by rw [← h.len]; exact (List.getElem?_eq_some_iff.1 hc).1
theorem knitAt_lt {d : Int} {n t : Nat} (h : t < n) : knitAt d n t < n := by unfold knitAt; split <;> omega
theorem knitStep_good {m : Nat} {st : HS} {S : Int} (hG : GoodC m st.cells S) {i : Nat} {c : List Int} (hx : st.cells[i]? = some c) {d car bed : Int} {t : Nat} (ht : t < c.length) :
    knitStep d car bed i t st = knitTo d car bed i (knitAt d c.length t) c st ∧ (knitStep d car bed i t st).cells[i]? = some (c.set (knitAt d c.length t) 1) ∧ (∃ S', S' ≤ S + 1 ∧ GoodC m (knitStep d car bed i t st).cells S') ∧ (knitStep d car bed i t st).evs.length = st.evs.length + 1 := by
  have e : knitStep d car bed i t st = knitTo d car bed i (knitAt d c.length t) c st := by unfold knitStep; rw [hx]
  have hk := knitAt_lt (d := d) ht
  have hi := (List.getElem?_eq_some_iff.1 hx).1
  have hy : c[knitAt d c.length t]? = some c[knitAt d c.length t] := List.getElem?_eq_getElem hk
  obtain ⟨hnn, h4, _, _⟩ := hG.at_ hx
  have h1 := hnn.at_le hy
  refine ⟨e, ?_, ⟨S - sumI c + sumI (c.set (knitAt d c.length t) 1), ?_, ?_⟩, ?_⟩
  · rw [e]
    show (st.cells.set i _)[i]? = _
    rw [List.getElem?_set_self hi]
  · rw [sumI_set hy]; omega
  · rw [e]
    exact hG.set hx (hnn.set _ (by omega)) (by rw [List.length_set]; exact h4)
  · rw [e]; simp [knitTo]

theorem knitAt_p {n t : Nat} : knitAt 1 n t = t := by unfold knitAt; simp
theorem knitAt_n {d : Int} {n t k : Nat} (_hk : k = knitAt d n t) (ht : t < n) (hn : n ≤ 4) : d = -1 → IntKind.i64.wrap ((n : Int) - 1 - (t : Int)) = (k : Int) := by
  intro hd
  subst hd
  have e : k = n - 1 - t := by rw [_hk]; unfold knitAt; simp
  rw [IntWalk.i64_in _ ⟨by omega, by omega⟩]
  omega

theorem OwnC.uniq {w : World} {lo hi lo' hi' n c : Nat} {e e' : TypeId} {sz : Nat} {A : Option Addr} {cs cs' : List Value} (h : OwnC w lo hi e sz A n c cs) (h' : OwnC w lo' hi' e' sz A n c cs') : cs = cs' := by
  rcases h.form with ⟨h1, h2, h3, h4⟩ | ⟨g, cur, h1, _, _, h2, _, _, _, h3⟩
  · rcases h'.form with ⟨_, _, _, k4⟩ | ⟨g, cur, k1, _⟩
    · rw [h4, k4]
    · rw [h1] at k1; cases k1
  · rcases h'.form with ⟨k1, _⟩ | ⟨g', cur', k1, _, _, k2, _, _, _, k3⟩
    · rw [h1] at k1; cases k1
    · rw [h1] at k1
      injection k1 with k1
      injection k1 with k1
      subst k1
      rw [h2] at k2
      injection k2 with k2
      injection k2 with k2
      subst k2
      rw [← h3, ← k3]

end Go.Proofs.YthjamohaeahipaaGreat

/- The draws: a row to be knitted by hand, and its sizes. -/
namespace Go.Proofs.YthjamohaeahipaaGreat
open Go Go.RowKit

set_option maxHeartbeats 4000000 in
set_option maxRecDepth 10000 in
theorem spec_DrawHandRow (A : Option Addr) (c : Nat) (bs : List Int) (w : World) (hby : Bytes w A bs) (hl : bs.length ≤ 1099511627776) :
    Calls Tryz.prog 5 #[.slice A bs.length c] w fun e w' => ∃ (d car : Int) (A1 : Option Addr) (c1 : Nat) (ks : List Int) (A2 : Option Addr) (c2 : Nat) (st : List Int), e = .returned (.tuple #[.agg #[.int .i64 d, .int .i64 car, .slice A1 ks.length c1], .slice A2 st.length c2]) ∧ OwnI w' w.heap.size w'.heap.size A1 c1 ks ∧ ks.length ≤ 18 ∧ OwnI w' w.heap.size w'.heap.size A2 c2 st ∧ 1 ≤ st.length ∧ st.length ≤ 7 ∧ Below w.heap.size w w' := by
  have t2 : (26 : TypeId) ≠ 2 := by decide
  obtain ⟨w1, hw1⟩ : ∃ w1, w1 = w.alloc (.cells #[.int .i64 0, .int .i64 0, .slice none 0 0] 26) := ⟨_, rfl⟩
  have hb1 : Below w.heap.size w w1 := by rw [hw1]; (repeat (first | exact Below.refl _ _ | assumption | apply Below.drew | apply below_drewN | (refine Below.alloc ?_ (by first | omega | (simp; done) | (simp; omega)) _) | (refine Below.setCell ?_ (by first | omega | (simp; done) | (simp; omega)) _)))
  have kz1 : Blk w1 w.heap.size 26 #[.int .i64 0, .int .i64 0, .slice none 0 0] := by rw [hw1]; exact Blk.new w _ _
  have hz1 : w.heap.size < w1.heap.size := kz1.lt
  go_enter Tryz.func5, Tryz.ntmps5
  go_wp2_with (fail)
  rw [← hw1]
  clear hw1
  refine (spec_l00From A c bs w1 (hby.of_cells (cells_below hb1)) hl).mono ?_
  rintro e w2 ⟨rfl, hs2, b2, hz2⟩
  obtain ⟨g, hg⟩ : ∃ g, g = w1.heap.size := ⟨_, rfl⟩
  rw [← hg] at hs2 hz2 ⊢
  have hb2 : Below w.heap.size w w2 := hb1.trans (b2.mono (by omega))
  have kz2 := kz1.below b2 kz1.lt
  have HZ2 : Hid (w2.heap.size = g + 1) := Lib.hid hz2
  have HG : Hid (w.heap.size < g) := Lib.hid (by omega)
  clear hz2 hg kz1 hb1 b2 hz1
  go_wp2_with (fail)
  refine (spec_l17DrawSizes w2 g A c bs 0 hs2 (by decide)).mono ?_
  rintro e w3 ⟨A3, c3, st, rfl, o3, hst1, hst7, hs3, hg3⟩
  have kz3 := kz2.grownG hg3 (by have := HG.out; omega)
  have hb3 : Below w.heap.size w w3 := hb2.trans (gb_below hg3 (by have := HG.out; omega) (by have := HG.out; have := HZ2.out; omega))
  have HZ3 : Hid (g + 1 ≤ w3.heap.size ∧ w2.heap.size ≤ w3.heap.size) := Lib.hid (by have := hg3.size; have := HZ2.out; omega)
  clear hs2 kz2 hg3 hb2
  go_wp2_with (fail)
  refine (sv_one 2 (by decide) hs3 (by decide)).mono ?_
  rintro e w4 ⟨y, rfl, hs4, hg4, hz4⟩
  have kz4 := kz3.grownG hg4 (by have := HG.out; omega)
  have hb4 : Below w.heap.size w w4 := hb3.trans (gb_below hg4 (by have := HG.out; omega) (by have := HG.out; have := HZ3.out; omega))
  have o4 : OwnI w4 w2.heap.size w3.heap.size A3 c3 st := OwnC.grownG o3 hg4 (.inl (by have := HZ2.out; omega))
  have HZ4 := Lib.hid hz4
  clear hs3 kz3 hg4 hb3 o3 hz4
  go_upto_if 13 with fail
  go_cut [6] (fun dv wx => (∃ d : Int, dv = .int .i64 d ∧ (d = 1 ∨ d = -1)) ∧ w4 = wx)
  case first =>
    cases y
    · go_wp2_with (fail)
      go_meet
      exact ⟨⟨1, rfl, .inl rfl⟩, rfl⟩
    · go_wp2_with (fail)
      go_meet
      exact ⟨⟨-1, rfl, .inr rfl⟩, rfl⟩
  case rest =>
  obtain ⟨⟨d, rfl, hd⟩, rfl⟩ := hcut
  have HD := Lib.hid hd; clear hd
  obtain ⟨w5, hw5⟩ : ∃ w5, w5 = w4.alloc (.cells #[.int .i64 d, .int .i64 1, .slice none 0 0] 26) := ⟨_, rfl⟩
  have kx5 : Blk w5 w4.heap.size 26 #[.int .i64 d, .int .i64 1, .slice none 0 0] := by rw [hw5]; exact Blk.new w4 _ _
  have kz5 : Blk w5 w.heap.size 26 #[.int .i64 0, .int .i64 0, .slice none 0 0] := by rw [hw5]; exact kz4.alloc _
  have hs5 : Sv w5 g A c bs (0 + 10 + 1) := by rw [hw5]; exact hs4.alloc _
  have hb5 : Below w.heap.size w w5 := by rw [hw5]; exact Below.alloc hb4 hb4.size _
  have o5 : OwnI w5 w2.heap.size w3.heap.size A3 c3 st := by rw [hw5]; exact OwnC.alloc o4 _
  obtain ⟨gR, hgR⟩ : ∃ gR, gR = w4.heap.size := ⟨_, rfl⟩
  rw [← hgR] at kx5
  have HGR : Hid (w3.heap.size ≤ gR ∧ g < gR ∧ w.heap.size < gR) := Lib.hid (by have := HZ4.out; have := HZ3.out; have := HG.out; omega)
  have HGL := Lib.hid kx5.lt
  go_upto_region 7 with fail
  rw [← hw5, ← hgR]
  clear hw5 hgR kz4 hs4 hb4 o4
  go_wp2_with (fail)
  refine (spec_l14Bent st.length (by omega) w5 g A c bs _ hs5 (by decide)).mono ?_
  rintro e w6 ⟨A6, c6, ks, rfl, o6, hks, hs6, hg6⟩
  have HZ6 : Hid (w5.heap.size ≤ w6.heap.size) := Lib.hid hg6.size
  have kx6 := kx5.grownG hg6 (by have := HGR.out; omega)
  have kz6 := kz5.grownG hg6 (by have := HG.out; omega)
  have hb6 : Below w.heap.size w w6 := hb5.trans (gb_below hg6 (by have := HG.out; omega) hb5.size)
  have o56 : OwnI w6 w2.heap.size w3.heap.size A3 c3 st := OwnC.grownG o5 hg6 (.inl (by have := HZ2.out; omega))
  clear kx5 kz5 hs5 hb5 o5 hg6
  obtain ⟨w7, hw7⟩ : ∃ w7, w7 = w6.setCell ⟨gR, 2, none⟩ (.slice A6 ks.length c6) := ⟨_, rfl⟩
  have kx7 : Blk w7 gR 26 #[.int .i64 d, .int .i64 1, .slice A6 ks.length c6] := by rw [hw7]; exact kx6.set32 _
  have kz7 : Blk w7 w.heap.size 26 #[.int .i64 0, .int .i64 0, .slice none 0 0] := by rw [hw7]; exact kz6.far (by show w.heap.size ≠ gR; have := HGR.out; omega) _
  have hs7 : Sv w7 g A c bs (0 + 10 + 1 + 4503599627370500) := by rw [hw7]; exact hs6.store (by have := HGR.out; omega) _
  have hb7 : Below w.heap.size w w7 := by rw [hw7]; exact hb6.setCell (by show w.heap.size ≤ gR; have := HGR.out; omega) _
  have o7 : OwnI w7 w2.heap.size w3.heap.size A3 c3 st := by rw [hw7]; exact OwnC.farT o56 kx6 t2 2 _
  have o67 : OwnI w7 w5.heap.size w6.heap.size A6 c6 ks := by rw [hw7]; exact OwnC.farT o6 kx6 t2 2 _
  have HZ7 : Hid (w7.heap.size = w6.heap.size) := Lib.hid (by rw [hw7]; simp)
  obtain ⟨x0, x1, x2⟩ := kx6.c3
  have x3 := kx6.frozen 2
  go_upto_region 8 with fail
  rw [← hw7]
  clear hw7 kz6 hs6 hb6 o6 o56 x0 x1 x2 x3 kx6
  go_wp2_with (fail)
  refine (sv_one 3 (by decide) hs7 (by decide)).mono ?_
  rintro e w8 ⟨y3, rfl, hs8, hg8, hz8⟩
  have kx8 := kx7.grownG hg8 (by have := HGR.out; omega)
  have kz8 := kz7.grownG hg8 (by have := HG.out; omega)
  have hb8 : Below w.heap.size w w8 := hb7.trans (gb_below hg8 (by have := HG.out; omega) hb7.size)
  have o8 : OwnI w8 w2.heap.size w3.heap.size A3 c3 st := OwnC.grownG o7 hg8 (.inl (by have := HZ2.out; omega))
  have o68 : OwnI w8 w5.heap.size w6.heap.size A6 c6 ks := OwnC.grownG o67 hg8 (.inl (by have := HGL.out; have := HGR.out; omega))
  have HZ8 := Lib.hid hz8
  clear kx7 kz7 hs7 hb7 o7 o67 hg8 hz8
  obtain ⟨z0, z1, z2⟩ := kz8.c3
  have f0 := kz8.frozen 0
  have f1 := kz8.frozen 1
  have f2 := kz8.frozen 2
  cases y3
  · obtain ⟨x0, x1, x2⟩ := kx8.c3
    go_wp2_with (fail)
    have k1 := kz8.set30 (.int .i64 d)
    have k2 := k1.set31 (.int .i64 1)
    have k3 := k2.set32 (.slice A6 ks.length c6)
    obtain ⟨r0, r1, r2⟩ := k3.c3
    refine bodyPost_ret (v := .tuple #[.agg #[.int .i64 d, .int .i64 1, .slice A6 ks.length c6], .slice A3 st.length c3]) (by simp [results, Tryz.results5, go_sem, r0, r1, r2]) rfl ⟨d, 1, A6, c6, ks, A3, c3, st, rfl, ?_, hks, ?_, hst1, hst7, ?_⟩
    · exact (((OwnC.farT o68 kz8 t2 0 _).farT k1 t2 1 _).farT k2 t2 2 _).mono (by have := HGL.out; have := HGR.out; omega) (by have := HZ8.out; have := HZ7.out; simp; omega)
    · exact (((OwnC.farT o8 kz8 t2 0 _).farT k1 t2 1 _).farT k2 t2 2 _).mono (by have := HZ2.out; have := HG.out; omega) (by have := HGR.out; have := HGL.out; have := HZ6.out; have := HZ7.out; have := HZ8.out; simp; omega)
    · (repeat (first | exact Below.refl _ _ | assumption | apply Below.drew | apply below_drewN | (refine Below.alloc ?_ (by first | omega | (simp; done) | (simp; omega)) _) | (refine Below.setCell ?_ (by first | omega | (simp; done) | (simp; omega)) _)))
  · have HNE : Hid (∀ a, A3 = some a → a.block ≠ g) := Lib.hid (fun a ha => by
      rcases OwnC.form o8 with ⟨h1, _⟩ | ⟨q, _, h1, h2, _⟩
      · rw [h1] at ha; cases ha
      · rw [h1] at ha
        injection ha with ha
        subst ha
        have := HZ2.out
        show q ≠ g
        omega)
    go_wp2_with (fail)
    refine (spec_l15DrawRowW st d 2 A3 c3 w8 g A c bs _ hs8 (by decide) (OwnC.ints o8) HNE.out (by omega) HD.out rfl).mono ?_
    rintro e w9 ⟨A9, c9, ks9, A10, n10, c10, rfl, hk9, o9, hs9, hg9⟩
    have HZ9 : Hid (w8.heap.size ≤ w9.heap.size) := Lib.hid hg9.size
    have kx9 := kx8.grownG hg9 (by have := HGR.out; omega)
    have kz9 := kz8.grownG hg9 (by have := HG.out; omega)
    have hb9 : Below w.heap.size w w9 := hb8.trans (gb_below hg9 (by have := HG.out; omega) hb8.size)
    have o39 : OwnI w9 w2.heap.size w3.heap.size A3 c3 st := OwnC.grownG o8 hg9 (.inl (by have := HZ2.out; omega))
    clear kx8 kz8 hs8 hb8 o8 o68 hg9 z0 z1 z2 f0 f1 f2
    obtain ⟨w10, hw10⟩ : ∃ w10, w10 = ((w9.setCell ⟨gR, 0, none⟩ (.int .i64 d)).setCell ⟨gR, 1, none⟩ (.int .i64 2)).setCell ⟨gR, 2, none⟩ (.slice A9 ks9.length c9) := ⟨_, rfl⟩
    have m1 := kx9.set30 (.int .i64 d)
    have m2 := m1.set31 (.int .i64 2)
    have kx10 : Blk w10 gR 26 #[.int .i64 d, .int .i64 2, .slice A9 ks9.length c9] := by rw [hw10]; exact m2.set32 _
    have kz10 : Blk w10 w.heap.size 26 #[.int .i64 0, .int .i64 0, .slice none 0 0] := by
      have hne : w.heap.size ≠ gR := by have := HGR.out; omega
      rw [hw10]
      exact ((kz9.far (p := ⟨gR, 0, none⟩) hne _).far (p := ⟨gR, 1, none⟩) hne _).far (p := ⟨gR, 2, none⟩) hne _
    have hb10 : Below w.heap.size w w10 := by
      have hle : w.heap.size ≤ gR := by have := HGR.out; omega
      rw [hw10]
      exact ((hb9.setCell (p := ⟨gR, 0, none⟩) hle _).setCell (p := ⟨gR, 1, none⟩) hle _).setCell (p := ⟨gR, 2, none⟩) hle _
    have o310 : OwnI w10 w2.heap.size w3.heap.size A3 c3 st := by rw [hw10]; exact ((OwnC.farT o39 kx9 t2 0 _).farT m1 t2 1 _).farT m2 t2 2 _
    have o910 : OwnI w10 w8.heap.size w9.heap.size A9 c9 ks9 := by rw [hw10]; exact ((OwnC.farT o9 kx9 t2 0 _).farT m1 t2 1 _).farT m2 t2 2 _
    have HZ10 : Hid (w10.heap.size = w9.heap.size) := Lib.hid (by rw [hw10]; simp)
    obtain ⟨x0, x1, x2⟩ := kx9.c3
    have g0 := kx9.frozen 0
    have g1 := kx9.frozen 1
    have g2 := kx9.frozen 2
    go_upto_region 10 with fail
    rw [← hw10]
    clear hw10 m1 m2 kx9 kz9 hb9 o39 o9 x0 x1 x2 g0 g1 g2
    obtain ⟨x0, x1, x2⟩ := kx10.c3
    obtain ⟨z0, z1, z2⟩ := kz10.c3
    have f0 := kz10.frozen 0
    have f1 := kz10.frozen 1
    have f2 := kz10.frozen 2
    go_wp2_with (fail)
    have k1 := kz10.set30 (.int .i64 d)
    have k2 := k1.set31 (.int .i64 2)
    have k3 := k2.set32 (.slice A9 ks9.length c9)
    obtain ⟨r0, r1, r2⟩ := k3.c3
    refine bodyPost_ret (v := .tuple #[.agg #[.int .i64 d, .int .i64 2, .slice A9 ks9.length c9], .slice A3 st.length c3]) (by simp [results, Tryz.results5, go_sem, r0, r1, r2]) rfl ⟨d, 2, A9, c9, ks9, A3, c3, st, rfl, ?_, by omega, ?_, hst1, hst7, ?_⟩
    · exact (((OwnC.farT o910 kz10 t2 0 _).farT k1 t2 1 _).farT k2 t2 2 _).mono (by have := HGL.out; have := HGR.out; have := HZ6.out; have := HZ7.out; have := HZ8.out; omega) (by have := HZ10.out; simp; omega)
    · exact (((OwnC.farT o310 kz10 t2 0 _).farT k1 t2 1 _).farT k2 t2 2 _).mono (by have := HZ2.out; have := HG.out; omega) (by have := HGR.out; have := HGL.out; have := HZ6.out; have := HZ7.out; have := HZ8.out; have := HZ9.out; have := HZ10.out; simp; omega)
    · (repeat (first | exact Below.refl _ _ | assumption | apply Below.drew | apply below_drewN | (refine Below.alloc ?_ (by first | omega | (simp; done) | (simp; omega)) _) | (refine Below.setCell ?_ (by first | omega | (simp; done) | (simp; omega)) _)))

end Go.Proofs.YthjamohaeahipaaGreat

/- Knitting by hand: the given side's stitch. -/
namespace Go.Proofs.YthjamohaeahipaaGreat
open Go Go.RowKit

theorem knit_one (d car v : Int) (i : Nat) (E : List EventD) (cs : List (List Int)) (hi : i < cs.length) : knitN d car 1 i 1 ⟨E, cs.set i [v]⟩ = ⟨E ++ [evYarn d car 2 (tot (cs.take i)) v 1], cs.set i [1]⟩ := by
  have e1 : (cs.set i [v])[i]? = some [v] := List.getElem?_set_self hi
  have e2 : knitAt d 1 0 = 0 := by unfold knitAt; split <;> rfl
  have e3 : (cs.set i [v]).take i = cs.take i := by rw [List.take_set_of_le (Nat.le_refl _)]
  unfold knitN knitN knitStep
  simp only [e1, List.length_singleton, e2]
  unfold knitTo
  simp only [e3, List.set_set]
  simp [sumI]

theorem cell_blk {w w' : World} {g : Nat} {t t' : TypeId} {cs : Array Value} (h : Blk w g t cs) (h' : Blk w' g t' cs) (j : Nat) {v : Value} (hv : w.cell? ⟨g, j, none⟩ = some v) : w'.cell? ⟨g, j, none⟩ = some v := by
  have e1 := h.cell j
  have e2 := h'.cell j
  rw [hv] at e1
  rw [e2, ← e1]

end Go.Proofs.YthjamohaeahipaaGreat

/- Knitting by hand, the given side: every stitch; signs; the columns that each stitch takes. -/
namespace Go.Proofs.YthjamohaeahipaaGreat
open Go Go.RowKit

def cntFrom (a : Nat) : Nat → List Int
  | 0 => []
  | n + 1 => cntFrom a n ++ [((a + n : Nat) : Int)]
theorem cntFrom_length (a n : Nat) : (cntFrom a n).length = n := by
  induction n with
  | zero => rfl
  | succ n ih => simp [cntFrom, ih]
theorem cntFrom_at {a n j : Nat} (h : j < n) : (cntFrom a n)[j]? = some ((a + j : Nat) : Int) := by
  induction n with
  | zero => omega
  | succ n ih =>
    rw [cntFrom]
    by_cases e : j < n
    · rw [List.getElem?_append_left (by rw [cntFrom_length]; exact e)]
      exact ih e
    · obtain rfl : j = n := by omega
      rw [List.getElem?_append_right (by rw [cntFrom_length]; exact Nat.le_refl _), cntFrom_length]
      simp
def srcs (at_ : Nat) : List Int → List (List Int)
  | [] => []
  | k :: ks => cntFrom at_ (takenN k) :: srcs (at_ + takenN k) ks
theorem srcs_length (a : Nat) (ks : List Int) : (srcs a ks).length = ks.length := by
  induction ks generalizing a with
  | nil => rfl
  | cons k ks ih => simp [srcs, ih]
theorem srcs_at {a : Nat} {ks : List Int} {i : Nat} {k : Int} (h : ks[i]? = some k) : (srcs a ks)[i]? = some (cntFrom (a + takenS (ks.take i)) (takenN k)) := by
  induction ks generalizing a i with
  | nil => simp at h
  | cons x ks ih =>
    cases i with
    | zero =>
      simp at h
      subst h
      simp [srcs, takenS]
    | succ i =>
      have := ih (a := a + takenN x) (i := i) (by simpa using h)
      simp only [srcs, List.getElem?_cons_succ, this, List.take_succ_cons, takenS]
      rw [Nat.add_assoc]
theorem cutC_at {ks st : List Int} {i : Nat} {k : Int} (h : ks[i]? = some k) : (cutC ks st)[i]? = some ((st.drop (takenS (ks.take i))).take (takenN k)) := by
  induction ks generalizing st i with
  | nil => simp at h
  | cons x ks ih =>
    cases i with
    | zero =>
      simp at h
      subst h
      simp [cutC, takenS]
    | succ i =>
      have := ih (st := st.drop (takenN x)) (i := i) (by simpa using h)
      simp only [cutC, List.getElem?_cons_succ, this, List.take_succ_cons, takenS, List.drop_drop]

end Go.Proofs.YthjamohaeahipaaGreat

/- Knitting by hand, plain: what the steps keep. -/
namespace Go.Proofs.YthjamohaeahipaaGreat
open Go Go.RowKit

theorem crossTo_good {m : Nat} {s : HS} {S : Int} (hG : GoodC m s.cells S) (hS : S ≤ 12) {i : Nat} {c : List Int} (hx : s.cells[i]? = some c) (k : Int) :
    crossStep k i s = crossTo k i c s ∧ GoodC m (crossTo k i c s).cells S ∧ (crossTo k i c s).evs.length ≤ s.evs.length + 144 ∧ (∃ c', (crossTo k i c s).cells[i]? = some c' ∧ c'.length = c.length) ∧ ∀ j, j ≠ i → (crossTo k i c s).cells[j]? = s.cells[j]? := by
  have e : crossStep k i s = crossTo k i c s := by unfold crossStep; rw [hx]
  refine ⟨e, ?_⟩
  obtain ⟨hnn, h4, hle, h0⟩ := hG.at_ hx
  have hT := (hG.take i).1
  unfold crossTo
  split
  · exact ⟨hG, by omega, ⟨c, hx, rfl⟩, fun _ _ => rfl⟩
  · have hP := hnn.part (c.length / 2)
    have hlen : (c.drop (c.length / 2) ++ c.take (c.length / 2)).length = c.length := by
      rw [List.length_append, List.length_drop, List.length_take]; omega
    have hi : i < s.cells.length := (List.getElem?_eq_some_iff.1 hx).1
    refine ⟨?_, ?_, ⟨_, List.getElem?_set_self hi, hlen⟩, fun j hj => List.getElem?_set_ne (Ne.symm hj)⟩
    · have h1 := hG.set hx (c' := c.drop (c.length / 2) ++ c.take (c.length / 2)) (fun x hx => by
        rcases List.mem_append.1 hx with h | h
        · exact hnn.drop _ x h
        · exact hnn.take _ x h) (by rw [hlen]; exact h4)
      have h2 := sumI_split c (c.length / 2)
      rw [sumI_append] at h1
      rw [show S - sumI c + (sumI (c.drop (c.length / 2)) + sumI (c.take (c.length / 2))) = S by omega] at h1
      exact h1
    · rw [List.length_append, crossEvs_length]
      have h1 : (sumI (c.take (c.length / 2))).toNat ≤ 12 := by omega
      have h2 : (sumI (c.drop (c.length / 2))).toNat ≤ 12 := by omega
      have := Nat.mul_le_mul h1 h2
      omega
theorem knitN_good {m : Nat} {s : HS} {S : Int} (hG : GoodC m s.cells S) {i : Nat} {c : List Int} (hx : s.cells[i]? = some c) (d car bed : Int) : ∀ n, n ≤ c.length →
    ∃ c' S', (knitN d car bed i n s).cells[i]? = some c' ∧ c'.length = c.length ∧ GoodC m (knitN d car bed i n s).cells S' ∧ S' ≤ S + n ∧ (knitN d car bed i n s).evs.length = s.evs.length + n ∧ ∀ j, j ≠ i → (knitN d car bed i n s).cells[j]? = s.cells[j]? := by
  intro n
  induction n with
  | zero => intro _; exact ⟨c, S, hx, rfl, hG, by omega, rfl, fun _ _ => rfl⟩
  | succ n ih =>
    intro hn
    obtain ⟨c', S', h1, h2, h3, h4, h5, h6⟩ := ih (by omega)
    obtain ⟨g1, g2, ⟨S2, g3, g4⟩, g5⟩ := knitStep_good h3 h1 (d := d) (car := car) (bed := bed) (t := n) (by omega)
    refine ⟨_, S2, g2, by rw [List.length_set]; exact h2, g4, by omega, by rw [knitN, g5, h5]; omega, fun j hj => ?_⟩
    rw [knitN, g1]
    show (((knitN d car bed i n s).cells.set i _)[j]?) = _
    rw [List.getElem?_set_ne (Ne.symm hj)]
    exact h6 j hj
theorem makeTo_good {m : Nat} {s : HS} {S : Int} (hG : GoodC m s.cells S) {i : Nat} {c : List Int} (hx : s.cells[i]? = some c) (d car k : Int) (h6 : k = 6 → 1 ≤ c.length) :
    ∃ c' S', (makeTo d car k i c s).cells[i]? = some c' ∧ (1 ≤ c.length → 1 ≤ c'.length) ∧ GoodC m (makeTo d car k i c s).cells S' ∧ S' ≤ S + 4 ∧ (makeTo d car k i c s).evs.length ≤ s.evs.length + 4 ∧ ∀ j, j ≠ i → (makeTo d car k i c s).cells[j]? = s.cells[j]? := by
  obtain ⟨hnn, h4, hle, h0⟩ := hG.at_ hx
  have hT := (hG.take i).1
  have hi : i < s.cells.length := (List.getElem?_eq_some_iff.1 hx).1
  have hone : GoodC m (s.cells.set i [1]) (S - sumI c + sumI [1]) := hG.set hx (by intro y hy; simp at hy; omega) (by simp)
  have hs1 : sumI [1] = 1 := rfl
  unfold makeTo
  split
  · rename_i hk
    exact ⟨[1], _, List.getElem?_set_self hi, fun _ => Nat.le_refl _, hone, by omega, by simp, fun j hj => List.getElem?_set_ne (Ne.symm hj)⟩
  · split
    · rename_i hk
      have hc1 := h6 hk
      obtain ⟨x, hy⟩ : ∃ x, c[0]? = some x := ⟨_, List.getElem?_eq_getElem (by omega)⟩
      have hxb := hnn.at_le hy
      have hget : c.getD 0 0 = x := by rw [List.getD_eq_getElem?_getD, hy]; rfl
      rw [hget]
      have h1 := hG.set hx (hnn.set 0 (y := x + 1) (by omega)) (by rw [List.length_set]; exact h4)
      rw [sumI_set hy] at h1
      exact ⟨_, _, List.getElem?_set_self hi, fun h => by rw [List.length_set]; exact h, h1, by omega, by simp, fun j hj => List.getElem?_set_ne (Ne.symm hj)⟩
    · split
      · exact ⟨c, S, hx, id, hG, by omega, by omega, fun _ _ => rfl⟩
      · split
        · rename_i h1 h2 h3 hk
          exact ⟨[1], _, List.getElem?_set_self hi, fun _ => Nat.le_refl _, hone, by omega, by simp, fun j hj => List.getElem?_set_ne (Ne.symm hj)⟩
        · obtain ⟨c', S', g1, g2, g3, g5, g6, g7⟩ := knitN_good hG hx d car (if k = 2 then 2 else 1) c.length (Nat.le_refl _)
          exact ⟨c', S', g1, fun h => by rw [g2]; exact h, g3, by omega, by omega, g7⟩
end Go.Proofs.YthjamohaeahipaaGreat

/- Knitting by hand, plain: what the crossings and the stitches of a row keep. -/
namespace Go.Proofs.YthjamohaeahipaaGreat
open Go Go.RowKit

theorem cutC_tot {ks st : List Int} (h : takenS ks = st.length) : tot (cutC ks st) = sumI st := by
  induction ks generalizing st with
  | nil =>
    have : st = [] := List.eq_nil_of_length_eq_zero h.symm
    subst this
    rfl
  | cons k ks ih =>
    rw [takenS] at h
    rw [cutC, tot, ih (by rw [List.length_drop]; omega), sumI_split]
theorem cutC_nn {ks st : List Int} (hs : NN st) (hk : ∀ k ∈ ks, takenN k ≤ 4) : ∀ c ∈ cutC ks st, NN c ∧ c.length ≤ 4 := by
  induction ks generalizing st with
  | nil => intro c hc; simp [cutC] at hc
  | cons k ks ih =>
    intro c hc
    rw [cutC, List.mem_cons] at hc
    rcases hc with rfl | hc
    · have := hk k (by simp)
      exact ⟨hs.take _, by rw [List.length_take]; omega⟩
    · exact ih (hs.drop _) (fun j hj => hk j (by simp [hj])) c hc
theorem takenN_le4 {k : Int} (h : isStitchB k = true) : takenN k ≤ 4 := by rcases stitch_cases h with rfl | rfl | rfl | rfl | rfl | rfl | rfl | rfl | rfl | rfl | rfl <;> decide
theorem cutC_good {ks st : List Int} (hs : NN st) (hk : ∀ k ∈ ks, isStitchB k = true) (h : takenS ks = st.length) : GoodC ks.length (cutC ks st) (sumI st) :=
  ⟨cutC_length ks st, cutC_nn hs (fun k hj => takenN_le4 (hk k hj)), cutC_tot h⟩
theorem cutC_len {ks st : List Int} (h : takenS ks = st.length) {j : Nat} {k : Int} (hk : ks[j]? = some k) : ∃ c : List Int, (cutC ks st)[j]? = some c ∧ c.length = takenN k := by
  refine ⟨_, cutC_at hk, ?_⟩
  have h1 : takenS (ks.take (j + 1)) = takenS (ks.take j) + takenN k := by rw [take_snoc hk, takenS_append]; simp [takenS]
  have h2 := takenS_append (ks.take (j + 1)) (ks.drop (j + 1))
  rw [List.take_append_drop, h] at h2
  rw [List.length_take, List.length_drop]
  omega
/-- What holds behind the crossings of the first n stitches. -/
structure CrossOk (ks st : List Int) (n : Nat) (s : HS) : Prop where
  good : GoodC ks.length s.cells (sumI st)
  evs : s.evs.length ≤ 144 * n
  rest : ∀ j : Nat, n ≤ j → s.cells[j]? = (cutC ks st)[j]?
  len : ∀ (j : Nat) (k : Int), ks[j]? = some k → ∃ c : List Int, s.cells[j]? = some c ∧ c.length = takenN k
theorem crossN_ok {ks st : List Int} (hs : NN st) (hk : ∀ k ∈ ks, isStitchB k = true) (ht : takenS ks = st.length) (hS : sumI st ≤ 12) : ∀ n, n ≤ ks.length → CrossOk ks st n (crossN ks n ⟨[], cutC ks st⟩) := by
  intro n
  induction n with
  | zero => intro _; exact ⟨cutC_good hs hk ht, Nat.zero_le _, fun _ _ => rfl, fun j k hj => cutC_len ht hj⟩
  | succ n ih =>
    intro hn
    obtain ⟨g1, g2, g3, g4⟩ := ih (by omega)
    obtain ⟨kd, hkd⟩ : ∃ kd, ks[n]? = some kd := ⟨_, List.getElem?_eq_getElem (by omega)⟩
    have hgd : ks.getD n 0 = kd := by rw [List.getD_eq_getElem?_getD, hkd]; rfl
    obtain ⟨c, hc, hcl⟩ := g4 n kd hkd
    obtain ⟨e1, e2, e3, ⟨c', e4, e5⟩, e6⟩ := crossTo_good g1 hS hc kd
    have he : crossN ks (n + 1) ⟨[], cutC ks st⟩ = crossTo kd n c (crossN ks n ⟨[], cutC ks st⟩) := by rw [crossN, hgd, e1]
    rw [he]
    refine ⟨e2, by omega, fun j hj => ?_, fun j k hj => ?_⟩
    · rw [e6 j (by omega)]; exact g3 j (by omega)
    · by_cases ej : j = n
      · subst ej
        rw [hkd] at hj
        injection hj with hj
        subst hj
        exact ⟨c', e4, by omega⟩
      · rw [e6 j ej]; exact g4 j k hj
/-- What holds behind the first n stitches. -/
structure MakeOk (ks : List Int) (n : Nat) (s : HS) : Prop where
  good : ∃ S, S ≤ 12 ∧ GoodC ks.length s.cells S
  evs : s.evs.length ≤ 2304 + 4 * n
  len : ∀ (j : Nat) (k : Int), ks[j]? = some k → k ≠ 3 → ∃ c : List Int, s.cells[j]? = some c ∧ 1 ≤ c.length
theorem takenN_pos {k : Int} (h : isStitchB k = true) (h3 : k ≠ 3) : 1 ≤ takenN k := by rcases stitch_cases h with rfl | rfl | rfl | rfl | rfl | rfl | rfl | rfl | rfl | rfl | rfl <;> first | decide | exact absurd rfl h3
theorem MakeOk.start {ks st : List Int} {s : HS} (h : CrossOk ks st ks.length s) (hk : ∀ k ∈ ks, isStitchB k = true) (hl : ks.length ≤ 16) (hS : sumI st ≤ 12) : MakeOk ks 0 s :=
  ⟨⟨_, hS, h.good⟩, by have := h.evs; omega, fun j k hj h3 => by
    obtain ⟨c, h1, h2⟩ := h.len j k hj
    exact ⟨c, h1, by rw [h2]; exact takenN_pos (hk k (List.mem_of_getElem? hj)) h3⟩⟩
theorem orderP_in {d : Int} {n k : Nat} {x : Int} (h : (orderP d n)[k]? = some x) : ∃ i : Nat, x = (i : Int) ∧ i < n := by
  have hk : k < n := by have := (List.getElem?_eq_some_iff.1 h).1; rwa [orderP_length] at this
  by_cases hd : d = 1
  · subst hd
    rw [orderP_at1 hk] at h
    injection h with h
    exact ⟨k, h.symm, hk⟩
  · rw [orderP_at2 hd hk] at h
    injection h with h
    exact ⟨n - 1 - k, by omega, by omega⟩
theorem makeStep_ok {ks : List Int} {n : Nat} {s : HS} (h : MakeOk ks n s) (d car : Int) {i : Nat} {k : Int} (hk : ks[i]? = some k) :
    ∃ c, s.cells[i]? = some c ∧ (k ≠ 3 → 1 ≤ c.length) ∧ makeStep d car ks i s = makeTo d car k i c s ∧ (∃ S, S ≤ 16 ∧ GoodC ks.length (makeTo d car k i c s).cells S) ∧ (makeTo d car k i c s).evs.length ≤ s.evs.length + 4 ∧
      (tot (makeTo d car k i c s).cells ≤ 12 → MakeOk ks (n + 1) (makeTo d car k i c s)) := by
  obtain ⟨S, hS, hG⟩ := h.good
  have hi : i < s.cells.length := by rw [hG.len]; exact (List.getElem?_eq_some_iff.1 hk).1
  have hc : s.cells[i]? = some s.cells[i] := List.getElem?_eq_getElem hi
  have h6 : k ≠ 3 → 1 ≤ s.cells[i].length := by
    intro h3
    obtain ⟨c, h1, h2⟩ := h.len i k hk h3
    rw [hc] at h1
    injection h1 with h1
    rw [h1]; exact h2
  obtain ⟨c', S', e1, e2, e3, e4, e5, e6⟩ := makeTo_good hG hc d car k (fun h => h6 (by omega))
  have hgd : ks.getD i 0 = k := by rw [List.getD_eq_getElem?_getD, hk]; rfl
  refine ⟨_, hc, h6, by unfold makeStep; rw [hc, hgd], ⟨S', by omega, e3⟩, e5, fun hT => ⟨⟨S', by have := e3.sum; omega, e3⟩, by have := h.evs; omega, fun j kj hj h3 => ?_⟩⟩
  by_cases ej : j = i
  · subst ej
    rw [hk] at hj
    injection hj with hj
    subst hj
    exact ⟨c', e1, e2 (h6 h3)⟩
  · rw [e6 j ej]; exact h.len j kj hj h3
theorem makeN_none {d car : Int} {ks ord : List Int} {s : HS} {n : Nat} (h : makeN d car ks ord n s = none) : ∀ m, n ≤ m → makeN d car ks ord m s = none := by
  intro m hm
  induction m with
  | zero =>
    obtain rfl : n = 0 := by omega
    exact h
  | succ m ih =>
    by_cases e : n = m + 1
    · rw [← e]; exact h
    · rw [makeN, ih (by omega)]
theorem makeN_ok {d car : Int} {ks : List Int} {s s' : HS} (h : MakeOk ks 0 s) {n : Nat} (hn : n ≤ ks.length) (hs : makeN d car ks (orderP d ks.length) n s = some s') : MakeOk ks n s' := by
  induction n generalizing s' with
  | zero => rw [makeN] at hs; injection hs with hs; subst hs; exact h
  | succ n ih =>
    rw [makeN] at hs
    cases h1 : makeN d car ks (orderP d ks.length) n s with
    | none => rw [h1] at hs; cases hs
    | some s1 =>
      rw [h1] at hs
      dsimp only at hs
      have ho := ih (by omega) h1
      obtain ⟨x, hx⟩ : ∃ x, (orderP d ks.length)[n]? = some x := ⟨_, List.getElem?_eq_getElem (by rw [orderP_length]; omega)⟩
      obtain ⟨i, rfl, hi⟩ := orderP_in hx
      have hgd : (orderP d ks.length).getD n 0 = (i : Int) := by rw [List.getD_eq_getElem?_getD, hx]; rfl
      obtain ⟨c, e1, e2, e3, _, _, e6⟩ := makeStep_ok ho d car (List.getElem?_eq_getElem hi)
      rw [hgd, Int.toNat_natCast, e3] at hs
      split at hs
      · cases hs
      · injection hs with hs
        subst hs
        exact e6 (by omega)
theorem cells_cnt {m : Nat} {cs : List (List Int)} {S : Int} (h : GoodC m cs S) (hm : m ≤ 16) : cntII cs ≤ 64 := by
  have := cntII_le (xss := cs) (m := 4) (fun r hr => (h.nn r hr).2)
  rw [h.len] at this
  omega
theorem hand_some {d car : Int} {ks st : List Int} {s : HS} (h : handS d car ks st = some s) : handEvs d car ks st = s.evs ∧ handAfter d car ks st = s.cells.flatten := by
  unfold handEvs handAfter
  rw [h]
  exact ⟨rfl, rfl⟩
theorem hand_none {d car : Int} {ks st : List Int} (h : handS d car ks st = none) : handEvs d car ks st = [] ∧ handAfter d car ks st = [] := by
  unfold handEvs handAfter
  rw [h]
  exact ⟨rfl, rfl⟩
end Go.Proofs.YthjamohaeahipaaGreat

/- Knitting by hand, plain: one crossing more. -/
namespace Go.Proofs.YthjamohaeahipaaGreat
open Go Go.RowKit

/-- What a stitch's crossing makes of its columns, and its events. -/
def ownX (k : Int) (c : List Int) : List Int := if signI k = 0 then c else c.drop (c.length / 2) ++ c.take (c.length / 2)
def evX (p k : Int) (c : List Int) : List EventD := if signI k = 0 then [] else crossEvs p (signI k) (sumI (c.take (c.length / 2))).toNat (sumI (c.drop (c.length / 2))).toNat
theorem ownX_sum (k : Int) (c : List Int) : sumI (ownX k c) = sumI c := by
  unfold ownX
  split
  · rfl
  · have := sumI_split c (c.length / 2)
    rw [sumI_append]
    omega
theorem ownX_nn {k : Int} {c : List Int} (h : NN c) : NN (ownX k c) := by
  unfold ownX
  split
  · exact h
  · intro x hx
    rcases List.mem_append.1 hx with hx | hx
    · exact h.drop _ x hx
    · exact h.take _ x hx
theorem ownX_length (k : Int) (c : List Int) : (ownX k c).length = c.length := by
  unfold ownX
  split
  · rfl
  · rw [List.length_append, List.length_drop, List.length_take]; omega
theorem crossN_step {ks st : List Int} (hs : NN st) (hk : ∀ k ∈ ks, isStitchB k = true) (ht : takenS ks = st.length) (hS : sumI st ≤ 12) {i : Nat} {k : Int} (hi : ks[i]? = some k) {t : Nat} (htt : takenS (ks.take i) = t) :
    (crossN ks (i + 1) ⟨[], cutC ks st⟩).evs = (crossN ks i ⟨[], cutC ks st⟩).evs ++ evX (tot ((crossN ks i ⟨[], cutC ks st⟩).cells.take i)) k ((st.drop t).take (takenN k)) ∧
    (crossN ks (i + 1) ⟨[], cutC ks st⟩).cells.take (i + 1) = (crossN ks i ⟨[], cutC ks st⟩).cells.take i ++ [ownX k ((st.drop t).take (takenN k))] ∧ NN ((st.drop t).take (takenN k)) ∧ sumI ((st.drop t).take (takenN k)) ≤ 12 := by
  have hil : i < ks.length := (List.getElem?_eq_some_iff.1 hi).1
  have ho := crossN_ok hs hk ht hS i (by omega)
  have hx := ho.rest i (Nat.le_refl _)
  rw [cutC_at hi, htt] at hx
  obtain ⟨h1, h2, h3, h4⟩ := ho.good.at_ hx
  have h5 := (ho.good.take i).1
  have hgd : ks.getD i 0 = k := by rw [List.getD_eq_getElem?_getD, hi]; rfl
  have e : crossN ks (i + 1) ⟨[], cutC ks st⟩ = crossTo k i ((st.drop t).take (takenN k)) (crossN ks i ⟨[], cutC ks st⟩) := by
    rw [crossN, hgd]
    unfold crossStep
    rw [hx]
  rw [e]
  generalize crossN ks i ⟨[], cutC ks st⟩ = C at *
  have hic : i < C.cells.length := (List.getElem?_eq_some_iff.1 hx).1
  refine ⟨?_, ?_, h1, by omega⟩
  · unfold crossTo evX
    split <;> simp
  · unfold crossTo ownX
    split
    · rw [take_snoc hx]
    · rw [take_snoc (xs := C.cells.set i _) (List.getElem?_set_self hic), List.take_set_of_le (Nat.le_refl _)]
end Go.Proofs.YthjamohaeahipaaGreat
