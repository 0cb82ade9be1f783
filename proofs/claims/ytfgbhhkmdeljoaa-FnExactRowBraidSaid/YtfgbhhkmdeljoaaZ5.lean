/- Steps of the proof, joined from several texts: PKs RP. -/
import Derived.Test.YtfgbhhkmdeljoaaZ4
import Derived.Deep.RegionLaw
import Derived.Test.YtfgbhhkmdeljoaaZ3
import Derived.Laws.CopyOwn

/- l18Pack. -/
namespace Go.Proofs.Ytfgbhhkmdeljoaa
open Go.RowKit

theorem wpList_append1q {P : Program} (w : World) (q : Nat) (hq : w.heap.size = q) (u : List Value) (te : TypeId) {ops : Array Oper} {rest : List Oper} {o : Oper} {a : Act} {Q : Exit → Act → World → Prop} (hgd : o.guard = none) (s x : Operand) (t : TypeId)
    (hop : o.op = .call { callee := .builtin .append, args := #[s, x], argTypes := #[t, t] })
    (e : TypeId) (i : TypeInfo) (z : Value) (size bytes : Nat) (ht : P.underlying t = some (.slice e)) (hi : P.info? e = some i) (hz : i.zero = some z)
    (hsize : i.size = size) (hby : i.bytes = bytes) (hzs : z.cells.size = size) (hsz : 0 < size)
    {lo hi' n c : Nat} {A : Option Addr} {cs : List Value} (hs : a.eval s = .slice A n c) (hown : OwnC w lo hi' e size A n c cs) (hlo : lo ≤ w.heap.size)
    (c2 : Nat) (hx : a.eval x = .slice (some ⟨q, 0, none⟩) 1 c2) (hl : u.length = size) (h1 : ∀ v ∈ u, v.oneCell' = true)
    (hn : n ≤ 1000000000000) (hb : bytes ≤ 100)
    (h : ∀ A' c' w', OwnC w' lo w'.heap.size e size A' (n + 1) c' (cs ++ u) → (w.alloc (.cells u.toArray te)).grownBy w' (Value.slice A n c).ownBlock → Below lo w w' → w.heap.size < w'.heap.size → wpList P ops Q rest (a.put o.dst (.slice A' (n + 1) c')) w') : wpList P ops Q (o :: rest) a (w.alloc (.cells u.toArray te)) := by
  subst hq
  exact wpList_append1 w u te hgd s x t hop e i z size bytes ht hi hz hsize hby hzs hsz hs hown hlo c2 hx hl h1 hn hb h

/-- append of one element inside a region that draws. -/
theorem step_append1 {P : Program} {ops : Array Oper} {w : World} {o : Oper} {a : Act} {K : Act → World → Prop} {Q : Exit → Act → World → Prop} {E : Prop} (u : List Value) (te : TypeId) (hgd : o.guard = none) (s x : Operand) (t : TypeId)
    (hop : o.op = .call { callee := .builtin .append, args := #[s, x], argTypes := #[t, t] })
    (e : TypeId) (i : TypeInfo) (z : Value) (size bytes : Nat) (ht : P.underlying t = some (.slice e)) (hi : P.info? e = some i) (hz : i.zero = some z)
    (hsize : i.size = size) (hby : i.bytes = bytes) (hzs : z.cells.size = size) (hsz : 0 < size)
    {lo hi' n c : Nat} {A : Option Addr} {cs : List Value} (hs : a.eval s = .slice A n c) (hown : OwnC w lo hi' e size A n c cs) (hlo : lo ≤ w.heap.size)
    (c2 : Nat) (hx : a.eval x = .slice (some ⟨w.heap.size, 0, none⟩) 1 c2) (hl : u.length = size) (h1 : ∀ v ∈ u, v.oneCell' = true)
    (hn : n ≤ 1000000000000) (hb : bytes ≤ 100)
    (h : ∀ A' c' w', OwnC w' lo w'.heap.size e size A' (n + 1) c' (cs ++ u) → (w.alloc (.cells u.toArray te)).grownBy w' (Value.slice A n c).ownBlock → Below lo w w' → w.heap.size < w'.heap.size → K (a.put o.dst (.slice A' (n + 1) c')) w') :
    if Region.wanted o (yielded ops a.tmps) = true then Oper.wp P o a (w.alloc (.cells u.toArray te)) K Q else E := by
  have hw : Region.wanted o (yielded ops a.tmps) = true := by simp [Region.wanted, hgd]
  rw [if_pos hw]
  refine wp_appendC _ s x t hop e i z size bytes ht hi hz hsize hby hzs hsz hs (hown.alloc _) (by simp; omega) (some ⟨w.heap.size, 0, none⟩) 1 c2 u hx (by omega) ?_ h1 (by unfold maxLen; omega) ?_ fun A' c' w' h2 h3 h4 => ?_
  · intro j v hv
    refine ⟨w.heap.size, 0, rfl, ?_⟩
    have := World.cell?_alloc_new w u.toArray te (0 + j)
    rw [this]
    simpa using hv
  · have : (n + 1) * bytes ≤ (n + 1) * 100 := Nat.mul_le_mul_left _ hb
    omega
  · have hz := h3.size
    simp only [World.size_alloc] at hz
    exact h A' c' w' h2 h3 (Below.trans ((Below.refl _ _).alloc hlo _) h4) (by omega)
theorem step_append1d {P : Program} {ops : Array Oper} {w : World} {o : Oper} {a : Act} {K : Act → World → Prop} {Q : Exit → Act → World → Prop} {E : Prop} (u : List Value) (te : TypeId) (hgd : o.guard = none) (s x : Operand) (t : TypeId)
    (hop : o.op = .call { callee := .builtin .append, args := #[s, x], argTypes := #[t, t] })
    (e : TypeId) (i : TypeInfo) (z : Value) (size bytes : Nat) (ht : P.underlying t = some (.slice e)) (hi : P.info? e = some i) (hz : i.zero = some z)
    (hsize : i.size = size) (hby : i.bytes = bytes) (hzs : z.cells.size = size) (hsz : 0 < size)
    {lo hi' n c : Nat} {A : Option Addr} {cs : List Value} (hs : a.eval s = .slice A n c) (hown : OwnC w lo hi' e size A n c cs) (hlo : lo ≤ w.heap.size)
    (c2 : Nat) (hx : a.eval x = .slice (some ⟨w.heap.size, 0, none⟩) 1 c2) (hl : u.length = size) (h1 : ∀ v ∈ u, v.oneCell' = true)
    (hn : n ≤ 1000000000000) (hb : bytes ≤ 100)
    (h : ∀ A' c' w', OwnC w' lo w'.heap.size e size A' (n + 1) c' (cs ++ u) → (World.drew (w.alloc (.cells u.toArray te))).grownBy w' (Value.slice A n c).ownBlock → Below lo w w' → w.heap.size < w'.heap.size → K (a.put o.dst (.slice A' (n + 1) c')) w') :
    if Region.wanted o (yielded ops a.tmps) = true then Oper.wp P o a (World.drew (w.alloc (.cells u.toArray te))) K Q else E := by
  have hw : Region.wanted o (yielded ops a.tmps) = true := by simp [Region.wanted, hgd]
  rw [if_pos hw]
  refine wp_appendC _ s x t hop e i z size bytes ht hi hz hsize hby hzs hsz hs (OwnC.keep (hown.alloc (.cells u.toArray te)) (w' := World.drew (w.alloc (.cells u.toArray te))) fun _ _ _ _ => rfl) (show lo ≤ (w.alloc (.cells u.toArray te)).heap.size by simp; omega) (some ⟨w.heap.size, 0, none⟩) 1 c2 u hx (by omega) ?_ h1 (by unfold maxLen; omega) ?_ fun A' c' w' h2 h3 h4 => ?_
  · intro j v hv
    refine ⟨w.heap.size, 0, rfl, ?_⟩
    have := World.cell?_alloc_new w u.toArray te (0 + j)
    show (w.alloc (.cells u.toArray te)).cell? _ = _
    rw [this]
    simpa using hv
  · have : (n + 1) * bytes ≤ (n + 1) * 100 := Nat.mul_le_mul_left _ hb
    omega
  · have hz : (w.alloc (.cells u.toArray te)).heap.size ≤ w'.heap.size := h3.size
    simp only [World.size_alloc] at hz
    exact h A' c' w' h2 h3 (Below.trans (show Below lo w (World.drew (w.alloc (.cells u.toArray te))) from (((Below.refl _ _).alloc hlo _).trans (b := w.alloc (.cells u.toArray te)) ⟨rfl, rfl, rfl, Nat.le_refl _, fun _ _ => rfl⟩)) h4) (by omega)
theorem OwnL.drewN {w : World} {lo hi : Nat} {A : Option Addr} {c : Nat} {xss : List (List Int)} {l : List Int} {A' : Option Addr} {c' m : Nat} {cs : List Value} (h : OwnL w lo hi A c xss l A' c' m cs) (n : Nat) : OwnL (w.drewN n) lo hi A c xss l A' c' m cs := h.keep fun _ _ _ _ => rfl

theorem OwnL.mono' {w : World} {lo hi hi' : Nat} {A : Option Addr} {c : Nat} {xss : List (List Int)} {l : List Int} {A' : Option Addr} {c' m : Nat} {cs : List Value} (h : OwnL w lo hi A c xss l A' c' m cs) (h2 : hi ≤ hi') : OwnL w lo hi' A c xss l A' c' m cs :=
  ⟨h.out.mono (Nat.le_refl _) h2, h.cells, h.last.mono (Nat.le_refl _) h2, h.lom, Nat.le_trans h.mhi h2⟩
theorem OwnL.ne {w : World} {lo hi g : Nat} {c : Nat} {xss : List (List Int)} {l : List Int} {A' : Option Addr} {c' m : Nat} {cs : List Value} (h : OwnL w lo hi (some ⟨g, 0, none⟩) c xss l A' c' m cs) (k : Nat) (cur : Array Value) (h4 : w.heap[k]? = some (.cells cur 2 (0, 0))) : k ≠ g := by
  intro e
  subst e
  rcases h.out.form with ⟨h5, _⟩ | ⟨q2, cur', h5, _, _, h6, _⟩
  · simp at h5
  · injection h5 with h5
    injection h5 with h5
    subst h5
    rw [h4] at h6
    injection h6 with h6
    injection h6 with _ h6
    simp at h6
theorem OwnL.alloc {w : World} {lo hi : Nat} {A : Option Addr} {c : Nat} {xss : List (List Int)} {l : List Int} {A' : Option Addr} {c' m : Nat} {cs : List Value} (h : OwnL w lo hi A c xss l A' c' m cs) (o : Obj) : OwnL (w.alloc o) lo hi A c xss l A' c' m cs := h.keep fun k _ _ h4 => Below.heap_alloc w o k h4

set_option maxHeartbeats 4000000 in
set_option maxRecDepth 10000 in
theorem spec_l18Pack (A : Option Addr) (c : Nat) (xs : List Int) (w : World) (h : Ints w A xs) (hl : xs.length ≤ 1000) (hs : smallB xs) :
    Calls Try.prog 132 #[.slice A xs.length c] w fun e w' => ∃ A' c', e = .returned (.slice A' (pack xs).length c') ∧ OwnII w' w.heap.size w'.heap.size A' (pack xs).length c' (pack xs) ∧ Below w.heap.size w w' := by
  obtain ⟨i0, hi0, hz0, hz1, hz2⟩ := info_parts info_ints
  obtain ⟨i1, hi1, hy0, hy1, hy2⟩ := info_parts info_int64
  go_enter Try.func132, Try.ntmps132
  go_wp2_with (fail)
  go_loopw [3, 4] (fun ov iv wr => ∃ (k : Nat), k ≤ xs.length ∧ iv = .int .i64 k ∧ Below w.heap.size w wr ∧
      ((packS (xs.take k) = none ∧ ∃ A' c', ov = .slice A' 0 c' ∧ OwnC wr w.heap.size wr.heap.size 33 1 A' 0 c' []) ∨
       (∃ xss l A' c' A2 c2 m cs, packS (xs.take k) = some (xss, l) ∧ ov = .slice A' (xss.length + 1) c' ∧ OwnL wr w.heap.size wr.heap.size A' c' xss l A2 c2 m cs))) (fun _ iv _ => xs.length - (intOf iv).toNat)
  case atStart =>
    exact ⟨0, Nat.zero_le _, rfl, by (repeat (first | exact Below.refl _ _ | assumption | apply Below.drew | apply below_drewN | (refine Below.alloc ?_ (by first | omega | (simp; done) | (simp; omega)) _) | (refine Below.setCell ?_ (by first | omega | (simp; done) | (simp; omega)) _))), .inl ⟨rfl, some ⟨w.heap.size, 0, none⟩, 0, rfl, (OwnC.lit _ 1 #[] (Nat.le_refl _) (Nat.zero_le _) rfl).mono (Nat.le_refl _) (by simp)⟩⟩
  case round =>
    obtain ⟨k, hk, rfl, hb, hrel⟩ := hrel
    have hzs := hb.size
    by_cases hlt : k < xs.length
    · obtain ⟨b, off, x, rfl, hc, hx⟩ := h k hlt
      replace hc := cells_below hb _ _ hc
      have hxs := smallB_at hs hx
      have HT : Hid (xs.take (k + 1) = xs.take k ++ [x]) := Lib.hid (take_snoc hx)
      clear hx
      have j1 : (0 : Int) ≤ (k : Int) := by omega
      have j2 : (k : Int) < (xs.length : Int) := by omega
      rcases hrel with ⟨hp, A', c', rfl, ho⟩ | ⟨xss, l, A', c', A2, c2, m, cs, hp, rfl, ho⟩
      · have HP : Hid (packS (xs.take (k + 1)) = some ([], [x])) := Lib.hid (by rw [HT.out, packS_none hp])
        clear hp
        go_wp2_with (fail)
        go_quiet (fail)
        go_wp2_with (at_builtin; refine wpList_append1q ((wr.drewN nq).alloc (.cells #[.int .i64 x] 2)) (wr.heap.size + 1) (by simp) [.slice (some ⟨wr.heap.size, 0, none⟩) 1 1] _ rfl (.tmp 29) (.tmp 35) _ rfl 33 i0 _ 1 24 Try.underlying39 hi0 hz0 hz1 hz2 rfl (by decide) rfl ((ho.drewN _).alloc _) (by simp; omega) 1 rfl rfl (by simp [Value.oneCell']) (by omega) (by decide) ?_; intro A3 c3 w3 ho3 hg3 hb3 hz3)
        have hin : OwnI w3 wr.heap.size w3.heap.size (some ⟨wr.heap.size, 0, none⟩) 1 [x] := by
          have o1 := OwnC.lit (w := wr.drewN nq) (lo := wr.heap.size) (n := 1) 2 1 #[.int .i64 x] (Nat.le_refl _) (by unfold maxLen; omega) rfl
          have o2 := (o1.alloc (.cells #[.slice (some ⟨wr.heap.size, 0, none⟩) 1 1] 33)).keep1 (w' := w3) fun q hq => by
            injection hq with hq
            injection hq with hq
            subst hq
            refine hg3.block _ (by simp only [World.size_alloc]; omega) fun e => ?_
            have h5 := (ho.own.lt _ e.symm).2
            have h6 : (wr.drewN nq).heap.size = wr.heap.size := rfl
            omega
          have h7 : (wr.drewN nq).heap.size = wr.heap.size := rfl
          simp at hz3
          exact o2.mono (Nat.le_refl _) (by omega)
        go_roundw
        case rel =>
          refine ⟨k + 1, by omega, by go_num, Below.trans (by (repeat (first | exact Below.refl _ _ | assumption | apply Below.drew | apply below_drewN | (refine Below.alloc ?_ (by first | omega | (simp; done) | (simp; omega)) _) | (refine Below.setCell ?_ (by first | omega | (simp; done) | (simp; omega)) _)))) hb3, .inr ⟨[], [x], A3, c3, some ⟨wr.heap.size, 0, none⟩, 1, wr.heap.size, [], HP.out, rfl, OwnL.one wr.heap.size ho3 hin hzs (by simp at hz3; omega)⟩⟩
        case measure => simp [intOf]; omega
      · obtain ⟨hl1, hl2⟩ := packS_len hp
        have hls : smallB l := packS_mem (P := fun y => -1000 ≤ y ∧ y ≤ 1000) hp fun y hy => hs y (List.mem_of_mem_take hy)
        have htk : (xs.take k).length ≤ 1000 := by rw [List.length_take]; omega
        obtain ⟨g, rfl, hg1, hg2, q0, f0⟩ := ho.cell
        have HG2 := Lib.hid hg2; clear hg2
        have j3 : (0 : Int) ≤ (xss.length : Int) := by omega
        have j4 : IntKind.i64.wrap ((xss.length : Int) + 1 - 1) = (xss.length : Int) := by rw [IntWalk.i64_in _ (by omega)]; omega
        have j7 : IntKind.i64.wrap (xss.length : Int) = (xss.length : Int) := IntWalk.i64_in _ (by omega)
        have j5 : (xss.length : Int) < (xss.length : Int) + 1 := by omega
        have j6 : ((xss.length : Int) + 1 == 0) = false := by simp; omega
        cases ht : touchAny l x
        · have hc2 : ∀ W, Ints W A2 l → Calls Try.prog 153 #[.slice A2 l.length c2, .int .i64 x] W fun e w' => e = .returned (.bool false) ∧ W = w' := fun W hW => by have := spec_l18Touch A2 c2 l x W hW (by omega) hls hxs; rwa [ht] at this
          have HC := Lib.hid hc2; clear hc2
          have HP : Hid (packS (xs.take (k + 1)) = some (xss, l ++ [x])) := Lib.hid (by rw [HT.out, packS_some hp]; simp [packStep, ht])
          clear hp ht
          have HI := Lib.hid ho.last.ints
          have HO := Lib.hid ho; clear ho
          go_wp2_with (fail)
          go_quiet ((go_at_call 153; exact quietS (HC.out _ (HI.out.drewN _))))
          go_wp2_with (fail)
          have q3 : ((wr.drewN (nq + 1)).alloc (.cells #[.int .i64 x] 2)).cell? ⟨g, xss.length, none⟩ = some (.slice A2 l.length c2) := cell_alloc (w := wr.drewN (nq + 1)) q0 _
          go_region_law (refine step_append1 [.int .i64 x] _ rfl (.tmp 44) (.tmp 49) _ rfl 2 i1 _ 1 8 Try.underlying33 hi1 hy0 hy1 hy2 rfl (by decide) (by simp [Act.eval]) (OwnC.keep HO.out.last fun _ _ _ _ => rfl) (show m ≤ wr.heap.size from HO.out.mhi) 1 (by simp [Act.eval]) rfl (by simp [Value.oneCell']) (by omega) (by decide) ?_; intro A4 c4 w4 ho4 hg4 hb4 hz4; have ho5 : OwnI w4 m w4.heap.size A4 c4 (l ++ [x]) := (by show OwnC _ _ _ _ _ _ _ _ _; rw [List.map_append, List.length_append]; exact ho4); obtain ⟨hput, s0, s1⟩ := OwnL.put (l2 := l ++ [x]) (A2 := A4) (c2 := c4) ((HO.out.keep (w' := World.drew (wr.drewN nq)) fun _ _ _ _ => rfl).alloc _) (show wr.heap.size ≤ _ by simp only [World.size_alloc]; exact Nat.le_succ _) hg4 ho5)
          all_goals go_wp2_with (fail)
          all_goals
            have hbw : Below w.heap.size w w4 := (below_drewN hb (nq + 1)).trans (hb4.mono HO.out.lom)
            refine ⟨⟨k + 1, by omega, by go_num, by (repeat (first | exact Below.refl _ _ | assumption | apply Below.drew | apply below_drewN | (refine Below.alloc ?_ (by first | omega | (simp; done) | (simp; omega)) _) | (refine Below.setCell ?_ (by first | omega | (simp; done) | (simp; omega)) _))), .inr ⟨xss, l ++ [x], some ⟨g, 0, none⟩, c', A4, c4, m, cs, HP.out, rfl, by simpa using hput⟩⟩, by simp [intOf]; omega⟩
        · have hc2 : ∀ W, Ints W A2 l → Calls Try.prog 153 #[.slice A2 l.length c2, .int .i64 x] W fun e w' => e = .returned (.bool true) ∧ W = w' := fun W hW => by have := spec_l18Touch A2 c2 l x W hW (by omega) hls hxs; rwa [ht] at this
          have HC := Lib.hid hc2; clear hc2
          have HP : Hid (packS (xs.take (k + 1)) = some (xss ++ [l], [x])) := Lib.hid (by rw [HT.out, packS_some hp]; simp [packStep, ht])
          clear hp ht
          have HI := Lib.hid ho.last.ints
          have HO := Lib.hid ho; clear ho
          go_wp2_with (fail)
          go_quiet ((go_at_call 153; exact quietS (HC.out _ (HI.out.drewN _))))
          go_wp2_with (at_builtin; refine wpList_append1q ((wr.drewN nq).alloc (.cells #[.int .i64 x] 2)) (wr.heap.size + 1) (by simp) [.slice (some ⟨wr.heap.size, 0, none⟩) 1 1] _ rfl (.tmp 29) (.tmp 35) _ rfl 33 i0 _ 1 24 Try.underlying39 hi0 hz0 hz1 hz2 rfl (by decide) rfl ((HO.out.out.drewN _).alloc _) (by simp; omega) 1 rfl rfl (by simp [Value.oneCell']) (by omega) (by decide) ?_; intro A3 c3 w3 ho3 hg3 hb3 hz3)
          have h7 : (wr.drewN nq).heap.size = wr.heap.size := rfl
          have hin : OwnI w3 wr.heap.size w3.heap.size (some ⟨wr.heap.size, 0, none⟩) 1 [x] := by
            have o1 := OwnC.lit (w := wr.drewN nq) (lo := wr.heap.size) (n := 1) 2 1 #[.int .i64 x] (Nat.le_refl _) (by unfold maxLen; omega) rfl
            have o2 := (o1.alloc (.cells #[.slice (some ⟨wr.heap.size, 0, none⟩) 1 1] 33)).keep1 (w' := w3) fun q hq => by
              injection hq with hq
              injection hq with hq
              subst hq
              refine hg3.block _ (by simp only [World.size_alloc]; omega) fun e => ?_
              have h5 := HG2.out
              injection e with e
              have h8 : (wr.drewN nq).heap.size = g := e
              omega
            simp at hz3
            exact o2.mono (Nat.le_refl _) (by omega)
          go_roundw
          case rel =>
            refine ⟨k + 1, by omega, by go_num, Below.trans (by (repeat (first | exact Below.refl _ _ | assumption | apply Below.drew | apply below_drewN | (refine Below.alloc ?_ (by first | omega | (simp; done) | (simp; omega)) _) | (refine Below.setCell ?_ (by first | omega | (simp; done) | (simp; omega)) _)))) hb3, .inr ⟨xss ++ [l], [x], A3, c3, some ⟨wr.heap.size, 0, none⟩, 1, wr.heap.size, cs ++ [.slice A2 l.length c2], HP.out, by simp, OwnL.next HO.out (fun q cur h1 h2 h3 => ?_) (by simp at hz3; omega) ho3 hin⟩⟩
            have hq : q < wr.heap.size := (Array.getElem?_eq_some_iff.1 h3).1
            rw [hg3.block q (by simp only [World.size_alloc]; omega) (fun e => by injection e with e; exact HO.out.ne q cur h3 e), Below.heap_alloc _ _ _ (by simp only [World.size_alloc]; omega), Below.heap_alloc _ _ _ (by omega)]
            rfl
          case measure => simp [intOf]; omega
    · go_wp2_with (fail)
      go_ret
      rw [take_all (by omega)] at hrel
      rcases hrel with ⟨hp, A', c', rfl, ho⟩ | ⟨xss, l, A', c', A2, c2, m, cs, hp, rfl, ho⟩
      · rw [pack_of_none hp]
        exact ⟨_, _, rfl, ⟨[], ho, ⟨rfl, fun k xs hx => by simp at hx, fun i j v v' g hi' => by simp at hi'⟩⟩, hb⟩
      · rw [pack_of_some hp]
        exact ⟨_, _, by rw [List.length_append]; rfl, ho.toII, hb⟩

end Go.Proofs.Ytfgbhhkmdeljoaa

/- slices.Repeat of [1]; how many columns a stitch takes and makes. -/
namespace Go.Proofs.Ytfgbhhkmdeljoaa
open Go.RowKit

theorem addr_add (g i : Nat) : (⟨g, 0, none⟩ : Addr).add i = ⟨g, i, none⟩ := by
  unfold Addr.add
  split <;> simp_all
theorem src_of_heap {w : World} {g : Nat} {t : TypeId} {L cs : List Value} (h : w.heap[g]? = some (.cells L.toArray t (0, 0))) (hp : cs = L.take cs.length) : ∀ j v, cs[j]? = some v → w.cell? ((⟨g, 0, none⟩ : Addr).add j) = some v := by
  intro j v hv
  rw [addr_add, cell_of_row w g j L.toArray t (0, 0) h]
  have hj := (List.getElem?_eq_some_iff.1 hv).1
  rw [hp, List.getElem?_take, if_pos hj] at hv
  simpa using hv
def ones (m z : Nat) : List Value := (List.replicate m (1 : Int) ++ List.replicate z 0).map (Value.int .i64)

theorem bits_Mul1 (b : Int) (w : World) (hb : b = 1 ∨ b = 2 ∨ b = 4) : Calls Try.prog 137 #[.int .u64 1, .int .u64 b] w fun e w' => e = .returned (.tuple #[.int .u64 0, .int .u64 b]) ∧ w = w' := by
  rcases hb with rfl | rfl | rfl
  · go_enter Try.func137, Try.ntmps137
    go_wp2_with (go_in)
    go_ret2
    exact ⟨rfl, rfl⟩
  · go_enter Try.func137, Try.ntmps137
    go_wp2_with (go_in)
    go_ret2
    exact ⟨rfl, rfl⟩
  · go_enter Try.func137, Try.ntmps137
    go_wp2_with (go_in)
    go_ret2
    exact ⟨rfl, rfl⟩

theorem impl_ColumnsTaken (k : Int) (w : World) : Calls Try.prog 113 #[.int .i64 k] w fun e w' => e = .returned (.int .i64 (takenB k)) ∧ w = w' := by
  by_cases hk : isStitchB k = true
  · rcases stitch_cases hk with rfl | rfl | rfl | rfl | rfl | rfl | rfl | rfl | rfl | rfl | rfl
    all_goals
      go_enter Try.func113, Try.ntmps113
      go_wp2_with (fail)
      refine (impl_isStitch _ _).mono ?_; rintro e _ ⟨rfl, rfl⟩
      go_wp2_with (fail)
      go_ret
      exact ⟨rfl, rfl⟩
  · have hk' : isStitchB k = false := by simpa using hk
    have HF : Hid (takenB k = -1) := Lib.hid (by rw [takenB, if_neg hk])
    clear hk
    go_enter Try.func113, Try.ntmps113
    go_wp2_with (fail)
    refine (impl_isStitch _ _).mono ?_; rintro e _ ⟨rfl, rfl⟩
    go_wp2_with (fail)
    go_ret
    exact ⟨ret_int HF.out.symm, rfl⟩

theorem impl_ColumnsMade (k : Int) (w : World) : Calls Try.prog 150 #[.int .i64 k] w fun e w' => e = .returned (.int .i64 (madeB k)) ∧ w = w' := by
  by_cases hk : isStitchB k = true
  · rcases stitch_cases hk with rfl | rfl | rfl | rfl | rfl | rfl | rfl | rfl | rfl | rfl | rfl
    all_goals
      go_enter Try.func150, Try.ntmps150
      go_wp2_with (fail)
      refine (impl_isStitch _ _).mono ?_; rintro e _ ⟨rfl, rfl⟩
      go_wp2_with (fail)
      go_ret
      exact ⟨rfl, rfl⟩
  · have hk' : isStitchB k = false := by simpa using hk
    have HF : Hid (madeB k = -1) := Lib.hid (by rw [madeB, if_neg hk])
    clear hk
    go_enter Try.func150, Try.ntmps150
    go_wp2_with (fail)
    refine (impl_isStitch _ _).mono ?_; rintro e _ ⟨rfl, rfl⟩
    go_wp2_with (fail)
    go_ret
    exact ⟨ret_int HF.out.symm, rfl⟩

set_option maxHeartbeats 4000000 in
theorem spec_ColumnsTaken (k : Int) (w : World) : Calls Try.prog 112 #[.int .i64 k] w fun e w' => e = .returned (.int .i64 (takenB k)) ∧ Below w.heap.size w w' := by
  by_cases hk : isStitchB k = true
  · rcases stitch_cases hk with rfl | rfl | rfl | rfl | rfl | rfl | rfl | rfl | rfl | rfl | rfl
    all_goals
      go_enter Try.func112, Try.ntmps112
      go_wp2_with (fail)
      refine (spec_l14Kind _ _).mono ?_; rintro e _ ⟨rfl, rfl⟩
      go_wp2_with (fail)
      go_ret
      exact ⟨rfl, by (repeat (first | exact Below.refl _ _ | assumption | apply Below.drew | apply below_drewN | (refine Below.alloc ?_ (by first | omega | (simp; done) | (simp; omega)) _) | (refine Below.setCell ?_ (by first | omega | (simp; done) | (simp; omega)) _)))⟩
  · have hk' : isStitchB k = false := by simpa using hk
    have HF : Hid (takenB k = -1) := Lib.hid (by rw [takenB, if_neg hk])
    clear hk
    go_enter Try.func112, Try.ntmps112
    go_wp2_with (fail)
    refine (spec_l14Kind _ _).mono ?_; rintro e _ ⟨rfl, rfl⟩
    go_wp2_with (fail)
    go_ret
    exact ⟨ret_int HF.out.symm, Below.refl _ _⟩

set_option maxHeartbeats 4000000 in
theorem spec_ColumnsMade (k : Int) (w : World) : Calls Try.prog 142 #[.int .i64 k] w fun e w' => e = .returned (.int .i64 (madeB k)) ∧ Below w.heap.size w w' := by
  by_cases hk : isStitchB k = true
  · rcases stitch_cases hk with rfl | rfl | rfl | rfl | rfl | rfl | rfl | rfl | rfl | rfl | rfl
    all_goals
      go_enter Try.func142, Try.ntmps142
      go_wp2_with (fail)
      refine (spec_l14Kind _ _).mono ?_; rintro e _ ⟨rfl, rfl⟩
      go_wp2_with (fail)
      go_ret
      exact ⟨rfl, by (repeat (first | exact Below.refl _ _ | assumption | apply Below.drew | apply below_drewN | (refine Below.alloc ?_ (by first | omega | (simp; done) | (simp; omega)) _) | (refine Below.setCell ?_ (by first | omega | (simp; done) | (simp; omega)) _)))⟩
  · have hk' : isStitchB k = false := by simpa using hk
    have HF : Hid (madeB k = -1) := Lib.hid (by rw [madeB, if_neg hk])
    clear hk
    go_enter Try.func142, Try.ntmps142
    go_wp2_with (fail)
    refine (spec_l14Kind _ _).mono ?_; rintro e _ ⟨rfl, rfl⟩
    go_wp2_with (fail)
    go_ret
    exact ⟨ret_int HF.out.symm, Below.refl _ _⟩

theorem impl_takenBy (A : Option Addr) (c : Nat) (ks : List Int) (w : World) (h : Ints w A ks) (hs : stitchesB ks = true) :
    Calls Try.prog 88 #[.slice A ks.length c] w fun e w' => e = .returned (.int .i64 (takenS ks)) ∧ w = w' := by
  obtain ⟨hl, hst⟩ := stitchesB_of hs
  have hsum := (sums_le hst).1
  have HST := Lib.hid hst; clear hst
  go_enter Try.func88, Try.ntmps88
  go_wp2_with (fail)
  go_loop [3, 8] (fun s i => ∃ k : Nat, k ≤ ks.length ∧ i = .int .i64 k ∧ s = .int .i64 (takenS (ks.take k))) (fun _ i => ks.length - (intOf i).toNat)
  case atStart => exact ⟨0, Nat.zero_le _, rfl, rfl⟩
  case round =>
    obtain ⟨k, hk, rfl, rfl⟩ := hrel
    by_cases hlt : k < ks.length
    · obtain ⟨b, off, x, rfl, hc, hx⟩ := h k hlt
      have hq := HST.out x (List.mem_of_getElem? hx)
      have hle := takenS_at hx
      have HS : Hid (takenS (ks.take (k + 1)) = takenS (ks.take k) + takenN x) := Lib.hid (takenS_snoc hx)
      have HB : Hid (takenB x = takenN x) := Lib.hid (takenB_of hq)
      clear hx hq
      go_wp2_with (fail)
      refine (impl_ColumnsTaken _ _).mono ?_; rintro e _ ⟨rfl, rfl⟩
      rw [HB.out]
      go_wp2_with (fail)
      go_round
      case rel => exact ⟨k + 1, by omega, by go_num, by rw [HS.out]; push_cast; go_num⟩
      case measure => simp [intOf]; omega
    · go_wp2_with (fail)
      go_ret
      exact ⟨ret_int (by rw [take_all (by omega)]), rfl⟩

theorem impl_MadeBy (A : Option Addr) (c : Nat) (ks : List Int) (w : World) (h : Ints w A ks) (hl9 : ks.length ≤ 9223372036854775807) :
    Calls Try.prog 125 #[.slice A ks.length c] w fun e w' => e = .returned (.int .i64 (madeP ks)) ∧ w = w' := by
  by_cases hs : stitchesB ks = true
  · have HF : Hid (madeP ks = madeS ks) := Lib.hid (by rw [madeP, if_pos hs])
    obtain ⟨hl, hst⟩ := stitchesB_of hs
    have hsum := (sums_le hst).2
    have HST := Lib.hid hst; clear hst
    go_enter Try.func125, Try.ntmps125
    go_wp2_with (fail)
    refine (impl_areStitches _ _ _ _ h hl9).mono ?_; rintro e _ ⟨rfl, rfl⟩
    go_wp2_with (fail)
    go_loop [3, 11] (fun s i => ∃ k : Nat, k ≤ ks.length ∧ i = .int .i64 k ∧ s = .int .i64 (madeS (ks.take k))) (fun _ i => ks.length - (intOf i).toNat)
    case atStart => exact ⟨0, Nat.zero_le _, rfl, rfl⟩
    case round =>
      obtain ⟨k, hk, rfl, rfl⟩ := hrel
      by_cases hlt : k < ks.length
      · obtain ⟨b, off, x, rfl, hc, hx⟩ := h k hlt
        have hq := HST.out x (List.mem_of_getElem? hx)
        have HS : Hid (madeS (ks.take (k + 1)) = madeS (ks.take k) + madeN x) := Lib.hid (madeS_snoc hx)
        have hle : madeS (ks.take (k + 1)) ≤ 4 * (k + 1) := by
          have := (sums_le (ks := ks.take (k + 1)) fun y hy => HST.out y (List.mem_of_mem_take hy)).2
          have h2 := List.length_take_le (k + 1) ks
          omega
        rw [HS.out] at hle
        have HB : Hid (madeB x = madeN x) := Lib.hid (madeB_of hq)
        clear hx hq
        go_wp2_with (fail)
        refine (impl_ColumnsMade _ _).mono ?_; rintro e _ ⟨rfl, rfl⟩
        rw [HB.out]
        go_wp2_with (fail)
        go_round
        case rel => exact ⟨k + 1, by omega, by go_num, by rw [HS.out]; push_cast; go_num⟩
        case measure => simp [intOf]; omega
      · go_wp2_with (fail)
        go_ret
        exact ⟨ret_int (by rw [HF.out, take_all (by omega)]), rfl⟩
  · have hs' : stitchesB ks = false := by simpa using hs
    have HF : Hid (madeP ks = -1) := Lib.hid (by rw [madeP, if_neg hs])
    clear hs
    go_enter Try.func125, Try.ntmps125
    go_wp2_with (fail)
    refine (impl_areStitches _ _ _ _ h hl9).mono ?_; rintro e _ ⟨rfl, rfl⟩
    go_wp2_with (fail)
    go_ret
    exact ⟨ret_int HF.out.symm, rfl⟩

theorem spec_TakenBy (A : Option Addr) (c : Nat) (ks : List Int) (w : World) (h : Ints w A ks) (hl9 : ks.length ≤ 9223372036854775807) :
    Calls Try.prog 83 #[.slice A ks.length c] w fun e w' => e = .returned (.int .i64 (takenP ks)) ∧ Below w.heap.size w w' := by
  by_cases hs : stitchesB ks = true
  · have HF : Hid (takenP ks = takenS ks) := Lib.hid (by rw [takenP, if_pos hs])
    obtain ⟨hl, hst⟩ := stitchesB_of hs
    have HST := Lib.hid hst; clear hst
    go_enter Try.func83, Try.ntmps83
    go_wp2_with (fail)
    refine (spec_l14Ok _ _ _ _ h hl9).mono ?_; rintro e _ ⟨rfl, rfl⟩
    go_wp2_with (fail)
    go_loopw [3, 4] (fun s i wr => ∃ k : Nat, k ≤ ks.length ∧ i = .int .i64 k ∧ s = .int .i64 (takenS (ks.take k)) ∧ Below w.heap.size w wr) (fun _ i _ => ks.length - (intOf i).toNat)
    case atStart => exact ⟨0, Nat.zero_le _, rfl, rfl, Below.refl _ _⟩
    case round =>
      obtain ⟨k, hk, rfl, rfl, hb⟩ := hrel
      have hzs := hb.size
      by_cases hlt : k < ks.length
      · obtain ⟨b, off, x, rfl, hc, hx⟩ := h k hlt
        replace hc := cells_below hb _ _ hc
        have hq := HST.out x (List.mem_of_getElem? hx)
        have HS : Hid (takenS (ks.take (k + 1)) = takenS (ks.take k) + takenN x) := Lib.hid (takenS_snoc hx)
        have hle : takenS (ks.take (k + 1)) ≤ 4 * (k + 1) ∧ madeS (ks.take (k + 1)) ≤ 4 * (k + 1) := by
          have := (sums_le (ks := ks.take (k + 1)) fun y hy => HST.out y (List.mem_of_mem_take hy))
          have h2 := List.length_take_le (k + 1) ks
          omega
        have hle2 : takenS (ks.take (k + 1)) ≤ 4 * (k + 1) := by first | exact hle.1 | exact hle.2
        clear hle
        rw [HS.out] at hle2
        have HB : Hid (takenB x = takenN x) := Lib.hid (takenB_of hq)
        clear hx hq
        go_wp2_with (fail)
        refine (spec_ColumnsTaken _ _).mono ?_; rintro e w2 ⟨rfl, b2⟩
        have hb2 : Below w.heap.size w w2 := hb.trans (b2.mono hzs)
        rw [HB.out]
        go_wp2_with (fail)
        go_roundw
        case rel => exact ⟨k + 1, by omega, by go_num, by rw [HS.out]; push_cast; go_num, hb2⟩
        case measure => simp [intOf]; omega
      · go_wp2_with (fail)
        go_ret
        exact ⟨ret_int (by rw [HF.out, take_all (by omega)]), hb⟩
  · have hs' : stitchesB ks = false := by simpa using hs
    have HF : Hid (takenP ks = -1) := Lib.hid (by rw [takenP, if_neg hs])
    clear hs
    go_enter Try.func83, Try.ntmps83
    go_wp2_with (fail)
    refine (spec_l14Ok _ _ _ _ h hl9).mono ?_; rintro e _ ⟨rfl, rfl⟩
    go_wp2_with (fail)
    go_ret
    exact ⟨ret_int HF.out.symm, Below.refl _ _⟩
theorem spec_MadeBy (A : Option Addr) (c : Nat) (ks : List Int) (w : World) (h : Ints w A ks) (hl9 : ks.length ≤ 9223372036854775807) :
    Calls Try.prog 117 #[.slice A ks.length c] w fun e w' => e = .returned (.int .i64 (madeP ks)) ∧ Below w.heap.size w w' := by
  by_cases hs : stitchesB ks = true
  · have HF : Hid (madeP ks = madeS ks) := Lib.hid (by rw [madeP, if_pos hs])
    obtain ⟨hl, hst⟩ := stitchesB_of hs
    have HST := Lib.hid hst; clear hst
    go_enter Try.func117, Try.ntmps117
    go_wp2_with (fail)
    refine (spec_l14Ok _ _ _ _ h hl9).mono ?_; rintro e _ ⟨rfl, rfl⟩
    go_wp2_with (fail)
    go_loopw [3, 4] (fun s i wr => ∃ k : Nat, k ≤ ks.length ∧ i = .int .i64 k ∧ s = .int .i64 (madeS (ks.take k)) ∧ Below w.heap.size w wr) (fun _ i _ => ks.length - (intOf i).toNat)
    case atStart => exact ⟨0, Nat.zero_le _, rfl, rfl, Below.refl _ _⟩
    case round =>
      obtain ⟨k, hk, rfl, rfl, hb⟩ := hrel
      have hzs := hb.size
      by_cases hlt : k < ks.length
      · obtain ⟨b, off, x, rfl, hc, hx⟩ := h k hlt
        replace hc := cells_below hb _ _ hc
        have hq := HST.out x (List.mem_of_getElem? hx)
        have HS : Hid (madeS (ks.take (k + 1)) = madeS (ks.take k) + madeN x) := Lib.hid (madeS_snoc hx)
        have hle : takenS (ks.take (k + 1)) ≤ 4 * (k + 1) ∧ madeS (ks.take (k + 1)) ≤ 4 * (k + 1) := by
          have := (sums_le (ks := ks.take (k + 1)) fun y hy => HST.out y (List.mem_of_mem_take hy))
          have h2 := List.length_take_le (k + 1) ks
          omega
        have hle2 : madeS (ks.take (k + 1)) ≤ 4 * (k + 1) := by first | exact hle.1 | exact hle.2
        clear hle
        rw [HS.out] at hle2
        have HB : Hid (madeB x = madeN x) := Lib.hid (madeB_of hq)
        clear hx hq
        go_wp2_with (fail)
        refine (spec_ColumnsMade _ _).mono ?_; rintro e w2 ⟨rfl, b2⟩
        have hb2 : Below w.heap.size w w2 := hb.trans (b2.mono hzs)
        rw [HB.out]
        go_wp2_with (fail)
        go_roundw
        case rel => exact ⟨k + 1, by omega, by go_num, by rw [HS.out]; push_cast; go_num, hb2⟩
        case measure => simp [intOf]; omega
      · go_wp2_with (fail)
        go_ret
        exact ⟨ret_int (by rw [HF.out, take_all (by omega)]), hb⟩
  · have hs' : stitchesB ks = false := by simpa using hs
    have HF : Hid (madeP ks = -1) := Lib.hid (by rw [madeP, if_neg hs])
    clear hs
    go_enter Try.func117, Try.ntmps117
    go_wp2_with (fail)
    refine (spec_l14Ok _ _ _ _ h hl9).mono ?_; rintro e _ ⟨rfl, rfl⟩
    go_wp2_with (fail)
    go_ret
    exact ⟨ret_int HF.out.symm, Below.refl _ _⟩

end Go.Proofs.Ytfgbhhkmdeljoaa
