/- Rules for operations, the rest: function values, parts, appends, own rows. -/
import Derived.Test.YtgmpgoafokdcbaaGreatDoorSxi
import Derived.Maps.AppendAt
set_option linter.unusedVariables false
set_option linter.unusedSectionVars false
namespace Go.Proofs.YtgmpgoafokdcbaaGreatDoor.Sx
open Go Go.RowKit
variable {P : Program} {K : GL}
section
variable {dst : Option Tmp} {ty : TypeId} {pos : String} {after : Array Edge} {g : Option (Nat × Bool)}
structure El (P : Program) (e : TypeId) (sz bytes : Nat) : Prop where
  ex : ∃ i z, P.info? e = some i ∧ i.zero = some z ∧ i.size = sz ∧ i.bytes = bytes ∧ z.cells.size = sz
  pos : 0 < sz
def Pl (P : Program) (t : TypeId) (pl : List (Nat × Nat)) : Prop := ∃ fields, P.underlying t = some (.struct fields) ∧ ∀ w, (fields.mapM fun f => do pure (f.offset, ← sizeOf f.type) : Sem (Array (Nat × Nat))).run P w = .ok pl.toArray w
theorem EOk_seq {C : Cx} {E : Env} {h h' : List (Nat × HS)} {w : World} (e : ∀ k, lkH h k = lkH h' k) (k : EOk C E h w) : EOk C E h' w :=
  ⟨k.f0, k.hd, k.fz, k.fn, fun i => e i ▸ k.hs i, fun i j oi oj hi hj b h1 h2 => k.inj i j oi oj hi hj b ((e i).trans h1) ((e j).trans h2), k.w, k.g⟩
theorem pv_makeFunc {fn : Fn} {xs ys : Array Operand} {vs us : List AV} (hx : OVs xs.toList vs) (hy : OVs ys.toList us) :
    PV P K ⟨dst, .makeFunc fn xs ys, ty, pos, after, g⟩ (rdOs xs.toList vs ++ rdOs ys.toList us) [] (.fn fn vs us) := by
  intro E a w _ _ hT _
  have hT' := relT_append.1 hT
  refine ⟨.func fn (xs.map a.eval) (ys.map a.eval), by simp [execOp, Instr.makeFunc], xs.toList.map a.eval, ys.toList.map a.eval, ?_, rdOs_rel hT'.1 hx, rdOs_rel hT'.2 hy⟩
  congr 1
  · apply Array.ext'; simp
  · apply Array.ext'; simp
theorem pv_max {x y : Operand} {ats : Array TypeId} {k k' : IntKind} {p q : Int} (hx : OV x (.data (.lit (.int k p)))) (hy : OV y (.data (.lit (.int k' q)))) :
    PV P K ⟨dst, .call { callee := .builtin .max, args := #[x, y], argTypes := ats }, ty, pos, after, g⟩ (rdO x (.data (.lit (.int k p))) ++ rdO y (.data (.lit (.int k' q)))) [] (.data (.lit (.int k (if q > p then q else p)))) := by
  intro E a w _ _ hT _
  have hT' := relT_append.1 hT
  have e1 := lit_eq (rdO_rel hT'.1 hx)
  have e2 := lit_eq (rdO_rel hT'.2 hy)
  exact ⟨.int k (if q > p then q else p), by simp [execOp, resolve, invoke, builtin, Builtin.max_, Builtin.max2, e1, e2], rfl, rfl⟩
def rdB : Option Operand → Option Value → List (Nat × AV)
  | some x, some v => rdO x (.data (.lit v))
  | _, _ => []
def OVB : Option Operand → Option Value → Prop
  | none, none => True
  | some x, some v => OV x (.data (.lit v))
  | _, _ => False
theorem rdB_eq {E : Env} {a : Act} {x : Option Operand} {v : Option Value} (h : relT E a (rdB x v)) (hv : OVB x v) : x.map a.eval = v := by
  cases x <;> cases v
  · rfl
  · exact absurd hv id
  · exact absurd hv id
  · exact congrArg some (lit_eq (rdO_rel h hv))
def lowV (v : Option Value) (l : Nat) : Prop := match v with | none => l = 0 | some v => ∃ k, v = .int k l
def highV (v : Option Value) (h n : Nat) : Prop := match v with | none => h = n | some v => ∃ k, v = .int k h
theorem run_bounds {isS : Bool} {n cap l h : Nat} {vl vh : Option Value} {w : World} (hl : lowV vl l) (hh : highV vh h n) (h1 : l ≤ h) (h2 : h ≤ cap) (h3 : n ≤ cap) : (Instr.sliceBounds isS n cap vl vh none).run P w = .ok (l, h, cap) w := by
  cases vl <;> cases vh <;> simp only [lowV, highV] at hl hh
  · subst hl; subst hh; simp [Instr.sliceBounds]
  · obtain ⟨k, rfl⟩ := hh; subst hl
    simp [Instr.sliceBounds, Instr.sliceBound, asIntOf, h2]
  · obtain ⟨k, rfl⟩ := hl; subst hh
    simp [Instr.sliceBounds, Instr.sliceBound, asIntOf, h1]
  · obtain ⟨k, rfl⟩ := hl
    obtain ⟨k', rfl⟩ := hh
    simp [Instr.sliceBounds, Instr.sliceBound, asIntOf, h1, h2]
theorem pv_slice_list {t e : TypeId} {sz l h : Nat} {x : Operand} {lo hi : Option Operand} {xs : List (List D)} {vl vh : Option Value} (ht : P.underlying t = some (.slice e)) (hs : ∀ w, (sizeOf e).run P w = .ok sz w) (hx : OV x (.data (.list sz xs))) (hlo : OVB lo vl) (hhi : OVB hi vh)
    (hl : lowV vl l) (hh : highV vh h xs.length) (h1 : l ≤ h) (h2 : h ≤ xs.length) :
    PV P K ⟨dst, .slice t x lo hi none, ty, pos, after, g⟩ (rdO x (.data (.list sz xs)) ++ (rdB lo vl ++ rdB hi vh)) [] (.data (.list sz ((xs.take h).drop l))) := by
  intro E a w _ _ hT _
  have hT' := relT_append.1 hT
  have hT2 := relT_append.1 hT'.2
  have e1 := rdB_eq hT2.1 hlo
  have e2 := rdB_eq hT2.2 hhi
  obtain ⟨A, cap, ev, hc1, hc2, hr⟩ := rdO_rel hT'.1 hx
  have hb := run_bounds (P := P) (isS := true) (w := w) (n := xs.length) (cap := cap) hl hh h1 (by omega) hc1
  have hlen : ((xs.take h).drop l).length = h - l := by simp; omega
  refine ⟨.slice (if cap = l then A else A.map (·.add (l * sz))) (h - l) (cap - l), ?_, (if cap = l then A else A.map (·.add (l * sz))), cap - l, by rw [hlen], by rw [hlen]; omega, by rw [hlen]; omega, fun hne => ?_⟩
  · simp only [execOp, Instr.sliceAt, ev, e1, e2, Option.map_none, Sem.run_bind, run_underlying ht, Result.andThen_ok, Instr.slice, hb, hs, Sem.run_pure]
  · have hlh : l < h := by
      rcases Nat.lt_or_ge l h with hlt | hge
      · exact hlt
      · exact absurd (List.length_eq_zero_iff.1 (by rw [hlen]; omega)) hne
    rw [if_neg (by omega)]
    obtain ⟨ad, rfl, hra⟩ := hr (by rintro rfl; simp at h2; omega)
    refine ⟨ad.add (l * sz), rfl, fun i y hy => ?_⟩
    rw [List.getElem?_drop, List.getElem?_take] at hy
    split at hy
    · have := hra (l + i) y hy
      rw [add_add, ← Nat.add_mul]
      exact this
    · cases hy
theorem EOk.grow {C : Cx} {E : Env} {h : List (Nat × HS)} {w w' : World} (hO : EOk C E h w) {k k' : Nat} {o o' : AO} {hv v' : Value} (hk : lkH h k = .live o) (hφ : E.φ k = some hv) (hk' : lkH h k' = .fresh) (hg : w.grownBy w' (hblk hv)) (hloc : hblk v' = hblk hv ∨ hblk v' = some w.heap.size) (hr : ORel (E.with k' v') w' o' v')
    (hq : ∀ b, oblk w' o' v' b → hblk v' = some b ∨ oblk w o hv b := by intro b h; exact .inl h) :
    Env.le E (E.with k' v') ∧ EOk C (E.with k' v') ((k', .live o') :: (k, .dead) :: h) w' := by
  have hφ' : E.φ k' = none := by
    have := hO.hs k'
    rw [hk'] at this
    exact this
  have hle := Env.with_le v' hφ'
  have hkk : k ≠ k' := fun e => by rw [e, hk'] at hk; cases hk
  have hme : ∀ b, oblk w o hv b → E.F b = none ∧ (C.own b ∨ C.w0.heap.size ≤ b) := by
    have := hO.hs k
    rw [hk] at this
    obtain ⟨v, e, _, hn⟩ := this
    rw [hφ] at e
    cases e
    exact hn
  have hFn : ∀ b, b = w.heap.size → E.F b = none := fun b hb => by
    cases hF : E.F b with
    | none => rfl
    | some ob => exact absurd (some_lt (hO.fz _ _ hF)) (by omega)
  have hot : ∀ {i : Nat} {oi : AO} {hi : Value} {b : Nat}, i ≠ k → lkH h i = .live oi → E.φ i = some hi → oblk w oi hi b → ¬ oblk w o hv b ∧ b < w.heap.size := fun {i} {oi} {hi} {b} hik li ei bi => by
    refine ⟨fun e => hik (hO.inj _ _ _ _ _ _ _ li hk ei hφ bi e), ?_⟩
    have := hO.hs i
    rw [li] at this
    obtain ⟨v, e, ho, _⟩ := this
    rw [ei] at e
    cases e
    exact ho.lt _ bi
  have hsm : ∀ {i : Nat} {oi : AO} {hi : Value}, i ≠ k → lkH h i = .live oi → E.φ i = some hi → (∀ b, oblk w oi hi b → w'.heap[b]? = w.heap[b]?) ∧ ∀ b, oblk w' oi hi b ↔ oblk w oi hi b := fun {i} {oi} {hi} hik li ei => by
    have h1 : ∀ b, oblk w oi hi b → w'.heap[b]? = w.heap[b]? := fun b hb => hg.block b (hot hik li ei hb).2 (fun e2 => (hot hik li ei hb).1 (oblk_of e2.symm))
    have := hO.hs i
    rw [li] at this
    obtain ⟨v, e, ho, _⟩ := this
    rw [ei] at e
    cases e
    exact ⟨h1, oblk_world h1 ho⟩
  have hnew : ∀ b, oblk w' o' v' b → oblk w o hv b ∨ b = w.heap.size := fun b hb => by
    rcases hq b hb with h1 | h1
    · rcases hloc with hl | hl
      · exact .inl (oblk_of (hl ▸ h1))
      · rw [hl] at h1; cases h1; exact .inr rfl
    · exact .inl h1
  refine ⟨hle, hO.f0, fun i v e => hle.2 i v (hO.hd i v e), fun b ob e => ?_, hO.fn, fun i => ?_, ?_, ⟨hg.os.trans hO.w.os, hg.tape.trans hO.w.tape, hg.output.trans hO.w.output, Nat.le_trans hO.w.size hg.size, fun b hb ho => ?_⟩, hO.g⟩
  · have h1 := hO.fz b ob e
    exact (hg.block b (some_lt h1) (fun e2 => by have e' : E.F b = some ob := e; rw [(hme b (oblk_of e2.symm)).1] at e'; cases e')).trans h1
  · by_cases h1 : i = k'
    · subst h1
      rw [lkH_cons_self]
      refine ⟨v', Env.with_self _ _ _, hr, fun b e => ?_⟩
      rcases hnew b e with hl | hl
      · exact hme b hl
      · exact ⟨hFn _ hl, .inr (by have := hO.w.size; omega)⟩
    · rw [lkH_cons_ne _ _ h1]
      by_cases h2 : i = k
      · subst h2; rw [lkH_cons_self]; trivial
      · rw [lkH_cons_ne _ _ h2]
        have := hO.hs i
        cases hs : lkH h i with
        | fresh => rw [hs] at this; exact (Env.with_ne E v' h1).trans this
        | dead => trivial
        | live oi =>
          rw [hs] at this
          obtain ⟨v, e, ho, hn⟩ := this
          have hsm' := hsm h2 hs e
          exact ⟨v, (Env.with_ne E v' h1).trans e, (ho.world hsm'.1).mono hle, fun b hb => hn b ((hsm'.2 b).1 hb)⟩
  · have two : ∀ {j : Nat} {oj : AO} {hj : Value} {b : Nat}, j ≠ k' → lkH ((k', HS.live o') :: (k, .dead) :: h) j = .live oj → (E.with k' v').φ j = some hj → oblk w' oj hj b → oblk w' o' v' b → False := fun {j} {oj} {hj} {b} h2 lj ej bj bi => by
      rw [lkH_cons_ne _ _ h2] at lj
      rw [Env.with_ne E _ h2] at ej
      by_cases h3 : j = k
      · subst h3; rw [lkH_cons_self] at lj; cases lj
      · rw [lkH_cons_ne _ _ h3] at lj
        have := hot h3 lj ej (((hsm h3 lj ej).2 b).1 bj)
        rcases hnew b bi with hl | hl
        · exact this.1 hl
        · omega
    intro i j oi oj hi hj b li lj ei ej bi bj
    by_cases h1 : i = k' <;> by_cases h2 : j = k'
    · rw [h1, h2]
    · exfalso
      subst h1
      rw [Env.with_self] at ei
      cases ei
      rw [lkH_cons_self] at li
      cases li
      exact two h2 lj ej bj bi
    · exfalso
      subst h2
      rw [Env.with_self] at ej
      cases ej
      rw [lkH_cons_self] at lj
      cases lj
      exact two h1 li ei bi bj
    · rw [lkH_cons_ne _ _ h1] at li
      rw [lkH_cons_ne _ _ h2] at lj
      rw [Env.with_ne E _ h1] at ei
      rw [Env.with_ne E _ h2] at ej
      by_cases h3 : i = k
      · subst h3; rw [lkH_cons_self] at li; cases li
      rw [lkH_cons_ne _ _ h3] at li
      by_cases h4 : j = k
      · subst h4; rw [lkH_cons_self] at lj; cases lj
      rw [lkH_cons_ne _ _ h4] at lj
      exact hO.inj i j oi oj hi hj b li lj ei ej (((hsm h3 li ei).2 b).1 bi) (((hsm h4 lj ej).2 b).1 bj)
  · have hs := hO.w.size
    refine (hg.block b (by omega) (fun e2 => ?_)).trans (hO.w.block b hb ho)
    rcases (hme b (oblk_of e2.symm)).2 with h1 | h1
    · exact ho h1
    · omega
theorem EOk.adopt {C : Cx} {E : Env} {h : List (Nat × HS)} {w : World} (hO : EOk C E h w) {k : Nat} (hk : lkH h k = .fresh) (e : TypeId) (sz : Nat) :
    Env.le E (E.with k (.slice none 0 0)) ∧ EOk C (E.with k (.slice none 0 0)) ((k, .live (.row e sz 0 [])) :: h) w := by
  have hφ : E.φ k = none := by
    have := hO.hs k
    rw [hk] at this
    exact this
  have hle := Env.with_le (.slice none 0 0) hφ
  refine ⟨hle, hO.f0, fun i v e => hle.2 i v (hO.hd i v e), hO.fz, hO.fn, fun i => ?_, ?_, hO.w, hO.g⟩
  · by_cases h1 : i = k
    · subst h1
      rw [lkH_cons_self]
      exact ⟨_, Env.with_self _ _ _, ⟨[], ⟨by simp, .inl ⟨rfl, rfl⟩⟩, rfl, fun u hu => by cases hu⟩, fun b hb => by cases hb⟩
    · rw [lkH_cons_ne _ _ h1]
      have := hO.hs i
      cases hs : lkH h i with
      | fresh => rw [hs] at this; exact (Env.with_ne E _ h1).trans this
      | dead => trivial
      | live oi =>
        rw [hs] at this
        obtain ⟨v, e, ho, hn⟩ := this
        exact ⟨v, (Env.with_ne E _ h1).trans e, ho.mono hle, hn⟩
  · intro i j oi oj hi hj b li lj ei ej bi bj
    by_cases h1 : i = k
    · subst h1
      rw [Env.with_self] at ei
      cases ei
      rw [lkH_cons_self] at li
      cases li
      cases (show hblk (.slice none 0 0) = some b from bi)
    · by_cases h2 : j = k
      · subst h2
        rw [Env.with_self] at ej
        cases ej
        rw [lkH_cons_self] at lj
        cases lj
        cases (show hblk (.slice none 0 0) = some b from bj)
      · rw [lkH_cons_ne _ _ h1] at li
        rw [lkH_cons_ne _ _ h2] at lj
        rw [Env.with_ne E _ h1] at ei
        rw [Env.with_ne E _ h2] at ej
        exact hO.inj i j oi oj hi hj b li lj ei ej bi bj
theorem rowAt_flat {F : FH} {sz : Nat} {ad : Addr} : ∀ {xs : List (List D)} (n : Nat), (∀ i x, xs[i]? = some x → x.length = sz ∧ cellsAt F (ad.add ((n + i) * sz)) x) → ∀ j d, xs.flatten[j]? = some d → ∃ u, fcell F (ad.add (n * sz + j)) = some u ∧ d.p F u
  | [], n, h, j, d, e => by simp at e
  | x :: xs, n, h, j, d, e => by
    obtain ⟨h1, h2⟩ := h 0 x rfl
    rw [List.flatten_cons] at e
    rcases Nat.lt_or_ge j x.length with hj | hj
    · rw [List.getElem?_append_left hj] at e
      have := h2 j d e
      rwa [Nat.add_zero, add_add] at this
    · rw [List.getElem?_append_right hj] at e
      have := rowAt_flat (n + 1) (fun i y hy => by
        have := h (i + 1) y (by simpa using hy)
        rwa [show n + (i + 1) = n + 1 + i by omega] at this) (j - x.length) d e
      rw [show (n + 1) * sz + (j - x.length) = n * sz + j by rw [Nat.add_mul, Nat.one_mul]; omega] at this
      exact this
theorem flat_cells {F : FH} {sz : Nat} {ad : Addr} {xs : List (List D)} (h : rowAt F sz ad xs) : cellsAt F ad xs.flatten := fun j d e => by
  have := rowAt_flat 0 (fun i x hx => by rw [Nat.zero_add]; exact h i x hx) j d e
  rwa [Nat.zero_mul, Nat.zero_add] at this
theorem hblk_own {v : Value} (h : ∃ A n c, v = .slice A n c) : hblk v = v.ownBlock := by
  obtain ⟨A, n, c, rfl⟩ := h
  cases A <;> rfl
theorem la_append_row {t e : TypeId} {sz bytes n k k' : Nat} {x y : Operand} {cs : List AV} {ds : List (List D)} (ht : P.underlying t = some (.slice e)) (hE : El P e sz bytes) (hx : OV x (.row k)) (hy : OV y (.data (.list sz ds))) (hne : ds ≠ [])
    (h63 : n + ds.length ≤ maxLen) (hby : (n + ds.length) * bytes ≤ 140737488355328) :
    LAct P K ⟨dst, .call { callee := .builtin .append, args := #[x, y], argTypes := #[t, t] }, ty, pos, after, g⟩ (rdO x (.row k) ++ rdO y (.data (.list sz ds))) [(k, .live (.row e sz n cs)), (k', .fresh)] (.row k')
      [(k', .live (.row e sz (n + ds.length) (cs ++ ds.flatten.map .data))), (k, .dead)] := by
  intro C s a w hK hT hH hd hs
  obtain ⟨hdf, hsz, E, hO, hR⟩ := hs
  have hT' := relT_append.1 (relT_of hR hT)
  obtain ⟨hφ, A0, n0, c0, hv0⟩ := rdO_rel hT'.1 hx
  obtain ⟨A, cap, hv, hc1, hc2, hr⟩ := rdO_rel hT'.2 hy
  obtain ⟨ad, rfl, hra⟩ := hr hne
  have hk := hO.hs k
  rw [hH.1] at hk
  obtain ⟨hv1, hφ1, ⟨vs, hown, hrel, hone⟩, hn⟩ := hk
  rw [hφ] at hφ1
  cases hφ1
  obtain ⟨i, z, hi, hz, hi1, hi2, hz2⟩ := hE.ex
  obtain ⟨news, hnr, hn1, hnc⟩ := cells_vals (flat_cells hra)
  have hfl : ∀ l : List (List D), (∀ q ∈ l, q.length = sz) → l.flatten.length = l.length * sz := by
    intro l
    induction l with
    | nil => intro _; simp
    | cons q l ih => intro h; simp only [List.flatten_cons, List.length_append, List.length_cons, ih (fun q hq => h q (by simp [hq])), h q (by simp), Nat.add_mul, Nat.one_mul]; omega
  have hlen : news.length = ds.length * sz := by
    rw [hnr.length, List.length_map, hfl ds (fun q hq => by
      obtain ⟨j, hj, rfl⟩ := List.mem_iff_getElem.1 hq
      exact (hra j ds[j] (by simp [hj])).1)]
  have hfz : ∀ j u, news[j]? = some u → w.cell? (ad.add j) = some u := fun j u e1 => fcell_world hO.fz (hnc j u e1)
  obtain ⟨v', w', hrun, hown', hg, hnil, hloc⟩ := run_append_own_at (P := P) (w := w) 0 t ty e i z sz bytes ht hi hz hi1 hi2 hz2 hE.pos (a.eval x) n vs hown ad ds.length cap news hlen hfz hn1 h63 hby (Nat.zero_le _)
  have hv's : ∃ A n c, v' = .slice A n c := by
    rcases hown'.2 with ⟨h1, _⟩ | ⟨g1, cap1, cur1, h1, _⟩
    · exact ⟨_, _, _, h1⟩
    · exact ⟨_, _, _, h1⟩
  have hb0 : hblk (a.eval x) = (a.eval x).ownBlock := hblk_own ⟨_, _, _, hv0⟩
  have hb1 : hblk v' = v'.ownBlock := hblk_own hv's
  have hφ' : E.φ k' = none := by
    have := hO.hs k'
    rw [hH.2.1] at this
    exact this
  have hle0 := Env.with_le v' hφ'
  have hO' := hO.grow (k' := k') (o' := .row e sz (n + ds.length) (cs ++ ds.flatten.map .data)) (v' := v') hH.1 hφ hH.2.1 (by rw [hb0]; exact hg) (by rw [hb0, hb1]; exact hloc) ⟨vs ++ news, hown', (Rels.mono hle0 hrel).append (Rels.mono hle0 hnr), fun u hu => by
    rcases List.mem_append.1 hu with h1 | h1
    · exact hone u h1
    · exact hn1 u h1⟩
  unfold Oper.wp
  have hex : (execOp a.eval ⟨dst, .call { callee := .builtin .append, args := #[x, y], argTypes := #[t, t] }, ty, pos, after, g⟩).run P w = .ok (.value v') w' := by
    have e1 : (#[x, y].map a.eval) = #[a.eval x, .slice (some ad) ds.length cap] := by simp [hv]
    simp only [execOp, resolve, e1, Sem.run_bind, Sem.run_pure, Result.andThen_ok, invoke, builtin, hrun]
  rw [hex]
  exact Sat.put hdf hsz hR hO'.1 hO'.2 hd ⟨Env.with_self _ _ _, hv's⟩
theorem strext (s : ByteArray) (l h : Nat) : s.extract l h = ⟨⟨(s.data.toList.take h).drop l⟩⟩ := by
  apply ByteArray.ext
  apply Array.ext'
  simp [List.drop_take]
theorem pv_slice_string {dst : Option Tmp} {ty : TypeId} {pos : String} {after : Array Edge} {g : Option (Nat × Bool)} {t : TypeId} {l h : Nat} {x : Operand} {lo hi : Option Operand} {s : ByteArray} {vl vh : Option Value} (ht : P.underlying t = some .string) (hx : OV x (.data (.lit (.string s)))) (hlo : OVB lo vl) (hhi : OVB hi vh)
    (hl : lowV vl l) (hh : highV vh h s.size) (h1 : l ≤ h) (h2 : h ≤ s.size) :
    PV P K ⟨dst, .slice t x lo hi none, ty, pos, after, g⟩ (rdO x (.data (.lit (.string s))) ++ (rdB lo vl ++ rdB hi vh)) [] (.data (.lit (.string ⟨⟨(s.data.toList.take h).drop l⟩⟩))) := by
  intro E a w _ _ hT _
  have hT' := relT_append.1 hT
  have hT2 := relT_append.1 hT'.2
  have e1 := rdB_eq hT2.1 hlo
  have e2 := rdB_eq hT2.2 hhi
  have ev := lit_eq (rdO_rel hT'.1 hx)
  have hb := run_bounds (P := P) (isS := false) (w := w) (n := s.size) (cap := s.size) hl hh h1 h2 (Nat.le_refl _)
  refine ⟨.string ⟨⟨(s.data.toList.take h).drop l⟩⟩, ?_, rfl, rfl⟩
  rw [← strext]
  simp only [execOp, Instr.sliceAt, ev, e1, e2, Option.map_none, Sem.run_bind, run_underlying ht, Result.andThen_ok, Instr.slice, Sem.run_pure]
  simp [hb]
def rpR (off : Nat) (h v : Value) : Prop := ∃ b o n c, h = .slice (some ⟨b, o, none⟩) n c ∧ v = .pointer (some ⟨b, o + off, none⟩)
theorem rels_flat {E : Env} {sz : Nat} : ∀ {vs : List AV} {us : List Value}, Rels E vs us → (∀ v ∈ vs, cellAV v ∧ (CV v).length = sz) → Rels E (vs.flatMap CV) (us.flatMap fun u => u.cells.toList) ∧ (∀ u ∈ us.flatMap (fun u => u.cells.toList), u.oneCell' = true) ∧ ∀ u ∈ us, u.cells.size = sz
  | [], us, h, _ => by
    rw [show us = [] from h]
    exact ⟨rfl, fun u hu => (by cases hu), fun u hu => (by cases hu)⟩
  | v :: vs, us, h, hc => by
    obtain ⟨u, us', rfl, hu, hus⟩ := h
    obtain ⟨h1, h2⟩ := hc v (by simp)
    obtain ⟨ws, hw, hr, ho⟩ := CV_rel h1 hu
    obtain ⟨k1, k2, k3⟩ := rels_flat hus (fun x hx => hc x (by simp [hx]))
    refine ⟨?_, fun x hx => ?_, fun x hx => ?_⟩
    · simp only [List.flatMap_cons, hw]; exact hr.append k1
    · simp only [List.flatMap_cons, List.mem_append] at hx
      rcases hx with hx | hx
      · rw [hw] at hx; exact ho x hx
      · exact k2 x hx
    · rcases List.mem_cons.1 hx with rfl | hx
      · rw [← Array.length_toList, hw, hr.length, h2]
      · exact k3 x hx
theorem flat_len {sz : Nat} : ∀ {us : List Value}, (∀ u ∈ us, u.cells.size = sz) → (us.flatMap fun u => u.cells.toList).length = us.length * sz
  | [], _ => by simp
  | u :: us, h => by
    simp only [List.flatMap_cons, List.length_append, List.length_cons, flat_len (us := us) (fun x hx => h x (by simp [hx])), Array.length_toList, h u (by simp), Nat.add_mul, Nat.one_mul]
    omega
theorem la_buildRow {t e : TypeId} {sz n : Nat} {zs : List Value} (k : Nat) (xs : List Operand) {vs : List AV} {parts : Array (Nat × Operand)} (ht : P.underlying t = some (.slice e)) (hs : ∀ w, (sizeOf e).run P w = .ok sz w) (hz : Zr P e zs) (hp : 0 < sz)
    (hpa : parts = partsOf xs) (hn : n = xs.length) (hv : OVs xs vs) (hc : ∀ v ∈ vs, cellAV v ∧ (CV v).length = sz) (hm : n * sz ≤ 2 ^ 24) :
    LAct P K ⟨dst, .buildSlice t n parts, ty, pos, after, g⟩ (rdOs xs vs) [(k, .fresh)] (.row k) [(k, .live (.row e sz n (vs.flatMap CV)))] := by
  subst hpa
  subst hn
  intro C s a w _ hT hH hd hsat
  obtain ⟨hdf, hsz, E, hO, hR⟩ := hsat
  have hx := rdOs_rel (relT_of hR hT) hv
  obtain ⟨h1, h2, h3⟩ := rels_flat hx hc
  have hlen : (xs.map a.eval).length = xs.length := by simp
  have hrun := run_buildSlice_seq (w := w) ht hs hz hp (xs.map a.eval) h3 (by rw [hlen]; exact hm)
  rw [hlen] at hrun
  have hfl := flat_len h3
  rw [hlen] at hfl
  have hφ : E.φ k = none := by
    have := hO.hs k
    rw [hH.1] at this
    exact this
  have hle0 := Env.with_le (.slice (some ⟨w.heap.size, 0, none⟩) xs.length xs.length) hφ
  have hml : xs.length ≤ maxLen := by
    have : xs.length ≤ xs.length * sz := Nat.le_mul_of_pos_right _ hp
    unfold maxLen
    omega
  obtain ⟨hle, hO'⟩ := hO.new hH.1 (.cells ((xs.map a.eval).flatMap fun x => x.cells.toList).toArray e) (.row e sz xs.length (vs.flatMap CV)) (.slice (some ⟨w.heap.size, 0, none⟩) xs.length xs.length) rfl
    ⟨_, ⟨hfl, .inr ⟨w.heap.size, xs.length, _, rfl, Nat.zero_le _, heap_alloc_last w _, Nat.le_refl _, hml, by simpa using hfl, by rw [List.take_of_length_le (by simpa using Nat.le_of_eq hfl)]⟩⟩, Rels.mono hle0 h1, h2⟩
  unfold Oper.wp
  have hex : (execOp a.eval ⟨dst, .buildSlice t xs.length (partsOf xs), ty, pos, after, g⟩).run P w = .ok (.value (.slice (some ⟨w.heap.size, 0, none⟩) xs.length xs.length)) (w.alloc (.cells ((xs.map a.eval).flatMap fun x => x.cells.toList).toArray e)) := by
    simp only [execOp, Sem.run_bind]
    have hpp : (partsOf xs).map (fun (x : Nat × Operand) => (x.1, a.eval x.2)) = (((xs.map a.eval).zipIdx.map fun p => (p.2, p.1)).toArray) := by
      simp [partsOf, List.zipIdx_map]
    rw [hpp, hrun]
    rfl
  rw [hex]
  exact Sat.put hdf hsz hR hle hO' hd ⟨Env.with_self _ _ _, _, _, _, rfl⟩
theorem own_row {E : Env} {w : World} {k sz n : Nat} {e : TypeId} {cs : List AV} {v : Value} (hv : Rel E (.row k) v) (hh : relH E w [(k, .live (.row e sz n cs))]) :
    ∃ vs : List Value, w.ownsRow 0 e sz v n vs ∧ Rels E cs vs ∧ (∀ u ∈ vs, u.oneCell' = true) := by
  obtain ⟨hφ, _⟩ := hv
  obtain ⟨h, he, vs, ho, hr, h1⟩ := hh.1
  rw [hφ] at he
  cases he
  exact ⟨vs, ho, hr, h1⟩
theorem pv_len_row {t e e' : TypeId} {sz n k : Nat} {x : Operand} {cs : List AV} (ht : P.underlying t = some (.slice e')) (hx : OV x (.row k)) :
    PV P K ⟨dst, .call { callee := .builtin .len, args := #[x], argTypes := #[t] }, ty, pos, after, g⟩ (rdO x (.row k)) [(k, .live (.row e sz n cs))] (.data (.lit (.int .i64 n))) := by
  intro E a w _ _ hT hH
  obtain ⟨vs, ho, hr, h1⟩ := own_row (rdO_rel hT hx) hH
  refine ⟨.int .i64 n, ?_, rfl, rfl⟩
  rcases ho.2 with ⟨e1, rfl⟩ | ⟨g1, cap, cur, e1, _⟩ <;> simp [execOp, resolve, invoke, builtin, e1, Builtin.len_, run_underlying ht, goInt]
theorem pv_index_row {t e : TypeId} {sz n k : Nat} {x ix : Operand} {cs : List AV} {i : Int} (ht : P.underlying t = some (.slice e)) (he : ∀ w, (sizeOf e).run P w = .ok sz w) (hx : OV x (.row k)) (hi : OV ix (.data (.lit (.int .i64 i)))) (h0 : 0 ≤ i) (hn : i.toNat < n) :
    PV P K ⟨dst, .indexAddr t x ix, ty, pos, after, g⟩ (rdO x (.row k) ++ rdO ix (.data (.lit (.int .i64 i)))) [(k, .live (.row e sz n cs))] (.via k (rpR (i.toNat * sz))) := by
  intro E a w _ _ hT hH
  rw [relT_append] at hT
  have hxr := rdO_rel hT.1 hx
  obtain ⟨vs, ho, hr, h1⟩ := own_row hxr hH
  have e2 := lit_eq (rdO_rel hT.2 hi)
  rcases ho.2 with ⟨_, rfl⟩ | ⟨b, cap, cur, e1, _⟩
  · omega
  · have hlt : i < (n : Int) := by omega
    have hadd : (⟨b, 0, none⟩ : Addr).add (i.toNat * sz) = ⟨b, i.toNat * sz, none⟩ := by
      unfold Addr.add; split <;> simp_all
    refine ⟨.pointer (some ⟨b, i.toNat * sz, none⟩), ?_, _, hxr.1, ⟨b, 0, n, cap, e1, by rw [Nat.zero_add]⟩, rfl⟩
    simp [execOp, e1, e2, Instr.indexAt, asIntOf, run_underlying ht, h0, hlt, he, hadd]
theorem own_rp {E : Env} {w : World} {k sz n off : Nat} {e : TypeId} {cs : List AV} {v : Value} (hv : Rel E (.via k (rpR off)) v) (hh : relH E w [(k, .live (.row e sz n cs))]) :
    ∃ b, ∃ vs : List Value, v = .pointer (some ⟨b, off, none⟩) ∧ (∀ j u, vs[j]? = some u → w.cell? ⟨b, j, none⟩ = some u) ∧ Rels E cs vs ∧ ∀ u ∈ vs, u.oneCell' = true := by
  obtain ⟨h, hφ, ⟨b, o, n', c, rfl, rfl⟩, _⟩ := hv
  obtain ⟨h', he, vs, ho, hr, h1⟩ := hh.1
  rw [hφ] at he
  cases he
  rcases ho.2 with ⟨e1, _⟩ | ⟨b', cap, cur, e1, _, hw, _, _, _, htk⟩
  · cases e1
  · cases e1
    refine ⟨b, vs, by rw [Nat.zero_add], fun j u hj => ?_, hr, h1⟩
    rw [← htk, List.getElem?_take] at hj
    split at hj
    · simp only [Array.getElem?_toList] at hj
      simp [World.cell?, hw, hj]
    · cases hj
theorem pv_load_rp {t e : TypeId} {x : Operand} {k off sz n : Nat} {cs : List AV} {y : AV} (ht : Ty P t 1 false) (hx : OV x (.via k (rpR off))) (hy : cs[off]? = some y) :
    PV P K ⟨dst, .load t x, ty, pos, after, g⟩ (rdO x (.via k (rpR off))) [(k, .live (.row e sz n cs))] y := by
  intro E a w _ _ hT hH
  obtain ⟨b, vs, e1, hw, hr, _⟩ := own_rp (rdO_rel hT hx) hH
  obtain ⟨u, hu, hy'⟩ := hr.get hy
  have := hw _ _ hu
  exact ⟨u, by simp [execOp, Instr.loadAt, e1, Instr.sureAddr, loadVar, ht.agg, this], hy'⟩
theorem pv_load_rp_agg {t e : TypeId} {x : Operand} {k off sz n m : Nat} {cs : List AV} (ht : Ty P t m true) (hx : OV x (.via k (rpR off))) (hn : off + m ≤ cs.length) :
    PV P K ⟨dst, .load t x, ty, pos, after, g⟩ (rdO x (.via k (rpR off))) [(k, .live (.row e sz n cs))] (.agg ((cs.drop off).take m)) := by
  intro E a w _ _ hT hH
  obtain ⟨b, vs, e1, hw, hr, h1⟩ := own_rp (rdO_rel hT hx) hH
  have hl : ((vs.drop off).take m).length = m := by have := hr.length; simp; omega
  have := run_loadCells_list (P := P) w ⟨b, off, none⟩ ((vs.drop off).take m) (fun j v ej => by
    rw [List.getElem?_take] at ej
    split at ej
    · rw [List.getElem?_drop] at ej
      have hc := hw _ _ ej
      unfold Addr.add
      split
      · rename_i h0; subst h0; exact hc
      · exact hc
    · cases ej)
  rw [hl] at this
  exact ⟨.agg ((vs.drop off).take m).toArray, by simp [execOp, Instr.loadAt, e1, Instr.sureAddr, loadVar, ht.agg, ht.size, this], _, rfl, (hr.drop off).take m, fun u hu => h1 u (List.mem_of_mem_drop (List.mem_of_mem_take hu))⟩
theorem pv_field_rp {s : TypeId} {i off : Nat} {x : Operand} {k o : Nat} (hf : Fld P s i off) (hx : OV x (.via k (rpR o))) :
    PV P K ⟨dst, .fieldAddr s x i, ty, pos, after, g⟩ (rdO x (.via k (rpR o))) [] (.via k (rpR (o + off))) := by
  intro E a w _ _ hT _
  obtain ⟨h, hφ, ⟨b, o', n', c, rfl, e⟩, _⟩ := rdO_rel hT hx
  have hadd : (⟨b, o' + o, none⟩ : Addr).add off = ⟨b, o' + (o + off), none⟩ := by
    unfold Addr.add
    split
    · rename_i h0; subst h0; simp
    · simp [Nat.add_assoc]
  refine ⟨.pointer (some ⟨b, o' + (o + off), none⟩), ?_, _, hφ, ⟨b, o', n', c, rfl, rfl⟩, rfl⟩
  have := hf.run ⟨b, o' + o, none⟩ w
  rw [hadd] at this
  simp [execOp, e, this]
end
end Go.Proofs.YtgmpgoafokdcbaaGreatDoor.Sx
