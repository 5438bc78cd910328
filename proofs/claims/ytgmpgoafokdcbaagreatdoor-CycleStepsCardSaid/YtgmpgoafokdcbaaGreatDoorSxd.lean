/- Part 4 of the small logic: new blocks, stores. -/
import Derived.Test.YtgmpgoafokdcbaaGreatDoorSxc
import Derived.Laws.CopyRow
set_option linter.unusedVariables false
namespace Go.Proofs.YtgmpgoafokdcbaaGreatDoor.Sx
open Go Go.RowKit
variable {P : Program} {K : GL}
def Env.with (E : Env) (k : Nat) (v : Value) : Env := ⟨E.F, fun i => if i = k then some v else E.φ i⟩
theorem Env.with_le {E : Env} {k : Nat} (v : Value) (h : E.φ k = none) : Env.le E (E.with k v) := ⟨FH.le_refl _, fun i x e => by
  show (if i = k then some v else E.φ i) = some x
  split
  · rename_i hi
    subst hi
    rw [h] at e
    cases e
  · exact e⟩
theorem Env.with_self (E : Env) (k : Nat) (v : Value) : (E.with k v).φ k = some v := by simp [Env.with]
theorem Env.with_ne (E : Env) {k i : Nat} (v : Value) (h : i ≠ k) : (E.with k v).φ i = E.φ i := by simp [Env.with, h]
def Env.frz (E : Env) (b : Nat) (o : Obj) : Env := ⟨fun i => if i = b then some o else E.F i, E.φ⟩
theorem Env.frz_le {E : Env} {b : Nat} (o : Obj) (h : E.F b = none) : Env.le E (E.frz b o) := ⟨fun i x e => by
  show (if i = b then some o else E.F i) = some x
  split
  · rename_i hi
    subst hi
    rw [h] at e
    cases e
  · exact e, fun _ _ e => e⟩
theorem lkH_cons_self (k : Nat) (x : HS) (h : List (Nat × HS)) : lkH ((k, x) :: h) k = x := by simp [lkH]
theorem lkH_cons_ne {k i : Nat} (x : HS) (h : List (Nat × HS)) (hi : i ≠ k) : lkH ((k, x) :: h) i = lkH h i := by simp [lkH, Ne.symm hi]
theorem heap_alloc_last (w : World) (o : Obj) : (w.alloc o).heap[w.heap.size]? = some o := by
  show (w.heap.push o)[w.heap.size]? = _
  simp
theorem heap_alloc_old (w : World) (o : Obj) {b : Nat} (h : b < w.heap.size) : (w.alloc o).heap[b]? = w.heap[b]? := Below.heap_alloc w o b h
theorem some_lt {w : World} {b : Nat} {o : Obj} (h : w.heap[b]? = some o) : b < w.heap.size := (Array.getElem?_eq_some_iff.1 h).1
theorem WOk.alloc {C : Cx} {w : World} (h : WOk C w) (o : Obj) : WOk C (w.alloc o) :=
  ⟨h.os, h.tape, h.output, by have := h.size; simp; omega, fun b hb ho => (heap_alloc_old w o (by have := h.size; omega)).trans (h.block b hb ho)⟩
theorem EOk.new {C : Cx} {E : Env} {h : List (Nat × HS)} {w : World} (hO : EOk C E h w) {k : Nat} (hk : lkH h k = .fresh) (ob : Obj) (o : AO) (hv : Value) (hb : hblk hv = some w.heap.size) (hr : ORel (E.with k hv) (w.alloc ob) o hv) (hq : ∀ b, oblk (w.alloc ob) o hv b → hblk hv = some b := by intro b h; exact h) :
    Env.le E (E.with k hv) ∧ EOk C (E.with k hv) ((k, .live o) :: h) (w.alloc ob) := by
  have hφ : E.φ k = none := by
    have := hO.hs k
    rw [hk] at this
    exact this
  have hle := Env.with_le hv hφ
  have hlt : ∀ {i : Nat} {o' : AO} {h' : Value} {b : Nat}, E.φ i = some h' → ORel E w o' h' → oblk w o' h' b → b < w.heap.size := fun _ ho hb' => ho.lt _ hb'
  refine ⟨hle, hO.f0, fun i v e => hle.2 i v (hO.hd i v e), fun b ob' e => (heap_alloc_old w ob (some_lt (hO.fz b ob' e))).trans (hO.fz b ob' e), hO.fn, fun i => ?_, ?_, hO.w.alloc ob, hO.g⟩
  · by_cases hi : i = k
    · subst hi
      rw [lkH_cons_self]
      refine ⟨hv, Env.with_self _ _ _, hr, fun b e => ?_⟩
      have e := hq b e
      rw [hb] at e
      cases e
      refine ⟨?_, .inr hO.w.size⟩
      cases hF : E.F w.heap.size with
      | none => exact hF
      | some o' => exact absurd (some_lt (hO.fz _ _ hF)) (by omega)
    · rw [lkH_cons_ne _ _ hi]
      have := hO.hs i
      cases hs : lkH h i with
      | fresh => rw [hs] at this; exact (Env.with_ne E hv hi).trans this
      | dead => trivial
      | live o' =>
        rw [hs] at this
        obtain ⟨v, e, ho, hn⟩ := this
        have hw : ∀ b, oblk w o' v b → (w.alloc ob).heap[b]? = w.heap[b]? := fun b hb' => heap_alloc_old w ob (ho.lt b hb')
        exact ⟨v, (Env.with_ne E hv hi).trans e, (ho.world hw).mono hle, fun b hb' => hn b ((oblk_world hw ho b).1 hb')⟩
  · have old : ∀ {i : Nat} {oi : AO} {hi : Value} {b : Nat}, i ≠ k → lkH h i = .live oi → E.φ i = some hi → oblk (w.alloc ob) oi hi b → oblk w oi hi b ∧ b < w.heap.size := by
      intro i oi hi b _ li ei bi
      have := hO.hs i
      rw [li] at this
      obtain ⟨v, e, ho, _⟩ := this
      rw [ei] at e
      cases e
      have hw : ∀ b, oblk w oi hi b → (w.alloc ob).heap[b]? = w.heap[b]? := fun b hb' => heap_alloc_old w ob (ho.lt b hb')
      have h1 := (oblk_world hw ho b).1 bi
      exact ⟨h1, ho.lt b h1⟩
    intro i j oi oj hi hj b li lj ei ej bi bj
    by_cases h1 : i = k <;> by_cases h2 : j = k
    · rw [h1, h2]
    · subst h1
      rw [Env.with_self] at ei
      cases ei
      rw [lkH_cons_self] at li
      cases li
      have e := hq b bi
      rw [hb] at e
      cases e
      rw [lkH_cons_ne _ _ h2] at lj
      rw [Env.with_ne _ _ h2] at ej
      exact absurd (old h2 lj ej bj).2 (by omega)
    · subst h2
      rw [Env.with_self] at ej
      cases ej
      rw [lkH_cons_self] at lj
      cases lj
      have e := hq b bj
      rw [hb] at e
      cases e
      rw [lkH_cons_ne _ _ h1] at li
      rw [Env.with_ne _ _ h1] at ei
      exact absurd (old h1 li ei bi).2 (by omega)
    · rw [lkH_cons_ne _ _ h1] at li
      rw [lkH_cons_ne _ _ h2] at lj
      rw [Env.with_ne _ _ h1] at ei
      rw [Env.with_ne _ _ h2] at ej
      exact hO.inj i j oi oj hi hj b li lj ei ej (old h1 li ei bi).1 (old h2 lj ej bj).1
theorem EOk.newF {C : Cx} {E : Env} {h : List (Nat × HS)} {w : World} (hO : EOk C E h w) (ob : Obj) :
    Env.le E (E.frz w.heap.size ob) ∧ EOk C (E.frz w.heap.size ob) h (w.alloc ob) := by
  have hn : E.F w.heap.size = none := by
    cases hF : E.F w.heap.size with
    | none => rfl
    | some o' => exact absurd (some_lt (hO.fz _ _ hF)) (by omega)
  have hle := Env.frz_le ob hn
  have old : ∀ {i : Nat} {oi : AO} {hi : Value} {b : Nat}, lkH h i = .live oi → E.φ i = some hi → oblk (w.alloc ob) oi hi b → oblk w oi hi b := by
    intro i oi hi b li ei bi
    have := hO.hs i
    rw [li] at this
    obtain ⟨v, e, ho, _⟩ := this
    rw [ei] at e
    cases e
    exact (oblk_world (fun b hb' => heap_alloc_old w ob (ho.lt b hb')) ho b).1 bi
  refine ⟨hle, FH.le_trans hO.f0 hle.1, hO.hd, fun b o e => ?_, fun b o e => ?_, fun i => ?_, fun i j oi oj hi hj b li lj ei ej bi bj => hO.inj i j oi oj hi hj b li lj ei ej (old li ei bi) (old lj ej bj), hO.w.alloc ob, fun i ds e => cellsAt_le hle.1 (hO.g i ds e)⟩
  · simp only [Env.frz] at e
    split at e
    · rename_i hb
      subst hb
      cases e
      exact heap_alloc_last w _
    · exact (heap_alloc_old w ob (some_lt (hO.fz b o e))).trans (hO.fz b o e)
  · simp only [Env.frz] at e
    split at e
    · rename_i hb
      subst hb
      exact .inr (.inl hO.w.size)
    · exact hO.fn b o e
  · have := hO.hs i
    cases hs : lkH h i with
    | fresh => rw [hs] at this; exact this
    | dead => trivial
    | live o' =>
      rw [hs] at this
      obtain ⟨v, e, ho, hn'⟩ := this
      refine ⟨v, e, (ho.world (fun b hb' => heap_alloc_old w ob (ho.lt b hb'))).mono hle, fun b hb => ?_⟩
      have hb' := old hs e hb
      refine ⟨?_, (hn' b hb').2⟩
      simp only [Env.frz]
      rw [if_neg (by have := ho.lt b hb'; omega)]
      exact (hn' b hb').1
theorem EOk.write {C : Cx} {E : Env} {h : List (Nat × HS)} {w w' : World} (hO : EOk C E h w) {k : Nat} {o o' : AO} {hv : Value} {b : Nat} (hk : lkH h k = .live o) (hφ : E.φ k = some hv) (hb : hblk hv = some b)
    (hw : ∀ i, i ≠ b → w'.heap[i]? = w.heap[i]?) (hsz : w'.heap.size = w.heap.size) (hos : w'.os = w.os) (htp : w'.tape = w.tape) (hou : w'.output = w.output) (hr : ORel E w' o' hv) (hq : ∀ b, oblk w' o' hv b → oblk w o hv b := by intro b h; exact h) : EOk C E ((k, .live o') :: h) w' := by
  have hme := hO.hs k
  rw [hk] at hme
  obtain ⟨v, e, ho, hn⟩ := hme
  rw [hφ] at e
  cases e
  have hnb := hn b (oblk_of hb)
  have oth : ∀ {i : Nat} {oi : AO} {hi : Value}, i ≠ k → lkH h i = .live oi → E.φ i = some hi → ORel E w oi hi → ∀ b2, oblk w oi hi b2 → w'.heap[b2]? = w.heap[b2]? := by
    intro i oi hi hik li ei ho2 b2 hb2
    refine hw b2 ?_
    rintro rfl
    exact hik (hO.inj i k oi o hi hv b2 li hk ei hφ hb2 (oblk_of hb))
  refine ⟨hO.f0, hO.hd, fun i ob e => ?_, hO.fn, fun i => ?_, ?_, ⟨hos.trans hO.w.os, htp.trans hO.w.tape, hou.trans hO.w.output, by rw [hsz]; exact hO.w.size, fun i hi hno => ?_⟩, hO.g⟩
  · rw [hw i (by rintro rfl; rw [hnb.1] at e; cases e)]
    exact hO.fz i ob e
  · by_cases hi : i = k
    · subst hi
      rw [lkH_cons_self]
      exact ⟨hv, hφ, hr, fun b e => hn b (hq b e)⟩
    · rw [lkH_cons_ne _ _ hi]
      have := hO.hs i
      cases hs : lkH h i with
      | fresh => rw [hs] at this; exact this
      | dead => trivial
      | live o2 =>
        rw [hs] at this
        obtain ⟨v2, e2, ho2, hn2⟩ := this
        have ho' := oth hi hs e2 ho2
        exact ⟨v2, e2, ho2.world ho', fun b e => hn2 b ((oblk_world ho' ho2 b).1 e)⟩
  · intro i j oi oj hi hj b2 li lj ei ej bi bj
    have H : ∀ {i : Nat} {oi : AO} {hi : Value} {b2 : Nat}, lkH ((k, HS.live o') :: h) i = .live oi → E.φ i = some hi → oblk w' oi hi b2 → ∃ oi', lkH h i = .live oi' ∧ oblk w oi' hi b2 := by
      intro i oi hi b2 li ei bi
      by_cases h1 : i = k
      · subst h1
        rw [lkH_cons_self] at li
        cases li
        rw [hφ] at ei
        cases ei
        exact ⟨o, hk, hq b2 bi⟩
      · rw [lkH_cons_ne _ _ h1] at li
        have := hO.hs i
        rw [li] at this
        obtain ⟨v2, e2, ho2, hn2⟩ := this
        rw [ei] at e2
        cases e2
        exact ⟨oi, li, (oblk_world (oth h1 li ei ho2) ho2 b2).1 bi⟩
    obtain ⟨oi', li', bi'⟩ := H li ei bi
    obtain ⟨oj', lj', bj'⟩ := H lj ej bj
    exact hO.inj i j oi' oj' hi hj b2 li' lj' ei ej bi' bj'
  · rw [hw i ?_]
    · exact hO.w.block i hi hno
    · rintro rfl
      rcases hnb.2 with h1 | h1
      · exact hno h1
      · omega
section
variable {dst : Option Tmp} {ty : TypeId} {pos : String} {after : Array Edge} {g : Option (Nat × Bool)}
structure Zr (P : Program) (t : TypeId) (zs : List Value) : Prop where
  run : ∃ z : Value, (∀ w, (zeroValue t).run P w = .ok z w) ∧ z.cells.toList = zs
  one : ∀ z ∈ zs, z.oneCell' = true
theorem rels_lits {E : Env} : ∀ {zs : List Value}, (∀ z ∈ zs, z.oneCell' = true) → Rels E (zs.map fun z => AV.data (.lit z)) zs
  | [], _ => rfl
  | z :: zs, h => ⟨z, zs, rfl, ⟨rfl, h z (by simp)⟩, rels_lits (fun x hx => h x (by simp [hx]))⟩
theorem la_alloc {t : TypeId} {zs : List Value} (k : Nat) (hz : Zr P t zs) : LAct P K ⟨dst, .alloc t, ty, pos, after, g⟩ [] [(k, .fresh)] (.ptr k 0) [(k, .live (.cells t (zs.map fun z => .data (.lit z))))] := by
  intro C s a w _ hT hH hd hs
  obtain ⟨hdf, hsz, E, hO, hR⟩ := hs
  obtain ⟨⟨z, hrun, hzs⟩, h1⟩ := hz
  have hk := hH.1
  obtain ⟨hle, hO'⟩ := hO.new hk (.cells z.cells t) (.cells t (zs.map fun z => .data (.lit z))) (.pointer (some ⟨w.heap.size, 0, none⟩)) rfl
    ⟨w.heap.size, zs, rfl, by rw [heap_alloc_last, ← hzs], rels_lits h1, h1⟩
  unfold Oper.wp
  have : (execOp a.eval ⟨dst, .alloc t, ty, pos, after, g⟩).run P w = .ok (.value (.pointer (some ⟨w.heap.size, 0, none⟩))) (w.alloc (.cells z.cells t)) := by
    simp [execOp, Instr.alloc, hrun, newVar, newRow]
  rw [this]
  exact Sat.put hdf hsz hR hle hO' hd ⟨w.heap.size, Env.with_self _ _ _, rfl⟩
def CV : AV → List AV
  | .agg cs => cs
  | x => [x]
def cellAV : AV → Prop
  | .data _ | .ptr _ _ | .row _ | .mp _ | .via _ _ | .fn _ _ _ | .agg _ => True
  | _ => False
theorem CV_rel {E : Env} : ∀ {x : AV} {v : Value}, cellAV x → Rel E x v → ∃ vs : List Value, v.cells.toList = vs ∧ Rels E (CV x) vs ∧ ∀ u ∈ vs, u.oneCell' = true
  | .data d, v, _, h => by
    have h1 := d.one h
    refine ⟨[v], by cases v <;> first | rfl | (simp [Value.oneCell'] at h1), ⟨v, [], rfl, h, rfl⟩, by simpa using h1⟩
  | .ptr _ _, v, _, h => by
    have hh := h
    obtain ⟨b, _, rfl⟩ := h
    exact ⟨_, rfl, ⟨_, [], rfl, hh, rfl⟩, by simp [Value.cells, Value.oneCell']⟩
  | .row _, v, _, h => by
    have hh := h
    obtain ⟨_, A, n, c, rfl⟩ := h
    exact ⟨_, rfl, ⟨_, [], rfl, hh, rfl⟩, by simp [Value.cells, Value.oneCell']⟩
  | .mp _, v, _, h => by
    have hh := h
    obtain ⟨_, r, rfl⟩ := h
    exact ⟨_, rfl, ⟨_, [], rfl, hh, rfl⟩, by simp [Value.cells, Value.oneCell']⟩
  | .via _ _, v, _, h => by
    have hh := h
    obtain ⟨_, _, _, h1⟩ := h
    exact ⟨[v], by cases v <;> first | rfl | (simp [Value.oneCell'] at h1), ⟨v, [], rfl, hh, rfl⟩, by simpa using h1⟩
  | .fn _ _ _, v, _, h => by
    have hh := h
    obtain ⟨fs, cs, rfl, _⟩ := h
    exact ⟨_, rfl, ⟨_, [], rfl, hh, rfl⟩, by simp [Value.cells, Value.oneCell']⟩
  | .agg cs, v, _, h => by
    obtain ⟨vs, rfl, hr, h1⟩ := h
    exact ⟨vs, by simp [Value.cells], hr, h1⟩
theorem la_box {t : TypeId} {x : Operand} {v : AV} (k : Nat) (hv : OV x v) (hc : cellAV v) : LAct P K ⟨dst, .box t x, ty, pos, after, g⟩ (rdO x v) [(k, .fresh)] (.ptr k 0) [(k, .live (.cells t (CV v)))] := by
  intro C s a w _ hT hH hd hs
  obtain ⟨hdf, hsz, E, hO, hR⟩ := hs
  have hx := rdO_rel (relT_of hR hT) hv
  obtain ⟨vs, e, hr, h1⟩ := CV_rel hc hx
  have hφ : E.φ k = none := by
    have := hO.hs k
    rw [hH.1] at this
    exact this
  obtain ⟨hle, hO'⟩ := hO.new hH.1 (.cells (a.eval x).cells t) (.cells t (CV v)) (.pointer (some ⟨w.heap.size, 0, none⟩)) rfl
    ⟨w.heap.size, vs, rfl, by rw [heap_alloc_last, ← e], Rels.mono (Env.with_le _ hφ) hr, h1⟩
  unfold Oper.wp
  have : (execOp a.eval ⟨dst, .box t x, ty, pos, after, g⟩).run P w = .ok (.value (.pointer (some ⟨w.heap.size, 0, none⟩))) (w.alloc (.cells (a.eval x).cells t)) := by
    simp [execOp, Instr.box, newVar, newRow]
  rw [this]
  exact Sat.put hdf hsz hR hle hO' hd ⟨w.heap.size, Env.with_self _ _ _, rfl⟩
theorem la_store {t ct : TypeId} {n : Nat} {b : Bool} {x y : Operand} {k off : Nat} {cs : List AV} {v : AV} (ht : Ty P t n b) (hx : OV x (.ptr k off)) (hy : OV y v) (hc : cellAV v) (hn : (CV v).length = n) (hb : b = true ∨ n = 1) (hl : off + n ≤ cs.length) :
    LAct P K ⟨dst, .store t x y, ty, pos, after, g⟩ (rdO x (.ptr k off) ++ rdO y v) [(k, .live (.cells ct cs))] .any [(k, .live (.cells ct (cs.take off ++ CV v ++ cs.drop (off + n))))] := by
  intro C s a w _ hT hH hd hs
  obtain ⟨hdf, hsz, E, hO, hR⟩ := hs
  have hr2 := relT_of hR hT
  rw [relT_append] at hr2
  have hxv := rdO_rel hr2.1 hx
  obtain ⟨vs, e, hr, h1⟩ := CV_rel hc (rdO_rel hr2.2 hy)
  obtain ⟨bb, us, exv, hw, hru, h1u⟩ := own_cells hxv (relH_of hO hH)
  obtain ⟨b', hb', e'⟩ := hxv
  rw [exv] at e'
  cases e'
  have hvl : vs.length = n := by rw [hr.length, hn]
  have hul := hru.length
  have hst := run_storeCells_at P bb off ct vs 0 us.toArray w hw (by simp; omega) h1
  have hcs : (a.eval y).cells.size = n := by rw [← hvl, ← e]; simp
  unfold Oper.wp
  have hrun : (execOp a.eval ⟨dst, .store t x y, ty, pos, after, g⟩).run P w = .ok .skip (w.setRow bb (us.take (off + 0) ++ vs ++ us.drop (off + 0 + vs.length)).toArray) := by
    simp only [execOp, Instr.storeAt, exv, Instr.sureAddr, storeVar, Sem.run_bind, Sem.run_pure, Result.andThen_ok, ht.size, hcs, ne_eq, not_true_eq_false, ite_false, Sem.run_ite, e, hst]
  rw [hrun]
  have hh : (w.setRow bb (us.take off ++ vs ++ us.drop (off + vs.length)).toArray).heap[bb]? = some (.cells (us.take off ++ vs ++ us.drop (off + vs.length)).toArray ct (0, 0)) := setRow_heap w bb us.toArray _ ct _ hw
  refine Sat.put hdf hsz hR (Env.le_refl E) (hO.write (w' := w.setRow bb (us.take off ++ vs ++ us.drop (off + vs.length)).toArray) (o' := .cells ct (cs.take off ++ CV v ++ cs.drop (off + n))) hH.1 hb' rfl (fun i hi => ?_) ?_ rfl rfl rfl ⟨bb, us.take off ++ vs ++ us.drop (off + vs.length), rfl, hh, ?_, ?_⟩) hd trivial
  · exact setRow_other w bb i _ hi
  · simp
  · rw [← hvl]
    exact ((hru.take off).append hr).append (hru.drop _)
  · intro u hu
    simp only [List.mem_append] at hu
    rcases hu with (hu | hu) | hu
    · exact h1u u (List.mem_of_mem_take hu)
    · exact h1 u hu
    · exact h1u u (List.mem_of_mem_drop hu)
end
end Go.Proofs.YtgmpgoafokdcbaaGreatDoor.Sx
