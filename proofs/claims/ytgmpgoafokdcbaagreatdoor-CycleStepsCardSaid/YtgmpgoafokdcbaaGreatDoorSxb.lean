/- Part 2 of the small logic: blocks, states, and what an operation does to them. -/
import Derived.Test.YtgmpgoafokdcbaaGreatDoorSxa
set_option linter.unusedVariables false
namespace Go.Proofs.YtgmpgoafokdcbaaGreatDoor.Sx
open Go Go.RowKit
inductive TC where
  | av (x : AV)
  | own (t : TypeId) (sz n : Nat) (cs : List TC)
inductive AO where
  | cells (t : TypeId) (cs : List AV)
  | row (t : TypeId) (sz n : Nat) (cs : List AV)
  | map (es : List (Value × AV))
    | loop (ps : Array Tmp) (asg body : Code) (nt : Nat) (ts : List (Nat × AV)) (q : Nat)
  | obj (o : Obj)
    | tree (t : TypeId) (sz n : Nat) (cs : List TC)
def qS : Nat → LoopState
  | 0 => .ready
  | 1 => .busy
  | _ => .done
def qP : Nat → Option Code
  | 0 => none
  | 1 => none
  | 2 => some .ret
  | n + 3 => some (.exit n)
inductive HS where
  | fresh
  | live (o : AO)
  | dead
def hblk : Value → Option Nat
  | .pointer (some a) => some a.block
  | .slice (some a) _ _ => some a.block
  | .map (some r) => some r
  | .func (.yield l) _ _ => some l
  | _ => none
def cellsW (w : World) : Value → List Value
  | .slice (some a) _ _ => match w.heap[a.block]? with
    | some (.cells cur _ _) => cur.toList
    | _ => []
  | _ => []
mutual
def TRel (E : Env) (w : World) : TC → Value → Prop
  | .av x, v => Rel E x v
  | .own t sz n cs, v => ∃ vs : List Value, w.ownsRow 0 t sz v n vs ∧ TRels E w cs vs ∧ ∀ u ∈ vs, u.oneCell' = true
def TRels (E : Env) (w : World) : List TC → List Value → Prop
  | [], vs => vs = []
  | x :: xs, vs => ∃ u us, vs = u :: us ∧ TRel E w x u ∧ TRels E w xs us
end
mutual
def foot (w : World) : TC → Value → List Nat
  | .av _, _ => []
  | .own _ _ _ cs, v => (hblk v).toList ++ foots w cs (cellsW w v)
def foots (w : World) : List TC → List Value → List Nat
  | [], _ => []
  | x :: xs, vs => foot w x (vs.getD 0 undef) ++ foots w xs vs.tail
end
theorem ownsRow_world {w w' : World} {t : TypeId} {sz n : Nat} {v : Value} {vs : List Value} (hw : ∀ b, hblk v = some b → w'.heap[b]? = w.heap[b]?) (ho : w.ownsRow 0 t sz v n vs) : w'.ownsRow 0 t sz v n vs := by
  refine ⟨ho.1, ?_⟩
  rcases ho.2 with h2 | ⟨g, cap, cur, e, hg, hh, r⟩
  · exact .inl h2
  · exact .inr ⟨g, cap, cur, e, hg, (hw g (by rw [e]; rfl)).trans hh, r⟩
theorem ownsRow_cellsW {w : World} {t : TypeId} {sz n : Nat} {v : Value} {vs : List Value} (ho : w.ownsRow 0 t sz v n vs) : vs = (cellsW w v).take (n * sz) := by
  rcases ho.2 with ⟨rfl, rfl⟩ | ⟨g, cap, cur, rfl, hg, hh, _, _, _, r⟩
  · have := ho.1
    rw [Nat.zero_mul] at this
    simp [List.length_eq_zero_iff.1 this]
  · simp [cellsW, hh, r]
theorem ownsRow_lt {w : World} {t : TypeId} {sz n : Nat} {v : Value} {vs : List Value} (ho : w.ownsRow 0 t sz v n vs) : ∀ b, hblk v = some b → b < w.heap.size := by
  intro b h
  rcases ho.2 with ⟨rfl, _⟩ | ⟨g, cap, cur, e, hg, hh, r⟩
  · cases h
  · rw [e] at h
    cases h
    exact (Array.getElem?_eq_some_iff.1 hh).1
theorem cellsW_world {w w' : World} {v : Value} (hw : ∀ b, hblk v = some b → w'.heap[b]? = w.heap[b]?) : cellsW w' v = cellsW w v := by
  cases v with
  | slice a n c =>
    cases a with
    | none => rfl
    | some a => simp only [cellsW]; rw [hw _ rfl]
  | _ => rfl
theorem TRels.length {E : Env} {w : World} : ∀ {cs : List TC} {vs : List Value}, TRels E w cs vs → vs.length = cs.length
  | [], vs, k => by
    have e : vs = [] := k
    simp [e]
  | _ :: xs, _, k => by
    obtain ⟨u, us, rfl, _, h⟩ := k
    simp [TRels.length h]
theorem foots_take (w : World) : ∀ (cs : List TC) (vs : List Value) (n : Nat), cs.length ≤ n → foots w cs (vs.take n) = foots w cs vs
  | [], _, _, _ => rfl
  | c :: cs, [], n, _ => by simp
  | c :: cs, v :: vs, 0, h => by simp at h
  | c :: cs, v :: vs, n + 1, h => by
    simp only [foots, List.take_succ_cons, List.tail_cons]
    rw [foots_take w cs vs n (by simpa using h)]
    rfl
theorem foots_cells {E : Env} {w : World} {t : TypeId} {sz n : Nat} {v : Value} {vs : List Value} {cs : List TC} (ho : w.ownsRow 0 t sz v n vs) (hr : TRels E w cs vs) : foots w cs (cellsW w v) = foots w cs vs := by
  rw [ownsRow_cellsW ho, foots_take]
  rw [← hr.length, ho.1]
  exact Nat.le_refl _
mutual
theorem TRel.mono {E E' : Env} (h : Env.le E E') {w : World} : ∀ {x : TC} {v : Value}, TRel E w x v → TRel E' w x v
  | .av _, _, k => Rel.mono h k
  | .own _ _ _ _, _, ⟨vs, ho, hr, h1⟩ => ⟨vs, ho, TRels.mono h hr, h1⟩
theorem TRels.mono {E E' : Env} (h : Env.le E E') {w : World} : ∀ {xs : List TC} {vs : List Value}, TRels E w xs vs → TRels E' w xs vs
  | [], _, k => k
  | _ :: _, _, ⟨u, us, e, h1, h2⟩ => ⟨u, us, e, TRel.mono h h1, TRels.mono h h2⟩
end
mutual
theorem TRel.world {E : Env} {w w' : World} : ∀ {x : TC} {v : Value}, (∀ b ∈ foot w x v, w'.heap[b]? = w.heap[b]?) → TRel E w x v → TRel E w' x v ∧ foot w' x v = foot w x v
  | .av _, _, _, k => ⟨k, rfl⟩
  | .own t sz n cs, v, hw, ⟨vs, ho, hr, h1⟩ => by
    have hv : ∀ b, hblk v = some b → w'.heap[b]? = w.heap[b]? := fun b e => hw b (by simp [foot, e])
    have hc := foots_cells ho hr
    obtain ⟨k1, k2⟩ := TRels.world (fun b hb => hw b (by simp only [foot, List.mem_append]; rw [hc]; exact .inr hb)) hr
    refine ⟨⟨vs, ownsRow_world hv ho, k1, h1⟩, ?_⟩
    simp only [foot]
    rw [cellsW_world hv, hc, ownsRow_cellsW ho]
    rw [ownsRow_cellsW ho] at k2
    rw [← k2, foots_take]
    rw [← hr.length, ho.1]
    exact Nat.le_refl _
theorem TRels.world {E : Env} {w w' : World} : ∀ {xs : List TC} {vs : List Value}, (∀ b ∈ foots w xs vs, w'.heap[b]? = w.heap[b]?) → TRels E w xs vs → TRels E w' xs vs ∧ foots w' xs vs = foots w xs vs
  | [], _, _, k => ⟨k, rfl⟩
  | x :: xs, _, hw, ⟨u, us, e, h1, h2⟩ => by
    subst e
    obtain ⟨a1, a2⟩ := TRel.world (x := x) (v := u) (fun b hb => hw b (by simp only [foots, List.mem_append]; exact .inl hb)) h1
    obtain ⟨b1, b2⟩ := TRels.world (xs := xs) (vs := us) (fun b hb => hw b (by simp only [foots, List.mem_append]; exact .inr hb)) h2
    refine ⟨⟨u, us, rfl, a1, b1⟩, ?_⟩
    simp only [foots, List.tail_cons]
    rw [b2]
    congr 1
end
mutual
theorem TRel.lt {E : Env} {w : World} : ∀ {x : TC} {v : Value}, TRel E w x v → ∀ b ∈ foot w x v, b < w.heap.size
  | .av _, _, _, b, hb => by simp [foot] at hb
  | .own t sz n cs, v, ⟨vs, ho, hr, h1⟩, b, hb => by
    simp only [foot, List.mem_append] at hb
    rcases hb with hb | hb
    · exact ownsRow_lt ho b (by simpa using hb)
    · rw [foots_cells ho hr] at hb
      exact TRels.lt hr b hb
theorem TRels.lt {E : Env} {w : World} : ∀ {xs : List TC} {vs : List Value}, TRels E w xs vs → ∀ b ∈ foots w xs vs, b < w.heap.size
  | [], _, _, b, hb => by simp [foots] at hb
  | x :: xs, _, ⟨u, us, e, h1, h2⟩, b, hb => by
    subst e
    simp only [foots, List.mem_append] at hb
    rcases hb with hb | hb
    · exact TRel.lt (x := x) (v := u) h1 b hb
    · exact TRels.lt (xs := xs) (vs := us) h2 b hb
end
def oblk (w : World) : AO → Value → Nat → Prop
  | .tree t sz n cs, v, b => b ∈ foot w (.own t sz n cs) v
  | .cells _ _, v, b => hblk v = some b
  | .row _ _ _ _, v, b => hblk v = some b
  | .map _, v, b => hblk v = some b
  | .loop _ _ _ _ _ _, v, b => hblk v = some b
  | .obj _, v, b => hblk v = some b
theorem oblk_of {w : World} {v : Value} {b : Nat} (h : hblk v = some b) : ∀ {o : AO}, oblk w o v b
  | .tree _ _ _ _ => by simp [oblk, foot, h]
  | .cells _ _ => h
  | .row _ _ _ _ => h
  | .map _ => h
  | .loop _ _ _ _ _ _ => h
  | .obj _ => h
def ORel (E : Env) (w : World) : AO → Value → Prop
  | .cells t cs, h => ∃ b, ∃ vs : List Value, h = .pointer (some ⟨b, 0, none⟩) ∧ w.heap[b]? = some (.cells vs.toArray t (0, 0)) ∧ Rels E cs vs ∧ ∀ u ∈ vs, u.oneCell' = true
  | .row t sz n cs, h => ∃ vs : List Value, w.ownsRow 0 t sz h n vs ∧ Rels E cs vs ∧ ∀ u ∈ vs, u.oneCell' = true
  | .map es, h => ∃ r, ∃ ents : Array MapEntry, ∃ clock, h = .map (some r) ∧ w.heap[r]? = some (.map ents clock) ∧ ents.toList.map (·.key) = es.map (·.1) ∧ Rels E (es.map (·.2)) (ents.toList.map (·.val))
  | .loop ps asg body nt ts q, h => ∃ l fn, ∃ tmps : Array Value, ∃ D, h = .func (.yield l) #[] #[] ∧ w.heap[l]? = some (.loop { state := qS q, pending := qP q, fn := fn, tmps := tmps, params := ps, assign := asg, body := body, defers := D }) ∧ tmps.size = nt ∧ Rels E (ts.map (·.2)) (ts.map fun p => tmps.getD p.1 undef)
  | .obj o, h => ∃ b, hblk h = some b ∧ w.heap[b]? = some o
  | .tree t sz n cs, h => TRel E w (.own t sz n cs) h ∧ (foot w (.own t sz n cs) h).Nodup
theorem ORel.mono {E E' : Env} (h : Env.le E E') {w : World} : ∀ {o : AO} {v : Value}, ORel E w o v → ORel E' w o v
  | .cells _ _, _, ⟨b, vs, e, hb, hr, h1⟩ => ⟨b, vs, e, hb, Rels.mono h hr, h1⟩
  | .row _ _ _ _, _, ⟨vs, ho, hr, h1⟩ => ⟨vs, ho, Rels.mono h hr, h1⟩
  | .map _, _, ⟨r, ents, c, e, hb, hk, hr⟩ => ⟨r, ents, c, e, hb, hk, Rels.mono h hr⟩
  | .loop _ _ _ _ _ _, _, ⟨l, fn, tm, D, e, hb, hn, hr⟩ => ⟨l, fn, tm, D, e, hb, hn, Rels.mono h hr⟩
  | .obj _, _, h => h
  | .tree _ _ _ _, _, ⟨h1, h2⟩ => ⟨h1.mono h, h2⟩
theorem ORel.world {E : Env} {w w' : World} : ∀ {o : AO} {v : Value}, (∀ b, oblk w o v b → w'.heap[b]? = w.heap[b]?) → ORel E w o v → ORel E w' o v
  | .cells _ _, _, hw, ⟨b, vs, e, hb, hr, h1⟩ => ⟨b, vs, e, (hw b (by rw [e]; rfl)).trans hb, hr, h1⟩
  | .row _ _ _ _, v, hw, ⟨vs, ho, hr, h1⟩ => ⟨vs, ownsRow_world hw ho, hr, h1⟩
  | .map _, _, hw, ⟨r, ents, c, e, hb, hk, hr⟩ => ⟨r, ents, c, e, (hw r (by rw [e]; rfl)).trans hb, hk, hr⟩
  | .loop _ _ _ _ _ _, _, hw, ⟨l, fn, tm, D, e, hb, hn, hr⟩ => ⟨l, fn, tm, D, e, (hw l (by rw [e]; rfl)).trans hb, hn, hr⟩
  | .obj _, _, hw, ⟨b, e, hb⟩ => ⟨b, e, (hw b e).trans hb⟩
  | .tree _ _ _ _, _, hw, ⟨h1, h2⟩ => by
    obtain ⟨a, b⟩ := TRel.world hw h1
    exact ⟨a, by rw [b]; exact h2⟩
theorem oblk_world {E : Env} {w w' : World} : ∀ {o : AO} {v : Value}, (∀ b, oblk w o v b → w'.heap[b]? = w.heap[b]?) → ORel E w o v → ∀ b, oblk w' o v b ↔ oblk w o v b
  | .cells _ _, _, _, _, _ => Iff.rfl
  | .row _ _ _ _, _, _, _, _ => Iff.rfl
  | .map _, _, _, _, _ => Iff.rfl
  | .loop _ _ _ _ _ _, _, _, _, _ => Iff.rfl
  | .obj _, _, _, _, _ => Iff.rfl
  | .tree _ _ _ _, _, hw, ⟨h1, _⟩, b => by
    obtain ⟨_, e⟩ := TRel.world hw h1
    simp only [oblk]
    rw [e]
mutual
theorem foot_heap {w w' : World} (h : w'.heap = w.heap) : ∀ (x : TC) (v : Value), foot w' x v = foot w x v
  | .av _, _ => rfl
  | .own _ _ _ cs, v => by
    simp only [foot]
    rw [foots_heap h cs, cellsW_world (w := w) (w' := w') (fun b _ => by rw [h])]
theorem foots_heap {w w' : World} (h : w'.heap = w.heap) : ∀ (xs : List TC) (vs : List Value), foots w' xs vs = foots w xs vs
  | [], _ => rfl
  | x :: xs, vs => by simp only [foots]; rw [foot_heap h x, foots_heap h xs]
end
theorem oblk_heap {w w' : World} (h : w'.heap = w.heap) {v : Value} {b : Nat} : ∀ {o : AO}, oblk w' o v b ↔ oblk w o v b
  | .tree _ _ _ cs => by simp only [oblk]; rw [foot_heap h]
  | .cells _ _ => Iff.rfl
  | .row _ _ _ _ => Iff.rfl
  | .map _ => Iff.rfl
  | .loop _ _ _ _ _ _ => Iff.rfl
  | .obj _ => Iff.rfl
theorem ORel.lt {E : Env} {w : World} : ∀ {o : AO} {v : Value}, ORel E w o v → ∀ b, oblk w o v b → b < w.heap.size
  | .cells _ _, _, ⟨b, vs, e, hb, _⟩, b', h => by
    rw [e] at h
    cases h
    exact (Array.getElem?_eq_some_iff.1 hb).1
  | .row _ _ _ _, v, ⟨vs, ho, _⟩, b', h => ownsRow_lt ho b' h
  | .map _, _, ⟨r, ents, c, e, hb, _⟩, b', h => by
    rw [e] at h
    cases h
    exact (Array.getElem?_eq_some_iff.1 hb).1
  | .loop _ _ _ _ _ _, _, ⟨l, fn, tm, D, e, hb, _⟩, b', h => by
    rw [e] at h
    cases h
    exact (Array.getElem?_eq_some_iff.1 hb).1
  | .obj _, _, ⟨b, e, hb⟩, b', h => by
    have h' : hblk _ = some b' := h
    rw [e] at h'
    cases h'
    exact (Array.getElem?_eq_some_iff.1 hb).1
  | .tree _ _ _ _, _, ⟨h1, _⟩, b, hb => TRel.lt h1 b hb
def lkT : List (Nat × AV) → Nat → AV
  | [], _ => .any
  | (i, x) :: l, t => if i = t then x else lkT l t
def lkH : List (Nat × HS) → Nat → HS
  | [], _ => .fresh
  | (i, x) :: l, k => if i = k then x else lkH l k
structure St where
  t : List (Nat × AV)
  h : List (Nat × HS)
abbrev GL := Nat → Option (List D)
structure Cx where
  w0 : World
  F0 : FH
  own : Nat → Prop
  nt : Nat
  hd : Nat → Option Value
  gl : GL
  df : List Deferred := []
def HOk (C : Cx) (E : Env) (w : World) (k : Nat) : HS → Prop
  | .fresh => E.φ k = none
  | .live o => ∃ h, E.φ k = some h ∧ ORel E w o h ∧ ∀ b, oblk w o h b → E.F b = none ∧ (C.own b ∨ C.w0.heap.size ≤ b)
  | .dead => True
structure WOk (C : Cx) (w : World) : Prop where
  os : w.os = C.w0.os
  tape : w.tape = C.w0.tape
  output : w.output = C.w0.output
  size : C.w0.heap.size ≤ w.heap.size
  block : ∀ b, b < C.w0.heap.size → ¬ C.own b → w.heap[b]? = C.w0.heap[b]?
structure EOk (C : Cx) (E : Env) (h : List (Nat × HS)) (w : World) : Prop where
  f0 : FH.le C.F0 E.F
  hd : ∀ k v, C.hd k = some v → E.φ k = some v
  fz : ∀ b o, E.F b = some o → w.heap[b]? = some o
  fn : ∀ b o, E.F b = some o → C.F0 b = some o ∨ C.w0.heap.size ≤ b ∨ C.own b
  hs : ∀ k, HOk C E w k (lkH h k)
  inj : ∀ i j oi oj hi hj b, lkH h i = .live oi → lkH h j = .live oj → E.φ i = some hi → E.φ j = some hj → oblk w oi hi b → oblk w oj hj b → i = j
  w : WOk C w
  g : ∀ i ds, C.gl i = some ds → cellsAt E.F ⟨i, 0, none⟩ ds
structure Sat (C : Cx) (s : St) (a : Act) (w : World) : Prop where
  df : a.defers = C.df
  sz : a.tmps.size = C.nt
  ex : ∃ E, EOk C E s.h w ∧ ∀ t, Rel E (lkT s.t t) (a.tmps.getD t undef)
theorem getD_put {a : Act} {d : Tmp} {v : Value} (hd : d < a.tmps.size) (t : Nat) : (a.put (some d) v).tmps.getD t undef = if d = t then v else a.tmps.getD t undef := by
  simp only [Act.put, Array.getD_eq_getD_getElem?, Array.getElem?_setIfInBounds]
  by_cases h : d = t
  · subst h; simp [hd]
  · simp [h]
def putT (dst : Option Tmp) (x : AV) (t : List (Nat × AV)) : List (Nat × AV) := match dst with
  | some d => (d, x) :: t
  | none => t
def inT (dst : Option Tmp) (n : Nat) : Prop := match dst with
  | some d => d < n
  | none => True
theorem Sat.put {C : Cx} {s : St} {a : Act} {w' : World} {E E' : Env} {h' : List (Nat × HS)} (hdf : a.defers = C.df) (hsz : a.tmps.size = C.nt) (hT : ∀ t, Rel E (lkT s.t t) (a.tmps.getD t undef)) (hE : Env.le E E') (hO : EOk C E' h' w')
    {dst : Option Tmp} (hd : inT dst C.nt) {x : AV} {v : Value} (hx : Rel E' x v) : Sat C ⟨putT dst x s.t, h'⟩ (a.put dst v) w' := by
  cases dst with
  | none => exact ⟨hdf, hsz, E', hO, fun t => Rel.mono hE (hT t)⟩
  | some d =>
    have hd' : d < a.tmps.size := by rw [hsz]; exact hd
    refine ⟨hdf, by simp [Act.put, hsz], E', hO, fun t => ?_⟩
    rw [getD_put hd' t]
    show Rel E' (if d = t then x else lkT s.t t) _
    split
    · exact hx
    · exact Rel.mono hE (hT t)
def chkT (t : List (Nat × AV)) : List (Nat × AV) → Prop
  | [] => True
  | (i, x) :: l => lkT t i = x ∧ chkT t l
def chkH (h : List (Nat × HS)) : List (Nat × HS) → Prop
  | [] => True
  | (i, x) :: l => lkH h i = x ∧ chkH h l
def relT (E : Env) (a : Act) : List (Nat × AV) → Prop
  | [] => True
  | (i, x) :: l => Rel E x (a.tmps.getD i undef) ∧ relT E a l
def relH (E : Env) (w : World) : List (Nat × HS) → Prop
  | [] => True
  | (i, .live o) :: l => (∃ h, E.φ i = some h ∧ ORel E w o h) ∧ relH E w l
  | (_, _) :: l => relH E w l
theorem relT_of {E : Env} {a : Act} {t : List (Nat × AV)} (h : ∀ i, Rel E (lkT t i) (a.tmps.getD i undef)) : ∀ {r : List (Nat × AV)}, chkT t r → relT E a r
  | [], _ => trivial
  | (i, x) :: l, ⟨e, k⟩ => ⟨e ▸ h i, relT_of h k⟩
theorem relH_of {C : Cx} {E : Env} {w : World} {h : List (Nat × HS)} (ho : EOk C E h w) : ∀ {r : List (Nat × HS)}, chkH h r → relH E w r
  | [], _ => trivial
  | (i, .live o) :: l, ⟨e, k⟩ => by
    have := ho.hs i
    rw [e] at this
    obtain ⟨v, hv, hr, _⟩ := this
    exact ⟨⟨v, hv, hr⟩, relH_of ho k⟩
  | (i, .fresh) :: l, ⟨_, k⟩ => by
    show relH E w l
    exact relH_of ho k
  | (i, .dead) :: l, ⟨_, k⟩ => by
    show relH E w l
    exact relH_of ho k
variable {P : Program}
def LAct (P : Program) (K : GL) (o : Oper) (rT : List (Nat × AV)) (rH : List (Nat × HS)) (x : AV) (wH : List (Nat × HS)) : Prop :=
  ∀ (C : Cx) (s : St) (a : Act) (w : World), C.gl = K → chkT s.t rT → chkH s.h rH → inT o.dst C.nt → Sat C s a w →
    o.wp P a w (fun a' w' => Sat C ⟨putT o.dst x s.t, wH ++ s.h⟩ a' w') (fun _ _ _ => False)
def PV (P : Program) (K : GL) (o : Oper) (rT : List (Nat × AV)) (rH : List (Nat × HS)) (x : AV) : Prop :=
  ∀ (E : Env) (a : Act) (w : World), (∀ b o, E.F b = some o → w.heap[b]? = some o) → (∀ i ds, K i = some ds → cellsAt E.F ⟨i, 0, none⟩ ds) → relT E a rT → relH E w rH → ∃ v, (execOp a.eval o).run P w = .ok (.value v) w ∧ Rel E x v
theorem PV.lact {o : Oper} {rT : List (Nat × AV)} {rH : List (Nat × HS)} {x : AV} {K : GL} (h : PV P K o rT rH x) : LAct P K o rT rH x [] := by
  intro C s a w hK hT hH hd hs
  subst hK
  obtain ⟨hdf, hsz, E, hO, hR⟩ := hs
  obtain ⟨v, hv, hx⟩ := h E a w hO.fz hO.g (relT_of hR hT) (relH_of hO hH)
  unfold Oper.wp
  rw [hv]
  exact Sat.put hdf hsz hR (Env.le_refl E) hO hd hx
end Go.Proofs.YtgmpgoafokdcbaaGreatDoor.Sx
