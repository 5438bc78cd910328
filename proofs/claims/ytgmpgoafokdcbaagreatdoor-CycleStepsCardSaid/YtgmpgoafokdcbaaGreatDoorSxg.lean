/- Part 7 of the small logic: calls by contract. -/
import Derived.Test.YtgmpgoafokdcbaaGreatDoorSxf
set_option linter.unusedVariables false
namespace Go.Proofs.YtgmpgoafokdcbaaGreatDoor.Sx
open Go Go.RowKit
variable {P : Program} {K : GL}
mutual
def renA (r : Nat → Nat) : AV → AV
  | .data d => .data d
  | .ptr k off => .ptr (r k) off
  | .row k => .row (r k)
  | .mp k => .mp (r k)
  | .via k R => .via (r k) R
  | .fn f first cap => .fn f (renAs r first) (renAs r cap)
  | .agg cs => .agg (renAs r cs)
  | .tup vs => .tup (renAs r vs)
  | .when b x => .when b (renA r x)
  | .any => .any
def renAs (r : Nat → Nat) : List AV → List AV
  | [] => []
  | x :: xs => renA r x :: renAs r xs
end
def renE : (Nat → Nat) → List (Value × AV) → List (Value × AV)
  | _, [] => []
  | r, (k, x) :: l => (k, renA r x) :: renE r l
def renT : (Nat → Nat) → List (Nat × AV) → List (Nat × AV)
  | _, [] => []
  | r, (k, x) :: l => (k, renA r x) :: renT r l
mutual
def renC (r : Nat → Nat) : TC → TC
  | .av x => .av (renA r x)
  | .own t sz n cs => .own t sz n (renCs r cs)
def renCs (r : Nat → Nat) : List TC → List TC
  | [] => []
  | x :: xs => renC r x :: renCs r xs
end
def renO (r : Nat → Nat) : AO → AO
  | .cells t cs => .cells t (renAs r cs)
  | .row t sz n cs => .row t sz n (renAs r cs)
  | .map es => .map (renE r es)
  | .loop ps asg body nt ts q => .loop ps asg body nt (renT r ts) q
  | .obj o => .obj o
  | .tree t sz n cs => .tree t sz n (renCs r cs)
mutual
theorem foot_ren (r : Nat → Nat) (w : World) : ∀ (x : TC) (v : Value), foot w (renC r x) v = foot w x v
  | .av _, _ => rfl
  | .own _ _ _ cs, v => by simp only [renC, foot]; rw [foots_ren r w cs]
theorem foots_ren (r : Nat → Nat) (w : World) : ∀ (xs : List TC) (vs : List Value), foots w (renCs r xs) vs = foots w xs vs
  | [], _ => rfl
  | x :: xs, vs => by simp only [renCs, foots]; rw [foot_ren r w x, foots_ren r w xs]
end
theorem oblk_ren {r : Nat → Nat} {w : World} {v : Value} {b : Nat} : ∀ {o : AO}, oblk w (renO r o) v b ↔ oblk w o v b
  | .tree _ _ _ cs => by simp only [renO, oblk, foot]; rw [foots_ren]
  | .cells _ _ => Iff.rfl
  | .row _ _ _ _ => Iff.rfl
  | .map _ => Iff.rfl
  | .loop _ _ _ _ _ _ => Iff.rfl
  | .obj _ => Iff.rfl
def renS (r : Nat → Nat) : HS → HS
  | .live o => .live (renO r o)
  | x => x
def renH (r : Nat → Nat) : List (Nat × HS) → List (Nat × HS)
  | [] => []
  | (k, x) :: l => (r k, renS r x) :: renH r l
def Pulls (r : Nat → Nat) (p : Nat → Bool) (E E' : Env) : Prop := FH.le E.F E'.F ∧ ∀ k, p k = true → ∀ h, E.φ k = some h → E'.φ (r k) = some h
def Pushes (r : Nat → Nat) (p : Nat → Bool) (E E' : Env) : Prop := FH.le E'.F E.F ∧ ∀ k, p k = true → ∀ h, E'.φ (r k) = some h → E.φ k = some h
mutual
theorem Rel.up {r : Nat → Nat} {p : Nat → Bool} {E E' : Env} (h : Pulls r p E E') : ∀ {x : AV} {v : Value}, okA p x = true → Rel E x v → Rel E' (renA r x) v
  | .data d, _, _, k => d.mono h.1 k
  | .ptr _ _, _, o, ⟨b, e, q⟩ => ⟨b, h.2 _ o _ e, q⟩
  | .row _, _, o, ⟨e, q⟩ => ⟨h.2 _ o _ e, q⟩
  | .mp _, _, o, ⟨e, q⟩ => ⟨h.2 _ o _ e, q⟩
  | .via _ _, _, o, ⟨x, e, q⟩ => ⟨x, h.2 _ o _ e, q⟩
  | .fn _ first cap, _, o, ⟨fs, cs, e, h1, h2⟩ => by
    have k' : (okAs p first && okAs p cap) = true := o
    rw [Bool.and_eq_true] at k'
    exact ⟨fs, cs, e, Rels.up h k'.1 h1, Rels.up h k'.2 h2⟩
  | .agg cs, _, o, ⟨vs, e, h1, h2⟩ => ⟨vs, e, Rels.up h (xs := cs) o h1, h2⟩
  | .tup xs, _, o, ⟨vs, e, h1⟩ => ⟨vs, e, Rels.up h (xs := xs) o h1⟩
  | .when _ x, _, o, k => ⟨fun e => Rel.up h (x := x) o (k.1 e), k.2⟩
  | .any, _, _, _ => trivial
theorem Rels.up {r : Nat → Nat} {p : Nat → Bool} {E E' : Env} (h : Pulls r p E E') : ∀ {xs : List AV} {vs : List Value}, okAs p xs = true → Rels E xs vs → Rels E' (renAs r xs) vs
  | [], _, _, k => k
  | x :: xs, _, o, ⟨u, us, e, h1, h2⟩ => by
    have k' : (okA p x && okAs p xs) = true := o
    rw [Bool.and_eq_true] at k'
    exact ⟨u, us, e, Rel.up h k'.1 h1, Rels.up h k'.2 h2⟩
end
mutual
theorem Rel.down {r : Nat → Nat} {p : Nat → Bool} {E E' : Env} (h : Pushes r p E E') : ∀ {x : AV} {v : Value}, okA p x = true → Rel E' (renA r x) v → Rel E x v
  | .data d, _, _, k => d.mono h.1 k
  | .ptr _ _, _, o, ⟨b, e, q⟩ => ⟨b, h.2 _ o _ e, q⟩
  | .row _, _, o, ⟨e, q⟩ => ⟨h.2 _ o _ e, q⟩
  | .mp _, _, o, ⟨e, q⟩ => ⟨h.2 _ o _ e, q⟩
  | .via _ _, _, o, ⟨x, e, q⟩ => ⟨x, h.2 _ o _ e, q⟩
  | .fn _ first cap, _, o, ⟨fs, cs, e, h1, h2⟩ => by
    have k' : (okAs p first && okAs p cap) = true := o
    rw [Bool.and_eq_true] at k'
    exact ⟨fs, cs, e, Rels.down h k'.1 h1, Rels.down h k'.2 h2⟩
  | .agg cs, _, o, ⟨vs, e, h1, h2⟩ => ⟨vs, e, Rels.down h (xs := cs) o h1, h2⟩
  | .tup xs, _, o, ⟨vs, e, h1⟩ => ⟨vs, e, Rels.down h (xs := xs) o h1⟩
  | .when _ x, _, o, k => ⟨fun e => Rel.down h (x := x) o (k.1 e), k.2⟩
  | .any, _, _, _ => trivial
theorem Rels.down {r : Nat → Nat} {p : Nat → Bool} {E E' : Env} (h : Pushes r p E E') : ∀ {xs : List AV} {vs : List Value}, okAs p xs = true → Rels E' (renAs r xs) vs → Rels E xs vs
  | [], _, _, k => k
  | x :: xs, _, o, ⟨u, us, e, h1, h2⟩ => by
    have k' : (okA p x && okAs p xs) = true := o
    rw [Bool.and_eq_true] at k'
    exact ⟨u, us, e, Rel.down h k'.1 h1, Rels.down h k'.2 h2⟩
end
theorem renE_fst (r : Nat → Nat) : ∀ es : List (Value × AV), (renE r es).map (·.1) = es.map (·.1)
  | [] => rfl
  | (k, x) :: l => by simp [renE, renE_fst r l]
theorem renE_snd (r : Nat → Nat) : ∀ es : List (Value × AV), (renE r es).map (·.2) = renAs r (es.map (·.2))
  | [] => rfl
  | (k, x) :: l => by simp [renE, renAs, renE_snd r l]
theorem renT_snd (r : Nat → Nat) : ∀ ts : List (Nat × AV), (renT r ts).map (·.2) = renAs r (ts.map (·.2))
  | [] => rfl
  | (k, x) :: l => by simp [renT, renAs, renT_snd r l]
theorem renT_get {β : Type} (r : Nat → Nat) (g : Nat → β) : ∀ ts : List (Nat × AV), (renT r ts).map (fun p => g p.1) = ts.map (fun p => g p.1)
  | [] => rfl
  | (k, x) :: l => by simp [renT, renT_get r g l]
mutual
theorem TRel.up {r : Nat → Nat} {p : Nat → Bool} {E E' : Env} {w : World} (h : Pulls r p E E') : ∀ {x : TC} {v : Value}, okC p x = true → TRel E w x v → TRel E' w (renC r x) v
  | .av _, _, k, q => Rel.up h k q
  | .own _ _ _ _, _, k, ⟨vs, ho, hr, h1⟩ => ⟨vs, ho, TRels.up h k hr, h1⟩
theorem TRels.up {r : Nat → Nat} {p : Nat → Bool} {E E' : Env} {w : World} (h : Pulls r p E E') : ∀ {xs : List TC} {vs : List Value}, okCs p xs = true → TRels E w xs vs → TRels E' w (renCs r xs) vs
  | [], _, _, q => q
  | x :: xs, _, k, ⟨u, us, e, h1, h2⟩ => by
    have k' : (okC p x && okCs p xs) = true := k
    rw [Bool.and_eq_true] at k'
    exact ⟨u, us, e, TRel.up h (x := x) k'.1 h1, TRels.up h (xs := xs) k'.2 h2⟩
end
mutual
theorem TRel.down {r : Nat → Nat} {p : Nat → Bool} {E E' : Env} {w : World} (h : Pushes r p E E') : ∀ {x : TC} {v : Value}, okC p x = true → TRel E' w (renC r x) v → TRel E w x v
  | .av _, _, k, q => Rel.down h k q
  | .own _ _ _ _, _, k, ⟨vs, ho, hr, h1⟩ => ⟨vs, ho, TRels.down h k hr, h1⟩
theorem TRels.down {r : Nat → Nat} {p : Nat → Bool} {E E' : Env} {w : World} (h : Pushes r p E E') : ∀ {xs : List TC} {vs : List Value}, okCs p xs = true → TRels E' w (renCs r xs) vs → TRels E w xs vs
  | [], _, _, q => q
  | x :: xs, _, k, ⟨u, us, e, h1, h2⟩ => by
    have k' : (okC p x && okCs p xs) = true := k
    rw [Bool.and_eq_true] at k'
    exact ⟨u, us, e, TRel.down h (x := x) k'.1 h1, TRels.down h (xs := xs) k'.2 h2⟩
end
theorem ORel.up {r : Nat → Nat} {p : Nat → Bool} {E E' : Env} {w : World} (h : Pulls r p E E') : ∀ {o : AO} {v : Value}, okO p o = true → ORel E w o v → ORel E' w (renO r o) v
  | .cells _ _, _, k, ⟨b, vs, e, hb, hr, h1⟩ => ⟨b, vs, e, hb, Rels.up h k hr, h1⟩
  | .row _ _ _ _, _, k, ⟨vs, ho, hr, h1⟩ => ⟨vs, ho, Rels.up h k hr, h1⟩
  | .map es, _, k, ⟨q, ents, c, e, hb, hk, hr⟩ => ⟨q, ents, c, e, hb, by rw [renE_fst]; exact hk, by rw [renE_snd]; exact Rels.up h k hr⟩
  | .loop _ _ _ _ _ _, _, k, ⟨l, fn, tm, D, e, hb, hn, hr⟩ => ⟨l, fn, tm, D, e, hb, hn, by rw [renT_snd, renT_get r (fun i => tm.getD i undef)]; exact Rels.up h k hr⟩
  | .obj _, _, _, h => h
  | .tree _ _ _ cs, v, k, ⟨h1, h2⟩ => ⟨TRel.up h (x := .own _ _ _ _) k h1, by rw [show foot w (.own _ _ _ (renCs r cs)) v = foot w (.own _ _ _ cs) v from foot_ren r w (.own _ _ _ cs) v]; exact h2⟩
theorem ORel.down {r : Nat → Nat} {p : Nat → Bool} {E E' : Env} {w : World} (h : Pushes r p E E') : ∀ {o : AO} {v : Value}, okO p o = true → ORel E' w (renO r o) v → ORel E w o v
  | .cells _ _, _, k, ⟨b, vs, e, hb, hr, h1⟩ => ⟨b, vs, e, hb, Rels.down h k hr, h1⟩
  | .row _ _ _ _, _, k, ⟨vs, ho, hr, h1⟩ => ⟨vs, ho, Rels.down h k hr, h1⟩
  | .map es, _, k, ⟨q, ents, c, e, hb, hk, hr⟩ => ⟨q, ents, c, e, hb, by rw [renE_fst] at hk; exact hk, by rw [renE_snd] at hr; exact Rels.down h k hr⟩
  | .loop _ _ _ _ _ _, _, k, ⟨l, fn, tm, D, e, hb, hn, hr⟩ => ⟨l, fn, tm, D, e, hb, hn, by rw [renT_snd, renT_get r (fun i => tm.getD i undef)] at hr; exact Rels.down h k hr⟩
  | .obj _, _, _, h => h
  | .tree _ _ _ cs, v, k, ⟨h1, h2⟩ => ⟨TRel.down h (x := .own _ _ _ _) k h1, by rw [← show foot w (.own _ _ _ (renCs r cs)) v = foot w (.own _ _ _ cs) v from foot_ren r w (.own _ _ _ cs) v]; exact h2⟩
theorem lkH_none {h : List (Nat × HS)} {k : Nat} (hk : ∀ x, (k, x) ∉ h) : lkH h k = .fresh := by
  induction h with
  | nil => rfl
  | cons y l ih =>
    obtain ⟨i, x⟩ := y
    simp only [lkH]
    rw [if_neg (by rintro rfl; exact hk x (by simp))]
    exact ih (fun z hz => hk z (by simp [hz]))
theorem lkH_renH {r : Nat → Nat} {k : Nat} : ∀ {h : List (Nat × HS)}, (∀ i ∈ h.map (·.1), r i = r k → i = k) → ∀ l : List (Nat × HS), k ∈ h.map (·.1) → lkH (renH r h ++ l) (r k) = renS r (lkH h k)
  | [], _, _, hm => by simp at hm
  | (i, x) :: h, hi, l, hm => by
    show (if r i = r k then renS r x else lkH (renH r h ++ l) (r k)) = renS r (if i = k then x else lkH h k)
    by_cases e : i = k
    · subst e; simp
    · rw [if_neg (fun hh => e (hi i (by simp) hh)), if_neg e]
      exact lkH_renH (fun j hj => hi j (by simp [hj])) l (by simpa [Ne.symm e] using hm)
theorem lkH_renH_ne {r : Nat → Nat} {i : Nat} : ∀ {h : List (Nat × HS)}, (∀ k ∈ h.map (·.1), r k ≠ i) → ∀ l : List (Nat × HS), lkH (renH r h ++ l) i = lkH l i
  | [], _, _ => rfl
  | (k, x) :: h, hi, l => by
    show (if r k = i then renS r x else lkH (renH r h ++ l) i) = _
    rw [if_neg (hi k (by simp))]
    exact lkH_renH_ne (fun j hj => hi j (by simp [hj])) l
theorem chkH_renH {r : Nat → Nat} {s : List (Nat × HS)} {k : Nat} : ∀ {h : List (Nat × HS)}, chkH s (renH r h) → k ∈ h.map (·.1) → lkH s (r k) = renS r (lkH h k)
  | [], _, hm => by simp at hm
  | (i, x) :: h, hc, hm => by
    show _ = renS r (if i = k then x else lkH h k)
    by_cases e : i = k
    · subst e; rw [if_pos rfl]; exact hc.1
    · rw [if_neg e]
      exact chkH_renH hc.2 (by simpa [Ne.symm e] using hm)
def rOf (ids : List Nat) (k : Nat) : Nat := ids.getD k 0
structure CallOk (ids : List Nat) (args : List AV) (pre : List (Nat × HS)) (ret : AV) (post : List (Nat × HS)) : Prop where
  nd : ids.Nodup
  kp : pre.map (·.1) = List.range ids.length
  kq : post.map (·.1) = List.range ids.length
  oa : okAs (kept pre) args = true
  op : ∀ k, okH (kept pre) (lkH pre k) = true
  oq : ∀ k, okH (kept post) (lkH post k) = true
  or_ : okA (kept post) ret = true
theorem kept_mem {h : List (Nat × HS)} {m k : Nat} (hk : h.map (·.1) = List.range m) (e : kept h k = true) : k < m := by
  rcases Nat.lt_or_ge k m with h1 | h1
  · exact h1
  · exfalso
    have : lkH h k = .fresh := lkH_none (fun x hx => by
      have : k ∈ h.map (·.1) := List.mem_map.2 ⟨_, hx, rfl⟩
      rw [hk, List.mem_range] at this
      omega)
    simp [kept, this] at e
theorem rOf_inj {ids : List Nat} (hn : ids.Nodup) {i j : Nat} (hi : i < ids.length) (hj : j < ids.length) (e : rOf ids i = rOf ids j) : i = j := by
  simp only [rOf, List.getD_eq_getElem?_getD, List.getElem?_eq_getElem hi, List.getElem?_eq_getElem hj, Option.getD_some] at e
  have hp := List.pairwise_iff_getElem.1 hn
  rcases Nat.lt_trichotomy i j with h1 | h1 | h1
  · exact absurd e (hp i j hi hj h1)
  · exact h1
  · exact absurd e.symm (hp j i hj hi h1)
theorem call_core {ids : List Nat} {args : List AV} {pre post : List (Nat × HS)} {ret : AV} (hc : CallOk ids args pre ret post) {C : Cx} {E : Env} {s : List (Nat × HS)} {w : World} {vs : List Value} (hK : C.gl = K)
    (hO : EOk C E s w) (hv : Rels E (renAs (rOf ids) args) vs) (hp : chkH s (renH (rOf ids) pre)) :
    ∃ (Cl : Cx) (El : Env), Cl.gl = K ∧ Cl.df = [] ∧ Cl.w0 = w ∧ Cl.F0 = El.F ∧ (∀ k v, El.φ k = some v → Cl.hd k = some v) ∧ (∀ k, kept pre k = false → Cl.hd k = none) ∧ EOk Cl El pre w ∧ Rels El args vs ∧
      (∀ k x, kept pre k = true → E.φ (rOf ids k) = some x → El.φ k = some x) ∧
      ∀ (v : Value) (E1 : Env) (w' : World), Rel E1 ret v → EOk Cl E1 post w' → ∃ E', Env.le E E' ∧ Rel E' (renA (rOf ids) ret) v ∧ EOk C E' (renH (rOf ids) post ++ s) w' := by
  let r := rOf ids
  let El : Env := ⟨E.F, fun k => if kept pre k then E.φ (r k) else none⟩
  have hlt : ∀ {k}, kept pre k = true → k < ids.length := fun e => kept_mem hc.kp e
  have hltq : ∀ {k}, kept post k = true → k < ids.length := fun e => kept_mem hc.kq e
  have memp : ∀ {k}, k < ids.length → k ∈ pre.map (·.1) := fun e => by rw [hc.kp]; exact List.mem_range.2 e
  have memq : ∀ {k}, k < ids.length → k ∈ post.map (·.1) := fun e => by rw [hc.kq]; exact List.mem_range.2 e
  have stp : ∀ {k}, k < ids.length → lkH s (r k) = renS r (lkH pre k) := fun e => chkH_renH hp (memp e)
  have hpush : Pushes r (kept pre) El E := ⟨FH.le_refl _, fun k e x hx => by show (if kept pre k then E.φ (r k) else none) = _; rw [if_pos e]; exact hx⟩
  let Cl : Cx := { w0 := w, F0 := E.F, own := fun b => ∃ k o x, lkH pre k = .live o ∧ El.φ k = some x ∧ oblk w o x b, nt := 0, hd := El.φ, gl := K }
  have live : ∀ {k o}, lkH pre k = .live o → kept pre k = true := fun e => by simp [kept, e]
  have hEl : ∀ {k}, kept pre k = true → El.φ k = E.φ (r k) := fun e => by show (if _ then _ else _) = _; rw [if_pos e]
  have hl0 : EOk Cl El pre w := by
    refine ⟨FH.le_refl _, fun k v e => e, hO.fz, fun b o e => .inl e, fun k => ?_, ?_, ⟨rfl, rfl, rfl, Nat.le_refl _, fun _ _ _ => rfl⟩, fun i ds e => hO.g i ds (hK ▸ e)⟩
    · cases hs : lkH pre k with
      | fresh =>
        show (if kept pre k then E.φ (r k) else none) = none
        simp [kept, hs]
      | dead => trivial
      | live o =>
        have hk := live hs
        have := hO.hs (r k)
        rw [stp (hlt hk), hs] at this
        obtain ⟨x, hx, ho, hn⟩ := this
        have hok := hc.op k
        rw [hs] at hok
        exact ⟨x, (hEl hk).trans hx, ORel.down hpush hok ho, fun b hb => ⟨(hn b (oblk_ren.2 hb)).1, .inl ⟨k, o, x, hs, (hEl hk).trans hx, hb⟩⟩⟩
    · intro i j oi oj hi hj b li lj ei ej bi bj
      have ki := live li
      have kj := live lj
      rw [hEl ki] at ei
      rw [hEl kj] at ej
      have si := stp (hlt ki)
      have sj := stp (hlt kj)
      rw [li] at si
      rw [lj] at sj
      exact rOf_inj hc.nd (hlt ki) (hlt kj) (hO.inj _ _ _ _ hi hj b si sj ei ej (oblk_ren.2 bi) (oblk_ren.2 bj))
  refine ⟨Cl, El, rfl, rfl, rfl, rfl, fun _ _ e => e, fun k e => by show (if kept pre k then E.φ (r k) else none) = none; rw [e]; rfl, hl0, Rels.down hpush hc.oa hv, fun k x e hx => (hEl e).trans hx, ?_⟩
  intro v E1 w' hr h1
  let φ' : Nat → Option Value := fun i => open Classical in if hx : ∃ k, k < ids.length ∧ r k = i then E1.φ (Classical.choose hx) else E.φ i
  have hφ : ∀ {k}, k < ids.length → φ' (r k) = E1.φ k := fun {k} e => by
    have hx : ∃ j, j < ids.length ∧ r j = r k := ⟨k, e, rfl⟩
    show (if hx : ∃ j, j < ids.length ∧ r j = r k then E1.φ (Classical.choose hx) else E.φ (r k)) = _
    rw [dif_pos hx]
    have := Classical.choose_spec hx
    rw [rOf_inj hc.nd this.1 e this.2]
  have hφn : ∀ {i}, (¬ ∃ k, k < ids.length ∧ r k = i) → φ' i = E.φ i := fun {i} e => by
    show (if hx : ∃ j, j < ids.length ∧ r j = i then E1.φ (Classical.choose hx) else E.φ i) = _
    rw [dif_neg e]
  let E' : Env := ⟨E1.F, φ'⟩
  have hF : FH.le E.F E1.F := h1.f0
  have hle : Env.le E E' := ⟨hF, fun i x e => by
    by_cases hx : ∃ k, k < ids.length ∧ r k = i
    · obtain ⟨k, hk, rfl⟩ := hx
      show φ' (r k) = some x
      rw [hφ hk]
      by_cases hq : kept pre k = true
      · exact h1.hd k x ((hEl hq).trans e)
      · exfalso
        have hs : lkH pre k = .fresh := by
          cases hs : lkH pre k <;> simp_all [kept]
        have := hO.hs (r k)
        rw [stp hk, hs] at this
        have hn : E.φ (r k) = none := this
        rw [hn] at e
        cases e
    · exact (hφn hx).trans e⟩
  have hpull : Pulls r (kept post) E1 E' := ⟨FH.le_refl _, fun k e x hx => (hφ (hltq e)).trans hx⟩
  have ownlt : ∀ b, Cl.own b → b < w.heap.size ∧ E.F b = none ∧ (C.own b ∨ C.w0.heap.size ≤ b) := by
    rintro b ⟨k, o, x, hs, ex, hb⟩
    have := hl0.hs k
    rw [hs] at this
    obtain ⟨x', ex', ho, hn⟩ := this
    rw [ex] at ex'
    cases ex'
    have hk := live hs
    have h2 := hO.hs (r k)
    rw [stp (hlt hk), hs] at h2
    obtain ⟨x2, e2, _, hn2⟩ := h2
    rw [hEl hk] at ex
    rw [ex] at e2
    cases e2
    exact ⟨ho.lt b hb, (hn b hb).1, (hn2 b (oblk_ren.2 hb)).2⟩
  have sto : ∀ {i}, (¬ ∃ k, k < ids.length ∧ r k = i) → lkH (renH r post ++ s) i = lkH s i := fun {i} e => lkH_renH_ne (fun k hk hr' => e ⟨k, by rw [hc.kq] at hk; exact List.mem_range.1 hk, hr'⟩) s
  have stq : ∀ {k}, k < ids.length → lkH (renH r post ++ s) (r k) = renS r (lkH post k) := fun {k} e => lkH_renH (fun i hi hr' => by
    rw [hc.kq, List.mem_range] at hi
    exact rOf_inj hc.nd hi e hr') s (memq e)
  have keep : ∀ {i o x b}, (¬ ∃ k, k < ids.length ∧ r k = i) → lkH s i = .live o → E.φ i = some x → oblk w o x b → b < w.heap.size ∧ ¬ Cl.own b := by
    intro i o x b hne hs ex hb
    have := hO.hs i
    rw [hs] at this
    obtain ⟨x', ex', ho, hn⟩ := this
    rw [ex] at ex'
    cases ex'
    refine ⟨ho.lt b hb, ?_⟩
    rintro ⟨k, o2, x2, hs2, e2, hb2⟩
    have hk := live hs2
    rw [hEl hk] at e2
    have st2 := stp (hlt hk)
    rw [hs2] at st2
    exact hne ⟨k, hlt hk, (hO.inj (r k) i _ _ x2 x b st2 hs e2 ex (oblk_ren.2 hb2) hb)⟩
  have hsame : ∀ {i o x}, (¬ ∃ k, k < ids.length ∧ r k = i) → lkH s i = .live o → E.φ i = some x → (∀ b, oblk w o x b → w'.heap[b]? = w.heap[b]?) ∧ ∀ b, oblk w' o x b ↔ oblk w o x b := by
    intro i o x hne hs ex
    have h1' : ∀ b, oblk w o x b → w'.heap[b]? = w.heap[b]? := fun b hb => by
      obtain ⟨hb1, hb2⟩ := keep hne hs ex hb
      exact h1.w.block b hb1 hb2
    have := hO.hs i
    rw [hs] at this
    obtain ⟨x', ex', ho, _⟩ := this
    rw [ex] at ex'
    cases ex'
    exact ⟨h1', oblk_world h1' ho⟩
  have liveq : ∀ {k o}, lkH (renH r post ++ s) (r k) = renS r (lkH post k) → lkH (renH r post ++ s) (r k) = .live o → ∃ o1, lkH post k = .live o1 ∧ o = renO r o1 := by
    intro k o e1 e2
    rw [e1] at e2
    cases hs : lkH post k with
    | fresh => rw [hs] at e2; cases e2
    | dead => rw [hs] at e2; cases e2
    | live o1 => rw [hs] at e2; cases e2; exact ⟨o1, rfl, rfl⟩
  refine ⟨E', hle, Rel.up hpull hc.or_ hr, FH.le_trans hO.f0 hF, fun k x e => hle.2 k x (hO.hd k x e), h1.fz, fun b o e => ?_, fun i => ?_, ?_, ?_, ?_⟩
  · rcases h1.fn b o e with h2 | h2 | h2
    · exact hO.fn b o h2
    · exact .inr (.inl (Nat.le_trans hO.w.size h2))
    · rcases (ownlt b h2).2.2 with h3 | h3
      · exact .inr (.inr h3)
      · exact .inr (.inl h3)
  · by_cases hx : ∃ k, k < ids.length ∧ r k = i
    · obtain ⟨k, hk, rfl⟩ := hx
      rw [stq hk]
      have := h1.hs k
      cases hs : lkH post k with
      | fresh =>
        rw [hs] at this
        exact (hφ hk).trans this
      | dead => trivial
      | live o =>
        rw [hs] at this
        obtain ⟨x, ex, ho, hn⟩ := this
        have hok := hc.oq k
        rw [hs] at hok
        refine ⟨x, (hφ hk).trans ex, ORel.up hpull hok ho, fun b hb => ⟨(hn b (oblk_ren.1 hb)).1, ?_⟩⟩
        rcases (hn b (oblk_ren.1 hb)).2 with h2 | h2
        · exact (ownlt b h2).2.2
        · exact .inr (Nat.le_trans hO.w.size h2)
    · rw [sto hx]
      have := hO.hs i
      cases hs : lkH s i with
      | fresh =>
        rw [hs] at this
        exact (hφn hx).trans this
      | dead => trivial
      | live o =>
        rw [hs] at this
        obtain ⟨x, ex, ho, hn⟩ := this
        have hsm := hsame hx hs ex
        refine ⟨x, (hφn hx).trans ex, (ho.world hsm.1).mono hle, fun b hb => ⟨?_, (hn b ((hsm.2 b).1 hb)).2⟩⟩
        · have hb := (hsm.2 b).1 hb
          obtain ⟨hb1, hb2⟩ := keep hx hs ex hb
          cases hF1 : E1.F b with
          | none => rfl
          | some ob =>
            exfalso
            rcases h1.fn b ob hF1 with h2 | h2 | h2
            · rw [show Cl.F0 b = E.F b from rfl, (hn b hb).1] at h2
              cases h2
            · have h2' : w.heap.size ≤ b := h2
              omega
            · exact hb2 h2
  · have mix : ∀ {k j oi oj hi hj b}, k < ids.length → (¬ ∃ k, k < ids.length ∧ r k = j) → lkH (renH r post ++ s) (r k) = .live oi → lkH (renH r post ++ s) j = .live oj → E'.φ (r k) = some hi → E'.φ j = some hj → oblk w' oi hi b → oblk w' oj hj b → False := by
      intro k j oi oj hi hj b hk hy li lj ei ej bi bj
      obtain ⟨o1, hs, rfl⟩ := liveq (stq hk) li
      rw [sto hy] at lj
      have ei' : E1.φ k = some hi := (hφ hk).symm.trans ei
      have ej' : E.φ j = some hj := (hφn hy).symm.trans ej
      obtain ⟨hb1, hb2⟩ := keep hy lj ej' (((hsame hy lj ej').2 b).1 bj)
      have := h1.hs k
      rw [hs] at this
      obtain ⟨x, ex, _, hn⟩ := this
      rw [ei'] at ex
      cases ex
      rcases (hn b (oblk_ren.1 bi)).2 with h2 | h2
      · exact hb2 h2
      · have h2' : w.heap.size ≤ b := h2
        omega
    intro i j oi oj hi hj b li lj ei ej bi bj
    by_cases hx : ∃ k, k < ids.length ∧ r k = i <;> by_cases hy : ∃ k, k < ids.length ∧ r k = j
    · obtain ⟨k, hk, rfl⟩ := hx
      obtain ⟨l, hl, rfl⟩ := hy
      obtain ⟨o1, hs, rfl⟩ := liveq (stq hk) li
      obtain ⟨o2, hs2, rfl⟩ := liveq (stq hl) lj
      have ei' : E1.φ k = some hi := (hφ hk).symm.trans ei
      have ej' : E1.φ l = some hj := (hφ hl).symm.trans ej
      rw [h1.inj k l o1 o2 hi hj b hs hs2 ei' ej' (oblk_ren.1 bi) (oblk_ren.1 bj)]
    · obtain ⟨k, hk, rfl⟩ := hx
      exact (mix hk hy li lj ei ej bi bj).elim
    · obtain ⟨k, hk, rfl⟩ := hy
      exact (mix hk hx lj li ej ei bj bi).elim
    · rw [sto hx] at li
      rw [sto hy] at lj
      have ei' : E.φ i = some hi := (hφn hx).symm.trans ei
      have ej' : E.φ j = some hj := (hφn hy).symm.trans ej
      exact hO.inj i j oi oj hi hj b li lj ei' ej' (((hsame hx li ei').2 b).1 bi) (((hsame hy lj ej').2 b).1 bj)
  · have hw := h1.w
    refine ⟨hw.os.trans hO.w.os, hw.tape.trans hO.w.tape, hw.output.trans hO.w.output, Nat.le_trans hO.w.size hw.size, fun b hb hno => ?_⟩
    refine (hw.block b (Nat.lt_of_lt_of_le hb hO.w.size) ?_).trans (hO.w.block b hb hno)
    intro h2
    rcases (ownlt b h2).2.2 with h3 | h3
    · exact hno h3
    · omega
  · intro i ds e
    exact cellsAt_le hF (hO.g i ds e)
theorem call_sat {f : FuncId} {ids : List Nat} {args : List AV} {pre post : List (Nat × HS)} {ret : AV} (h : FnOk P K f args pre ret post) (hc : CallOk ids args pre ret post) {C : Cx} {E : Env} {s : List (Nat × HS)} {w : World} {vs : List Value} (hK : C.gl = K)
    (hO : EOk C E s w) (hv : Rels E (renAs (rOf ids) args) vs) (hp : chkH s (renH (rOf ids) pre)) :
    Calls P f vs.toArray w fun e w' => ∃ v E', e = .returned v ∧ Env.le E E' ∧ Rel E' (renA (rOf ids) ret) v ∧ EOk C E' (renH (rOf ids) post ++ s) w' := by
  obtain ⟨Cl, El, h1, _, rfl, h3, h4, h5, h6, h7, _, h8⟩ := call_core hc hK hO hv hp
  refine (h Cl El vs h1 h3 h4 h5 h6 h7).mono ?_
  rintro e w' ⟨v, E1, rfl, hr, hE⟩
  obtain ⟨E', k1, k2, k3⟩ := h8 v E1 w' hr hE
  exact ⟨v, E', rfl, k1, k2, k3⟩
structure Ent1 (P : Program) (f : FuncId) : Prop where
  run : ∀ args w, (callFunc f args).run P w = .ok (.enter f args) w
theorem ent1_of {f : FuncId} {fn : Func} (hf : P.funcs[f]? = some fn) (hn : (fn.name == "runtime.NumGoroutine") = false) (hb : fn.body.isNone = false) : Ent1 P f := ⟨fun args w => by
  simp only [callFunc, Sem.run_bind, run_program, Result.andThen_ok, hf]
  simp [hn, hb]⟩
section
variable {dst : Option Tmp} {ty : TypeId} {pos : String} {after : Array Edge} {g : Option (Nat × Bool)}
theorem la_call {f : FuncId} {ids : List Nat} {args vs : List AV} {pre post : List (Nat × HS)} {ret : AV} {xs : Array Operand} {ats : Array TypeId} (h : FnOk P K f args pre ret post) (he : Ent1 P f) (hc : CallOk ids args pre ret post) (ha : renAs (rOf ids) args = vs) (hv : OVs xs.toList vs) :
    LAct P K ⟨dst, .call { callee := .value (.func f), args := xs, argTypes := ats }, ty, pos, after, g⟩ (rdOs xs.toList vs) (renH (rOf ids) pre) (renA (rOf ids) ret) (renH (rOf ids) post) := by
  subst ha
  intro C s a w hK hT hH hd hsat
  obtain ⟨hdf, hsz, E, hO, hR⟩ := hsat
  have hx := rdOs_rel (relT_of hR hT) hv
  unfold Oper.wp
  have hex : (execOp a.eval ⟨dst, .call { callee := .value (.func f), args := xs, argTypes := ats }, ty, pos, after, g⟩).run P w = .ok (.enter f (xs.toList.map a.eval).toArray) w := by
    simp only [execOp, resolve, Act.eval, Deferred.ofValue, Sem.run_bind, Sem.run_pure, Result.andThen_ok, invoke]
    have := he.run (#[] ++ xs.map a.eval ++ #[]) w
    have e1 : (#[] ++ xs.map a.eval ++ #[] : Array Value) = (xs.toList.map a.eval).toArray := by apply Array.ext'; simp
    rw [e1] at this ⊢
    exact this
  rw [hex, Oper.upon_enter]
  refine (call_sat h hc hK hO hx hH).mono ?_
  rintro e w' ⟨v, E', rfl, hle, hr, hO'⟩
  exact Sat.put hdf hsz hR hle hO' hd hr
theorem la_callv {f : FuncId} {ids : List Nat} {args vs first cap : List AV} {pre post : List (Nat × HS)} {ret : AV} {x : Operand} {xs : Array Operand} {ats : Array TypeId} (h : FnOk P K f args pre ret post) (he : Ent1 P f) (hc : CallOk ids args pre ret post) (hx : OV x (.fn (.func f) first cap)) (ha : renAs (rOf ids) args = first ++ vs ++ cap) (hv : OVs xs.toList vs) :
    LAct P K ⟨dst, .call { callee := .value x, args := xs, argTypes := ats }, ty, pos, after, g⟩ (rdO x (.fn (.func f) first cap) ++ rdOs xs.toList vs) (renH (rOf ids) pre) (renA (rOf ids) ret) (renH (rOf ids) post) := by
  intro C s a w hK hT hH hd hsat
  obtain ⟨hdf, hsz, E, hO, hR⟩ := hsat
  have hT' := relT_append.1 (relT_of hR hT)
  have hxs := rdOs_rel hT'.2 hv
  obtain ⟨fs, cs, hfv, hfs, hcs⟩ := rdO_rel hT'.1 hx
  unfold Oper.wp
  have hex : (execOp a.eval ⟨dst, .call { callee := .value x, args := xs, argTypes := ats }, ty, pos, after, g⟩).run P w = .ok (.enter f (fs ++ xs.toList.map a.eval ++ cs).toArray) w := by
    simp only [execOp, resolve, hfv, Deferred.ofValue, Sem.run_bind, Sem.run_pure, Result.andThen_ok, invoke]
    have := he.run (fs.toArray ++ xs.map a.eval ++ cs.toArray) w
    have e1 : (fs.toArray ++ xs.map a.eval ++ cs.toArray : Array Value) = (fs ++ xs.toList.map a.eval ++ cs).toArray := by apply Array.ext'; simp
    rw [e1] at this ⊢
    exact this
  rw [hex, Oper.upon_enter]
  refine (call_sat h hc hK hO (by rw [ha]; exact (hfs.append hxs).append hcs) hH).mono ?_
  rintro e w' ⟨v, E', rfl, hle, hr, hO'⟩
  exact Sat.put hdf hsz hR hle hO' hd hr
end
end Go.Proofs.YtgmpgoafokdcbaaGreatDoor.Sx
