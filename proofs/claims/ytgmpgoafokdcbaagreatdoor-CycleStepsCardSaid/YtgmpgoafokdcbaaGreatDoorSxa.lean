/- The words of a small logic over the model's machine: what is known of a value (D, AV), of a block (AO), of a state (Sat). Part 1: values. -/
import Derived.Below
import Derived.WalkKit
import Derived.Orders
namespace Go.Proofs.YtgmpgoafokdcbaaGreatDoor.Sx
open Go Go.RowKit
abbrev FH := Nat → Option Obj
def FH.le (F F' : FH) : Prop := ∀ b o, F b = some o → F' b = some o
theorem FH.le_refl (F : FH) : FH.le F F := fun _ _ h => h
theorem FH.le_trans {F F' F'' : FH} (h : FH.le F F') (k : FH.le F' F'') : FH.le F F'' := fun b o e => k b o (h b o e)
def fcell (F : FH) (a : Addr) : Option Value :=
  match F a.block with
  | some (.cells c _ _) => if a.spot.isSome then none else c[a.off]?
  | _ => none
theorem fcell_le {F F' : FH} (h : FH.le F F') {a : Addr} {v : Value} (e : fcell F a = some v) : fcell F' a = some v := by
  unfold fcell at *
  cases hb : F a.block with
  | none => rw [hb] at e; cases e
  | some o => rw [h _ _ hb]; rw [hb] at e; exact e
theorem fcell_world {F : FH} {w : World} (h : ∀ b o, F b = some o → w.heap[b]? = some o) {a : Addr} {v : Value} (e : fcell F a = some v) : w.cell? a = some v := by
  unfold fcell at e
  unfold World.cell?
  cases hb : F a.block with
  | none => rw [hb] at e; cases e
  | some o => rw [h _ _ hb]; rw [hb] at e; exact e
structure D where
  p : FH → Value → Prop
  mono : ∀ {F F' v}, FH.le F F' → p F v → p F' v
  one : ∀ {F v}, p F v → v.oneCell' = true
def D.lit (x : Value) : D := ⟨fun _ v => v = x ∧ v.oneCell' = true, fun _ h => h, fun h => h.2⟩
def cellsAt (F : FH) (ad : Addr) (cs : List D) : Prop := ∀ j d, cs[j]? = some d → ∃ u, fcell F (ad.add j) = some u ∧ d.p F u
theorem cellsAt_le {F F' : FH} (h : FH.le F F') {ad : Addr} {cs : List D} (k : cellsAt F ad cs) : cellsAt F' ad cs := fun j d e => by
  obtain ⟨u, hu, hd⟩ := k j d e
  exact ⟨u, fcell_le h hu, d.mono h hd⟩
def D.fp (cs : List D) : D := ⟨fun F v => ∃ ad : Addr, v = .pointer (some ad) ∧ cellsAt F ad cs, fun h ⟨ad, e, k⟩ => ⟨ad, e, cellsAt_le h k⟩, fun ⟨_, e, _⟩ => by rw [e]; rfl⟩
def rowAt (F : FH) (sz : Nat) (ad : Addr) (xs : List (List D)) : Prop := ∀ i x, xs[i]? = some x → x.length = sz ∧ cellsAt F (ad.add (i * sz)) x
theorem rowAt_le {F F' : FH} (h : FH.le F F') {sz : Nat} {ad : Addr} {xs : List (List D)} (k : rowAt F sz ad xs) : rowAt F' sz ad xs := fun i x e => ⟨(k i x e).1, cellsAt_le h (k i x e).2⟩
def D.list (sz : Nat) (xs : List (List D)) : D :=
  ⟨fun F v => ∃ A cap, v = .slice A xs.length cap ∧ xs.length ≤ cap ∧ xs.length ≤ maxLen ∧ (xs ≠ [] → ∃ ad, A = some ad ∧ rowAt F sz ad xs),
   fun h ⟨A, cap, e, h1, h2, k⟩ => ⟨A, cap, e, h1, h2, fun hn => let ⟨ad, ea, hr⟩ := k hn; ⟨ad, ea, rowAt_le h hr⟩⟩, fun ⟨_, _, e, _⟩ => by rw [e]; rfl⟩
inductive AV where
  | data (d : D)
  | ptr (id off : Nat)
  | row (id : Nat)
  | mp (id : Nat)
  | via (id : Nat) (R : Value → Value → Prop)
  | fn (f : Fn) (first cap : List AV)
  | agg (cs : List AV)
  | tup (vs : List AV)
  | when (b : Bool) (x : AV)
  | any
structure Env where
  F : FH
  φ : Nat → Option Value
def Env.le (E E' : Env) : Prop := FH.le E.F E'.F ∧ ∀ k h, E.φ k = some h → E'.φ k = some h
theorem Env.le_refl (E : Env) : Env.le E E := ⟨FH.le_refl _, fun _ _ h => h⟩
theorem Env.le_trans {E E' E'' : Env} (h : Env.le E E') (k : Env.le E' E'') : Env.le E E'' := ⟨FH.le_trans h.1 k.1, fun i x e => k.2 i x (h.2 i x e)⟩
mutual
def Rel (E : Env) : AV → Value → Prop
  | .data d, v => d.p E.F v
  | .ptr k off, v => ∃ b, E.φ k = some (.pointer (some ⟨b, 0, none⟩)) ∧ v = .pointer (some ⟨b, off, none⟩)
  | .row k, v => E.φ k = some v ∧ ∃ A n c, v = .slice A n c
  | .mp k, v => E.φ k = some v ∧ ∃ r, v = .map (some r)
  | .via k R, v => ∃ h, E.φ k = some h ∧ R h v ∧ v.oneCell' = true
  | .fn f first cap, v => ∃ fs cs : List Value, v = .func f fs.toArray cs.toArray ∧ Rels E first fs ∧ Rels E cap cs
  | .agg cs, v => ∃ vs : List Value, v = .agg vs.toArray ∧ Rels E cs vs ∧ ∀ u ∈ vs, u.oneCell' = true
  | .tup xs, v => ∃ vs : List Value, v = .tuple vs.toArray ∧ Rels E xs vs
  | .when b x, v => (b = true → Rel E x v) ∧ (b = false → v = undef)
  | .any, _ => True
def Rels (E : Env) : List AV → List Value → Prop
  | [], vs => vs = []
  | x :: xs, vs => ∃ u us, vs = u :: us ∧ Rel E x u ∧ Rels E xs us
end
mutual
theorem Rel.mono {E E' : Env} (h : Env.le E E') : ∀ {x : AV} {v : Value}, Rel E x v → Rel E' x v
  | .data d, _, k => d.mono h.1 k
  | .ptr _ _, _, k => by
    obtain ⟨b, e, r⟩ := k
    exact ⟨b, h.2 _ _ e, r⟩
  | .row _, _, k => ⟨h.2 _ _ k.1, k.2⟩
  | .mp _, _, k => ⟨h.2 _ _ k.1, k.2⟩
  | .via _ _, _, ⟨x, e, k⟩ => ⟨x, h.2 _ _ e, k⟩
  | .fn _ _ _, _, k => by
    obtain ⟨fs, cs, e, h1, h2⟩ := k
    exact ⟨fs, cs, e, Rels.mono h h1, Rels.mono h h2⟩
  | .agg _, _, k => by
    obtain ⟨vs, e, h1, h2⟩ := k
    exact ⟨vs, e, Rels.mono h h1, h2⟩
  | .tup _, _, k => by
    obtain ⟨vs, e, h1⟩ := k
    exact ⟨vs, e, Rels.mono h h1⟩
  | .when b x, _, k => ⟨fun e => Rel.mono h (k.1 e), k.2⟩
  | .any, _, _ => trivial
theorem Rels.mono {E E' : Env} (h : Env.le E E') : ∀ {xs : List AV} {vs : List Value}, Rels E xs vs → Rels E' xs vs
  | [], _, k => k
  | x :: xs, _, k => by
    obtain ⟨u, us, e, h1, h2⟩ := k
    exact ⟨u, us, e, Rel.mono h h1, Rels.mono h h2⟩
end
theorem Rels.length {E : Env} : ∀ {xs : List AV} {vs : List Value}, Rels E xs vs → vs.length = xs.length
  | [], vs, k => by
    have e : vs = [] := k
    simp [e]
  | _ :: xs, _, k => by
    obtain ⟨u, us, rfl, _, h⟩ := k
    simp [Rels.length h]
theorem Rels.get {E : Env} : ∀ {xs : List AV} {vs : List Value} {i : Nat} {x : AV}, Rels E xs vs → xs[i]? = some x → ∃ v, vs[i]? = some v ∧ Rel E x v
  | [], _, i, x, _, e => by simp at e
  | y :: ys, _, 0, x, k, e => by
    obtain ⟨u, us, rfl, h, _⟩ := k
    simp at e
    exact ⟨u, rfl, e ▸ h⟩
  | y :: ys, _, i + 1, x, k, e => by
    obtain ⟨u, us, rfl, _, h⟩ := k
    simp at e
    obtain ⟨v, hv, hr⟩ := Rels.get h e
    exact ⟨v, by simpa using hv, hr⟩
theorem Rels.set {E : Env} : ∀ {xs : List AV} {vs : List Value} (i : Nat) {x : AV} {v : Value}, Rels E xs vs → Rel E x v → Rels E (xs.set i x) (vs.set i v)
  | [], _, _, _, _, k, _ => by rw [show _ = [] from k]; rfl
  | y :: ys, _, 0, x, v, k, r => by
    obtain ⟨u, us, rfl, _, h⟩ := k
    exact ⟨v, us, rfl, r, h⟩
  | y :: ys, _, i + 1, x, v, k, r => by
    obtain ⟨u, us, rfl, hu, h⟩ := k
    exact ⟨u, us.set i v, rfl, hu, Rels.set i h r⟩
theorem Rels.append {E : Env} : ∀ {xs ys : List AV} {us vs : List Value}, Rels E xs us → Rels E ys vs → Rels E (xs ++ ys) (us ++ vs)
  | [], _, _, _, k, r => by rw [show _ = [] from k]; exact r
  | x :: xs, _, _, _, k, r => by
    obtain ⟨u, us, rfl, hu, h⟩ := k
    exact ⟨u, us ++ _, rfl, hu, Rels.append h r⟩
theorem Rels.take {E : Env} : ∀ {xs : List AV} {vs : List Value} (n : Nat), Rels E xs vs → Rels E (xs.take n) (vs.take n)
  | _, _, 0, _ => by simp [Rels]
  | [], _, n + 1, k => by rw [show _ = [] from k]; simp [Rels]
  | x :: xs, _, n + 1, k => by
    obtain ⟨u, us, rfl, hu, h⟩ := k
    exact ⟨u, us.take n, rfl, hu, Rels.take n h⟩
theorem Rels.drop {E : Env} : ∀ {xs : List AV} {vs : List Value} (n : Nat), Rels E xs vs → Rels E (xs.drop n) (vs.drop n)
  | _, _, 0, k => k
  | [], _, n + 1, k => by rw [show _ = [] from k]; simp [Rels]
  | x :: xs, _, n + 1, k => by
    obtain ⟨u, us, rfl, hu, h⟩ := k
    exact Rels.drop n h
end Go.Proofs.YtgmpgoafokdcbaaGreatDoor.Sx
