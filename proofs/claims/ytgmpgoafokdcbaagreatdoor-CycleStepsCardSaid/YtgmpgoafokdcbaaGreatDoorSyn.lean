/- Own trees, by types: the steps. -/
import Derived.Test.YtgmpgoafokdcbaaGreatDoorSym
set_option linter.unusedVariables false
set_option linter.unusedSectionVars false
set_option linter.unusedSimpArgs false
namespace Go.Proofs.YtgmpgoafokdcbaaGreatDoor.Sx
open Go Go.RowKit
variable {P : Program} {K : GL}
abbrev oT {α : Type} (t : TypeId) (sz : Nat) (f : α → List TC) (l : List α) : HS := .live (.tree t sz l.length (l.flatMap f))
abbrev oE {α : Type} (t : TypeId) (sz : Nat) (f : α → List TC) (l1 : List α) (B : List TC) (l2 : List α) : HS := .live (.tree t sz (l1.length + 1 + l2.length) (l1.flatMap f ++ B ++ l2.flatMap f))
abbrev wR {α : Type} (t : TypeId) (sz : Nat) (f : α → List D) (l : List α) : TC := .own t sz l.length ((rowC f l).map .av)
abbrev wT {α : Type} (t : TypeId) (sz : Nat) (f : α → List TC) (l : List α) : TC := .own t sz l.length (l.flatMap f)
structure TameF {α : Type} (f : α → List TC) : Prop where
  tm : ∀ x, Tame (f x)
theorem renCs_app (r : Nat → Nat) : ∀ a b : List TC, renCs r (a ++ b) = renCs r a ++ renCs r b
  | [], _ => rfl
  | x :: a, b => by simp only [List.cons_append, renCs]; rw [renCs_app r a b]
theorem okCs_app (p : Nat → Bool) : ∀ a b : List TC, okCs p (a ++ b) = (okCs p a && okCs p b)
  | [], _ => rfl
  | x :: a, b => by simp only [List.cons_append, okCs]; rw [okCs_app p a b, Bool.and_assoc]
theorem Tame.app {a b : List TC} (h : Tame a) (k : Tame b) : Tame (a ++ b) := ⟨fun r => by rw [renCs_app, h.ren, k.ren], fun p => by rw [okCs_app, h.ok, k.ok]; rfl⟩
theorem Tame.nil : Tame [] := ⟨fun _ => rfl, fun _ => rfl⟩
theorem Tame.flat {α : Type} {f : α → List TC} (h : TameF f) : ∀ l : List α, Tame (l.flatMap f)
  | [] => .nil
  | x :: l => by rw [List.flatMap_cons]; exact (h.tm x).app (Tame.flat h l)
theorem Tame.consD {d : D} {l : List TC} (h : Tame l) : Tame (.av (.data d) :: l) := ⟨fun r => by simp only [renCs, renC, renA]; rw [h.ren], fun p => by simp only [okCs, okC, okA]; rw [h.ok]; rfl⟩
theorem Tame.data : ∀ cs : List D, Tame ((cs.map AV.data).map .av)
  | [] => .nil
  | c :: cs => (Tame.data cs).consD
theorem Tame.consR {α : Type} {t : TypeId} {sz : Nat} {f : α → List D} {x : List α} {l : List TC} (h : Tame l) : Tame (wR t sz f x :: l) := ⟨fun r => by simp only [renCs, renC]; rw [h.ren, (Tame.data _).ren], fun p => by simp only [okCs, okC]; rw [h.ok, (Tame.data _).ok]; rfl⟩
section
variable {np : Nat} {t : List (Nat × AV)} {h : List (Nat × HS)} {α : Type} {f : α → List TC} {l l1 l2 : List α} {B : List TC} {e : TypeId} {sz k k' : Nat} {n : Int} {r r' : α}
theorem tk (hr : ix l n = some r) : (l.take n.toNat).length = n.toNat := by
  have := (List.getElem?_eq_some_iff.1 (ix_get hr).2).1
  simp; omega
theorem ix_split (hr : ix l n = some r) : l = l.take n.toNat ++ r :: l.drop (n.toNat + 1) := by
  have h2 := (ix_get hr).2
  obtain ⟨hlt, he⟩ := List.getElem?_eq_some_iff.1 h2
  rw [← he, ← List.drop_eq_getElem_cons hlt, List.take_append_drop]
theorem ix_set (hr : ix l n = some r) (r' : α) : l.set n.toNat r' = l.take n.toNat ++ r' :: l.drop (n.toNat + 1) := by
  have hlt := (List.getElem?_eq_some_iff.1 (ix_get hr).2).1
  rw [List.set_eq_take_append_cons_drop, if_pos hlt]
theorem oE_eq (a : α) : oE e sz f l1 (f a) l2 = oT e sz f (l1 ++ a :: l2) := by
  simp only [oT, oE, List.flatMap_append, List.flatMap_cons, List.length_append, List.length_cons, List.append_assoc]
  congr 2
  omega
theorem opn (hr : ix l n = some r) (hh : hp h k = some (oT e sz f l)) (hB : f r = B) : Ent np ⟨t, h⟩ ⟨t, (k, oE e sz f (l.take n.toNat) B (l.drop (n.toNat + 1))) :: h⟩ := by
  subst hB
  refine Ent.eq hh ?_
  rw [oE_eq, ← ix_split hr]
theorem cls (hr : ix l n = some r) (hh : hp h k = some (oE e sz f (l.take n.toNat) B (l.drop (n.toNat + 1)))) (hB : f r' = B) : Ent np ⟨t, h⟩ ⟨t, (k, oT e sz f (l.set n.toNat r')) :: h⟩ := by
  subst hB
  refine Ent.eq hh ?_
  rw [oE_eq, ← ix_set hr]
theorem cla (hh : hp h k = some (oE e sz f l B [])) (hB : f r' = B) : Ent np ⟨t, h⟩ ⟨t, (k, oT e sz f (l ++ [r'])) :: h⟩ := by
  subst hB
  exact Ent.eq hh (oE_eq _)
theorem get_mid {A B C : List TC} {j : Nat} (hj : j < B.length) : (A ++ B ++ C)[A.length + j]? = B[j]? := by
  rw [List.append_assoc, List.getElem?_append_right (by omega), List.getElem?_append_left (by omega)]
  congr 1; omega
theorem set_mid {A B C : List TC} {j : Nat} (hj : j < B.length) (c : TC) : (A ++ B ++ C).set (A.length + j) c = A ++ B.set j c ++ C := by
  rw [List.append_assoc, List.set_append_right _ _ (by omega), List.set_append_left _ _ (by omega), List.append_assoc]
  congr 3; omega
theorem get_lt {B : List TC} {j : Nat} {c : TC} (hj : B[j]? = some c) : j < B.length := (List.getElem?_eq_some_iff.1 hj).1
theorem foc (k' j : Nat) {c : TC} {o' : AO} (hh : hp h k = some (oE e sz f l1 B l2)) (hj : B[j]? = some c) (hs : SubT o' c) (hf : hp h k' = none) : Ent np ⟨t, h⟩ ⟨t, (k, oE e sz f l1 (B.set j (.av (.row k'))) l2) :: (k', .live o') :: h⟩ := by
  intro C hn a w hs'
  obtain ⟨hdf, hsz, E, hO, hR⟩ := hs'
  obtain ⟨u, hle, hO'⟩ := hO.focus (p := (l1.flatMap f).length + j) (hp_lk hh) (hp_no hf) (by rw [get_mid (get_lt hj)]; exact hj) hs
  rw [set_mid (get_lt hj)] at hO'
  exact ⟨hdf, hsz, _, hO', fun i => Rel.mono hle (hR i)⟩
theorem absb (k' j : Nat) {c : TC} {o' : AO} (hh : hp h k = some (oE e sz f l1 B l2)) (hj : B[j]? = some (.av (.row k'))) (hk' : hp h k' = some (.live o')) (hs : SubT o' c) (hkk : Nat.beq k k' = false) : Ent np ⟨t, h⟩ ⟨t, (k, oE e sz f l1 (B.set j c) l2) :: (k', .dead) :: h⟩ := by
  intro C hn a w hs'
  obtain ⟨hdf, hsz, E, hO, hR⟩ := hs'
  have hO' := hO.absorb (p := (l1.flatMap f).length + j) (hp_lk hh) (hp_lk hk') (fun e => by rw [e] at hkk; simp at hkk) (by rw [get_mid (get_lt hj)]; exact hj) hs
  rw [set_mid (get_lt hj)] at hO'
  exact ⟨hdf, hsz, _, hO', hR⟩
theorem nrt {d : Nat} (k : Nat) (hx : lk t d = some aNil) (hf : hp h k = none) : Ent np ⟨t, h⟩ ⟨(d, .row k) :: t, (k, oT e sz f ([] : List α)) :: h⟩ := by
  intro C hn a w hs
  obtain ⟨hdf, hsz, E, hO, hR⟩ := hs
  have hd := hR d
  rw [lk_lk hx] at hd
  obtain ⟨hle, hO'⟩ := hO.adopt (hp_no hf) e sz
  have hO2 := hO'.set (k := k) (o' := .tree e sz 0 []) (lkH_cons_self _ _ _) (fun v hv ho => (SubT.row (cs := [])).to ho |>.1 |> fun q => ⟨q, by
      obtain ⟨vs, h1, _⟩ := ho
      simp only [foot, foots, List.append_nil]
      cases hblk v <;> simp⟩) (fun v b hv ho hb => by simpa [oblk, foot, foots, eq_comm] using hb)
  refine ⟨hdf, hsz, E.with k (.slice none 0 0), EOk_seq (fun q => ?_) hO2, fun i => ?_⟩
  · show lkH ((k, _) :: (k, _) :: h) q = lkH ((k, _) :: h) q
    simp only [lkH]
    split <;> rfl
  · simp only [lkT]
    split
    · rename_i e0
      subst e0
      rw [hd.1]
      exact ⟨Env.with_self _ _ _, none, 0, 0, rfl⟩
    · exact Rel.mono hle (hR i)
def RT : List AV → List TC → Prop
  | [], [] => True
  | x :: xs, c :: cs => (c = .av x ∨ (x = aNil ∧ ∃ t sz, c = .own t sz 0 [])) ∧ RT xs cs
  | _, _ => False
theorem RT.rel {E : Env} {w : World} : ∀ {xs : List AV} {cs : List TC} {vs : List Value}, RT xs cs → Rels E xs vs → TRels E w cs vs ∧ foots w cs vs = []
  | [], [], _, _, h => ⟨h, rfl⟩
  | x :: xs, c :: cs, _, hr, ⟨u, us, e1, h1, h2⟩ => by
    subst e1
    obtain ⟨k1, k2⟩ := RT.rel hr.2 h2
    have key : TRel E w c u ∧ foot w c u = [] := by
      rcases hr.1 with rfl | ⟨rfl, t, sz, rfl⟩
      · exact ⟨h1, rfl⟩
      · have := h1.1
        subst this
        exact ⟨⟨[], ⟨by simp, .inl ⟨rfl, rfl⟩⟩, rfl, by simp⟩, rfl⟩
    exact ⟨⟨u, us, rfl, key.1, k1⟩, by simp only [foots, List.tail_cons]; rw [k2]; simpa using key.2⟩
  | [], _ :: _, _, h, _ => absurd h id
  | _ :: _, [], _, h, _ => absurd h id
theorem RT.app : ∀ {a b : List AV} {c d : List TC}, RT a c → RT b d → RT (a ++ b) (c ++ d)
  | [], _, [], _, _, h => h
  | _ :: _, _, _ :: _, _, ⟨h1, h2⟩, h => ⟨h1, RT.app h2 h⟩
  | [], _, _ :: _, _, h, _ => absurd h id
  | _ :: _, _, [], _, h, _ => absurd h id
end
section
variable {dst : Option Tmp} {ty : TypeId} {pos : String} {after : Array Edge} {g : Option (Nat × Bool)} {t : List (Nat × AV)} {h : List (Nat × HS)}
variable {α : Type} {f : α → List TC} {l l1 l2 : List α} {B : List TC} {r : α} {u e : TypeId} {sz k : Nat} {x y i : Operand} {n : Int}
theorem p_ixE (ht : P.underlying u = some (.slice e)) (he : ∀ w, (sizeOf e).run P w = .ok sz w) (hx : rd t x = some (.row k)) (hi : rd t i = some (aN .i64 n)) (hr : ix l n = some r) (hh : hp h k = some (oE e sz f (l.take n.toNat) B (l.drop (n.toNat + 1)))) :
    SA P K t h ⟨dst, .indexAddr u x i, ty, pos, after, g⟩ (rdO x (.row k) ++ rdO i (aN .i64 n)) [(k, oE e sz f (l.take n.toNat) B (l.drop (n.toNat + 1)))] (.via k (rpR (n.toNat * sz))) [] :=
  .pv2h hx hi hh fun a b => (pv_index_row ht he a b (ix_get hr).1 (by rw [tk hr]; omega)).tree
theorem fmT_len (hf : ∀ x, (f x).length = sz) : ∀ l : List α, (l.flatMap f).length = l.length * sz
  | [] => by simp
  | x :: l => by simp only [List.flatMap_cons, List.length_append, List.length_cons, hf, fmT_len hf l, Nat.add_mul, Nat.one_mul]; omega
theorem p_ldE {j : Nat} {y : AV} (hf : ∀ x, (f x).length = sz) (ht : Ty P u 1 false) (hx : rd t x = some (.via k (rpR (n.toNat * sz + j)))) (hl : l1.length = n.toNat) (hh : hp h k = some (oE e sz f l1 B l2)) (hy : B[j]? = some (.av y)) :
    SA P K t h ⟨dst, .load u x, ty, pos, after, g⟩ (rdO x (.via k (rpR (n.toNat * sz + j)))) [(k, oE e sz f l1 B l2)] y [] :=
  .pv1h hx hh fun a => (pv_load_rp ht a (by rw [← hl, ← fmT_len hf, List.getElem?_map, get_mid (get_lt hy), hy]; rfl)).tree
end
end Go.Proofs.YtgmpgoafokdcbaaGreatDoor.Sx
