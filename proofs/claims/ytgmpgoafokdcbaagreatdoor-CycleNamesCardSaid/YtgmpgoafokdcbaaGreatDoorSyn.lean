/- Own trees, by types: the steps. -/
import Derived.Test.YtgmpgoafokdcbaaGreatDoorSym
set_option linter.unusedVariables false
set_option linter.unusedSectionVars false
set_option linter.unusedSimpArgs false
namespace Go.Proofs.YtgmpgoafokdcbaaGreatDoor.Sx
open Go Go.RowKit
variable {P : Program} {K : GL}
abbrev oT {α : Type} (t : TypeId) (sz : Nat) (f : α → List TC) (l : List α) : HS := .live (.tree t sz l.length (l.flatMap f))
abbrev oE {α : Type} (t : TypeId) (sz : Nat) (f : α → List TC) (l1 : List α) (B : List TC) (l2 : List α) : HS := .live (.tree t sz (l1.length + 1 + l2.length) (l1.flatMap f ++ B ++ l2.flatMap f))
abbrev wR {α : Type} (t : TypeId) (sz : Nat) (f : α → List D) (l : List α) : TC := .own t sz l.length ((rowC f l).map .av)
abbrev wT {α : Type} (t : TypeId) (sz : Nat) (f : α → List TC) (l : List α) : TC := .own t sz l.length (l.flatMap f)
structure TameF {α : Type} (f : α → List TC) : Prop where
  tm : ∀ x, Tame (f x)
theorem renCs_app (r : Nat → Nat) : ∀ a b : List TC, renCs r (a ++ b) = renCs r a ++ renCs r b
  | [], _ => rfl
  | x :: a, b => by simp only [List.cons_append, renCs]; rw [renCs_app r a b]
theorem okCs_app (p : Nat → Bool) : ∀ a b : List TC, okCs p (a ++ b) = (okCs p a && okCs p b)
  | [], _ => rfl
  | x :: a, b => by simp only [List.cons_append, okCs]; rw [okCs_app p a b, Bool.and_assoc]
theorem Tame.app {a b : List TC} (h : Tame a) (k : Tame b) : Tame (a ++ b) := ⟨fun r => by rw [renCs_app, h.ren, k.ren], fun p => by rw [okCs_app, h.ok, k.ok]; rfl⟩
theorem Tame.nil : Tame [] := ⟨fun _ => rfl, fun _ => rfl⟩
theorem Tame.flat {α : Type} {f : α → List TC} (h : TameF f) : ∀ l : List α, Tame (l.flatMap f)
  | [] => .nil
  | x :: l => by rw [List.flatMap_cons]; exact (h.tm x).app (Tame.flat h l)
theorem Tame.consD {d : D} {l : List TC} (h : Tame l) : Tame (.av (.data d) :: l) := ⟨fun r => by simp only [renCs, renC, renA]; rw [h.ren], fun p => by simp only [okCs, okC, okA]; rw [h.ok]; rfl⟩
theorem Tame.data : ∀ cs : List D, Tame ((cs.map AV.data).map .av)
  | [] => .nil
  | c :: cs => (Tame.data cs).consD
theorem Tame.consR {α : Type} {t : TypeId} {sz : Nat} {f : α → List D} {x : List α} {l : List TC} (h : Tame l) : Tame (wR t sz f x :: l) := ⟨fun r => by simp only [renCs, renC]; rw [h.ren, (Tame.data _).ren], fun p => by simp only [okCs, okC]; rw [h.ok, (Tame.data _).ok]; rfl⟩
theorem Tame.consT {α : Type} {t : TypeId} {sz : Nat} {f : α → List TC} {x : List α} {l : List TC} (tm : TameF f) (h : Tame l) : Tame (wT t sz f x :: l) := ⟨fun r => by simp only [renCs, renC]; rw [h.ren, (Tame.flat tm _).ren], fun p => by simp only [okCs, okC]; rw [h.ok, (Tame.flat tm _).ok]; rfl⟩
section
variable {np : Nat} {t : List (Nat × AV)} {h : List (Nat × HS)} {α : Type} {f : α → List TC} {l l1 l2 : List α} {B : List TC} {e : TypeId} {sz k k' : Nat} {n : Int} {r r' : α}
theorem tk (hr : ix l n = some r) : (l.take n.toNat).length = n.toNat := by
  have := (List.getElem?_eq_some_iff.1 (ix_get hr).2).1
  simp; omega
theorem ix_split (hr : ix l n = some r) : l = l.take n.toNat ++ r :: l.drop (n.toNat + 1) := by
  have h2 := (ix_get hr).2
  obtain ⟨hlt, he⟩ := List.getElem?_eq_some_iff.1 h2
  rw [← he, ← List.drop_eq_getElem_cons hlt, List.take_append_drop]
theorem ix_set (hr : ix l n = some r) (r' : α) : l.set n.toNat r' = l.take n.toNat ++ r' :: l.drop (n.toNat + 1) := by
  have hlt := (List.getElem?_eq_some_iff.1 (ix_get hr).2).1
  rw [List.set_eq_take_append_cons_drop, if_pos hlt]
theorem oE_eq (a : α) : oE e sz f l1 (f a) l2 = oT e sz f (l1 ++ a :: l2) := by
  simp only [oT, oE, List.flatMap_append, List.flatMap_cons, List.length_append, List.length_cons, List.append_assoc]
  congr 2
  omega
theorem opn (hr : ix l n = some r) (hh : hp h k = some (oT e sz f l)) (hB : f r = B) : Ent np ⟨t, h⟩ ⟨t, (k, oE e sz f (l.take n.toNat) B (l.drop (n.toNat + 1))) :: h⟩ := by
  subst hB
  refine Ent.eq hh ?_
  rw [oE_eq, ← ix_split hr]
theorem cls (hr : ix l n = some r) (hh : hp h k = some (oE e sz f (l.take n.toNat) B (l.drop (n.toNat + 1)))) (hB : f r' = B) : Ent np ⟨t, h⟩ ⟨t, (k, oT e sz f (l.set n.toNat r')) :: h⟩ := by
  subst hB
  refine Ent.eq hh ?_
  rw [oE_eq, ← ix_set hr]
theorem cla (hh : hp h k = some (oE e sz f l B [])) (hB : f r' = B) : Ent np ⟨t, h⟩ ⟨t, (k, oT e sz f (l ++ [r'])) :: h⟩ := by
  subst hB
  exact Ent.eq hh (oE_eq _)
theorem get_mid {A B C : List TC} {j : Nat} (hj : j < B.length) : (A ++ B ++ C)[A.length + j]? = B[j]? := by
  rw [List.append_assoc, List.getElem?_append_right (by omega), List.getElem?_append_left (by omega)]
  congr 1; omega
theorem set_mid {A B C : List TC} {j : Nat} (hj : j < B.length) (c : TC) : (A ++ B ++ C).set (A.length + j) c = A ++ B.set j c ++ C := by
  rw [List.append_assoc, List.set_append_right _ _ (by omega), List.set_append_left _ _ (by omega), List.append_assoc]
  congr 3; omega
theorem get_lt {B : List TC} {j : Nat} {c : TC} (hj : B[j]? = some c) : j < B.length := (List.getElem?_eq_some_iff.1 hj).1
theorem foc (k' j : Nat) {c : TC} {o' : AO} (hh : hp h k = some (oE e sz f l1 B l2)) (hj : B[j]? = some c) (hs : SubT o' c) (hf : hp h k' = none) : Ent np ⟨t, h⟩ ⟨t, (k, oE e sz f l1 (B.set j (.av (.row k'))) l2) :: (k', .live o') :: h⟩ := by
  intro C hn a w hs'
  obtain ⟨hdf, hsz, E, hO, hR⟩ := hs'
  obtain ⟨u, hle, hO'⟩ := hO.focus (p := (l1.flatMap f).length + j) (hp_lk hh) (hp_no hf) (by rw [get_mid (get_lt hj)]; exact hj) hs
  rw [set_mid (get_lt hj)] at hO'
  exact ⟨hdf, hsz, _, hO', fun i => Rel.mono hle (hR i)⟩
theorem absb (k' j : Nat) {c : TC} {o' : AO} (hh : hp h k = some (oE e sz f l1 B l2)) (hj : B[j]? = some (.av (.row k'))) (hk' : hp h k' = some (.live o')) (hs : SubT o' c) (hkk : Nat.beq k k' = false) : Ent np ⟨t, h⟩ ⟨t, (k, oE e sz f l1 (B.set j c) l2) :: (k', .dead) :: h⟩ := by
  intro C hn a w hs'
  obtain ⟨hdf, hsz, E, hO, hR⟩ := hs'
  have hO' := hO.absorb (p := (l1.flatMap f).length + j) (hp_lk hh) (hp_lk hk') (fun e => by rw [e] at hkk; simp at hkk) (by rw [get_mid (get_lt hj)]; exact hj) hs
  rw [set_mid (get_lt hj)] at hO'
  exact ⟨hdf, hsz, _, hO', hR⟩
theorem nrt {d : Nat} (k : Nat) (hx : lk t d = some aNil) (hf : hp h k = none) : Ent np ⟨t, h⟩ ⟨(d, .row k) :: t, (k, oT e sz f ([] : List α)) :: h⟩ := by
  intro C hn a w hs
  obtain ⟨hdf, hsz, E, hO, hR⟩ := hs
  have hd := hR d
  rw [lk_lk hx] at hd
  obtain ⟨hle, hO'⟩ := hO.adopt (hp_no hf) e sz
  have hO2 := hO'.set (k := k) (o' := .tree e sz 0 []) (lkH_cons_self _ _ _) (fun v hv ho => (SubT.row (cs := [])).to ho |>.1 |> fun q => ⟨q, by
      obtain ⟨vs, h1, _⟩ := ho
      simp only [foot, foots, List.append_nil]
      cases hblk v <;> simp⟩) (fun v b hv ho hb => by simpa [oblk, foot, foots, eq_comm] using hb)
  refine ⟨hdf, hsz, E.with k (.slice none 0 0), EOk_seq (fun q => ?_) hO2, fun i => ?_⟩
  · show lkH ((k, _) :: (k, _) :: h) q = lkH ((k, _) :: h) q
    simp only [lkH]
    split <;> rfl
  · simp only [lkT]
    split
    · rename_i e0
      subst e0
      rw [hd.1]
      exact ⟨Env.with_self _ _ _, none, 0, 0, rfl⟩
    · exact Rel.mono hle (hR i)
def RT : List AV → List TC → Prop
  | [], [] => True
  | x :: xs, c :: cs => (c = .av x ∨ (x = aNil ∧ ∃ t sz, c = .own t sz 0 [])) ∧ RT xs cs
  | _, _ => False
theorem RT.rel {E : Env} {w : World} : ∀ {xs : List AV} {cs : List TC} {vs : List Value}, RT xs cs → Rels E xs vs → TRels E w cs vs ∧ foots w cs vs = []
  | [], [], _, _, h => ⟨h, rfl⟩
  | x :: xs, c :: cs, _, hr, ⟨u, us, e1, h1, h2⟩ => by
    subst e1
    obtain ⟨k1, k2⟩ := RT.rel hr.2 h2
    have key : TRel E w c u ∧ foot w c u = [] := by
      rcases hr.1 with rfl | ⟨rfl, t, sz, rfl⟩
      · exact ⟨h1, rfl⟩
      · have := h1.1
        subst this
        exact ⟨⟨[], ⟨by simp, .inl ⟨rfl, rfl⟩⟩, rfl, by simp⟩, rfl⟩
    exact ⟨⟨u, us, rfl, key.1, k1⟩, by simp only [foots, List.tail_cons]; rw [k2]; simpa using key.2⟩
  | [], _ :: _, _, h, _ => absurd h id
  | _ :: _, [], _, h, _ => absurd h id
theorem RT.app : ∀ {a b : List AV} {c d : List TC}, RT a c → RT b d → RT (a ++ b) (c ++ d)
  | [], _, [], _, _, h => h
  | _ :: _, _, _ :: _, _, ⟨h1, h2⟩, h => ⟨h1, RT.app h2 h⟩
  | [], _, _ :: _, _, h, _ => absurd h id
  | _ :: _, _, [], _, h, _ => absurd h id
theorem rt0 : RT [] [] := trivial
theorem rta {x : AV} {xs : List AV} {cs : List TC} (h : RT xs cs) : RT (x :: xs) (.av x :: cs) := ⟨.inl rfl, h⟩
theorem rowtree {m : Nat} {xs : List AV} {cs : List TC} (hh : hp h k = some (.live (.row e sz m xs))) (hr : RT xs cs) : Ent np ⟨t, h⟩ ⟨t, (k, .live (.tree e sz m cs)) :: h⟩ :=
  Ent.set hh (fun E w v ⟨vs, ho, hv, h1⟩ => (own_mk ho (hr.rel hv).1 h1 (by rw [(hr.rel hv).2]; cases hblk v <;> simp)).1) (fun E w v b ⟨vs, ho, hv, h1⟩ hb => by
    rw [own_blk ho (hr.rel hv).1, (hr.rel hv).2] at hb
    simpa [oblk, eq_comm] using hb)
end
section
variable {dst : Option Tmp} {ty : TypeId} {pos : String} {after : Array Edge} {g : Option (Nat × Bool)} {t : List (Nat × AV)} {h : List (Nat × HS)}
variable {α : Type} {f : α → List TC} {l l1 l2 : List α} {B : List TC} {r : α} {u e : TypeId} {sz k : Nat} {x y i : Operand} {n : Int}
theorem p_lenT {e' : TypeId} (ht : P.underlying u = some (.slice e')) (hx : rd t x = some (.row k)) (hh : hp h k = some (oT e sz f l)) :
    SA P K t h ⟨dst, .call { callee := .builtin .len, args := #[x], argTypes := #[u] }, ty, pos, after, g⟩ (rdO x (.row k)) [(k, oT e sz f l)] (aN .i64 l.length) [] :=
  .pv1h hx hh fun a => (pv_len_row ht a).tree
theorem p_ixE (ht : P.underlying u = some (.slice e)) (he : ∀ w, (sizeOf e).run P w = .ok sz w) (hx : rd t x = some (.row k)) (hi : rd t i = some (aN .i64 n)) (hr : ix l n = some r) (hh : hp h k = some (oE e sz f (l.take n.toNat) B (l.drop (n.toNat + 1)))) :
    SA P K t h ⟨dst, .indexAddr u x i, ty, pos, after, g⟩ (rdO x (.row k) ++ rdO i (aN .i64 n)) [(k, oE e sz f (l.take n.toNat) B (l.drop (n.toNat + 1)))] (.via k (rpR (n.toNat * sz))) [] :=
  .pv2h hx hi hh fun a b => (pv_index_row ht he a b (ix_get hr).1 (by rw [tk hr]; omega)).tree
theorem fmT_len (hf : ∀ x, (f x).length = sz) : ∀ l : List α, (l.flatMap f).length = l.length * sz
  | [] => by simp
  | x :: l => by simp only [List.flatMap_cons, List.length_append, List.length_cons, hf, fmT_len hf l, Nat.add_mul, Nat.one_mul]; omega
theorem p_ldE {j : Nat} {y : AV} (hf : ∀ x, (f x).length = sz) (ht : Ty P u 1 false) (hx : rd t x = some (.via k (rpR (n.toNat * sz + j)))) (hl : l1.length = n.toNat) (hh : hp h k = some (oE e sz f l1 B l2)) (hy : B[j]? = some (.av y)) :
    SA P K t h ⟨dst, .load u x, ty, pos, after, g⟩ (rdO x (.via k (rpR (n.toNat * sz + j)))) [(k, oE e sz f l1 B l2)] y [] :=
  .pv1h hx hh fun a => (pv_load_rp ht a (by rw [← hl, ← fmT_len hf, List.getElem?_map, get_mid (get_lt hy), hy]; rfl)).tree
theorem p_ldEA {j m : Nat} {ys : List AV} (hf : ∀ x, (f x).length = sz) (ht : Ty P u m true) (hx : rd t x = some (.via k (rpR (n.toNat * sz + j)))) (hl : l1.length = n.toNat) (hh : hp h k = some (oE e sz f l1 B l2)) (hy : (B.drop j).take m = ys.map .av) (hm : Nat.ble (j + m) B.length = true) :
    SA P K t h ⟨dst, .load u x, ty, pos, after, g⟩ (rdO x (.via k (rpR (n.toNat * sz + j)))) [(k, oE e sz f l1 B l2)] (.agg ys) [] := by
  have hm' := Nat.le_of_ble_eq_true hm
  refine .pv1h hx hh fun a => ?_
  have hw : (ys.map TC.av).map weak = ys := by rw [List.map_map]; exact List.map_id _
  have hle : n.toNat * sz + j + m ≤ ((l1.flatMap f ++ B ++ l2.flatMap f).map weak).length := by
    simp only [List.length_map, List.length_append]
    rw [fmT_len hf, hl]; omega
  have := pv_load_rp_agg (P := P) (K := K) (dst := dst) (ty := ty) (pos := pos) (after := after) (g := g) (e := e) (sz := sz) (n := l1.length + 1 + l2.length) ht a hle
  rw [← List.map_drop, ← List.map_take] at this
  have e1 : ((l1.flatMap f ++ B ++ l2.flatMap f).drop (n.toNat * sz + j)).take m = (B.drop j).take m := by
    rw [← hl, ← fmT_len hf, List.append_assoc, List.drop_append, List.drop_of_length_le (by omega), List.nil_append, show (l1.flatMap f).length + j - (l1.flatMap f).length = j by omega, List.drop_append_of_le_length (by omega), List.take_append_of_le_length (by simp; omega)]
  rw [e1, hy, hw] at this
  exact this.tree
theorem la_storeT {m off nn : Nat} {b : Bool} {cs : List TC} {v : AV} (ht : Ty P u m b) (hx : OV x (.via k (rpR off))) (hy : OV y v) (hc : cellAV v) (hn : (CV v).length = m) (hb : b = true ∨ m = 1) (hl : off + m ≤ cs.length) :
    LAct P K ⟨dst, .store u x y, ty, pos, after, g⟩ (rdO x (.via k (rpR off)) ++ rdO y v) [(k, .live (.tree e sz nn cs))] .any [(k, .live (.tree e sz nn (cs.take off ++ (CV v).map .av ++ cs.drop (off + m))))] := by
  intro C s a w _ hT hH hd hs
  obtain ⟨hdf, hsz, E, hO, hR⟩ := hs
  have hr2 := relT_append.1 (relT_of hR hT)
  have hxv := rdO_rel hr2.1 hx
  obtain ⟨vs, ev, hr, h1⟩ := CV_rel hc (rdO_rel hr2.2 hy)
  have hvl : vs.length = m := by rw [hr.length, hn]
  have hcs : (a.eval y).cells.size = m := by rw [← hvl, ← ev]; simp
  obtain ⟨hv0, hφ, ⟨bb, o, n', c, rfl, exv⟩, _⟩ := hxv
  have hk := hO.hs k
  rw [hH.1] at hk
  obtain ⟨hv1, hφ1, hor, hbb⟩ := hk
  rw [hφ] at hφ1
  cases hφ1
  obtain ⟨us, ho, hru, h1u, hnd, hfe⟩ := own_vs hor
  have hul := hru.length
  rcases ho.2 with ⟨e1, _⟩ | ⟨g1, cap, cur, e1, h5, hw, hc1, hc2, hc3, htk⟩
  · cases e1
  · cases e1
    rw [Nat.zero_add] at exv
    have hcl : us.length ≤ cur.size := by rw [← htk, List.length_take, Array.length_toList]; omega
    have hst := run_storeCells_at P bb off e vs 0 cur w hw (by omega) h1
    unfold Oper.wp
    have hrun : (execOp a.eval ⟨dst, .store u x y, ty, pos, after, g⟩).run P w = .ok .skip (w.setRow bb (cur.toList.take (off + 0) ++ vs ++ cur.toList.drop (off + 0 + vs.length)).toArray) := by
      simp only [execOp, Instr.storeAt, exv, Instr.sureAddr, storeVar, Sem.run_bind, Sem.run_pure, Result.andThen_ok, ht.size, hcs, ne_eq, not_true_eq_false, ite_false, Sem.run_ite, ev, hst]
    rw [hrun]
    have hh : (w.setRow bb (cur.toList.take off ++ vs ++ cur.toList.drop (off + vs.length)).toArray).heap[bb]? = some (.cells (cur.toList.take off ++ vs ++ cur.toList.drop (off + vs.length)).toArray e (0, 0)) := setRow_heap w bb cur _ e _ hw
    have hnew : (cur.toList.take off ++ vs ++ cur.toList.drop (off + vs.length)).take (nn * sz) = us.take off ++ vs ++ us.drop (off + vs.length) := by
      have hlu : us.length = nn * sz := ho.1
      rw [← htk]
      have hle : nn * sz ≤ cur.toList.length := by rw [Array.length_toList]; rw [hlu] at hcl; exact hcl
      rw [List.take_append, List.take_append, List.take_take, List.length_take, List.take_take, List.length_append, List.length_take]
      rw [show min off cur.toList.length = off by omega]
      rw [List.take_of_length_le (l := vs) (by omega), show min (nn * sz) off = off by omega, show min off (nn * sz) = off by omega]
      congr 1
      rw [List.drop_take]
    -- the other blocks of the tree
    have hdis : ∀ b, b ∈ foots w cs us → b ≠ bb := fun b hb e0 => (List.nodup_append.1 hnd).2.2 bb (by simp [hblk]) b hb e0.symm
    have hsame : ∀ b, b ∈ foots w cs us → (w.setRow bb (cur.toList.take off ++ vs ++ cur.toList.drop (off + vs.length)).toArray).heap[b]? = w.heap[b]? := fun b hb => setRow_other w bb b _ (hdis b hb)
    obtain ⟨hru', hfo⟩ := TRels.world hsame hru
    have howns : (w.setRow bb (cur.toList.take off ++ vs ++ cur.toList.drop (off + vs.length)).toArray).ownsRow 0 e sz (.slice (some ⟨bb, 0, none⟩) nn c) nn (us.take off ++ vs ++ us.drop (off + vs.length)) := by
      refine ⟨?_, .inr ⟨bb, _, _, rfl, h5, hh, hc1, hc2, ?_, by simpa using hnew⟩⟩
      · rw [← ho.1]; simp only [List.length_append, List.length_take, List.length_drop]; omega
      · rw [← hc3]; simp; omega
    have hvo : off + vs.length = off + m := by rw [hvl]
    have hrN : TRels E (w.setRow bb (cur.toList.take off ++ vs ++ cur.toList.drop (off + vs.length)).toArray) (cs.take off ++ (CV v).map .av ++ cs.drop (off + m)) (us.take off ++ vs ++ us.drop (off + vs.length)) := by
      rw [← hvo]
      exact ((hru'.take off).app (TRels.avs hr)).app (hru'.drop _)
    have hsplit : foots w cs us = foots w (cs.take off) (us.take off) ++ foots w ((cs.drop off).take m) (us.drop off) ++ foots w (cs.drop (off + m)) (us.drop (off + m)) := by
      have e1 : cs = cs.take off ++ ((cs.drop off).take m ++ cs.drop (off + m)) := by
        rw [← List.drop_drop, List.take_append_drop, List.take_append_drop]
      conv => lhs; rw [e1]
      rw [foots_app, foots_app, List.append_assoc]
      have l1 : (cs.take off).length = off := by simp; omega
      have l2 : ((cs.drop off).take m).length = m := by simp; omega
      rw [l1, l2, List.drop_drop]
      congr 1
      rw [← foots_take w (cs.take off) us off (by omega)]
    have hnf : foots (w.setRow bb (cur.toList.take off ++ vs ++ cur.toList.drop (off + vs.length)).toArray) (cs.take off ++ (CV v).map .av ++ cs.drop (off + m)) (us.take off ++ vs ++ us.drop (off + vs.length)) = foots w (cs.take off) (us.take off) ++ foots w (cs.drop (off + m)) (us.drop (off + m)) := by
      have l1 : (cs.take off).length = off := by simp; omega
      have l1' : (us.take off).length = off := by simp; omega
      rw [List.append_assoc (cs.take off), List.append_assoc (us.take off), foots_app, foots_app, foots_avs, List.nil_append, l1, List.length_map, hn]
      have e1 : (us.take off ++ (vs ++ us.drop (off + vs.length))).drop off = vs ++ us.drop (off + m) := by
        rw [List.drop_append, List.drop_of_length_le (by omega), l1', Nat.sub_self, List.drop_zero, List.nil_append, hvo]
      have e3 : (vs ++ us.drop (off + m)).drop m = us.drop (off + m) := by
        rw [List.drop_append, List.drop_of_length_le (by omega), List.nil_append, show m - vs.length = 0 by omega, List.drop_zero]
      rw [e1, e3]
      have e2 : foots (w.setRow bb (cur.toList.take off ++ vs ++ cur.toList.drop (off + vs.length)).toArray) (cs.take off) (us.take off ++ (vs ++ us.drop (off + vs.length))) = foots w (cs.take off) (us.take off) := by
        have e4 : (us.take off ++ (vs ++ us.drop (off + vs.length))).take off = us.take off := by
          rw [List.take_append_of_le_length (by omega), List.take_take, Nat.min_self]
        rw [← foots_take _ (cs.take off) (us.take off ++ (vs ++ us.drop (off + vs.length))) off (by omega), e4]
        refine (TRels.world (fun b hb => hsame b ?_) (hru.take off)).2
        rw [hsplit]; simp [hb]
      rw [e2]
      congr 1
      refine (TRels.world (fun b hb => hsame b ?_) (hru.drop (off + m))).2
      rw [hsplit]; simp [hb]
    have hndN : ((hblk (.slice (some ⟨bb, 0, none⟩) nn c)).toList ++ foots (w.setRow bb (cur.toList.take off ++ vs ++ cur.toList.drop (off + vs.length)).toArray) (cs.take off ++ (CV v).map .av ++ cs.drop (off + m)) (us.take off ++ vs ++ us.drop (off + vs.length))).Nodup := by
      rw [hnf]
      refine hnd.sublist (List.Sublist.append (List.Sublist.refl _) ?_)
      rw [hsplit]
      exact List.Sublist.append (List.sublist_append_left _ _) (List.Sublist.refl _)
    have hone : ∀ u' ∈ us.take off ++ vs ++ us.drop (off + vs.length), u'.oneCell' = true := by
      intro u' hu
      simp only [List.mem_append] at hu
      rcases hu with (hu | hu) | hu
      · exact h1u u' (List.mem_of_mem_take hu)
      · exact h1 u' hu
      · exact h1u u' (List.mem_of_mem_drop hu)
    obtain ⟨horN, hblN⟩ := own_mk howns hrN hone hndN
    refine Sat.put (x := .any) (v := undef) hdf hsz hR (Env.le_refl E) (hO.write (w' := w.setRow bb (cur.toList.take off ++ vs ++ cur.toList.drop (off + vs.length)).toArray) (o' := .tree e sz nn (cs.take off ++ (CV v).map .av ++ cs.drop (off + m))) hH.1 hφ rfl (fun i hi => ?_) ?_ rfl rfl rfl horN (fun b hb => ?_)) hd trivial
    · exact setRow_other w bb i _ hi
    · simp
    · have hb' := (hblN b).1 hb
      rw [hnf] at hb'
      rw [own_blk ho hru, hsplit]
      simp only [List.mem_append] at hb' ⊢
      rcases hb' with h3 | h3 | h3
      · exact .inl h3
      · exact .inr (.inl (.inl h3))
      · exact .inr (.inr h3)
theorem p_stE {j m : Nat} {b : Bool} {v : AV} {B' : List TC} (hf : ∀ x, (f x).length = sz) (ht : Ty P u m b) (hb : b = true ∨ m = 1) (hx : rd t x = some (.via k (rpR (n.toNat * sz + j)))) (hy : rd t y = some v) (hl : l1.length = n.toNat) (hh : hp h k = some (oE e sz f l1 B l2)) (hc : cellAV v) (hn : Nat.beq (CV v).length m = true) (hm : Nat.ble (j + m) B.length = true) (hB : B.take j ++ (CV v).map .av ++ B.drop (j + m) = B') :
    SA P K t h ⟨dst, .store u x y, ty, pos, after, g⟩ (rdO x (.via k (rpR (n.toNat * sz + j))) ++ rdO y v) [(k, oE e sz f l1 B l2)] .any [(k, oE e sz f l1 B' l2)] := by
  have hm' := Nat.le_of_ble_eq_true hm
  subst hB
  have hle : n.toNat * sz + j + m ≤ (l1.flatMap f ++ B ++ l2.flatMap f).length := by
    simp only [List.length_append]
    rw [fmT_len hf, hl]; omega
  have h1 := la_storeT (P := P) (K := K) (dst := dst) (ty := ty) (pos := pos) (after := after) (g := g) (e := e) (sz := sz) (nn := l1.length + 1 + l2.length) ht (rd_c hx).1 (rd_c hy).1 hc (Nat.eq_of_beq_eq_true hn) hb hle
  have key : (l1.flatMap f ++ B ++ l2.flatMap f).take (n.toNat * sz + j) ++ (CV v).map .av ++ (l1.flatMap f ++ B ++ l2.flatMap f).drop (n.toNat * sz + j + m) = l1.flatMap f ++ (B.take j ++ (CV v).map .av ++ B.drop (j + m)) ++ l2.flatMap f := by
    rw [← hl, ← fmT_len hf, List.append_assoc (l1.flatMap f) B]
    have k1 : (l1.flatMap f ++ (B ++ l2.flatMap f)).take ((l1.flatMap f).length + j) = l1.flatMap f ++ B.take j := by
      rw [List.take_append, List.take_of_length_le (by omega), show (l1.flatMap f).length + j - (l1.flatMap f).length = j by omega, List.take_append_of_le_length (by omega)]
    have k2 : (l1.flatMap f ++ (B ++ l2.flatMap f)).drop ((l1.flatMap f).length + j + m) = B.drop (j + m) ++ l2.flatMap f := by
      rw [List.drop_append, List.drop_of_length_le (by omega), List.nil_append, show (l1.flatMap f).length + j + m - (l1.flatMap f).length = j + m by omega, List.drop_append_of_le_length (by omega)]
    rw [k1, k2]
    simp only [List.append_assoc]
  rw [key] at h1
  exact ⟨h1, chkT_ap2 (rd_c hx).2 (rd_c hy).2, hp_lk hh, trivial⟩
end
end Go.Proofs.YtgmpgoafokdcbaaGreatDoor.Sx
