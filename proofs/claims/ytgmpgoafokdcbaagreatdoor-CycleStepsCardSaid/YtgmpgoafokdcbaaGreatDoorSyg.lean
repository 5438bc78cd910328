/- The walk's words, part 7: maps whose keys are strings or numbers. -/
import Derived.Test.YtgmpgoafokdcbaaGreatDoorSyf
import Derived.MapKept
import Derived.Carry
set_option linter.unusedVariables false
set_option linter.unusedSectionVars false
namespace Go.Proofs.YtgmpgoafokdcbaaGreatDoor.Sx
open Go Go.RowKit
variable {P : Program} {K : GL}
def mGet {κ ν : Type} [BEq κ] : List (κ × ν) → κ → Option ν
  | [], _ => none
  | (k, v) :: l, x => bif x == k then some v else mGet l x
def mSet {κ ν : Type} [BEq κ] : List (κ × ν) → κ → ν → List (κ × ν)
  | [], x, y => [(x, y)]
  | (k, v) :: l, x, y => bif x == k then (x, y) :: l else (k, v) :: mSet l x y
abbrev oM {κ ν : Type} (kf : κ → Value) (vd : ν → D) (es : List (κ × ν)) : HS := .live (.map (es.map fun p => (kf p.1, .data (vd p.2))))
def fnd {κ : Type} [BEq κ] (x : κ) : List κ → List MapEntry → Nat → Option (Nat × Value)
  | k :: ks, e :: es, i => bif x == k then some (i, e.val) else fnd x ks es (i + 1)
  | _, _, _ => none
structure KeyK (P : Program) (kt : TypeId) {κ : Type} [BEq κ] (kf : κ → Value) : Prop where
  chk : ∀ e x w, (Instr.checkKey e 10000 kt (kf x)).run P w = .ok () w
  find : ∀ x (l : List MapEntry) (ks : List κ), l.map (·.key) = ks.map kf → ∀ w, (Instr.findKey kt (kf x) l).run P w = .ok (fnd x ks l 0) w
  same : ∀ x y : κ, (x == y) = true → kf y = kf x
  bits : ∀ x, Instr.sameBits 10000 (kf x) (kf x) = true
theorem findNow_of {κ : Type} [BEq κ] {kf : κ → Value} {kind : TypeDesc} (hs : ∀ x y, Instr.sameNow kind (kf x) (kf y) = some (x == y)) (x : κ) : ∀ (l : List MapEntry) (ks : List κ) (i : Nat), l.map (·.key) = ks.map kf → Instr.findNow kind (kf x) l i = some (fnd x ks l i)
  | [], [], _, _ => rfl
  | e :: l, k :: ks, i, h => by
    simp only [List.map_cons, List.cons.injEq] at h
    simp only [Instr.findNow, fnd, h.1, hs]
    cases hb : (x == k) with
    | true => rfl
    | false => exact findNow_of hs x l ks (i + 1) h.2
  | [], _ :: _, _, h => by simp at h
  | _ :: _, [], _, h => by simp at h
theorem ba_eq {x y : ByteArray} : (x == y) = true ↔ x = y := by
  cases x with | mk a => cases y with | mk b =>
  constructor
  · intro h
    have : (a == b) = true := h
    rw [eq_of_beq this]
  · intro h
    cases h
    show (a == a) = true
    simp
theorem keyS {kt : TypeId} (ht : P.underlying kt = some .string) : KeyK P kt Value.string where
  chk := fun e x w => by
    have : ∀ n, (Instr.checkKey e (n + 1) kt (.string x)).run P w = .ok () w := fun n => by simp [Instr.checkKey, run_underlying ht]
    exact this 9999
  find := fun x l ks h w => by
    have := findNow_of (kind := .string) (kf := Value.string) (fun x y => rfl) x l ks 0 h
    simp [Instr.findKey, run_underlying ht, this]
  same := fun x y h => by rw [ba_eq.1 h]
  bits := fun x => by simp [Instr.sameBits, ba_eq]
theorem keyN {kt : TypeId} {k : IntKind} (ht : P.underlying kt = some (.int k)) : KeyK P kt (Value.int k) where
  chk := fun e x w => by
    have : ∀ n, (Instr.checkKey e (n + 1) kt (.int k x)).run P w = .ok () w := fun n => by simp [Instr.checkKey, run_underlying ht]
    exact this 9999
  find := fun x l ks h w => by
    have := findNow_of (kind := .int k) (kf := Value.int k) (fun x y => by simp [Instr.sameNow]) x l ks 0 h
    simp [Instr.findKey, run_underlying ht, this]
  same := fun x y h => by rw [show y = x from (by simpa using h : x = y).symm]
  bits := fun x => by simp [Instr.sameBits]
theorem gom {w : World} {r : Nat} {es : Array MapEntry} {clock : Nat} (h : w.heap[r]? = some (.map es clock)) : (getObj r).run P w = .ok (.map es clock) w := by simp [getObj, Sem.run, h]
theorem som {w : World} {r : Nat} {es : Array MapEntry} {clock : Nat} (o : Obj) (h : w.heap[r]? = some (.map es clock)) : (setObj r o).run P w = .ok () { w with heap := w.heap.setIfInBounds r o } := by
  simp [setObj, Sem.run, h]
section
variable {κ ν : Type} [BEq κ] {kf : κ → Value} {vd : ν → D}
theorem fnd_get {E : Env} (x : κ) : ∀ {es : List (κ × ν)} {l : List MapEntry} {n : Nat}, l.length = es.length → Rels E (es.map fun p => AV.data (vd p.2)) (l.map (·.val)) →
    (mGet es x = none ∧ fnd x (es.map (·.1)) l n = none) ∨ ∃ y i v, mGet es x = some y ∧ fnd x (es.map (·.1)) l n = some (i, v) ∧ Rel E (.data (vd y)) v
  | [], [], _, _, _ => .inl ⟨rfl, rfl⟩
  | (k, z) :: es, e :: l, n, hl, hr => by
    obtain ⟨u, us, he, h1, h2⟩ := hr
    simp only [List.map_cons, List.cons.injEq] at he
    simp only [mGet, List.map_cons, fnd]
    cases hb : (x == k) with
    | true => exact .inr ⟨z, n, e.val, rfl, rfl, by rw [he.1]; exact h1⟩
    | false => exact fnd_get x (by simpa using hl) (by rw [he.2]; exact h2)
  | [], _ :: _, _, h, _ => by simp at h
  | _ :: _, [], _, h, _ => by simp at h
theorem fnd_set {E : Env} (hsame : ∀ x y : κ, (x == y) = true → kf y = kf x) (x : κ) {y : ν} {v : Value} (hv : Rel E (.data (vd y)) v) : ∀ {es : List (κ × ν)} {l : List MapEntry} {n : Nat}, l.map (·.key) = es.map (fun p => kf p.1) → Rels E (es.map fun p => AV.data (vd p.2)) (l.map (·.val)) →
    (fnd x (es.map (·.1)) l n = none → ∀ c, (l ++ [(⟨kf x, v, c⟩ : MapEntry)]).map (·.key) = (mSet es x y).map (fun p => kf p.1) ∧ Rels E ((mSet es x y).map fun p => AV.data (vd p.2)) ((l ++ [(⟨kf x, v, c⟩ : MapEntry)]).map (·.val))) ∧
    (∀ i u, fnd x (es.map (·.1)) l n = some (i, u) → n ≤ i ∧ (∃ e, l[i - n]? = some e ∧ e.key = kf x) ∧ (l.modify (i - n) fun e => { e with key := kf x, val := v }).map (·.key) = (mSet es x y).map (fun p => kf p.1) ∧ Rels E ((mSet es x y).map fun p => AV.data (vd p.2)) ((l.modify (i - n) fun e => { e with key := kf x, val := v }).map (·.val)))
  | [], [], n, _, _ => ⟨fun _ c => ⟨rfl, v, [], rfl, hv, rfl⟩, fun i u h => by cases h⟩
  | (k, z) :: es, e :: l, n, hk, hr => by
    obtain ⟨u0, us, he, h1, h2⟩ := hr
    simp only [List.map_cons, List.cons.injEq] at he hk
    simp only [mSet, List.map_cons, fnd]
    cases hb : (x == k) with
    | true =>
      refine ⟨(fun h => by cases h), fun i u h => ?_⟩
      cases h
      have := hsame x k hb
      refine ⟨Nat.le_refl _, ⟨e, by simp, by rw [hk.1]; exact this⟩, ?_, ?_⟩
      · simp [List.modify, hk.2]
      · simp only [Nat.sub_self, List.modify_zero_cons, List.map_cons, cond_true]
        exact ⟨v, us, by rw [he.2], hv, h2⟩
    | false =>
      obtain ⟨g1, g2⟩ := fnd_set hsame x hv (n := n + 1) hk.2 (by rw [he.2]; exact h2)
      refine ⟨fun h c => ?_, fun i u h => ?_⟩
      · obtain ⟨a1, a2⟩ := g1 h c
        refine ⟨?_, ?_⟩
        · simp only [List.cons_append, List.map_cons, cond_false, List.cons.injEq]
          exact ⟨hk.1, a1⟩
        · simp only [List.cons_append, List.map_cons, cond_false]
          exact ⟨_, _, rfl, by rw [he.1]; exact h1, a2⟩
      · obtain ⟨b1, ⟨e1, b2, b3⟩, b4, b5⟩ := g2 i u h
        have hi : i - n = (i - (n + 1)) + 1 := by omega
        rw [hi]
        refine ⟨by omega, ⟨e1, by simpa using b2, b3⟩, ?_, ?_⟩
        · simp only [List.modify_succ_cons, List.map_cons, cond_false, List.cons.injEq]
          exact ⟨hk.1, b4⟩
        · simp only [List.modify_succ_cons, List.map_cons, cond_false]
          exact ⟨_, _, rfl, by rw [he.1]; exact h1, b5⟩
  | [], _ :: _, _, h, _ => by simp at h
  | _ :: _, [], _, h, _ => by simp at h
theorem own_map {E : Env} {w : World} {k : Nat} {es : List (κ × ν)} {v : Value} (hv : Rel E (.mp k) v) (hh : relH E w [(k, oM kf vd es)]) :
    ∃ r ents clock, v = .map (some r) ∧ w.heap[r]? = some (.map ents clock) ∧ ents.toList.map (·.key) = es.map (fun p => kf p.1) ∧ Rels E (es.map fun p => AV.data (vd p.2)) (ents.toList.map (·.val)) := by
  obtain ⟨hφ, _⟩ := hv
  obtain ⟨h, he, r, ents, clock, e, hw, hk, hr⟩ := hh.1
  rw [hφ] at he
  cases he
  exact ⟨r, ents, clock, e, hw, hk.trans (by rw [List.map_map]; rfl), by rw [List.map_map] at hr; exact hr⟩
variable {dst : Option Tmp} {ty : TypeId} {pos : String} {after : Array Edge} {g : Option (Nat × Bool)} {t : List (Nat × AV)} {h : List (Nat × HS)}
theorem run_lookup_own {E : Env} {w : World} {u kt et : TypeId} {z : ν} {zv : Value} (hu : P.underlying u = some (.map kt et)) (hK : KeyK P kt kf) (hz : ∀ w, (zeroValue et).run P w = .ok zv w) (hzr : Rel E (.data (vd z)) zv)
    {es : List (κ × ν)} {r clock : Nat} {ents : Array MapEntry} (hw : w.heap[r]? = some (.map ents clock)) (hk : ents.toList.map (·.key) = es.map (fun p => kf p.1)) (hr : Rels E (es.map fun p => AV.data (vd p.2)) (ents.toList.map (·.val))) (x : κ) :
    ∃ v, Rel E (.data (vd ((mGet es x).getD z))) v ∧ ∀ ok, (Instr.lookup u (.map (some r)) (kf x) ok).run P w = .ok (if ok then .tuple #[v, .bool (mGet es x).isSome] else v) w := by
  have hf := hK.find x ents.toList (es.map (·.1)) (by rw [hk, List.map_map]; rfl) w
  have hl : ents.toList.length = es.length := by have := congrArg List.length hk; simpa using this
  rcases fnd_get x (n := 0) hl hr with ⟨g1, g2⟩ | ⟨y, i, v, g1, g2, g3⟩
  · refine ⟨zv, by rw [g1]; exact hzr, fun ok => ?_⟩
    rw [g2] at hf
    simp only [Instr.lookup, Sem.run_bind, run_underlying hu, Result.andThen_ok, gom hw, Sem.run_pure, hK.chk, hf, hz]
    cases ok <;> simp [g1]
  · refine ⟨v, by rw [g1]; exact g3, fun ok => ?_⟩
    rw [g2] at hf
    simp only [Instr.lookup, Sem.run_bind, run_underlying hu, Result.andThen_ok, gom hw, Sem.run_pure, hK.chk, hf]
    cases ok <;> simp [g1]
theorem p_lk {u kt et : TypeId} {z : ν} {zv : Value} {x i : Operand} {k : Nat} {es : List (κ × ν)} {x0 : κ} (hu : P.underlying u = some (.map kt et)) (hK : KeyK P kt kf) (hz : ∀ w, (zeroValue et).run P w = .ok zv w) (hzd : vd z = .lit zv) (h1 : zv.oneCell' = true) (hx : rd t x = some (.mp k)) (hi : rd t i = some (.data (.lit (kf x0)))) (hh : hp h k = some (oM kf vd es)) :
    SA P K t h ⟨dst, .lookup u x i false, ty, pos, after, g⟩ (rdO x (.mp k) ++ rdO i (.data (.lit (kf x0)))) [(k, oM kf vd es)] (.data (vd ((mGet es x0).getD z))) [] := .pv2h hx hi hh fun a b => by
  intro E ac w _ _ hT hH
  have hT' := relT_append.1 hT
  have e2 := lit_eq (rdO_rel hT'.2 b)
  obtain ⟨r, ents, clock, e1, hw, hk, hr⟩ := own_map (rdO_rel hT'.1 a) hH
  obtain ⟨v, g1, g2⟩ := run_lookup_own (P := P) hu hK (z := z) (zv := zv) hz (by rw [hzd]; exact ⟨rfl, h1⟩) hw hk hr x0
  exact ⟨v, by simp [execOp, e1, e2, g2], g1⟩
theorem p_lko {u kt et : TypeId} {z : ν} {zv : Value} {x i : Operand} {k : Nat} {es : List (κ × ν)} {x0 : κ} (hu : P.underlying u = some (.map kt et)) (hK : KeyK P kt kf) (hz : ∀ w, (zeroValue et).run P w = .ok zv w) (hzd : vd z = .lit zv) (h1 : zv.oneCell' = true) (hx : rd t x = some (.mp k)) (hi : rd t i = some (.data (.lit (kf x0)))) (hh : hp h k = some (oM kf vd es)) :
    SA P K t h ⟨dst, .lookup u x i true, ty, pos, after, g⟩ (rdO x (.mp k) ++ rdO i (.data (.lit (kf x0)))) [(k, oM kf vd es)] (.tup [.data (vd ((mGet es x0).getD z)), aT (mGet es x0).isSome]) [] := .pv2h hx hi hh fun a b => by
  intro E ac w _ _ hT hH
  have hT' := relT_append.1 hT
  have e2 := lit_eq (rdO_rel hT'.2 b)
  obtain ⟨r, ents, clock, e1, hw, hk, hr⟩ := own_map (rdO_rel hT'.1 a) hH
  obtain ⟨v, g1, g2⟩ := run_lookup_own (P := P) hu hK (z := z) (zv := zv) hz (by rw [hzd]; exact ⟨rfl, h1⟩) hw hk hr x0
  exact ⟨.tuple #[v, .bool (mGet es x0).isSome], by simp [execOp, e1, e2, g2], [v, .bool (mGet es x0).isSome], rfl, v, _, rfl, g1, _, _, rfl, ⟨rfl, rfl⟩, rfl⟩
theorem p_mm {u : TypeId} (k : Nat) (vd : ν → D) (kf : κ → Value) (hf : hp h k = none) : SA P K t h ⟨dst, .makeMap u none, ty, pos, after, g⟩ [] [(k, .fresh)] (.mp k) [(k, oM kf vd ([] : List (κ × ν)))] := by
  refine ⟨?_, trivial, hp_no hf, trivial⟩
  intro C s a w _ hT hH hd hs
  obtain ⟨hdf, hsz, E, hO, hR⟩ := hs
  have hφ : E.φ k = none := by
    have := hO.hs k
    rw [hH.1] at this
    exact this
  obtain ⟨hle, hO'⟩ := hO.new hH.1 (.map #[] 0) (.map []) (.map (some w.heap.size)) rfl ⟨w.heap.size, #[], 0, rfl, by rw [heap_alloc_last], rfl, rfl⟩
  unfold Oper.wp
  have : (execOp a.eval ⟨dst, .makeMap u none, ty, pos, after, g⟩).run P w = .ok (.value (.map (some w.heap.size))) (w.alloc (.map #[] 0)) := by
    simp [execOp, run_makeMap]
  rw [this]
  exact Sat.put hdf hsz hR hle hO' hd ⟨Env.with_self _ _ _, _, rfl⟩
theorem la_mapUpdate {op : Op} {u kt et : TypeId} {x i y : Operand} {k : Nat} {es : List (κ × ν)} {x0 : κ} {y0 : ν} (ho : op = .mapUpdate u x i y ∨ op = .insert u x i y) (hu : P.underlying u = some (.map kt et)) (hK : KeyK P kt kf) (hx : OV x (.mp k)) (hi : OV i (.data (.lit (kf x0)))) (hy : OV y (.data (vd y0))) :
    LAct P K ⟨dst, op, ty, pos, after, g⟩ (rdO x (.mp k) ++ (rdO i (.data (.lit (kf x0))) ++ rdO y (.data (vd y0)))) [(k, oM kf vd es)] .any [(k, oM kf vd (mSet es x0 y0))] := by
  intro C s a w _ hT hH hd hs
  obtain ⟨hdf, hsz, E, hO, hR⟩ := hs
  have hT' := relT_append.1 (relT_of hR hT)
  have hT2 := relT_append.1 hT'.2
  have hxv := rdO_rel hT'.1 hx
  have e2 := lit_eq (rdO_rel hT2.1 hi)
  have hyv := rdO_rel hT2.2 hy
  obtain ⟨r, ents, clock, e1, hw, hk, hr⟩ := own_map hxv (relH_of hO hH)
  have hf := hK.find x0 ents.toList (es.map (·.1)) (by rw [hk, List.map_map]; rfl) w
  have hφ := hxv.1
  rw [e1] at hφ
  obtain ⟨g1, g2⟩ := fnd_set (kf := kf) hK.same x0 hyv (n := 0) hk hr
  have fin : ∀ (ents' : Array MapEntry) (clock' : Nat), ents'.toList.map (·.key) = (mSet es x0 y0).map (fun p => kf p.1) → Rels E ((mSet es x0 y0).map fun p => AV.data (vd p.2)) (ents'.toList.map (·.val)) →
      Sat C ⟨putT dst .any s.t, [(k, oM kf vd (mSet es x0 y0))] ++ s.h⟩ (a.put dst undef) { w with heap := w.heap.setIfInBounds r (.map ents' clock') } := by
    intro ents' clock' h1 h2
    have hlt := some_lt hw
    refine Sat.put (x := .any) (v := undef) hdf hsz hR (Env.le_refl E) (hO.write (w' := { w with heap := w.heap.setIfInBounds r (.map ents' clock') }) (b := r) (o' := .map ((mSet es x0 y0).map fun p => (kf p.1, .data (vd p.2)))) hH.1 hφ rfl (fun j hj => ?_) (by simp) rfl rfl rfl ⟨r, ents', clock', rfl, ?_, ?_, ?_⟩) hd trivial
    · simp only [Array.getElem?_setIfInBounds]
      rw [if_neg (Ne.symm hj)]
    · simp [hlt]
    · rw [h1, List.map_map]; rfl
    · rw [List.map_map]; exact h2
  have hset : ∀ o w0, w0 = w → (setObj r o).run P w0 = .ok () { w with heap := w.heap.setIfInBounds r o } := fun o w0 e => by
    subst e
    exact som o hw
  unfold Oper.wp
  cases hfd : fnd x0 (es.map (·.1)) ents.toList 0 with
  | none =>
    rw [hfd] at hf
    obtain ⟨a1, a2⟩ := g1 hfd clock
    have hrun : (Instr.mapUpdate u (.map (some r)) (kf x0) (a.eval y)).run P w = .ok () { w with heap := w.heap.setIfInBounds r (.map (ents.push { key := kf x0, val := a.eval y, born := clock }) (clock + 1)) } := by
      simp only [Instr.mapUpdate, Sem.run_bind, run_underlying hu, Result.andThen_ok, gom hw, hK.chk, hf, hset _ _ rfl]
    have hex : (execOp a.eval ⟨dst, op, ty, pos, after, g⟩).run P w = .ok .skip { w with heap := w.heap.setIfInBounds r (.map (ents.push { key := kf x0, val := a.eval y, born := clock }) (clock + 1)) } := by
      rcases ho with rfl | rfl <;> simp [execOp, e1, e2, hrun]
    rw [hex]
    exact fin _ _ (by simpa using a1) (by simpa using a2)
  | some p =>
    obtain ⟨n, u0⟩ := p
    rw [hfd] at hf
    obtain ⟨_, ⟨en, b2, b3⟩, b4, b5⟩ := g2 n u0 hfd
    rw [Nat.sub_zero] at b2 b4 b5
    have hkey : ((ents[n]?).map (·.key)).getD (kf x0) = kf x0 := by
      rw [Array.getElem?_toList] at b2
      rw [b2]; exact b3
    have hrun : (Instr.mapUpdate u (.map (some r)) (kf x0) (a.eval y)).run P w = .ok () { w with heap := w.heap.setIfInBounds r (.map (ents.modify n fun e => { e with key := kf x0, val := a.eval y }) clock) } := by
      simp only [Instr.mapUpdate, Sem.run_bind, run_underlying hu, Result.andThen_ok, gom hw, hK.chk, hf, hkey, Instr.keyThatStays, hK.bits, if_true, Sem.run_pure, hset _ _ rfl]
    have hex : (execOp a.eval ⟨dst, op, ty, pos, after, g⟩).run P w = .ok .skip { w with heap := w.heap.setIfInBounds r (.map (ents.modify n fun e => { e with key := kf x0, val := a.eval y }) clock) } := by
      rcases ho with rfl | rfl <;> simp [execOp, e1, e2, hrun]
    rw [hex]
    exact fin _ _ (by simpa using b4) (by simpa using b5)
theorem p_mu {u kt et : TypeId} {x i y : Operand} {k : Nat} {es : List (κ × ν)} {x0 : κ} {y0 : ν} (hu : P.underlying u = some (.map kt et)) (hK : KeyK P kt kf) (hx : rd t x = some (.mp k)) (hi : rd t i = some (.data (.lit (kf x0)))) (hy : rd t y = some (.data (vd y0))) (hh : hp h k = some (oM kf vd es)) :
    SA P K t h ⟨dst, .mapUpdate u x i y, ty, pos, after, g⟩ (rdO x (.mp k) ++ (rdO i (.data (.lit (kf x0))) ++ rdO y (.data (vd y0)))) [(k, oM kf vd es)] .any [(k, oM kf vd (mSet es x0 y0))] :=
  ⟨la_mapUpdate (.inl rfl) hu hK (rd_c hx).1 (rd_c hi).1 (rd_c hy).1, chkT_ap2 (rd_c hx).2 (chkT_ap2 (rd_c hi).2 (rd_c hy).2), hp_lk hh, trivial⟩
theorem p_mi {u kt et : TypeId} {x i y : Operand} {k : Nat} {es : List (κ × ν)} {x0 : κ} {y0 : ν} (hu : P.underlying u = some (.map kt et)) (hK : KeyK P kt kf) (hx : rd t x = some (.mp k)) (hi : rd t i = some (.data (.lit (kf x0)))) (hy : rd t y = some (.data (vd y0))) (hh : hp h k = some (oM kf vd es)) :
    SA P K t h ⟨dst, .insert u x i y, ty, pos, after, g⟩ (rdO x (.mp k) ++ (rdO i (.data (.lit (kf x0))) ++ rdO y (.data (vd y0)))) [(k, oM kf vd es)] .any [(k, oM kf vd (mSet es x0 y0))] :=
  ⟨la_mapUpdate (.inr rfl) hu hK (rd_c hx).1 (rd_c hi).1 (rd_c hy).1, chkT_ap2 (rd_c hx).2 (chkT_ap2 (rd_c hi).2 (rd_c hy).2), hp_lk hh, trivial⟩
end
abbrev dN (k : IntKind) (n : Int) : D := .lit (.int k n)
theorem renE_data {κ ν : Type} {kf : κ → Value} {vd : ν → D} (r : Nat → Nat) : ∀ es : List (κ × ν), renE r (es.map fun p => (kf p.1, .data (vd p.2))) = es.map fun p => (kf p.1, .data (vd p.2))
  | [] => rfl
  | p :: es => by
    show (kf p.1, renA r (.data (vd p.2))) :: renE r (es.map fun p => (kf p.1, .data (vd p.2))) = _
    rw [renE_data r es]
    rfl
theorem rmm {κ ν : Type} {kf : κ → Value} {vd : ν → D} {r : Nat → Nat} {es : List (κ × ν)} : renS r (oM kf vd es) = oM kf vd es := by
  simp only [renS, renO, renE_data]
theorem omm {κ ν : Type} {kf : κ → Value} {vd : ν → D} {p : Nat → Bool} {es : List (κ × ν)} : okH p (oM kf vd es) = true := by
  show okAs p ((es.map fun p => (kf p.1, AV.data (vd p.2))).map (·.2)) = true
  rw [List.map_map, show ((fun x : Value × AV => x.2) ∘ fun p : κ × ν => (kf p.1, AV.data (vd p.2))) = AV.data ∘ (fun p => vd p.2) from rfl, ← List.map_map]
  exact okAs_map _ _
section
variable {dst : Option Tmp} {ty : TypeId} {pos : String} {after : Array Edge} {g : Option (Nat × Bool)} {t : List (Nat × AV)} {h : List (Nat × HS)}
theorem flatMap_get {α : Type} {f : α → List D} {sz : Nat} (hf : ∀ x, (f x).length = sz) : ∀ {l : List α} {i : Nat} {r : α} {j : Nat} {d : D}, l[i]? = some r → (f r)[j]? = some d → (l.flatMap f)[i * sz + j]? = some d := by
  intro l i r j d hi hj
  rw [List.flatMap_def]
  exact flatten_get (cs := l.map f) (sz := sz) (fun c hc => by
    obtain ⟨y, _, rfl⟩ := List.mem_map.1 hc
    exact hf y) (by rw [List.getElem?_map, hi]; rfl) hj
theorem p_ixG {α : Type} {f : α → List D} {tab : List α} {r : α} {u e m gn sz : Nat} {i : Operand} {k : IntKind} {n : Int} (hG : K gn = some (tab.flatMap f)) (hu : P.underlying u = some (.array m e)) (hm : tab.length ≤ m) (he : ∀ w, (sizeOf e).run P w = .ok sz w) (hf : ∀ x, (f x).length = sz) (hi : rd t i = some (aN k n)) (hr : ix tab n = some r) :
    SA P K t h ⟨dst, .indexAddr u (.global gn) i, ty, pos, after, g⟩ (rdO i (aN k n)) [] (aP (f r)) [] := by
  unfold ix at hr
  split at hr
  · cases hr
  · rename_i h0
    have hlt : n.toNat < tab.length := (List.getElem?_eq_some_iff.1 hr).1
    refine .pv1 hi fun a => ?_
    intro E ac w _ hg hT _
    have e2 := lit_eq (rdO_rel hT a)
    refine ⟨.pointer (some ((⟨gn, 0, none⟩ : Addr).add (n.toNat * sz))), ?_, _, rfl, fun j d hj => ?_⟩
    · have h1 : n < (m : Int) := by omega
      have h2 : 0 ≤ n := by omega
      have e1 : ac.eval (.global gn) = .pointer (some ⟨gn, 0, none⟩) := rfl
      simp [execOp, e1, e2, Instr.indexAt, asIntOf, run_underlying hu, h1, h2, he, Instr.sureAddr]
    · rw [add_add]
      exact hg gn _ hG _ d (flatMap_get hf hr hj)
end
end Go.Proofs.YtgmpgoafokdcbaaGreatDoor.Sx
