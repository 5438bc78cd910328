/- The walk's words, part 6: parts of slices and strings, structs out of fields, appends of any list, maps. -/
import Derived.Test.YtgmpgoafokdcbaaGreatDoorSye
set_option linter.unusedVariables false
namespace Go.Proofs.YtgmpgoafokdcbaaGreatDoor.Sx
open Go Go.RowKit
variable {P : Program} {K : GL}
section
variable {dst : Option Tmp} {ty : TypeId} {pos : String} {after : Array Edge} {g : Option (Nat × Bool)} {t : List (Nat × AV)} {h : List (Nat × HS)}
inductive BO (t : List (Nat × AV)) : Option Operand → Option Value → Int → Int → Prop
  | no {z : Int} : BO t none none z z
  | yes {x : Operand} {k : IntKind} {n z : Int} : rd t x = some (aN k n) → BO t (some x) (some (.int k n)) z n
theorem BO.ov {lo : Option Operand} {v : Option Value} {z n : Int} (e : BO t lo v z n) : OVB lo v ∧ chkT t (rdB lo v) := by
  cases e with
  | no => exact ⟨trivial, trivial⟩
  | yes e => exact rd_c e
theorem BO.low {lo : Option Operand} {v : Option Value} {n : Int} (e : BO t lo v 0 n) (h0 : 0 ≤ n) : lowV v n.toNat := by
  cases e with
  | no => rfl
  | yes e => exact ⟨_, by rw [Int.toNat_of_nonneg h0]⟩
theorem BO.high {lo : Option Operand} {v : Option Value} {m : Nat} {n : Int} (e : BO t lo v m n) (h0 : 0 ≤ n) : highV v n.toNat m := by
  cases e with
  | no => simp [highV]
  | yes e => exact ⟨_, by rw [Int.toNat_of_nonneg h0]⟩
def subOk (a b n : Int) : Bool := decide (0 ≤ a) && decide (a ≤ b) && decide (b ≤ n)
theorem p_slL {α : Type} {f : α → List D} {l : List α} {u e : TypeId} {sz : Nat} {x : Operand} {lo hi : Option Operand} {vl vh : Option Value} {a b : Int} (ht : P.underlying u = some (.slice e)) (hs : ∀ w, (sizeOf e).run P w = .ok sz w) (hx : rd t x = some (aL sz f l)) (hlo : BO t lo vl 0 a) (hhi : BO t hi vh l.length b) (hc : subOk a b l.length = true) :
    SA P K t h ⟨dst, .slice u x lo hi none, ty, pos, after, g⟩ (rdO x (aL sz f l) ++ (rdB lo vl ++ rdB hi vh)) [] (aL sz f (lSub l a b)) [] := by
  simp only [subOk, Bool.and_eq_true, decide_eq_true_eq] at hc
  have h1 := pv_slice_list (P := P) (K := K) (dst := dst) (ty := ty) (pos := pos) (after := after) (g := g) ht hs (rd_c hx).1 hlo.ov.1 hhi.ov.1 (hlo.low hc.1.1) (by rw [List.length_map]; exact hhi.high (by omega)) (by omega) (by rw [List.length_map]; omega)
  rw [← List.map_take, ← List.map_drop] at h1
  exact ⟨h1.lact, chkT_ap2 (rd_c hx).2 (chkT_ap2 hlo.ov.2 hhi.ov.2), trivial⟩
theorem p_slS {s : ByteArray} {u : TypeId} {x : Operand} {lo hi : Option Operand} {vl vh : Option Value} {a b : Int} (ht : P.underlying u = some .string) (hx : rd t x = some (aS s)) (hlo : BO t lo vl 0 a) (hhi : BO t hi vh s.size b) (hc : subOk a b s.size = true) :
    SA P K t h ⟨dst, .slice u x lo hi none, ty, pos, after, g⟩ (rdO x (aS s) ++ (rdB lo vl ++ rdB hi vh)) [] (aS (sSub s a b)) [] := by
  simp only [subOk, Bool.and_eq_true, decide_eq_true_eq] at hc
  have h1 := pv_slice_string (P := P) (K := K) (dst := dst) (ty := ty) (pos := pos) (after := after) (g := g) ht (rd_c hx).1 hlo.ov.1 hhi.ov.1 (hlo.low hc.1.1) (hhi.high (by omega)) (by omega) (by omega)
  exact ⟨h1.lact, chkT_ap2 (rd_c hx).2 (chkT_ap2 hlo.ov.2 hhi.ov.2), trivial⟩
def putA : List AV → Nat → List AV → List AV
  | [], _, _ => []
  | c :: cs, n + 1, vs => c :: putA cs n vs
  | c :: cs, 0, [] => c :: cs
  | _ :: cs, 0, v :: vs => v :: putA cs 0 vs
theorem putA_eq : ∀ {cs : List AV} {off : Nat} {vs : List AV}, off + vs.length ≤ cs.length → putA cs off vs = cs.take off ++ vs ++ cs.drop (off + vs.length)
  | [], off, vs, h => by
    have h1 : vs = [] := List.length_eq_zero_iff.1 (by simp only [List.length_nil] at h; omega)
    subst h1
    simp [putA]
  | c :: cs, n + 1, vs, h => by
    simp only [putA, List.take_succ_cons, List.cons_append]
    rw [putA_eq (by simp only [List.length_cons] at h; omega), show n + 1 + vs.length = n + vs.length + 1 by omega, List.drop_succ_cons]
  | c :: cs, 0, [], _ => by simp [putA]
  | c :: cs, 0, v :: vs, h => by
    simp only [putA]
    rw [putA_eq (by simp only [List.length_cons] at h; omega)]
    simp
def buildA (pl : List (Nat × Nat)) : List AV → List (Nat × AV) → Option (List AV)
  | cs, [] => some cs
  | cs, (i, v) :: l =>
    match pl[i]? with
    | some (off, size) => bif Nat.beq (CV v).length size && Nat.ble (off + size) cs.length then buildA pl (putA cs off (CV v)) l else none
    | none => none
theorem fillA_ok {E : Env} {pl : List (Nat × Nat)} : ∀ {ps : List (Nat × AV)} {vals : List Value} {cs cs' : List AV} {c : Array Value}, buildA pl cs ps = some cs' → (∀ p ∈ ps, cellAV p.2) → Rels E (ps.map (·.2)) vals → Rels E cs c.toList → (∀ u ∈ c.toList, u.oneCell' = true) →
    ∃ c', Instr.fill (fun i => pl[i]?) c ((ps.map (·.1)).zip vals) = some c' ∧ Rels E cs' c'.toList ∧ ∀ u ∈ c'.toList, u.oneCell' = true
  | [], vals, cs, cs', c, e, _, hv, hc, h1 => by
    cases e
    exact ⟨c, by simp [Instr.fill], hc, h1⟩
  | (i, v) :: ps, vals, cs, cs', c, e, ha, hv, hc, h1 => by
    obtain ⟨u, us', rfl, hu, hus⟩ := hv
    simp only [buildA] at e
    split at e
    · rename_i off size hp
      cases hb : (Nat.beq (CV v).length size && Nat.ble (off + size) cs.length) with
      | false => rw [hb] at e; cases e
      | true =>
        rw [hb] at e
        rw [Bool.and_eq_true] at hb
        have hl1 := Nat.eq_of_beq_eq_true hb.1
        have hl2 := Nat.le_of_ble_eq_true hb.2
        have e' : buildA pl (cs.take off ++ CV v ++ cs.drop (off + size)) ps = some cs' := by
          have e0 : buildA pl (putA cs off (CV v)) ps = some cs' := e
          rw [putA_eq (by omega), hl1] at e0
          exact e0
        obtain ⟨ws, hws, hwr, hw1⟩ := CV_rel (ha (i, v) (by simp)) hu
        have hlen := hwr.length
        rw [hl1] at hlen
        have hcl := hc.length
        have hsz : u.cells.size = size := by rw [← Array.length_toList, hws]; exact hlen
        have hcs : c.size = cs.length := by rw [← Array.length_toList]; exact hcl
        have hsp := splice_fold off u.cells c (by rw [hsz]; omega)
        rw [hws, hsz] at hsp
        obtain ⟨c', h3, h4, h5⟩ := fillA_ok (c := (c.toList.take off ++ ws ++ c.toList.drop (off + size)).toArray) e' (fun p hp => ha p (by simp [hp])) hus (by simpa using ((hc.take off).append hwr).append (hc.drop (off + size))) (fun x hx => by
          simp only [List.mem_append] at hx
          rcases hx with (hx | hx) | hx
          · exact h1 x (List.mem_of_mem_take hx)
          · exact hw1 x hx
          · exact h1 x (List.mem_of_mem_drop hx))
        refine ⟨c', ?_, h4, h5⟩
        simp only [List.map_cons, List.zip_cons_cons, Instr.fill, hp]
        rw [if_neg (by simp [hsz]; omega), hsp]
        exact h3
    · cases e
def pairA : List (Nat × Operand) → List AV → List (Nat × AV)
  | (i, _) :: l, v :: vs => (i, v) :: pairA l vs
  | _, _ => []
theorem pairA_ok {t : List (Nat × AV)} : ∀ {l : List (Nat × Operand)} {vs : List AV}, rds t (l.map (·.2)) = some vs → (pairA l vs).map (·.1) = l.map (·.1) ∧ (pairA l vs).map (·.2) = vs
  | [], vs, e => by cases e; exact ⟨rfl, rfl⟩
  | (i, o) :: l, vs, e => by
    have e' : ((rd t o).bind fun v => (rds t (l.map (·.2))).bind fun vs => some (v :: vs)) = some vs := e
    obtain ⟨v, h1, e'⟩ := ob e'
    obtain ⟨us, h2, e'⟩ := ob e'
    cases e'
    have := pairA_ok h2
    exact ⟨by simp [pairA, this.1], by simp [pairA, this.2]⟩
def allCell : List AV → Prop
  | [] => True
  | v :: vs => cellAV v ∧ allCell vs
theorem allCell_mem : ∀ {vs : List AV}, allCell vs → ∀ v ∈ vs, cellAV v
  | [], _, _, hm => by cases hm
  | _ :: _, h, v, hm => by
    rcases List.mem_cons.1 hm with rfl | hm
    · exact h.1
    · exact allCell_mem h.2 v hm
theorem p_bd {u : TypeId} {pl : List (Nat × Nat)} {zs : List Value} {parts : Array (Nat × Operand)} {vs cs : List AV} (hp : Pl P u pl) (hz : Zr P u zs) (hv : rds t (parts.toList.map (·.2)) = some vs) (hc : allCell vs) (hb : buildA pl (zs.map fun z => .data (.lit z)) (pairA parts.toList vs) = some cs) :
    SA P K t h ⟨dst, .build u parts, ty, pos, after, g⟩ (rdOs (parts.toList.map (·.2)) vs) [] (.agg cs) [] := by
  refine ⟨PV.lact ?_, (rds_c hv).2, trivial⟩
  intro E a w _ _ hT _
  obtain ⟨fields, hu, hm⟩ := hp
  obtain ⟨⟨z, hz1, hz2⟩, hz3⟩ := hz
  have hx := rdOs_rel hT (rds_c hv).1
  have hpo := pairA_ok hv
  obtain ⟨c', h3, h4, h5⟩ := fillA_ok (c := z.cells) hb (fun p hp => allCell_mem hc _ (hpo.2 ▸ List.mem_map.2 ⟨p, hp, rfl⟩)) (by rw [hpo.2]; exact hx) (by rw [hz2]; exact rels_lits hz3) (by rw [hz2]; exact hz3)
  refine ⟨.agg c', ?_, c'.toList, by simp, h4, h5⟩
  rw [hpo.1] at h3
  have e1 : (parts.map fun (p : Nat × Operand) => (p.1, a.eval p.2)).toList = (parts.toList.map (·.1)).zip ((parts.toList.map (·.2)).map a.eval) := by
    rw [Array.toList_map]
    induction parts.toList with
    | nil => rfl
    | cons q l ih => simp [ih]
  have e2 : (fun i => (pl.toArray)[i]? : Nat → Option (Nat × Nat)) = fun i => pl[i]? := funext fun i => by simp
  simp only [execOp, Instr.build, Sem.run_bind, hz1, Result.andThen_ok, run_underlying hu, hm, e1, e2, h3, Sem.run_pure]
theorem grown_refl (w : World) (row : Option Nat) : w.grownBy w row := ⟨rfl, rfl, rfl, Nat.le_refl _, fun _ _ _ => rfl⟩
theorem run_append_empty {w : World} {t ty e : TypeId} {sz bytes : Nat} (ht : P.underlying t = some (.slice e)) (hE : El P e sz bytes) {v : Value} {n : Nat} {vs : List Value} (ho : w.ownsRow 0 e sz v n vs) (A : Option Addr) (cap : Nat) (hA : ∀ a, A = some a → True) :
    (Builtin.append_ #[t, t] ty #[v, .slice A 0 cap]).run P w = .ok v w := by
  obtain ⟨i, z, hi, hz, hi1, hi2, hz2⟩ := hE.ex
  rcases ho.2 with ⟨rfl, hn⟩ | ⟨g0, c, cur, rfl, _, hw, hc1, hc2, hc3, hc4⟩
  · cases A <;> simp [Builtin.append_, run_underlying ht, sizeOf, typeInfo, hi, Builtin.lenOf, Builtin.firstCells, loadCells, loadCellsFrom]
  · cases A <;> simp [Builtin.append_, run_underlying ht, sizeOf, typeInfo, hi, Builtin.lenOf, Builtin.firstCells, loadCells, loadCellsFrom, hc1, storeCells]
theorem la_append_any {t e : TypeId} {sz bytes n k k' : Nat} {x y : Operand} {cs : List AV} {ds : List (List D)} (ht : P.underlying t = some (.slice e)) (hE : El P e sz bytes) (hx : OV x (.row k)) (hy : OV y (.data (.list sz ds)))
    (h63 : n + ds.length ≤ maxLen) (hby : (n + ds.length) * bytes ≤ 140737488355328) :
    LAct P K ⟨dst, .call { callee := .builtin .append, args := #[x, y], argTypes := #[t, t] }, ty, pos, after, g⟩ (rdO x (.row k) ++ rdO y (.data (.list sz ds))) [(k, .live (.row e sz n cs)), (k', .fresh)] (.row k')
      [(k', .live (.row e sz (n + ds.length) (cs ++ ds.flatten.map .data))), (k, .dead)] := by
  by_cases hne : ds = []
  · subst hne
    simp only [List.length_nil, Nat.add_zero, List.flatten_nil, List.map_nil, List.append_nil] at h63 hby ⊢
    intro C s a w hK hT hH hd hs
    obtain ⟨hdf, hsz, E, hO, hR⟩ := hs
    have hT' := relT_append.1 (relT_of hR hT)
    obtain ⟨hφ, A0, n0, c0, hv0⟩ := rdO_rel hT'.1 hx
    obtain ⟨A, cap, hv, hc1, hc2, hr⟩ := rdO_rel hT'.2 hy
    have hk := hO.hs k
    rw [hH.1] at hk
    obtain ⟨hv1, hφ1, ⟨vs, hown, hrel, hone⟩, hn⟩ := hk
    rw [hφ] at hφ1
    cases hφ1
    have hrun := run_append_empty (P := P) (w := w) (t := t) (ty := ty) ht hE hown A cap (fun _ _ => trivial)
    have hφ' : E.φ k' = none := by
      have := hO.hs k'
      rw [hH.2.1] at this
      exact this
    have hle0 := Env.with_le (a.eval x) hφ'
    have hO' := hO.grow (k' := k') (o' := .row e sz n cs) (v' := a.eval x) hH.1 hφ hH.2.1 (grown_refl w _) (.inl rfl) ⟨vs, hown, Rels.mono hle0 hrel, hone⟩
    unfold Oper.wp
    have hex : (execOp a.eval ⟨dst, .call { callee := .builtin .append, args := #[x, y], argTypes := #[t, t] }, ty, pos, after, g⟩).run P w = .ok (.value (a.eval x)) w := by
      have e1 : (#[x, y].map a.eval) = #[a.eval x, .slice A 0 cap] := by simp [hv]
      simp only [execOp, resolve, e1, Sem.run_bind, Sem.run_pure, Result.andThen_ok, invoke, builtin, hrun]
    rw [hex]
    exact Sat.put hdf hsz hR hO'.1 hO'.2 hd (x := .row k') (v := a.eval x) ⟨Env.with_self _ _ _, A0, n0, c0, hv0⟩
  · exact la_append_row ht hE hx hy hne h63 hby
theorem p_apA {α : Type} {f : α → List D} {l m : List α} {u e : TypeId} {sz bytes k : Nat} {x y : Operand} (k' : Nat) (ht : P.underlying u = some (.slice e)) (hE : El P e sz bytes) (hx : rd t x = some (.row k)) (hh : hp h k = some (oR e sz f l)) (hy : rd t y = some (aL sz f m))
    (hf : hp h k' = none) (hr : roomy (l.length + m.length) bytes = true) :
    SA P K t h ⟨dst, .call { callee := .builtin .append, args := #[x, y], argTypes := #[u, u] }, ty, pos, after, g⟩ (rdO x (.row k) ++ rdO y (aL sz f m)) [(k, oR e sz f l), (k', .fresh)] (.row k') [(k', oR e sz f (l ++ m)), (k, .dead)] := by
  simp only [roomy, Bool.and_eq_true, decide_eq_true_eq] at hr
  have h1 := la_append_any (K := K) (dst := dst) (ty := ty) (pos := pos) (after := after) (g := g) (k' := k') (n := l.length) (cs := rowC f l) ht hE (rd_c hx).1 (rd_c hy).1 (by rw [List.length_map]; unfold maxLen; omega) (by rw [List.length_map]; exact hr.2)
  rw [flat_map, ← rowC_app, List.length_map, ← List.length_append] at h1
  exact ⟨h1, chkT_ap2 (rd_c hx).2 (rd_c hy).2, hp_lk hh, hp_no hf, trivial⟩
end
end Go.Proofs.YtgmpgoafokdcbaaGreatDoor.Sx
