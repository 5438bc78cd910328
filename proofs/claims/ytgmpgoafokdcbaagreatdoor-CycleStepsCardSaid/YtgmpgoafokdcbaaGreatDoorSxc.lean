/- Part 3 of the small logic: the operations that only read. -/
import Derived.Test.YtgmpgoafokdcbaaGreatDoorSxb
import Derived.Laws.Cells
set_option linter.unusedVariables false
namespace Go.Proofs.YtgmpgoafokdcbaaGreatDoor.Sx
open Go Go.RowKit
variable {P : Program} {K : GL}
structure Ty (P : Program) (t : TypeId) (sz : Nat) (agg : Bool) : Prop where
  size : ∀ w, (sizeOf t).run P w = .ok sz w
  agg : ∀ w, (isAgg t).run P w = .ok agg w
def rdO (x : Operand) (v : AV) : List (Nat × AV) := match x with
  | .tmp i => [(i, v)]
  | _ => []
def OV (x : Operand) (v : AV) : Prop := match x with
  | .tmp _ => True
  | .const c => c.oneCell' = true ∧ v = .data (.lit c)
  | .func f => v = .fn (.func f) [] []
  | .global _ => False
theorem relT_append {E : Env} {a : Act} : ∀ {l m : List (Nat × AV)}, relT E a (l ++ m) ↔ relT E a l ∧ relT E a m
  | [], m => by simp [relT]
  | (i, x) :: l, m => by simp [relT, relT_append, and_assoc]
theorem rdO_rel {E : Env} {a : Act} {x : Operand} {v : AV} (h : relT E a (rdO x v)) (hv : OV x v) : Rel E v (a.eval x) := by
  cases x with
  | tmp i => exact h.1
  | const c =>
    obtain ⟨h1, rfl⟩ := hv
    exact ⟨rfl, h1⟩
  | func f =>
    rw [show v = .fn (.func f) [] [] from hv]
    exact ⟨[], [], rfl, rfl, rfl⟩
  | global g => exact absurd hv id
section
variable {dst : Option Tmp} {ty : TypeId} {pos : String} {after : Array Edge} {g : Option (Nat × Bool)}
theorem pv_move {x : Operand} {v : AV} (hv : OV x v) : PV P K ⟨dst, .move x, ty, pos, after, g⟩ (rdO x v) [] v :=
  fun E a w _ _ hT _ => ⟨a.eval x, rfl, rdO_rel hT hv⟩
theorem pv_assign {x : Operand} {v : AV} (hv : OV x v) : PV P K ⟨dst, .assign x, ty, pos, after, g⟩ (rdO x v) [] v :=
  fun E a w _ _ hT _ => ⟨a.eval x, rfl, rdO_rel hT hv⟩
theorem lit_eq {E : Env} {x v : Value} (h : Rel E (.data (.lit x)) v) : v = x := h.1
theorem pv_load_fp {t : TypeId} {x : Operand} {cs : List D} {d : D} (ht : Ty P t 1 false) (hx : OV x (.data (.fp cs))) (hd : cs[0]? = some d) :
    PV P K ⟨dst, .load t x, ty, pos, after, g⟩ (rdO x (.data (.fp cs))) [] (.data d) := by
  intro E a w hf _ hT _
  obtain ⟨ad, e, hc⟩ := rdO_rel hT hx
  obtain ⟨u, hu, hr⟩ := hc 0 d hd
  have hw := fcell_world hf hu
  rw [show ad.add 0 = ad from by simp [Addr.add]] at hw
  exact ⟨u, by simp [execOp, Instr.loadAt, e, Instr.sureAddr, loadVar, ht.agg, hw], hr⟩
theorem cells_vals {E : Env} {ad : Addr} : ∀ {cs : List D}, cellsAt E.F ad cs → ∃ vs : List Value, Rels E (cs.map .data) vs ∧ (∀ u ∈ vs, u.oneCell' = true) ∧ ∀ (j : Nat) (u : Value), vs[j]? = some u → fcell E.F (ad.add j) = some u := by
  intro cs h
  suffices H : ∀ (cs' : List D) (n : Nat), (∀ (j : Nat) (d : D), cs'[j]? = some d → ∃ u, fcell E.F (ad.add (n + j)) = some u ∧ d.p E.F u) → ∃ vs : List Value, Rels E (cs'.map .data) vs ∧ (∀ u ∈ vs, u.oneCell' = true) ∧ ∀ (j : Nat) (u : Value), vs[j]? = some u → fcell E.F (ad.add (n + j)) = some u by
    obtain ⟨vs, h1, h2, h3⟩ := H cs 0 (fun j d e => by rw [Nat.zero_add]; exact h j d e)
    exact ⟨vs, h1, h2, fun j u e => by have := h3 j u e; rwa [Nat.zero_add] at this⟩
  intro cs'
  induction cs' with
  | nil => intro n _; exact ⟨[], rfl, by simp, fun j u e => by simp at e⟩
  | cons d cs' ih =>
    intro n h'
    obtain ⟨u, hu, hd⟩ := h' 0 d rfl
    obtain ⟨vs, h1, h2, h3⟩ := ih (n + 1) (fun j d' e => by have := h' (j + 1) d' (by simpa using e); rwa [show n + (j + 1) = n + 1 + j by omega] at this)
    refine ⟨u :: vs, ⟨u, vs, rfl, hd, h1⟩, ?_, ?_⟩
    · intro x hx
      rcases List.mem_cons.1 hx with rfl | hx
      · exact d.one hd
      · exact h2 x hx
    · intro j x e
      cases j with
      | zero =>
        simp at e
        subst e
        exact hu
      | succ j =>
        have := h3 j x (by simpa using e)
        rwa [show n + 1 + j = n + (j + 1) by omega] at this
theorem cellsAt_take {F : FH} {ad : Addr} {cs : List D} (h : cellsAt F ad cs) (n : Nat) : cellsAt F ad (cs.take n) := fun j d e => h j d (by
  rw [List.getElem?_take] at e
  split at e
  · exact e
  · cases e)
theorem add_add (ad : Addr) (m n : Nat) : (ad.add m).add n = ad.add (m + n) := by
  unfold Addr.add
  by_cases hm : m = 0 <;> by_cases hn : n = 0 <;> simp [hm, hn, Nat.add_assoc]
theorem cellsAt_drop {F : FH} {ad : Addr} {cs : List D} (h : cellsAt F ad cs) (n : Nat) : cellsAt F (ad.add n) (cs.drop n) := fun j d e => by
  rw [add_add]
  exact h (n + j) d (by rwa [List.getElem?_drop] at e)
theorem pv_load_fp_agg {t : TypeId} {n : Nat} {x : Operand} {cs : List D} (ht : Ty P t n true) (hx : OV x (.data (.fp cs))) (hn : n ≤ cs.length) :
    PV P K ⟨dst, .load t x, ty, pos, after, g⟩ (rdO x (.data (.fp cs))) [] (.agg ((cs.take n).map .data)) := by
  intro E a w hf _ hT _
  obtain ⟨ad, e, hc⟩ := rdO_rel hT hx
  obtain ⟨vs, h1, h2, h3⟩ := cells_vals (cellsAt_take hc n)
  have hl : vs.length = n := by rw [h1.length]; simp; omega
  have := run_loadCells_list (P := P) w ad vs (fun j v e => fcell_world hf (h3 j v e))
  rw [hl] at this
  exact ⟨.agg vs.toArray, by simp [execOp, Instr.loadAt, e, Instr.sureAddr, loadVar, ht.agg, ht.size, this], vs, rfl, h1, h2⟩
theorem own_cells {E : Env} {w : World} {k off : Nat} {t : TypeId} {cs : List AV} {v : Value} (hv : Rel E (.ptr k off) v) (hh : relH E w [(k, .live (.cells t cs))]) :
    ∃ b, ∃ vs : List Value, v = .pointer (some ⟨b, off, none⟩) ∧ w.heap[b]? = some (.cells vs.toArray t (0, 0)) ∧ Rels E cs vs ∧ ∀ u ∈ vs, u.oneCell' = true := by
  obtain ⟨b, hb, rfl⟩ := hv
  obtain ⟨h, he, b', vs, e, hw, hr, h1⟩ := hh.1
  rw [hb] at he
  cases he
  cases e
  exact ⟨b, vs, rfl, hw, hr, h1⟩
theorem cell_at {w : World} {b off : Nat} {vs : List Value} {t : TypeId} {u : Value} (h : w.heap[b]? = some (.cells vs.toArray t (0, 0))) (e : vs[off]? = some u) : w.cell? ⟨b, off, none⟩ = some u := by
  simp [World.cell?, h, e]
theorem pv_load {t ct : TypeId} {x : Operand} {k off : Nat} {cs : List AV} {y : AV} (ht : Ty P t 1 false) (hx : OV x (.ptr k off)) (hy : cs[off]? = some y) :
    PV P K ⟨dst, .load t x, ty, pos, after, g⟩ (rdO x (.ptr k off)) [(k, .live (.cells ct cs))] y := by
  intro E a w _ _ hT hH
  obtain ⟨b, vs, e, hw, hr, _⟩ := own_cells (rdO_rel hT hx) hH
  obtain ⟨u, hu, hy'⟩ := hr.get hy
  have := cell_at hw hu
  exact ⟨u, by simp [execOp, Instr.loadAt, e, Instr.sureAddr, loadVar, ht.agg, this], hy'⟩
theorem pv_load_agg {t ct : TypeId} {n : Nat} {x : Operand} {k off : Nat} {cs : List AV} (ht : Ty P t n true) (hx : OV x (.ptr k off)) (hn : off + n ≤ cs.length) :
    PV P K ⟨dst, .load t x, ty, pos, after, g⟩ (rdO x (.ptr k off)) [(k, .live (.cells ct cs))] (.agg ((cs.drop off).take n)) := by
  intro E a w _ _ hT hH
  obtain ⟨b, vs, e, hw, hr, h1⟩ := own_cells (rdO_rel hT hx) hH
  have hl : ((vs.drop off).take n).length = n := by have := hr.length; simp; omega
  have := run_loadCells_list (P := P) w ⟨b, off, none⟩ ((vs.drop off).take n) (fun j v ej => by
    rw [List.getElem?_take] at ej
    split at ej
    · rw [List.getElem?_drop] at ej
      have hc := cell_at hw ej
      unfold Addr.add
      split
      · rename_i h0; subst h0; exact hc
      · exact hc
    · cases ej)
  rw [hl] at this
  exact ⟨.agg ((vs.drop off).take n).toArray, by simp [execOp, Instr.loadAt, e, Instr.sureAddr, loadVar, ht.agg, ht.size, this], _, rfl, (hr.drop off).take n, fun u hu => h1 u (List.mem_of_mem_drop (List.mem_of_mem_take hu))⟩
structure Fld (P : Program) (s : TypeId) (i off : Nat) : Prop where
  run : ∀ (a : Addr) (w : World), (Instr.fieldAt s (.pointer (some a)) i).run P w = .ok (.pointer (some (a.add off))) w
theorem pv_field_fp {s : TypeId} {i off : Nat} {x : Operand} {cs : List D} (hf : Fld P s i off) (hx : OV x (.data (.fp cs))) :
    PV P K ⟨dst, .fieldAddr s x i, ty, pos, after, g⟩ (rdO x (.data (.fp cs))) [] (.data (.fp (cs.drop off))) := by
  intro E a w _ _ hT _
  obtain ⟨ad, e, hc⟩ := rdO_rel hT hx
  exact ⟨.pointer (some (ad.add off)), by simp [execOp, e, hf.run], ad.add off, rfl, cellsAt_drop hc off⟩
theorem pv_field {s : TypeId} {i off : Nat} {x : Operand} {k o : Nat} (hf : Fld P s i off) (hx : OV x (.ptr k o)) :
    PV P K ⟨dst, .fieldAddr s x i, ty, pos, after, g⟩ (rdO x (.ptr k o)) [] (.ptr k (o + off)) := by
  intro E a w _ _ hT _
  obtain ⟨b, hb, e⟩ := rdO_rel hT hx
  refine ⟨.pointer (some ⟨b, o + off, none⟩), ?_, b, hb, rfl⟩
  simp only [execOp, e, hf.run, Sem.run_bind, Result.andThen, Sem.run_pure]
  congr 3
  unfold Addr.add
  split
  · rename_i h; simp [h]
  · rfl
theorem pv_index_list {t e : TypeId} {sz : Nat} {x ix : Operand} {xs : List (List D)} {i : Int} {c : List D} (ht : P.underlying t = some (.slice e)) (he : ∀ w, (sizeOf e).run P w = .ok sz w)
    (hx : OV x (.data (.list sz xs))) (hi : OV ix (.data (.lit (.int .i64 i)))) (h0 : 0 ≤ i) (hc : xs[i.toNat]? = some c) :
    PV P K ⟨dst, .indexAddr t x ix, ty, pos, after, g⟩ (rdO x (.data (.list sz xs)) ++ rdO ix (.data (.lit (.int .i64 i)))) [] (.data (.fp c)) := by
  intro E a w _ _ hT _
  rw [relT_append] at hT
  obtain ⟨A, cap, e1, _, _, hr⟩ := rdO_rel hT.1 hx
  have e2 := lit_eq (rdO_rel hT.2 hi)
  have hlt : i.toNat < xs.length := (List.getElem?_eq_some_iff.1 hc).1
  obtain ⟨ad, rfl, hrow⟩ := hr (by rintro rfl; simp at hlt)
  obtain ⟨hl, hcc⟩ := hrow _ _ hc
  refine ⟨.pointer (some (ad.add (i.toNat * sz))), ?_, _, rfl, hcc⟩
  have h1 : i < (xs.length : Int) := by omega
  simp [execOp, e1, e2, Instr.indexAt, asIntOf, run_underlying ht, h0, h1, he]
theorem pv_bin {op : BinOp} {t u : TypeId} {x y : Operand} {p q r : Value} (hx : OV x (.data (.lit p))) (hy : OV y (.data (.lit q))) (h1 : r.oneCell' = true)
    (hr : ∀ w, (do eqGuard op t x y p q; binOp op t p q).run P w = .ok r w) :
    PV P K ⟨dst, .binOp op t x y u, ty, pos, after, g⟩ (rdO x (.data (.lit p)) ++ rdO y (.data (.lit q))) [] (.data (.lit r)) := by
  intro E a w _ _ hT _
  rw [relT_append] at hT
  have e1 := lit_eq (rdO_rel hT.1 hx)
  have e2 := lit_eq (rdO_rel hT.2 hy)
  refine ⟨r, ?_, rfl, h1⟩
  have := hr w
  rw [Sem.run_bind] at this
  simp only [execOp, e1, e2, Sem.run_bind]
  rw [this]
  rfl
theorem pv_un {op : UnOp} {t : TypeId} {x : Operand} {p r : Value} (hx : OV x (.data (.lit p))) (h1 : r.oneCell' = true) (hr : ∀ w, (Op.unary op p).run P w = .ok r w) :
    PV P K ⟨dst, .unOp op t x, ty, pos, after, g⟩ (rdO x (.data (.lit p))) [] (.data (.lit r)) := by
  intro E a w _ _ hT _
  have e1 := lit_eq (rdO_rel hT hx)
  exact ⟨r, by simp [execOp, e1, hr], rfl, h1⟩
theorem pv_conv {s t : TypeId} {x : Operand} {p r : Value} (hx : OV x (.data (.lit p))) (h1 : r.oneCell' = true) (hr : ∀ w, (convert s t p).run P w = .ok r w) :
    PV P K ⟨dst, .convert s t x, ty, pos, after, g⟩ (rdO x (.data (.lit p))) [] (.data (.lit r)) := by
  intro E a w _ _ hT _
  have e1 := lit_eq (rdO_rel hT hx)
  exact ⟨r, by simp [execOp, e1, hr], rfl, h1⟩
theorem pv_nil_ptr {x : Operand} {k o : Nat} (hx : OV x (.ptr k o)) : PV P K ⟨dst, .nilCheck x, ty, pos, after, g⟩ (rdO x (.ptr k o)) [] (.ptr k o) := by
  intro E a w _ _ hT _
  obtain ⟨b, hb, e⟩ := rdO_rel hT hx
  exact ⟨.pointer (some ⟨b, o, none⟩), by simp [execOp, e], b, hb, rfl⟩
theorem pv_nil_fp {x : Operand} {cs : List D} (hx : OV x (.data (.fp cs))) : PV P K ⟨dst, .nilCheck x, ty, pos, after, g⟩ (rdO x (.data (.fp cs))) [] (.data (.fp cs)) := by
  intro E a w _ _ hT _
  obtain ⟨ad, e, hc⟩ := rdO_rel hT hx
  exact ⟨.pointer (some ad), by simp [execOp, e], ad, rfl, hc⟩
theorem pv_extract {x : Operand} {i : Nat} {vs : List AV} {v : AV} (hx : OV x (.tup vs)) (hv : vs[i]? = some v) : PV P K ⟨dst, .extract x i, ty, pos, after, g⟩ (rdO x (.tup vs)) [] v := by
  intro E a w _ _ hT _
  obtain ⟨us, e, hr⟩ := rdO_rel hT hx
  obtain ⟨u, hu, hy⟩ := hr.get hv
  exact ⟨u, by simp [execOp, e, Instr.extract, hu], hy⟩
theorem pv_len_list {t e : TypeId} {sz : Nat} {x : Operand} {xs : List (List D)} (ht : P.underlying t = some (.slice e)) (hx : OV x (.data (.list sz xs))) :
    PV P K ⟨dst, .call { callee := .builtin .len, args := #[x], argTypes := #[t] }, ty, pos, after, g⟩ (rdO x (.data (.list sz xs))) [] (.data (.lit (.int .i64 xs.length))) := by
  intro E a w _ _ hT _
  obtain ⟨A, cap, e1, _, _, hr⟩ := rdO_rel hT hx
  exact ⟨.int .i64 xs.length, by simp [execOp, resolve, invoke, builtin, e1, Builtin.len_, run_underlying ht, goInt], rfl, rfl⟩
theorem pv_len_string {t : TypeId} {x : Operand} {s : ByteArray} (ht : P.underlying t = some .string) (hx : OV x (.data (.lit (.string s)))) :
    PV P K ⟨dst, .call { callee := .builtin .len, args := #[x], argTypes := #[t] }, ty, pos, after, g⟩ (rdO x (.data (.lit (.string s)))) [] (.data (.lit (.int .i64 s.size))) := by
  intro E a w _ _ hT _
  have e1 := lit_eq (rdO_rel hT hx)
  exact ⟨.int .i64 s.size, by simp [execOp, resolve, invoke, builtin, e1, Builtin.len_, run_underlying ht, goInt], rfl, rfl⟩
theorem pv_index_string {t : TypeId} {x ix : Operand} {s : ByteArray} {i : Int} {b : UInt8} {ik : IntKind} (ht : P.underlying t = some .string) (hx : OV x (.data (.lit (.string s)))) (hi : OV ix (.data (.lit (.int ik i)))) (h0 : 0 ≤ i) (hb : s[i.toNat]? = some b) :
    PV P K ⟨dst, .index t x ix, ty, pos, after, g⟩ (rdO x (.data (.lit (.string s))) ++ rdO ix (.data (.lit (.int ik i)))) [] (.data (.lit (.int .u8 b.toNat))) := by
  intro E a w _ _ hT _
  rw [relT_append] at hT
  have e1 := lit_eq (rdO_rel hT.1 hx)
  have e2 := lit_eq (rdO_rel hT.2 hi)
  exact ⟨.int .u8 b.toNat, by simp [execOp, e1, e2, Instr.index, asIntOf, run_underlying ht, h0, hb], rfl, rfl⟩
end
end Go.Proofs.YtgmpgoafokdcbaaGreatDoor.Sx
