/- The law's row: from what is proved of the law's function to the row's form. Part 1: the call; a table of structs. -/
import Derived.Test.YtgmpgoafokdcbaaGreatDoorSyp
import Derived.OpenShut
import Derived.Extends
import Derived.Deep.DeepHandedRow
import Derived.Lib.LaidTab
set_option linter.unusedVariables false
set_option linter.unusedSectionVars false
set_option linter.unusedSimpArgs false
namespace Go.Proofs.YtgmpgoafokdcbaaGreatDoor.Sx
open Go Go.RowKit
variable {P : Program} {K : GL}
def allF (W : World) : FH := fun b => W.heap[b]?
theorem frozen_of {W W' : World} (h : ∀ b, b < W.heap.size → W'.heap[b]? = W.heap[b]?) (a : Addr) (ha : a.block < W.heap.size) : W'.frozen? a = W.frozen? a := by
  simp only [World.frozen?, h _ ha]
theorem cell_of {W W' : World} (h : ∀ b, b < W.heap.size → W'.heap[b]? = W.heap[b]?) (a : Addr) (ha : a.block < W.heap.size) : W'.cell? a = W.cell? a := by
  simp only [World.cell?, h _ ha]
theorem fn_law {f : FuncId} {args : List AV} {vs : List Value} {W : World} (h : FnOk P K f args [] (aT true) []) (hK : ∀ i ds, K i = some ds → cellsAt (allF W) ⟨i, 0, none⟩ ds) (hA : Rels ⟨allF W, fun _ => none⟩ args vs) :
    Calls P f vs.toArray W fun e W' => e = .returned (.bool true) ∧ W.Extends W' := by
  let C : Cx := { w0 := W, F0 := allF W, own := fun _ => False, nt := 0, hd := fun _ => none, gl := K }
  have hO : EOk C ⟨allF W, fun _ => none⟩ [] W := ⟨FH.le_refl _, (fun k v e => by cases e), fun b o e => e, fun b o e => .inl e, fun k => rfl, (fun i j oi oj hi hj b li => by cases li), ⟨rfl, rfl, rfl, Nat.le_refl _, fun _ _ _ => rfl⟩, hK⟩
  refine (h C _ vs rfl rfl (fun _ _ e => by cases e) (fun _ _ => rfl) hO hA).mono ?_
  rintro e W' ⟨v, E', rfl, hr, hE⟩
  have hb : ∀ b, b < W.heap.size → W'.heap[b]? = W.heap[b]? := fun b hb => hE.w.block b hb id
  exact ⟨by rw [lit_eq hr], hE.w.os, hE.w.tape, hE.w.output, hE.w.size, cell_of hb, frozen_of hb, hb⟩
theorem ext_kept {W W' : World} (h : W.Extends W') (may : MemPlace → Prop) : W.keptBut W' may := by
  refine ⟨h.os, h.output, fun i hi => ?_⟩
  rw [h.block i hi]
  cases hw : W.heap[i]? with
  | none => trivial
  | some o => cases o <;> simp
theorem post_law {H : Type} {enc : TypeId × Value → H} {f : Func} {s : ChangeSpec} {apart fresh : Bool} {W W' : World} {args : Array Value} {v : Value} {ds gs : List (DataW H)} {before pa pv : List MemPlace}
    (hW : DataW.Whole enc P f.params.toList s.vars apart W args.toList ds gs before)
    (hres : ∀ (b : Nat) (sp : Nat → Bool) (hd : Bool), DataW.TrodAll enc P W' b sp hd f.resultTypes.toList (v.resultList f.resultTypes.size) (s.fn H (ds ++ gs)).results [])
    (hargs : DataW.TrodAll enc P W' 0 (fun b => decide (b < W.heap.size)) true f.params.toList args.toList (s.fn H (ds ++ gs)).args pa)
    (hvars : DataW.TrodVars enc P W' (fun b => decide (b < W.heap.size)) s.vars (s.fn H (ds ++ gs)).vars pv) (hk : W.Extends W') :
    s.post enc P f apart fresh false false W args v W' :=
  ⟨ds, gs, before, [], pa, pv, hW, hres _ _ _, hargs, hvars, ext_kept hk _, fun h => by cases h⟩
theorem tab_cells {H : Type} {enc : TypeId × Value → H} {w : World} {base : Nat} {sp : Nat → Bool} {held : Bool} {fuel n : Nat} {t e st it : TypeId} {fs : Array Field} {cs : List Value} {l : List (List UInt8 × Int × Int)} {p : List MemPlace}
    (ht : P.underlying t = some (.array n e)) (he : P.underlying e = some (.struct fs)) (hf : fs.toList.map (fun f => (f.offset, f.type)) = [(0, st), (1, it), (2, it)]) (hst : P.underlying st = some .string) (hit : P.underlying it = some (.int .i64))
    (hce : P.cellsOf e = 3) (hcs : P.cellsOf st = 1) (hci : P.cellsOf it = 1)
    (h : DataW.trod enc P w base sp held fuel t cs = some (.agg (l.map fun x => .agg [.lit (.string x.1), .lit (.int .i64 x.2.1), .lit (.int .i64 x.2.2)]), p)) :
    ∀ (i : Nat) (x : List UInt8 × Int × Int), l[i]? = some x → cs[i * 3]? = some (.string ⟨x.1.toArray⟩) ∧ cs[i * 3 + 1]? = some (.int .i64 x.2.1) ∧ cs[i * 3 + 2]? = some (.int .i64 x.2.2) := by
  intro i x hx
  cases fuel with
  | zero => simp [DataW.trod] at h
  | succ fuel =>
    simp only [DataW.trod, ht, hce] at h
    split at h
    · obtain ⟨xs, hm, hxe⟩ := Option.map_eq_some_iff.1 h
      have hxs : xs.map (·.1) = l.map fun x => (DataW.agg [.lit (.string x.1), .lit (.int .i64 x.2.1), .lit (.int .i64 x.2.2)] : DataW H) := by
        have := congrArg Prod.fst hxe
        simpa using this
      have hil : i < n := by
        have h1 : xs.length = n := by simpa using Lib.mapM_length hm
        have h2 : xs.length = l.length := by simpa using congrArg List.length hxs
        have h3 := (List.getElem?_eq_some_iff.1 hx).1
        omega
      obtain ⟨b, hb, hg⟩ := Lib.mapM_at hm i i (by simp [hil])
      have hb1 : b.1 = .agg [.lit (.string x.1), .lit (.int .i64 x.2.1), .lit (.int .i64 x.2.2)] := by
        have h2 : (xs.map (·.1))[i]? = some b.1 := by simp [hb]
        rw [hxs] at h2
        simpa [hx] using h2.symm
      obtain ⟨ys, m, _, rfl, hl, hlen, hfs⟩ := DataW.trod_struct he hg
      have hfl : ∀ (j : Nat) (q : Field), fs[j]? = some q → ((fs.toList.map (fun f => (f.offset, f.type)))[j]?) = some (q.offset, q.type) := fun j q hq => by simp [hq]
      have hsz : fs.size = 3 := by
        have := congrArg List.length hf
        simpa using this
      have get : ∀ j, j < 3 → ∃ q y, fs[j]? = some q ∧ ys[j]? = some y := fun j hj => by
        have h1 : j < fs.size := by omega
        have h2 : j < ys.length := by omega
        exact ⟨fs[j], ys[j], Array.getElem?_eq_getElem h1, List.getElem?_eq_getElem h2⟩
      have hys : ys.map (·.1) = [.lit (.string x.1), .lit (.int .i64 x.2.1), .lit (.int .i64 x.2.2)] := by
        have : (DataW.agg (ys.map (·.1)) : DataW H) = _ := hb1
        exact DataW.agg.inj this
      have pick : ∀ (off : Nat) (v : Value), ((((cs.drop (i * 3)).take 3).drop off).take 1) = [v] → off < 3 → cs[i * 3 + off]? = some v := fun off v hv ho => by
        have := congrArg (·[0]?) hv
        simp only [List.getElem?_take, List.getElem?_drop, Nat.lt_one_iff, if_true, Nat.add_zero, List.getElem?_cons_zero] at this
        rw [if_pos ho] at this
        exact this
      obtain ⟨q0, y0, a0, b0⟩ := get 0 (by omega)
      obtain ⟨q1, y1, a1, b1⟩ := get 1 (by omega)
      obtain ⟨q2, y2, a2, b2⟩ := get 2 (by omega)
      have c0 := hfl 0 q0 a0
      have c1 := hfl 1 q1 a1
      have c2 := hfl 2 q2 a2
      rw [hf] at c0 c1 c2
      simp only [List.getElem?_cons_zero, List.getElem?_cons_succ, Option.some.injEq, Prod.mk.injEq] at c0 c1 c2
      have d0 := hfs 0 q0 a0
      have d1 := hfs 1 q1 a1
      have d2 := hfs 2 q2 a2
      rw [b0, ← c0.1, ← c0.2, hcs] at d0
      rw [b1, ← c1.1, ← c1.2, hci] at d1
      rw [b2, ← c2.1, ← c2.2, hci] at d2
      have e0 : (ys.map (·.1))[0]? = some y0.1 := by simp [b0]
      have e1 : (ys.map (·.1))[1]? = some y1.1 := by simp [b1]
      have e2 : (ys.map (·.1))[2]? = some y2.1 := by simp [b2]
      rw [hys] at e0 e1 e2
      simp only [List.getElem?_cons_zero, List.getElem?_cons_succ, Option.some.injEq] at e0 e1 e2
      obtain ⟨s, f0, rfl, _⟩ := DataW.trod_string hst d0
      obtain ⟨n1, f1, rfl, _⟩ := DataW.trod_int hit d1
      obtain ⟨n2, f2, rfl, _⟩ := DataW.trod_int hit d2
      simp only [DataW.lit.injEq, Lit.string.injEq, Lit.int.injEq, true_and] at e0 e1 e2
      refine ⟨?_, ?_, ?_⟩
      · rw [e0]; exact pick 0 _ f0 (by omega)
      · rw [e1]; exact pick 1 _ f1 (by omega)
      · rw [e2]; exact pick 2 _ f2 (by omega)
    · cases h
theorem tab_at {W : World} {name : String} {g n : Nat} {t e st it : TypeId} {fs : Array Field} {rest : List (String × DataW Unit)} {l : List (List UInt8 × Int × Int)} {α : Type} {f : α → List D} {tab : List α} {d : DataW Unit}
    (hg : P.globalNamed name = some g) (hty : (P.globals[g]?).map (·.type) = some t) (ht : P.underlying t = some (.array n e)) (he : P.underlying e = some (.struct fs)) (hf : fs.toList.map (fun f => (f.offset, f.type)) = [(0, st), (1, it), (2, it)]) (hst : P.underlying st = some .string) (hit : P.underlying it = some (.int .i64))
    (hce : P.cellsOf e = 3) (hcs : P.cellsOf st = 1) (hci : P.cellsOf it = 1)
    (h : laidMet P ((name, d) :: rest) W) (hd : d = .agg (l.map fun x => .agg [.lit (.string x.1), .lit (.int .i64 x.2.1), .lit (.int .i64 x.2.2)]))
    (hl : tab.map f = l.map fun x => [.lit (.string ⟨x.1.toArray⟩), .lit (.int .i64 x.2.1), .lit (.int .i64 x.2.2)]) : cellsAt (allF W) ⟨g, 0, none⟩ (tab.flatMap f) := by
  subst hd
  obtain ⟨ps, ⟨g', t', cs, fuel, p, q, hg', ht', hvar, hd, _, _⟩, _⟩ := h
  obtain rfl := Option.some.inj (hg.symm.trans hg')
  obtain rfl := Option.some.inj (hty.symm.trans ht')
  have key := tab_cells ht he hf hst hit hce hcs hci hd
  have hcell : ∀ i v, cs.toList[i]? = some v → fcell (allF W) ⟨g, i, none⟩ = some v := fun i v hi => by
    have := World.var?_cell hg hvar i
    rw [← Array.getElem?_toList, hi] at this
    exact this
  rw [List.flatMap_def, hl]
  refine flat_cells (sz := 3) (fun i x hx => ?_)
  rw [List.getElem?_map] at hx
  obtain ⟨y, hy, rfl⟩ := Option.map_eq_some_iff.1 hx
  obtain ⟨k0, k1, k2⟩ := key i y hy
  refine ⟨rfl, fun j dd hj => ?_⟩
  have hadd : ∀ m, (⟨g, 0, none⟩ : Addr).add m = ⟨g, m, none⟩ := by
    intro m; unfold Addr.add; split <;> simp_all
  have hadd2 : ∀ m k, (⟨g, m, none⟩ : Addr).add k = ⟨g, m + k, none⟩ := by
    intro m k; unfold Addr.add; split <;> simp_all
  rw [hadd, hadd2]
  match j, hj with
  | 0, hj => cases hj; exact ⟨_, hcell _ _ k0, rfl, rfl⟩
  | 1, hj => cases hj; exact ⟨_, hcell _ _ k1, rfl, rfl⟩
  | 2, hj => cases hj; exact ⟨_, hcell _ _ k2, rfl, rfl⟩
end Go.Proofs.YtgmpgoafokdcbaaGreatDoor.Sx
