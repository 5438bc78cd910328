/- Part 5 of the small logic: slice literals. -/
import Derived.Test.YtgmpgoafokdcbaaGreatDoorSxd
set_option linter.unusedVariables false
namespace Go.Proofs.YtgmpgoafokdcbaaGreatDoor.Sx
open Go Go.RowKit
variable {P : Program} {K : GL}
theorem splice_foldl (off : Nat) : ∀ (xs : List Value) (n : Nat) (c : Array Value), off + n + xs.length ≤ c.size →
    (xs.zipIdx n).foldl (fun cs p => cs.setIfInBounds (off + p.2) p.1) c = (c.toList.take (off + n) ++ xs ++ c.toList.drop (off + n + xs.length)).toArray
  | [], n, c, _ => by simp
  | x :: xs, n, c, h => by
    simp only [List.zipIdx_cons, List.foldl_cons]
    rw [splice_foldl off xs (n + 1) _ (by simp at h ⊢; omega)]
    congr 1
    have e := list_seg_step c.toList (off + n) x xs (by simp at h ⊢; omega)
    simpa [Array.toList_setIfInBounds, Nat.add_assoc] using e
theorem splice_fold (off : Nat) (xs c : Array Value) (h : off + xs.size ≤ c.size) :
    xs.zipIdx.foldl (fun cs (p : Value × Nat) => cs.setIfInBounds (off + p.2) p.1) c = (c.toList.take off ++ xs.toList ++ c.toList.drop (off + xs.size)).toArray := by
  rw [← Array.foldl_toList, Array.toList_zipIdx]
  have := splice_foldl off xs.toList 0 c (by simpa using h)
  simpa using this
theorem fill_seq (size : Nat) : ∀ (vs : List Value) (n : Nat) (c : Array Value), (∀ v ∈ vs, v.cells.size = size) → (n + vs.length) * size ≤ c.size →
    Instr.fill (fun i => some (i * size, size)) c ((vs.zipIdx n).map fun p => (p.2, p.1)) = some (c.toList.take (n * size) ++ vs.flatMap (fun v => v.cells.toList) ++ c.toList.drop ((n + vs.length) * size)).toArray
  | [], n, c, _, _ => by simp [Instr.fill]
  | v :: vs, n, c, hs, h => by
    have hv : v.cells.size = size := hs v (by simp)
    have h' : (n + (vs.length + 1)) * size ≤ c.size := by simpa using h
    have h2 : (n + (vs.length + 1)) * size = n * size + size + vs.length * size := by rw [Nat.add_mul, Nat.add_mul]; omega
    simp only [List.zipIdx_cons, List.map_cons, Instr.fill, hv, ne_eq, not_true_eq_false]
    rw [if_neg (by simp; omega)]
    have hsp := splice_fold (n * size) v.cells c (by rw [hv]; omega)
    rw [hsp]
    rw [fill_seq size vs (n + 1) _ (fun x hx => hs x (by simp [hx])) (by
      simp only [List.size_toArray, List.length_append, List.length_take, List.length_drop, Array.length_toList]
      rw [show n + 1 + vs.length = n + (vs.length + 1) by omega]; omega)]
    have hn1 : (n + 1) * size = n * size + size := by rw [Nat.add_mul, Nat.one_mul]
    have hl1 : (c.toList.take (n * size) ++ v.cells.toList).length = (n + 1) * size := by
      rw [hn1]; simp only [List.length_append, List.length_take, Array.length_toList, hv]; omega
    have hd : (n + (v :: vs).length) * size = (n + 1) * size + vs.length * size := by rw [hn1, List.length_cons, h2]
    have hd2 : (n + 1 + vs.length) * size = (n + 1) * size + vs.length * size := by rw [Nat.add_mul]
    rw [hd, hd2]
    congr 2
    simp only [List.flatMap_cons]
    rw [List.take_append_of_le_length (by omega), List.take_of_length_le (by omega), List.drop_append]
    rw [hl1, List.drop_eq_nil_of_le (as := List.take (n * size) c.toList ++ v.cells.toList) (by omega), List.nil_append, List.drop_drop]
    rw [show n * size + v.cells.size + ((n + 1) * size + vs.length * size - (n + 1) * size) = (n + 1) * size + vs.length * size by rw [hv, hn1]; omega]
    simp [List.append_assoc]
def rdOs : List Operand → List AV → List (Nat × AV)
  | x :: xs, v :: vs => rdO x v ++ rdOs xs vs
  | _, _ => []
def OVs : List Operand → List AV → Prop
  | [], [] => True
  | x :: xs, v :: vs => OV x v ∧ OVs xs vs
  | _, _ => False
theorem rdOs_rel {E : Env} {a : Act} : ∀ {xs : List Operand} {vs : List AV}, relT E a (rdOs xs vs) → OVs xs vs → Rels E vs (xs.map a.eval)
  | [], [], _, _ => rfl
  | x :: xs, v :: vs, h, hv => by
    have h' := relT_append.1 h
    exact ⟨_, _, rfl, rdO_rel h'.1 hv.1, rdOs_rel h'.2 hv.2⟩
  | [], _ :: _, _, hv => absurd hv id
  | _ :: _, [], _, hv => absurd hv id
inductive EL : AV → List D → Prop
  | one (d : D) : EL (.data d) [d]
  | agg (cs : List D) : EL (.agg (cs.map .data)) cs
def ELs (sz : Nat) : List AV → List (List D) → Prop
  | [], [] => True
  | v :: vs, c :: cs => EL v c ∧ c.length = sz ∧ ELs sz vs cs
  | _, _ => False
theorem ELs_length {sz : Nat} : ∀ {vs : List AV} {cs : List (List D)}, ELs sz vs cs → vs.length = cs.length
  | [], [], _ => rfl
  | _ :: _, _ :: _, h => by simp [ELs_length h.2.2]
  | [], _ :: _, h => absurd h id
  | _ :: _, [], h => absurd h id
theorem rels_datas {E : Env} : ∀ {cs : List D} {vs : List Value}, Rels E (cs.map .data) vs → ∀ (j : Nat) (d : D), cs[j]? = some d → ∃ u, vs[j]? = some u ∧ d.p E.F u := fun h j d e => by
  obtain ⟨v, hv, hr⟩ := h.get (i := j) (x := .data d) (by simp [e])
  exact ⟨v, hv, hr⟩
theorem EL_rel {E : Env} {v : AV} {c : List D} {x : Value} (h : EL v c) (hx : Rel E v x) : ∃ vs : List Value, x.cells.toList = vs ∧ vs.length = c.length ∧ (∀ u ∈ vs, u.oneCell' = true) ∧ Rels E (c.map .data) vs := by
  cases h with
  | one d =>
    obtain ⟨vs, e, hr, h1⟩ := CV_rel (x := .data d) trivial hx
    exact ⟨vs, e, by simpa [CV] using hr.length, h1, hr⟩
  | agg cs =>
    obtain ⟨vs, rfl, hr, h1⟩ := hx
    exact ⟨vs, by simp [Value.cells], by simpa using hr.length, h1, hr⟩
theorem ELs_rel {E : Env} {sz : Nat} : ∀ {vs : List AV} {cs : List (List D)} {xs : List Value}, ELs sz vs cs → Rels E vs xs →
    (∀ x ∈ xs, x.cells.size = sz) ∧ (∀ u ∈ xs.flatMap (fun x => x.cells.toList), u.oneCell' = true) ∧ Rels E (cs.flatten.map .data) (xs.flatMap fun x => x.cells.toList)
  | [], [], xs, _, h => by
    rw [show xs = [] from h]
    exact ⟨by simp, by simp, rfl⟩
  | v :: vs, c :: cs, xs, he, h => by
    obtain ⟨u, us, rfl, hu, hr⟩ := h
    obtain ⟨h1, h2, h3⟩ := ELs_rel he.2.2 hr
    obtain ⟨ws, e, hl, ho, hw⟩ := EL_rel he.1 hu
    have hsz : u.cells.size = sz := by rw [← Array.length_toList, e, hl, he.2.1]
    refine ⟨?_, ?_, ?_⟩
    · intro x hx
      rcases List.mem_cons.1 hx with rfl | hx
      · exact hsz
      · exact h1 x hx
    · intro y hy
      simp only [List.flatMap_cons, List.mem_append] at hy
      rcases hy with hy | hy
      · exact ho y (e ▸ hy)
      · exact h2 y hy
    · simp only [List.flatten_cons, List.map_append, List.flatMap_cons]
      rw [e]
      exact hw.append h3
  | [], _ :: _, _, h, _ => absurd h id
  | _ :: _, [], _, h, _ => absurd h id
theorem flatten_get {sz : Nat} : ∀ {cs : List (List D)} {i : Nat} {c : List D} {j : Nat} {d : D}, (∀ c ∈ cs, c.length = sz) → cs[i]? = some c → c[j]? = some d → cs.flatten[i * sz + j]? = some d
  | [], i, c, j, d, _, h, _ => by simp at h
  | c0 :: cs, 0, c, j, d, hl, h, e => by
    simp at h
    subst h
    simp only [List.flatten_cons, Nat.zero_mul, Nat.zero_add]
    rw [List.getElem?_append_left (List.getElem?_eq_some_iff.1 e).1]
    exact e
  | c0 :: cs, i + 1, c, j, d, hl, h, e => by
    have h0 := hl c0 (by simp)
    simp only [List.flatten_cons]
    rw [List.getElem?_append_right (by rw [h0, Nat.add_mul]; omega)]
    rw [show (i + 1) * sz + j - c0.length = i * sz + j by rw [h0, Nat.add_mul]; omega]
    exact flatten_get (fun c hc => hl c (by simp [hc])) (by simpa using h) e
theorem ELs_len {sz : Nat} : ∀ {vs : List AV} {cs : List (List D)}, ELs sz vs cs → ∀ c ∈ cs, c.length = sz
  | [], [], _, c, h => by simp at h
  | _ :: _, _ :: _, h, c, hc => by
    rcases List.mem_cons.1 hc with rfl | hc
    · exact h.2.1
    · exact ELs_len h.2.2 c hc
  | [], _ :: _, h, _, _ => absurd h id
  | _ :: _, [], h, _, _ => absurd h id
def partsOf (xs : List Operand) : Array (Nat × Operand) := (xs.zipIdx.map fun p => (p.2, p.1)).toArray
theorem run_buildSlice_seq {t e : TypeId} {sz : Nat} {zs : List Value} {w : World} (ht : P.underlying t = some (.slice e)) (hs : ∀ w, (sizeOf e).run P w = .ok sz w) (hz : Zr P e zs) (hp : 0 < sz) (xs : List Value) (hx : ∀ x ∈ xs, x.cells.size = sz) (hm : xs.length * sz ≤ 2 ^ 24) :
    (Instr.buildSlice t xs.length ((xs.zipIdx.map fun p => (p.2, p.1)).toArray)).run P w = .ok (.slice (some ⟨w.heap.size, 0, none⟩) xs.length xs.length) (w.alloc (.cells (xs.flatMap fun x => x.cells.toList).toArray e)) := by
  obtain ⟨⟨z, hrun, _⟩, _⟩ := hz
  have hfill : ∀ zero : Array Value, Instr.fill (fun i => some (i * sz, sz)) ((Array.range (xs.length * sz)).map (zero[· % zero.size]!)) (xs.zipIdx.map fun p => (p.2, p.1)) = some (xs.flatMap fun x => x.cells.toList).toArray := by
    intro zero
    rw [fill_seq sz xs 0 _ hx (by simp)]
    simp
  simp only [Instr.buildSlice, Sem.run_bind, run_underlying ht, Result.andThen_ok, hs, Sem.run_ite]
  rw [if_neg (by omega)]
  by_cases h0 : xs.length * sz = 0
  · simp only [h0, if_true, Sem.run_pure, Result.andThen_ok]
    have := hfill #[]
    rw [h0] at this
    rw [this]
    simp [newRow]
  · simp only [h0, if_false, Sem.run_bind, hrun, Sem.run_pure, Result.andThen_ok]
    rw [hfill z.cells]
    simp [newRow]
section
variable {dst : Option Tmp} {ty : TypeId} {pos : String} {after : Array Edge} {g : Option (Nat × Bool)}
theorem la_buildSlice {t e : TypeId} {sz n : Nat} {zs : List Value} (xs : List Operand) {vs : List AV} {ds : List (List D)} {parts : Array (Nat × Operand)} (ht : P.underlying t = some (.slice e)) (hs : ∀ w, (sizeOf e).run P w = .ok sz w) (hz : Zr P e zs) (hp : 0 < sz)
    (hpa : parts = partsOf xs) (hn : n = xs.length) (hv : OVs xs vs) (he : ELs sz vs ds) (hm : n * sz ≤ 2 ^ 24) :
    LAct P K ⟨dst, .buildSlice t n parts, ty, pos, after, g⟩ (rdOs xs vs) [] (.data (.list sz ds)) [] := by
  subst hpa
  subst hn
  intro C s a w _ hT hH hd hsat
  obtain ⟨hdf, hsz, E, hO, hR⟩ := hsat
  have hx := rdOs_rel (relT_of hR hT) hv
  obtain ⟨h1, h2, h3⟩ := ELs_rel he hx
  have hlen : (xs.map a.eval).length = xs.length := by simp
  have hrun := run_buildSlice_seq (w := w) ht hs hz hp (xs.map a.eval) h1 (by rw [hlen]; exact hm)
  rw [hlen] at hrun
  obtain ⟨hle, hO'⟩ := hO.newF (.cells ((xs.map a.eval).flatMap fun x => x.cells.toList).toArray e)
  unfold Oper.wp
  have hex : (execOp a.eval ⟨dst, .buildSlice t xs.length (partsOf xs), ty, pos, after, g⟩).run P w = .ok (.value (.slice (some ⟨w.heap.size, 0, none⟩) xs.length xs.length)) (w.alloc (.cells ((xs.map a.eval).flatMap fun x => x.cells.toList).toArray e)) := by
    simp only [execOp, Sem.run_bind]
    have hpp : (partsOf xs).map (fun (x : Nat × Operand) => (x.1, a.eval x.2)) = (((xs.map a.eval).zipIdx.map fun p => (p.2, p.1)).toArray) := by
      simp [partsOf, List.zipIdx_map]
    rw [hpp, hrun]
    rfl
  rw [hex]
  have hdl : xs.length = ds.length := by rw [← ELs_length he, hx.length.symm]; simp
  refine Sat.put hdf hsz hR hle hO' hd ⟨_, xs.length, by rw [hdl], by omega, ?_, fun hne => ⟨_, rfl, fun i c hc => ⟨ELs_len he c (List.mem_of_getElem? hc), fun j d hj => ?_⟩⟩⟩
  · have : xs.length ≤ xs.length * sz := Nat.le_mul_of_pos_right _ hp
    unfold maxLen
    omega
  · have := flatten_get (ELs_len he) hc hj
    obtain ⟨u, hu, hdu⟩ := rels_datas h3 _ _ this
    refine ⟨u, ?_, d.mono hle.1 hdu⟩
    rw [add_add]
    have hadd : ∀ n, (⟨w.heap.size, 0, none⟩ : Addr).add n = ⟨w.heap.size, n, none⟩ := by
      intro n; unfold Addr.add; split <;> simp_all
    rw [hadd]
    unfold fcell
    simp only [Env.frz, if_true]
    simpa using hu
end
end Go.Proofs.YtgmpgoafokdcbaaGreatDoor.Sx
