/- The walk's words, part 4: slice literals whose capacity is their length, and append to them. -/
import Derived.Test.YtgmpgoafokdcbaaGreatDoorSyc
import Derived.ArgAppend
set_option linter.unusedVariables false
namespace Go.Proofs.YtgmpgoafokdcbaaGreatDoor.Sx
open Go Go.RowKit
variable {P : Program} {K : GL}
abbrev aF {α : Type} (sz : Nat) (f : α → List D) (l : List α) : AV := .data (D.full sz (l.map f))
theorem p_cs {f : FuncId} {args us : List AV} {ret : AV} {xs : Array Operand} {ats : Array TypeId} {dst : Option Tmp} {ty : TypeId} {pos : String} {after : Array Edge} {g : Option (Nat × Bool)} {t : List (Nat × AV)} {h : List (Nat × HS)} (hc : FnOk P K f args [] ret []) (he : Ent1 P f) (ha : rds t xs.toList = some us) (hs : Subs us args) (h1 : okAs (fun _ => false) us = true) (h2 : okA (fun _ => false) ret = true) :
    SA P K t h ⟨dst, .call { callee := .value (.func f), args := xs, argTypes := ats }, ty, pos, after, g⟩ (rdOs xs.toList us) [] ret [] :=
  p_c (fun C E vs a b c d e k => by
    have hk := hs.rels k
    exact hc C E vs a b c d e hk) he ha h1 h2
section
variable {dst : Option Tmp} {ty : TypeId} {pos : String} {after : Array Edge} {g : Option (Nat × Bool)} {t : List (Nat × AV)} {h : List (Nat × HS)}
theorem la_buildFull {t e : TypeId} {sz n : Nat} {zs : List Value} (xs : List Operand) {vs : List AV} {ds : List (List D)} {parts : Array (Nat × Operand)} (ht : P.underlying t = some (.slice e)) (hs : ∀ w, (sizeOf e).run P w = .ok sz w) (hz : Zr P e zs) (hp : 0 < sz)
    (hpa : parts = partsOf xs) (hn : n = xs.length) (hv : OVs xs vs) (he : ELs sz vs ds) (hm : n * sz ≤ 2 ^ 24) :
    LAct P K ⟨dst, .buildSlice t n parts, ty, pos, after, g⟩ (rdOs xs vs) [] (.data (D.full sz ds)) [] := by
  subst hpa
  subst hn
  intro C s a w _ hT hH hd hsat
  obtain ⟨hdf, hsz, E, hO, hR⟩ := hsat
  have hx := rdOs_rel (relT_of hR hT) hv
  obtain ⟨h1, h2, h3⟩ := ELs_rel he hx
  have hlen : (xs.map a.eval).length = xs.length := by simp
  have hrun := run_buildSlice_seq (w := w) ht hs hz hp (xs.map a.eval) h1 (by rw [hlen]; exact hm)
  rw [hlen] at hrun
  obtain ⟨hle, hO'⟩ := hO.newF (.cells ((xs.map a.eval).flatMap fun x => x.cells.toList).toArray e)
  unfold Oper.wp
  have hex : (execOp a.eval ⟨dst, .buildSlice t xs.length (partsOf xs), ty, pos, after, g⟩).run P w = .ok (.value (.slice (some ⟨w.heap.size, 0, none⟩) xs.length xs.length)) (w.alloc (.cells ((xs.map a.eval).flatMap fun x => x.cells.toList).toArray e)) := by
    simp only [execOp, Sem.run_bind]
    have hpp : (partsOf xs).map (fun (x : Nat × Operand) => (x.1, a.eval x.2)) = (((xs.map a.eval).zipIdx.map fun p => (p.2, p.1)).toArray) := by
      simp [partsOf, List.zipIdx_map]
    rw [hpp, hrun]
    rfl
  rw [hex]
  have hdl : xs.length = ds.length := by rw [← ELs_length he, hx.length.symm]; simp
  refine Sat.put hdf hsz hR hle hO' hd ⟨⟨_, xs.length, by rw [hdl], by omega, ?_, fun hne => ⟨_, rfl, fun i c hc => ⟨ELs_len he c (List.mem_of_getElem? hc), fun j d hj => ?_⟩⟩⟩, _, by rw [hdl]⟩
  · have : xs.length ≤ xs.length * sz := Nat.le_mul_of_pos_right _ hp
    unfold maxLen
    omega
  · have := flatten_get (ELs_len he) hc hj
    obtain ⟨u, hu, hdu⟩ := rels_datas h3 _ _ this
    refine ⟨u, ?_, d.mono hle.1 hdu⟩
    rw [add_add]
    have hadd : ∀ n, (⟨w.heap.size, 0, none⟩ : Addr).add n = ⟨w.heap.size, n, none⟩ := by
      intro n; unfold Addr.add; split <;> simp_all
    rw [hadd]
    unfold fcell
    simp only [Env.frz, if_true]
    simpa using hu
theorem p_bsF {α : Type} {f : α → List D} {u e : TypeId} {sz n : Nat} {zs : List Value} (xs : List Operand) (l : List α) {vs : List AV} {parts : Array (Nat × Operand)} (ht : P.underlying u = some (.slice e)) (hs : ∀ w, (sizeOf e).run P w = .ok sz w) (hz : Zr P e zs) (hp : Nat.blt 0 sz = true)
    (hpa : parts = partsOf xs) (hn : n = xs.length) (hv : rds t xs = some vs) (he : ELs sz vs (l.map f)) (hm : Nat.ble (n * sz) 16777216 = true) : SA P K t h ⟨dst, .buildSlice u n parts, ty, pos, after, g⟩ (rdOs xs vs) [] (aF sz f l) [] :=
  ⟨la_buildFull xs ht hs hz (by simpa [Nat.blt_eq] using hp) hpa hn (rds_c hv).1 he (by have := Nat.le_of_ble_eq_true hm; omega), (rds_c hv).2, trivial⟩
theorem arg_grows {w : World} (t ty e : TypeId) (i : TypeInfo) (z : Value) (size bytes : Nat) (ht : P.underlying t = some (.slice e)) (hi : P.info? e = some i) (hz : i.zero = some z)
    (hsize : i.size = size) (hby : i.bytes = bytes) (hzs : z.cells.size = size) (hsz : 0 < size)
    (b : Addr) (n cap : Nat) (olds : List Value) (hlo : olds.length = n * size) (holds : ∀ j u, olds[j]? = some u → w.cell? (b.add j) = some u)
    (a : Addr) (m c : Nat) (news : List Value) (hl : news.length = m * size) (hnews : ∀ j u, news[j]? = some u → w.cell? (a.add j) = some u)
    (hg : cap < n + m) (h63 : n + m ≤ maxLen) (hbytes : (n + m) * bytes ≤ 140737488355328) :
    ∃ c' w', (Builtin.append_ #[t, t] ty #[.slice (some b) n cap, .slice (some a) m c]).run P w = .ok (.slice (some ⟨w.heap.size, 0, none⟩) (n + m) c') w' ∧ w'.ownsRow 0 e size (.slice (some ⟨w.heap.size, 0, none⟩) (n + m) c') (n + m) (olds ++ news) ∧ w.grownBy w' none := by
  subst hsize
  subst hby
  have hsmall : n + m ≤ 9223372036854775807 := by simp only [maxLen] at h63; omega
  have hlen : (olds ++ news).length = (n + m) * i.size := by rw [List.length_append, hlo, hl, Nat.add_mul]
  have hge := grownCap_ge w (n + m) cap e
  have hcm : grownCap w (n + m) cap e ≤ maxLen := grownCap_le_maxLen w (n + m) cap e h63
  have hr := run_append_grow (P := P) w t ty e i z ht hi hz b n cap olds hlo holds a m c news hl hnews hg (by omega) (growslice_fits hg hbytes)
  refine ⟨_, _, hr, ⟨hlen, .inr ⟨w.heap.size, _, _, rfl, Nat.zero_le _, heap_alloc_new w.drew _, hge, hcm, ?_, ?_⟩⟩, ⟨rfl, rfl, rfl, by simp, fun k hk _ => heap_alloc_old w.drew _ hk⟩⟩
  · simp only [Array.size_append, List.size_toArray, size_zeroCells, hzs, hlo, hl, ← Nat.add_mul]
    congr 1
    omega
  · simp only [Array.toList_append, List.append_assoc]
    rw [← List.append_assoc, ← hlen]
    exact List.take_left
theorem flat_len2 (sz : Nat) : ∀ l : List (List D), (∀ q ∈ l, q.length = sz) → l.flatten.length = l.length * sz := by
  intro l
  induction l with
  | nil => intro _; simp
  | cons q l ih => intro h; simp only [List.flatten_cons, List.length_append, List.length_cons, ih (fun q hq => h q (by simp [hq])), h q (by simp), Nat.add_mul, Nat.one_mul]; omega
theorem la_append_full {t e : TypeId} {sz bytes k k' : Nat} {x y : Operand} {cs ds : List (List D)} (ht : P.underlying t = some (.slice e)) (hE : El P e sz bytes) (hx : OV x (.data (D.full sz cs))) (hy : OV y (.data (.list sz ds))) (hce : cs ≠ []) (hne : ds ≠ []) (hkk : k ≠ k')
    (h63 : cs.length + ds.length ≤ maxLen) (hby : (cs.length + ds.length) * bytes ≤ 140737488355328) :
    LAct P K ⟨dst, .call { callee := .builtin .append, args := #[x, y], argTypes := #[t, t] }, ty, pos, after, g⟩ (rdO x (.data (D.full sz cs)) ++ rdO y (.data (.list sz ds))) [(k, .fresh), (k', .fresh)] (.row k')
      [(k', .live (.row e sz (cs.length + ds.length) ((cs ++ ds).flatten.map .data))), (k, .dead)] := by
  intro C s a w hK hT hH hd hs
  obtain ⟨hdf, hsz, E, hO, hR⟩ := hs
  have hT' := relT_append.1 (relT_of hR hT)
  obtain ⟨⟨A0, cap0, hv0, hc01, hc02, hr0⟩, A1, hv1⟩ := rdO_rel hT'.1 hx
  rw [hv0] at hv1
  cases hv1
  obtain ⟨ad0, rfl, hra0⟩ := hr0 hce
  obtain ⟨A, cap, hv, hc1, hc2, hr⟩ := rdO_rel hT'.2 hy
  obtain ⟨ad, rfl, hra⟩ := hr hne
  obtain ⟨i, z, hi, hz, hi1, hi2, hz2⟩ := hE.ex
  obtain ⟨news, hnr, hn1, hnc⟩ := cells_vals (flat_cells hra)
  obtain ⟨olds, hor, ho1, hoc⟩ := cells_vals (flat_cells hra0)
  have mem : ∀ {F : FH} {ad : Addr} {l : List (List D)}, rowAt F sz ad l → ∀ q ∈ l, q.length = sz := fun h q hq => by
    obtain ⟨j, hj, rfl⟩ := List.mem_iff_getElem.1 hq
    exact (h j _ (List.getElem?_eq_getElem hj)).1
  have hlen : news.length = ds.length * sz := by rw [hnr.length, List.length_map, flat_len2 sz ds (mem hra)]
  have hleo : olds.length = cs.length * sz := by rw [hor.length, List.length_map, flat_len2 sz cs (mem hra0)]
  obtain ⟨c', w', hrun, hown', hg⟩ := arg_grows (P := P) (w := w) t ty e i z sz bytes ht hi hz hi1 hi2 hz2 hE.pos ad0 cs.length cs.length olds hleo (fun j u e1 => fcell_world hO.fz (hoc j u e1)) ad ds.length cap news hlen (fun j u e1 => fcell_world hO.fz (hnc j u e1)) (by
    have := List.length_pos_iff.2 hne
    omega) h63 hby
  obtain ⟨hle1, hO1⟩ := hO.adopt hH.1 e sz
  have hk1 : lkH ((k, HS.live (.row e sz 0 [])) :: s.h) k' = .fresh := by rw [lkH_cons_ne _ _ (Ne.symm hkk)]; exact hH.2.1
  have hφ' : (E.with k (.slice none 0 0)).φ k' = none := by
    have := hO1.hs k'
    rw [hk1] at this
    exact this
  have hle0 := Env.with_le (.slice (some ⟨w.heap.size, 0, none⟩) (cs.length + ds.length) c') hφ'
  have hO2 := hO1.grow (k := k) (k' := k') (o' := .row e sz (cs.length + ds.length) ((cs ++ ds).flatten.map .data)) (v' := .slice (some ⟨w.heap.size, 0, none⟩) (cs.length + ds.length) c') (lkH_cons_self _ _ _) (Env.with_self _ _ _) hk1 hg (.inr rfl) ⟨olds ++ news, hown', by
    rw [List.flatten_append, List.map_append]
    exact (Rels.mono hle0 (Rels.mono hle1 hor)).append (Rels.mono hle0 (Rels.mono hle1 hnr)), fun u hu => by
    rcases List.mem_append.1 hu with h1 | h1
    · exact ho1 u h1
    · exact hn1 u h1⟩
  unfold Oper.wp
  have hex : (execOp a.eval ⟨dst, .call { callee := .builtin .append, args := #[x, y], argTypes := #[t, t] }, ty, pos, after, g⟩).run P w = .ok (.value (.slice (some ⟨w.heap.size, 0, none⟩) (cs.length + ds.length) c')) w' := by
    have e1 : (#[x, y].map a.eval) = #[.slice (some ad0) cs.length cs.length, .slice (some ad) ds.length cap] := by simp [hv, hv0]
    simp only [execOp, resolve, e1, Sem.run_bind, Sem.run_pure, Result.andThen_ok, invoke, builtin, hrun]
  rw [hex]
  refine Sat.put hdf hsz hR (Env.le_trans hle1 hO2.1) (EOk_seq (fun q => ?_) hO2.2) hd ⟨Env.with_self _ _ _, _, _, _, rfl⟩
  show lkH ((k', _) :: (k, .dead) :: (k, _) :: s.h) q = lkH ((k', _) :: (k, .dead) :: s.h) q
  simp only [lkH]
  split
  · rfl
  · split <;> rfl
theorem p_apF {α : Type} {f : α → List D} {l m : List α} {u e : TypeId} {sz bytes : Nat} {x y : Operand} (k k' : Nat) (ht : P.underlying u = some (.slice e)) (hE : El P e sz bytes) (hx : rd t x = some (aF sz f l)) (hy : rd t y = some (aL sz f m)) (hle : (!l.isEmpty) = true) (hne : m.isEmpty = false)
    (hf : hp h k = none) (hf' : hp h k' = none) (hkk : Nat.beq k k' = false) (hr : roomy (l.length + m.length) bytes = true) :
    SA P K t h ⟨dst, .call { callee := .builtin .append, args := #[x, y], argTypes := #[u, u] }, ty, pos, after, g⟩ (rdO x (aF sz f l) ++ rdO y (aL sz f m)) [(k, .fresh), (k', .fresh)] (.row k') [(k', oR e sz f (l ++ m)), (k, .dead)] := by
  simp only [roomy, Bool.and_eq_true, decide_eq_true_eq] at hr
  have hm : m.map f ≠ [] := by
    intro e0
    have : m = [] := by simpa using e0
    rw [this] at hne; cases hne
  have hl : l.map f ≠ [] := by
    intro e0
    have : l = [] := by simpa using e0
    rw [this] at hle; cases hle
  have h1 := la_append_full (K := K) (dst := dst) (ty := ty) (pos := pos) (after := after) (g := g) (k := k) (k' := k') ht hE (rd_c hx).1 (rd_c hy).1 hl hm (fun e0 => by rw [e0] at hkk; simp at hkk) (by simp only [List.length_map]; unfold maxLen; omega) (by simp only [List.length_map]; exact hr.2)
  rw [← List.map_append, flat_map, List.length_map, List.length_map, ← List.length_append] at h1
  exact ⟨h1, chkT_ap2 (rd_c hx).2 (rd_c hy).2, hp_no hf, hp_no hf', trivial⟩
end
end Go.Proofs.YtgmpgoafokdcbaaGreatDoor.Sx
