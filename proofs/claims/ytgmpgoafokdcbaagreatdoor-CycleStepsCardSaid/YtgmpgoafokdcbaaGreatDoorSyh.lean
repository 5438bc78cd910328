/- The walk's words, part 8: scopes; rows by element; literals and makes that are own rows. -/
import Derived.Test.YtgmpgoafokdcbaaGreatDoorSyg
import Derived.Scope
import Derived.Laws.MakeOwn
set_option linter.unusedVariables false
set_option linter.unusedSectionVars false
namespace Go.Proofs.YtgmpgoafokdcbaaGreatDoor.Sx
open Go Go.RowKit
variable {P : Program} {K : GL}
def scQ (Q : Exit → St → Prop) : Exit → St → Prop
  | .goto _, _ => False
  | e, s => Q e s
theorem stepR_scope' {b : Frame} {a : Act} {k : List Item} {cs : List Frame} {w : World} {c : Code} : step P (lone (b.atR a (.code (.scope c) :: k)) cs w) = .next (lone (b.atR a (.code c :: .inScope c :: k)) cs w) :=
  step_lone_go (by simp [stepG, stepG.exec, Frame.atR])
theorem stepR_inScope' {b : Frame} {a : Act} {k : List Item} {cs : List Frame} {w : World} {c : Code} : step P (lone (b.atR a (.inScope c :: k)) cs w) = .next (lone (b.atR a k) cs w) :=
  step_lone_go (by simp [stepG, stepG.exec, Frame.atR])
theorem wpIn_scope {F : Fence} {n : Nat} {Q : Exit → Act → World → Prop} {a : Act} {w : World} {c : Code} (h : c.wpIn F n P (Exit.noGoto Q) a w) : (Code.scope c).wpIn F n P Q a w := by
  intro b k cs hro hb hr
  have h0 := fenced_calm (P := P) (fr := b.atR a (.code (.scope c) :: k)) (w := w) hb hr rfl
  obtain ⟨e, a₁, w₁, hq, harr⟩ := h b (.inScope c :: k) cs hro hb hr
  cases e with
  | normal => exact ⟨.normal, a₁, w₁, hq, .head h0 stepR_scope' (StepsIn.trans harr (.one (fenced_calm hb hr rfl) stepR_inScope'))⟩
  | exit id =>
    have hx : exitTo id (.inScope c :: k) = exitTo id k := by simp [exitTo]
    exact ⟨.exit id, a₁, w₁, hq, fun k' hk => .head h0 stepR_scope' (harr.1 k' (by rw [hx]; exact hk)),
        fun hr' hk => let ⟨k₁, h1, h2⟩ := harr.2 hr' (by rw [hx]; exact hk); ⟨k₁, h1, .head h0 stepR_scope' h2⟩⟩
  | goto l => exact hq.elim
  | ret => exact ⟨_, a₁, w₁, hq, .of_steps (.one h0 stepR_scope') harr⟩
  | panic ch => exact ⟨_, a₁, w₁, hq, .of_steps (.one h0 stepR_scope') harr⟩
  | outgrown => exact ⟨_, a₁, w₁, hq, .of_steps (.one h0 stepR_scope') harr⟩
theorem wc_scope {nt np : Nat} {c : Code} {s : St} {Q : Exit → St → Prop} (h : WC P K nt np c s (scQ Q)) : WC P K nt np (.scope c) s Q := by
  intro C h1 h2 h3 r a w hs
  refine wpIn_scope (wpIn_mono (h C h1 h2 h3 r a w hs) ?_)
  rintro e a' w' ⟨ho, s', hq, k⟩
  cases e with
  | goto l => exact absurd hq id
  | _ => exact ⟨ho, s', hq, k⟩
theorem e_sr {Q : Exit → St → Prop} {s : St} (k : Q .ret s) : scQ Q .ret s := k
section
variable {α : Type} {f : α → List D} {sz : Nat}
theorem fm_len (hf : ∀ x, (f x).length = sz) : ∀ l : List α, (l.flatMap f).length = l.length * sz
  | [] => by simp
  | x :: l => by simp only [List.flatMap_cons, List.length_append, List.length_cons, hf, fm_len hf l, Nat.add_mul, Nat.one_mul]; omega
theorem fm_split (hf : ∀ x, (f x).length = sz) : ∀ {l : List α} {i : Nat} {r : α}, l[i]? = some r → l.flatMap f = (l.flatMap f).take (i * sz) ++ f r ++ (l.flatMap f).drop (i * sz + sz)
  | [], i, r, h => by simp at h
  | x :: l, 0, r, h => by
    simp at h
    subst h
    simp only [List.flatMap_cons, Nat.zero_mul, List.take_zero, List.nil_append, Nat.zero_add]
    rw [List.drop_append_of_le_length (by rw [hf]; exact Nat.le_refl _), List.drop_of_length_le (by rw [hf]; exact Nat.le_refl _), List.nil_append]
  | x :: l, i + 1, r, h => by
    have ih := fm_split hf (l := l) (i := i) (by simpa using h)
    have h1 : (i + 1) * sz = sz + i * sz := by rw [Nat.add_mul, Nat.one_mul]; omega
    simp only [List.flatMap_cons]
    rw [h1, List.take_append, List.drop_append, hf, List.take_of_length_le (by rw [hf]; omega), List.drop_of_length_le (l := f x) (by rw [hf]; omega), List.nil_append]
    rw [show sz + i * sz - sz = i * sz by omega, show sz + i * sz + sz - sz = i * sz + sz by omega, List.append_assoc, List.append_assoc]
    congr 1
    rw [← List.append_assoc]
    exact ih
theorem fm_set (hf : ∀ x, (f x).length = sz) : ∀ {l : List α} {i : Nat} {r : α} (r' : α), l[i]? = some r → (l.set i r').flatMap f = (l.flatMap f).take (i * sz) ++ f r' ++ (l.flatMap f).drop (i * sz + sz)
  | [], i, r, _, h => by simp at h
  | x :: l, 0, r, r', h => by
    simp only [List.set_cons_zero, List.flatMap_cons, Nat.zero_mul, List.take_zero, List.nil_append, Nat.zero_add]
    rw [List.drop_append_of_le_length (by rw [hf]; exact Nat.le_refl _), List.drop_of_length_le (by rw [hf]; exact Nat.le_refl _), List.nil_append]
  | x :: l, i + 1, r, r', h => by
    have ih := fm_set hf (l := l) (i := i) r' (by simpa using h)
    have h1 : (i + 1) * sz = sz + i * sz := by rw [Nat.add_mul, Nat.one_mul]; omega
    simp only [List.set_cons_succ, List.flatMap_cons]
    rw [h1, List.take_append, List.drop_append, hf, List.take_of_length_le (by rw [hf]; omega), List.drop_of_length_le (l := f x) (by rw [hf]; omega), List.nil_append]
    rw [show sz + i * sz - sz = i * sz by omega, show sz + i * sz + sz - sz = i * sz + sz by omega, List.append_assoc, List.append_assoc]
    congr 1
    rw [← List.append_assoc]
    exact ih
theorem fm_seg (hf : ∀ x, (f x).length = sz) {l : List α} {i j m : Nat} {r : α} (h : l[i]? = some r) (hm : j + m ≤ sz) : ((l.flatMap f).drop (i * sz + j)).take m = ((f r).drop j).take m := by
  apply List.ext_getElem?
  intro q
  rw [List.getElem?_take, List.getElem?_take]
  split
  · rename_i hq
    rw [List.getElem?_drop, List.getElem?_drop]
    have hlt : j + q < (f r).length := by rw [hf]; omega
    rw [List.getElem?_eq_getElem hlt]
    have := flatMap_get hf h (j := j + q) (d := (f r)[j + q]) (List.getElem?_eq_getElem hlt)
    rwa [← Nat.add_assoc] at this
  · rfl
end
section
variable {dst : Option Tmp} {ty : TypeId} {pos : String} {after : Array Edge} {g : Option (Nat × Bool)} {t : List (Nat × AV)} {h : List (Nat × HS)}
variable {α : Type} {f : α → List D} {l : List α} {r : α} {u e : TypeId} {sz k : Nat} {x y i : Operand} {n : Int}
theorem ix_get (hr : ix l n = some r) : 0 ≤ n ∧ l[n.toNat]? = some r := by
  unfold ix at hr
  split at hr
  · cases hr
  · exact ⟨by omega, hr⟩
theorem p_ixR (ht : P.underlying u = some (.slice e)) (he : ∀ w, (sizeOf e).run P w = .ok sz w) (hx : rd t x = some (.row k)) (hi : rd t i = some (aN .i64 n)) (hh : hp h k = some (oR e sz f l)) (hr : ix l n = some r) :
    SA P K t h ⟨dst, .indexAddr u x i, ty, pos, after, g⟩ (rdO x (.row k) ++ rdO i (aN .i64 n)) [(k, oR e sz f l)] (.via k (rpR (n.toNat * sz))) [] :=
  .pv2h hx hi hh fun a b => pv_index_row ht he a b (ix_get hr).1 (List.getElem?_eq_some_iff.1 (ix_get hr).2).1
theorem p_fdR {s : TypeId} {j off o : Nat} (hf : Fld P s j off) (hx : rd t x = some (.via k (rpR o))) : SA P K t h ⟨dst, .fieldAddr s x j, ty, pos, after, g⟩ (rdO x (.via k (rpR o))) [] (.via k (rpR (o + off))) [] := .pv1 hx fun a => pv_field_rp hf a
theorem p_ldR {j : Nat} {d : D} (hf : ∀ x, (f x).length = sz) (ht : Ty P u 1 false) (hx : rd t x = some (.via k (rpR (n.toNat * sz + j)))) (hh : hp h k = some (oR e sz f l)) (hr : ix l n = some r) (hd : (f r)[j]? = some d) :
    SA P K t h ⟨dst, .load u x, ty, pos, after, g⟩ (rdO x (.via k (rpR (n.toNat * sz + j)))) [(k, oR e sz f l)] (.data d) [] :=
  .pv1h hx hh fun a => pv_load_rp ht a (by rw [List.getElem?_map, flatMap_get hf (ix_get hr).2 hd]; rfl)
theorem p_ldRA {j m : Nat} {ds : List D} (hf : ∀ x, (f x).length = sz) (ht : Ty P u m true) (hx : rd t x = some (.via k (rpR (n.toNat * sz + j)))) (hh : hp h k = some (oR e sz f l)) (hr : ix l n = some r) (hm : Nat.ble (j + m) sz = true) (hd : ((f r).drop j).take m = ds) :
    SA P K t h ⟨dst, .load u x, ty, pos, after, g⟩ (rdO x (.via k (rpR (n.toNat * sz + j)))) [(k, oR e sz f l)] (aA ds) [] := by
  subst hd
  have hm' := Nat.le_of_ble_eq_true hm
  refine .pv1h hx hh fun a => ?_
  have hlt := (List.getElem?_eq_some_iff.1 (ix_get hr).2).1
  have hle : n.toNat * sz + j + m ≤ (rowC f l).length := by
    rw [List.length_map, fm_len hf]
    have : (n.toNat + 1) * sz ≤ l.length * sz := Nat.mul_le_mul_right _ hlt
    rw [Nat.add_mul, Nat.one_mul] at this
    omega
  have := pv_load_rp_agg (P := P) (K := K) (dst := dst) (ty := ty) (pos := pos) (after := after) (g := g) (e := e) (sz := sz) (n := l.length) ht a hle
  rwa [← List.map_drop, ← List.map_take, fm_seg hf (ix_get hr).2 hm'] at this
theorem la_storeR {m off nn : Nat} {b : Bool} {cs : List AV} {v : AV} (ht : Ty P u m b) (hx : OV x (.via k (rpR off))) (hy : OV y v) (hc : cellAV v) (hn : (CV v).length = m) (hb : b = true ∨ m = 1) (hl : off + m ≤ cs.length) :
    LAct P K ⟨dst, .store u x y, ty, pos, after, g⟩ (rdO x (.via k (rpR off)) ++ rdO y v) [(k, .live (.row e sz nn cs))] .any [(k, .live (.row e sz nn (cs.take off ++ CV v ++ cs.drop (off + m))))] := by
  intro C s a w _ hT hH hd hs
  obtain ⟨hdf, hsz, E, hO, hR⟩ := hs
  have hr2 := relT_append.1 (relT_of hR hT)
  have hxv := rdO_rel hr2.1 hx
  obtain ⟨vs, ev, hr, h1⟩ := CV_rel hc (rdO_rel hr2.2 hy)
  have hvl : vs.length = m := by rw [hr.length, hn]
  have hcs : (a.eval y).cells.size = m := by rw [← hvl, ← ev]; simp
  obtain ⟨hv0, hφ, ⟨bb, o, n', c, rfl, exv⟩, _⟩ := hxv
  have hk := hO.hs k
  rw [hH.1] at hk
  obtain ⟨hv1, hφ1, ⟨us, ho, hru, h1u⟩, hbb⟩ := hk
  rw [hφ] at hφ1
  cases hφ1
  have hul := hru.length
  rcases ho.2 with ⟨e1, _⟩ | ⟨g1, cap, cur, e1, h5, hw, hc1, hc2, hc3, htk⟩
  · cases e1
  · cases e1
    rw [Nat.zero_add] at exv
    have hcl : us.length ≤ cur.size := by rw [← htk, List.length_take, Array.length_toList]; omega
    have hst := run_storeCells_at P bb off e vs 0 cur w hw (by omega) h1
    unfold Oper.wp
    have hrun : (execOp a.eval ⟨dst, .store u x y, ty, pos, after, g⟩).run P w = .ok .skip (w.setRow bb (cur.toList.take (off + 0) ++ vs ++ cur.toList.drop (off + 0 + vs.length)).toArray) := by
      simp only [execOp, Instr.storeAt, exv, Instr.sureAddr, storeVar, Sem.run_bind, Sem.run_pure, Result.andThen_ok, ht.size, hcs, ne_eq, not_true_eq_false, ite_false, Sem.run_ite, ev, hst]
    rw [hrun]
    have hh : (w.setRow bb (cur.toList.take off ++ vs ++ cur.toList.drop (off + vs.length)).toArray).heap[bb]? = some (.cells (cur.toList.take off ++ vs ++ cur.toList.drop (off + vs.length)).toArray e (0, 0)) := setRow_heap w bb cur _ e _ hw
    have hnew : (cur.toList.take off ++ vs ++ cur.toList.drop (off + vs.length)).take (nn * sz) = us.take off ++ vs ++ us.drop (off + vs.length) := by
      have hlu : us.length = nn * sz := ho.1
      rw [← htk]
      have hle : nn * sz ≤ cur.toList.length := by rw [Array.length_toList]; rw [hlu] at hcl; exact hcl
      rw [List.take_append, List.take_append, List.take_take, List.length_take, List.take_take, List.length_append, List.length_take]
      rw [show min off cur.toList.length = off by omega]
      rw [List.take_of_length_le (l := vs) (by omega), show min (nn * sz) off = off by omega, show min off (nn * sz) = off by omega]
      congr 1
      rw [List.drop_take]
    refine Sat.put (x := .any) (v := undef) hdf hsz hR (Env.le_refl E) (hO.write (w' := w.setRow bb (cur.toList.take off ++ vs ++ cur.toList.drop (off + vs.length)).toArray) (o' := .row e sz nn (cs.take off ++ CV v ++ cs.drop (off + m))) hH.1 hφ rfl (fun i hi => ?_) ?_ rfl rfl rfl ⟨us.take off ++ vs ++ us.drop (off + vs.length), ⟨?_, .inr ⟨bb, _, _, rfl, h5, hh, hc1, hc2, ?_, ?_⟩⟩, ?_, ?_⟩) hd trivial
    · exact setRow_other w bb i _ hi
    · simp
    · rw [← ho.1]; simp only [List.length_append, List.length_take, List.length_drop]; omega
    · rw [← hc3]; simp; omega
    · simpa using hnew
    · rw [← hvl]
      exact ((hru.take off).append hr).append (hru.drop _)
    · intro u' hu
      simp only [List.mem_append] at hu
      rcases hu with (hu | hu) | hu
      · exact h1u u' (List.mem_of_mem_take hu)
      · exact h1 u' hu
      · exact h1u u' (List.mem_of_mem_drop hu)
theorem p_stR {j m : Nat} {b : Bool} {v : AV} {ds : List D} {r' : α} (hf : ∀ x, (f x).length = sz) (ht : Ty P u m b) (hb : b = true ∨ m = 1) (hx : rd t x = some (.via k (rpR (n.toNat * sz + j)))) (hy : rd t y = some v) (hh : hp h k = some (oR e sz f l)) (hr : ix l n = some r) (hc : cellAV v) (hv : CV v = ds.map .data) (hn : Nat.beq ds.length m = true) (hm : Nat.ble (j + m) sz = true) (hr' : (f r).take j ++ ds ++ (f r).drop (j + m) = f r') :
    SA P K t h ⟨dst, .store u x y, ty, pos, after, g⟩ (rdO x (.via k (rpR (n.toNat * sz + j))) ++ rdO y v) [(k, oR e sz f l)] .any [(k, oR e sz f (l.set n.toNat r'))] := by
  have hm' := Nat.le_of_ble_eq_true hm
  have hn' := Nat.eq_of_beq_eq_true hn
  have hi := (ix_get hr).2
  have hlt := (List.getElem?_eq_some_iff.1 hi).1
  have hle : n.toNat * sz + j + m ≤ (rowC f l).length := by
    rw [List.length_map, fm_len hf]
    have : (n.toNat + 1) * sz ≤ l.length * sz := Nat.mul_le_mul_right _ hlt
    rw [Nat.add_mul, Nat.one_mul] at this
    omega
  have h1 := la_storeR (P := P) (K := K) (dst := dst) (ty := ty) (pos := pos) (after := after) (g := g) (e := e) (sz := sz) (nn := l.length) ht (rd_c hx).1 (rd_c hy).1 hc (by rw [hv, List.length_map]; exact hn') hb hle
  have key : (rowC f l).take (n.toNat * sz + j) ++ CV v ++ (rowC f l).drop (n.toNat * sz + j + m) = rowC f (l.set n.toNat r') := by
    have hs := fm_split hf hi
    have hset := fm_set hf r' hi
    have hpre : ((l.flatMap f).take (n.toNat * sz)).length = n.toNat * sz := by
      rw [List.length_take, fm_len hf]
      have : n.toNat * sz ≤ l.length * sz := Nat.mul_le_mul_right _ (Nat.le_of_lt hlt)
      omega
    show _ = ((l.set n.toNat r').flatMap f).map AV.data
    rw [hset, ← hr', hv]
    show ((l.flatMap f).map AV.data).take _ ++ _ ++ ((l.flatMap f).map AV.data).drop _ = _
    rw [← List.map_take, ← List.map_drop, ← List.map_append, ← List.map_append]
    congr 1
    have e1 : (l.flatMap f).take (n.toNat * sz + j) = (l.flatMap f).take (n.toNat * sz) ++ (f r).take j := by
      conv => lhs; rw [hs]
      rw [List.append_assoc, List.take_append, hpre, List.take_of_length_le (by rw [hpre]; omega), show n.toNat * sz + j - n.toNat * sz = j by omega, List.take_append_of_le_length (by rw [hf]; omega)]
    have e2 : (l.flatMap f).drop (n.toNat * sz + j + m) = (f r).drop (j + m) ++ (l.flatMap f).drop (n.toNat * sz + sz) := by
      conv => lhs; rw [hs]
      rw [List.append_assoc, List.drop_append, hpre, List.drop_of_length_le (by rw [hpre]; omega), List.nil_append, show n.toNat * sz + j + m - n.toNat * sz = j + m by omega, List.drop_append_of_le_length (by rw [hf]; omega)]
    rw [e1, e2]
    simp only [List.append_assoc]
  have key2 : (l.set n.toNat r').length = l.length := List.length_set
  rw [key, ← key2] at h1
  rw [key2] at h1
  refine ⟨?_, chkT_ap2 (rd_c hx).2 (rd_c hy).2, hp_lk hh, trivial⟩
  rw [show oR e sz f (l.set n.toNat r') = .live (.row e sz l.length (rowC f (l.set n.toNat r'))) by simp only [oR, key2]]
  exact h1
theorem p_bsR {nn : Nat} {zs : List Value} (k : Nat) (xs : List Operand) (l : List α) {vs : List AV} {parts : Array (Nat × Operand)} (ht : P.underlying u = some (.slice e)) (hs : ∀ w, (sizeOf e).run P w = .ok sz w) (hz : Zr P e zs) (hp0 : Nat.blt 0 sz = true)
    (hpa : parts = partsOf xs) (hn : nn = xs.length) (hv : rds t xs = some vs) (hc : ∀ v ∈ vs, cellAV v ∧ (CV v).length = sz) (hl : vs.flatMap CV = rowC f l) (hnl : l.length = nn) (hm : Nat.ble (nn * sz) 16777216 = true) (hf : hp h k = none) :
    SA P K t h ⟨dst, .buildSlice u nn parts, ty, pos, after, g⟩ (rdOs xs vs) [(k, .fresh)] (.row k) [(k, oR e sz f l)] := by
  have h1 := la_buildRow (P := P) (K := K) (dst := dst) (ty := ty) (pos := pos) (after := after) (g := g) k xs ht hs hz (by simpa [Nat.blt_eq] using hp0) hpa hn (rds_c hv).1 hc (by have := Nat.le_of_ble_eq_true hm; omega)
  rw [hl] at h1
  refine ⟨?_, (rds_c hv).2, hp_no hf, trivial⟩
  rw [show oR e sz f l = .live (.row e sz nn (rowC f l)) by simp only [oR, hnl]]
  exact h1
theorem made_rels {E : Env} {z : Array Value} {sz : Nat} {cs : List D} (hz : z.size = sz) (hr : Rels E (cs.map .data) z.toList) : ∀ n : Nat, Rels E ((List.replicate n cs).flatten.map .data) (madeCells z (n * sz)).toList
  | 0 => by simp [madeCells, Rels]
  | n + 1 => by
    have ih := made_rels hz hr n
    have e1 : (List.replicate (n + 1) cs).flatten.map AV.data = (List.replicate n cs).flatten.map AV.data ++ cs.map AV.data := by
      rw [List.replicate_succ', List.flatten_append, List.map_append]
      simp
    have e2 : (madeCells z ((n + 1) * sz)).toList = (madeCells z (n * sz)).toList ++ z.toList := by
      apply List.ext_getElem?
      intro j
      have hlen : (madeCells z (n * sz)).toList.length = n * sz := by simp [madeCells]
      rcases Nat.lt_or_ge j (n * sz) with h1 | h1
      · rw [List.getElem?_append_left (by rw [hlen]; exact h1)]
        have h2 : j < (n + 1) * sz := by rw [Nat.add_mul]; omega
        simp [madeCells, h1, h2]
      · rw [List.getElem?_append_right (by rw [hlen]; exact h1), hlen]
        rcases Nat.lt_or_ge j ((n + 1) * sz) with h2 | h2
        · have h3 : j - n * sz < sz := by rw [Nat.add_mul] at h2; omega
          have h4 : j % sz = j - n * sz := by
            have : j = (j - n * sz) + n * sz := by omega
            conv => lhs; rw [this]
            rw [Nat.add_mul_mod_self_right, Nat.mod_eq_of_lt h3]
          have h5 : j - n * sz < z.size := by rw [hz]; exact h3
          simp only [madeCells, Array.toList_map, Array.toList_range, List.getElem?_map, List.getElem?_range h2, Option.map_some, hz, h4, Array.getElem?_toList]
          rw [getElem!_pos z _ h5, Array.getElem?_eq_getElem h5]
        · have h3 : sz ≤ j - n * sz := by rw [Nat.add_mul] at h2; omega
          have h5 : ¬ j < (n + 1) * sz := by omega
          have h6 : ¬ j - n * sz < z.size := by rw [hz]; omega
          simp [madeCells, h5, h6]
    rw [e1, e2]
    exact ih.append hr
def ZD (zs : List Value) (cs : List D) : Prop := ∀ E : Env, Rels E (cs.map .data) zs
theorem zd0 : ZD [] [] := fun _ => rfl
theorem zdl {z : Value} {zs : List Value} {cs : List D} (h1 : z.oneCell' = true) (h : ZD zs cs) : ZD (z :: zs) (.lit z :: cs) := fun E => ⟨_, _, rfl, ⟨rfl, h1⟩, h E⟩
theorem zdn {zs : List Value} {cs : List D} {sz : Nat} (h : ZD zs cs) : ZD (.slice none 0 0 :: zs) (.list sz [] :: cs) := fun E => ⟨_, _, rfl, ⟨none, 0, rfl, Nat.le_refl _, by simp [maxLen], fun hn => absurd rfl hn⟩, h E⟩
def mkOk (n : Int) (bytes : Nat) : Bool := decide (0 ≤ n) && decide (n ≤ 1099511627776) && decide (n.toNat * bytes ≤ 140737488355328)
theorem p_mk {bytes : Nat} {zs : List Value} {z0 : α} {c : Operand} (k : Nat) (ht : P.underlying u = some (.slice e)) (hE : El P e sz bytes) (hz : Zr P e zs) (hzd : ZD zs (f z0)) (hx : rd t x = some (aN .i64 n)) (hc : rd t c = some (aN .i64 n)) (hn : mkOk n bytes = true) (hf : hp h k = none) :
    SA P K t h ⟨dst, .makeSlice u x c, ty, pos, after, g⟩ (rdO x (aN .i64 n) ++ rdO c (aN .i64 n)) [(k, .fresh)] (.row k) [(k, oR e sz f (List.replicate n.toNat z0))] := by
  simp only [mkOk, Bool.and_eq_true, decide_eq_true_eq] at hn
  refine ⟨?_, chkT_ap2 (rd_c hx).2 (rd_c hc).2, hp_no hf, trivial⟩
  intro C s a w _ hT hH hd hs
  obtain ⟨hdf, hsz, E, hO, hR⟩ := hs
  have hT' := relT_append.1 (relT_of hR hT)
  have e1 := lit_eq (rdO_rel hT'.1 (rd_c hx).1)
  have e2 := lit_eq (rdO_rel hT'.2 (rd_c hc).1)
  obtain ⟨i, z, hi, hz1, hi1, hi2, hz2⟩ := hE.ex
  obtain ⟨⟨z', hz3, hz4⟩, hz5⟩ := hz
  have hzz : z' = z := by
    have h1 := hz3 w
    have h2 : (zeroValue e).run P w = .ok z w := by simp [zeroValue, typeInfo, hi, hz1]
    rw [h2] at h1
    cases h1; rfl
  subst hzz
  have hb : ((n.toNat * bytes : Nat) : Int) = n * bytes := by rw [Int.natCast_mul, Int.toNat_of_nonneg hn.1.1]
  have hrun := run_make (P := P) w u e i z' ht hi hz1 .i64 .i64 n n hn.1.1 (Int.le_refl _) (by rw [hi2, Int.mul_comm, ← hb]; omega) (by omega)
  rw [hi1] at hrun
  have hφ : E.φ k = none := by
    have := hO.hs k
    rw [hH.1] at this
    exact this
  have hcz : z'.cells.size = sz := hz2
  have hrel : ∀ E' : Env, Rels E' (rowC f (List.replicate n.toNat z0)) (madeCells z'.cells (n.toNat * sz)).toList := fun E' => by
    have := made_rels (E := E') hcz (cs := f z0) (by rw [hz4]; exact hzd E') n.toNat
    rw [show rowC f (List.replicate n.toNat z0) = (List.replicate n.toNat (f z0)).flatten.map .data by simp [rowC, List.flatMap_def]]
    exact this
  have hone : ∀ u ∈ (madeCells z'.cells (n.toNat * sz)).toList, u.oneCell' = true := fun u hu => by
    simp only [madeCells, Array.toList_map, List.mem_map, Array.toList_range, List.mem_range] at hu
    obtain ⟨j, hj, rfl⟩ := hu
    have hpos : 0 < sz := hE.pos
    have hlt : j % z'.cells.size < z'.cells.size := Nat.mod_lt _ (by omega)
    rw [getElem!_pos z'.cells _ hlt]
    exact hz5 _ (by rw [← hz4]; simp)
  obtain ⟨hle, hO'⟩ := hO.new hH.1 (.cells (madeCells z'.cells (n.toNat * sz)) e) (.row e sz (List.replicate n.toNat z0).length (rowC f (List.replicate n.toNat z0))) (.slice (some ⟨w.heap.size, 0, none⟩) n.toNat n.toNat) rfl
    ⟨(madeCells z'.cells (n.toNat * sz)).toList, ⟨by simp [madeCells], .inr ⟨w.heap.size, n.toNat, _, by simp, Nat.zero_le _, heap_alloc_last _ _, by simp, by unfold maxLen; omega, by simp [madeCells], by rw [List.length_replicate]; exact List.take_of_length_le (by simp [madeCells])⟩⟩, hrel _, hone⟩
  unfold Oper.wp
  have hex : (execOp a.eval ⟨dst, .makeSlice u x c, ty, pos, after, g⟩).run P w = .ok (.value (.slice (some ⟨w.heap.size, 0, none⟩) n.toNat n.toNat)) (w.alloc (.cells (madeCells z'.cells (n.toNat * sz)) e)) := by
    simp [execOp, e1, e2, hrun]
  rw [hex]
  exact Sat.put hdf hsz hR hle hO' hd ⟨Env.with_self _ _ _, _, _, _, rfl⟩
end
end Go.Proofs.YtgmpgoafokdcbaaGreatDoor.Sx
