/- Own trees: append, freeze, lend. -/
import Derived.Test.YtgmpgoafokdcbaaGreatDoorSyn
set_option linter.unusedVariables false
set_option linter.unusedSectionVars false
set_option linter.unusedSimpArgs false
namespace Go.Proofs.YtgmpgoafokdcbaaGreatDoor.Sx
open Go Go.RowKit
variable {P : Program} {K : GL}
section
variable {dst : Option Tmp} {ty : TypeId} {pos : String} {after : Array Edge} {g : Option (Nat × Bool)}
theorem la_append_tree {t e : TypeId} {sz bytes n m k ky k' : Nat} {x y : Operand} {cs : List TC} {ys : List AV} (ht : P.underlying t = some (.slice e)) (hE : El P e sz bytes) (hx : OV x (.row k)) (hy : OV y (.row ky)) (hm : 0 < m)
    (h63 : n + m ≤ maxLen) (hby : (n + m) * bytes ≤ 140737488355328) (hkk : ky ≠ k) (hkk' : ky ≠ k') :
    LAct P K ⟨dst, .call { callee := .builtin .append, args := #[x, y], argTypes := #[t, t] }, ty, pos, after, g⟩ (rdO x (.row k) ++ rdO y (.row ky)) [(k, .live (.tree e sz n cs)), (ky, .live (.row e sz m ys)), (k', .fresh)] (.row k')
      [(k', .live (.tree e sz (n + m) (cs ++ ys.map .av))), (k, .dead)] := by
  intro C s a w hK hT hH hd hs
  obtain ⟨hdf, hsz, E, hO, hR⟩ := hs
  have hT' := relT_append.1 (relT_of hR hT)
  obtain ⟨hφ, A0, n0, c0, hv0⟩ := rdO_rel hT'.1 hx
  obtain ⟨hφy, _, _, _, _⟩ := rdO_rel hT'.2 hy
  have hk := hO.hs k
  rw [hH.1] at hk
  obtain ⟨hv1, hφ1, hor, hn⟩ := hk
  rw [hφ] at hφ1
  cases hφ1
  obtain ⟨vs, hown, hrel, hone, hnd, hfe⟩ := own_vs hor
  have hk2 := hO.hs ky
  rw [hH.2.1] at hk2
  obtain ⟨hv2, hφ2, ⟨us, howny, hrely, honey⟩, hny⟩ := hk2
  rw [hφy] at hφ2
  cases hφ2
  obtain ⟨i, z, hi, hz, hi1, hi2, hz2⟩ := hE.ex
  rcases howny.2 with ⟨_, hm0⟩ | ⟨gy, capy, cury, ey, _, hwy, hcy1, hcy2, hcy3, htky⟩
  · omega
  have hlen : us.length = m * sz := howny.1
  have hfz : ∀ j u, us[j]? = some u → w.cell? ((⟨gy, 0, none⟩ : Addr).add j) = some u := fun j u hj => by
    have hadd : (⟨gy, 0, none⟩ : Addr).add j = ⟨gy, j, none⟩ := by
      unfold Addr.add; split <;> simp_all
    rw [hadd]
    rw [← htky, List.getElem?_take] at hj
    split at hj
    · simp only [Array.getElem?_toList] at hj
      simp [World.cell?, hwy, hj]
    · cases hj
  obtain ⟨v', w', hrun, hown', hg, hnil, hloc⟩ := run_append_own_at (P := P) (w := w) 0 t ty e i z sz bytes ht hi hz hi1 hi2 hz2 hE.pos (a.eval x) n vs hown ⟨gy, 0, none⟩ m capy us hlen hfz honey h63 hby (Nat.zero_le _)
  have hv's : ∃ A n c, v' = .slice A n c := by
    rcases hown'.2 with ⟨h1, _⟩ | ⟨g1, cap1, cur1, h1, _⟩
    · exact ⟨_, _, _, h1⟩
    · exact ⟨_, _, _, h1⟩
  have hb0 : hblk (a.eval x) = (a.eval x).ownBlock := hblk_own ⟨_, _, _, hv0⟩
  have hb1 : hblk v' = v'.ownBlock := hblk_own hv's
  have hφ' : E.φ k' = none := by
    have := hO.hs k'
    rw [hH.2.2.1] at this
    exact this
  have hle0 := Env.with_le v' hφ'
  have hsame : ∀ b, b ∈ foots w cs vs → w'.heap[b]? = w.heap[b]? := fun b hb => hg.block b (hrel.lt b hb) (fun e2 => by
    rw [← hb0] at e2
    exact (List.nodup_append.1 hnd).2.2 b (by rw [← e2]; simp) b hb rfl)
  obtain ⟨hrel', hfo⟩ := TRels.world hsame hrel
  have hrN : TRels (E.with k' v') w' (cs ++ ys.map .av) (vs ++ us) := (TRels.mono hle0 hrel').app (TRels.avs (Rels.mono hle0 hrely))
  have hfN : foots w' (cs ++ ys.map .av) (vs ++ us) = foots w cs vs := by
    rw [foots_app, foots_avs, List.append_nil, ← hfo, ← foots_take w' cs (vs ++ us) cs.length (Nat.le_refl _), ← hrel.length, List.take_append_of_le_length (Nat.le_refl _), List.take_of_length_le (Nat.le_refl _)]
  have hnew : ∀ b, hblk v' = some b → b ∉ foots w cs vs := fun b hb hb2 => by
    rcases hloc with h1 | h1
    · rw [← hb0, ← hb1, hb] at h1
      exact (List.nodup_append.1 hnd).2.2 b (by rw [← h1]; simp) b hb2 rfl
    · rw [← hb1, hb] at h1
      cases h1
      exact absurd (hrel.lt _ hb2) (by omega)
  have hndN : ((hblk v').toList ++ foots w' (cs ++ ys.map .av) (vs ++ us)).Nodup := by
    rw [hfN]
    refine List.nodup_append.2 ⟨by cases hblk v' <;> simp, (List.nodup_append.1 hnd).2.1, fun b hb c hc e0 => ?_⟩
    subst e0
    exact hnew b (by simpa using hb) hc
  have hone' : ∀ u ∈ vs ++ us, u.oneCell' = true := fun u hu => by
    rcases List.mem_append.1 hu with h1 | h1
    · exact hone u h1
    · exact honey u h1
  obtain ⟨horN, hblN⟩ := own_mk hown' hrN hone' hndN
  have hO' := hO.grow (k := k) (k' := k') (o := .tree e sz n cs) (o' := .tree e sz (n + m) (cs ++ ys.map .av)) (v' := v') hH.1 hφ hH.2.2.1 (by rw [hb0]; exact hg) (by rw [hb0, hb1]; exact hloc) horN (fun b hb => by
    have := (hblN b).1 hb
    rw [hfN] at this
    rcases List.mem_append.1 this with h1 | h1
    · exact .inl (by simpa using h1)
    · refine .inr ?_
      rw [own_blk hown hrel]
      exact List.mem_append.2 (.inr h1))
  unfold Oper.wp
  have hex : (execOp a.eval ⟨dst, .call { callee := .builtin .append, args := #[x, y], argTypes := #[t, t] }, ty, pos, after, g⟩).run P w = .ok (.value v') w' := by
    have e1 : (#[x, y].map a.eval) = #[a.eval x, .slice (some ⟨gy, 0, none⟩) m capy] := by simp [ey]
    simp only [execOp, resolve, e1, Sem.run_bind, Sem.run_pure, Result.andThen_ok, invoke, builtin, hrun]
  rw [hex]
  exact Sat.put hdf hsz hR hO'.1 hO'.2 hd ⟨Env.with_self _ _ _, hv's⟩
end
section
variable {dst : Option Tmp} {ty : TypeId} {pos : String} {after : Array Edge} {g : Option (Nat × Bool)} {t : List (Nat × AV)} {h : List (Nat × HS)}
variable {α : Type} {f : α → List TC} {l l1 l2 : List α} {B : List TC} {r : α} {u e : TypeId} {sz k : Nat} {x y i : Operand} {n : Int}
theorem p_apT {ky bytes : Nat} {ys : List AV} (k' : Nat) (ht : P.underlying u = some (.slice e)) (hE : El P e sz bytes) (hx : rd t x = some (.row k)) (hy : rd t y = some (.row ky)) (hh : hp h k = some (oT e sz f l)) (hhy : hp h ky = some (.live (.row e sz 1 ys))) (hf : hp h k' = none) (hkk : Nat.beq ky k = false) (hkk' : Nat.beq ky k' = false) (hr : roomy (l.length + 1) bytes = true) :
    SA P K t h ⟨dst, .call { callee := .builtin .append, args := #[x, y], argTypes := #[u, u] }, ty, pos, after, g⟩ (rdO x (.row k) ++ rdO y (.row ky)) [(k, oT e sz f l), (ky, .live (.row e sz 1 ys)), (k', .fresh)] (.row k') [(k', oE e sz f l (ys.map .av) []), (k, .dead)] := by
  simp only [roomy, Bool.and_eq_true, decide_eq_true_eq] at hr
  have h1 := la_append_tree (P := P) (K := K) (dst := dst) (ty := ty) (pos := pos) (after := after) (g := g) (k' := k') (n := l.length) (m := 1) (cs := l.flatMap f) (ys := ys) ht hE (rd_c hx).1 (rd_c hy).1 (by omega) (by unfold maxLen; omega) (by omega) (fun e => by rw [e] at hkk; simp at hkk) (fun e => by rw [e] at hkk'; simp at hkk')
  refine ⟨?_, chkT_ap2 (rd_c hx).2 (rd_c hy).2, hp_lk hh, hp_lk hhy, hp_no hf, trivial⟩
  have e1 : oE e sz f l (ys.map .av) [] = .live (.tree e sz (l.length + 1) (l.flatMap f ++ ys.map .av)) := by simp [oE]
  rw [e1]
  exact h1
end
section
variable {np : Nat} {t : List (Nat × AV)} {h : List (Nat × HS)} {α : Type} {f : α → List TC} {l l1 l2 : List α} {B B' : List TC} {e : TypeId} {sz k k' : Nat} {ks : List (Nat × Nat)} {lk' : List (Nat × Nat)} {m : List (Nat × HS)} {j : Nat}
theorem hte (tm : TameF f) (he : hp h k = some (oE e sz f l1 B l2)) (hB : renCs (rK ks) B = B') (ho : okCs (pK ks) B = true) (n : eS' ks h lk' m) : eS' ks h ((k, j) :: lk') ((j, oE e sz f l1 B' l2) :: m) :=
  ⟨rfl, ⟨_, he, .same (by simp only [renS, renO, renCs_app, (Tame.flat tm _).ren, hB]) (by simp only [okH, okO, okCs_app, (Tame.flat tm _).ok, ho]; rfl)⟩, n⟩
end
section
variable {np : Nat} {t : List (Nat × AV)} {h : List (Nat × HS)} {α : Type} {f : α → List TC} {l l1 l2 : List α} {B : List TC} {e : TypeId} {sz k : Nat} {n : Int} {r : α}
end
section
variable {dst : Option Tmp} {ty : TypeId} {pos : String} {after : Array Edge} {g : Option (Nat × Bool)} {t : List (Nat × AV)} {h : List (Nat × HS)}
theorem p_bsW {u e : TypeId} {sz nn : Nat} {zs : List Value} {cs : List AV} (k : Nat) (xs : List Operand) {vs : List AV} {parts : Array (Nat × Operand)} (ht : P.underlying u = some (.slice e)) (hs : ∀ w, (sizeOf e).run P w = .ok sz w) (hz : Zr P e zs) (hp0 : Nat.blt 0 sz = true)
    (hpa : parts = partsOf xs) (hn : nn = xs.length) (hv : rds t xs = some vs) (hc : allCS sz vs) (hl : vs.flatMap CV = cs) (hm : Nat.ble (nn * sz) 16777216 = true) (hf : hp h k = none) :
    SA P K t h ⟨dst, .buildSlice u nn parts, ty, pos, after, g⟩ (rdOs xs vs) [(k, .fresh)] (.row k) [(k, .live (.row e sz nn cs))] := by
  subst hl
  have h1 := la_buildRow (P := P) (K := K) (dst := dst) (ty := ty) (pos := pos) (after := after) (g := g) k xs ht hs hz (by simpa [Nat.blt_eq] using hp0) hpa hn (rds_c hv).1 (allCS_mem hc) (by have := Nat.le_of_ble_eq_true hm; omega)
  exact ⟨h1, (rds_c hv).2, hp_no hf, trivial⟩
end
def FrC (c : TC) (d : D) : Prop := ∀ (E : Env) (w : World) (v : Value) (F : FH), FH.le E.F F → (∀ b ∈ foot w c v, ∃ o, w.heap[b]? = some o ∧ F b = some o) → TRel E w c v → d.p F v
def FrCs : List TC → List D → Prop
  | [], [] => True
  | c :: cs, d :: ds => FrC c d ∧ FrCs cs ds
  | _, _ => False
theorem FrCs.app : ∀ {a b : List TC} {c d : List D}, FrCs a c → FrCs b d → FrCs (a ++ b) (c ++ d)
  | [], _, [], _, _, h => h
  | _ :: _, _, _ :: _, _, ⟨h1, h2⟩, h => ⟨h1, FrCs.app h2 h⟩
  | [], _, _ :: _, _, h, _ => absurd h id
  | _ :: _, _, [], _, h, _ => absurd h id
theorem FrCs.flat {α : Type} {f : α → List TC} {fd : α → List D} (h : ∀ x, FrCs (f x) (fd x)) : ∀ l : List α, FrCs (l.flatMap f) (l.flatMap fd)
  | [] => trivial
  | x :: l => by rw [List.flatMap_cons, List.flatMap_cons]; exact (h x).app (FrCs.flat h l)
theorem FrCs.data : ∀ cs : List D, FrCs ((cs.map AV.data).map .av) cs
  | [] => trivial
  | c :: cs => ⟨fun E w v F hF _ hr => c.mono hF hr, FrCs.data cs⟩
theorem FrCs.cells {E : Env} {w : World} {F : FH} (hF : FH.le E.F F) : ∀ {cs : List TC} {ds : List D} {vs : List Value}, FrCs cs ds → TRels E w cs vs → (∀ b ∈ foots w cs vs, ∃ o, w.heap[b]? = some o ∧ F b = some o) → ∀ (j : Nat) (d : D), ds[j]? = some d → ∃ u, vs[j]? = some u ∧ d.p F u
  | [], [], _, _, _, _, j, d, e => by simp at e
  | c :: cs, d0 :: ds, _, ⟨h1, h2⟩, ⟨u, us, e1, r1, r2⟩, hb, 0, d, e => by
    subst e1
    have e0 : d0 = d := Option.some.inj e
    subst e0
    exact ⟨u, rfl, h1 E w u F hF (fun b hb' => hb b (by simp only [foots, List.mem_append]; exact .inl hb')) r1⟩
  | c :: cs, d0 :: ds, _, ⟨h1, h2⟩, ⟨u, us, e1, r1, r2⟩, hb, j + 1, d, e => by
    subst e1
    obtain ⟨x, hx, hd⟩ := FrCs.cells hF h2 r2 (fun b hb' => hb b (by simp only [foots, List.mem_append]; exact .inr hb')) j d (by simpa using e)
    exact ⟨x, by simpa using hx, hd⟩
  | [], _ :: _, _, h, _, _, _, _, _ => absurd h id
  | _ :: _, [], _, h, _, _, _, _, _ => absurd h id
theorem FrC.dat {d : D} : FrC (.av (.data d)) d := fun E w v F hF _ hr => d.mono hF hr
theorem FrC.own {t : TypeId} {sz n : Nat} {cs : List TC} {dss : List (List D)} (hn : dss.length = n) (hs : ∀ c ∈ dss, c.length = sz) (hc : FrCs cs dss.flatten) : FrC (.own t sz n cs) (.list sz dss) := by
  intro E w v F hF hb ⟨vs, ho, hr, h1⟩
  have hfo := foots_cells ho hr
  rcases ho.2 with ⟨rfl, h0⟩ | ⟨g, cap, cur, rfl, _, hw, hc1, hc2, hc3, htk⟩
  · have : dss = [] := List.length_eq_zero_iff.1 (hn.trans h0)
    subst this
    exact ⟨none, 0, rfl, Nat.le_refl _, by simp [maxLen], fun hn => absurd rfl hn⟩
  · subst hn
    refine ⟨some ⟨g, 0, none⟩, cap, rfl, hc1, Nat.le_trans hc1 hc2, fun _ => ⟨_, rfl, fun i c hi => ?_⟩⟩
    have hcl := hs c (List.mem_of_getElem? hi)
    refine ⟨hcl, fun j d hj => ?_⟩
    have hfl := flatten_get hs hi hj
    obtain ⟨u, hu, hd⟩ := FrCs.cells hF hc hr (fun b hb' => hb b (by simp only [foot, List.mem_append]; rw [hfo]; exact .inr hb')) _ _ hfl
    refine ⟨u, ?_, hd⟩
    have hadd : ∀ n, (⟨g, 0, none⟩ : Addr).add n = ⟨g, n, none⟩ := by
      intro n; unfold Addr.add; split <;> simp_all
    obtain ⟨o, hwo, hFo⟩ := hb g (by simp [foot, hblk])
    rw [hw] at hwo
    cases hwo
    rw [hadd, show (⟨g, i * sz, none⟩ : Addr).add j = ⟨g, i * sz + j, none⟩ by unfold Addr.add; split <;> simp_all]
    rw [← htk, List.getElem?_take] at hu
    split at hu
    · simp only [Array.getElem?_toList] at hu
      simp [fcell, hFo, hu]
    · cases hu
theorem flat_map_len {α : Type} {fd : α → List D} (l : List α) : (l.map fd).flatten = l.flatMap fd := by rw [List.flatMap_def]
theorem FrC.row {α : Type} {t : TypeId} {sz : Nat} {fd : α → List D} {l : List α} (hs : ∀ x, (fd x).length = sz) : FrC (wR t sz fd l) (.list sz (l.map fd)) :=
  FrC.own (by simp) (fun c hc => by obtain ⟨x, _, rfl⟩ := List.mem_map.1 hc; exact hs x) (by rw [flat_map_len]; exact FrCs.data _)
theorem FrC.tree {α : Type} {t : TypeId} {sz : Nat} {f : α → List TC} {fd : α → List D} {l : List α} (hs : ∀ x, (fd x).length = sz) (hf : ∀ x, FrCs (f x) (fd x)) : FrC (wT t sz f l) (.list sz (l.map fd)) :=
  FrC.own (by simp) (fun c hc => by obtain ⟨x, _, rfl⟩ := List.mem_map.1 hc; exact hs x) (by rw [flat_map_len]; exact FrCs.flat hf l)
def tL {α : Type} (t : TypeId) (sz : Nat) (f : α → List D) (x : List α) : List TC := [wR t sz f x]
theorem tmL {α : Type} {t : TypeId} {sz : Nat} {f : α → List D} : TameF (tL t sz f) := ⟨fun x => Tame.nil.consR⟩
theorem frL {α : Type} {t : TypeId} {sz : Nat} {f : α → List D} (hs : ∀ x, (f x).length = sz) : ∀ x, FrCs (tL t sz f x) (eL sz f x) := fun x => ⟨FrC.row hs, trivial⟩
theorem EOk.thick {C : Cx} {E : Env} {h : List (Nat × HS)} {w : World} (hO : EOk C E h w) (g : Nat → Prop) (hg : ∀ b, g b → ∃ k o v, lkH h k = .live o ∧ E.φ k = some v ∧ oblk w o v b) :
    ∃ E', Env.le E E' ∧ E'.φ = E.φ ∧ (∀ b o, E'.F b = some o → w.heap[b]? = some o) ∧ (∀ b o, E'.F b = some o → E.F b = some o ∨ (g b ∧ E.F b = none)) ∧ (∀ b, g b → E.F b = none ∧ (C.own b ∨ C.w0.heap.size ≤ b) ∧ ∃ o, w.heap[b]? = some o ∧ E'.F b = some o) := by
  classical
  have hn : ∀ b, g b → E.F b = none ∧ (C.own b ∨ C.w0.heap.size ≤ b) ∧ b < w.heap.size := fun b hb => by
    obtain ⟨k, o, v, h1, h2, h3⟩ := hg b hb
    have := hO.hs k
    rw [h1] at this
    obtain ⟨v', e', ho, hbb⟩ := this
    rw [h2] at e'
    cases e'
    exact ⟨(hbb b h3).1, (hbb b h3).2, ho.lt b h3⟩
  refine ⟨⟨fun b => if g b then w.heap[b]? else E.F b, E.φ⟩, ⟨fun b o e => ?_, fun _ _ e => e⟩, rfl, fun b o e => ?_, fun b o e => ?_, fun b hb => ⟨(hn b hb).1, (hn b hb).2.1, ?_⟩⟩
  · show (if g b then w.heap[b]? else E.F b) = some o
    rw [if_neg (fun hb => by rw [(hn b hb).1] at e; cases e)]; exact e
  · have e' : (if g b then w.heap[b]? else E.F b) = some o := e
    split at e'
    · exact e'
    · exact hO.fz b o e'
  · have e' : (if g b then w.heap[b]? else E.F b) = some o := e
    split at e'
    · rename_i hb; exact .inr ⟨hb, (hn b hb).1⟩
    · exact .inl e'
  · have hlt := (hn b hb).2.2
    exact ⟨w.heap[b], Array.getElem?_eq_getElem hlt, by show (if g b then w.heap[b]? else E.F b) = _; rw [if_pos hb]; exact Array.getElem?_eq_getElem hlt⟩
theorem EOk.fown {C : Cx} {E : Env} {h : List (Nat × HS)} {w : World} {k : Nat} {o : AO} {c : TC} {d : D} (hO : EOk C E h w) (hk : lkH h k = .live o) (hs : SubT o c) (hf : FrC c d) :
    ∃ E', Env.le E E' ∧ EOk C E' ((k, .dead) :: h) w ∧ ∀ v, E.φ k = some v → d.p E'.F v := by
  have hh := hO.hs k
  rw [hk] at hh
  obtain ⟨v, hv, hor, hbb⟩ := hh
  obtain ⟨E', hle, eφ, hz, hg, hin⟩ := hO.thick (fun b => oblk w o v b) (fun b hb => ⟨k, o, v, hk, hv, hb⟩)
  obtain ⟨ht1, ht2, ht3⟩ := hs.to hor
  refine ⟨E', hle, ⟨FH.le_trans hO.f0 hle.1, fun i x e => by rw [eφ]; exact hO.hd i x e, hz, fun b ob e => ?_, fun i => ?_, ?_, hO.w, fun i ds e => cellsAt_le hle.1 (hO.g i ds e)⟩, fun u hu => ?_⟩
  · rcases hg b ob e with h1 | h1
    · exact hO.fn b ob h1
    · exact .inr ((hin b h1.1).2.1.symm)
  · by_cases hi : i = k
    · subst hi; rw [lkH_cons_self]; trivial
    · rw [lkH_cons_ne _ _ hi]
      have := hO.hs i
      cases hl : lkH h i with
      | fresh => rw [hl] at this; show E'.φ i = none; rw [eφ]; exact this
      | dead => trivial
      | live oi =>
        rw [hl] at this
        obtain ⟨x, hx, hox, hbx⟩ := this
        refine ⟨x, by rw [eφ]; exact hx, hox.mono hle, fun b hb => ⟨?_, (hbx b hb).2⟩⟩
        cases hF : E'.F b with
        | none => rfl
        | some ob =>
          exfalso
          rcases hg b ob hF with h1 | h1
          · rw [(hbx b hb).1] at h1; cases h1
          · exact hi (hO.inj _ _ _ _ _ _ _ hl hk hx hv hb h1.1)
  · intro i j oi oj hi hj b li lj ei ej bi bj
    have ne : ∀ {i oi}, lkH ((k, HS.dead) :: h) i = .live oi → lkH h i = .live oi := by
      intro i oi li
      by_cases hi : i = k
      · subst hi; rw [lkH_cons_self] at li; cases li
      · rwa [lkH_cons_ne _ _ hi] at li
    rw [eφ] at ei ej
    exact hO.inj i j oi oj hi hj b (ne li) (ne lj) ei ej bi bj
  · rw [hv] at hu
    cases hu
    exact hf E w v E'.F hle.1 (fun b hb => (hin b ((ht3 b).1 hb)).2.2) ht1
section
variable {np : Nat} {t : List (Nat × AV)} {h : List (Nat × HS)} {k : Nat} {o : AO} {c : TC} {dd : D}
theorem fztc {j i : Nat} {ct : TypeId} {cs : List AV} (hb : hp h j = some (oC ct cs)) (hx : cs[i]? = some (.row k)) (hh : hp h k = some (.live o)) (hj : Nat.beq j k = false) (hs : SubT o c) (hf : FrC c dd) : Ent np ⟨t, h⟩ ⟨t, (j, oC ct (cs.set i (.data dd))) :: (k, .dead) :: h⟩ := by
  intro C hn a w hs'
  obtain ⟨hdf, hsz, E, hO, hR⟩ := hs'
  obtain ⟨E', hle, hO', hl⟩ := hO.fown (hp_lk hh) hs hf
  have hjk : j ≠ k := fun e => by rw [e] at hj; simp at hj
  have hlj : lkH ((k, .dead) :: h) j = oC ct cs := by rw [lkH_cons_ne _ _ hjk]; exact hp_lk hb
  refine ⟨hdf, hsz, E', hO'.set (o' := .cells ct (cs.set i (.data dd))) hlj (fun v hv ho => ?_) (fun v b _ _ h => h), fun i => Rel.mono hle (hR i)⟩
  obtain ⟨b, vs, rfl, hw, hr, h1⟩ := ho
  refine ⟨b, vs, rfl, hw, ?_, h1⟩
  obtain ⟨u, hu, hru⟩ := hr.get hx
  have hset : vs.set i u = vs := by
    apply List.ext_getElem?
    intro j
    rw [List.getElem?_set]
    split
    · rename_i e0
      subst e0
      obtain ⟨hlt, he⟩ := List.getElem?_eq_some_iff.1 hu
      simp [hlt, ← he]
    · rfl
  have hkφ : E.φ k = some u := by
    have hs0 := hO.hs k
    rw [hp_lk hh] at hs0
    obtain ⟨v0, hv0, _⟩ := hs0
    have := hle.2 k v0 hv0
    rw [hru.1] at this
    rw [this]; exact hv0
  have := hr.set i (x := .data dd) (v := u) (hl u hkφ)
  rwa [hset] at this
end
mutual
inductive LendA (L : List (Nat × AO × D)) : AV → AV → Prop
  | row {k : Nat} {o : AO} {d : D} : (k, o, d) ∈ L → LendA L (.row k) (.data d)
  | agg {xs ys : List AV} : LendAs L xs ys → LendA L (.agg xs) (.agg ys)
  | nil {sz : Nat} : LendA L aNil (.data (.list sz []))
  | same {x : AV} : okA (fun _ => false) x = true → LendA L x x
inductive LendAs (L : List (Nat × AO × D)) : List AV → List AV → Prop
  | nil : LendAs L [] []
  | cons {x y : AV} {xs ys : List AV} : LendA L x y → LendAs L xs ys → LendAs L (x :: xs) (y :: ys)
end
mutual
theorem LendA.rel {L : List (Nat × AO × D)} {E E' : Env} (hle : Env.le E E') (hL : ∀ p ∈ L, ∀ v, E.φ p.1 = some v → p.2.2.p E'.F v) : ∀ {x y : AV} {v : Value}, LendA L x y → Rel E x v → Rel E' y v ∧ okA (fun _ => false) y = true
  | _, _, v, .row hm, hr => ⟨hL _ hm v hr.1, rfl⟩
  | _, _, _, .agg hs, ⟨vs, e, hr, h1⟩ => by
    obtain ⟨a, b⟩ := LendAs.rel hle hL hs hr
    exact ⟨⟨vs, e, a, h1⟩, b⟩
  | _, _, v, .nil, hr => by
    have e := hr.1
    subst e
    exact ⟨⟨none, 0, rfl, Nat.le_refl _, by simp [maxLen], fun hn => absurd rfl hn⟩, rfl⟩
  | _, _, v, .same ho, hr => ⟨Rel.mono hle hr, ho⟩
theorem LendAs.rel {L : List (Nat × AO × D)} {E E' : Env} (hle : Env.le E E') (hL : ∀ p ∈ L, ∀ v, E.φ p.1 = some v → p.2.2.p E'.F v) : ∀ {xs ys : List AV} {vs : List Value}, LendAs L xs ys → Rels E xs vs → Rels E' ys vs ∧ okAs (fun _ => false) ys = true
  | _, _, _, .nil, hr => ⟨hr, rfl⟩
  | _, _, _, .cons h1 h2, ⟨u, us, e, r1, r2⟩ => by
    obtain ⟨a, b⟩ := LendA.rel hle hL h1 r1
    obtain ⟨a', b'⟩ := LendAs.rel hle hL h2 r2
    refine ⟨⟨u, us, e, a, a'⟩, ?_⟩
    simp only [okAs, b, b']; rfl
end
def FrL : List (Nat × AO × D) → Prop
  | [] => True
  | (_, o, d) :: l => (∃ c, SubT o c ∧ FrC c d) ∧ FrL l
theorem FrL.mem : ∀ {L : List (Nat × AO × D)}, FrL L → ∀ p ∈ L, ∃ c, SubT p.2.1 c ∧ FrC c p.2.2
  | [], _, p, hp => by cases hp
  | _ :: l, h, p, hp => by
    rcases List.mem_cons.1 hp with rfl | hp
    · exact h.1
    · exact h.2.mem p hp
section
variable {dst : Option Tmp} {ty : TypeId} {pos : String} {after : Array Edge} {g : Option (Nat × Bool)} {t : List (Nat × AV)} {h : List (Nat × HS)}
end
end Go.Proofs.YtgmpgoafokdcbaaGreatDoor.Sx
