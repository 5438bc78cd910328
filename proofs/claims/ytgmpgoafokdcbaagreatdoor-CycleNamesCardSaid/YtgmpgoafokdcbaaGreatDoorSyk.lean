/- More words: appends of open lists to nil. -/
import Derived.Test.YtgmpgoafokdcbaaGreatDoorSyj
set_option linter.unusedVariables false
namespace Go.Proofs.YtgmpgoafokdcbaaGreatDoor.Sx
open Go Go.RowKit
variable {P : Program} {K : GL}
section
variable {dst : Option Tmp} {ty : TypeId} {pos : String} {after : Array Edge} {g : Option (Nat × Bool)} {t : List (Nat × AV)} {h : List (Nat × HS)}
theorem la_append_nil0 {t e : TypeId} {sz bytes k k' : Nat} {x y : Operand} {ds : List (List D)} (ht : P.underlying t = some (.slice e)) (hE : El P e sz bytes) (hx : OV x (.data (.lit (.slice none 0 0)))) (hy : OV y (.data (.list sz ds))) (hkk : k ≠ k')
    (h63 : ds.length ≤ maxLen) (hby : ds.length * bytes ≤ 140737488355328) :
    LAct P K ⟨dst, .call { callee := .builtin .append, args := #[x, y], argTypes := #[t, t] }, ty, pos, after, g⟩ (rdO x (.data (.lit (.slice none 0 0))) ++ rdO y (.data (.list sz ds))) [(k, .fresh), (k', .fresh)] (.row k')
      [(k', .live (.row e sz ds.length (ds.flatten.map .data))), (k, .dead)] := by
  by_cases hne : ds = []
  · subst hne
    intro C s a w hK hT hH hd hs
    obtain ⟨hdf, hsz, E, hO, hR⟩ := hs
    have hT' := relT_append.1 (relT_of hR hT)
    have hv0 := lit_eq (rdO_rel hT'.1 hx)
    obtain ⟨A, cap, hv, hc1, hc2, hr⟩ := rdO_rel hT'.2 hy
    have hown : w.ownsRow 0 e sz (a.eval x) 0 [] := by rw [hv0]; exact ⟨by simp, .inl ⟨rfl, rfl⟩⟩
    have hrun := run_append_empty (P := P) (w := w) (t := t) (ty := ty) ht hE hown A cap (fun _ _ => trivial)
    obtain ⟨hle, hO1⟩ := hO.adopt hH.2.1 e sz
    have hO2 := hO1.forget k
    unfold Oper.wp
    have hex : (execOp a.eval ⟨dst, .call { callee := .builtin .append, args := #[x, y], argTypes := #[t, t] }, ty, pos, after, g⟩).run P w = .ok (.value (a.eval x)) w := by
      have e1 : (#[x, y].map a.eval) = #[a.eval x, .slice A 0 cap] := by simp [hv]
      simp only [execOp, resolve, e1, Sem.run_bind, Sem.run_pure, Result.andThen_ok, invoke, builtin, hrun]
    rw [hex]
    refine Sat.put hdf hsz hR hle (EOk_seq (fun q => ?_) hO2) hd (x := .row k') (v := a.eval x) ⟨?_, none, 0, 0, hv0⟩
    · show lkH ((k, .dead) :: (k', _) :: s.h) q = lkH ((k', _) :: (k, .dead) :: s.h) q
      simp only [lkH, List.length_nil, List.flatten_nil, List.map_nil]
      by_cases h1 : k = q
      · subst h1; simp [Ne.symm hkk]
      · simp [h1]
    · rw [hv0]; exact Env.with_self _ _ _
  · exact la_append_nil ht hE hx hy hne hkk h63 hby
theorem p_apO {α : Type} {f : α → List D} {m : List α} {u e : TypeId} {sz bytes : Nat} {x y : Operand} (k k' : Nat) (ht : P.underlying u = some (.slice e)) (hE : El P e sz bytes) (hx : rd t x = some aNil) (hy : rd t y = some (aL sz f m))
    (hf : hp h k = none) (hf' : hp h k' = none) (hkk : Nat.beq k k' = false) (hr : roomy m.length bytes = true) :
    SA P K t h ⟨dst, .call { callee := .builtin .append, args := #[x, y], argTypes := #[u, u] }, ty, pos, after, g⟩ (rdO x aNil ++ rdO y (aL sz f m)) [(k, .fresh), (k', .fresh)] (.row k') [(k', oR e sz f m), (k, .dead)] := by
  simp only [roomy, Bool.and_eq_true, decide_eq_true_eq] at hr
  have h1 := la_append_nil0 (K := K) (dst := dst) (ty := ty) (pos := pos) (after := after) (g := g) (k := k) (k' := k') ht hE (rd_c hx).1 (rd_c hy).1 (fun e0 => by rw [e0] at hkk; simp at hkk) (by rw [List.length_map]; unfold maxLen; omega) (by rw [List.length_map]; exact hr.2)
  rw [flat_map, List.length_map] at h1
  exact ⟨h1, chkT_ap2 (rd_c hx).2 (rd_c hy).2, hp_no hf, hp_no hf', trivial⟩
end
theorem EOk.fcells {C : Cx} {E : Env} {h : List (Nat × HS)} {w : World} {k : Nat} {ct : TypeId} {cs : List D} (hO : EOk C E h w) (hk : lkH h k = oD ct cs) :
    ∃ E', Env.le E E' ∧ EOk C E' ((k, .dead) :: h) w ∧ ∃ b, E.φ k = some (.pointer (some ⟨b, 0, none⟩)) ∧ cellsAt E'.F ⟨b, 0, none⟩ cs := by
  have hs := hO.hs k
  rw [hk] at hs
  obtain ⟨v, hv, ⟨g, vs, rfl, hw, hr, h1⟩, hb⟩ := hs
  have drop : ∀ {E' : Env}, E'.φ = E.φ → FH.le E.F E'.F → (∀ b o, E'.F b = some o → w.heap[b]? = some o ∧ (C.F0 b = some o ∨ C.w0.heap.size ≤ b ∨ C.own b)) → (∀ i o x b, i ≠ k → lkH h i = .live o → E.φ i = some x → oblk w o x b → E'.F b = none) → EOk C E' ((k, .dead) :: h) w := by
    intro E' eφ eF hz hn
    have hle : Env.le E E' := ⟨eF, fun i x e => by rw [eφ]; exact e⟩
    refine ⟨FH.le_trans hO.f0 eF, fun i x e => by rw [eφ]; exact hO.hd i x e, fun b o e => (hz b o e).1, fun b o e => (hz b o e).2, fun i => ?_, ?_, hO.w, fun i ds e => cellsAt_le eF (hO.g i ds e)⟩
    · by_cases hi : i = k
      · subst hi; rw [lkH_cons_self]; trivial
      · rw [lkH_cons_ne _ _ hi]
        have := hO.hs i
        cases hl : lkH h i with
        | fresh => rw [hl] at this; show E'.φ i = none; rw [eφ]; exact this
        | dead => trivial
        | live o =>
          rw [hl] at this
          obtain ⟨x, hx, hor, hbb⟩ := this
          exact ⟨x, by rw [eφ]; exact hx, hor.mono hle, fun b hb' => ⟨hn i o x b hi hl hx hb', (hbb b hb').2⟩⟩
    · intro i j oi oj hi hj b li lj ei ej bi bj
      have ne : ∀ {i oi}, lkH ((k, .dead) :: h) i = .live oi → lkH h i = .live oi := by
        intro i oi li
        by_cases hi : i = k
        · subst hi; rw [lkH_cons_self] at li; cases li
        · rwa [lkH_cons_ne _ _ hi] at li
      rw [eφ] at ei ej
      exact hO.inj i j oi oj hi hj b (ne li) (ne lj) ei ej bi bj
  have hFb : E.F g = none := (hb g rfl).1
  have hown := (hb g rfl).2
  refine ⟨E.frz g (.cells vs.toArray ct (0, 0)), E.frz_le _ hFb, drop rfl (E.frz_le _ hFb).1 (fun b o hbo => ?_) (fun i o x b hi hl hx hb' => ?_), g, hv, fun j d hj => ?_⟩
  · simp only [Env.frz] at hbo
    split at hbo
    · rename_i hbg
      cases hbo
      subst hbg
      exact ⟨hw, by rcases hown with h2 | h2; exact .inr (.inr h2); exact .inr (.inl h2)⟩
    · exact ⟨hO.fz b o hbo, hO.fn b o hbo⟩
  · have := hO.hs i
    rw [hl] at this
    obtain ⟨x', hx', _, hbb⟩ := this
    rw [hx] at hx'; cases hx'
    have hne : b ≠ g := by
      rintro rfl
      exact hi (hO.inj i k _ _ x _ b hl hk hx hv hb' rfl)
    simp only [Env.frz, if_neg hne]
    exact (hbb b hb').1
  · obtain ⟨u, hu', hd⟩ := rels_datas hr _ _ hj
    refine ⟨u, ?_, d.mono (E.frz_le _ hFb).1 hd⟩
    have hadd : (⟨g, 0, none⟩ : Addr).add j = ⟨g, j, none⟩ := by
      unfold Addr.add; split <;> simp_all
    rw [hadd]
    unfold fcell
    simp only [Env.frz, if_true]
    simpa using hu'
section
variable {np : Nat} {t : List (Nat × AV)} {h : List (Nat × HS)} {k d : Nat}
theorem fzb {ct : TypeId} {cs : List D} (hx : lk t d = some (.ptr k 0)) (hh : hp h k = some (oD ct cs)) : Ent np ⟨t, h⟩ ⟨(d, aP cs) :: t, (k, .dead) :: h⟩ := by
  intro C hn a w hs
  obtain ⟨hdf, hsz, E, hO, hR⟩ := hs
  obtain ⟨E', hle, hO', b, hb, hl⟩ := hO.fcells (hp_lk hh)
  refine ⟨hdf, hsz, E', hO', fun i => ?_⟩
  simp only [lkT]
  split
  · rename_i e
    subst e
    have := hR d
    rw [lk_lk hx] at this
    obtain ⟨b', hb', hv⟩ := this
    rw [hb] at hb'
    cases hb'
    exact ⟨_, hv, hl⟩
  · exact Rel.mono hle (hR i)
end
def allRow (t : List (Nat × AV)) (k : Nat) : List Nat → Prop
  | [] => True
  | d :: ds => lk t d = some (.row k) ∧ allRow t k ds
theorem LAct.frz {o : Oper} {rT : List (Nat × AV)} {rH wH : List (Nat × HS)} {k sz : Nat} {α : Type} {f : α → List D} {l : List α} {e : TypeId} (h : LAct P K o rT rH (.row k) ((k, oR e sz f l) :: wH)) (hf : ∀ x, (f x).length = sz) : LAct P K o rT rH (aL sz f l) ((k, .dead) :: wH) := by
  intro C s a w hK hT hH hd hs
  refine Oper.wp_mono (fun a' w' hs' => ?_) (h C s a w hK hT hH hd hs)
  obtain ⟨hdf, hsz, E, hO, hR⟩ := hs'
  obtain ⟨E', hle, hO', hl⟩ := hO.frow (k := k) (lkH_cons_self _ _ _) (fun x _ => hf x)
  refine ⟨hdf, hsz, E', EOk_seq (fun q => ?_) hO', fun i => ?_⟩
  · show lkH ((k, .dead) :: (k, _) :: (wH ++ s.h)) q = lkH ((k, .dead) :: (wH ++ s.h)) q
    simp only [lkH]
    split <;> rfl
  · have hi := hR i
    cases hdst : o.dst with
    | none =>
      rw [hdst] at hi
      exact Rel.mono hle hi
    | some d =>
      rw [hdst] at hi
      simp only [putT, lkT] at hi ⊢
      split
      · rename_i e1
        rw [if_pos e1] at hi
        exact hl _ hi.1
      · rename_i e1
        rw [if_neg e1] at hi
        exact Rel.mono hle hi
theorem SA.frz {o : Oper} {t : List (Nat × AV)} {h : List (Nat × HS)} {rT : List (Nat × AV)} {rH wH : List (Nat × HS)} {k sz : Nat} {α : Type} {f : α → List D} {l : List α} {e : TypeId} (a : SA P K t h o rT rH (.row k) ((k, oR e sz f l) :: wH)) (hf : ∀ x, (f x).length = sz) : SA P K t h o rT rH (aL sz f l) ((k, .dead) :: wH) := ⟨a.act.frz hf, a.t, a.h⟩
def cs2 {α β γ : Type} (r : α ⊕ β) (f : α → Option γ) (g : β → Option γ) : Option γ := match r with
  | .inl a => f a
  | .inr b => g b
theorem csl {α β γ : Type} {a : α} {f : α → Option γ} {g : β → Option γ} {R : γ} (H : cs2 (.inl a) f g = some R) : f a = some R := H
theorem csr {α β γ : Type} {b : β} {f : α → Option γ} {g : β → Option γ} {R : γ} (H : cs2 (.inr b) f g = some R) : g b = some R := H
end Go.Proofs.YtgmpgoafokdcbaaGreatDoor.Sx
