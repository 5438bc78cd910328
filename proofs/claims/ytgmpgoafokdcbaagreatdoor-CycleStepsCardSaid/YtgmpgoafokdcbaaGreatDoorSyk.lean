/- More words: appends of open lists to nil. -/
import Derived.Test.YtgmpgoafokdcbaaGreatDoorSyj
set_option linter.unusedVariables false
namespace Go.Proofs.YtgmpgoafokdcbaaGreatDoor.Sx
open Go Go.RowKit
variable {P : Program} {K : GL}
section
variable {dst : Option Tmp} {ty : TypeId} {pos : String} {after : Array Edge} {g : Option (Nat × Bool)} {t : List (Nat × AV)} {h : List (Nat × HS)}
end
theorem EOk.fcells {C : Cx} {E : Env} {h : List (Nat × HS)} {w : World} {k : Nat} {ct : TypeId} {cs : List D} (hO : EOk C E h w) (hk : lkH h k = oD ct cs) :
    ∃ E', Env.le E E' ∧ EOk C E' ((k, .dead) :: h) w ∧ ∃ b, E.φ k = some (.pointer (some ⟨b, 0, none⟩)) ∧ cellsAt E'.F ⟨b, 0, none⟩ cs := by
  have hs := hO.hs k
  rw [hk] at hs
  obtain ⟨v, hv, ⟨g, vs, rfl, hw, hr, h1⟩, hb⟩ := hs
  have drop : ∀ {E' : Env}, E'.φ = E.φ → FH.le E.F E'.F → (∀ b o, E'.F b = some o → w.heap[b]? = some o ∧ (C.F0 b = some o ∨ C.w0.heap.size ≤ b ∨ C.own b)) → (∀ i o x b, i ≠ k → lkH h i = .live o → E.φ i = some x → oblk w o x b → E'.F b = none) → EOk C E' ((k, .dead) :: h) w := by
    intro E' eφ eF hz hn
    have hle : Env.le E E' := ⟨eF, fun i x e => by rw [eφ]; exact e⟩
    refine ⟨FH.le_trans hO.f0 eF, fun i x e => by rw [eφ]; exact hO.hd i x e, fun b o e => (hz b o e).1, fun b o e => (hz b o e).2, fun i => ?_, ?_, hO.w, fun i ds e => cellsAt_le eF (hO.g i ds e)⟩
    · by_cases hi : i = k
      · subst hi; rw [lkH_cons_self]; trivial
      · rw [lkH_cons_ne _ _ hi]
        have := hO.hs i
        cases hl : lkH h i with
        | fresh => rw [hl] at this; show E'.φ i = none; rw [eφ]; exact this
        | dead => trivial
        | live o =>
          rw [hl] at this
          obtain ⟨x, hx, hor, hbb⟩ := this
          exact ⟨x, by rw [eφ]; exact hx, hor.mono hle, fun b hb' => ⟨hn i o x b hi hl hx hb', (hbb b hb').2⟩⟩
    · intro i j oi oj hi hj b li lj ei ej bi bj
      have ne : ∀ {i oi}, lkH ((k, .dead) :: h) i = .live oi → lkH h i = .live oi := by
        intro i oi li
        by_cases hi : i = k
        · subst hi; rw [lkH_cons_self] at li; cases li
        · rwa [lkH_cons_ne _ _ hi] at li
      rw [eφ] at ei ej
      exact hO.inj i j oi oj hi hj b (ne li) (ne lj) ei ej bi bj
  have hFb : E.F g = none := (hb g rfl).1
  have hown := (hb g rfl).2
  refine ⟨E.frz g (.cells vs.toArray ct (0, 0)), E.frz_le _ hFb, drop rfl (E.frz_le _ hFb).1 (fun b o hbo => ?_) (fun i o x b hi hl hx hb' => ?_), g, hv, fun j d hj => ?_⟩
  · simp only [Env.frz] at hbo
    split at hbo
    · rename_i hbg
      cases hbo
      subst hbg
      exact ⟨hw, by rcases hown with h2 | h2; exact .inr (.inr h2); exact .inr (.inl h2)⟩
    · exact ⟨hO.fz b o hbo, hO.fn b o hbo⟩
  · have := hO.hs i
    rw [hl] at this
    obtain ⟨x', hx', _, hbb⟩ := this
    rw [hx] at hx'; cases hx'
    have hne : b ≠ g := by
      rintro rfl
      exact hi (hO.inj i k _ _ x _ b hl hk hx hv hb' rfl)
    simp only [Env.frz, if_neg hne]
    exact (hbb b hb').1
  · obtain ⟨u, hu', hd⟩ := rels_datas hr _ _ hj
    refine ⟨u, ?_, d.mono (E.frz_le _ hFb).1 hd⟩
    have hadd : (⟨g, 0, none⟩ : Addr).add j = ⟨g, j, none⟩ := by
      unfold Addr.add; split <;> simp_all
    rw [hadd]
    unfold fcell
    simp only [Env.frz, if_true]
    simpa using hu'
section
variable {np : Nat} {t : List (Nat × AV)} {h : List (Nat × HS)} {k d : Nat}
theorem fzb {ct : TypeId} {cs : List D} (hx : lk t d = some (.ptr k 0)) (hh : hp h k = some (oD ct cs)) : Ent np ⟨t, h⟩ ⟨(d, aP cs) :: t, (k, .dead) :: h⟩ := by
  intro C hn a w hs
  obtain ⟨hdf, hsz, E, hO, hR⟩ := hs
  obtain ⟨E', hle, hO', b, hb, hl⟩ := hO.fcells (hp_lk hh)
  refine ⟨hdf, hsz, E', hO', fun i => ?_⟩
  simp only [lkT]
  split
  · rename_i e
    subst e
    have := hR d
    rw [lk_lk hx] at this
    obtain ⟨b', hb', hv⟩ := this
    rw [hb] at hb'
    cases hb'
    exact ⟨_, hv, hl⟩
  · exact Rel.mono hle (hR i)
end
theorem LAct.frz {o : Oper} {rT : List (Nat × AV)} {rH wH : List (Nat × HS)} {k sz : Nat} {α : Type} {f : α → List D} {l : List α} {e : TypeId} (h : LAct P K o rT rH (.row k) ((k, oR e sz f l) :: wH)) (hf : ∀ x, (f x).length = sz) : LAct P K o rT rH (aL sz f l) ((k, .dead) :: wH) := by
  intro C s a w hK hT hH hd hs
  refine Oper.wp_mono (fun a' w' hs' => ?_) (h C s a w hK hT hH hd hs)
  obtain ⟨hdf, hsz, E, hO, hR⟩ := hs'
  obtain ⟨E', hle, hO', hl⟩ := hO.frow (k := k) (lkH_cons_self _ _ _) (fun x _ => hf x)
  refine ⟨hdf, hsz, E', EOk_seq (fun q => ?_) hO', fun i => ?_⟩
  · show lkH ((k, .dead) :: (k, _) :: (wH ++ s.h)) q = lkH ((k, .dead) :: (wH ++ s.h)) q
    simp only [lkH]
    split <;> rfl
  · have hi := hR i
    cases hdst : o.dst with
    | none =>
      rw [hdst] at hi
      exact Rel.mono hle hi
    | some d =>
      rw [hdst] at hi
      simp only [putT, lkT] at hi ⊢
      split
      · rename_i e1
        rw [if_pos e1] at hi
        exact hl _ hi.1
      · rename_i e1
        rw [if_neg e1] at hi
        exact Rel.mono hle hi
theorem SA.frz {o : Oper} {t : List (Nat × AV)} {h : List (Nat × HS)} {rT : List (Nat × AV)} {rH wH : List (Nat × HS)} {k sz : Nat} {α : Type} {f : α → List D} {l : List α} {e : TypeId} (a : SA P K t h o rT rH (.row k) ((k, oR e sz f l) :: wH)) (hf : ∀ x, (f x).length = sz) : SA P K t h o rT rH (aL sz f l) ((k, .dead) :: wH) := ⟨a.act.frz hf, a.t, a.h⟩
def cs2 {α β γ : Type} (r : α ⊕ β) (f : α → Option γ) (g : β → Option γ) : Option γ := match r with
  | .inl a => f a
  | .inr b => g b
theorem csl {α β γ : Type} {a : α} {f : α → Option γ} {g : β → Option γ} {R : γ} (H : cs2 (.inl a) f g = some R) : f a = some R := H
theorem csr {α β γ : Type} {b : β} {f : α → Option γ} {g : β → Option γ} {R : γ} (H : cs2 (.inr b) f g = some R) : g b = some R := H
end Go.Proofs.YtgmpgoafokdcbaaGreatDoor.Sx
