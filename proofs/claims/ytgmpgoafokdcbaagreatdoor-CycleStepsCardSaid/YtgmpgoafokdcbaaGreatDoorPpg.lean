/- Plain specs: term.Check, leaves, fits. -/
import Derived.Test.YtgmpgoafokdcbaaGreatDoorPpf
set_option linter.unusedVariables false
set_option linter.unusedSimpArgs false
namespace Go.Proofs.YtgmpgoafokdcbaaGreatDoor.Sx
open Go Go.RowKit
/-- a node whose load has a part -/
def LoadT (t : Term) : Prop := t.Kind = 24 → 0 < t.Sub.length
theorem visit2_ok : ∀ (f : Nat) (t : Term) (c : Int), rankTerm t ≤ f → GoodT t →
    Ok (term_visit_2 f t 0 c) (fun r => (r = (true, 0, c) ∧ AllT LoadT t) ∨ r = (false, 2, 8)) := by
  intro f
  induction f with
  | zero => intro t c h; have := rk_pos t; omega
  | succ f ih =>
    intro t c h hg
    obtain ⟨h1, h2⟩ := good_sub hg
    have ht : TyT t := ((allT_X _ _).mp hg).1
    show Ok (term_visit_2_f (term_visit_2 f) t 0 c) _
    simp only [term_visit_2_f, rg128_1_y, jn, show Nat.beq 0 0 = true from rfl, asr_t]
    obtain ⟨b, e, hb⟩ := node_ok t ht
    rw [e, Option.bind_some]
    cases b with
    | false => exact ok_s (.inr rfl)
    | true =>
      simp only [Bool.not_true, cond_false, Option.bind_some, show Nat.beq 0 0 = true from rfl]
      refine ok_lp t.Sub (fun n s => s = ((n : Int), 0, c) ∧ ∀ k x, k < n → t.Sub[k]? = some x → AllT LoadT x) ⟨rfl, fun k x hk => absurd hk (Nat.not_lt_zero k)⟩ ?_ ?_
      · rintro n x s rec hx ⟨rfl, ha⟩ hr
        have hn := lt_len hx
        simp only [term_visit_2_b2]
        rw [if_in hx, ix_some hx, Option.bind_some]
        obtain ⟨r, e, hr'⟩ := ih x c (by have := rk_sub (List.mem_of_getElem? hx); omega) (h2 n x hx)
        rw [e, Option.bind_some]
        rcases hr' with ⟨rfl, hA⟩ | rfl
        · simp only [Bool.not_true, cond_false]
          rw [w64_nat (by omega)]
          refine hr _ ⟨rfl, fun k y hk hy => ?_⟩
          by_cases e : k = n
          · subst e; rw [hx] at hy; cases hy; exact hA
          · exact ha k y (by omega) hy
        · simp only [Bool.not_false, cond_true]
          exact ok_s (.inr rfl)
      · rintro s rec ⟨rfl, ha⟩
        simp only [term_visit_2_b2]
        rw [if_out]
        refine ok_s (.inl ⟨rfl, ?_⟩)
        rw [allT_X]
        refine ⟨hb rfl, fun x hx => ?_⟩
        obtain ⟨i, hi, e⟩ := List.mem_iff_getElem.mp hx
        exact ha i x hi (by rw [List.getElem?_eq_getElem hi, e])
theorem visit3_ok : ∀ (f : Nat) (t : Term) (b : Bool) (m : List (ByteArray × Int)), rankTerm t ≤ f → GoodT t →
    Ok (term_visit_3 f t 0 b m) (fun r => (r.1 = true ∧ r.2.1 = 0) ∨ (r.1 = false ∧ r.2.1 = 2)) := by
  intro f
  induction f with
  | zero => intro t b m h; have := rk_pos t; omega
  | succ f ih =>
    intro t b m h hg
    obtain ⟨h1, h2⟩ := good_sub hg
    show Ok (term_visit_3_f (term_visit_3 f) t 0 b m) _
    simp only [term_visit_3_f, rg135_2_y, jn, show Nat.beq 0 0 = true from rfl, asr_t]
    have key : ∀ (b : Bool) (m : List (ByteArray × Int)), Ok (lp (term_visit_3_b2 t (term_visit_3 f) term_visit_3_k1) (t.Sub.length + 1) (0, 0, b, m)) (fun r => (r.1 = true ∧ r.2.1 = 0) ∨ (r.1 = false ∧ r.2.1 = 2)) := by
      intro b m
      refine ok_lp t.Sub (fun n s => s.1 = (n : Int) ∧ s.2.1 = 0) ⟨rfl, rfl⟩ ?_ ?_
      · rintro n x ⟨v, fl, b, m⟩ rec hx ⟨h3, h4⟩ hr
        simp only at h3 h4; subst h3 h4
        have hn := lt_len hx
        simp only [term_visit_3_b2]
        rw [if_in hx, ix_some hx, Option.bind_some]
        obtain ⟨⟨r1, r2, r3, r4⟩, e, hr'⟩ := ih x b m (by have := rk_sub (List.mem_of_getElem? hx); omega) (h2 n x hx)
        rw [e, Option.bind_some]
        simp only at hr' ⊢
        rcases hr' with ⟨rfl, rfl⟩ | ⟨rfl, rfl⟩
        · simp only [Bool.not_true, cond_false]
          rw [w64_nat (by omega)]
          exact hr _ ⟨rfl, rfl⟩
        · exact ok_s (.inr ⟨rfl, rfl⟩)
      · rintro ⟨v, fl, b, m⟩ rec ⟨h3, h4⟩
        simp only at h3 h4; subst h3 h4
        simp only [term_visit_3_b2]
        rw [if_out]
        exact ok_s (.inl ⟨rfl, rfl⟩)
    cases (t.Kind != 2) with
    | true => exact key b m
    | false =>
      rw [cond_false]
      cases ((mGet m t.Name).isSome && ((mGet m t.Name).getD 0 != t.Width)) with
      | true => exact ok_s (.inr ⟨rfl, rfl⟩)
      | false => exact key b (mSet m t.Name t.Width)
theorem TCheck_ok (t : Term) (h : GoodT t) : Ok (term_Check t) (fun e => e = 0 → AllT LoadT t) := by
  unfold term_Check
  obtain ⟨n, e⟩ := Size_ok t h
  rw [e, Option.bind_some]
  refine ok_b (Q := fun _ => True) ?_ ?_
  · cases decide (400 < n) with
    | true => exact ok_s trivial
    | false => exact Depth_ok _ t (Nat.le_refl _) h
  · intro d _
    refine ok_if (fun _ => ok_s (fun e => absurd e (by decide))) fun _ => ?_
    unfold term_nodes term_nodes_1_2
    simp only [Option.bind_some]
    obtain ⟨r, e, hr⟩ := visit2_ok (rankTerm t) t 0 (Nat.le_refl _) h
    rw [e]
    rcases hr with ⟨rfl, hA⟩ | rfl
    · simp only [Option.bind_some, show Nat.beq 0 0 = true from rfl, cond_true]
      unfold term_variables term_nodes term_nodes_1_3
      simp only [Option.bind_some]
      obtain ⟨⟨r1, r2, r3, r4⟩, e, hr⟩ := visit3_ok (rankTerm t) t false [] (Nat.le_refl _) h
      rw [e]
      simp only at hr
      simp only [Option.bind_some]
      rcases hr with ⟨rfl, rfl⟩ | ⟨rfl, rfl⟩
      · exact ok_s fun _ => hA
      · simp only [show Nat.beq 2 0 = false from rfl, show Nat.beq 2 2 = true from rfl, cond_false, asr_t, Option.bind_some]
        cases r3 with
        | true => exact ok_s fun _ => hA
        | false => exact ok_s fun e => absurd e (by decide)
    · exact ok_s fun e => absurd e (by decide)
/-- a node that fits the variables -/
def LeafT (M : Machine) (m : List (ByteArray × Int)) (t : Term) : Prop :=
  (t.Kind = 2 → (mGet m t.Name).getD 0 = t.Width) ∧ (t.Kind = 24 → ∃ x, t.Sub[0]? = some x ∧ x.Width = M.Address)
theorem leaves_ok : ∀ (f : Nat) (t : Term) (c : machine_checker) (m : List (ByteArray × Int)), rankTerm t ≤ f → GoodT t → AllT LoadT t →
    Ok (machine_checker_leaves f c m t) (fun r => r.1.Machine = c.Machine ∧ r.2 = m ∧ (r.1.ok = true ↔ c.ok = true ∧ AllT (LeafT c.Machine m) t)) := by
  intro f
  induction f with
  | zero => intro t c m h; have := rk_pos t; omega
  | succ f ih =>
    intro t c m h hg hA
    obtain ⟨h1, h2⟩ := good_sub hg
    rw [allT_X] at hA
    obtain ⟨hA1, hA2⟩ := hA
    show Ok (machine_checker_leaves_f (machine_checker_leaves f) c m t) _
    simp only [machine_checker_leaves_f, jn]
    have key : ∀ b : Bool, (b = true ↔ c.ok = true ∧ LeafT c.Machine m t) → Ok (machine_checker_leaves_k1 m t (machine_checker_leaves f) ⟨c.Machine, b⟩)
        (fun r => r.1.Machine = c.Machine ∧ r.2 = m ∧ (r.1.ok = true ↔ c.ok = true ∧ AllT (LeafT c.Machine m) t)) := by
      intro b hb
      simp only [machine_checker_leaves_k1]
      refine ok_lp t.Sub (fun n s => s.1 = (n : Int) ∧ s.2.1.Machine = c.Machine ∧ s.2.2 = m ∧ (s.2.1.ok = true ↔ (c.ok = true ∧ LeafT c.Machine m t) ∧ Till t.Sub n (fun _ => AllT (LeafT c.Machine m)))) ⟨rfl, rfl, rfl, by simp [till_zero, hb]⟩ ?_ ?_
      · rintro n x ⟨v, ⟨M, b⟩, m'⟩ rec hx ⟨h3, h4, h5, h6⟩ hr
        simp only at h3 h4 h5 h6; subst h3 h4 h5
        have hn := lt_len hx
        simp only [machine_checker_leaves_b2]
        rw [if_in hx, ix_some hx, Option.bind_some]
        obtain ⟨⟨c', m''⟩, e, h7, h8, h9⟩ := ih x ⟨c.Machine, b⟩ m' (by have := rk_sub (List.mem_of_getElem? hx); omega) (h2 n x hx) (hA2 x (List.mem_of_getElem? hx))
        rw [e, Option.bind_some, w64_nat (by omega)]
        simp only at h7 h8 h9
        refine hr _ ⟨rfl, h7, h8, ?_⟩
        rw [h9, h6, till_step hx, and_assoc]
      · rintro ⟨v, c', m'⟩ rec ⟨h3, h4, h5, h6⟩
        simp only at h3 h4 h5 h6; subst h3 h5
        simp only [machine_checker_leaves_b2]
        rw [if_out]
        refine ok_s ⟨h4, rfl, ?_⟩
        rw [h6, till_end, allT_X, and_assoc]
        refine and_congr_right fun _ => and_congr_right fun _ => ?_
        constructor
        · intro h x hx
          obtain ⟨i, hi, e⟩ := List.mem_iff_getElem.mp hx
          exact h i x (by rw [List.getElem?_eq_getElem hi, e])
        · intro h k x hx; exact h x (List.mem_of_getElem? hx)
    by_cases k2 : t.Kind = 2
    · rw [show (t.Kind == 2) = true by simp [k2], cond_true, must1, Option.bind_some]
      refine key _ ?_
      simp only [Bool.and_eq_true, beq_iff_eq, LeafT, k2]
      simp
    · rw [show (t.Kind == 2) = false by simp [k2], cond_false]
      by_cases k24 : t.Kind = 24
      · rw [show (t.Kind == 24) = true by simp [k24], cond_true]
        have hl := hA1 k24
        obtain ⟨x, hx⟩ : ∃ x, t.Sub[0]? = some x := ⟨t.Sub[0], List.getElem?_eq_getElem hl⟩
        rw [show (0 : Int) = ((0 : Nat) : Int) from rfl, ix_some hx, Option.bind_some, must1, Option.bind_some]
        refine key _ ?_
        simp only [Bool.and_eq_true, beq_iff_eq, LeafT, k24, hx]
        simp
      · rw [show (t.Kind == 24) = false by simp [k24], cond_false]
        refine key c.ok ?_
        simp [LeafT, k2, k24]
/-- terms that fit an instruction with these variables -/
def FitT (M : Machine) (m : List (ByteArray × Int)) (t : Term) : Prop := term_Check t = some 0 ∧ AllT (LeafT M m) t
theorem fits1_ok (c : machine_checker) (m : List (ByteArray × Int)) (t : Term) (h : GoodT t) :
    Ok (machine_checker_fits c m [t]) (fun r => r.1.Machine = c.Machine ∧ r.2 = m ∧ (r.1.ok = true ↔ c.ok = true ∧ FitT c.Machine m t)) := by
  show Ok (machine_checker_fits_b1 [t] (lp (machine_checker_fits_b1 [t]) 1) (0, c, m)) _
  simp only [machine_checker_fits_b1]
  rw [show decide ((0 : Int) < ([t].length : Int)) = true from rfl, show ix [t] 0 = some t from rfl, cond_true, Option.bind_some]
  obtain ⟨e, he, hL⟩ := TCheck_ok t h
  rw [he, Option.bind_some, must1, Option.bind_some]
  refine ok_if ?_ ?_
  · intro hb
    simp only [Bool.not_eq_true'] at hb
    refine ok_s ⟨rfl, rfl, ?_⟩
    simp only [hb, Bool.false_eq_true, false_iff]
    rintro ⟨h1, h2, _⟩
    rw [he] at h2; cases h2
    rw [h1] at hb; cases hb
  · intro hb
    simp only [Bool.not_eq_false', Bool.and_eq_true, beq_iff_eq] at hb
    obtain ⟨h1, h2⟩ := hb
    subst h2
    refine ok_b (leaves_ok (rankTerm t) t _ m (Nat.le_refl _) h (hL rfl)) ?_
    rintro ⟨c', m'⟩ ⟨h7, h8, h9⟩
    simp only at h7 h8 h9; subst h8
    show Ok (machine_checker_fits_b1 [t] _ (1, c', m')) _
    simp only [machine_checker_fits_b1]
    refine ok_s ⟨h7, rfl, ?_⟩
    rw [h9]
    simp only [Bool.and_eq_true, beq_iff_eq, FitT, he]
    simp
end Go.Proofs.YtgmpgoafokdcbaaGreatDoor.Sx
