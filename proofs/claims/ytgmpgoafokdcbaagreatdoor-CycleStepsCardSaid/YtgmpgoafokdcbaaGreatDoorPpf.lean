/- Plain specs: term.Check ends, and what it ensures. -/
import Derived.Test.YtgmpgoafokdcbaaGreatDoorPpe
set_option linter.unusedVariables false
set_option linter.unusedSimpArgs false
namespace Go.Proofs.YtgmpgoafokdcbaaGreatDoor.Sx
open Go Go.RowKit
mutual
def AllT (P : Term → Prop) : Term → Prop
  | ⟨a, b, c, d, e, l⟩ => P ⟨a, b, c, d, e, l⟩ ∧ AllTs P l
def AllTs (P : Term → Prop) : List Term → Prop
  | [] => True
  | x :: l => AllT P x ∧ AllTs P l
end
theorem allTs_iff (P : Term → Prop) : ∀ l : List Term, AllTs P l ↔ ∀ x ∈ l, AllT P x
  | [] => by simp [AllTs]
  | x :: l => by simp [AllTs, allTs_iff P l]
theorem allT_X (P : Term → Prop) (t : Term) : AllT P t ↔ P t ∧ ∀ x ∈ t.Sub, AllT P x := by
  cases t; simp [AllT, allTs_iff]
theorem rk_mem : ∀ {l : List Term} {x : Term}, x ∈ l → rankTerm x ≤ rankTerms l
  | y :: l, x, h => by
    simp only [rankTerms]
    rcases List.mem_cons.mp h with rfl | h
    · omega
    · have := rk_mem h; omega
theorem rk_sub {t x : Term} (h : x ∈ t.Sub) : rankTerm x < rankTerm t := by
  cases t with
  | mk a b c d e l => have : rankTerm x ≤ rankTerms l := rk_mem h; simp only [rankTerm]; omega
theorem rk_pos (t : Term) : 1 ≤ rankTerm t := by cases t; simp [rankTerm]
/-- what the types of a term ensure -/
def TyT (t : Term) : Prop := t.Sub.length ≤ 9223372036854775807 ∧ 0 ≤ t.Kind ∧ t.Kind ≤ 255 ∧ t.Name.size ≤ 9223372036854775807
abbrev GoodT (t : Term) : Prop := AllT TyT t
theorem good_sub {t : Term} (h : GoodT t) : t.Sub.length ≤ 9223372036854775807 ∧ ∀ (n : Nat) (x : Term), t.Sub[n]? = some x → GoodT x := by
  rw [GoodT, allT_X] at h
  exact ⟨h.1.1, fun n x hx => h.2 x (List.mem_of_getElem? hx)⟩
theorem visit_ok : ∀ (f : Nat) (t : Term) (c : Int), rankTerm t ≤ f → GoodT t → Ok (term_visit f t 0 c) (fun r => r.1 = true ∧ r.2.1 = 0) := by
  intro f
  induction f with
  | zero => intro t c h; have := rk_pos t; omega
  | succ f ih =>
    intro t c h hg
    obtain ⟨h1, h2⟩ := good_sub hg
    show Ok (term_visit_f (term_visit f) t 0 c) _
    simp only [term_visit_f, rg131_0_y, jn, show Nat.beq 0 0 = true from rfl, asr_t, Option.bind_some, Bool.not_true, cond_false]
    refine ok_lp t.Sub (fun n s => s.1 = (n : Int) ∧ s.2.1 = 0) ⟨rfl, rfl⟩ ?_ ?_
    · rintro n x ⟨v, fl, m⟩ rec hx ⟨h3, h4⟩ hr
      simp only at h3 h4; subst h3 h4
      have hn := lt_len hx
      simp only [term_visit_b2]
      rw [if_in hx, ix_some hx, Option.bind_some]
      refine ok_b (ih x m (by have := rk_sub (List.mem_of_getElem? hx); omega) (h2 n x hx)) ?_
      rintro ⟨a, b, d⟩ ⟨h5, h6⟩
      simp only at h5 h6; subst h5 h6
      simp only [Bool.not_true, cond_false]
      rw [w64_nat (by omega)]
      exact hr _ ⟨rfl, rfl⟩
    · rintro ⟨v, fl, m⟩ rec ⟨h3, h4⟩
      simp only at h3 h4; subst h3 h4
      simp only [term_visit_b2]
      rw [if_out]
      exact ok_s ⟨rfl, rfl⟩
theorem Size_ok (t : Term) (h : GoodT t) : ∃ n, term_Size t = some n := by
  unfold term_Size term_nodes term_nodes_1
  obtain ⟨⟨a, b, c⟩, e, h1, h2⟩ := visit_ok (rankTerm t) t 0 (Nat.le_refl _) h
  simp only at h1 h2; subst h1 h2
  simp only [Option.bind_some, e]
  exact ⟨c, rfl⟩
theorem Depth_ok : ∀ (f : Nat) (t : Term), rankTerm t ≤ f → GoodT t → Ok (term_Depth f t) (fun _ => True) := by
  intro f
  induction f with
  | zero => intro t h; have := rk_pos t; omega
  | succ f ih =>
    intro t h hg
    obtain ⟨h1, h2⟩ := good_sub hg
    show Ok (term_Depth_f (term_Depth f) t) _
    simp only [term_Depth_f, jn]
    refine ok_lp t.Sub (fun n s => s.2 = (n : Int)) rfl ?_ ?_
    · rintro n x ⟨m, v⟩ rec hx h3 hr
      simp only at h3; subst h3
      have hn := lt_len hx
      simp only [term_Depth_b2]
      rw [if_in hx, ix_some hx, Option.bind_some]
      refine ok_b (ih x (by have := rk_sub (List.mem_of_getElem? hx); omega) (h2 n x hx)) ?_
      rintro d _
      rw [w64_nat (by omega)]
      exact hr _ rfl
    · rintro ⟨m, v⟩ rec h3
      simp only at h3; subst h3
      simp only [term_Depth_b2]
      rw [if_out]
      exact ok_s trivial
/-! ### nodes -/
theorem Ok_eq (w x : Int) : ∃ b, bits_Ok w x = some b := by
  unfold bits_Ok bits_wide
  simp only [Option.bind_some, MaskP_eq]
  cases ((decide (1 ≤ w)) && (decide (w ≤ 64))) <;> exact ⟨_, rfl⟩
theorem variable_ok (s : ByteArray) (h : s.size ≤ 9223372036854775807) : ∃ b, term_variable s = some b := by
  unfold term_variable strings_TrimPrefix internal_stringslite_TrimPrefix internal_stringslite_HasPrefix
  have hs : ((⟨#[114, 46]⟩ : ByteArray).size : Int) = 2 := rfl
  rw [hs]
  by_cases h2 : (2 : Int) ≤ s.size
  · have e1 : decide ((2 : Int) ≤ (s.size : Int)) = true := by simp [h2]
    have e2 : subOk 0 2 (s.size : Int) = true := by simp [subOk, h2]
    have e3 : subOk 2 (s.size : Int) (s.size : Int) = true := by simp [subOk, h2]
    rw [e1, e2, e3]
    simp only [asr_t, Bool.or_true, Bool.true_and, Option.bind_some]
    cases sEq (sSub s 0 2) ⟨#[114, 46]⟩ <;> simp only [cond_true, cond_false, Option.bind_some, Name_eq] <;> exact ⟨_, rfl⟩
  · have e1 : decide ((2 : Int) ≤ (s.size : Int)) = false := by simp; omega
    rw [e1]
    simp only [Bool.true_and, Bool.false_and, show (!(false == true) || subOk 0 2 (s.size : Int)) = true from rfl, asr_t, Option.bind_some, cond_false, Name_eq]
    exact ⟨_, rfl⟩
theorem CF_ok (l : List Term) (w : Int) (h : l.length ≤ 9223372036854775807) : ∃ b, slices_ContainsFunc_api_Term_api_Term l w = some b := by
  unfold slices_ContainsFunc_api_Term_api_Term slices_IndexFunc_api_Term_api_Term
  simp only [jn]
  have : Ok (lp (slices_IndexFunc_api_Term_api_Term_b2 l w slices_IndexFunc_api_Term_api_Term_k1) (l.length + 1) 0) (fun _ => True) := by
    refine ok_lp l (fun n v => v = (n : Int)) rfl ?_ ?_
    · rintro n x v rec hx rfl hr
      have hn := lt_len hx
      simp only [slices_IndexFunc_api_Term_api_Term_b2, term_widths_1]
      rw [if_in hx, ix_some hx, Option.bind_some, Option.bind_some, w64_nat (by omega)]
      exact ok_if (fun _ => ok_s trivial) (fun _ => hr _ rfl)
    · rintro v rec rfl
      simp only [slices_IndexFunc_api_Term_api_Term_b2]
      rw [if_out]; exact ok_s trivial
  obtain ⟨r, e, _⟩ := this
  rw [e]; exact ⟨_, rfl⟩
theorem ok_g {α : Type} [Inhabited α] {c : Bool} {o : Option α} (h : c = true → ∃ r, o = some r) : ∃ r, (bif c then o else some default) = some r := by
  cases c with
  | true => exact h rfl
  | false => exact ⟨_, rfl⟩
theorem ix_ok {α : Type} {l : List α} {i : Int} (a : 0 ≤ i) (b : i < l.length) : ∃ x, ix l i = some x := by
  obtain ⟨x, h, _⟩ := ix_lt a b; exact ⟨x, h⟩
theorem ex_b {α β : Type} {o : Option β} {f : β → Option α} (h : ∃ r, o = some r) (k : ∀ r, ∃ x, f r = some x) : ∃ x, o.bind f = some x := by
  obtain ⟨r, rfl⟩ := h; exact k r
/-- the number of parts of each way -/
def partsOk (s : term_shape) : Bool := (s.how == 0) || (decide (1 ≤ s.parts) && ((s.how != 2) || decide (2 ≤ s.parts)) && ((s.how != 3) || decide (3 ≤ s.parts)) && ((s.how != 4) || decide (2 ≤ s.parts)))
theorem tab_parts : ∀ s ∈ tab0, 0 < s.parts → (1 ≤ s.how ∧ (s.how = 2 → 2 ≤ s.parts) ∧ (s.how = 3 → 3 ≤ s.parts) ∧ (s.how = 4 → 2 ≤ s.parts)) := by
  have : ∀ n : Nat, n < tab0.length → ∀ s, tab0[n]? = some s → 0 < s.parts → (1 ≤ s.how ∧ (s.how = 2 → 2 ≤ s.parts) ∧ (s.how = 3 → 3 ≤ s.parts) ∧ (s.how = 4 → 2 ≤ s.parts)) := by
    intro n hn
    have hn' : n < 25 := hn
    have : n = 0 ∨ n = 1 ∨ n = 2 ∨ n = 3 ∨ n = 4 ∨ n = 5 ∨ n = 6 ∨ n = 7 ∨ n = 8 ∨ n = 9 ∨ n = 10 ∨ n = 11 ∨ n = 12 ∨ n = 13 ∨ n = 14 ∨ n = 15 ∨ n = 16 ∨ n = 17 ∨ n = 18 ∨ n = 19 ∨ n = 20 ∨ n = 21 ∨ n = 22 ∨ n = 23 ∨ n = 24 := by omega
    rcases this with rfl | rfl | rfl | rfl | rfl | rfl | rfl | rfl | rfl | rfl | rfl | rfl | rfl | rfl | rfl | rfl | rfl | rfl | rfl | rfl | rfl | rfl | rfl | rfl | rfl <;> (intro s e; cases e; decide)
  intro s hs
  obtain ⟨i, hi, e⟩ := List.mem_iff_getElem.mp hs
  exact this i hi s (by rw [List.getElem?_eq_getElem hi, e])
theorem widths_ok (t : Term) (how parts : Int) (hl : (t.Sub.length : Int) = parts) (hb : t.Sub.length ≤ 9223372036854775807) (hp : 1 ≤ parts) (h2 : how = 2 → 2 ≤ parts) (h3 : how = 3 → 3 ≤ parts) (h4 : how = 4 → 2 ≤ parts) :
    ∃ b, term_widths t how = some b := by
  unfold term_widths term_wide term_loadable
  refine ex_b (ix_ok (by omega) (by omega)) fun x => ?_
  by_cases k1 : how = 1
  · subst k1
    simp only [show ((1 : Int) == 1) = true from rfl, cond_true]
    exact ex_b (CF_ok _ _ hb) fun _ => ⟨_, rfl⟩
  · rw [show (how == 1) = false by simp [k1], cond_false]
    by_cases k2 : how = 2
    · subst k2
      simp only [show ((2 : Int) == 2) = true from rfl, cond_true]
      exact ex_b (ok_g fun _ => ix_ok (by omega) (by have := h2 rfl; omega)) fun _ => ⟨_, rfl⟩
    · rw [show (how == 2) = false by simp [k2], cond_false]
      by_cases k3 : how = 3
      · subst k3
        simp only [show ((3 : Int) == 3) = true from rfl, cond_true]
        exact ex_b (ok_g fun _ => ix_ok (by omega) (by have := h3 rfl; omega)) fun _ => ex_b (ok_g fun _ => ix_ok (by omega) (by have := h3 rfl; omega)) fun _ => ⟨_, rfl⟩
      · rw [show (how == 3) = false by simp [k3], cond_false]
        by_cases k4 : how = 4
        · subst k4
          simp only [show ((4 : Int) == 4) = true from rfl, cond_true, Option.bind_some]
          refine ex_b (ok_g fun _ => ix_ok (by omega) (by have := h4 rfl; omega)) fun _ => ex_b (ok_g fun _ => ⟨_, rfl⟩) fun _ => ex_b (ok_g fun _ => ix_ok (by omega) (by have := h4 rfl; omega)) fun _ => ⟨_, rfl⟩
        · rw [show (how == 4) = false by simp [k4], cond_false]
          cases (how == 5)
          · rw [cond_false]
            cases (how == 6) <;> exact ⟨_, rfl⟩
          · rw [cond_true]
            exact ex_b (ok_g fun _ => ⟨_, rfl⟩) fun _ => ⟨_, rfl⟩
theorem node_ok (t : Term) (h : TyT t) : Ok (term_node t) (fun b => b = true → t.Kind = 24 → 0 < t.Sub.length) := by
  obtain ⟨h1, h2, h3, h4⟩ := h
  unfold term_node term_wide
  rw [Option.bind_some]
  refine ok_if (fun _ => ok_s (fun e => by cases e)) fun _ => ?_
  have hs : Ok (term_shaped t.Kind) (fun r => r.2 = true → 1 ≤ r.1.parts ∧ (r.1.how = 2 → 2 ≤ r.1.parts) ∧ (r.1.how = 3 → 3 ≤ r.1.parts) ∧ (r.1.how = 4 → 2 ≤ r.1.parts)) := by
    unfold term_shaped
    refine ok_if (fun _ => ok_s (fun e => by cases e)) fun hk => ?_
    simp only [decide_eq_false_iff_not] at hk
    obtain ⟨s, hs, hs'⟩ := ix_lt (l := tab0) h2 (by show t.Kind < 25; omega)
    rw [hs, Option.bind_some, Option.bind_some]
    refine ok_s fun e => ?_
    simp only [decide_eq_true_eq] at e
    have := tab_parts s (List.mem_of_getElem? hs') e
    exact ⟨by simp only; omega, this.2⟩
  have hk24 : t.Kind = 24 → (term_shaped t.Kind) = some (⟨⟨#[108, 111, 97, 100]⟩, 1, 7⟩, true) := by intro e; rw [e]; rfl
  obtain ⟨⟨s, b⟩, es, hb⟩ := hs
  rw [es, Option.bind_some]
  simp only at hb ⊢
  refine ok_if ?_ ?_
  · intro e
    simp only [Bool.not_eq_true'] at e
    subst e
    have hk : t.Kind ≠ 24 := by intro e; rw [hk24 e] at es; cases es
    obtain ⟨x, hx⟩ : ∃ x, (bif ((true && ((((t.Sub.length : Int) == 0) && (t.Low == 0)) == true)) && (((t.Kind == 1) && (sEq t.Name (⟨#[]⟩ : ByteArray))) == true)) then bits_Ok t.Width t.Bits else some default) = some x := ok_g fun _ => Ok_eq _ _
    rw [hx, Option.bind_some]
    obtain ⟨y, hy⟩ : ∃ y, (bif (((true && ((((t.Sub.length : Int) == 0) && (t.Low == 0)) == true)) && ((((t.Kind == 1) && (sEq t.Name (⟨#[]⟩ : ByteArray))) && x) == false)) && (((t.Kind == 2) && (t.Bits == 0)) == true)) then term_variable t.Name else some default) = some y := ok_g fun _ => variable_ok _ h4
    rw [hy, Option.bind_some]
    exact ok_s fun _ e => absurd e hk
  · intro e
    simp only [Bool.not_eq_false'] at e
    subst e
    have hp := hb rfl
    have : ∃ x, (bif (true && (((((t.Bits == 0) && (sEq t.Name (⟨#[]⟩ : ByteArray))) && ((t.Low == 0) || (s.how == 5))) && ((t.Sub.length : Int) == s.parts)) == true)) then term_widths t s.how else some default) = some x := by
      refine ok_g fun e => ?_
      simp only [Bool.true_and, Bool.and_eq_true, beq_iff_eq] at e
      exact widths_ok t s.how s.parts e.2 h1 hp.1 hp.2.1 hp.2.2.1 hp.2.2.2
    obtain ⟨x, hx⟩ := this
    rw [hx, Option.bind_some]
    refine ok_s fun e _ => ?_
    simp only [Bool.and_eq_true, beq_iff_eq] at e
    omega
end Go.Proofs.YtgmpgoafokdcbaaGreatDoor.Sx
