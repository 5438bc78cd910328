/- Plain rules: what an optional value answers; loops over an index. -/
import Derived.Test.YtgmpgoafokdcbaaGreatDoorOd
import Derived.IntWalk
set_option linter.unusedVariables false
set_option linter.unusedSimpArgs false
namespace Go.Proofs.YtgmpgoafokdcbaaGreatDoor.Sx
open Go Go.RowKit
/-! ### numbers -/
theorem w64_id {n : Int} (a : -9223372036854775808 ≤ n) (b : n ≤ 9223372036854775807) : w64 n = n := IntWalk.i64_in n ⟨a, b⟩
theorem w64_nat {n : Nat} (h : n < 9223372036854775807) : w64 ((n : Int) + 1) = ((n + 1 : Nat) : Int) := by
  rw [w64_id (by omega) (by omega)]; rfl
theorem ix_nat {α : Type} (l : List α) (n : Nat) : ix l (n : Int) = l[n]? := by
  unfold ix
  rw [if_neg (by omega)]; simp
theorem ix_some {α : Type} {l : List α} {n : Nat} {x : α} (h : l[n]? = some x) : ix l (n : Int) = some x := by rw [ix_nat, h]
theorem ix_lt {α : Type} {l : List α} {i : Int} (a : 0 ≤ i) (b : i < l.length) : ∃ x, ix l i = some x ∧ l[i.toNat]? = some x := by
  have hl : i.toNat < l.length := by omega
  refine ⟨l[i.toNat], ?_, List.getElem?_eq_getElem hl⟩
  unfold ix
  rw [if_neg (by omega), List.getElem?_eq_getElem hl]
theorem lt_len {α : Type} {l : List α} {n : Nat} {x : α} (h : l[n]? = some x) : n < l.length := (List.getElem?_eq_some_iff.mp h).1
theorem if_in {α β : Type} {l : List α} {n : Nat} {x : α} {a b : β} (h : l[n]? = some x) : (bif decide ((n : Int) < (l.length : Int)) then a else b) = a := by
  have := lt_len h
  simp [this]
theorem if_out {β : Type} {n : Nat} {a b : β} : (bif decide ((n : Int) < (n : Int)) then a else b) = b := by simp
theorem gd {α : Type} (x : Option α) (d : Option α) : (bif true then x else d) = x := rfl
theorem asr_t {ρ : Type} (x : Option ρ) : asr true x = x := rfl
theorem roomy_t {n b : Nat} (h : n ≤ 1000000) (hb : b ≤ 1000) : roomy n b = true := by
  have : n * b ≤ 1000000 * 1000 := Nat.mul_le_mul h hb
  simp only [roomy, Bool.and_eq_true, decide_eq_true_eq]; omega
/-! ### what an optional value answers -/
def Ok {α : Type} (o : Option α) (P : α → Prop) : Prop := ∃ r, o = some r ∧ P r
section
variable {α β : Type} {P : α → Prop} {Q : β → Prop}
theorem ok_s {a : α} (h : P a) : Ok (some a) P := ⟨a, rfl, h⟩
theorem ok_b {o : Option β} {f : β → Option α} (h : Ok o Q) (k : ∀ r, Q r → Ok (f r) P) : Ok (o.bind f) P := by
  obtain ⟨r, rfl, hr⟩ := h; exact k r hr
theorem ok_e {o : Option β} {f : β → Option α} {b : β} (h : o = some b) (k : Ok (f b) P) : Ok (o.bind f) P := by subst h; exact k
theorem ok_asr {c : Bool} {x : Option α} (h : c = true) (k : Ok x P) : Ok (asr c x) P := by subst h; exact k
theorem ok_if {c : Bool} {x y : Option α} (h : c = true → Ok x P) (k : c = false → Ok y P) : Ok (bif c then x else y) P := by
  cases c with
  | true => exact h rfl
  | false => exact k rfl
theorem ok_mono {o : Option α} {P' : α → Prop} (h : Ok o P) (k : ∀ r, P r → P' r) : Ok o P' := by
  obtain ⟨r, e, hr⟩ := h; exact ⟨r, e, k r hr⟩
theorem ok_eq {o : Option α} {a : α} (h : Ok o (fun r => r = a)) : o = some a := by
  obtain ⟨r, e, hr⟩ := h; rw [e, hr]
theorem eq_ok {o : Option α} {a : α} (h : o = some a) : Ok o (fun r => r = a) := ⟨a, h, rfl⟩
/-- a loop over a list by index -/
theorem ok_lp {σ γ : Type} (L : List γ) {body : (σ → Option α) → σ → Option α} {s : σ} (I : Nat → σ → Prop) (h0 : I 0 s)
    (step : ∀ n x s rec, L[n]? = some x → I n s → (∀ s', I (n + 1) s' → Ok (rec s') P) → Ok (body rec s) P)
    (last : ∀ s rec, I L.length s → Ok (body rec s) P) : Ok (lp body (L.length + 1) s) P := by
  have key : ∀ m n s, n + m = L.length → I n s → Ok (lp body (m + 1) s) P := by
    intro m
    induction m with
    | zero =>
      intro n s e h
      have : n = L.length := by omega
      subst this; exact last s _ h
    | succ m ih =>
      intro n s e h
      have hn : n < L.length := by omega
      exact step n L[n] s _ (List.getElem?_eq_getElem hn) h (fun s' h' => ih (n + 1) s' (by omega) h')
  exact key L.length 0 s (by omega) h0
/-- a loop with a number that gets less -/
theorem ok_lpn {σ : Type} {body : (σ → Option α) → σ → Option α} {m : Nat} {s : σ} (I : σ → Prop) (r : σ → Nat) (h0 : I s) (hr : r s < m)
    (step : ∀ s rec, I s → (∀ s', I s' → r s' < r s → Ok (rec s') P) → Ok (body rec s) P) : Ok (lp body m s) P := by
  induction m generalizing s with
  | zero => omega
  | succ m ih => exact step s _ h0 (fun s' h' hl => ih h' (by omega))
end
/-- a loop that steps through the elements of a list, with a state that the index gives -/
theorem lp_fold {σ α γ : Type} (L : List γ) {body : (σ → Option α) → σ → Option α} (st : Nat → σ) {R : Option α}
    (step : ∀ n x rec, L[n]? = some x → body rec (st n) = rec (st (n + 1))) (last : ∀ rec, body rec (st L.length) = R) : lp body (L.length + 1) (st 0) = R := by
  have key : ∀ m n, n + m = L.length → lp body (m + 1) (st n) = R := by
    intro m
    induction m with
    | zero =>
      intro n e
      have : n = L.length := by omega
      subst this; exact last _
    | succ m ih =>
      intro n e
      have hn : n < L.length := by omega
      show body (lp body (m + 1)) (st n) = R
      rw [step n L[n] _ (List.getElem?_eq_getElem hn)]
      exact ih (n + 1) (by omega)
  exact key L.length 0 (by omega)
/-- a loop that leaves at the first element of some kind -/
theorem lp_first {σ α γ : Type} (L : List γ) {body : (σ → Option α) → σ → Option α} (st : Nat → σ) (p : Nat → γ → Bool) {A B : Option α}
    (step : ∀ n x rec, L[n]? = some x → body rec (st n) = (bif p n x then A else rec (st (n + 1)))) (last : ∀ rec, body rec (st L.length) = B) :
    ((∃ n x, L[n]? = some x ∧ p n x = true) ∧ lp body (L.length + 1) (st 0) = A) ∨ ((∀ n x, L[n]? = some x → p n x = false) ∧ lp body (L.length + 1) (st 0) = B) := by
  have key : ∀ m n, n + m = L.length → (∀ i x, i < n → L[i]? = some x → p i x = false) →
      ((∃ n x, L[n]? = some x ∧ p n x = true) ∧ lp body (m + 1) (st n) = A) ∨ ((∀ n x, L[n]? = some x → p n x = false) ∧ lp body (m + 1) (st n) = B) := by
    intro m
    induction m with
    | zero =>
      intro n e hb
      have : n = L.length := by omega
      subst this
      exact .inr ⟨fun i x h => hb i x (lt_len h) h, last _⟩
    | succ m ih =>
      intro n e hb
      have hn : n < L.length := by omega
      have hx : L[n]? = some L[n] := List.getElem?_eq_getElem hn
      cases hp : p n L[n] with
      | true =>
        refine .inl ⟨⟨n, _, hx, hp⟩, ?_⟩
        show body (lp body (m + 1)) (st n) = A
        rw [step n L[n] _ hx, hp]; rfl
      | false =>
        have e1 : lp body (m + 1 + 1) (st n) = lp body (m + 1) (st (n + 1)) := by
          show body (lp body (m + 1)) (st n) = _
          rw [step n L[n] _ hx, hp]; rfl
        rw [e1]
        refine ih (n + 1) (by omega) ?_
        intro i x hi h
        by_cases hin : i = n
        · subst hin; rw [hx] at h; cases h; exact hp
        · exact hb i x (by omega) h
  exact key L.length 0 (by omega) (fun i x h => absurd h (Nat.not_lt_zero i))
end Go.Proofs.YtgmpgoafokdcbaaGreatDoor.Sx
