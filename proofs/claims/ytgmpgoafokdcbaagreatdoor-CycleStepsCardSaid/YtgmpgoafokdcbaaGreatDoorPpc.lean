/- Plain specs: machine.regs, banks, units. -/
import Derived.Test.YtgmpgoafokdcbaaGreatDoorPpb
set_option linter.unusedVariables false
set_option linter.unusedSimpArgs false
namespace Go.Proofs.YtgmpgoafokdcbaaGreatDoor.Sx
open Go Go.RowKit
def Till {γ : Type} (L : List γ) (n : Nat) (P : Nat → γ → Prop) : Prop := ∀ k y, k < n → L[k]? = some y → P k y
def Each {γ : Type} (L : List γ) (P : Nat → γ → Prop) : Prop := ∀ k y, L[k]? = some y → P k y
theorem till_zero {γ : Type} {L : List γ} {P : Nat → γ → Prop} : Till L 0 P := fun _ _ h => absurd h (Nat.not_lt_zero _)
theorem till_step {γ : Type} {L : List γ} {P : Nat → γ → Prop} {n : Nat} {x : γ} (hx : L[n]? = some x) : Till L (n + 1) P ↔ Till L n P ∧ P n x := by
  refine ⟨fun h => ⟨fun k y hk hy => h k y (by omega) hy, h n x (by omega) hx⟩, fun h k y hk hy => ?_⟩
  by_cases e : k = n
  · subst e; rw [hx] at hy; cases hy; exact h.2
  · exact h.1 k y (by omega) hy
theorem till_end {γ : Type} {L : List γ} {P : Nat → γ → Prop} : Till L L.length P ↔ Each L P := ⟨fun h k y hy => h k y (lt_len hy) hy, fun h k y _ hy => h k y hy⟩
theorem take_map_succ {γ δ : Type} {L : List γ} {n : Nat} {x : γ} (hx : L[n]? = some x) (f : γ → δ) : (L.take (n + 1)).map f = (L.take n).map f ++ [f x] := by
  rw [List.take_add_one, hx]; simp
theorem take_len {γ : Type} {L : List γ} {n : Nat} : (L.take n).length ≤ L.length := by rw [List.length_take]; omega
section
open Classical
def RegP (M : Machine) (i : Nat) (r : MachReg) : Prop :=
  (Named r.Name ∧ r.Name ∉ (M.Regs.take i).map (·.Name)) ∧ (1 ≤ r.Width ∧ r.Width ≤ 64) ∧
  ((r.Of = -1 ∧ r.Low = 0) ∨ (0 ≤ r.Of ∧ r.Of < M.Regs.length ∧ ∃ root, M.Regs[r.Of.toNat]? = some root ∧ root.Of = -1 ∧ r.Width < root.Width ∧ (1 ≤ root.Width ∧ root.Width ≤ 64) ∧ 0 ≤ r.Low ∧ r.Low ≤ root.Width - r.Width))
def RegsP (M : Machine) : Prop := 0 < M.Regs.length ∧ Each M.Regs (RegP M)
theorem okand {a b c d : Bool} (h : c = d) : (a && b && c) = (a && (b && d)) := by rw [h, Bool.and_assoc]
theorem regs_eq (c : machine_checker) (hl : c.Machine.Regs.length ≤ 1000) : machine_checker_regs c = some ⟨c.Machine, c.ok && decide (RegsP c.Machine)⟩ := by
  unfold machine_checker_regs
  rw [must1, Option.bind_some]
  have := lp_fold (σ := Int × machine_checker × List ByteArray) (body := machine_checker_regs_b1 ⟨c.Machine, c.ok && decide (0 < (c.Machine.Regs.length : Int))⟩)
    (R := some ⟨c.Machine, c.ok && decide (RegsP c.Machine)⟩) c.Machine.Regs
    (fun n => ((n : Int), ⟨c.Machine, (c.ok && decide (0 < (c.Machine.Regs.length : Int))) && decide (Till c.Machine.Regs n (RegP c.Machine))⟩, (c.Machine.Regs.take n).map (·.Name))) ?_ ?_
  · simpa [till_zero] using this
  · intro n r rec hx
    have hn := lt_len hx
    simp only [machine_checker_regs_b1, jn]
    rw [if_in hx, ix_some hx, Option.bind_some, fresh_eq _ _ (by have := @take_len _ c.Machine.Regs n; simp only [List.length_map]; omega), Option.bind_some, within_eq, Option.bind_some, must2, Option.bind_some]
    rw [take_map_succ hx, ← w64_nat (n := n) (by omega)]
    simp only [till_step hx]
    by_cases h1 : r.Of = -1
    · have e1 : (r.Of == -1) = true := by simp [h1]
      rw [e1, cond_true, must1, Option.bind_some]
      simp only [machine_checker_regs_k2]
      congr 4
      rw [Bool.eq_iff_iff]
      simp [RegP, h1, Bool.and_eq_true, and_assoc]
    · have e1 : (r.Of == -1) = false := by simp [h1]
      rw [e1, cond_false, within_eq, Option.bind_some, w64_id (by omega) (by omega)]
      by_cases h2 : 0 ≤ r.Of ∧ r.Of ≤ (c.Machine.Regs.length : Int) - 1
      · obtain ⟨root, hr, hr'⟩ := ix_lt (l := c.Machine.Regs) h2.1 (by omega)
        rw [decide_eq_true h2, Bool.not_true, cond_false, hr, Option.bind_some, within_eq, Option.bind_some, within_eq, Option.bind_some, must4, Option.bind_some]
        simp only [machine_checker_regs_k2]
        congr 4
        rw [Bool.eq_iff_iff]
        by_cases hw : (1 ≤ root.Width ∧ root.Width ≤ 64) ∧ 1 ≤ r.Width ∧ r.Width ≤ 64
        · rw [w64_id (by omega) (by omega)]
          have : r.Of < (c.Machine.Regs.length : Int) := by omega
          obtain ⟨hlt, heq⟩ := List.getElem?_eq_some_iff.mp hr'
          simp [RegP, h1, h2.1, this, hr', heq, Bool.and_eq_true, and_assoc]
        · have : ¬ RegP c.Machine n r := by
            rintro ⟨_, b, c⟩
            rcases c with c | ⟨_, _, root', hr'', c⟩
            · exact h1 c.1
            · rw [hr'] at hr''; cases hr''
              exact hw ⟨c.2.2.1, b⟩
          simp only [this, Bool.and_eq_true, decide_eq_true_eq, and_false, iff_false, not_and]
          intros; omega
      · rw [decide_eq_false h2, Bool.not_false, cond_true, must1, Option.bind_some]
        simp only [machine_checker_regs_k2]
        congr 4
        rw [Bool.eq_iff_iff]
        have : ¬ RegP c.Machine n r := by
          rintro ⟨_, b, c⟩
          rcases c with c | ⟨_, _, c⟩
          · exact h1 c.1
          · omega
        simp [this]
  · intro rec
    simp only [machine_checker_regs_b1]
    rw [if_out]
    congr 2
    rw [Bool.eq_iff_iff]
    simp only [Bool.and_eq_true, decide_eq_true_eq]
    simp [RegsP, till_end, and_assoc]
def BankReg (M : Machine) (b : MachBank) (i : Nat) (r : Int) : Prop :=
  (0 ≤ r ∧ r < M.Regs.length) ∧ r ∉ b.Regs.take i ∧ ∃ x y z, M.Regs[r.toNat]? = some x ∧ b.Regs[0]? = some y ∧ M.Regs[y.toNat]? = some z ∧ x.Width = z.Width
def BankP (M : Machine) (i : Nat) (b : MachBank) : Prop :=
  (Named b.Name ∧ b.Name ∉ (M.Banks.take i).map (·.Name)) ∧ 0 < b.Regs.length ∧ Each b.Regs (BankReg M b)
def BanksP (M : Machine) : Prop := Each M.Banks (BankP M)
def UnitP (M : Machine) (i : Nat) (u : MachUnit) : Prop := (Named u.Name ∧ u.Name ∉ (M.Units.take i).map (·.Name)) ∧ 1 ≤ u.Count ∧ u.Count ≤ 4
def UnitsP (M : Machine) : Prop := 0 < M.Units.length ∧ Each M.Units (UnitP M)
theorem units_eq (c : machine_checker) (hl : c.Machine.Units.length ≤ 1000) : machine_checker_units c = some ⟨c.Machine, c.ok && decide (UnitsP c.Machine)⟩ := by
  unfold machine_checker_units
  rw [must1, Option.bind_some]
  have := lp_fold (σ := Int × machine_checker × List ByteArray) (body := machine_checker_units_b1 ⟨c.Machine, c.ok && decide (0 < (c.Machine.Units.length : Int))⟩)
    (R := some ⟨c.Machine, c.ok && decide (UnitsP c.Machine)⟩) c.Machine.Units
    (fun n => ((n : Int), ⟨c.Machine, (c.ok && decide (0 < (c.Machine.Units.length : Int))) && decide (Till c.Machine.Units n (UnitP c.Machine))⟩, (c.Machine.Units.take n).map (·.Name))) ?_ ?_
  · simpa [till_zero] using this
  · intro n r rec hx
    have hn := lt_len hx
    simp only [machine_checker_units_b1, jn]
    rw [if_in hx, ix_some hx, Option.bind_some, fresh_eq _ _ (by have := @take_len _ c.Machine.Units n; simp only [List.length_map]; omega), Option.bind_some, within_eq, Option.bind_some, must2, Option.bind_some]
    rw [take_map_succ hx, ← w64_nat (n := n) (by omega)]
    simp only [till_step hx]
    congr 4
    rw [Bool.eq_iff_iff]
    simp [UnitP, Bool.and_eq_true, and_assoc]
  · intro rec
    simp only [machine_checker_units_b1]
    rw [if_out]
    congr 2
    rw [Bool.eq_iff_iff]
    simp only [Bool.and_eq_true, decide_eq_true_eq]
    simp [UnitsP, till_end, and_assoc]
end
end Go.Proofs.YtgmpgoafokdcbaaGreatDoor.Sx
