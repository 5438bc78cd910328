/- Plain specs: IsSorted, all, valid, TwinPipe, Begin. -/
import Derived.Test.YtgmpgoafokdcbaaGreatDoorPpm
set_option linter.unusedVariables false
set_option linter.unusedSimpArgs false
namespace Go.Proofs.YtgmpgoafokdcbaaGreatDoor.Sx
open Go Go.RowKit
section
open Classical
theorem sorted_adj {l : List Int} (h : ∀ k : Nat, 0 < k → k < l.length → l.getD (k - 1) 0 ≤ l.getD k 0) : SortedTo l l.length := by
  intro p q hpq
  induction q with
  | zero => omega
  | succ q ih =>
    intro hq
    have := h (q + 1) (by omega) hq
    by_cases e : p = q
    · subst e; exact this
    · exact Int.le_trans (ih (by omega) (by omega)) this
theorem IsSorted_ok (l : List Int) (hl : l.length ≤ 9223372036854775807) : slices_IsSorted_int_int l = some (decide (SortedTo l l.length)) := by
  unfold slices_IsSorted_int_int
  simp only [jn]
  rw [w64_id (by omega) (by omega)]
  refine ok_eq ?_
  refine ok_lpn (fun v : Int => v < l.length ∧ -1 ≤ v ∧ ∀ k : Nat, v < (k : Int) → 0 < k → k < l.length → l.getD (k - 1) 0 ≤ l.getD k 0) (fun v => v.toNat) ?_ ?_ ?_
  · exact ⟨by omega, by omega, fun k h1 h2 h3 => by omega⟩
  · omega
  · rintro v rec ⟨h1, h2, h3⟩ hr
    simp only [slices_IsSorted_int_int_b2]
    refine ok_if ?_ ?_
    · intro hv
      have hv' : 0 < v := of_decide_eq_true hv
      obtain ⟨n, rfl⟩ : ∃ n : Nat, v = n := ⟨v.toNat, by omega⟩
      have hw : w64 ((n : Int) - 1) = ((n - 1 : Nat) : Int) := by rw [w64_id (by omega) (by omega)]; omega
      rw [hw, ix_getD (by omega : n < l.length), ix_getD (by omega : n - 1 < l.length), Option.bind_some, Option.bind_some, Less_eq, Option.bind_some]
      refine ok_if ?_ ?_
      · intro hlt
        have hlt' := of_decide_eq_true hlt
        refine ok_s ?_
        symm
        rw [decide_eq_false_iff_not]
        intro hs
        have := hs (n - 1) n (by omega) (by omega)
        omega
      · intro hlt
        have hlt' := of_decide_eq_false hlt
        refine hr _ ⟨by omega, by omega, fun k a b c => ?_⟩ (by omega)
        by_cases e : k = n
        · subst e; omega
        · exact h3 k (by omega) b c
    · intro hv
      have hv' := of_decide_eq_false hv
      simp only [slices_IsSorted_int_int_k1]
      refine ok_s ?_
      symm
      rw [decide_eq_true_eq]
      exact sorted_adj fun k a b => h3 k (by omega) a b
theorem all2_eq (l : List Int) (hl : l.length ≤ 9223372036854775807) : cycle_all_int_2 l = some (decide (∀ x ∈ l, 0 ≤ x ∧ x ≤ 1099511627791)) := by
  unfold cycle_all_int_2
  simp only [jn]
  have := lp_first (body := cycle_all_int_2_b2 l cycle_all_int_2_k1) l (fun n => (n : Int)) (fun n x => decide (¬ (0 ≤ x ∧ x ≤ 1099511627791))) (A := some false) (B := some true) ?_ ?_
  · rcases this with ⟨⟨n, x, hx, hp⟩, e⟩ | ⟨ha, e⟩
    · refine Eq.trans e ?_
      rw [decide_eq_false]
      intro h'
      exact (of_decide_eq_true hp) (h' x (List.mem_of_getElem? hx))
    · refine Eq.trans e ?_
      rw [decide_eq_true]
      intro t ht
      obtain ⟨i, hi, e⟩ := List.mem_iff_getElem.mp ht
      have := ha i t (by rw [List.getElem?_eq_getElem hi, e])
      exact Classical.not_not.mp (of_decide_eq_false this)
  · intro n t rec hx
    have hn := lt_len hx
    simp only [cycle_all_int_2_b2, cycle_valid_1]
    rw [if_in hx, ix_some hx, Option.bind_some, Option.bind_some, w64_nat (by omega)]
    congr 1
    rw [Bool.eq_iff_iff]
    simp
  · intro rec
    simp only [cycle_all_int_2_b2]
    rw [if_out]; rfl
structure ValidP (M : Machine) (p : Pipe) : Prop where
  at_ : 0 ≤ p.At ∧ p.At ≤ 1099511627776
  mem : 0 ≤ p.Mem ∧ p.Mem ≤ 1099511627791
  regsLen : p.Regs.length = (topsP M).length
  regs : ∀ x ∈ p.Regs, 0 ≤ x ∧ x ≤ 1099511627791
  unitsLen : p.Units.length = M.Units.length
  units : ∀ (i : Nat) (u : MachUnit) (l : List Int), M.Units[i]? = some u → p.Units[i]? = some l → (l.length : Int) = u.Count ∧ (∀ x ∈ l, 0 ≤ x ∧ x ≤ 1099511627791) ∧ SortedTo l l.length
theorem valid_ok {M : Machine} (hs : SmallM M) {c : core_Core} (hc : CoreP M c) (p : Pipe) (h1 : p.Regs.length ≤ 9223372036854775807) (h2 : ∀ l ∈ p.Units, l.length ≤ 9223372036854775807) :
    Ok (cycle_valid c p) (fun b => b = true ↔ ValidP M p) := by
  have hu := hs.units
  unfold cycle_valid cycle_valid_1
  obtain ⟨cm, cr, cl, cp⟩ := hc
  obtain ⟨M', R, pl⟩ := c
  simp only at cm cr cl cp; subst cm cr
  simp only [all2_eq _ h1]
  by_cases hA : 0 ≤ p.At ∧ p.At ≤ 1099511627776
  · rw [show ((decide (p.At < 0)) || (decide (1099511627776 < p.At))) = false by simp; omega]
    simp only [Bool.true_and, show ((false == false) = true) from rfl, cond_true, Option.bind_some, Bool.false_or]
    by_cases hB : 0 ≤ p.Mem ∧ p.Mem ≤ 1099511627791
    · rw [show ((decide (0 ≤ p.Mem)) && (decide (p.Mem ≤ 1099511627791))) = true by simp; omega]
      simp only [Bool.not_true, Bool.false_or]
      by_cases hC : p.Regs.length = (topsP M').length
      · rw [show ((p.Regs.length : Int) != ((topsP M').length : Int)) = false by simp; omega]
        simp only [show ((false == false) = true) from rfl, cond_true, Option.bind_some, Bool.false_or]
        by_cases hD : ∀ x ∈ p.Regs, 0 ≤ x ∧ x ≤ 1099511627791
        · rw [decide_eq_true hD]
          simp only [Bool.not_true, Bool.false_or]
          by_cases hE : p.Units.length = M'.Units.length
          · rw [show ((p.Units.length : Int) != (M'.Units.length : Int)) = false by simp; omega]
            simp only [cond_false, jn]
            refine ok_lp p.Units (fun n v => v = (n : Int) ∧ ∀ (i : Nat) (u : MachUnit) (l : List Int), i < n → M'.Units[i]? = some u → p.Units[i]? = some l → (l.length : Int) = u.Count ∧ (∀ x ∈ l, 0 ≤ x ∧ x ≤ 1099511627791) ∧ SortedTo l l.length) ?_ ?_ ?_
            · exact ⟨rfl, fun i u l hi => absurd hi (Nat.not_lt_zero i)⟩
            · rintro n l v rec hx ⟨rfl, hb⟩ hr
              have hn := lt_len hx
              have hl := h2 l (List.mem_of_getElem? hx)
              have hU : M'.Units[n]? = some (M'.Units[n]'(by omega)) := List.getElem?_eq_getElem _
              simp only [cycle_valid_b2]
              rw [if_in hx, ix_some hx, Option.bind_some, ix_some hU, Option.bind_some, all2_eq l hl, IsSorted_ok l hl, w64_nat (by omega)]
              have bad : ¬ ((l.length : Int) = (M'.Units[n]'(by omega)).Count ∧ (∀ x ∈ l, 0 ≤ x ∧ x ≤ 1099511627791) ∧ SortedTo l l.length) → ¬ ValidP M' p := fun h h' => h (h'.units n _ l hU hx)
              by_cases g1 : (l.length : Int) = (M'.Units[n]'(by omega)).Count
              · rw [show ((l.length : Int) != (M'.Units[n]'(by omega)).Count) = false by simp [g1]]
                simp only [Bool.true_and, show ((false == false) = true) from rfl, cond_true, Option.bind_some, Bool.false_or]
                by_cases g2 : ∀ x ∈ l, 0 ≤ x ∧ x ≤ 1099511627791
                · rw [decide_eq_true g2]
                  simp only [Bool.not_true, show ((false == false) = true) from rfl, cond_true, Option.bind_some, Bool.false_or]
                  by_cases g3 : SortedTo l l.length
                  · rw [decide_eq_true g3]
                    simp only [Bool.not_true, cond_false]
                    refine hr _ ⟨rfl, fun i u l' hi hu' hl' => ?_⟩
                    by_cases e : i = n
                    · subst e; rw [hx] at hl'; rw [hU] at hu'; cases hl'; cases hu'; exact ⟨g1, g2, g3⟩
                    · exact hb i u l' (by omega) hu' hl'
                  · rw [decide_eq_false g3]
                    refine ok_s ?_
                    have := bad (fun h => g3 h.2.2)
                    simp [this]
                · rw [decide_eq_false g2]
                  refine ok_s ?_
                  have := bad (fun h => g2 h.2.1)
                  simp [this]
              · rw [show ((l.length : Int) != (M'.Units[n]'(by omega)).Count) = true by simp [g1]]
                refine ok_s ?_
                have := bad (fun h => g1 h.1)
                simp [this]
            · rintro v rec ⟨rfl, hb⟩
              simp only [cycle_valid_b2]
              rw [if_out]
              exact ok_s ⟨fun _ => ⟨hA, hB, hC, hD, hE, fun i u l hu' hl' => hb i u l (lt_len hl') hu' hl'⟩, fun _ => rfl⟩
          · rw [show ((p.Units.length : Int) != (M'.Units.length : Int)) = true by simp; omega]
            refine ok_s ?_
            have : ¬ ValidP M' p := fun h => hE h.unitsLen
            simp [this]
        · rw [decide_eq_false hD]
          refine ok_s ?_
          have : ¬ ValidP M' p := fun h => hD h.regs
          simp [this]
      · rw [show ((p.Regs.length : Int) != ((topsP M').length : Int)) = true by simp; omega]
        refine ok_s ?_
        have : ¬ ValidP M' p := fun h => hC h.regsLen
        simp [this]
    · rw [show ((decide (0 ≤ p.Mem)) && (decide (p.Mem ≤ 1099511627791))) = false by rw [Bool.and_eq_false_iff]; simp; omega]
      refine ok_s ?_
      have : ¬ ValidP M' p := fun h => hB h.mem
      simp [this]
  · rw [show ((decide (p.At < 0)) || (decide (1099511627776 < p.At))) = true by simp; omega]
    refine ok_s ?_
    have : ¬ ValidP M' p := fun h => hA h.at_
    simp [this]
/-! ### copies -/
theorem Clone_eq (l : List Int) (h : l.length ≤ 1000000) : slices_Clone_int_int l = some l := by
  unfold slices_Clone_int_int
  rw [roomy_t (by simp only [List.length_nil]; omega) (by omega)]; rfl
theorem TwinPipe_eq (p : Pipe) (h1 : p.Regs.length ≤ 1000) (h2 : p.Units.length ≤ 1000) (h3 : ∀ l ∈ p.Units, l.length ≤ 1000) : core_TwinPipe p = some (p.At, p.Jumps, p.Units, p.Regs, p.Mem) := by
  unfold core_TwinPipe
  rw [Clone_eq _ (by omega), Option.bind_some]
  simp only [jn]
  have := lp_fold (body := core_TwinPipe_b2 p (core_TwinPipe_k1 p p.Regs)) (R := some (p.At, p.Jumps, p.Units, p.Regs, p.Mem)) p.Units (fun n => ((n : Int), p.Units.take n)) ?_ ?_
  · exact this
  · intro n l rec hx
    have hn := lt_len hx
    have := h3 l (List.mem_of_getElem? hx)
    simp only [core_TwinPipe_b2]
    rw [if_in hx, ix_some hx, Option.bind_some, Clone_eq _ (by omega), Option.bind_some, roomy_t (by have := @take_len _ p.Units n; omega) (by omega), asr_t, w64_nat (by omega)]
    rw [List.take_add_one, hx]; rfl
  · intro rec
    simp only [core_TwinPipe_b2]
    rw [if_out, List.take_length]
    rfl
end
end Go.Proofs.YtgmpgoafokdcbaaGreatDoor.Sx
