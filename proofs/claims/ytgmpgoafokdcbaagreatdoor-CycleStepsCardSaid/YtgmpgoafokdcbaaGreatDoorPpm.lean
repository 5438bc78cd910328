/- Plain specs: slices.Sort of a short list. -/
import Derived.Test.YtgmpgoafokdcbaaGreatDoorPpl
set_option linter.unusedVariables false
set_option linter.unusedSimpArgs false
namespace Go.Proofs.YtgmpgoafokdcbaaGreatDoor.Sx
open Go Go.RowKit
def SortedTo (v : List Int) (n : Nat) : Prop := ∀ p q : Nat, p < q → q < n → v.getD p 0 ≤ v.getD q 0
theorem ix_getD {l : List Int} {n : Nat} (h : n < l.length) : ix l (n : Int) = some (l.getD n 0) := by
  rw [ix_nat, List.getElem?_eq_getElem h, List.getD_eq_getElem?_getD, List.getElem?_eq_getElem h]; rfl
theorem getD_set {l : List Int} {i k : Nat} {a : Int} (h : i < l.length) : (l.set i a).getD k 0 = if k = i then a else l.getD k 0 := by
  rw [List.getD_eq_getElem?_getD, List.getD_eq_getElem?_getD, List.getElem?_set]
  by_cases e : k = i
  · subst e; simp [h]
  · have : ¬ i = k := fun h => e h.symm
    simp [e, this]
theorem ins_inner (v0 : List Int) (i : Nat) (hi : i < v0.length) (hl : v0.length ≤ 1000) {ρ : Type} (k2 : List Int → Option (List Int)) (P : List Int → Prop)
    (hk : ∀ v' : List Int, v'.length = v0.length → v'.Perm v0 → SortedTo v' (i + 1) → Ok (k2 v') P) (hs : SortedTo v0 i) :
    Ok (lp (slices_insertionSortOrdered_int_b3 0 k2) (((i : Int) - 0).toNat + 1) ((i : Int), v0)) P := by
  refine ok_lpn (fun s => ∃ j : Nat, s.1 = (j : Int) ∧ j ≤ i ∧ s.2.length = v0.length ∧ s.2.Perm v0 ∧
      (∀ p q : Nat, p < q → q ≤ i → p ≠ j → q ≠ j → s.2.getD p 0 ≤ s.2.getD q 0) ∧ (∀ q : Nat, j < q → q ≤ i → s.2.getD j 0 ≤ s.2.getD q 0)) (fun s => s.1.toNat) ?_ ?_ ?_
  · exact ⟨i, rfl, Nat.le_refl _, rfl, List.Perm.refl _, fun p q h1 h2 h3 h4 => hs p q h1 (by omega), fun q h1 h2 => by omega⟩
  · simp only; omega
  · rintro ⟨jv, v⟩ rec ⟨j, h1, h2, h3, h4, h5, h6⟩ hr
    simp only at h1 h3 h4 h5 h6; subst h1
    simp only [slices_insertionSortOrdered_int_b3]
    have stop : (j = 0 ∨ v.getD (j - 1) 0 ≤ v.getD j 0) → Ok (k2 v) P := by
      intro hst
      refine hk v h3 h4 ?_
      intro p q hpq hq
      by_cases e1 : p = j
      · subst e1; exact h6 q hpq (by omega)
      · by_cases e2 : q = j
        · subst e2
          rcases hst with h | h
          · omega
          · by_cases e3 : p = q - 1
            · subst e3; exact h
            · exact Int.le_trans (h5 p (q - 1) (by omega) (by omega) e1 (by omega)) h
        · exact h5 p q hpq (by omega) e1 e2
    by_cases hj : j = 0
    · subst hj
      simp only [show decide ((0 : Int) < ((0 : Nat) : Int)) = false from rfl, Bool.true_and, show (false == true) = false from rfl, cond_false, Option.bind_some, Bool.false_and]
      exact stop (.inl rfl)
    · have hd : decide ((0 : Int) < (j : Int)) = true := by simp; omega
      have hw : w64 ((j : Int) - 1) = ((j - 1 : Nat) : Int) := by rw [w64_id (by omega) (by omega)]; omega
      rw [hd, hw, ix_getD (by omega : j < v.length), ix_getD (by omega : j - 1 < v.length)]
      simp only [Bool.true_and, beq_self_eq_true, cond_true, Option.bind_some, Less_eq, Int.toNat_natCast]
      refine ok_if ?_ ?_
      · intro hlt
        have hlt' : v.getD j 0 < v.getD (j - 1) 0 := of_decide_eq_true hlt
        rw [ix_getD (by rw [List.length_set]; omega : j - 1 < (v.set j (v.getD (j - 1) 0)).length), Option.bind_some]
        have hg : ∀ k : Nat, ((v.set j (v.getD (j - 1) 0)).set (j - 1) (v.getD j 0)).getD k 0 = if k = j - 1 then v.getD j 0 else if k = j then v.getD (j - 1) 0 else v.getD k 0 := by
          intro k
          rw [getD_set (by rw [List.length_set]; omega), getD_set (by omega)]
        refine hr _ ⟨j - 1, rfl, by omega, by simp only [List.length_set]; exact h3, ?_, ?_, ?_⟩ (by simp only [Int.toNat_natCast]; omega)
        · refine List.Perm.trans ?_ h4
          have a1 : v.getD j 0 = v[j]'(by omega) := by rw [List.getD_eq_getElem?_getD, List.getElem?_eq_getElem]; rfl
          have a2 : v.getD (j - 1) 0 = v[j - 1]'(by omega) := by rw [List.getD_eq_getElem?_getD, List.getElem?_eq_getElem]; rfl
          simp only
          rw [a1, a2]
          exact List.set_set_perm (by omega) (by omega)
        · intro p q hpq hq e1 e2
          simp only [hg]
          rw [if_neg e1, if_neg e2]
          by_cases e3 : p = j
          · subst e3
            rw [if_pos rfl, if_neg (by omega)]
            exact h5 (p - 1) q (by omega) hq (by omega) (by omega)
          · rw [if_neg e3]
            by_cases e4 : q = j
            · subst e4
              rw [if_pos rfl]
              exact h5 p (q - 1) (by omega) (by omega) e3 (by omega)
            · rw [if_neg e4]; exact h5 p q hpq hq e3 e4
        · intro q hq1 hq2
          simp only [hg]
          rw [if_pos trivial, if_neg (by omega)]
          by_cases e4 : q = j
          · subst e4; rw [if_pos rfl]; omega
          · rw [if_neg e4]; exact h6 q (by omega) hq2
      · intro hlt
        exact stop (.inr (by have := of_decide_eq_false hlt; omega))
theorem ins_ok (l : List Int) (hl : l.length ≤ 12) : Ok (slices_insertionSortOrdered_int l 0 (l.length : Int)) (fun v => v.length = l.length ∧ v.Perm l ∧ SortedTo v l.length) := by
  unfold slices_insertionSortOrdered_int
  rw [show w64 ((0 : Int) + 1) = 1 from rfl]
  refine ok_lpn (fun s => ∃ i : Nat, s.1 = (i : Int) ∧ 1 ≤ i ∧ (i ≤ l.length ∨ l.length = 0) ∧ s.2.length = l.length ∧ s.2.Perm l ∧ SortedTo s.2 i) (fun s => ((l.length : Int) - s.1).toNat) ?_ ?_ ?_
  · exact ⟨1, rfl, by omega, by omega, rfl, List.Perm.refl _, fun p q h1 h2 => by omega⟩
  · simp only; omega
  · rintro ⟨iv, v⟩ rec ⟨i, h1, h2, h3, h4, h5, h6⟩ hr
    simp only at h1 h3 h4 h5 h6; subst h1
    simp only [slices_insertionSortOrdered_int_b1, jn]
    refine ok_if ?_ ?_
    · intro hlt
      have hlt' : (i : Int) < (l.length : Int) := of_decide_eq_true hlt
      refine ins_inner (ρ := Int) v i (by omega) (by omega) _ _ ?_ h6
      intro v' g1 g2 g3
      simp only [slices_insertionSortOrdered_int_k2]
      rw [w64_nat (by omega)]
      exact hr _ ⟨i + 1, rfl, by omega, by omega, by simp only; omega, g2.trans h5, g3⟩ (by simp only; omega)
    · intro hlt
      have hlt' := of_decide_eq_false hlt
      refine ok_s ⟨h4, h5, ?_⟩
      intro p q a b
      exact h6 p q a (by omega)
theorem Len_some : ∀ n : Nat, n < 13 → (math_bits_Len (IntKind.wrap .u64 (n : Int))).isSome = true := by decide +kernel
theorem Sort_ok (l : List Int) (hl : l.length ≤ 12) : Ok (slices_Sort_int_int l) (fun v => v.length = l.length ∧ v.Perm l ∧ SortedTo v l.length) := by
  unfold slices_Sort_int_int
  obtain ⟨r, er⟩ := Option.isSome_iff_exists.mp (Len_some l.length (by omega))
  rw [er, Option.bind_some]
  obtain ⟨v, ev, hv⟩ := ins_ok l hl
  have : slices_pdqsortOrdered_int 2 l 0 (l.length : Int) r = some v := by
    show slices_pdqsortOrdered_int_b1 (lp slices_pdqsortOrdered_int_b1 0) (0, (l.length : Int), r, true, true, l) = some v
    simp only [slices_pdqsortOrdered_int_b1]
    rw [w64_id (by omega) (by omega), show decide ((l.length : Int) - 0 ≤ 12) = true by simp; omega, cond_true, ev]; rfl
  rw [this]
  exact ok_s hv
end Go.Proofs.YtgmpgoafokdcbaaGreatDoor.Sx
