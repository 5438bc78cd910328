/- Plain specs: bits.Name, fewer, must, Index and Contains, fresh, Mask. -/
import Derived.Test.YtgmpgoafokdcbaaGreatDoorPpa
import Derived.Laws.Strings
set_option linter.unusedVariables false
set_option linter.unusedSimpArgs false
namespace Go.Proofs.YtgmpgoafokdcbaaGreatDoor.Sx
open Go Go.RowKit
theorem sEq_iff {a b : ByteArray} : sEq a b = true ↔ a = b := by
  unfold sEq
  rw [ByteArray.toList_eq, ByteArray.toList_eq, beq_iff_eq]
  refine ⟨fun h => ?_, fun h => by rw [h]⟩
  rcases a with ⟨a⟩; rcases b with ⟨b⟩
  exact congrArg ByteArray.mk (Array.toList_inj.mp h)
theorem sEq_dec (a b : ByteArray) : sEq a b = decide (a = b) := by
  rw [Bool.eq_iff_iff]; simp [sEq_iff]
theorem fewer_eq (n x : Int) (h : 0 ≤ x) : machine_fewer n [x] = some (decide (x ≤ n)) := by
  have e : max x 0 = x := by omega
  show some (decide (max x 0 ≤ n)) = _
  rw [e]
theorem within_eq (n a b : Int) : machine_within n a b = some (decide (a ≤ n ∧ n ≤ b)) := by
  simp [machine_within]
theorem must_eq (c : machine_checker) (l : List Bool) (h : l.length < 1000) : machine_checker_must c l = some ⟨c.Machine, c.ok && l.all id⟩ := by
  unfold machine_checker_must
  have := lp_fold (σ := Int × machine_checker) (body := machine_checker_must_b1 l) (R := some ⟨c.Machine, c.ok && l.all id⟩) l
    (fun n => ((n : Int), ⟨c.Machine, c.ok && (l.take n).all id⟩)) ?_ ?_
  · simpa using this
  · intro n x rec hx
    have hn := lt_len hx
    simp only [machine_checker_must_b1]
    rw [if_in hx, ix_some hx]
    simp only [Option.bind_some]
    rw [w64_nat (by omega), List.take_add_one, hx]
    simp [Bool.and_assoc]
  · intro rec
    simp only [machine_checker_must_b1]
    rw [if_out]; simp
theorem must1 (c : machine_checker) (a : Bool) : machine_checker_must c [a] = some ⟨c.Machine, c.ok && a⟩ := by rw [must_eq _ _ (by simp)]; simp
theorem must2 (c : machine_checker) (a b : Bool) : machine_checker_must c [a, b] = some ⟨c.Machine, c.ok && (a && b)⟩ := by rw [must_eq _ _ (by simp)]; simp
theorem must3 (c : machine_checker) (a b d : Bool) : machine_checker_must c [a, b, d] = some ⟨c.Machine, c.ok && (a && (b && d))⟩ := by rw [must_eq _ _ (by simp)]; simp
theorem must4 (c : machine_checker) (a b d e : Bool) : machine_checker_must c [a, b, d, e] = some ⟨c.Machine, c.ok && (a && (b && (d && e)))⟩ := by rw [must_eq _ _ (by simp)]; simp
theorem must5 (c : machine_checker) (a b d e f : Bool) : machine_checker_must c [a, b, d, e, f] = some ⟨c.Machine, c.ok && (a && (b && (d && (e && f))))⟩ := by rw [must_eq _ _ (by simp)]; simp
theorem must7 (c : machine_checker) (a b d e f g i : Bool) : machine_checker_must c [a, b, d, e, f, g, i] = some ⟨c.Machine, c.ok && (a && (b && (d && (e && (f && (g && i))))))⟩ := by rw [must_eq _ _ (by simp)]; simp
/-! ### names -/
def badAt (i : Nat) (r : Int) : Bool := (!(((decide (97 ≤ r)) && (decide (r ≤ 122))) || ((decide (65 ≤ r)) && (decide (r ≤ 90))))) && ((((i : Int)) == 0) || ((r != 95) && ((decide (r < 48)) || (decide (57 < r)))))
def Named (s : ByteArray) : Prop := 1 ≤ s.size ∧ s.size ≤ 24 ∧ ∀ (i : Nat) (b : UInt8), s.data.toList[i]? = some b → badAt i b.toNat = false
open Classical in
theorem Name_eq (s : ByteArray) : bits_Name s = some (decide (Named s)) := by
  unfold bits_Name
  by_cases hs : 1 ≤ s.size ∧ s.size ≤ 24
  · have h1 : ((decide ((s.size : Int) < 1)) || (decide (24 < (s.size : Int)))) = false := by simp; omega
    rw [h1]
    have hl : s.data.toList.length = s.size := by rw [Array.length_toList]; rfl
    simp only [cond_false, jn]
    have step : ∀ (n : Nat) (x : UInt8) (rec : Int → Option Bool), s.data.toList[n]? = some x →
        bits_Name_b2 s bits_Name_k1 rec (n : Int) = (bif badAt n x.toNat then some false else rec ((n + 1 : Nat) : Int)) := by
      intro n x rec hx
      have hn := lt_len hx
      rw [hl] at hn
      have e1 : sIx s (n : Int) = some (x.toNat : Int) := by
        unfold sIx
        rw [if_neg (by omega)]
        have : s[(n : Int).toNat]? = some x := by
          show s[n]? = some x
          rw [getElem?_pos s n hn]
          rw [List.getElem?_eq_getElem (by rw [hl]; exact hn)] at hx
          simp only [Option.some.injEq] at hx
          rw [← hx]; rfl
        rw [this]; rfl
      simp only [bits_Name_b2]
      rw [e1, w64_nat (by omega)]
      have : decide ((n : Int) < (s.size : Int)) = true := by simp [hn]
      rw [this]
      rfl
    have last : ∀ rec : Int → Option Bool, bits_Name_b2 s bits_Name_k1 rec (s.data.toList.length : Int) = some true := by
      intro rec
      simp only [bits_Name_b2]
      rw [hl, if_out]; rfl
    have := lp_first (body := bits_Name_b2 s bits_Name_k1) s.data.toList (fun n => (n : Int)) (fun n x => badAt n x.toNat) step last
    rw [hl] at this
    rcases this with ⟨⟨n, x, hx, hp⟩, e⟩ | ⟨ha, e⟩
    · have : ¬ Named s := fun h => by have := h.2.2 n x hx; rw [hp] at this; exact absurd this (by decide)
      have e' : lp (bits_Name_b2 s bits_Name_k1) (s.size + 1) 0 = some false := e
      rw [e', decide_eq_false this]
    · have : Named s := ⟨hs.1, hs.2, ha⟩
      have e' : lp (bits_Name_b2 s bits_Name_k1) (s.size + 1) 0 = some true := e
      rw [e', decide_eq_true this]
  · have h1 : ((decide ((s.size : Int) < 1)) || (decide (24 < (s.size : Int)))) = true := by simp; omega
    rw [h1]
    have : ¬ Named s := fun h => hs ⟨h.1, h.2.1⟩
    rw [decide_eq_false this]; rfl
open Classical in
theorem Contains_s (l : List ByteArray) (s : ByteArray) (h : l.length < 1000000) : slices_Contains_string_string l s = some (decide (s ∈ l)) := by
  unfold slices_Contains_string_string slices_Index_string_string
  simp only [jn]
  by_cases hm : s ∈ l
  · have key : Ok (lp (slices_Index_string_string_b2 l s slices_Index_string_string_k1) (l.length + 1) 0) (fun r => 0 ≤ r) := by
      refine ok_lp l (fun n v => v = (n : Int) ∧ ∀ i, i < n → l[i]? ≠ some s) ⟨rfl, fun i hi => absurd hi (Nat.not_lt_zero i)⟩ ?_ ?_
      · rintro n x v rec hx ⟨rfl, hb⟩ hr
        have hn := lt_len hx
        simp only [slices_Index_string_string_b2]
        rw [if_in hx, ix_some hx, Option.bind_some, w64_nat (by omega)]
        refine ok_if (fun _ => ok_s (by omega)) (fun e => hr _ ⟨rfl, fun i hi => ?_⟩)
        by_cases hin : i = n
        · subst hin; rw [hx]; intro e'; cases e'; rw [sEq_iff.mpr rfl] at e; cases e
        · exact hb i (by omega)
      · rintro v rec ⟨rfl, hb⟩
        obtain ⟨i, hi, e⟩ := List.mem_iff_getElem.mp hm
        exact absurd (by rw [List.getElem?_eq_getElem hi, e]) (hb i hi)
    obtain ⟨r, e, hr⟩ := key
    rw [e]; simp [hm, hr]
  · have key : lp (slices_Index_string_string_b2 l s slices_Index_string_string_k1) (l.length + 1) 0 = some (-1) := by
      refine lp_fold l (fun n => (n : Int)) ?_ ?_
      · intro n x rec hx
        have hn := lt_len hx
        simp only [slices_Index_string_string_b2]
        rw [if_in hx, ix_some hx, Option.bind_some, w64_nat (by omega)]
        have : sEq s x = false := by
          rw [Bool.eq_false_iff]; intro e; rw [sEq_iff] at e; subst e; exact hm (List.mem_of_getElem? hx)
        rw [this]; rfl
      · intro rec
        simp only [slices_Index_string_string_b2]
        rw [if_out]; rfl
    rw [key]; simp [hm]
theorem Contains_i (l : List Int) (s : Int) (h : l.length < 1000000) : slices_Contains_int_int l s = some (decide (s ∈ l)) := by
  unfold slices_Contains_int_int slices_Index_int_int
  simp only [jn]
  by_cases hm : s ∈ l
  · have key : Ok (lp (slices_Index_int_int_b2 l s slices_Index_int_int_k1) (l.length + 1) 0) (fun r => 0 ≤ r) := by
      refine ok_lp l (fun n v => v = (n : Int) ∧ ∀ i, i < n → l[i]? ≠ some s) ⟨rfl, fun i hi => absurd hi (Nat.not_lt_zero i)⟩ ?_ ?_
      · rintro n x v rec hx ⟨rfl, hb⟩ hr
        have hn := lt_len hx
        simp only [slices_Index_int_int_b2]
        rw [if_in hx, ix_some hx, Option.bind_some, w64_nat (by omega)]
        refine ok_if (fun _ => ok_s (by omega)) (fun e => hr _ ⟨rfl, fun i hi => ?_⟩)
        by_cases hin : i = n
        · subst hin; rw [hx]; intro e'; cases e'; simp at e
        · exact hb i (by omega)
      · rintro v rec ⟨rfl, hb⟩
        obtain ⟨i, hi, e⟩ := List.mem_iff_getElem.mp hm
        exact absurd (by rw [List.getElem?_eq_getElem hi, e]) (hb i hi)
    obtain ⟨r, e, hr⟩ := key
    rw [e]; simp [hm, hr]
  · have key : lp (slices_Index_int_int_b2 l s slices_Index_int_int_k1) (l.length + 1) 0 = some (-1) := by
      refine lp_fold l (fun n => (n : Int)) ?_ ?_
      · intro n x rec hx
        have hn := lt_len hx
        simp only [slices_Index_int_int_b2]
        rw [if_in hx, ix_some hx, Option.bind_some, w64_nat (by omega)]
        have : (s == x) = false := by
          rw [Bool.eq_false_iff]; intro e; rw [beq_iff_eq] at e; subst e; exact hm (List.mem_of_getElem? hx)
        rw [this]; rfl
      · intro rec
        simp only [slices_Index_int_int_b2]
        rw [if_out]; rfl
    rw [key]; simp [hm]
open Classical in
theorem fresh_eq (u : List ByteArray) (s : ByteArray) (h : u.length < 900000) : machine_names_fresh u s = some (decide (Named s ∧ s ∉ u), u ++ [s]) := by
  unfold machine_names_fresh
  rw [Name_eq, Option.bind_some, Contains_s u s (by omega)]
  rw [roomy_t (by simp; omega) (by omega)]
  by_cases hn : Named s <;> simp [hn, asr]
/-! ### bits.Mask -/
theorem Mask_eq (n : Int) : bits_Mask n = some (if 1 ≤ n ∧ n ≤ 64 then 2 ^ n.toNat - 1 else 0) := by
  unfold bits_Mask bits_wide
  by_cases h : 1 ≤ n ∧ n ≤ 64
  · have e : ((decide (1 ≤ n)) && (decide (n ≤ 64))) = true := by simp [h]
    simp only [e, Option.bind_some, Bool.not_true, cond_false, if_pos h]
    rw [w64_id (by omega) (by omega)]
    have : decide (0 ≤ 64 - n) = true := by simp; omega
    rw [this]
    obtain ⟨h1, h2⟩ := h
    have hk : ∃ k : Nat, n = k ∧ 1 ≤ k ∧ k ≤ 64 := ⟨n.toNat, by omega, by omega, by omega⟩
    obtain ⟨k, rfl, a, b⟩ := hk
    have : ∀ k : Nat, k < 65 → 1 ≤ k → sShr .u64 18446744073709551615 (64 - (k : Int)) = 2 ^ (k : Int).toNat - 1 := by decide
    rw [this k (by omega) a]; rfl
  · have e : ((decide (1 ≤ n)) && (decide (n ≤ 64))) = false := by
      rw [Bool.and_eq_false_iff]; simp; omega
    simp only [e, Option.bind_some, Bool.not_false, cond_true, if_neg h]
end Go.Proofs.YtgmpgoafokdcbaaGreatDoor.Sx
