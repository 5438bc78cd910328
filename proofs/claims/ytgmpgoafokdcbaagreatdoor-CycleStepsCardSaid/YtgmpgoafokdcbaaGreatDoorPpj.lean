/- Plain specs: Roots, BinarySearch, core.New. -/
import Derived.Test.YtgmpgoafokdcbaaGreatDoorPpi
set_option linter.unusedVariables false
set_option linter.unusedSimpArgs false
namespace Go.Proofs.YtgmpgoafokdcbaaGreatDoor.Sx
open Go Go.RowKit
section
open Classical
/-- the roots among the first n registers -/
def topsN (L : List MachReg) : Nat → List Int
  | 0 => []
  | n + 1 => topsN L n ++ (match L[n]? with | some r => if r.Of = -1 then [(n : Int)] else [] | none => [])
def topsP (M : Machine) : List Int := topsN M.Regs M.Regs.length
theorem tops_mem {L : List MachReg} : ∀ {n : Nat} {x : Int}, x ∈ topsN L n ↔ ∃ i : Nat, x = i ∧ i < n ∧ ∃ r, L[i]? = some r ∧ r.Of = -1
  | 0, x => by simp [topsN]
  | n + 1, x => by
    simp only [topsN, List.mem_append, tops_mem]
    constructor
    · rintro (⟨i, e, h, r, hr, ho⟩ | h)
      · exact ⟨i, e, by omega, r, hr, ho⟩
      · cases hL : L[n]? with
        | none => rw [hL] at h; cases h
        | some r =>
          rw [hL] at h
          simp only at h
          by_cases ho : r.Of = -1
          · rw [if_pos ho] at h
            exact ⟨n, List.mem_singleton.mp h, by omega, r, hL, ho⟩
          · rw [if_neg ho] at h; cases h
    · rintro ⟨i, e, h, r, hr, ho⟩
      by_cases hi : i = n
      · subst hi
        right
        rw [hr]; simp only [if_pos ho]
        exact List.mem_singleton.mpr e
      · exact .inl ⟨i, e, by omega, r, hr, ho⟩
theorem tops_sorted {L : List MachReg} : ∀ n : Nat, (topsN L n).Pairwise (· < ·)
  | 0 => List.Pairwise.nil
  | n + 1 => by
    simp only [topsN]
    refine List.pairwise_append.mpr ⟨tops_sorted n, ?_, ?_⟩
    · cases L[n]? with
      | none => exact List.Pairwise.nil
      | some r =>
        simp only
        by_cases ho : r.Of = -1
        · rw [if_pos ho]; exact List.pairwise_singleton ..
        · rw [if_neg ho]; exact List.Pairwise.nil
    · intro a ha b hb
      obtain ⟨i, rfl, h, _⟩ := tops_mem.mp ha
      cases hL : L[n]? with
      | none => rw [hL] at hb; cases hb
      | some r =>
        rw [hL] at hb
        simp only at hb
        by_cases ho : r.Of = -1
        · rw [if_pos ho] at hb
          rw [List.mem_singleton.mp hb]; omega
        · rw [if_neg ho] at hb; cases hb
theorem tops_len {L : List MachReg} : ∀ n : Nat, (topsN L n).length ≤ n
  | 0 => by simp [topsN]
  | n + 1 => by
    simp only [topsN, List.length_append]
    have := tops_len (L := L) n
    cases L[n]? with
    | none => simp only [List.length_nil]; omega
    | some r =>
      simp only
      by_cases ho : r.Of = -1
      · rw [if_pos ho]; simp only [List.length_singleton]; omega
      · rw [if_neg ho]; simp only [List.length_nil]; omega
theorem tops_eq (M : Machine) (h : M.Regs.length ≤ 1000) : machine_tops M = some (topsP M) := by
  unfold machine_tops
  simp only [jn]
  refine lp_fold (body := machine_tops_b2 M machine_tops_k1) M.Regs (fun n => ((n : Int), topsN M.Regs n)) ?_ ?_
  · intro n r rec hx
    have hn := lt_len hx
    simp only [machine_tops_b2, jn]
    rw [if_in hx, ix_some hx, Option.bind_some]
    simp only [topsN, hx, machine_tops_k3]
    rw [w64_nat (by omega)]
    by_cases ho : r.Of = -1
    · rw [show (r.Of == -1) = true by simp [ho], cond_true, if_pos ho, roomy_t (by have := tops_len (L := M.Regs) n; simp only [List.length_singleton]; omega) (by omega), asr_t]
    · rw [show (r.Of == -1) = false by simp [ho], cond_false, if_neg ho, List.append_nil]
  · intro rec
    simp only [machine_tops_b2]
    rw [if_out]; rfl
theorem Roots_eq {M : Machine} {e : Int} (h : machine_Check M = some e) (hr : e = 0 → M.Regs.length ≤ 1000) : machine_Roots M = some (if e = 0 then (topsP M, 0) else ([], e)) := by
  unfold machine_Roots
  rw [h, Option.bind_some]
  by_cases h0 : e = 0
  · subst h0
    rw [show ((0 : Int) != 0) = false from rfl, cond_false, tops_eq M (hr rfl)]; rfl
  · rw [show (e != 0) = true by simp [h0], cond_true, if_neg h0]
/-! ### BinarySearch -/
theorem mid_eq {a b : Int} (ha : 0 ≤ a) (hb : 0 ≤ b) (h : a + b ≤ 1000000) : w64 (sShr .u64 (IntKind.wrap .u64 (w64 (a + b))) 1) = (a + b) / 2 := by
  have e1 : w64 (a + b) = a + b := w64_id (by omega) (by omega)
  have e2 : IntKind.wrap .u64 (a + b) = a + b := IntWalk.u64_in _ ⟨by omega, by omega⟩
  rw [e1, e2]
  have : sShr .u64 (a + b) 1 = (a + b) / 2 := by
    show (a + b).fdiv 2 = _
    rw [Int.fdiv_eq_ediv_of_nonneg _ (by omega)]
  rw [this, w64_id (by omega) (by omega)]
theorem Less_eq (a b : Int) : cmp_Less_int a b = some (decide (a < b)) := by
  simp [cmp_Less_int, cmp_isNaN_int]
theorem sorted_lt {l : List Int} (hs : l.Pairwise (· < ·)) {i j : Nat} {x y : Int} (hi : l[i]? = some x) (hj : l[j]? = some y) : x < y ↔ i < j := by
  obtain ⟨h1, e1⟩ := List.getElem?_eq_some_iff.mp hi
  obtain ⟨h2, e2⟩ := List.getElem?_eq_some_iff.mp hj
  rw [List.pairwise_iff_getElem] at hs
  constructor
  · intro h
    by_cases hij : i < j
    · exact hij
    · exfalso
      by_cases e : i = j
      · subst e; rw [e1] at e2; omega
      · have := hs j i h2 h1 (by omega); omega
  · intro h; have := hs i j h1 h2 h; omega
theorem BSearch_eq {l : List Int} (hs : l.Pairwise (· < ·)) (hl : l.length ≤ 1000) {p : Nat} {x : Int} (hp : l[p]? = some x) : slices_BinarySearch_int_int l x = some ((p : Int), true) := by
  have hpl := lt_len hp
  unfold slices_BinarySearch_int_int
  simp only [jn]
  refine ok_eq (ok_lpn (fun s : Int × Int => 0 ≤ s.1 ∧ s.1 ≤ p ∧ p ≤ s.2 ∧ s.2 ≤ l.length) (fun s => (s.2 - s.1).toNat) ⟨by omega, by omega, by omega, by omega⟩ (by simp only; omega) ?_)
  rintro ⟨a, b⟩ rec ⟨h1, h2, h3, h4⟩ hr
  simp only at h1 h2 h3 h4
  simp only [slices_BinarySearch_int_int_b2]
  rw [mid_eq h1 (by omega) (by omega)]
  refine ok_if ?_ ?_
  · intro hab
    simp only [decide_eq_true_eq] at hab
    obtain ⟨y, e, e'⟩ := ix_lt (l := l) (i := (a + b) / 2) (by omega) (by omega)
    rw [e, Option.bind_some, Less_eq, Option.bind_some, w64_id (by omega) (by omega)]
    have := sorted_lt hs e' hp
    refine ok_if ?_ ?_
    · intro hlt
      have := this.mp (of_decide_eq_true hlt)
      exact hr _ ⟨by simp only; omega, by simp only; omega, by simp only; omega, by simp only; omega⟩ (by simp only; omega)
    · intro hlt
      have hn : ¬ ((a + b) / 2).toNat < p := fun h => (of_decide_eq_false hlt) (this.mpr h)
      exact hr _ ⟨by simp only; omega, by simp only; omega, by simp only; omega, by simp only; omega⟩ (by simp only; omega)
  · intro hab
    simp only [decide_eq_false_iff_not] at hab
    have e : a = p := by omega
    subst e
    simp only [slices_BinarySearch_int_int_k1]
    have hd : decide ((p : Int) < (l.length : Int)) = true := by simp [hpl]
    rw [hd, ix_some hp]
    simp only [Bool.true_and, beq_self_eq_true, cond_true, Option.bind_some, show ((true == false) = false) from rfl, cond_false, Bool.false_and, Bool.true_or]
    exact ok_s rfl
/-! ### core.New -/
structure PlaceP (M : Machine) (i : Nat) (p : core_Place) : Prop where
  reg : ∃ r, M.Regs[i]? = some r ∧ p.Low = r.Low ∧ p.Width = r.Width ∧ 0 ≤ p.Root ∧ p.Root < (topsP M).length ∧ (topsP M)[p.Root.toNat]? = some (if 0 ≤ r.Of then r.Of else i)
structure CoreP (M : Machine) (c : core_Core) : Prop where
  machine : c.Machine = M
  roots : c.Roots = (topsP M).length
  len : c.places.length = M.Regs.length
  place : Each c.places (PlaceP M)
theorem reg_root {M : Machine} (h : RegsP M) {i : Nat} {r : MachReg} (hr : M.Regs[i]? = some r) : (if 0 ≤ r.Of then r.Of else (i : Int)) ∈ topsP M := by
  obtain ⟨_, _, h3⟩ := h.2 i r hr
  rcases h3 with ⟨a, _⟩ | ⟨a, b, root, c, d, _⟩
  · rw [if_neg (by omega)]
    exact tops_mem.mpr ⟨i, rfl, lt_len hr, r, hr, a⟩
  · rw [if_pos a]
    exact tops_mem.mpr ⟨r.Of.toNat, by omega, by omega, root, c, d⟩
theorem New_ok {M : Machine} (hs : SmallM M) (hm : MachP M) (hc : machine_Check M = some 0) : ∃ c, core_New M = some (.inr c) ∧ CoreP M c := by
  have hl := hs.regs
  unfold core_New
  rw [Roots_eq hc (fun _ => by omega), if_pos rfl, Option.bind_some]
  rw [show ((0 : Int) != 0) = false from rfl, cond_false]
  simp only [jn]
  have key : Ok (lp (core_New_b2 M (topsP M, 0) core_New_k1) (M.Regs.length + 1) ((0, M.Name, M.Word, M.Address, M.Regs, M.Banks, M.Units, M.Instrs, ((topsP M).length : Int), ([] : List core_Place))))
      (fun r => ∃ c, r = .inr c ∧ CoreP M c) := by
    refine ok_lp M.Regs (fun n r => ∃ pl, r = ((n : Int), M.Name, M.Word, M.Address, M.Regs, M.Banks, M.Units, M.Instrs, ((topsP M).length : Int), pl) ∧ pl.length = n ∧ Each pl (PlaceP M)) ?_ ?_ ?_
    · exact ⟨[], rfl, rfl, fun k y h => by cases h⟩
    · rintro n r s rec hx ⟨pl, rfl, h1, h2⟩ hr
      have hn := lt_len hx
      simp only [core_New_b2, jn]
      rw [if_in hx, ix_some hx, Option.bind_some]
      have hmem := reg_root hm.1.2.1 hx
      obtain ⟨p, hp, ep⟩ := List.mem_iff_getElem.mp hmem
      have hp' : (topsP M)[p]? = some (if 0 ≤ r.Of then r.Of else (n : Int)) := by rw [List.getElem?_eq_getElem hp, ep]
      have hbs := BSearch_eq (tops_sorted _) (by have := tops_len (L := M.Regs) M.Regs.length; show (topsP M).length ≤ 1000; unfold topsP; omega) hp'
      have fin : Ok (core_New_k4 (topsP M, 0) M.Name M.Word M.Address M.Regs M.Banks M.Units M.Instrs ((topsP M).length : Int) pl (core_New_k3 (n : Int) rec) r (if 0 ≤ r.Of then r.Of else (n : Int))) (fun r => ∃ c, r = .inr c ∧ CoreP M c) := by
        simp only [core_New_k4]
        rw [show slices_BinarySearch_int_int (topsP M, (0 : Int)).1 _ = _ from hbs, Option.bind_some, roomy_t (by simp only [List.length_singleton]; omega) (by omega), asr_t]
        simp only [core_New_k3]
        rw [w64_nat (by omega)]
        refine hr _ ⟨_, rfl, by simp [h1], ?_⟩
        intro k y hy
        by_cases hk : k < pl.length
        · rw [List.getElem?_append_left hk] at hy; exact h2 k y hy
        · rw [List.getElem?_append_right (by omega)] at hy
          have : k - pl.length = 0 := by
            have := lt_len hy
            simp only [List.length_singleton] at this; omega
          rw [this] at hy
          cases hy
          have : k = n := by omega
          subst this
          exact ⟨r, hx, rfl, rfl, by simp only; omega, by simp only; omega, hp'⟩
      by_cases hO : 0 ≤ r.Of
      · rw [if_pos hO] at fin
        rw [show decide (0 ≤ r.Of) = true by simp [hO], cond_true]; exact fin
      · rw [if_neg hO] at fin
        rw [show decide (0 ≤ r.Of) = false by simp [hO], cond_false]; exact fin
    · rintro s rec ⟨pl, rfl, h1, h2⟩
      simp only [core_New_b2]
      rw [if_out]
      exact ok_s ⟨_, rfl, rfl, rfl, h1, h2⟩
  obtain ⟨r, e, c, rfl, h⟩ := key
  exact ⟨c, e, h⟩
theorem New_bad {M : Machine} {e : Int} (h : machine_Check M = some e) (h0 : e ≠ 0) : core_New M = some (.inl e) := by
  unfold core_New
  rw [Roots_eq h (fun h => absurd h h0), if_neg h0, Option.bind_some]
  rw [show (e != 0) = true by simp [h0], cond_true]
end
end Go.Proofs.YtgmpgoafokdcbaaGreatDoor.Sx
