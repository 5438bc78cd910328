/- Plain specs: machine.banks, field, operand. -/
import Derived.Test.YtgmpgoafokdcbaaGreatDoorPpc
set_option linter.unusedVariables false
set_option linter.unusedSimpArgs false
namespace Go.Proofs.YtgmpgoafokdcbaaGreatDoor.Sx
open Go Go.RowKit
section
open Classical
theorem lSub_take {α : Type} (l : List α) (n : Nat) : lSub l 0 (n : Int) = l.take n := by simp [lSub]
theorem bankreg_eq (c : machine_checker) (b : MachBank) (q : Bool × List ByteArray) (k2 : machine_checker × (List ByteArray) → Option machine_checker) (hl : c.Machine.Regs.length ≤ 1000) (hb : b.Regs.length ≤ 1000) :
    lp (machine_checker_banks_b3 k2 b q) (b.Regs.length + 1) (0, c) = k2 (⟨c.Machine, c.ok && decide (Each b.Regs (BankReg c.Machine b))⟩, q.2) := by
  have := lp_fold (σ := Int × machine_checker) (body := machine_checker_banks_b3 k2 b q)
    (R := k2 (⟨c.Machine, c.ok && decide (Each b.Regs (BankReg c.Machine b))⟩, q.2)) b.Regs
    (fun n => ((n : Int), ⟨c.Machine, c.ok && decide (Till b.Regs n (BankReg c.Machine b))⟩)) ?_ ?_
  · simpa [till_zero] using this
  · intro n r rec hx
    have hn := lt_len hx
    simp only [machine_checker_banks_b3, jn]
    rw [if_in hx, ix_some hx, Option.bind_some, within_eq, Option.bind_some]
    have hs : subOk 0 (n : Int) b.Regs.length = true := by simp [subOk]; omega
    rw [hs, asr_t, lSub_take, Contains_i _ _ (by have := @take_len _ b.Regs n; omega), Option.bind_some, must2, Option.bind_some]
    simp only [machine_checker_banks_k4]
    rw [w64_id (by omega) (by omega), w64_nat (by omega)]
    by_cases hok : (c.ok && decide (Till b.Regs n (BankReg c.Machine b)) && (decide (0 ≤ r ∧ r ≤ (c.Machine.Regs.length : Int) - 1) && !decide (r ∈ b.Regs.take n))) = true
    · rw [hok, cond_true]
      have hok' := hok
      simp only [Bool.and_eq_true, decide_eq_true_eq, Bool.not_eq_true', decide_eq_false_iff_not] at hok'
      obtain ⟨⟨o1, o2⟩, o3, o4⟩ := hok'
      obtain ⟨x, h1, h1'⟩ := ix_lt (l := c.Machine.Regs) o3.1 (by omega)
      have hz : ∃ y, b.Regs[0]? = some y ∧ 0 ≤ y ∧ y < (c.Machine.Regs.length : Int) := by
        by_cases e : n = 0
        · subst e; exact ⟨r, hx, o3.1, by omega⟩
        · have h0 : 0 < b.Regs.length := by omega
          exact ⟨b.Regs[0], List.getElem?_eq_getElem h0, (o2 0 _ (by omega) (List.getElem?_eq_getElem h0)).1⟩
      obtain ⟨y, hy, hy0, hy1⟩ := hz
      obtain ⟨z, h2, h2'⟩ := ix_lt (l := c.Machine.Regs) hy0 hy1
      rw [h1, Option.bind_some, show (0 : Int) = ((0 : Nat) : Int) from rfl, ix_some hy, Option.bind_some, h2, Option.bind_some, must1, Option.bind_some]
      congr 3
      rw [Bool.eq_iff_iff]
      simp only [Bool.true_and, beq_iff_eq, Bool.and_eq_true, decide_eq_true_eq, till_step hx]
      refine ⟨fun h => ⟨o1, o2, ⟨o3.1, by omega⟩, o4, x, y, z, h1', hy, h2', h⟩, ?_⟩
      rintro ⟨_, _, _, _, x', y', z', a, b, d, e⟩
      rw [h1'] at a; rw [hy] at b; cases a; cases b; rw [h2'] at d; cases d; exact e
    · rw [Bool.not_eq_true] at hok
      rw [hok, cond_false]
      congr 3
      symm
      rw [Bool.and_eq_false_iff]
      by_cases hc : c.ok = true
      · right
        rw [decide_eq_false_iff_not, till_step hx]
        rintro ⟨h1, h2⟩
        have : (c.ok && decide (Till b.Regs n (BankReg c.Machine b)) && (decide (0 ≤ r ∧ r ≤ (c.Machine.Regs.length : Int) - 1) && !decide (r ∈ b.Regs.take n))) = true := by
          simp only [Bool.and_eq_true, decide_eq_true_eq, Bool.not_eq_true', decide_eq_false_iff_not]
          exact ⟨⟨hc, h1⟩, ⟨h2.1.1, by have := h2.1.2; omega⟩, h2.2.1⟩
        rw [hok] at this; cases this
      · left; simpa using hc
  · intro rec
    simp only [machine_checker_banks_b3]
    rw [if_out]
    simp only [till_end]
theorem banks_eq (c : machine_checker) (hl : c.Machine.Regs.length ≤ 1000) (hb : c.Machine.Banks.length ≤ 1000) (hr : ∀ b ∈ c.Machine.Banks, b.Regs.length ≤ 1000) :
    machine_checker_banks c = some ⟨c.Machine, c.ok && decide (BanksP c.Machine)⟩ := by
  unfold machine_checker_banks
  have := lp_fold (σ := Int × machine_checker × List ByteArray) (body := machine_checker_banks_b1 c)
    (R := some ⟨c.Machine, c.ok && decide (BanksP c.Machine)⟩) c.Machine.Banks
    (fun n => ((n : Int), ⟨c.Machine, c.ok && decide (Till c.Machine.Banks n (BankP c.Machine))⟩, (c.Machine.Banks.take n).map (·.Name))) ?_ ?_
  · simpa [till_zero] using this
  · intro n b rec hx
    have hn := lt_len hx
    simp only [machine_checker_banks_b1, jn]
    rw [if_in hx, ix_some hx, Option.bind_some, fresh_eq _ _ (by have := @take_len _ c.Machine.Banks n; simp only [List.length_map]; omega), Option.bind_some, must2, Option.bind_some]
    refine Eq.trans (bankreg_eq _ _ _ _ (by exact hl) (by exact hr b (List.mem_of_getElem? hx))) ?_
    simp only [machine_checker_banks_k2]
    rw [take_map_succ hx, w64_nat (by omega)]
    congr 4
    rw [Bool.eq_iff_iff]
    simp only [Bool.and_eq_true, decide_eq_true_eq, till_step hx, BankP]
    constructor
    · rintro ⟨⟨⟨a, b⟩, c, d⟩, e⟩; exact ⟨a, b, c, by omega, e⟩
    · rintro ⟨a, b, c, d, e⟩; exact ⟨⟨⟨a, b⟩, c, by omega⟩, e⟩
  · intro rec
    simp only [machine_checker_banks_b1]
    rw [if_out]
    congr 2
    rw [Bool.eq_iff_iff]
    simp only [Bool.and_eq_true, decide_eq_true_eq, till_end]
    rfl
/-! ### field -/
def fieldP (l : List MachPiece) : Int := l.foldl (fun a p => w64 (a + p.Len)) 0
theorem foldl_take_succ {α β : Type} {L : List α} {n : Nat} {x : α} (hx : L[n]? = some x) (f : β → α → β) (a : β) : (L.take (n + 1)).foldl f a = f ((L.take n).foldl f a) x := by
  rw [List.take_add_one, hx]; simp
theorem field_eq (o : MachOperand) (hl : o.Pieces.length ≤ 1000) : machine_field o = some (fieldP o.Pieces) := by
  unfold machine_field
  simp only [jn]
  have := lp_fold (σ := Int × Int) (body := machine_field_b2 o machine_field_k1) (R := some (fieldP o.Pieces)) o.Pieces
    (fun n => (fieldP (o.Pieces.take n), (n : Int))) ?_ ?_
  · exact this
  · intro n p rec hx
    have hn := lt_len hx
    simp only [machine_field_b2]
    rw [if_in hx, ix_some hx, Option.bind_some, w64_nat (by omega)]
    simp only [fieldP, foldl_take_succ hx]
  · intro rec
    simp only [machine_field_b2]
    rw [if_out]; simp [machine_field_k1]
theorem field_sum (l : List MachPiece) (h : ∀ p ∈ l, 1 ≤ p.Len ∧ p.Len ≤ 32) (hl : l.length ≤ 1000) : fieldP l = (l.map (·.Len)).sum ∧ (l.length : Int) ≤ fieldP l ∧ fieldP l ≤ 32 * l.length := by
  have key : ∀ (l : List MachPiece) (a : Int), (∀ p ∈ l, 1 ≤ p.Len ∧ p.Len ≤ 32) → 0 ≤ a → a + 32 * l.length ≤ 1000000 →
      l.foldl (fun a p => w64 (a + p.Len)) a = a + (l.map (·.Len)).sum ∧ (l.length : Int) ≤ (l.map (·.Len)).sum ∧ (l.map (·.Len)).sum ≤ 32 * l.length := by
    intro l
    induction l with
    | nil => intro a _ _ _; simp
    | cons p l ih =>
      intro a h ha hb
      have h1 := h p (List.mem_cons_self ..)
      simp only [List.length_cons] at hb
      have h2 := ih (a + p.Len) (fun q hq => h q (List.mem_cons_of_mem _ hq)) (by omega) (by omega)
      simp only [List.foldl_cons, List.map_cons, List.sum_cons, List.length_cons]
      rw [w64_id (by omega) (by omega), h2.1]
      omega
  have := key l 0 h (by omega) (by omega)
  unfold fieldP
  rw [this.1]; simp only [Int.zero_add]
  exact ⟨trivial, this.2⟩
end
end Go.Proofs.YtgmpgoafokdcbaaGreatDoor.Sx
