/- Plain specs: machine.operand. -/
import Derived.Test.YtgmpgoafokdcbaaGreatDoorPpd
set_option linter.unusedVariables false
set_option linter.unusedSimpArgs false
namespace Go.Proofs.YtgmpgoafokdcbaaGreatDoor.Sx
open Go Go.RowKit
section
open Classical
def maskP (n : Int) : Int := if 1 ≤ n ∧ n ≤ 64 then 2 ^ n.toNat - 1 else 0
theorem MaskP_eq (n : Int) : bits_Mask n = some (maskP n) := Mask_eq n
def pieceM (p : MachPiece) : Int := sShl .u64 (maskP p.Len) p.At
def takenP (l : List MachPiece) : Int := l.foldl (fun t p => bOr .u64 t (pieceM p)) 0
def PieceP (M : Machine) (l : List MachPiece) (i : Nat) (p : MachPiece) : Prop :=
  (1 ≤ p.Len ∧ p.Len ≤ 8 * M.Word) ∧ 0 ≤ p.At ∧ p.At ≤ 8 * M.Word - p.Len ∧ bAnd .u64 (takenP (l.take i)) (pieceM p) = 0
def OpndP (M : Machine) (s : MachInstr) (i : Nat) (o : MachOperand) : Prop :=
  Each o.Pieces (PieceP M o.Pieces) ∧
  ((o.Kind = 1 ∧ (0 ≤ o.Bank ∧ o.Bank < M.Banks.length) ∧ o.Scale = 0 ∧
      ((o.Tied = -1 ∧ 0 < fieldP o.Pieces ∧ (6 < fieldP o.Pieces ∨ ∃ b, M.Banks[o.Bank.toNat]? = some b ∧ (b.Regs.length : Int) ≤ 2 ^ (fieldP o.Pieces).toNat)) ∨
       ((0 ≤ o.Tied ∧ o.Tied < i) ∧ o.Pieces.length = 0 ∧ ∃ t, s.Operands[o.Tied.toNat]? = some t ∧ t.Kind = 1 ∧ t.Bank = o.Bank ∧ t.Tied = -1))) ∨
   ((o.Kind = 2 ∨ o.Kind = 3 ∨ o.Kind = 4) ∧ o.Bank = 0 ∧ o.Tied = -1 ∧ (0 ≤ o.Scale ∧ o.Scale ≤ 3) ∧ 0 < fieldP o.Pieces ∧ fieldP o.Pieces + o.Scale ≤ M.Address))
def OpndPost (c : machine_checker) (s : MachInstr) (i : Nat) (o : MachOperand) (r : Int × machine_checker) : Prop :=
  r.2.Machine = c.Machine ∧ (r.2.ok = true ↔ c.ok = true ∧ OpndP c.Machine s i o) ∧ (r.2.ok = true → r.1 = takenP o.Pieces)
theorem field_pieces {M : Machine} {o : MachOperand} (hw : 1 ≤ M.Word ∧ M.Word ≤ 4) (hl : o.Pieces.length ≤ 1000) (h : Each o.Pieces (PieceP M o.Pieces)) :
    (o.Pieces.length : Int) ≤ fieldP o.Pieces ∧ fieldP o.Pieces ≤ 32 * o.Pieces.length := by
  refine (field_sum o.Pieces (fun p hp => ?_) hl).2
  obtain ⟨i, hi, e⟩ := List.mem_iff_getElem.mp hp
  have := h i p (by rw [List.getElem?_eq_getElem hi, e])
  have := this.1; omega
theorem shl1 (n : Int) (h0 : 0 ≤ n) (h : n ≤ 6) : sShl .i64 1 n = 2 ^ n.toNat := by
  obtain ⟨k, rfl⟩ : ∃ k : Nat, n = k := ⟨n.toNat, by omega⟩
  have : ∀ k : Nat, k < 7 → sShl .i64 1 (k : Int) = 2 ^ (k : Int).toNat := by decide
  exact this k (by omega)
theorem opnd_kind (c : machine_checker) (s : MachInstr) (i : Nat) (o : MachOperand) (hw : c.ok = true → 1 ≤ c.Machine.Word ∧ c.Machine.Word ≤ 4 ∧ c.Machine.Address ≤ 1000)
    (hp : o.Pieces.length ≤ 10) (hb : c.Machine.Banks.length ≤ 1000) (hs : i < s.Operands.length) (hi : i < 1000)
    (c' : machine_checker) (hM : c'.Machine = c.Machine) (ho : c'.ok = true ↔ c.ok = true ∧ Each o.Pieces (PieceP c.Machine o.Pieces)) :
    Ok (machine_checker_operand_k1 s (i : Int) o (takenP o.Pieces, c')) (OpndPost c s i o) := by
  obtain ⟨M, b⟩ := c'
  simp only at hM ho
  subst hM
  simp only [machine_checker_operand_k1, jn]
  by_cases hk : o.Kind = 1
  · have e1 : (o.Kind == 1) = true := by simp [hk]
    rw [e1, cond_true, within_eq, Option.bind_some, must2, Option.bind_some, w64_id (by omega) (by omega)]
    refine ok_if ?_ ?_
    · intro hn
      refine ok_s ⟨rfl, ?_, ?_⟩
      · simp only [Bool.not_eq_true'] at hn
        rw [hn]
        simp only [Bool.false_eq_true, false_iff]
        rintro ⟨h1, h2, h3⟩
        rcases h3 with h3 | h3
        · have hb := ho.mpr ⟨h1, h2⟩
          rw [hb] at hn
          simp only [Bool.true_and, Bool.and_eq_false_iff, decide_eq_false_iff_not, beq_eq_false_iff_ne, ne_eq] at hn
          have := h3.2.1; have := h3.2.2.1
          rcases hn with hn | hn
          · exact hn (by omega)
          · exact hn this
        · omega
      · intro h; simp only [Bool.not_eq_true'] at hn; rw [hn] at h; cases h
    · intro hn
      simp only [Bool.not_eq_false'] at hn
      rw [hn]
      simp only [Bool.and_eq_true, decide_eq_true_eq, beq_iff_eq] at hn
      obtain ⟨hb1, ⟨hb2, hb3⟩, hsc⟩ := hn
      have hb3' : o.Bank < (c.Machine.Banks.length : Int) := by omega
      obtain ⟨hc, hE⟩ := ho.mp hb1
      have hf := field_pieces ⟨(hw hc).1, (hw hc).2.1⟩ (by omega) hE
      have hf0 : 0 ≤ fieldP o.Pieces := by omega
      obtain ⟨bank, hbk, hbk'⟩ := ix_lt hb2 hb3'
      by_cases ht : o.Tied = -1
      · have e2 : (o.Tied == -1) = true := by simp [ht]
        rw [e2, cond_true, field_eq o (by omega), Option.bind_some]
        by_cases h6 : 6 < fieldP o.Pieces
        · have e3 : decide (6 < fieldP o.Pieces) = true := by simp [h6]
          rw [e3]
          simp only [Bool.true_and, Bool.true_or, show ((true == false) = false) from rfl, cond_false, Option.bind_some, Bool.not_false, asr_t, must2, machine_checker_operand_k2]
          refine ok_s ⟨rfl, ?_, fun _ => rfl⟩
          simp only [Bool.and_true, decide_eq_true_eq]
          refine ⟨fun h => ⟨hc, hE, .inl ⟨hk, ⟨hb2, hb3'⟩, hsc, .inl ⟨ht, h, .inl h6⟩⟩⟩, fun _ => by omega⟩
        · have e3 : decide (6 < fieldP o.Pieces) = false := by simp [h6]
          rw [e3]
          have e4 : decide (0 ≤ fieldP o.Pieces) = true := by simp [hf0]
          simp only [Bool.true_and, Bool.false_or, show ((false == false) = true) from rfl, cond_true, Bool.not_true, e4, Bool.or_true, asr_t, hbk, Option.bind_some, must2, machine_checker_operand_k2]
          rw [shl1 _ hf0 (by omega)]
          refine ok_s ⟨rfl, ?_, fun _ => rfl⟩
          simp only [Bool.and_eq_true, decide_eq_true_eq]
          constructor
          · rintro ⟨h1, h2⟩
            exact ⟨hc, hE, .inl ⟨hk, ⟨hb2, hb3'⟩, hsc, .inl ⟨ht, h1, .inr ⟨bank, hbk', h2⟩⟩⟩⟩
          · rintro ⟨_, _, h | h⟩
            · rcases h.2.2.2 with ⟨_, h1, h2 | ⟨bank', h2, h3⟩⟩ | h4
              · omega
              · rw [hbk'] at h2; cases h2; exact ⟨h1, h3⟩
              · exact absurd ht (by have := h4.1.1; clear h4; omega)
            · exact absurd hk (by have := h.1; clear h; omega)
      · have e2 : (o.Tied == -1) = false := by simp [ht]
        rw [e2, cond_false, within_eq, Option.bind_some, must2, Option.bind_some, w64_id (by omega) (by omega)]
        refine ok_if ?_ ?_
        · intro hn
          simp only [Bool.true_and, Bool.and_eq_true, decide_eq_true_eq, beq_iff_eq] at hn
          obtain ⟨⟨h1, h2⟩, h3⟩ := hn
          obtain ⟨t, hT, hT'⟩ := ix_lt (l := s.Operands) h1 (by omega)
          rw [hT, Option.bind_some, must3, Option.bind_some]
          simp only [machine_checker_operand_k2]
          refine ok_s ⟨rfl, ?_, fun _ => rfl⟩
          have e5 : decide (0 ≤ o.Tied ∧ o.Tied ≤ (i : Int) - 1) = true := by simp [h1, h2]
          have e6 : ((o.Pieces.length : Int) == 0) = true := by simp [h3]
          simp only [e5, e6, Bool.true_and, Bool.and_eq_true, beq_iff_eq]
          constructor
          · rintro ⟨a, b, d⟩
            exact ⟨hc, hE, .inl ⟨hk, ⟨hb2, hb3'⟩, hsc, .inr ⟨⟨h1, by omega⟩, by omega, t, hT', a, b, d⟩⟩⟩
          · rintro ⟨_, _, h | h⟩
            · rcases h.2.2.2 with h4 | ⟨_, _, t', h4, a⟩
              · exact absurd h4.1 ht
              · rw [hT'] at h4; cases h4; exact a
            · exact absurd hk (by have := h.1; clear h; omega)
        · intro hn
          refine ok_s ⟨rfl, ?_, ?_⟩
          · rw [show (true && (decide (0 ≤ o.Tied ∧ o.Tied ≤ (i : Int) - 1) && ((o.Pieces.length : Int) == 0))) = false from hn]
            simp only [Bool.false_eq_true, false_iff]
            rintro ⟨_, _, h | h⟩
            · rcases h.2.2.2 with h4 | ⟨h4, h5, _⟩
              · exact absurd h4.1 ht
              · simp only [Bool.true_and, Bool.and_eq_false_iff, decide_eq_false_iff_not, beq_eq_false_iff_ne, ne_eq] at hn
                omega
            · exact absurd hk (by have := h.1; clear h; omega)
          · intro h
            exact absurd (hn.symm.trans h) (by decide)
  · have e1 : (o.Kind == 1) = false := by simp [hk]
    rw [e1, cond_false]
    have hbad : Ok (machine_checker_operand_k3 o (takenP o.Pieces) ⟨c.Machine, b⟩ machine_checker_operand_k2 false) (fun r => r.2.Machine = c.Machine ∧ r.2.ok = false) := by
      simp only [machine_checker_operand_k3, cond_false, must1, Option.bind_some, machine_checker_operand_k2]
      exact ok_s ⟨rfl, by simp⟩
    have hgood : (o.Kind = 2 ∨ o.Kind = 3 ∨ o.Kind = 4) → Ok (machine_checker_operand_k3 o (takenP o.Pieces) ⟨c.Machine, b⟩ machine_checker_operand_k2 true) (OpndPost c s i o) := by
      intro hk'
      simp only [machine_checker_operand_k3, cond_true, field_eq o (by omega : o.Pieces.length ≤ 1000), within_eq, must5, Option.bind_some, machine_checker_operand_k2]
      refine ok_s ⟨rfl, ?_, fun _ => rfl⟩
      simp only [Bool.and_eq_true, decide_eq_true_eq, beq_iff_eq, ho]
      constructor
      · rintro ⟨⟨h1, h2⟩, h3, h4, h5, h6, h7⟩
        have hf := field_pieces ⟨(hw h1).1, (hw h1).2.1⟩ (by omega) h2
        rw [w64_id (by omega) (by omega)] at h7
        exact ⟨h1, h2, .inr ⟨hk', h3, h4, h5, h6, h7⟩⟩
      · rintro ⟨h1, h2, h | ⟨_, h3, h4, h5, h6, h7⟩⟩
        · exact absurd h.1 hk
        · have hf := field_pieces ⟨(hw h1).1, (hw h1).2.1⟩ (by omega) h2
          rw [w64_id (by omega) (by omega)]
          exact ⟨⟨h1, h2⟩, h3, h4, h5, h6, h7⟩
    by_cases k2 : o.Kind = 2
    · have e : (o.Kind == 2) = true := by simp [k2]
      rw [e, cond_true]; exact hgood (.inl k2)
    · have e : (o.Kind == 2) = false := by simp [k2]
      rw [e, cond_false]
      by_cases k3 : o.Kind = 3
      · have e : (o.Kind == 3) = true := by simp [k3]
        rw [e, cond_true]; exact hgood (.inr (.inl k3))
      · have e : (o.Kind == 3) = false := by simp [k3]
        rw [e, cond_false]
        by_cases k4 : o.Kind = 4
        · have e : (o.Kind == 4) = true := by simp [k4]
          rw [e]; exact hgood (.inr (.inr k4))
        · have e : (o.Kind == 4) = false := by simp [k4]
          rw [e]
          refine ok_mono hbad ?_
          rintro r ⟨h1, h2⟩
          refine ⟨h1, ?_, ?_⟩
          · rw [h2]; simp only [Bool.false_eq_true, false_iff]
            rintro ⟨_, _, h | h⟩
            · exact hk h.1
            · have := h.1; clear h; omega
          · intro h; rw [h2] at h; cases h
theorem opnd_ok (c : machine_checker) (s : MachInstr) (i : Nat) (o : MachOperand) (hw : c.ok = true → 1 ≤ c.Machine.Word ∧ c.Machine.Word ≤ 4 ∧ c.Machine.Address ≤ 1000)
    (hp : o.Pieces.length ≤ 10) (hb : c.Machine.Banks.length ≤ 1000) (hx : s.Operands[i]? = some o) (hi : i < 1000) :
    Ok (machine_checker_operand c s (i : Int)) (OpndPost c s i o) := by
  unfold machine_checker_operand
  rw [ix_some hx, Option.bind_some]
  simp only [jn]
  refine ok_lp o.Pieces (fun n r => r.1 = takenP (o.Pieces.take n) ∧ r.2.1 = (n : Int) ∧ r.2.2.Machine = c.Machine ∧ (r.2.2.ok = true ↔ c.ok = true ∧ Till o.Pieces n (PieceP c.Machine o.Pieces))) ?_ ?_ ?_
  · exact ⟨rfl, rfl, rfl, by simp [till_zero]⟩
  · rintro n p ⟨t, v, ⟨M, b⟩⟩ rec hx' ⟨rfl, hv, hM, ho⟩ hr
    simp only at hv hM ho; subst hv hM
    have hn := lt_len hx'
    simp only [machine_checker_operand_b4]
    rw [if_in hx', ix_some hx', Option.bind_some, within_eq, Option.bind_some, must3, Option.bind_some]
    refine ok_if ?_ ?_
    · intro hn'
      simp only [Bool.not_eq_true'] at hn'
      rw [hn']
      refine ok_s ⟨rfl, ?_, fun h => by cases h⟩
      simp only [Bool.false_eq_true, false_iff]
      rintro ⟨h1, h2, _⟩
      have hb := ho.mpr ⟨h1, fun k y _ hy => h2 k y hy⟩
      have := hw h1
      have hP := h2 n p hx'
      have e8 : w64 (8 * c.Machine.Word) = 8 * c.Machine.Word := w64_id (by omega) (by omega)
      rw [hb, e8, w64_id (by have := hP.1; omega) (by have := hP.1; omega)] at hn'
      have e1 : decide (1 ≤ p.Len ∧ p.Len ≤ 8 * c.Machine.Word) = true := by simp [hP.1]
      have e2 : decide (0 ≤ p.At) = true := by simp [hP.2.1]
      have e3 : decide (p.At ≤ 8 * c.Machine.Word - p.Len) = true := by simp [hP.2.2.1]
      rw [e1, e2, e3] at hn'; cases hn'
    · intro hn'
      simp only [Bool.not_eq_false'] at hn'
      rw [hn']
      simp only [Bool.and_eq_true, decide_eq_true_eq] at hn'
      obtain ⟨hb, h1, h2, h3⟩ := hn'
      obtain ⟨hc, hT⟩ := ho.mp hb
      have := hw hc
      have e8 : w64 (8 * c.Machine.Word) = 8 * c.Machine.Word := w64_id (by omega) (by omega)
      rw [e8] at h1 h3
      rw [w64_id (by omega) (by omega)] at h3
      have e2 : decide (0 ≤ p.At) = true := by simp [h2]
      rw [MaskP_eq, Option.bind_some, e2, asr_t, must1, Option.bind_some, w64_nat (by omega)]
      refine hr _ ⟨?_, rfl, rfl, ?_⟩
      · simp only [takenP, foldl_take_succ hx']; rfl
      · simp only [Bool.true_and, beq_iff_eq, till_step hx']
        exact ⟨fun h => ⟨hc, hT, h1, h2, h3, h⟩, fun h => h.2.2.2.2.2⟩
  · rintro ⟨t, v, c'⟩ rec ⟨rfl, hv, hM, ho⟩
    simp only at hv hM ho; subst hv
    simp only [machine_checker_operand_b4]
    rw [if_out]
    have := opnd_kind c s i o hw hp hb (lt_len hx) hi c' hM (by rw [ho, till_end])
    rw [List.take_length]
    exact this
end
end Go.Proofs.YtgmpgoafokdcbaaGreatDoor.Sx
