/- Plain specs: CheckOp, cycle.list, Pipe. -/
import Derived.Test.YtgmpgoafokdcbaaGreatDoorPpj
set_option linter.unusedVariables false
set_option linter.unusedSimpArgs false
namespace Go.Proofs.YtgmpgoafokdcbaaGreatDoor.Sx
open Go Go.RowKit
section
open Classical
theorem shl_ne (n : Int) (h0 : 0 ≤ n) (h : n ≤ 3) : ((sShl .i64 1 n) != 0) = true := by
  rw [shl1 n h0 (by omega)]
  obtain ⟨k, rfl⟩ : ∃ k : Nat, n = k := ⟨n.toNat, by omega⟩
  have : ∀ k : Nat, k < 4 → ((2 : Int) ^ (k : Int).toNat != 0) = true := by decide
  exact this k (by omega)
theorem ranged_ok (o : MachOperand) (n : Int) (hp : o.Pieces.length ≤ 1000) (hs : 0 ≤ o.Scale ∧ o.Scale ≤ 3) (hf : 0 < fieldP o.Pieces ∧ fieldP o.Pieces ≤ 1000) : ∃ b, machine_ranged o n = some b := by
  unfold machine_ranged
  rw [show decide (0 ≤ o.Scale) = true by simp [hs.1], asr_t, shl_ne _ hs.1 hs.2, asr_t]
  cases (Int.tmod n (sShl .i64 1 o.Scale) != 0) with
  | true => exact ⟨_, rfl⟩
  | false =>
    rw [cond_false, asr_t, field_eq o hp, Option.bind_some]
    cases (o.Kind == 3) with
    | true => rw [cond_true, show decide (0 ≤ fieldP o.Pieces) = true by simp; omega, asr_t, within_eq]; exact ⟨_, rfl⟩
    | false =>
      rw [cond_false, w64_id (by omega) (by omega), show decide (0 ≤ fieldP o.Pieces - 1) = true by simp; omega, asr_t, asr_t, within_eq]; exact ⟨_, rfl⟩
structure FitOp (M : Machine) (op : MachOp) (s : MachInstr) : Prop where
  instr : M.Instrs[op.Instr.toNat]? = some s
  pos : 0 ≤ op.Instr
  args : op.Args.length = s.Operands.length
  regs : ∀ (i : Nat) (o : MachOperand) (a : Int), s.Operands[i]? = some o → op.Args[i]? = some a → o.Kind = 1 → 0 ≤ a ∧ a < M.Regs.length
theorem opnd_facts {M : Machine} (hs : SmallM M) (hm : MachP M) {k : Nat} {s : MachInstr} (hk : M.Instrs[k]? = some s) {i : Nat} {o : MachOperand} (hi : s.Operands[i]? = some o) :
    o.Pieces.length ≤ 4 ∧ (o.Kind = 1 → (0 ≤ o.Bank ∧ o.Bank < M.Banks.length) ∧ o.Tied < (i : Int)) ∧ (o.Kind ≠ 1 → (0 ≤ o.Scale ∧ o.Scale ≤ 3) ∧ 0 < fieldP o.Pieces ∧ fieldP o.Pieces ≤ 1000) := by
  have h1 := (hm.2 k s hk).2
  have hP := (h1.2.1 i o hi).2.1
  have hI := hs.instr s (List.mem_of_getElem? hk)
  have hp := hI.2.2 o (List.mem_of_getElem? hi)
  refine ⟨hp, fun hk' => ?_, fun hk' => ?_⟩
  · rcases hP.2 with h | h
    · refine ⟨h.2.1, ?_⟩
      rcases h.2.2.2 with h' | h'
      · have := h'.1; clear h h'; omega
      · exact h'.1.2
    · have := h.1; clear h; omega
  · rcases hP.2 with h | h
    · exact absurd h.1 hk'
    · have hf := field_pieces hm.1.1.2.1 (by omega) hP.1
      refine ⟨h.2.2.2.1, h.2.2.2.2.1, ?_⟩
      clear h; omega
theorem instr_mem {M : Machine} {i : Int} (h : 0 ≤ i ∧ i ≤ (M.Instrs.length : Int) - 1) : ∃ s, ix M.Instrs i = some s ∧ M.Instrs[i.toNat]? = some s := ix_lt h.1 (by omega)
theorem bank_reg {M : Machine} (hm : MachP M) {b : Int} {bank : MachBank} (hb : M.Banks[b.toNat]? = some bank) {a : Int} (ha : a ∈ bank.Regs) : 0 ≤ a ∧ a < M.Regs.length := by
  obtain ⟨i, hi, e⟩ := List.mem_iff_getElem.mp ha
  exact ((hm.1.2.2.1 _ bank hb).2.2 i a (by rw [List.getElem?_eq_getElem hi, e])).1
theorem CheckOp_ok {M : Machine} (hs : SmallM M) (hm : MachP M) (hc : machine_Check M = some 0) (op : MachOp) : Ok (machine_CheckOp M op) (fun e => e = 0 → ∃ s, FitOp M op s) := by
  have hl := hs.instrs
  unfold machine_CheckOp
  rw [hc, Option.bind_some, show ((0 : Int) != 0) = false from rfl, cond_false, within_eq, Option.bind_some, w64_id (by omega) (by omega)]
  refine ok_if (fun _ => ok_s (fun e => absurd e (by decide))) fun h => ?_
  simp only [Bool.not_eq_false', decide_eq_true_eq] at h
  obtain ⟨s, e, e'⟩ := instr_mem h
  rw [e, Option.bind_some]
  refine ok_if (fun _ => ok_s (fun e => absurd e (by decide))) fun ha => ?_
  have ha' : op.Args.length = s.Operands.length := by
    have : (op.Args.length : Int) = (s.Operands.length : Int) := by simpa using ha
    omega
  have hI := hs.instr s (List.mem_of_getElem? e')
  have hI1 := hI.1
  simp only [jn]
  refine ok_lp s.Operands (fun n v => v = (n : Int) ∧ ∀ (i : Nat) (o : MachOperand) (a : Int), i < n → s.Operands[i]? = some o → op.Args[i]? = some a → o.Kind = 1 → 0 ≤ a ∧ a < M.Regs.length) ?_ ?_ ?_
  · exact ⟨rfl, fun i o a hi => absurd hi (Nat.not_lt_zero i)⟩
  · rintro n o v rec hx ⟨rfl, hb⟩ hr
    have hn := lt_len hx
    simp only [machine_CheckOp_b2, jn]
    have hA : op.Args[n]? = some op.Args[n] := List.getElem?_eq_getElem (by omega)
    rw [if_in hx, ix_some hx, Option.bind_some, ix_some hA, Option.bind_some]
    simp only [machine_CheckOp_k3]
    rw [w64_nat (by omega)]
    obtain ⟨f1, f2, f3⟩ := opnd_facts hs hm e' hx
    by_cases hk : o.Kind = 1
    · rw [show (o.Kind != 1) = false by simp [hk], cond_false]
      obtain ⟨⟨b1, b2⟩, b3⟩ := f2 hk
      obtain ⟨bank, eb, eb'⟩ := ix_lt b1 b2
      have hbl := hs.bank bank (List.mem_of_getElem? eb')
      rw [eb, Option.bind_some, Contains_i _ _ (by omega), Option.bind_some]
      refine ok_if (fun _ => ok_s (fun e => absurd e (by decide))) fun hcn => ?_
      simp only [Bool.not_eq_false', decide_eq_true_eq] at hcn
      have hreg := bank_reg hm eb' hcn
      have hrec : Ok (rec ((n + 1 : Nat) : Int)) (fun e => e = 0 → ∃ s, FitOp M op s) := by
        refine hr _ ⟨rfl, fun i o' a hi ho ha hk => ?_⟩
        by_cases ein : i = n
        · subst ein; rw [hA] at ha; cases ha; exact hreg
        · exact hb i o' a (by omega) ho ha hk
      refine ok_b (Q := fun _ => True) ?_ fun r _ => ok_if (fun _ => ok_s (fun e => absurd e (by decide))) fun _ => hrec
      by_cases ht : 0 ≤ o.Tied
      · rw [show decide (0 ≤ o.Tied) = true by simp [ht]]
        obtain ⟨y, ey, _⟩ := ix_lt (l := op.Args) ht (by omega)
        exact ⟨y, ey, trivial⟩
      · rw [show decide (0 ≤ o.Tied) = false by simp [ht]]
        exact ok_s trivial
    · rw [show (o.Kind != 1) = true by simp [hk], cond_true]
      obtain ⟨g1, g2⟩ := f3 hk
      obtain ⟨b, eb⟩ := ranged_ok o op.Args[n] (by omega) g1 g2
      rw [eb, Option.bind_some]
      refine ok_if (fun _ => ok_s (fun e => absurd e (by decide))) fun _ => ?_
      refine hr _ ⟨rfl, fun i o' a hi ho ha hk' => ?_⟩
      by_cases ein : i = n
      · subst ein; rw [hx] at ho; cases ho; exact absurd hk' hk
      · exact hb i o' a (by omega) ho ha hk'
  · rintro v rec ⟨rfl, hb⟩
    simp only [machine_CheckOp_b2]
    rw [if_out]
    exact ok_s fun _ => ⟨s, e', h.1, ha', fun i o a ho ha hk => hb i o a (lt_len ho) ho ha hk⟩
/-! ### the new pipe -/
def newPipe (M : Machine) : Pipe := ⟨0, false, M.Units.map fun u => List.replicate u.Count.toNat 0, List.replicate (topsP M).length 0, 0⟩
theorem mkOk_t {n : Int} {b : Nat} (h0 : 0 ≤ n) (h : n ≤ 1000000) (hb : b ≤ 1000) : mkOk n b = true := by
  have : n.toNat * b ≤ 1000000 * 1000 := Nat.mul_le_mul (by omega) hb
  simp only [mkOk, Bool.and_eq_true, decide_eq_true_eq]; omega
theorem roots_len {M : Machine} (hs : SmallM M) : (topsP M).length ≤ 64 := by
  have := tops_len (L := M.Regs) M.Regs.length
  have := hs.regs
  unfold topsP; omega
theorem Pipe_eq {M : Machine} (hs : SmallM M) (hm : MachP M) {c : core_Core} (hc : CoreP M c) : core_Core_Pipe c = some (newPipe M) := by
  obtain ⟨c1, c2, c3, c4⟩ := hc
  obtain ⟨M', R, pl⟩ := c
  simp only at c1 c2 c3 c4; subst c1
  have := roots_len hs
  have hu := hs.units
  unfold core_Core_Pipe
  simp only
  rw [c2, mkOk_t (by omega) (by omega) (by omega), asr_t]
  simp only [jn]
  refine lp_fold (body := core_Core_Pipe_b2 ⟨M', ((topsP M').length : Int), pl⟩ core_Core_Pipe_k1) M'.Units (fun n => ((n : Int), 0, false, List.replicate ((topsP M').length : Int).toNat 0, 0, (M'.Units.take n).map fun u => List.replicate u.Count.toNat 0)) ?_ ?_
  · intro n u rec hx
    have hn := lt_len hx
    have hU := hm.1.2.2.2.2 n u hx
    have := hU.2
    simp only [core_Core_Pipe_b2]
    rw [if_in hx, ix_some hx, Option.bind_some, mkOk_t (by omega) (by omega) (by omega), asr_t, roomy_t (by have := @take_len _ M'.Units n; simp only [List.length_map, List.length_singleton]; omega) (by omega), asr_t, w64_nat (by omega), take_map_succ hx]
  · intro rec
    simp only [core_Core_Pipe_b2]
    rw [if_out, List.take_length]
    rfl
/-! ### cycle.list -/
theorem CheckOp_bad {M : Machine} {e : Int} (h : machine_Check M = some e) (h0 : e ≠ 0) (op : MachOp) : machine_CheckOp M op = some e := by
  unfold machine_CheckOp
  rw [h, Option.bind_some, show (e != 0) = true by simp [h0], cond_true]
theorem list_ok {M : Machine} (hg : GoodM M) (l : List MachOp) (hl : l.length ≤ 9223372036854775807) :
    Ok (cycle_list M l) (fun r => (∃ e, r = .inl e ∧ e ≠ 0) ∨ (∃ c, r = .inr c ∧ (SmallM M ∧ MachP M ∧ machine_Check M = some 0) ∧ core_New M = some (.inr c) ∧ CoreP M c ∧ l.length ≤ 64 ∧ ∀ op ∈ l, machine_CheckOp M op = some 0)) := by
  obtain ⟨e, he, _, h0⟩ := Check_ok M hg
  unfold cycle_list
  by_cases hz : e = 0
  · obtain ⟨hs, hm⟩ := h0.mp hz
    subst hz
    obtain ⟨c, hN, hC⟩ := New_ok hs hm he
    rw [hN, Option.bind_some]
    simp only [cs2, jn]
    refine ok_if (fun _ => ok_s (.inl ⟨4, rfl, by decide⟩)) fun h64 => ?_
    simp only [decide_eq_false_iff_not] at h64
    refine ok_lp l (fun n v => v = (n : Int) ∧ ∀ (i : Nat) (op : MachOp), i < n → l[i]? = some op → machine_CheckOp M op = some 0) ?_ ?_ ?_
    · exact ⟨rfl, fun i o hi => absurd hi (Nat.not_lt_zero i)⟩
    · rintro n op v rec hx ⟨rfl, hb⟩ hr
      have hn := lt_len hx
      simp only [cycle_list_b2]
      obtain ⟨e, ee, _⟩ := CheckOp_ok hs hm he op
      rw [if_in hx, ix_some hx, Option.bind_some, ee, Option.bind_some, w64_nat (by omega)]
      refine ok_if (fun h => ok_s (.inl ⟨e, rfl, by simpa using h⟩)) fun h => ?_
      have e0 : e = 0 := by simpa using h
      subst e0
      refine hr _ ⟨rfl, fun i o hi ho => ?_⟩
      by_cases ein : i = n
      · subst ein; rw [hx] at ho; cases ho; exact ee
      · exact hb i o (by omega) ho
    · rintro v rec ⟨rfl, hb⟩
      simp only [cycle_list_b2]
      rw [if_out]
      refine ok_s (.inr ⟨c, rfl, ⟨hs, hm, he⟩, rfl, hC, by omega, fun op ho => ?_⟩)
      obtain ⟨i, hi, e⟩ := List.mem_iff_getElem.mp ho
      exact hb i op hi (by rw [List.getElem?_eq_getElem hi, e])
  · rw [New_bad he hz, Option.bind_some]
    simp only [cs2]
    rw [show (e != 0) = true by simp [hz], cond_true]
    exact ok_s (.inl ⟨e, rfl, hz⟩)
end
end Go.Proofs.YtgmpgoafokdcbaaGreatDoor.Sx
