/- Plain specs: none, variables, effect. -/
import Derived.Test.YtgmpgoafokdcbaaGreatDoorPpg
set_option linter.unusedVariables false
set_option linter.unusedSimpArgs false
namespace Go.Proofs.YtgmpgoafokdcbaaGreatDoor.Sx
open Go Go.RowKit
section
open Classical
def NoneT (t : Term) : Prop := t.Kind = 0 ∧ t.Width = 0 ∧ t.Bits = 0 ∧ t.Name = ⟨#[]⟩ ∧ t.Low = 0 ∧ t.Sub.length = 0
theorem none_eq (l : List Term) (h : l.length < 1000) : machine_none l = some (decide (∀ t ∈ l, NoneT t)) := by
  unfold machine_none
  simp only [jn]
  have := lp_first (body := machine_none_b2 l machine_none_k1) l (fun n => (n : Int)) (fun n t => decide (¬ NoneT t)) (A := some false) (B := some true) ?_ ?_
  · rcases this with ⟨⟨n, x, hx, hp⟩, e⟩ | ⟨ha, e⟩
    · have e' : lp (machine_none_b2 l machine_none_k1) (l.length + 1) 0 = some false := e
      rw [e', decide_eq_false]
      intro h'
      exact (of_decide_eq_true hp) (h' x (List.mem_of_getElem? hx))
    · have e' : lp (machine_none_b2 l machine_none_k1) (l.length + 1) 0 = some true := e
      rw [e', decide_eq_true]
      intro t ht
      obtain ⟨i, hi, e⟩ := List.mem_iff_getElem.mp ht
      have := ha i t (by rw [List.getElem?_eq_getElem hi, e])
      exact Classical.not_not.mp (of_decide_eq_false this)
  · intro n t rec hx
    have hn := lt_len hx
    simp only [machine_none_b2]
    rw [if_in hx, ix_some hx, Option.bind_some, w64_nat (by omega)]
    congr 1
    rw [Bool.eq_iff_iff]
    simp only [sEq_dec, Bool.or_eq_true, bne_iff_ne, Bool.not_eq_true', decide_eq_false_iff_not, decide_eq_true_eq, ne_eq]
    constructor
    · rintro h ⟨a, b, c, d, e, f⟩
      rcases h with ((((h | h) | h) | h) | h) | h
      · exact h a
      · exact h b
      · exact h c
      · exact h d
      · exact h e
      · omega
    · intro h
      by_cases a : t.Kind = 0
      · by_cases b : t.Width = 0
        · by_cases c : t.Bits = 0
          · by_cases d : t.Name = ⟨#[]⟩
            · by_cases e : t.Low = 0
              · right
                by_cases f : t.Sub.length = 0
                · exact absurd ⟨a, b, c, d, e, f⟩ h
                · omega
              · exact .inl (.inr e)
            · exact .inl (.inl (.inr d))
          · exact .inl (.inl (.inl (.inr c)))
        · exact .inl (.inl (.inl (.inl (.inr b))))
      · exact .inl (.inl (.inl (.inl (.inl a))))
  · intro rec
    simp only [machine_none_b2]
    rw [if_out]; rfl
theorem none1 (a : Term) : machine_none [a] = some (decide (NoneT a)) := by rw [none_eq _ (by simp)]; simp
theorem none2 (a b : Term) : machine_none [a, b] = some (decide (NoneT a ∧ NoneT b)) := by rw [none_eq _ (by simp)]; simp
/-! ### variables -/
def wideP (M : Machine) (o : MachOperand) : Int := (machine_wide M o).getD 0
def WideOk (M : Machine) (o : MachOperand) : Prop := ∃ w, machine_wide M o = some w
theorem wide_eq {M : Machine} {o : MachOperand} (h : WideOk M o) : machine_wide M o = some (wideP M o) := by
  obtain ⟨w, h⟩ := h; simp [wideP, h]
theorem wide_ok {M : Machine} (hB : BanksP M) (o : MachOperand) (h : o.Kind = 1 → 0 ≤ o.Bank ∧ o.Bank < M.Banks.length) : WideOk M o := by
  unfold WideOk machine_wide
  by_cases hk : o.Kind = 1
  · rw [show (o.Kind != 1) = false by simp [hk], cond_false]
    obtain ⟨b, e, hb⟩ := ix_lt (h hk).1 (h hk).2
    rw [e, Option.bind_some]
    obtain ⟨_, h1, h2⟩ := hB _ b hb
    have h0 : b.Regs[0]? = some b.Regs[0] := List.getElem?_eq_getElem h1
    rw [show ix b.Regs 0 = some b.Regs[0] from by rw [← h0]; exact ix_nat b.Regs 0, Option.bind_some]
    obtain ⟨r, e, _⟩ := ix_lt (h2 0 _ h0).1.1 (h2 0 _ h0).1.2
    rw [e]; exact ⟨_, rfl⟩
  · rw [show (o.Kind != 1) = true by simp [hk], cond_true]; exact ⟨_, rfl⟩
def rdot : ByteArray := ⟨#[114, 46]⟩
def varsR (M : Machine) (l : List MachReg) : List (ByteArray × Int) := l.foldl (fun m r => mSet m (rdot ++ r.Name) r.Width) (mSet [] ⟨#[112, 99]⟩ M.Address)
def varsP (M : Machine) (s : MachInstr) : List (ByteArray × Int) := s.Operands.foldl (fun m o => mSet m o.Name (wideP M o)) (varsR M M.Regs)
theorem vars_eq (c : machine_checker) (s : MachInstr) (hr : c.Machine.Regs.length ≤ 1000) (ho : s.Operands.length ≤ 1000) (hn : ∀ r ∈ c.Machine.Regs, r.Name.size ≤ 4611686018427387000)
    (hw : ∀ o ∈ s.Operands, WideOk c.Machine o) : machine_checker_variables c s = some (varsP c.Machine s) := by
  unfold machine_checker_variables
  simp only [jn]
  refine lp_fold (body := machine_checker_variables_b4 c (machine_checker_variables_k1 c s)) c.Machine.Regs (fun n => ((n : Int), varsR c.Machine (c.Machine.Regs.take n))) ?_ ?_
  · intro n r rec hx
    have hl := lt_len hx
    simp only [machine_checker_variables_b4]
    have := hn r (List.mem_of_getElem? hx)
    have e : decide ((⟨#[114, 46]⟩ : ByteArray).size + r.Name.size ≤ 9223372036854775807) = true := by
      have : (⟨#[114, 46]⟩ : ByteArray).size = 2 := rfl
      simp only [this, decide_eq_true_eq]; omega
    rw [if_in hx, ix_some hx, Option.bind_some, e, asr_t, w64_nat (by omega)]
    simp only [varsR, foldl_take_succ hx]; rfl
  · intro rec
    simp only [machine_checker_variables_b4]
    rw [if_out, List.take_length]
    simp only [machine_checker_variables_k1, jn]
    have := lp_fold (body := machine_checker_variables_b3 c s machine_checker_variables_k2) (R := some (varsP c.Machine s)) s.Operands
      (fun n => ((n : Int), (s.Operands.take n).foldl (fun m o => mSet m o.Name (wideP c.Machine o)) (varsR c.Machine c.Machine.Regs))) ?_ ?_
    · exact this
    · intro n o rec hx
      have hl := lt_len hx
      simp only [machine_checker_variables_b3]
      rw [if_in hx, ix_some hx, Option.bind_some, wide_eq (hw o (List.mem_of_getElem? hx)), Option.bind_some, w64_nat (by omega)]
      simp only [foldl_take_succ hx]
    · intro rec
      simp only [machine_checker_variables_b3]
      rw [if_out, List.take_length]; rfl
/-! ### effect -/
def EffP (M : Machine) (s : MachInstr) (m : List (ByteArray × Int)) (x : MachEffect) : Prop :=
  (x.Kind ≠ 1 → x.Operand = 0 ∧ x.Reg = 0) ∧ FitT M m x.Value ∧
  ((x.Kind = 1 ∧ (NoneT x.Addr ∧ NoneT x.Cond) ∧
      ((x.Operand = -1 ∧ 0 ≤ x.Reg ∧ x.Reg < M.Regs.length ∧ ∃ r, M.Regs[x.Reg.toNat]? = some r ∧ x.Value.Width = r.Width) ∨
       (x.Reg = 0 ∧ 0 ≤ x.Operand ∧ x.Operand < s.Operands.length ∧ ∃ o, s.Operands[x.Operand.toNat]? = some o ∧ o.Kind = 1 ∧ x.Value.Width = wideP M o))) ∨
   (x.Kind = 2 ∧ FitT M m x.Addr ∧ NoneT x.Cond ∧ x.Addr.Width = M.Address ∧ x.Value.Width ∈ [(8 : Int), 16, 32, 64]) ∨
   (x.Kind = 3 ∧ NoneT x.Addr ∧ x.Value.Width = M.Address ∧ (NoneT x.Cond ∨ (FitT M m x.Cond ∧ x.Cond.Width = 1))) ∨
   (x.Kind = 4 ∧ NoneT x.Addr ∧ NoneT x.Cond))
def GoodE (x : MachEffect) : Prop := GoodT x.Addr ∧ GoodT x.Value ∧ GoodT x.Cond
def EffPost (c : machine_checker) (s : MachInstr) (m : List (ByteArray × Int)) (x : MachEffect) (r : machine_checker × List (ByteArray × Int)) : Prop :=
  r.1.Machine = c.Machine ∧ r.2 = m ∧ (r.1.ok = true ↔ c.ok = true ∧ EffP c.Machine s m x)
theorem effect_ok (c : machine_checker) (s : MachInstr) (m : List (ByteArray × Int)) (x : MachEffect) (hg : GoodE x) (hr : c.Machine.Regs.length ≤ 1000) (ho : s.Operands.length ≤ 1000)
    (hw : ∀ o ∈ s.Operands, WideOk c.Machine o) : Ok (machine_checker_effect c s x m) (EffPost c s m x) := by
  obtain ⟨g1, g2, g3⟩ := hg
  unfold machine_checker_effect
  simp only [jn]
  have key : ∀ b : Bool, (b = true ↔ c.ok = true ∧ (x.Kind ≠ 1 → x.Operand = 0 ∧ x.Reg = 0)) → Ok (machine_checker_effect_k1 s x m ⟨c.Machine, b⟩) (EffPost c s m x) := by
    intro b hb
    simp only [machine_checker_effect_k1]
    refine ok_b (fits1_ok ⟨c.Machine, b⟩ m x.Value g2) ?_
    rintro ⟨⟨M, b1⟩, m'⟩ ⟨h1, h2, h3⟩
    simp only at h1 h2 h3; subst h1 h2
    simp only
    by_cases k1 : x.Kind = 1
    · rw [show (x.Kind == 1) = true by simp [k1], cond_true, none2, Option.bind_some, must1, Option.bind_some]
      simp only [within_eq, Bool.true_and]
      rw [w64_id (by omega) (by omega)]
      by_cases o1 : x.Operand = -1
      · rw [show ((x.Operand == -1) == true) = true by simp [o1], cond_true, Option.bind_some, show (x.Operand == -1) = true by simp [o1], Bool.true_and]
        by_cases o2 : 0 ≤ x.Reg ∧ x.Reg ≤ (c.Machine.Regs.length : Int) - 1
        · rw [decide_eq_true o2, cond_true]
          obtain ⟨r, e, e'⟩ := ix_lt (l := c.Machine.Regs) o2.1 (by omega)
          rw [e, Option.bind_some, must1, Option.bind_some]
          refine ok_s ⟨rfl, rfl, ?_⟩
          simp only [Bool.and_eq_true, decide_eq_true_eq, beq_iff_eq, h3, hb]
          constructor
          · rintro ⟨⟨⟨⟨a, b⟩, d⟩, e⟩, f⟩
            exact ⟨a, b, d, .inl ⟨k1, e, .inl ⟨o1, o2.1, by omega, r, e', f⟩⟩⟩
          · rintro ⟨a, b, d, h⟩
            rcases h with ⟨_, e, h | h⟩ | h | h | h
            · obtain ⟨_, _, _, r', e'', f⟩ := h
              rw [e'] at e''; cases e''
              exact ⟨⟨⟨⟨a, b⟩, d⟩, e⟩, f⟩
            · have := h.2.1; clear h; omega
            · have := h.1; clear h; omega
            · have := h.1; clear h; omega
            · have := h.1; clear h; omega
        · rw [decide_eq_false o2, cond_false]
          have o0 : ¬ (0 ≤ x.Operand ∧ x.Operand ≤ (s.Operands.length : Int) - 1) := by omega
          have hbad : ¬ EffP c.Machine s m' x := by
            rintro ⟨_, _, h⟩
            rcases h with ⟨_, e, h | h⟩ | h | h | h
            · obtain ⟨_, a, b, _⟩ := h; exact o2 ⟨a, by omega⟩
            · have := h.2.1; clear h; omega
            · have := h.1; clear h; omega
            · have := h.1; clear h; omega
            · have := h.1; clear h; omega
          have hfin : ∀ q : Bool, Ok ((machine_checker_must ⟨c.Machine, q⟩ [false]).bind fun r25 => some (r25, m')) (EffPost c s m' x) := by
            intro q
            rw [must1, Option.bind_some]
            exact ok_s ⟨rfl, rfl, by simp [hbad]⟩
          by_cases r0 : x.Reg = 0
          · rw [show ((x.Reg == 0) == true) = true by simp [r0], cond_true, Option.bind_some, w64_id (by omega) (by omega), decide_eq_false o0, Bool.and_false, cond_false]
            exact hfin _
          · rw [show ((x.Reg == 0) == true) = false by simp [r0], cond_false, Option.bind_some, show (x.Reg == 0) = false by simp [r0], Bool.false_and, cond_false]
            exact hfin _
      · rw [show ((x.Operand == -1) == true) = false by simp [o1], cond_false, Option.bind_some, show (x.Operand == -1) = false by simp [o1], Bool.false_and, cond_false]
        by_cases hg : x.Reg = 0 ∧ 0 ≤ x.Operand ∧ x.Operand ≤ (s.Operands.length : Int) - 1
        · obtain ⟨r0, o2⟩ := hg
          rw [show ((x.Reg == 0) == true) = true by simp [r0], cond_true, Option.bind_some, w64_id (by omega) (by omega), decide_eq_true o2, show (x.Reg == 0) = true by simp [r0], Bool.and_true, cond_true]
          obtain ⟨o, e, e'⟩ := ix_lt (l := s.Operands) o2.1 (by omega)
          rw [e, Option.bind_some, wide_eq (hw o (List.mem_of_getElem? e')), Option.bind_some, must2, Option.bind_some]
          refine ok_s ⟨rfl, rfl, ?_⟩
          simp only [Bool.and_eq_true, decide_eq_true_eq, beq_iff_eq, h3, hb]
          constructor
          · rintro ⟨⟨⟨⟨a, b⟩, d⟩, e⟩, f⟩
            exact ⟨a, b, d, .inl ⟨k1, e, .inr ⟨r0, o2.1, by omega, o, e', f⟩⟩⟩
          · rintro ⟨a, b, d, h⟩
            rcases h with ⟨_, e, h | h⟩ | h | h | h
            · exact absurd h.1 o1
            · obtain ⟨_, _, _, r', e'', f⟩ := h
              rw [e'] at e''; cases e''
              exact ⟨⟨⟨⟨a, b⟩, d⟩, e⟩, f⟩
            · have := h.1; clear h; omega
            · have := h.1; clear h; omega
            · have := h.1; clear h; omega
        · have hbad : ¬ EffP c.Machine s m' x := by
            rintro ⟨_, _, h⟩
            rcases h with ⟨_, e, h | h⟩ | h | h | h
            · exact o1 h.1
            · obtain ⟨a, b, d, _⟩ := h; exact hg ⟨a, b, by omega⟩
            · have := h.1; clear h; omega
            · have := h.1; clear h; omega
            · have := h.1; clear h; omega
          have hfin : ∀ q : Bool, Ok ((machine_checker_must ⟨c.Machine, q⟩ [false]).bind fun r25 => some (r25, m')) (EffPost c s m' x) := by
            intro q
            rw [must1, Option.bind_some]
            exact ok_s ⟨rfl, rfl, by simp [hbad]⟩
          by_cases r0 : x.Reg = 0
          · have o0 : ¬ (0 ≤ x.Operand ∧ x.Operand ≤ (s.Operands.length : Int) - 1) := fun h => hg ⟨r0, h⟩
            rw [show ((x.Reg == 0) == true) = true by simp [r0], cond_true, Option.bind_some, w64_id (by omega) (by omega), decide_eq_false o0, Bool.and_false, cond_false]
            exact hfin _
          · rw [show ((x.Reg == 0) == true) = false by simp [r0], cond_false, Option.bind_some, show (x.Reg == 0) = false by simp [r0], Bool.false_and, cond_false]
            exact hfin _
    · rw [show (x.Kind == 1) = false by simp [k1], cond_false]
      have hb' : b = true ↔ c.ok = true ∧ (x.Operand = 0 ∧ x.Reg = 0) := by rw [hb]; simp [k1]
      by_cases k2 : x.Kind = 2
      · rw [show (x.Kind == 2) = true by simp [k2], cond_true]
        refine ok_b (fits1_ok ⟨c.Machine, b1⟩ m' x.Addr g1) ?_
        rintro ⟨⟨M, b2⟩, m''⟩ ⟨h4, h5, h6⟩
        simp only at h4 h5 h6; subst h4 h5
        rw [none1, Option.bind_some, Contains_i _ _ (by simp), Option.bind_some, must3, Option.bind_some]
        refine ok_s ⟨rfl, rfl, ?_⟩
        simp only [Bool.and_eq_true, decide_eq_true_eq, beq_iff_eq, h6, h3, hb]
        constructor
        · rintro ⟨⟨⟨⟨a, b⟩, d⟩, e⟩, f, g, h⟩
          exact ⟨a, b, d, .inr (.inl ⟨k2, e, f, g, h⟩)⟩
        · rintro ⟨a, b, d, h⟩
          rcases h with h | h | h | h
          · exact absurd h.1 k1
          · exact ⟨⟨⟨⟨a, b⟩, d⟩, h.2.1⟩, h.2.2.1, h.2.2.2.1, h.2.2.2.2⟩
          · have := h.1; clear h; omega
          · have := h.1; clear h; omega
      · rw [show (x.Kind == 2) = false by simp [k2], cond_false]
        by_cases k3 : x.Kind = 3
        · rw [show (x.Kind == 3) = true by simp [k3], cond_true, none1, Option.bind_some, must2, Option.bind_some, none1, Option.bind_some]
          by_cases hc : NoneT x.Cond
          · rw [decide_eq_true hc]
            refine ok_s ⟨rfl, rfl, ?_⟩
            simp only [Bool.and_eq_true, decide_eq_true_eq, beq_iff_eq, h3, hb]
            constructor
            · rintro ⟨⟨⟨a, b⟩, d⟩, e, f⟩
              exact ⟨a, b, d, .inr (.inr (.inl ⟨k3, e, f, .inl hc⟩))⟩
            · rintro ⟨a, b, d, h⟩
              rcases h with h | h | h | h
              · exact absurd h.1 k1
              · exact absurd h.1 k2
              · exact ⟨⟨⟨a, b⟩, d⟩, h.2.1, h.2.2.1⟩
              · have := h.1; clear h; omega
          · rw [decide_eq_false hc]
            simp only [Bool.not_false, cond_true]
            refine ok_b (fits1_ok ⟨c.Machine, _⟩ m' x.Cond g3) ?_
            rintro ⟨⟨M, b2⟩, m''⟩ ⟨h4, h5, h6⟩
            simp only at h4 h5 h6; subst h4 h5
            rw [must1, Option.bind_some]
            refine ok_s ⟨rfl, rfl, ?_⟩
            simp only [Bool.and_eq_true, decide_eq_true_eq, beq_iff_eq, h6, h3, hb]
            constructor
            · rintro ⟨⟨⟨⟨⟨a, b⟩, d⟩, e, f⟩, g⟩, h⟩
              exact ⟨a, b, d, .inr (.inr (.inl ⟨k3, e, f, .inr ⟨g, h⟩⟩))⟩
            · rintro ⟨a, b, d, h⟩
              rcases h with h | h | h | h
              · exact absurd h.1 k1
              · exact absurd h.1 k2
              · rcases h.2.2.2 with h' | h'
                · exact absurd h' hc
                · exact ⟨⟨⟨⟨⟨a, b⟩, d⟩, h.2.1, h.2.2.1⟩, h'.1⟩, h'.2⟩
              · have := h.1; clear h; omega
        · rw [show (x.Kind == 3) = false by simp [k3], cond_false]
          by_cases k4 : x.Kind = 4
          · rw [show (x.Kind == 4) = true by simp [k4], cond_true, none2, Option.bind_some, must1, Option.bind_some]
            refine ok_s ⟨rfl, rfl, ?_⟩
            simp only [Bool.and_eq_true, decide_eq_true_eq, beq_iff_eq, h3, hb]
            constructor
            · rintro ⟨⟨⟨a, b⟩, d⟩, e⟩
              exact ⟨a, b, d, .inr (.inr (.inr ⟨k4, e⟩))⟩
            · rintro ⟨a, b, d, h⟩
              rcases h with h | h | h | h
              · exact absurd h.1 k1
              · exact absurd h.1 k2
              · exact absurd h.1 k3
              · exact ⟨⟨⟨a, b⟩, d⟩, h.2⟩
          · rw [show (x.Kind == 4) = false by simp [k4], cond_false, must1, Option.bind_some]
            refine ok_s ⟨rfl, rfl, ?_⟩
            simp only [Bool.and_false, Bool.false_eq_true, false_iff]
            rintro ⟨_, _, _, h⟩
            rcases h with h | h | h | h
            · exact absurd h.1 k1
            · exact absurd h.1 k2
            · exact absurd h.1 k3
            · exact absurd h.1 k4
  by_cases k1 : x.Kind = 1
  · rw [show (x.Kind != 1) = false by simp [k1], cond_false]
    exact key c.ok (by simp [k1])
  · rw [show (x.Kind != 1) = true by simp [k1], cond_true, must2, Option.bind_some]
    refine key _ ?_
    simp [k1]
end
end Go.Proofs.YtgmpgoafokdcbaaGreatDoor.Sx
