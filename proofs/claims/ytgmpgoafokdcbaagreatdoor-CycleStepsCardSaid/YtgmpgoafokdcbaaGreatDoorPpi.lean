/- Plain specs: instr, small, machine.Check. -/
import Derived.Test.YtgmpgoafokdcbaaGreatDoorPph
set_option linter.unusedVariables false
set_option linter.unusedSimpArgs false
namespace Go.Proofs.YtgmpgoafokdcbaaGreatDoor.Sx
open Go Go.RowKit
section
open Classical
theorem mget_set {κ ν : Type} [BEq κ] [LawfulBEq κ] : ∀ (m : List (κ × ν)) (k k' : κ) (v : ν), mGet (mSet m k v) k' = if k' = k then some v else mGet m k'
  | [], k, k', v => by
    simp only [mSet, mGet]
    by_cases h : k' = k
    · simp [h]
    · rw [beq_eq_false_iff_ne.mpr h]; simp [h]
  | (a, b) :: l, k, k', v => by
    simp only [mSet]
    by_cases h1 : k = a
    · subst h1
      simp only [beq_self_eq_true, cond_true, mGet]
      by_cases h : k' = k
      · simp [h]
      · rw [beq_eq_false_iff_ne.mpr h]; simp [h]
    · rw [show (k == a) = false by simp [h1], cond_false]
      simp only [mGet]
      by_cases h2 : k' = a
      · subst h2
        have : ¬ k' = k := fun e => h1 e.symm
        simp [this]
      · rw [show (k' == a) = false by simp [h2], cond_false, cond_false, mget_set l k k' v]
def cntK (l : List MachEffect) (k : Int) : Nat := (l.filter fun x => x.Kind == k).length
theorem cntK_le (l : List MachEffect) (k : Int) : cntK l k ≤ l.length := List.length_filter_le _ _
def takenS (s : MachInstr) (n : Nat) : Int := (s.Operands.take n).foldl (fun t o => bOr .u64 t (takenP o.Pieces)) s.Mask
def OpP (M : Machine) (s : MachInstr) (i : Nat) (o : MachOperand) : Prop :=
  (Named o.Name ∧ o.Name ∉ (⟨#[112, 99]⟩ : ByteArray) :: (s.Operands.take i).map (·.Name)) ∧ OpndP M s i o ∧ bAnd .u64 (takenS s i) (takenP o.Pieces) = 0
def InstrP (M : Machine) (s : MachInstr) : Prop :=
  (bAndNot .u64 s.Mask (maskP (8 * M.Word)) = 0 ∧ bAndNot .u64 s.Match s.Mask = 0) ∧ Each s.Operands (OpP M s) ∧
  Each s.Effects (fun _ => EffP M s (varsP M s)) ∧
  (cntK s.Effects 3 ≤ 1 ∧ (cntK s.Effects 4 = 0 ∨ s.Effects.length = 1) ∧ (0 ≤ s.Unit ∧ s.Unit < M.Units.length) ∧ (1 ≤ s.Busy ∧ s.Busy ≤ 15) ∧ (1 ≤ s.Latency ∧ s.Latency ≤ 15) ∧ (0 ≤ s.Slots ∧ s.Slots ≤ 2) ∧ (s.Slots = 0 ∨ cntK s.Effects 3 = 1))
def SmallI (s : MachInstr) : Prop := s.Operands.length ≤ 4 ∧ s.Effects.length ≤ 4 ∧ ∀ o ∈ s.Operands, o.Pieces.length ≤ 4
def GoodI (s : MachInstr) : Prop := ∀ x ∈ s.Effects, GoodE x
/-- what has been checked before the instructions -/
def HeadP (M : Machine) : Prop := (Named M.Name ∧ (1 ≤ M.Word ∧ M.Word ≤ 4) ∧ (M.Address = 16 ∨ M.Address = 32)) ∧ RegsP M ∧ BanksP M ∧ UnitsP M
structure SmallM (M : Machine) : Prop where
  regs : M.Regs.length ≤ 64
  banks : M.Banks.length ≤ 16
  units : M.Units.length ≤ 8
  instrs : M.Instrs.length ≤ 64
  bank : ∀ b ∈ M.Banks, b.Regs.length ≤ 64
  instr : ∀ s ∈ M.Instrs, SmallI s
theorem instr_ok (c : machine_checker) (s : MachInstr) (hm : SmallM c.Machine) (hs : SmallI s) (hg : GoodI s) (hh : c.ok = true → HeadP c.Machine) :
    Ok (machine_checker_instr c s) (fun r => r.Machine = c.Machine ∧ (r.ok = true ↔ c.ok = true ∧ InstrP c.Machine s)) := by
  obtain ⟨hs1, hs2, hs3⟩ := hs
  have hm1 := hm.regs; have hm2 := hm.banks; have hm3 := hm.units
  unfold machine_checker_instr
  rw [MaskP_eq, Option.bind_some, must2, Option.bind_some]
  simp only [jn]
  have hw8 : c.ok = true → w64 (8 * c.Machine.Word) = 8 * c.Machine.Word := fun h => by
    have := (hh h).1.2.1
    exact w64_id (by omega) (by omega)
  refine ok_lp s.Operands (fun n r => r.2.1 = (n : Int) ∧ r.2.2.1.Machine = c.Machine ∧ r.2.2.2 = (⟨#[112, 99]⟩ : ByteArray) :: (s.Operands.take n).map (·.Name) ∧
      (r.2.2.1.ok = true ↔ c.ok = true ∧ (bAndNot .u64 s.Mask (maskP (8 * c.Machine.Word)) = 0 ∧ bAndNot .u64 s.Match s.Mask = 0) ∧ Till s.Operands n (OpP c.Machine s)) ∧ (r.2.2.1.ok = true → r.1 = takenS s n)) ?_ ?_ ?_
  · refine ⟨rfl, rfl, rfl, ?_, fun _ => rfl⟩
    simp only [Bool.and_eq_true, beq_iff_eq, till_zero, and_true]
    constructor
    · rintro ⟨h, a, b⟩; rw [hw8 h] at a; exact ⟨h, a, b⟩
    · rintro ⟨h, a, b⟩; rw [hw8 h]; exact ⟨h, a, b⟩
  · rintro n o ⟨t, v, ⟨M, b⟩, u⟩ rec hx ⟨h1, h2, h3, h4, h5⟩ hr
    simp only at h1 h2 h3 h4 h5; subst h1 h2 h3
    have hn := lt_len hx
    have hmem := List.mem_of_getElem? hx
    simp only [machine_checker_instr_b4]
    rw [if_in hx, ix_some hx, Option.bind_some, fresh_eq _ _ (by have := @take_len _ s.Operands n; simp only [List.length_cons, List.length_map]; omega), Option.bind_some, must1, Option.bind_some]
    refine ok_b (opnd_ok _ s n o (fun h => ?_) (by have := hs3 o hmem; omega) (by simp only; omega) hx (by omega)) ?_
    · simp only [Bool.and_eq_true] at h
      have := (hh (h4.mp h.1).1).1
      obtain ⟨_, a, b⟩ := this
      simp only; omega
    · rintro ⟨t', ⟨M, b'⟩⟩ ⟨h6, h7, h8⟩
      simp only at h6 h7 h8; subst h6
      rw [must1, Option.bind_some, w64_nat (by omega)]
      refine hr _ ⟨rfl, rfl, ?_, ?_, ?_⟩
      · simp only [take_map_succ hx, List.cons_append]
      · simp only [Bool.and_eq_true, beq_iff_eq, till_step hx]
        constructor
        · rintro ⟨a, d⟩
          have h7' := h7.mp a
          simp only [Bool.and_eq_true, decide_eq_true_eq] at h7'
          obtain ⟨⟨e, f⟩, g⟩ := h7'
          have h4' := h4.mp e
          rw [h5 e, h8 a] at d
          exact ⟨h4'.1, h4'.2.1, h4'.2.2, f, g, d⟩
        · rintro ⟨a, d, e, f, g, i⟩
          have hb := h4.mpr ⟨a, d, e⟩
          have hb' := h7.mpr ⟨by simp only [Bool.and_eq_true, decide_eq_true_eq]; exact ⟨hb, f⟩, g⟩
          refine ⟨hb', ?_⟩
          rw [h5 hb, h8 hb']; exact i
      · intro h
        simp only [Bool.and_eq_true] at h
        have h7' := h7.mp h.1
        simp only [Bool.and_eq_true] at h7'
        rw [h5 h7'.1.1, h8 h.1]
        simp only [takenS, foldl_take_succ hx]
  · rintro ⟨t, v, ⟨M, b⟩, u⟩ rec ⟨h1, h2, h3, h4, h5⟩
    simp only at h1 h2 h3 h4 h5; subst h1 h2 h3
    simp only [machine_checker_instr_b4]
    rw [if_out]
    rw [till_end] at h4
    simp only [machine_checker_instr_k1, jn]
    cases b with
    | false =>
      refine ok_s ⟨rfl, ?_⟩
      simp only [Bool.false_eq_true, false_iff]
      rintro ⟨a, d, e, _⟩
      have := h4.mpr ⟨a, d, e⟩
      cases this
    | true =>
      simp only [Bool.not_true, cond_false]
      obtain ⟨hc, hP1, hP2⟩ := h4.mp rfl
      have hH := hh hc
      have hwide : ∀ o ∈ s.Operands, WideOk c.Machine o := by
        intro o ho
        obtain ⟨i, hi, e⟩ := List.mem_iff_getElem.mp ho
        have hO := (hP2 i o (by rw [List.getElem?_eq_getElem hi, e])).2.1.2
        refine wide_ok hH.2.2.1 o fun hk => ?_
        rcases hO with h | h
        · exact h.2.1
        · have := h.1; clear h; omega
      have hrn : ∀ r ∈ c.Machine.Regs, r.Name.size ≤ 4611686018427387000 := by
        intro r hr
        obtain ⟨i, hi, e⟩ := List.mem_iff_getElem.mp hr
        have := (hH.2.1.2 i r (by rw [List.getElem?_eq_getElem hi, e])).1.1.2.1
        omega
      rw [vars_eq ⟨c.Machine, true⟩ s (by simp only; omega) (by omega) hrn hwide, Option.bind_some]
      refine ok_lp s.Effects (fun n r => r.1 = (n : Int) ∧ r.2.1.Machine = c.Machine ∧ r.2.2.1 = varsP c.Machine s ∧
        (r.2.1.ok = true ↔ Till s.Effects n (fun _ => EffP c.Machine s (varsP c.Machine s))) ∧ ∀ k, (mGet r.2.2.2 k).getD 0 = cntK (s.Effects.take n) k) ?_ ?_ ?_
      · exact ⟨rfl, rfl, rfl, by simp [till_zero], fun k => rfl⟩
      · rintro n x ⟨v, ⟨M, b⟩, m, ks⟩ rec hx ⟨h6, h7, h8, h9, h10⟩ hr
        simp only at h6 h7 h8 h9 h10; subst h6 h7 h8
        have hn := lt_len hx
        have hmem := List.mem_of_getElem? hx
        simp only [machine_checker_instr_b3]
        rw [if_in hx, ix_some hx, Option.bind_some]
        refine ok_b (effect_ok ⟨c.Machine, b⟩ s (varsP c.Machine s) x (hg x hmem) (by simp only; omega) (by omega) hwide) ?_
        rintro ⟨⟨M, b'⟩, m⟩ ⟨h11, h12, h13⟩
        simp only at h11 h12 h13; subst h11 h12
        have hcnt : (mGet ks x.Kind).getD 0 = cntK (s.Effects.take n) x.Kind := h10 x.Kind
        have hle : cntK (s.Effects.take n) x.Kind ≤ 4 := by have := cntK_le (s.Effects.take n) x.Kind; have := @take_len _ s.Effects n; omega
        simp only
        rw [hcnt, w64_nat (by omega), w64_nat (by omega)]
        refine hr _ ⟨rfl, rfl, rfl, ?_, ?_⟩
        · rw [h13, h9, till_step hx]
        · intro k
          simp only [mget_set]
          have e : s.Effects.take (n + 1) = s.Effects.take n ++ [x] := by rw [List.take_add_one, hx]; rfl
          by_cases hk : k = x.Kind
          · subst hk
            simp only [if_true, Option.getD_some, e, cntK, List.filter_append, List.length_append]
            simp
          · simp only [if_neg hk, h10, e, cntK, List.filter_append, List.length_append]
            have : (x.Kind == k) = false := by simp; exact fun e => hk e.symm
            simp [this]
      · rintro ⟨v, ⟨M, b⟩, m, ks⟩ rec ⟨h6, h7, h8, h9, h10⟩
        simp only at h6 h7 h8 h9 h10; subst h6 h7 h8
        simp only [machine_checker_instr_b3]
        rw [if_out]
        simp only [machine_checker_instr_k2, within_eq, Option.bind_some, must7, h10, List.take_length]
        rw [w64_id (by omega) (by omega)]
        refine ok_s ⟨rfl, ?_⟩
        simp only [Bool.and_eq_true, Bool.or_eq_true, decide_eq_true_eq, beq_iff_eq]
        rw [h9, till_end]
        constructor
        · rintro ⟨a, b1, b2, b3, b4, b5, b6, b7⟩
          exact ⟨hc, hP1, hP2, a, by omega, by omega, by omega, b4, b5, b6, by omega⟩
        · rintro ⟨_, _, _, a, b1, b2, b3, b4, b5, b6, b7⟩
          exact ⟨a, by omega, by omega, by omega, b4, b5, b6, by omega⟩
/-! ### small -/
def SmallP (M : Machine) : Prop := SmallM M
theorem small_eq (M : Machine) (h1 : M.Banks.length ≤ 9223372036854775807) (h2 : M.Instrs.length ≤ 9223372036854775807) (h3 : ∀ s ∈ M.Instrs, s.Operands.length ≤ 9223372036854775807) :
    Ok (machine_small M) (fun b => b = true ↔ SmallM M) := by
  unfold machine_small
  rw [fewer_eq _ _ (by omega), Option.bind_some, fewer_eq _ _ (by omega), fewer_eq _ _ (by omega), fewer_eq _ _ (by omega)]
  have g : ∀ (a b : Bool), (bif (true && (a == true)) then some b else some default) = some (a && b) := by intro a b; cases a <;> rfl
  simp only [g, Option.bind_some, jn]
  refine ok_lp M.Banks (fun n r => r.2 = (n : Int) ∧ (r.1 = true ↔ (M.Regs.length ≤ 64 ∧ M.Banks.length ≤ 16 ∧ M.Units.length ≤ 8 ∧ M.Instrs.length ≤ 64) ∧ Till M.Banks n (fun _ b => b.Regs.length ≤ 64))) ?_ ?_ ?_
  · refine ⟨rfl, ?_⟩
    simp only [Bool.and_eq_true, decide_eq_true_eq, till_zero, and_true]
    omega
  · rintro n b ⟨q, v⟩ rec hx ⟨h4, h5⟩ hr
    simp only at h4 h5; subst h4
    have hn := lt_len hx
    simp only [machine_small_b6]
    rw [if_in hx, ix_some hx, Option.bind_some, fewer_eq _ _ (by omega), g, Option.bind_some, w64_nat (by omega)]
    refine hr _ ⟨rfl, ?_⟩
    simp only [Bool.and_eq_true, decide_eq_true_eq, till_step hx, h5]
    constructor
    · rintro ⟨⟨a, b⟩, _, c⟩; exact ⟨a, b, by omega⟩
    · rintro ⟨a, b, c⟩; exact ⟨⟨a, b⟩, ⟨a, b⟩, by omega⟩
  · rintro ⟨q, v⟩ rec ⟨h4, h5⟩
    simp only at h4 h5; subst h4
    simp only [machine_small_b6]
    rw [if_out]
    simp only [machine_small_k1, jn]
    refine ok_lp M.Instrs (fun n r => r.2 = (n : Int) ∧ (r.1 = true ↔ q = true ∧ Till M.Instrs n (fun _ => SmallI))) ?_ ?_ ?_
    · exact ⟨rfl, by simp [till_zero]⟩
    · rintro n s ⟨p, v⟩ rec hx ⟨h6, h7⟩ hr
      simp only at h6 h7; subst h6
      have hn := lt_len hx
      simp only [machine_small_b3, jn]
      rw [if_in hx, ix_some hx, Option.bind_some, fewer_eq _ _ (by omega), g, Option.bind_some, fewer_eq _ _ (by omega), g, Option.bind_some]
      refine ok_lp s.Operands (fun k r => r.2 = (k : Int) ∧ (r.1 = true ↔ p = true ∧ (s.Operands.length ≤ 4 ∧ s.Effects.length ≤ 4) ∧ Till s.Operands k (fun _ o => o.Pieces.length ≤ 4))) ?_ ?_ ?_
      · refine ⟨rfl, ?_⟩
        simp only [Bool.and_eq_true, decide_eq_true_eq, till_zero, and_true]
        cases p <;> simp <;> omega
      · rintro k o ⟨p', v⟩ rec' hx' ⟨h8, h9⟩ hr'
        simp only at h8 h9; subst h8
        have hk := lt_len hx'
        have := h3 s (List.mem_of_getElem? hx)
        simp only [machine_small_b5]
        rw [if_in hx', ix_some hx', Option.bind_some, fewer_eq _ _ (by omega), g, Option.bind_some, w64_nat (by omega)]
        refine hr' _ ⟨rfl, ?_⟩
        simp only [Bool.and_eq_true, decide_eq_true_eq, till_step hx', h9]
        constructor
        · rintro ⟨⟨a, b, b'⟩, _, c⟩; exact ⟨a, b, b', by omega⟩
        · rintro ⟨a, b, b', c⟩; exact ⟨⟨a, b, b'⟩, ⟨a, b, b'⟩, by omega⟩
      · rintro ⟨p', v⟩ rec' ⟨h8, h9⟩
        simp only at h8 h9; subst h8
        simp only [machine_small_b5]
        rw [if_out]
        simp only [machine_small_k4]
        rw [w64_nat (by omega)]
        refine hr _ ⟨rfl, ?_⟩
        simp only [h9, h7, till_step hx, till_end, SmallI]
        constructor
        · rintro ⟨⟨a, b⟩, ⟨c, d⟩, e⟩
          refine ⟨a, b, c, d, fun o ho => ?_⟩
          obtain ⟨i, hi, e'⟩ := List.mem_iff_getElem.mp ho
          exact e i o (by rw [List.getElem?_eq_getElem hi, e'])
        · rintro ⟨a, b, c, d, e⟩
          exact ⟨⟨a, b⟩, ⟨c, d⟩, fun k o ho => e o (List.mem_of_getElem? ho)⟩
    · rintro ⟨p, v⟩ rec ⟨h6, h7⟩
      simp only at h6 h7; subst h6
      simp only [machine_small_b3, jn]
      rw [if_out]
      simp only [machine_small_k2]
      refine ok_s ?_
      rw [h7, h5, till_end, till_end]
      constructor
      · rintro ⟨⟨⟨a, b, c, d⟩, e⟩, f⟩
        refine ⟨a, b, c, d, fun x hx => ?_, fun x hx => ?_⟩
        · obtain ⟨i, hi, e'⟩ := List.mem_iff_getElem.mp hx
          exact e i x (by rw [List.getElem?_eq_getElem hi, e'])
        · obtain ⟨i, hi, e'⟩ := List.mem_iff_getElem.mp hx
          exact f i x (by rw [List.getElem?_eq_getElem hi, e'])
      · rintro ⟨a, b, c, d, e, f⟩
        exact ⟨⟨⟨a, b, c, d⟩, fun k x hx => e x (List.mem_of_getElem? hx)⟩, fun k x hx => f x (List.mem_of_getElem? hx)⟩
/-! ### Check -/
/-- what the types of a machine ensure -/
structure GoodM (M : Machine) : Prop where
  banks : M.Banks.length ≤ 9223372036854775807
  instrs : M.Instrs.length ≤ 9223372036854775807
  opnds : ∀ s ∈ M.Instrs, s.Operands.length ≤ 9223372036854775807
  instr : ∀ s ∈ M.Instrs, GoodI s
  effs : ∀ s ∈ M.Instrs, s.Effects.length ≤ 9223372036854775807
def NamedI (M : Machine) (i : Nat) (s : MachInstr) : Prop := (Named s.Name ∧ s.Name ∉ (M.Instrs.take i).map (·.Name)) ∧ InstrP M s
def MachP (M : Machine) : Prop := HeadP M ∧ Each M.Instrs (NamedI M)
theorem Check_ok (M : Machine) (hg : GoodM M) : Ok (machine_Check M) (fun e => (e = 0 ∨ e = 4 ∨ e = 8) ∧ (e = 0 ↔ SmallM M ∧ MachP M)) := by
  unfold machine_Check
  obtain ⟨b, e, hb⟩ := small_eq M hg.banks hg.instrs hg.opnds
  rw [e, Option.bind_some]
  cases b with
  | false =>
    refine ok_s ⟨.inr (.inl rfl), ?_⟩
    have : ¬ SmallM M := fun h => by have := hb.mpr h; cases this
    simp [this]
  | true =>
    have hs := hb.mp rfl
    have hm1 := hs.regs; have hm2 := hs.banks; have hm3 := hs.units; have hm4 := hs.instrs
    simp only [Bool.not_true, cond_false, Name_eq, within_eq, Option.bind_some, must3, jn]
    rw [regs_eq _ (by simp only; omega), Option.bind_some, banks_eq _ (by simp only; omega) (by simp only; omega) (fun b hb => by have := hs.bank b hb; omega), Option.bind_some, units_eq _ (by simp only; omega), Option.bind_some]
    simp only [Bool.true_and]
    refine ok_lp M.Instrs (fun n r => r.1 = (n : Int) ∧ r.2.1.Machine = M ∧ r.2.2 = (M.Instrs.take n).map (·.Name) ∧ (r.2.1.ok = true ↔ HeadP M ∧ Till M.Instrs n (NamedI M))) ?_ ?_ ?_
    · refine ⟨rfl, rfl, rfl, ?_⟩
      simp only [Bool.and_eq_true, Bool.or_eq_true, decide_eq_true_eq, beq_iff_eq, till_zero, and_true, HeadP, and_assoc]
    · rintro n s ⟨v, ⟨M', b⟩, u⟩ rec hx ⟨h1, h2, h3, h4⟩ hr
      simp only at h1 h2 h3 h4; subst h1 h2 h3
      have hn := lt_len hx
      have hmem := List.mem_of_getElem? hx
      simp only [machine_Check_b2]
      rw [if_in hx, ix_some hx, Option.bind_some]
      cases b with
      | false =>
        simp only [Bool.not_false, cond_true, machine_Check_k1]
        refine ok_s ⟨.inr (.inr rfl), ?_⟩
        have : ¬ MachP M' := fun h => by have := h4.mpr ⟨h.1, fun k y _ hy => h.2 k y hy⟩; cases this
        simp [this]
      | true =>
        simp only [Bool.not_true, cond_false]
        rw [fresh_eq _ _ (by have := @take_len _ M'.Instrs n; simp only [List.length_map]; omega), Option.bind_some, must1, Option.bind_some]
        have h4' := h4.mp rfl
        refine ok_b (instr_ok _ s hs (hs.instr s hmem) (hg.instr s hmem) (fun _ => h4'.1)) ?_
        rintro ⟨M'', b'⟩ ⟨h5, h6⟩
        simp only at h5 h6; subst h5
        rw [w64_nat (by omega)]
        refine hr _ ⟨rfl, rfl, ?_, ?_⟩
        · simp only [take_map_succ hx]
        · simp only [h6, Bool.true_and, decide_eq_true_eq, till_step hx]
          constructor
          · rintro ⟨a, b⟩; exact ⟨h4'.1, h4'.2, a, b⟩
          · rintro ⟨_, _, a, b⟩; exact ⟨a, b⟩
    · rintro ⟨v, ⟨M', b⟩, u⟩ rec ⟨h1, h2, h3, h4⟩
      simp only at h1 h2 h3 h4; subst h1 h2 h3
      simp only [machine_Check_b2]
      rw [if_out]
      rw [till_end] at h4
      cases b with
      | false =>
        simp only [machine_Check_k1, Bool.not_false, cond_true]
        refine ok_s ⟨.inr (.inr rfl), ?_⟩
        have : ¬ MachP M' := fun h => by have := h4.mpr h; cases this
        simp [this]
      | true =>
        simp only [machine_Check_k1, Bool.not_true, cond_false]
        exact ok_s ⟨.inl rfl, by simp only [true_iff]; exact ⟨hs, h4.mp rfl⟩⟩
end
end Go.Proofs.YtgmpgoafokdcbaaGreatDoor.Sx
