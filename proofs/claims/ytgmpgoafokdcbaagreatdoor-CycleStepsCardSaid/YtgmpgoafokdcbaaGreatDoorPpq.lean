/- The plain law of CycleSteps. -/
import Derived.Test.YtgmpgoafokdcbaaGreatDoorPpp
set_option linter.unusedVariables false
set_option linter.unusedSimpArgs false
namespace Go.Proofs.YtgmpgoafokdcbaaGreatDoor.Sx
open Go Go.RowKit
section
open Classical
/-- the ops of a valid list on a valid machine -/
structure ListP (M : Machine) (c : core_Core) (l : List MachOp) : Prop where
  good : GoodM M
  small : SmallM M
  mach : MachP M
  check : machine_Check M = some 0
  new : core_New M = some (.inr c)
  core : CoreP M c
  len : l.length ≤ 64
  ops : ∀ op ∈ l, machine_CheckOp M op = some 0
def bg (c : core_Core) (p : Pipe) (op : MachOp) : Int × Pipe := (core_Core_Begin c p op).getD default
/-- the pipe after n ops -/
def pp (M : Machine) (c : core_Core) (l : List MachOp) : Nat → Pipe
  | 0 => newPipe M
  | n + 1 => (bg c (pp M c l n) (l.getD n default)).2
/-- the start of op n -/
def sta (M : Machine) (c : core_Core) (l : List MachOp) (n : Nat) : Int := (bg c (pp M c l n) (l.getD n default)).1
def ins (M : Machine) (l : List MachOp) (n : Nat) : MachInstr := (M.Instrs[((l.getD n default).Instr).toNat]?).getD default
/-- the greatest end of n ops -/
def mx (M : Machine) (c : core_Core) (l : List MachOp) : Nat → Int
  | 0 => 0
  | n + 1 => max (max (mx M c l n) (sta M c l n + (ins M l n).Busy)) (sta M c l n + (ins M l n).Latency)
theorem getD_some {l : List MachOp} {n : Nat} {op : MachOp} (h : l[n]? = some op) : l.getD n default = op := by
  rw [List.getD_eq_getElem?_getD, h]; rfl
section
variable {M : Machine} {c : core_Core} {l : List MachOp}
theorem op_fit (h : ListP M c l) {n : Nat} {op : MachOp} (hx : l[n]? = some op) : FitOp M op (ins M l n) := by
  obtain ⟨e, he, hf⟩ := CheckOp_ok h.small h.mach h.check op
  rw [h.ops op (List.mem_of_getElem? hx)] at he
  cases he
  obtain ⟨s, hs⟩ := hf rfl
  have : ins M l n = s := by simp only [ins, getD_some hx, hs.instr]; rfl
  rw [this]; exact hs
theorem pp_ok (h : ListP M c l) : ∀ n : Nat, n ≤ l.length → PipeP M (16 * n) (pp M c l n)
  | 0, _ => newPipe_ok h.small h.mach
  | n + 1, hn => by
    have hl := h.len
    have hx : l[n]? = some (l[n]'(by omega)) := List.getElem?_eq_getElem _
    obtain ⟨r, er, hr⟩ := Begin_ok h.good h.small h.mach h.core (op_fit h hx) (B := 16 * n) (by omega) (pp_ok h n (by omega))
    have : bg c (pp M c l n) (l.getD n default) = r := by rw [getD_some hx]; simp [bg, er]
    simp only [pp, this]
    have := hr.pipe
    rw [show (16 * ((n + 1 : Nat) : Int)) = 16 * (n : Int) + 16 by omega]
    exact this
theorem bg_ok (h : ListP M c l) {n : Nat} {op : MachOp} (hx : l[n]? = some op) :
    core_Core_Begin c (pp M c l n) op = some (sta M c l n, pp M c l (n + 1)) ∧ (pp M c l n).At ≤ sta M c l n ∧ 0 ≤ sta M c l n ∧ sta M c l n ≤ 16 * n + 1 ∧ (pp M c l (n + 1)).At = sta M c l n := by
  have hl := h.len
  have hn := lt_len hx
  have hP := pp_ok h n (by omega)
  obtain ⟨r, er, hr⟩ := Begin_ok h.good h.small h.mach h.core (op_fit h hx) (B := 16 * n) (by omega) hP
  have hb : bg c (pp M c l n) (l.getD n default) = r := by rw [getD_some hx]; simp [bg, er]
  have e1 : sta M c l n = r.1 := by simp only [sta, hb]
  have e2 : pp M c l (n + 1) = r.2 := by simp only [pp, hb]
  rw [e1, e2]
  have := hr.lo; have := hP.at_
  exact ⟨er, hr.lo, by omega, hr.hi, hr.at_⟩
theorem ix_ins (h : ListP M c l) {n : Nat} {op : MachOp} (hx : l[n]? = some op) : ix M.Instrs op.Instr = some (ins M l n) := by
  have hf := op_fit h hx
  have e : op.Instr = ((op.Instr.toNat : Nat) : Int) := by have := hf.pos; omega
  rw [e, ix_nat]; exact hf.instr
theorem ins_bounds (h : ListP M c l) {n : Nat} {op : MachOp} (hx : l[n]? = some op) : (1 ≤ (ins M l n).Busy ∧ (ins M l n).Busy ≤ 15) ∧ 1 ≤ (ins M l n).Latency ∧ (ins M l n).Latency ≤ 15 := by
  have hf := op_fit h hx
  have := (h.mach.2 _ _ hf.instr).2.2.2.2
  exact ⟨this.2.2.2.1, this.2.2.2.2.1⟩
theorem Starts_eq (h : ListP M c l) : core_Core_Starts c l = some ((List.range l.length).map (sta M c l), mx M c l l.length) := by
  have hl := h.len
  unfold core_Core_Starts
  rw [Pipe_eq h.small h.mach h.core, Option.bind_some]
  simp only [jn]
  refine lp_fold (body := core_Core_Starts_b2 c l core_Core_Starts_k1) l (fun n => (mx M c l n, (n : Int), pp M c l n, (List.range n).map (sta M c l))) ?_ ?_
  · intro n op rec hx
    have hn := lt_len hx
    obtain ⟨h1, h2, h3, h4, h5⟩ := bg_ok h hx
    obtain ⟨b1, b2⟩ := ins_bounds h hx
    simp only [core_Core_Starts_b2]
    rw [if_in hx, ix_some hx, Option.bind_some, h1, Option.bind_some, show c.Machine = M from h.core.machine, ix_ins h hx, Option.bind_some, roomy_t (by simp only [List.length_map, List.length_range, List.length_singleton]; omega) (by omega), asr_t, w64_nat (by omega)]
    simp only
    rw [w64_id (by omega) (by omega), w64_id (by omega) (by omega), List.range_succ, List.map_append]
    rfl
  · intro rec
    simp only [core_Core_Starts_b2]
    rw [if_out]; rfl
theorem Start_eq (h : ListP M c l) {n : Nat} {op : MachOp} (hx : l[n]? = some op) : cycle_Start M (pp M c l n) op = some (sta M c l n, pp M c l (n + 1), 0) := by
  have hl := h.len
  have hn := lt_len hx
  have hP := pp_ok h n (by omega)
  obtain ⟨h1, h2, h3, h4, h5⟩ := bg_ok h hx
  unfold cycle_Start
  rw [h.new, Option.bind_some]
  simp only [cs2]
  obtain ⟨p1, p2, p3⟩ := pipe_lens h.small h.mach hP
  obtain ⟨b, eb, hb⟩ := valid_ok h.small h.core (pp M c l n) (by omega) (fun l hl => by have := p3 l hl; omega)
  have : b = true := hb.mpr (pipe_valid hP (by omega))
  subst this
  rw [eb, Option.bind_some, Bool.not_true, cond_false, h.ops op (List.mem_of_getElem? hx), Option.bind_some, show ((0 : Int) != 0) = false from rfl, cond_false, h1, Option.bind_some]
  simp only
  rw [show decide ((1099511627776 : Int) < sta M c l n) = false by simp; omega, cond_false]
end
theorem alive_true : retargetlaw16_alive = some true := by decide +kernel
theorem CycleSteps_true {M : Machine} (hg : GoodM M) (l : List MachOp) (hl : l.length ≤ 9223372036854775807) : retargetlaw16_CycleSteps M l = some true := by
  unfold retargetlaw16_CycleSteps
  rw [alive_true, Option.bind_some]
  obtain ⟨b, eb, _⟩ := great_ok hg l hl
  rw [eb, Option.bind_some]
  cases b with
  | true => rfl
  | false =>
    simp only [Bool.not_true, Bool.or_false, cond_false]
    obtain ⟨r, er, hr⟩ := list_ok hg l hl
    rcases hr with ⟨e, rfl, h0⟩ | ⟨c, rfl, ⟨hs, hm, hc⟩, hN, hC, h64, hops⟩
    · have e1 : cycle_Starts M l = some ([], e) := by
        unfold cycle_Starts
        rw [er, Option.bind_some]
        simp only [cs2]
        rw [show (e != 0) = true by simp [h0], cond_true]
      have e2 : cycle_Length M l = some (0, e) := by
        unfold cycle_Length
        rw [er, Option.bind_some]
        simp only [cs2]
        rw [show (e != 0) = true by simp [h0], cond_true]
      have e3 : ∃ r, cycle_New M = some r := by
        unfold cycle_New
        obtain ⟨k, hk, _, hk0⟩ := Check_ok M hg
        by_cases hz : k = 0
        · obtain ⟨hs, hm⟩ := hk0.mp hz
          subst hz
          obtain ⟨c, hN, hC⟩ := New_ok hs hm hk
          rw [hN, Option.bind_some]
          simp only [cs2]
          rw [Pipe_eq hs hm hC]; exact ⟨_, rfl⟩
        · rw [New_bad hk hz, Option.bind_some]
          simp only [cs2]
          rw [show (k != 0) = true by simp [hz], cond_true]; exact ⟨_, rfl⟩
      obtain ⟨r, e3⟩ := e3
      rw [e1, Option.bind_some, e2, Option.bind_some, e3, Option.bind_some]
      simp only
      rw [show (e != 0) = true by simp [h0], Bool.or_true, cond_true]
      simp
    · have h : ListP M c l := ⟨hg, hs, hm, hc, hN, hC, h64, hops⟩
      have e1 : cycle_Starts M l = some ((List.range l.length).map (sta M c l), 0) := by
        unfold cycle_Starts
        rw [er, Option.bind_some]
        simp only [cs2]
        rw [Starts_eq h]; rfl
      have e2 : cycle_Length M l = some (mx M c l l.length, 0) := by
        unfold cycle_Length
        rw [er, Option.bind_some]
        simp only [cs2]
        rw [Starts_eq h]; rfl
      have e3 : cycle_New M = some (newPipe M, 0) := by
        unfold cycle_New
        rw [hN, Option.bind_some]
        simp only [cs2]
        rw [Pipe_eq hs hm hC]; rfl
      rw [e1, Option.bind_some, e2, Option.bind_some, e3, Option.bind_some]
      simp only
      rw [show (((0 : Int) != 0) || ((0 : Int) != 0)) = false from rfl, cond_false, show (((0 : Int) != 0) || ((((List.range l.length).map (sta M c l)).length : Int) != (l.length : Int))) = false by simp, cond_false]
      simp only [jn]
      refine lp_fold (body := retargetlaw16_CycleSteps_b2 M l ((List.range l.length).map (sta M c l), 0) (retargetlaw16_CycleSteps_k1 true (mx M c l l.length, 0))) l (fun n => (mx M c l n, (n : Int), pp M c l n)) ?_ ?_
      · intro n op rec hx
        have hn := lt_len hx
        obtain ⟨h1, h2, h3, h4, h5⟩ := bg_ok h hx
        obtain ⟨b1, b2⟩ := ins_bounds h hx
        have hf := op_fit h hx
        have hin : (op.Instr : Int) < (M.Instrs.length : Int) := by have := lt_len hf.instr; have := hf.pos; omega
        have hsta : ix ((List.range l.length).map (sta M c l)) (n : Int) = some (sta M c l n) := by
          rw [ix_nat, List.getElem?_map, List.getElem?_range hn]; rfl
        simp only [retargetlaw16_CycleSteps_b2]
        rw [if_in hx, ix_some hx, Option.bind_some, Start_eq h hx, Option.bind_some]
        simp only
        rw [show ((0 : Int) != 0) = false from rfl, hsta]
        simp only [Bool.true_and, show ((false == false) = true) from rfl, cond_true, Option.bind_some, Bool.false_or, h5]
        rw [show (sta M c l n != sta M c l n) = false by simp]
        simp only [Bool.true_and, show ((false == false) = true) from rfl, cond_true, Option.bind_some, Bool.false_or]
        rw [show decide (op.Instr < 0) = false by have := hf.pos; simp; omega]
        simp only [Bool.true_and, show ((false == false) = true) from rfl, cond_true, Option.bind_some, Bool.false_or]
        rw [show decide ((M.Instrs.length : Int) ≤ op.Instr) = false by simp; omega, cond_false, ix_ins h hx, Option.bind_some, w64_nat (by omega), w64_id (by omega) (by omega), w64_id (by omega) (by omega)]
        have : max (mx M c l n) (max (sta M c l n + (ins M l n).Busy) (sta M c l n + (ins M l n).Latency)) = mx M c l (n + 1) := by
          simp only [mx]; omega
        rw [this]
      · intro rec
        simp only [retargetlaw16_CycleSteps_b2]
        rw [if_out]
        simp [retargetlaw16_CycleSteps_k1]
end
end Go.Proofs.YtgmpgoafokdcbaaGreatDoor.Sx
