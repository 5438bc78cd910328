/- What a reading of the arguments of CycleSteps gives: printed by wip/decgen.py. -/
import Derived.Test.YtgmpgoafokdcbaaGreatDoorSyt
import Derived.Test.YtgmpgoafokdcbaaGreatDoorPpf
set_option linter.unusedVariables false
set_option maxRecDepth 100000
set_option maxHeartbeats 4000000
namespace Go.Proofs.YtgmpgoafokdcbaaGreatDoor.Sx
open Go Go.RowKit
section
variable {H : Type} {enc : TypeId × Value → H} {W : World}
def gMachReg (x : MachReg) : Prop := x.Name.size ≤ maxLen ∧ (IntKind.i64.min ≤ x.Width ∧ x.Width ≤ IntKind.i64.max) ∧ (IntKind.i64.min ≤ x.Of ∧ x.Of ≤ IntKind.i64.max) ∧ (IntKind.i64.min ≤ x.Low ∧ x.Low ≤ IntKind.i64.max)
theorem dec_MachReg (n : Nat) : Dec enc Tryz.prog W n 100 encMachReg gMachReg := by
  intro cs x h
  obtain ⟨m, rfl, q⟩ := struct_fl Tryz.underlying100 (by kernel_rfl) h
  obtain ⟨c0, r0, x0, rfl, d0, q⟩ := q
  obtain ⟨c1, r1, x1, rfl, d1, q⟩ := q
  obtain ⟨c2, r2, x2, rfl, d2, q⟩ := q
  obtain ⟨c3, r3, x3, rfl, d3, q⟩ := q
  obtain rfl := q
  obtain ⟨a0, k0, g0⟩ := (dec_string Tryz.underlying9) c0 _ d0
  obtain ⟨a1, k1, g1⟩ := (dec_int Tryz.underlying3) c1 _ d1
  obtain ⟨a2, k2, g2⟩ := (dec_int Tryz.underlying3) c2 _ d2
  obtain ⟨a3, k3, g3⟩ := (dec_int Tryz.underlying3) c3 _ d3
  exact ⟨⟨a0, a1, a2, a3⟩, (k0.app (k1.app (k2.app (k3.app trivial)))), ⟨g0, g1, g2, g3⟩⟩
def gMachBank (x : MachBank) : Prop := x.Name.size ≤ maxLen ∧ (x.Regs.length ≤ maxLen ∧ ∀ a ∈ x.Regs, (IntKind.i64.min ≤ a ∧ a ≤ IntKind.i64.max))
theorem dec_MachBank (n : Nat) : Dec enc Tryz.prog W n 97 encMachBank gMachBank := by
  intro cs x h
  obtain ⟨m, rfl, q⟩ := struct_fl Tryz.underlying97 (by kernel_rfl) h
  obtain ⟨c0, r0, x0, rfl, d0, q⟩ := q
  obtain ⟨c1, r1, x1, rfl, d1, q⟩ := q
  obtain rfl := q
  obtain ⟨a0, k0, g0⟩ := (dec_string Tryz.underlying9) c0 _ d0
  obtain ⟨a1, k1, g1⟩ := (dec_slice (f := (eN .i64)) Tryz.underlying29 1 (by kernel_rfl) (fun _ => rfl) (fun m _ => (dec_int Tryz.underlying3))) c1 _ d1
  exact ⟨⟨a0, a1⟩, (k0.app (k1.app trivial)), ⟨g0, g1⟩⟩
def gMachUnit (x : MachUnit) : Prop := x.Name.size ≤ maxLen ∧ (IntKind.i64.min ≤ x.Count ∧ x.Count ≤ IntKind.i64.max)
theorem dec_MachUnit (n : Nat) : Dec enc Tryz.prog W n 92 encMachUnit gMachUnit := by
  intro cs x h
  obtain ⟨m, rfl, q⟩ := struct_fl Tryz.underlying92 (by kernel_rfl) h
  obtain ⟨c0, r0, x0, rfl, d0, q⟩ := q
  obtain ⟨c1, r1, x1, rfl, d1, q⟩ := q
  obtain rfl := q
  obtain ⟨a0, k0, g0⟩ := (dec_string Tryz.underlying9) c0 _ d0
  obtain ⟨a1, k1, g1⟩ := (dec_int Tryz.underlying3) c1 _ d1
  exact ⟨⟨a0, a1⟩, (k0.app (k1.app trivial)), ⟨g0, g1⟩⟩
def gMachPiece (x : MachPiece) : Prop := (IntKind.i64.min ≤ x.At ∧ x.At ≤ IntKind.i64.max) ∧ (IntKind.i64.min ≤ x.Len ∧ x.Len ≤ IntKind.i64.max)
theorem dec_MachPiece (n : Nat) : Dec enc Tryz.prog W n 110 encMachPiece gMachPiece := by
  intro cs x h
  obtain ⟨m, rfl, q⟩ := struct_fl Tryz.underlying110 (by kernel_rfl) h
  obtain ⟨c0, r0, x0, rfl, d0, q⟩ := q
  obtain ⟨c1, r1, x1, rfl, d1, q⟩ := q
  obtain rfl := q
  obtain ⟨a0, k0, g0⟩ := (dec_int Tryz.underlying3) c0 _ d0
  obtain ⟨a1, k1, g1⟩ := (dec_int Tryz.underlying3) c1 _ d1
  exact ⟨⟨a0, a1⟩, (k0.app (k1.app trivial)), ⟨g0, g1⟩⟩
def gMachOperand (x : MachOperand) : Prop := x.Name.size ≤ maxLen ∧ (IntKind.u8.min ≤ x.Kind ∧ x.Kind ≤ IntKind.u8.max) ∧ (IntKind.i64.min ≤ x.Bank ∧ x.Bank ≤ IntKind.i64.max) ∧ (IntKind.i64.min ≤ x.Scale ∧ x.Scale ≤ IntKind.i64.max) ∧ (x.Pieces.length ≤ maxLen ∧ ∀ a ∈ x.Pieces, gMachPiece a) ∧ (IntKind.i64.min ≤ x.Tied ∧ x.Tied ≤ IntKind.i64.max)
theorem dec_MachOperand (n : Nat) : Dec enc Tryz.prog W n 107 encMachOperand gMachOperand := by
  intro cs x h
  obtain ⟨m, rfl, q⟩ := struct_fl Tryz.underlying107 (by kernel_rfl) h
  obtain ⟨c0, r0, x0, rfl, d0, q⟩ := q
  obtain ⟨c1, r1, x1, rfl, d1, q⟩ := q
  obtain ⟨c2, r2, x2, rfl, d2, q⟩ := q
  obtain ⟨c3, r3, x3, rfl, d3, q⟩ := q
  obtain ⟨c4, r4, x4, rfl, d4, q⟩ := q
  obtain ⟨c5, r5, x5, rfl, d5, q⟩ := q
  obtain rfl := q
  obtain ⟨a0, k0, g0⟩ := (dec_string Tryz.underlying9) c0 _ d0
  obtain ⟨a1, k1, g1⟩ := (dec_int Tryz.underlying5) c1 _ d1
  obtain ⟨a2, k2, g2⟩ := (dec_int Tryz.underlying3) c2 _ d2
  obtain ⟨a3, k3, g3⟩ := (dec_int Tryz.underlying3) c3 _ d3
  obtain ⟨a4, k4, g4⟩ := (dec_slice (f := encMachPiece) Tryz.underlying105 2 (by kernel_rfl) (fun _ => rfl) (fun m _ => dec_MachPiece m)) c4 _ d4
  obtain ⟨a5, k5, g5⟩ := (dec_int Tryz.underlying3) c5 _ d5
  exact ⟨⟨a0, a1, a2, a3, a4, a5⟩, (k0.app (k1.app (k2.app (k3.app (k4.app (k5.app trivial)))))), ⟨g0, g1, g2, g3, g4, g5⟩⟩
def gTerm : Term → Prop := AllT fun x => (IntKind.u8.min ≤ x.Kind ∧ x.Kind ≤ IntKind.u8.max) ∧ (IntKind.i64.min ≤ x.Width ∧ x.Width ≤ IntKind.i64.max) ∧ (IntKind.u64.min ≤ x.Bits ∧ x.Bits ≤ IntKind.u64.max) ∧ x.Name.size ≤ maxLen ∧ (IntKind.i64.min ≤ x.Low ∧ x.Low ≤ IntKind.i64.max) ∧ x.Sub.length ≤ maxLen
theorem dec_Term : ∀ n, Dec enc Tryz.prog W n 114 encTerm gTerm := by
  intro n
  induction n using Nat.strongRecOn with
  | ind n ih =>
  intro cs x h
  obtain ⟨m, rfl, q⟩ := struct_fl Tryz.underlying114 (by kernel_rfl) h
  obtain ⟨c0, r0, x0, rfl, d0, q⟩ := q
  obtain ⟨c1, r1, x1, rfl, d1, q⟩ := q
  obtain ⟨c2, r2, x2, rfl, d2, q⟩ := q
  obtain ⟨c3, r3, x3, rfl, d3, q⟩ := q
  obtain ⟨c4, r4, x4, rfl, d4, q⟩ := q
  obtain ⟨c5, r5, x5, rfl, d5, q⟩ := q
  obtain rfl := q
  obtain ⟨a0, k0, g0⟩ := (dec_int Tryz.underlying5) c0 _ d0
  obtain ⟨a1, k1, g1⟩ := (dec_int Tryz.underlying3) c1 _ d1
  obtain ⟨a2, k2, g2⟩ := (dec_int Tryz.underlying57) c2 _ d2
  obtain ⟨a3, k3, g3⟩ := (dec_string Tryz.underlying9) c3 _ d3
  obtain ⟨a4, k4, g4⟩ := (dec_int Tryz.underlying3) c4 _ d4
  obtain ⟨a5, k5, g5⟩ := (dec_slice (f := encTerm) (G := gTerm) Tryz.underlying112 6 (by kernel_rfl) (fun a => by rw [encTerm_X]; rfl) (fun j hj => ih j (by omega))) c5 _ d5
  refine ⟨⟨a0, a1, a2, a3, a4, a5⟩, ?_, ?_⟩
  · rw [encTerm_X]; exact (k0.app (k1.app (k2.app (k3.app (k4.app (k5.app trivial))))))
  · rw [gTerm, allT_X]; exact ⟨⟨g0, g1, g2, g3, g4, g5.1⟩, g5.2⟩
theorem dec_TermX (n : Nat) : Dec enc Tryz.prog W n 114 encTermX gTerm := by
  have h := dec_Term (enc := enc) (W := W) n
  rwa [show encTerm = encTermX from funext encTerm_X] at h
def gMachEffect (x : MachEffect) : Prop := (IntKind.u8.min ≤ x.Kind ∧ x.Kind ≤ IntKind.u8.max) ∧ (IntKind.i64.min ≤ x.Operand ∧ x.Operand ≤ IntKind.i64.max) ∧ (IntKind.i64.min ≤ x.Reg ∧ x.Reg ≤ IntKind.i64.max) ∧ gTerm x.Addr ∧ gTerm x.Value ∧ gTerm x.Cond
theorem dec_MachEffect (n : Nat) : Dec enc Tryz.prog W n 118 encMachEffect gMachEffect := by
  intro cs x h
  obtain ⟨m, rfl, q⟩ := struct_fl Tryz.underlying118 (by kernel_rfl) h
  obtain ⟨c0, r0, x0, rfl, d0, q⟩ := q
  obtain ⟨c1, r1, x1, rfl, d1, q⟩ := q
  obtain ⟨c2, r2, x2, rfl, d2, q⟩ := q
  obtain ⟨c3, r3, x3, rfl, d3, q⟩ := q
  obtain ⟨c4, r4, x4, rfl, d4, q⟩ := q
  obtain ⟨c5, r5, x5, rfl, d5, q⟩ := q
  obtain rfl := q
  obtain ⟨a0, k0, g0⟩ := (dec_int Tryz.underlying5) c0 _ d0
  obtain ⟨a1, k1, g1⟩ := (dec_int Tryz.underlying3) c1 _ d1
  obtain ⟨a2, k2, g2⟩ := (dec_int Tryz.underlying3) c2 _ d2
  obtain ⟨a3, k3, g3⟩ := (dec_TermX m) c3 _ d3
  obtain ⟨a4, k4, g4⟩ := (dec_TermX m) c4 _ d4
  obtain ⟨a5, k5, g5⟩ := (dec_TermX m) c5 _ d5
  exact ⟨⟨a0, a1, a2, a3, a4, a5⟩, (k0.app (k1.app (k2.app (k3.app (k4.app (k5.app trivial)))))), ⟨g0, g1, g2, g3, g4, g5⟩⟩
def gMachInstr (x : MachInstr) : Prop := x.Name.size ≤ maxLen ∧ (IntKind.u64.min ≤ x.Mask ∧ x.Mask ≤ IntKind.u64.max) ∧ (IntKind.u64.min ≤ x.Match ∧ x.Match ≤ IntKind.u64.max) ∧ (x.Operands.length ≤ maxLen ∧ ∀ a ∈ x.Operands, gMachOperand a) ∧ (x.Effects.length ≤ maxLen ∧ ∀ a ∈ x.Effects, gMachEffect a) ∧ (IntKind.i64.min ≤ x.Unit ∧ x.Unit ≤ IntKind.i64.max) ∧ (IntKind.i64.min ≤ x.Busy ∧ x.Busy ≤ IntKind.i64.max) ∧ (IntKind.i64.min ≤ x.Latency ∧ x.Latency ≤ IntKind.i64.max) ∧ (IntKind.i64.min ≤ x.Slots ∧ x.Slots ≤ IntKind.i64.max)
theorem dec_MachInstr (n : Nat) : Dec enc Tryz.prog W n 61 encMachInstr gMachInstr := by
  intro cs x h
  obtain ⟨m, rfl, q⟩ := struct_fl Tryz.underlying61 (by kernel_rfl) h
  obtain ⟨c0, r0, x0, rfl, d0, q⟩ := q
  obtain ⟨c1, r1, x1, rfl, d1, q⟩ := q
  obtain ⟨c2, r2, x2, rfl, d2, q⟩ := q
  obtain ⟨c3, r3, x3, rfl, d3, q⟩ := q
  obtain ⟨c4, r4, x4, rfl, d4, q⟩ := q
  obtain ⟨c5, r5, x5, rfl, d5, q⟩ := q
  obtain ⟨c6, r6, x6, rfl, d6, q⟩ := q
  obtain ⟨c7, r7, x7, rfl, d7, q⟩ := q
  obtain ⟨c8, r8, x8, rfl, d8, q⟩ := q
  obtain rfl := q
  obtain ⟨a0, k0, g0⟩ := (dec_string Tryz.underlying9) c0 _ d0
  obtain ⟨a1, k1, g1⟩ := (dec_int Tryz.underlying57) c1 _ d1
  obtain ⟨a2, k2, g2⟩ := (dec_int Tryz.underlying57) c2 _ d2
  obtain ⟨a3, k3, g3⟩ := (dec_slice (f := encMachOperand) Tryz.underlying58 6 (by kernel_rfl) (fun _ => rfl) (fun m _ => dec_MachOperand m)) c3 _ d3
  obtain ⟨a4, k4, g4⟩ := (dec_slice (f := encMachEffect) Tryz.underlying59 21 (by kernel_rfl) (fun _ => rfl) (fun m _ => dec_MachEffect m)) c4 _ d4
  obtain ⟨a5, k5, g5⟩ := (dec_int Tryz.underlying3) c5 _ d5
  obtain ⟨a6, k6, g6⟩ := (dec_int Tryz.underlying3) c6 _ d6
  obtain ⟨a7, k7, g7⟩ := (dec_int Tryz.underlying3) c7 _ d7
  obtain ⟨a8, k8, g8⟩ := (dec_int Tryz.underlying3) c8 _ d8
  exact ⟨⟨a0, a1, a2, a3, a4, a5, a6, a7, a8⟩, (k0.app (k1.app (k2.app (k3.app (k4.app (k5.app (k6.app (k7.app (k8.app trivial))))))))), ⟨g0, g1, g2, g3, g4, g5, g6, g7, g8⟩⟩
def gMachine (x : Machine) : Prop := x.Name.size ≤ maxLen ∧ (IntKind.i64.min ≤ x.Word ∧ x.Word ≤ IntKind.i64.max) ∧ (IntKind.i64.min ≤ x.Address ∧ x.Address ≤ IntKind.i64.max) ∧ (x.Regs.length ≤ maxLen ∧ ∀ a ∈ x.Regs, gMachReg a) ∧ (x.Banks.length ≤ maxLen ∧ ∀ a ∈ x.Banks, gMachBank a) ∧ (x.Units.length ≤ maxLen ∧ ∀ a ∈ x.Units, gMachUnit a) ∧ (x.Instrs.length ≤ maxLen ∧ ∀ a ∈ x.Instrs, gMachInstr a)
theorem dec_Machine (n : Nat) : Dec enc Tryz.prog W n 27 encMachine gMachine := by
  intro cs x h
  obtain ⟨m, rfl, q⟩ := struct_fl Tryz.underlying27 (by kernel_rfl) h
  obtain ⟨c0, r0, x0, rfl, d0, q⟩ := q
  obtain ⟨c1, r1, x1, rfl, d1, q⟩ := q
  obtain ⟨c2, r2, x2, rfl, d2, q⟩ := q
  obtain ⟨c3, r3, x3, rfl, d3, q⟩ := q
  obtain ⟨c4, r4, x4, rfl, d4, q⟩ := q
  obtain ⟨c5, r5, x5, rfl, d5, q⟩ := q
  obtain ⟨c6, r6, x6, rfl, d6, q⟩ := q
  obtain rfl := q
  obtain ⟨a0, k0, g0⟩ := (dec_string Tryz.underlying9) c0 _ d0
  obtain ⟨a1, k1, g1⟩ := (dec_int Tryz.underlying3) c1 _ d1
  obtain ⟨a2, k2, g2⟩ := (dec_int Tryz.underlying3) c2 _ d2
  obtain ⟨a3, k3, g3⟩ := (dec_slice (f := encMachReg) Tryz.underlying22 4 (by kernel_rfl) (fun _ => rfl) (fun m _ => dec_MachReg m)) c3 _ d3
  obtain ⟨a4, k4, g4⟩ := (dec_slice (f := encMachBank) Tryz.underlying23 2 (by kernel_rfl) (fun _ => rfl) (fun m _ => dec_MachBank m)) c4 _ d4
  obtain ⟨a5, k5, g5⟩ := (dec_slice (f := encMachUnit) Tryz.underlying24 2 (by kernel_rfl) (fun _ => rfl) (fun m _ => dec_MachUnit m)) c5 _ d5
  obtain ⟨a6, k6, g6⟩ := (dec_slice (f := encMachInstr) Tryz.underlying25 9 (by kernel_rfl) (fun _ => rfl) (fun m _ => dec_MachInstr m)) c6 _ d6
  exact ⟨⟨a0, a1, a2, a3, a4, a5, a6⟩, (k0.app (k1.app (k2.app (k3.app (k4.app (k5.app (k6.app trivial))))))), ⟨g0, g1, g2, g3, g4, g5, g6⟩⟩
def gMachOp (x : MachOp) : Prop := (IntKind.i64.min ≤ x.Instr ∧ x.Instr ≤ IntKind.i64.max) ∧ (x.Args.length ≤ maxLen ∧ ∀ a ∈ x.Args, (IntKind.i64.min ≤ a ∧ a ≤ IntKind.i64.max))
theorem dec_MachOp (n : Nat) : Dec enc Tryz.prog W n 31 encMachOp gMachOp := by
  intro cs x h
  obtain ⟨m, rfl, q⟩ := struct_fl Tryz.underlying31 (by kernel_rfl) h
  obtain ⟨c0, r0, x0, rfl, d0, q⟩ := q
  obtain ⟨c1, r1, x1, rfl, d1, q⟩ := q
  obtain rfl := q
  obtain ⟨a0, k0, g0⟩ := (dec_int Tryz.underlying3) c0 _ d0
  obtain ⟨a1, k1, g1⟩ := (dec_slice (f := (eN .i64)) Tryz.underlying29 1 (by kernel_rfl) (fun _ => rfl) (fun m _ => (dec_int Tryz.underlying3))) c1 _ d1
  exact ⟨⟨a0, a1⟩, (k0.app (k1.app trivial)), ⟨g0, g1⟩⟩
end
end Go.Proofs.YtgmpgoafokdcbaaGreatDoor.Sx
