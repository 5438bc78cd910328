/- Plain functions and their proofs, part 1: what the functions of the given program compute; printed by a program of this repo (dxmake.py). -/
import Derived.Test.YtgmpgoafokdcbaaGreatDoorSyr
import Derived.Test.YtgmpgoafokdcbaaGreatDoorProg
set_option linter.unusedVariables false
set_option linter.unusedSimpArgs false
set_option maxRecDepth 100000
set_option maxHeartbeats 4000000
namespace Go.Proofs.YtgmpgoafokdcbaaGreatDoor.Sx
open Go Go.RowKit
structure MachReg where
  Name : ByteArray
  Width : Int
  Of : Int
  Low : Int
instance : Inhabited MachReg := ⟨⟨⟨#[]⟩, 0, 0, 0⟩⟩
def encMachReg (x : MachReg) : List D := [.lit (.string x.Name), .lit (.int .i64 x.Width), .lit (.int .i64 x.Of), .lit (.int .i64 x.Low)]
structure MachBank where
  Name : ByteArray
  Regs : List Int
instance : Inhabited MachBank := ⟨⟨⟨#[]⟩, []⟩⟩
def encMachBank (x : MachBank) : List D := [.lit (.string x.Name), .list 1 (x.Regs.map (eN .i64))]
structure MachUnit where
  Name : ByteArray
  Count : Int
instance : Inhabited MachUnit := ⟨⟨⟨#[]⟩, 0⟩⟩
def encMachUnit (x : MachUnit) : List D := [.lit (.string x.Name), .lit (.int .i64 x.Count)]
structure MachPiece where
  At : Int
  Len : Int
instance : Inhabited MachPiece := ⟨⟨0, 0⟩⟩
def encMachPiece (x : MachPiece) : List D := [.lit (.int .i64 x.At), .lit (.int .i64 x.Len)]
structure MachOperand where
  Name : ByteArray
  Kind : Int
  Bank : Int
  Scale : Int
  Pieces : List MachPiece
  Tied : Int
instance : Inhabited MachOperand := ⟨⟨⟨#[]⟩, 0, 0, 0, [], 0⟩⟩
def encMachOperand (x : MachOperand) : List D := [.lit (.string x.Name), .lit (.int .u8 x.Kind), .lit (.int .i64 x.Bank), .lit (.int .i64 x.Scale), .list 2 (x.Pieces.map encMachPiece), .lit (.int .i64 x.Tied)]
structure Term where
  Kind : Int
  Width : Int
  Bits : Int
  Name : ByteArray
  Low : Int
  Sub : List Term
instance : Inhabited Term := ⟨⟨0, 0, 0, ⟨#[]⟩, 0, []⟩⟩
mutual
def encTerm : Term → List D
  | ⟨x0, x1, x2, x3, x4, x5⟩ => [.lit (.int .u8 x0), .lit (.int .i64 x1), .lit (.int .u64 x2), .lit (.string x3), .lit (.int .i64 x4), .list 6 (encTerms x5)]
def encTerms : List Term → List (List D)
  | [] => []
  | x :: l => encTerm x :: encTerms l
end
theorem encTerms_map : ∀ l : List Term, encTerms l = l.map encTerm
  | [] => rfl
  | x :: l => by simp [encTerms, encTerms_map l]
mutual
def rankTerm : Term → Nat
  | ⟨x0, x1, x2, x3, x4, x5⟩ => rankTerms x5 + 1
def rankTerms : List Term → Nat
  | [] => 0
  | x :: l => max (rankTerm x) (rankTerms l)
end
def encTermX (x : Term) : List D := [.lit (.int .u8 x.Kind), .lit (.int .i64 x.Width), .lit (.int .u64 x.Bits), .lit (.string x.Name), .lit (.int .i64 x.Low), .list 6 (x.Sub.map encTerm)]
theorem encTerm_X (x : Term) : encTerm x = encTermX x := by
  cases x
  simp [encTerm, encTermX, encTerms_map]
structure MachEffect where
  Kind : Int
  Operand : Int
  Reg : Int
  Addr : Term
  Value : Term
  Cond : Term
instance : Inhabited MachEffect := ⟨⟨0, 0, 0, (default : Term), (default : Term), (default : Term)⟩⟩
def encMachEffect (x : MachEffect) : List D := [.lit (.int .u8 x.Kind), .lit (.int .i64 x.Operand), .lit (.int .i64 x.Reg)] ++ encTermX x.Addr ++ encTermX x.Value ++ encTermX x.Cond
structure MachInstr where
  Name : ByteArray
  Mask : Int
  Match : Int
  Operands : List MachOperand
  Effects : List MachEffect
  Unit : Int
  Busy : Int
  Latency : Int
  Slots : Int
instance : Inhabited MachInstr := ⟨⟨⟨#[]⟩, 0, 0, [], [], 0, 0, 0, 0⟩⟩
def encMachInstr (x : MachInstr) : List D := [.lit (.string x.Name), .lit (.int .u64 x.Mask), .lit (.int .u64 x.Match), .list 6 (x.Operands.map encMachOperand), .list 21 (x.Effects.map encMachEffect), .lit (.int .i64 x.Unit), .lit (.int .i64 x.Busy), .lit (.int .i64 x.Latency), .lit (.int .i64 x.Slots)]
structure Machine where
  Name : ByteArray
  Word : Int
  Address : Int
  Regs : List MachReg
  Banks : List MachBank
  Units : List MachUnit
  Instrs : List MachInstr
instance : Inhabited Machine := ⟨⟨⟨#[]⟩, 0, 0, [], [], [], []⟩⟩
def encMachine (x : Machine) : List D := [.lit (.string x.Name), .lit (.int .i64 x.Word), .lit (.int .i64 x.Address), .list 4 (x.Regs.map encMachReg), .list 2 (x.Banks.map encMachBank), .list 2 (x.Units.map encMachUnit), .list 9 (x.Instrs.map encMachInstr)]
structure MachOp where
  Instr : Int
  Args : List Int
instance : Inhabited MachOp := ⟨⟨0, []⟩⟩
def encMachOp (x : MachOp) : List D := [.lit (.int .i64 x.Instr), .list 1 (x.Args.map (eN .i64))]
structure machine_checker where
  Machine : Machine
  ok : Bool
instance : Inhabited machine_checker := ⟨⟨(default : Machine), false⟩⟩
def encmachine_checker (x : machine_checker) : List D := encMachine x.Machine ++ [.lit (.bool x.ok)]
structure term_shape where
  word : ByteArray
  parts : Int
  how : Int
instance : Inhabited term_shape := ⟨⟨⟨#[]⟩, 0, 0⟩⟩
def encterm_shape (x : term_shape) : List D := [.lit (.string x.word), .lit (.int .i64 x.parts), .lit (.int .i64 x.how)]
structure core_Place where
  Root : Int
  Low : Int
  Width : Int
instance : Inhabited core_Place := ⟨⟨0, 0, 0⟩⟩
def enccore_Place (x : core_Place) : List D := [.lit (.int .i64 x.Root), .lit (.int .i64 x.Low), .lit (.int .i64 x.Width)]
structure core_Core where
  Machine : Machine
  Roots : Int
  places : List core_Place
instance : Inhabited core_Core := ⟨⟨(default : Machine), 0, []⟩⟩
def enccore_Core (x : core_Core) : List D := encMachine x.Machine ++ [.lit (.int .i64 x.Roots), .list 3 (x.places.map enccore_Place)]
structure Pipe where
  At : Int
  Jumps : Bool
  Units : List (List Int)
  Regs : List Int
  Mem : Int
instance : Inhabited Pipe := ⟨⟨0, false, [], [], 0⟩⟩
def encPipe (x : Pipe) : List D := [.lit (.int .i64 x.At), .lit (.bool x.Jumps), .list 1 (x.Units.map (eL 1 (eN .i64))), .list 1 (x.Regs.map (eN .i64)), .lit (.int .i64 x.Mem)]
structure Touch where
  Reads : List Int
  Writes : List Int
  Loads : Bool
  Stores : Bool
  Jumps : Bool
  Traps : Bool
  Pc : Bool
instance : Inhabited Touch := ⟨⟨[], [], false, false, false, false, false⟩⟩
def encTouch (x : Touch) : List D := [.list 1 (x.Reads.map (eN .u64)), .list 1 (x.Writes.map (eN .u64)), .lit (.bool x.Loads), .lit (.bool x.Stores), .lit (.bool x.Jumps), .lit (.bool x.Traps), .lit (.bool x.Pc)]
def tab0 : List term_shape := [⟨⟨#[]⟩, 0, 0⟩, ⟨⟨#[]⟩, 0, 0⟩, ⟨⟨#[]⟩, 0, 0⟩, ⟨⟨#[110, 111, 116]⟩, 1, 1⟩, ⟨⟨#[110, 101, 103]⟩, 1, 1⟩, ⟨⟨#[97, 100, 100]⟩, 2, 1⟩, ⟨⟨#[115, 117, 98]⟩, 2, 1⟩, ⟨⟨#[109, 117, 108]⟩, 2, 1⟩, ⟨⟨#[97, 110, 100]⟩, 2, 1⟩, ⟨⟨#[111, 114]⟩, 2, 1⟩, ⟨⟨#[120, 111, 114]⟩, 2, 1⟩, ⟨⟨#[115, 104, 108]⟩, 2, 1⟩, ⟨⟨#[115, 104, 114]⟩, 2, 1⟩, ⟨⟨#[115, 97, 114]⟩, 2, 1⟩, ⟨⟨#[117, 100, 105, 118]⟩, 2, 1⟩, ⟨⟨#[117, 114, 101, 109]⟩, 2, 1⟩, ⟨⟨#[101, 113]⟩, 2, 2⟩, ⟨⟨#[117, 108, 116]⟩, 2, 2⟩, ⟨⟨#[115, 108, 116]⟩, 2, 2⟩, ⟨⟨#[105, 116, 101]⟩, 3, 3⟩, ⟨⟨#[99, 111, 110, 99, 97, 116]⟩, 2, 4⟩, ⟨⟨#[101, 120, 116, 114, 97, 99, 116]⟩, 1, 5⟩, ⟨⟨#[122, 101, 120, 116]⟩, 1, 6⟩, ⟨⟨#[115, 101, 120, 116]⟩, 1, 6⟩, ⟨⟨#[108, 111, 97, 100]⟩, 1, 7⟩]
noncomputable def K0 : GL := fun i => bif Nat.beq i 0 then some (tab0.flatMap encterm_shape) else none
theorem hG0 : K0 0 = some (tab0.flatMap encterm_shape) := rfl
theorem mixed : Tryz.prog.follows .mixedOrders = true := by kernel_rfl
theorem zr_27 : Zr Tryz.prog 27 [.string ⟨#[]⟩, .int .i64 0, .int .i64 0, .slice none 0 0, .slice none 0 0, .slice none 0 0, .slice none 0 0] := ⟨⟨.agg #[.string ⟨#[]⟩, .int .i64 0, .int .i64 0, .slice none 0 0, .slice none 0 0, .slice none 0 0, .slice none 0 0], fun _ => by kernel_rfl, rfl⟩, by simp [Value.oneCell']⟩
theorem pl_92 : Pl Tryz.prog 92 [(0, 1), (1, 1)] := ⟨_, Tryz.underlying92, fun _ => by kernel_rfl⟩
theorem zr_92 : Zr Tryz.prog 92 [.string ⟨#[]⟩, .int .i64 0] := ⟨⟨.agg #[.string ⟨#[]⟩, .int .i64 0], fun _ => by kernel_rfl, rfl⟩, by simp [Value.oneCell']⟩
theorem ty_92 : Ty Tryz.prog 92 2 true := ⟨fun _ => by kernel_rfl, fun _ => by kernel_rfl⟩
theorem pl_27 : Pl Tryz.prog 27 [(0, 1), (1, 1), (2, 1), (3, 1), (4, 1), (5, 1), (6, 1)] := ⟨_, Tryz.underlying27, fun _ => by kernel_rfl⟩
theorem ty_27 : Ty Tryz.prog 27 7 true := ⟨fun _ => by kernel_rfl, fun _ => by kernel_rfl⟩
theorem pl_97 : Pl Tryz.prog 97 [(0, 1), (1, 1)] := ⟨_, Tryz.underlying97, fun _ => by kernel_rfl⟩
theorem zr_97 : Zr Tryz.prog 97 [.string ⟨#[]⟩, .slice none 0 0] := ⟨⟨.agg #[.string ⟨#[]⟩, .slice none 0 0], fun _ => by kernel_rfl, rfl⟩, by simp [Value.oneCell']⟩
theorem ty_97 : Ty Tryz.prog 97 2 true := ⟨fun _ => by kernel_rfl, fun _ => by kernel_rfl⟩
theorem ty_5 : Ty Tryz.prog 5 1 false := ⟨fun _ => by kernel_rfl, fun _ => by kernel_rfl⟩
theorem zr_5 : Zr Tryz.prog 5 [.int .u8 0] := ⟨⟨.int .u8 0, fun _ => by kernel_rfl, rfl⟩, by simp [Value.oneCell']⟩
theorem ty_9 : Ty Tryz.prog 9 1 false := ⟨fun _ => by kernel_rfl, fun _ => by kernel_rfl⟩
theorem zr_9 : Zr Tryz.prog 9 [.string ⟨#[]⟩] := ⟨⟨.string ⟨#[]⟩, fun _ => by kernel_rfl, rfl⟩, by simp [Value.oneCell']⟩
theorem el_9 : El Tryz.prog 9 1 16 := ⟨by obtain ⟨i, h1, h2, h3, h4⟩ := info_parts (show (Tryz.prog.info? 9).map (fun i => (i.zero, i.size, i.bytes)) = some (some (.string ⟨#[]⟩), 1, 16) by kernel_rfl); exact ⟨i, _, h1, h2, h3, h4, rfl⟩, by decide⟩
theorem ent_45 : Ent1 Tryz.prog 45 := ent1_of Tryz.func45 (by kernel_rfl) rfl
theorem fld_27_3 : Fld Tryz.prog 27 3 3 := ⟨fun _ _ => by kernel_rfl⟩
theorem ty_22 : Ty Tryz.prog 22 1 false := ⟨fun _ => by kernel_rfl, fun _ => by kernel_rfl⟩
theorem pl_100 : Pl Tryz.prog 100 [(0, 1), (1, 1), (2, 1), (3, 1)] := ⟨_, Tryz.underlying100, fun _ => by kernel_rfl⟩
theorem zr_100 : Zr Tryz.prog 100 [.string ⟨#[]⟩, .int .i64 0, .int .i64 0, .int .i64 0] := ⟨⟨.agg #[.string ⟨#[]⟩, .int .i64 0, .int .i64 0, .int .i64 0], fun _ => by kernel_rfl, rfl⟩, by simp [Value.oneCell']⟩
theorem ty_100 : Ty Tryz.prog 100 4 true := ⟨fun _ => by kernel_rfl, fun _ => by kernel_rfl⟩
theorem el_100 : El Tryz.prog 100 4 40 := ⟨by obtain ⟨i, h1, h2, h3, h4⟩ := info_parts (show (Tryz.prog.info? 100).map (fun i => (i.zero, i.size, i.bytes)) = some (some (.agg #[.string ⟨#[]⟩, .int .i64 0, .int .i64 0, .int .i64 0]), 4, 40) by kernel_rfl); exact ⟨i, _, h1, h2, h3, h4, rfl⟩, by decide⟩
theorem fld_97_1 : Fld Tryz.prog 97 1 1 := ⟨fun _ _ => by kernel_rfl⟩
theorem ty_29 : Ty Tryz.prog 29 1 false := ⟨fun _ => by kernel_rfl, fun _ => by kernel_rfl⟩
theorem ty_3 : Ty Tryz.prog 3 1 false := ⟨fun _ => by kernel_rfl, fun _ => by kernel_rfl⟩
theorem zr_3 : Zr Tryz.prog 3 [.int .i64 0] := ⟨⟨.int .i64 0, fun _ => by kernel_rfl, rfl⟩, by simp [Value.oneCell']⟩
theorem el_3 : El Tryz.prog 3 1 8 := ⟨by obtain ⟨i, h1, h2, h3, h4⟩ := info_parts (show (Tryz.prog.info? 3).map (fun i => (i.zero, i.size, i.bytes)) = some (some (.int .i64 0), 1, 8) by kernel_rfl); exact ⟨i, _, h1, h2, h3, h4, rfl⟩, by decide⟩
theorem fld_27_4 : Fld Tryz.prog 27 4 4 := ⟨fun _ _ => by kernel_rfl⟩
theorem ty_23 : Ty Tryz.prog 23 1 false := ⟨fun _ => by kernel_rfl, fun _ => by kernel_rfl⟩
theorem pl_110 : Pl Tryz.prog 110 [(0, 1), (1, 1)] := ⟨_, Tryz.underlying110, fun _ => by kernel_rfl⟩
theorem zr_110 : Zr Tryz.prog 110 [.int .i64 0, .int .i64 0] := ⟨⟨.agg #[.int .i64 0, .int .i64 0], fun _ => by kernel_rfl, rfl⟩, by simp [Value.oneCell']⟩
theorem ty_110 : Ty Tryz.prog 110 2 true := ⟨fun _ => by kernel_rfl, fun _ => by kernel_rfl⟩
theorem zr_107 : Zr Tryz.prog 107 [.string ⟨#[]⟩, .int .u8 0, .int .i64 0, .int .i64 0, .slice none 0 0, .int .i64 0] := ⟨⟨.agg #[.string ⟨#[]⟩, .int .u8 0, .int .i64 0, .int .i64 0, .slice none 0 0, .int .i64 0], fun _ => by kernel_rfl, rfl⟩, by simp [Value.oneCell']⟩
theorem pl_107 : Pl Tryz.prog 107 [(0, 1), (1, 1), (2, 1), (3, 1), (4, 1), (5, 1)] := ⟨_, Tryz.underlying107, fun _ => by kernel_rfl⟩
theorem ty_107 : Ty Tryz.prog 107 6 true := ⟨fun _ => by kernel_rfl, fun _ => by kernel_rfl⟩
theorem ent_48 : Ent1 Tryz.prog 48 := ent1_of Tryz.func48 (by kernel_rfl) rfl
theorem zr_114 : Zr Tryz.prog 114 [.int .u8 0, .int .i64 0, .int .u64 0, .string ⟨#[]⟩, .int .i64 0, .slice none 0 0] := ⟨⟨.agg #[.int .u8 0, .int .i64 0, .int .u64 0, .string ⟨#[]⟩, .int .i64 0, .slice none 0 0], fun _ => by kernel_rfl, rfl⟩, by simp [Value.oneCell']⟩
theorem pl_114 : Pl Tryz.prog 114 [(0, 1), (1, 1), (2, 1), (3, 1), (4, 1), (5, 1)] := ⟨_, Tryz.underlying114, fun _ => by kernel_rfl⟩
theorem ty_114 : Ty Tryz.prog 114 6 true := ⟨fun _ => by kernel_rfl, fun _ => by kernel_rfl⟩
theorem ent_49 : Ent1 Tryz.prog 49 := ent1_of Tryz.func49 (by kernel_rfl) rfl
theorem ent_51 : Ent1 Tryz.prog 51 := ent1_of Tryz.func51 (by kernel_rfl) rfl
theorem zr_118 : Zr Tryz.prog 118 [.int .u8 0, .int .i64 0, .int .i64 0, .int .u8 0, .int .i64 0, .int .u64 0, .string ⟨#[]⟩, .int .i64 0, .slice none 0 0, .int .u8 0, .int .i64 0, .int .u64 0, .string ⟨#[]⟩, .int .i64 0, .slice none 0 0, .int .u8 0, .int .i64 0, .int .u64 0, .string ⟨#[]⟩, .int .i64 0, .slice none 0 0] := ⟨⟨.agg #[.int .u8 0, .int .i64 0, .int .i64 0, .int .u8 0, .int .i64 0, .int .u64 0, .string ⟨#[]⟩, .int .i64 0, .slice none 0 0, .int .u8 0, .int .i64 0, .int .u64 0, .string ⟨#[]⟩, .int .i64 0, .slice none 0 0, .int .u8 0, .int .i64 0, .int .u64 0, .string ⟨#[]⟩, .int .i64 0, .slice none 0 0], fun _ => by kernel_rfl, rfl⟩, by simp [Value.oneCell']⟩
theorem pl_118 : Pl Tryz.prog 118 [(0, 1), (1, 1), (2, 1), (3, 6), (9, 6), (15, 6)] := ⟨_, Tryz.underlying118, fun _ => by kernel_rfl⟩
theorem ty_118 : Ty Tryz.prog 118 21 true := ⟨fun _ => by kernel_rfl, fun _ => by kernel_rfl⟩
theorem ent_50 : Ent1 Tryz.prog 50 := ent1_of Tryz.func50 (by kernel_rfl) rfl
theorem fld_27_6 : Fld Tryz.prog 27 6 6 := ⟨fun _ _ => by kernel_rfl⟩
theorem ty_25 : Ty Tryz.prog 25 1 false := ⟨fun _ => by kernel_rfl, fun _ => by kernel_rfl⟩
theorem pl_61 : Pl Tryz.prog 61 [(0, 1), (1, 1), (2, 1), (3, 1), (4, 1), (5, 1), (6, 1), (7, 1), (8, 1)] := ⟨_, Tryz.underlying61, fun _ => by kernel_rfl⟩
theorem zr_61 : Zr Tryz.prog 61 [.string ⟨#[]⟩, .int .u64 0, .int .u64 0, .slice none 0 0, .slice none 0 0, .int .i64 0, .int .i64 0, .int .i64 0, .int .i64 0] := ⟨⟨.agg #[.string ⟨#[]⟩, .int .u64 0, .int .u64 0, .slice none 0 0, .slice none 0 0, .int .i64 0, .int .i64 0, .int .i64 0, .int .i64 0], fun _ => by kernel_rfl, rfl⟩, by simp [Value.oneCell']⟩
theorem ty_61 : Ty Tryz.prog 61 9 true := ⟨fun _ => by kernel_rfl, fun _ => by kernel_rfl⟩
theorem el_61 : El Tryz.prog 61 9 112 := ⟨by obtain ⟨i, h1, h2, h3, h4⟩ := info_parts (show (Tryz.prog.info? 61).map (fun i => (i.zero, i.size, i.bytes)) = some (some (.agg #[.string ⟨#[]⟩, .int .u64 0, .int .u64 0, .slice none 0 0, .slice none 0 0, .int .i64 0, .int .i64 0, .int .i64 0, .int .i64 0]), 9, 112) by kernel_rfl); exact ⟨i, _, h1, h2, h3, h4, rfl⟩, by decide⟩
theorem ent_58 : Ent1 Tryz.prog 58 := ent1_of Tryz.func58 (by kernel_rfl) rfl
theorem ent_54 : Ent1 Tryz.prog 54 := ent1_of Tryz.func54 (by kernel_rfl) rfl
theorem ent_59 : Ent1 Tryz.prog 59 := ent1_of Tryz.func59 (by kernel_rfl) rfl
theorem ent_53 : Ent1 Tryz.prog 53 := ent1_of Tryz.func53 (by kernel_rfl) rfl
theorem ent_55 : Ent1 Tryz.prog 55 := ent1_of Tryz.func55 (by kernel_rfl) rfl
theorem ent_56 : Ent1 Tryz.prog 56 := ent1_of Tryz.func56 (by kernel_rfl) rfl
theorem ent_57 : Ent1 Tryz.prog 57 := ent1_of Tryz.func57 (by kernel_rfl) rfl
theorem ent_25 : Ent1 Tryz.prog 25 := ent1_of Tryz.func25 (by kernel_rfl) rfl
theorem ent_8 : Ent1 Tryz.prog 8 := ent1_of Tryz.func8 (by kernel_rfl) rfl
theorem zr_31 : Zr Tryz.prog 31 [.int .i64 0, .slice none 0 0] := ⟨⟨.agg #[.int .i64 0, .slice none 0 0], fun _ => by kernel_rfl, rfl⟩, by simp [Value.oneCell']⟩
theorem ent_119 : Ent1 Tryz.prog 119 := ent1_of Tryz.func119 (by kernel_rfl) rfl
theorem ent_103 : Ent1 Tryz.prog 103 := ent1_of Tryz.func103 (by kernel_rfl) rfl
theorem fld_27_5 : Fld Tryz.prog 27 5 5 := ⟨fun _ _ => by kernel_rfl⟩
theorem ty_24 : Ty Tryz.prog 24 1 false := ⟨fun _ => by kernel_rfl, fun _ => by kernel_rfl⟩
theorem fld_61_3 : Fld Tryz.prog 61 3 3 := ⟨fun _ _ => by kernel_rfl⟩
theorem ty_58 : Ty Tryz.prog 58 1 false := ⟨fun _ => by kernel_rfl, fun _ => by kernel_rfl⟩
theorem fld_61_4 : Fld Tryz.prog 61 4 4 := ⟨fun _ _ => by kernel_rfl⟩
theorem ty_59 : Ty Tryz.prog 59 1 false := ⟨fun _ => by kernel_rfl, fun _ => by kernel_rfl⟩
theorem fld_107_4 : Fld Tryz.prog 107 4 4 := ⟨fun _ _ => by kernel_rfl⟩
theorem ty_105 : Ty Tryz.prog 105 1 false := ⟨fun _ => by kernel_rfl, fun _ => by kernel_rfl⟩
theorem ent_83 : Ent1 Tryz.prog 83 := ent1_of Tryz.func83 (by kernel_rfl) rfl
theorem pl_150 : Pl Tryz.prog 150 [(0, 7), (7, 1)] := ⟨_, Tryz.underlying150, fun _ => by kernel_rfl⟩
theorem zr_150 : Zr Tryz.prog 150 [.string ⟨#[]⟩, .int .i64 0, .int .i64 0, .slice none 0 0, .slice none 0 0, .slice none 0 0, .slice none 0 0, .bool false] := ⟨⟨.agg #[.string ⟨#[]⟩, .int .i64 0, .int .i64 0, .slice none 0 0, .slice none 0 0, .slice none 0 0, .slice none 0 0, .bool false], fun _ => by kernel_rfl, rfl⟩, by simp [Value.oneCell']⟩
theorem fld_27_0 : Fld Tryz.prog 27 0 0 := ⟨fun _ _ => by kernel_rfl⟩
theorem ent_85 : Ent1 Tryz.prog 85 := ent1_of Tryz.func85 (by kernel_rfl) rfl
theorem fld_27_1 : Fld Tryz.prog 27 1 1 := ⟨fun _ _ => by kernel_rfl⟩
theorem ent_64 : Ent1 Tryz.prog 64 := ent1_of Tryz.func64 (by kernel_rfl) rfl
theorem fld_27_2 : Fld Tryz.prog 27 2 2 := ⟨fun _ _ => by kernel_rfl⟩
theorem ty_4 : Ty Tryz.prog 4 1 false := ⟨fun _ => by kernel_rfl, fun _ => by kernel_rfl⟩
theorem zr_4 : Zr Tryz.prog 4 [.bool false] := ⟨⟨.bool false, fun _ => by kernel_rfl, rfl⟩, by simp [Value.oneCell']⟩
theorem fld_150_1 : Fld Tryz.prog 150 1 7 := ⟨fun _ _ => by kernel_rfl⟩
theorem ent_84 : Ent1 Tryz.prog 84 := ent1_of Tryz.func84 (by kernel_rfl) rfl
theorem zr_154 : Zr Tryz.prog 154 [.slice none 0 0] := ⟨⟨.agg #[.slice none 0 0], fun _ => by kernel_rfl, rfl⟩, by simp [Value.oneCell']⟩
theorem fld_150_0 : Fld Tryz.prog 150 0 0 := ⟨fun _ _ => by kernel_rfl⟩
theorem fld_100_0 : Fld Tryz.prog 100 0 0 := ⟨fun _ _ => by kernel_rfl⟩
theorem fld_154_0 : Fld Tryz.prog 154 0 0 := ⟨fun _ _ => by kernel_rfl⟩
theorem ty_98 : Ty Tryz.prog 98 1 false := ⟨fun _ => by kernel_rfl, fun _ => by kernel_rfl⟩
theorem ent_118 : Ent1 Tryz.prog 118 := ent1_of Tryz.func118 (by kernel_rfl) rfl
theorem ent_99 : Ent1 Tryz.prog 99 := ent1_of Tryz.func99 (by kernel_rfl) rfl
theorem ent_89 : Ent1 Tryz.prog 89 := ent1_of Tryz.func89 (by kernel_rfl) rfl
theorem fld_100_1 : Fld Tryz.prog 100 1 1 := ⟨fun _ _ => by kernel_rfl⟩
theorem fld_100_2 : Fld Tryz.prog 100 2 2 := ⟨fun _ _ => by kernel_rfl⟩
theorem fld_100_3 : Fld Tryz.prog 100 3 3 := ⟨fun _ _ => by kernel_rfl⟩
theorem ent_86 : Ent1 Tryz.prog 86 := ent1_of Tryz.func86 (by kernel_rfl) rfl
theorem fld_97_0 : Fld Tryz.prog 97 0 0 := ⟨fun _ _ => by kernel_rfl⟩
theorem ent_92 : Ent1 Tryz.prog 92 := ent1_of Tryz.func92 (by kernel_rfl) rfl
theorem ent_66 : Ent1 Tryz.prog 66 := ent1_of Tryz.func66 (by kernel_rfl) rfl
theorem ent_87 : Ent1 Tryz.prog 87 := ent1_of Tryz.func87 (by kernel_rfl) rfl
theorem fld_92_0 : Fld Tryz.prog 92 0 0 := ⟨fun _ _ => by kernel_rfl⟩
theorem fld_92_1 : Fld Tryz.prog 92 1 1 := ⟨fun _ _ => by kernel_rfl⟩
theorem ent_88 : Ent1 Tryz.prog 88 := ent1_of Tryz.func88 (by kernel_rfl) rfl
theorem fld_61_0 : Fld Tryz.prog 61 0 0 := ⟨fun _ _ => by kernel_rfl⟩
theorem fld_61_1 : Fld Tryz.prog 61 1 1 := ⟨fun _ _ => by kernel_rfl⟩
theorem ty_57 : Ty Tryz.prog 57 1 false := ⟨fun _ => by kernel_rfl, fun _ => by kernel_rfl⟩
theorem ent_117 : Ent1 Tryz.prog 117 := ent1_of Tryz.func117 (by kernel_rfl) rfl
theorem ent_98 : Ent1 Tryz.prog 98 := ent1_of Tryz.func98 (by kernel_rfl) rfl
theorem fld_61_2 : Fld Tryz.prog 61 2 2 := ⟨fun _ _ => by kernel_rfl⟩
theorem pl_154 : Pl Tryz.prog 154 [(0, 1)] := ⟨_, Tryz.underlying154, fun _ => by kernel_rfl⟩
theorem ty_154 : Ty Tryz.prog 154 1 true := ⟨fun _ => by kernel_rfl, fun _ => by kernel_rfl⟩
theorem fld_107_0 : Fld Tryz.prog 107 0 0 := ⟨fun _ _ => by kernel_rfl⟩
theorem fld_110_1 : Fld Tryz.prog 110 1 1 := ⟨fun _ _ => by kernel_rfl⟩
theorem fld_110_0 : Fld Tryz.prog 110 0 0 := ⟨fun _ _ => by kernel_rfl⟩
theorem fld_107_1 : Fld Tryz.prog 107 1 1 := ⟨fun _ _ => by kernel_rfl⟩
theorem fld_107_2 : Fld Tryz.prog 107 2 2 := ⟨fun _ _ => by kernel_rfl⟩
theorem fld_107_3 : Fld Tryz.prog 107 3 3 := ⟨fun _ _ => by kernel_rfl⟩
theorem fld_107_5 : Fld Tryz.prog 107 5 5 := ⟨fun _ _ => by kernel_rfl⟩
theorem ent_91 : Ent1 Tryz.prog 91 := ent1_of Tryz.func91 (by kernel_rfl) rfl
theorem ent_104 : Ent1 Tryz.prog 104 := ent1_of Tryz.func104 (by kernel_rfl) rfl
theorem ent_120 : Ent1 Tryz.prog 120 := ent1_of Tryz.func120 (by kernel_rfl) rfl
theorem ent_105 : Ent1 Tryz.prog 105 := ent1_of Tryz.func105 (by kernel_rfl) rfl
theorem fld_118_0 : Fld Tryz.prog 118 0 0 := ⟨fun _ _ => by kernel_rfl⟩
theorem fld_118_1 : Fld Tryz.prog 118 1 1 := ⟨fun _ _ => by kernel_rfl⟩
theorem fld_118_2 : Fld Tryz.prog 118 2 2 := ⟨fun _ _ => by kernel_rfl⟩
theorem fld_118_4 : Fld Tryz.prog 118 4 9 := ⟨fun _ _ => by kernel_rfl⟩
theorem zr_35 : Zr Tryz.prog 35 [.int .i64 0] := ⟨⟨.int .i64 0, fun _ => by kernel_rfl, rfl⟩, by simp [Value.oneCell']⟩
theorem ent_133 : Ent1 Tryz.prog 133 := ent1_of Tryz.func133 (by kernel_rfl) rfl
theorem fld_114_5 : Fld Tryz.prog 114 5 5 := ⟨fun _ _ => by kernel_rfl⟩
theorem ty_112 : Ty Tryz.prog 112 1 false := ⟨fun _ => by kernel_rfl, fun _ => by kernel_rfl⟩
theorem ent_137 : Ent1 Tryz.prog 137 := ent1_of Tryz.func137 (by kernel_rfl) rfl
theorem ent_136 : Ent1 Tryz.prog 136 := ent1_of Tryz.func136 (by kernel_rfl) rfl
theorem ent_131 : Ent1 Tryz.prog 131 := ent1_of Tryz.func131 (by kernel_rfl) rfl
theorem ent_132 : Ent1 Tryz.prog 132 := ent1_of Tryz.func132 (by kernel_rfl) rfl
theorem ty_35 : Ty Tryz.prog 35 1 false := ⟨fun _ => by kernel_rfl, fun _ => by kernel_rfl⟩
theorem fld_114_1 : Fld Tryz.prog 114 1 1 := ⟨fun _ _ => by kernel_rfl⟩
theorem ent_138 : Ent1 Tryz.prog 138 := ent1_of Tryz.func138 (by kernel_rfl) rfl
theorem fld_114_0 : Fld Tryz.prog 114 0 0 := ⟨fun _ _ => by kernel_rfl⟩
theorem zr_205 : Zr Tryz.prog 205 [.string ⟨#[]⟩, .int .i64 0, .int .i64 0] := ⟨⟨.agg #[.string ⟨#[]⟩, .int .i64 0, .int .i64 0], fun _ => by kernel_rfl, rfl⟩, by simp [Value.oneCell']⟩
theorem pl_205 : Pl Tryz.prog 205 [(0, 1), (1, 1), (2, 1)] := ⟨_, Tryz.underlying205, fun _ => by kernel_rfl⟩
theorem ty_205 : Ty Tryz.prog 205 3 true := ⟨fun _ => by kernel_rfl, fun _ => by kernel_rfl⟩
theorem fld_205_1 : Fld Tryz.prog 205 1 1 := ⟨fun _ _ => by kernel_rfl⟩
theorem ent_139 : Ent1 Tryz.prog 139 := ent1_of Tryz.func139 (by kernel_rfl) rfl
theorem fld_114_4 : Fld Tryz.prog 114 4 4 := ⟨fun _ _ => by kernel_rfl⟩
theorem fld_114_3 : Fld Tryz.prog 114 3 3 := ⟨fun _ _ => by kernel_rfl⟩
theorem fld_114_2 : Fld Tryz.prog 114 2 2 := ⟨fun _ _ => by kernel_rfl⟩
theorem ent_140 : Ent1 Tryz.prog 140 := ent1_of Tryz.func140 (by kernel_rfl) rfl
theorem ent_149 : Ent1 Tryz.prog 149 := ent1_of Tryz.func149 (by kernel_rfl) rfl
theorem ent_147 : Ent1 Tryz.prog 147 := ent1_of Tryz.func147 (by kernel_rfl) rfl
theorem ent_143 : Ent1 Tryz.prog 143 := ent1_of Tryz.func143 (by kernel_rfl) rfl
theorem ent_141 : Ent1 Tryz.prog 141 := ent1_of Tryz.func141 (by kernel_rfl) rfl
theorem fld_205_2 : Fld Tryz.prog 205 2 2 := ⟨fun _ _ => by kernel_rfl⟩
theorem ent_145 : Ent1 Tryz.prog 145 := ent1_of Tryz.func145 (by kernel_rfl) rfl
theorem ent_148 : Ent1 Tryz.prog 148 := ent1_of Tryz.func148 (by kernel_rfl) rfl
theorem ent_144 : Ent1 Tryz.prog 144 := ent1_of Tryz.func144 (by kernel_rfl) rfl
theorem ent_146 : Ent1 Tryz.prog 146 := ent1_of Tryz.func146 (by kernel_rfl) rfl
theorem ent_142 : Ent1 Tryz.prog 142 := ent1_of Tryz.func142 (by kernel_rfl) rfl
theorem ent_134 : Ent1 Tryz.prog 134 := ent1_of Tryz.func134 (by kernel_rfl) rfl
theorem zr_138 : Zr Tryz.prog 138 [.map none] := ⟨⟨.map none, fun _ => by kernel_rfl, rfl⟩, by simp [Value.oneCell']⟩
theorem ty_138 : Ty Tryz.prog 138 1 false := ⟨fun _ => by kernel_rfl, fun _ => by kernel_rfl⟩
theorem zv_3 : ∀ w, (zeroValue 3).run Tryz.prog w = .ok (.int .i64 0) w := fun _ => by kernel_rfl
theorem ent_135 : Ent1 Tryz.prog 135 := ent1_of Tryz.func135 (by kernel_rfl) rfl
theorem ent_128 : Ent1 Tryz.prog 128 := ent1_of Tryz.func128 (by kernel_rfl) rfl
theorem ent_129 : Ent1 Tryz.prog 129 := ent1_of Tryz.func129 (by kernel_rfl) rfl
theorem ent_121 : Ent1 Tryz.prog 121 := ent1_of Tryz.func121 (by kernel_rfl) rfl
theorem fld_118_3 : Fld Tryz.prog 118 3 3 := ⟨fun _ _ => by kernel_rfl⟩
theorem fld_118_5 : Fld Tryz.prog 118 5 15 := ⟨fun _ _ => by kernel_rfl⟩
theorem ent_122 : Ent1 Tryz.prog 122 := ent1_of Tryz.func122 (by kernel_rfl) rfl
theorem ent_106 : Ent1 Tryz.prog 106 := ent1_of Tryz.func106 (by kernel_rfl) rfl
theorem fld_61_5 : Fld Tryz.prog 61 5 5 := ⟨fun _ _ => by kernel_rfl⟩
theorem fld_61_6 : Fld Tryz.prog 61 6 6 := ⟨fun _ _ => by kernel_rfl⟩
theorem fld_61_7 : Fld Tryz.prog 61 7 7 := ⟨fun _ _ => by kernel_rfl⟩
theorem fld_61_8 : Fld Tryz.prog 61 8 8 := ⟨fun _ _ => by kernel_rfl⟩
theorem ent_90 : Ent1 Tryz.prog 90 := ent1_of Tryz.func90 (by kernel_rfl) rfl
theorem ent_63 : Ent1 Tryz.prog 63 := ent1_of Tryz.func63 (by kernel_rfl) rfl
theorem ent_70 : Ent1 Tryz.prog 70 := ent1_of Tryz.func70 (by kernel_rfl) rfl
theorem ent_96 : Ent1 Tryz.prog 96 := ent1_of Tryz.func96 (by kernel_rfl) rfl
theorem ent_69 : Ent1 Tryz.prog 69 := ent1_of Tryz.func69 (by kernel_rfl) rfl
theorem ent_31 : Ent1 Tryz.prog 31 := ent1_of Tryz.func31 (by kernel_rfl) rfl
theorem pl_31 : Pl Tryz.prog 31 [(0, 1), (1, 1)] := ⟨_, Tryz.underlying31, fun _ => by kernel_rfl⟩
theorem ty_31 : Ty Tryz.prog 31 2 true := ⟨fun _ => by kernel_rfl, fun _ => by kernel_rfl⟩
theorem ent_12 : Ent1 Tryz.prog 12 := ent1_of Tryz.func12 (by kernel_rfl) rfl
theorem ent_81 : Ent1 Tryz.prog 81 := ent1_of Tryz.func81 (by kernel_rfl) rfl
theorem ent_60 : Ent1 Tryz.prog 60 := ent1_of Tryz.func60 (by kernel_rfl) rfl
theorem pl_89 : Pl Tryz.prog 89 [(0, 7), (7, 1), (8, 1)] := ⟨_, Tryz.underlying89, fun _ => by kernel_rfl⟩
theorem zr_89 : Zr Tryz.prog 89 [.string ⟨#[]⟩, .int .i64 0, .int .i64 0, .slice none 0 0, .slice none 0 0, .slice none 0 0, .slice none 0 0, .int .i64 0, .slice none 0 0] := ⟨⟨.agg #[.string ⟨#[]⟩, .int .i64 0, .int .i64 0, .slice none 0 0, .slice none 0 0, .slice none 0 0, .slice none 0 0, .int .i64 0, .slice none 0 0], fun _ => by kernel_rfl, rfl⟩, by simp [Value.oneCell']⟩
theorem ent_97 : Ent1 Tryz.prog 97 := ent1_of Tryz.func97 (by kernel_rfl) rfl
theorem ent_71 : Ent1 Tryz.prog 71 := ent1_of Tryz.func71 (by kernel_rfl) rfl
theorem ent_82 : Ent1 Tryz.prog 82 := ent1_of Tryz.func82 (by kernel_rfl) rfl
theorem ent_61 : Ent1 Tryz.prog 61 := ent1_of Tryz.func61 (by kernel_rfl) rfl
theorem fld_89_2 : Fld Tryz.prog 89 2 8 := ⟨fun _ _ => by kernel_rfl⟩
theorem ty_87 : Ty Tryz.prog 87 1 false := ⟨fun _ => by kernel_rfl, fun _ => by kernel_rfl⟩
theorem pl_129 : Pl Tryz.prog 129 [(0, 1), (1, 1), (2, 1)] := ⟨_, Tryz.underlying129, fun _ => by kernel_rfl⟩
theorem zr_129 : Zr Tryz.prog 129 [.int .i64 0, .int .i64 0, .int .i64 0] := ⟨⟨.agg #[.int .i64 0, .int .i64 0, .int .i64 0], fun _ => by kernel_rfl, rfl⟩, by simp [Value.oneCell']⟩
theorem ty_129 : Ty Tryz.prog 129 3 true := ⟨fun _ => by kernel_rfl, fun _ => by kernel_rfl⟩
theorem el_129 : El Tryz.prog 129 3 24 := ⟨by obtain ⟨i, h1, h2, h3, h4⟩ := info_parts (show (Tryz.prog.info? 129).map (fun i => (i.zero, i.size, i.bytes)) = some (some (.agg #[.int .i64 0, .int .i64 0, .int .i64 0]), 3, 24) by kernel_rfl); exact ⟨i, _, h1, h2, h3, h4, rfl⟩, by decide⟩
theorem ent_26 : Ent1 Tryz.prog 26 := ent1_of Tryz.func26 (by kernel_rfl) rfl
theorem fld_31_0 : Fld Tryz.prog 31 0 0 := ⟨fun _ _ => by kernel_rfl⟩
theorem fld_31_1 : Fld Tryz.prog 31 1 1 := ⟨fun _ _ => by kernel_rfl⟩
theorem ent_65 : Ent1 Tryz.prog 65 := ent1_of Tryz.func65 (by kernel_rfl) rfl
theorem ent_29 : Ent1 Tryz.prog 29 := ent1_of Tryz.func29 (by kernel_rfl) rfl
theorem ent_32 : Ent1 Tryz.prog 32 := ent1_of Tryz.func32 (by kernel_rfl) rfl
theorem zr_34 : Zr Tryz.prog 34 [.int .i64 0, .bool false, .slice none 0 0, .slice none 0 0, .int .i64 0] := ⟨⟨.agg #[.int .i64 0, .bool false, .slice none 0 0, .slice none 0 0, .int .i64 0], fun _ => by kernel_rfl, rfl⟩, by simp [Value.oneCell']⟩
theorem fld_89_1 : Fld Tryz.prog 89 1 7 := ⟨fun _ _ => by kernel_rfl⟩
theorem pl_34 : Pl Tryz.prog 34 [(0, 1), (1, 1), (2, 1), (3, 1), (4, 1)] := ⟨_, Tryz.underlying34, fun _ => by kernel_rfl⟩
theorem ty_34 : Ty Tryz.prog 34 5 true := ⟨fun _ => by kernel_rfl, fun _ => by kernel_rfl⟩
theorem fld_89_0 : Fld Tryz.prog 89 0 0 := ⟨fun _ _ => by kernel_rfl⟩
theorem fld_34_2 : Fld Tryz.prog 34 2 2 := ⟨fun _ _ => by kernel_rfl⟩
theorem ty_32 : Ty Tryz.prog 32 1 false := ⟨fun _ => by kernel_rfl, fun _ => by kernel_rfl⟩
theorem zr_29 : Zr Tryz.prog 29 [.slice none 0 0] := ⟨⟨.slice none 0 0, fun _ => by kernel_rfl, rfl⟩, by simp [Value.oneCell']⟩
theorem el_29 : El Tryz.prog 29 1 24 := ⟨by obtain ⟨i, h1, h2, h3, h4⟩ := info_parts (show (Tryz.prog.info? 29).map (fun i => (i.zero, i.size, i.bytes)) = some (some (.slice none 0 0), 1, 24) by kernel_rfl); exact ⟨i, _, h1, h2, h3, h4, rfl⟩, by decide⟩
theorem ent_27 : Ent1 Tryz.prog 27 := ent1_of Tryz.func27 (by kernel_rfl) rfl
theorem zr_85 : Zr Tryz.prog 85 [.slice none 0 0, .slice none 0 0, .bool false, .bool false, .bool false, .bool false, .bool false] := ⟨⟨.agg #[.slice none 0 0, .slice none 0 0, .bool false, .bool false, .bool false, .bool false, .bool false], fun _ => by kernel_rfl, rfl⟩, by simp [Value.oneCell']⟩
theorem el_57 : El Tryz.prog 57 1 8 := ⟨by obtain ⟨i, h1, h2, h3, h4⟩ := info_parts (show (Tryz.prog.info? 57).map (fun i => (i.zero, i.size, i.bytes)) = some (some (.int .u64 0), 1, 8) by kernel_rfl); exact ⟨i, _, h1, h2, h3, h4, rfl⟩, by decide⟩
theorem zr_57 : Zr Tryz.prog 57 [.int .u64 0] := ⟨⟨.int .u64 0, fun _ => by kernel_rfl, rfl⟩, by simp [Value.oneCell']⟩
theorem pl_85 : Pl Tryz.prog 85 [(0, 1), (1, 1), (2, 1), (3, 1), (4, 1), (5, 1), (6, 1)] := ⟨_, Tryz.underlying85, fun _ => by kernel_rfl⟩
theorem ty_85 : Ty Tryz.prog 85 7 true := ⟨fun _ => by kernel_rfl, fun _ => by kernel_rfl⟩
theorem ent_72 : Ent1 Tryz.prog 72 := ent1_of Tryz.func72 (by kernel_rfl) rfl
theorem fld_85_1 : Fld Tryz.prog 85 1 1 := ⟨fun _ _ => by kernel_rfl⟩
theorem ty_83 : Ty Tryz.prog 83 1 false := ⟨fun _ => by kernel_rfl, fun _ => by kernel_rfl⟩
theorem fld_129_0 : Fld Tryz.prog 129 0 0 := ⟨fun _ _ => by kernel_rfl⟩
theorem fld_129_2 : Fld Tryz.prog 129 2 2 := ⟨fun _ _ => by kernel_rfl⟩
theorem fld_129_1 : Fld Tryz.prog 129 1 1 := ⟨fun _ _ => by kernel_rfl⟩
theorem ent_73 : Ent1 Tryz.prog 73 := ent1_of Tryz.func73 (by kernel_rfl) rfl
theorem fld_85_3 : Fld Tryz.prog 85 3 3 := ⟨fun _ _ => by kernel_rfl⟩
theorem fld_85_4 : Fld Tryz.prog 85 4 4 := ⟨fun _ _ => by kernel_rfl⟩
theorem fld_85_5 : Fld Tryz.prog 85 5 5 := ⟨fun _ _ => by kernel_rfl⟩
theorem fld_85_0 : Fld Tryz.prog 85 0 0 := ⟨fun _ _ => by kernel_rfl⟩
theorem fld_85_6 : Fld Tryz.prog 85 6 6 := ⟨fun _ _ => by kernel_rfl⟩
theorem fld_85_2 : Fld Tryz.prog 85 2 2 := ⟨fun _ _ => by kernel_rfl⟩
theorem ent_74 : Ent1 Tryz.prog 74 := ent1_of Tryz.func74 (by kernel_rfl) rfl
theorem ent_37 : Ent1 Tryz.prog 37 := ent1_of Tryz.func37 (by kernel_rfl) rfl
theorem fld_34_0 : Fld Tryz.prog 34 0 0 := ⟨fun _ _ => by kernel_rfl⟩
theorem fld_34_1 : Fld Tryz.prog 34 1 1 := ⟨fun _ _ => by kernel_rfl⟩
theorem fld_34_3 : Fld Tryz.prog 34 3 3 := ⟨fun _ _ => by kernel_rfl⟩
theorem fld_34_4 : Fld Tryz.prog 34 4 4 := ⟨fun _ _ => by kernel_rfl⟩
theorem ent_93 : Ent1 Tryz.prog 93 := ent1_of Tryz.func93 (by kernel_rfl) rfl
theorem ent_67 : Ent1 Tryz.prog 67 := ent1_of Tryz.func67 (by kernel_rfl) rfl
theorem ent_116 : Ent1 Tryz.prog 116 := ent1_of Tryz.func116 (by kernel_rfl) rfl
theorem ent_95 : Ent1 Tryz.prog 95 := ent1_of Tryz.func95 (by kernel_rfl) rfl
theorem ent_107 : Ent1 Tryz.prog 107 := ent1_of Tryz.func107 (by kernel_rfl) rfl
theorem ent_94 : Ent1 Tryz.prog 94 := ent1_of Tryz.func94 (by kernel_rfl) rfl
theorem ent_68 : Ent1 Tryz.prog 68 := ent1_of Tryz.func68 (by kernel_rfl) rfl
theorem ent_30 : Ent1 Tryz.prog 30 := ent1_of Tryz.func30 (by kernel_rfl) rfl
theorem ent_33 : Ent1 Tryz.prog 33 := ent1_of Tryz.func33 (by kernel_rfl) rfl
theorem ent_14 : Ent1 Tryz.prog 14 := ent1_of Tryz.func14 (by kernel_rfl) rfl
theorem ent_16 : Ent1 Tryz.prog 16 := ent1_of Tryz.func16 (by kernel_rfl) rfl
theorem ent_35 : Ent1 Tryz.prog 35 := ent1_of Tryz.func35 (by kernel_rfl) rfl
theorem ent_34 : Ent1 Tryz.prog 34 := ent1_of Tryz.func34 (by kernel_rfl) rfl
theorem ent_36 : Ent1 Tryz.prog 36 := ent1_of Tryz.func36 (by kernel_rfl) rfl
theorem el_85 : El Tryz.prog 85 7 56 := ⟨by obtain ⟨i, h1, h2, h3, h4⟩ := info_parts (show (Tryz.prog.info? 85).map (fun i => (i.zero, i.size, i.bytes)) = some (some (.agg #[.slice none 0 0, .slice none 0 0, .bool false, .bool false, .bool false, .bool false, .bool false]), 7, 56) by kernel_rfl); exact ⟨i, _, h1, h2, h3, h4, rfl⟩, by decide⟩
theorem ent_38 : Ent1 Tryz.prog 38 := ent1_of Tryz.func38 (by kernel_rfl) rfl
theorem ent_15 : Ent1 Tryz.prog 15 := ent1_of Tryz.func15 (by kernel_rfl) rfl
theorem ent_17 : Ent1 Tryz.prog 17 := ent1_of Tryz.func17 (by kernel_rfl) rfl
theorem ent_18 : Ent1 Tryz.prog 18 := ent1_of Tryz.func18 (by kernel_rfl) rfl
theorem ent_100 : Ent1 Tryz.prog 100 := ent1_of Tryz.func100 (by kernel_rfl) rfl
theorem ent_101 : Ent1 Tryz.prog 101 := ent1_of Tryz.func101 (by kernel_rfl) rfl
theorem ent_75 : Ent1 Tryz.prog 75 := ent1_of Tryz.func75 (by kernel_rfl) rfl
theorem ent_102 : Ent1 Tryz.prog 102 := ent1_of Tryz.func102 (by kernel_rfl) rfl
theorem ent_76 : Ent1 Tryz.prog 76 := ent1_of Tryz.func76 (by kernel_rfl) rfl
theorem ent_39 : Ent1 Tryz.prog 39 := ent1_of Tryz.func39 (by kernel_rfl) rfl
theorem ent_40 : Ent1 Tryz.prog 40 := ent1_of Tryz.func40 (by kernel_rfl) rfl
theorem ent_19 : Ent1 Tryz.prog 19 := ent1_of Tryz.func19 (by kernel_rfl) rfl
theorem ent_9 : Ent1 Tryz.prog 9 := ent1_of Tryz.func9 (by kernel_rfl) rfl
theorem ent_62 : Ent1 Tryz.prog 62 := ent1_of Tryz.func62 (by kernel_rfl) rfl
theorem ent_28 : Ent1 Tryz.prog 28 := ent1_of Tryz.func28 (by kernel_rfl) rfl
theorem ent_10 : Ent1 Tryz.prog 10 := ent1_of Tryz.func10 (by kernel_rfl) rfl
def api_givenNames_k1 : (List ByteArray) → Option (List ByteArray)
  | v1 =>
    some v1
def api_givenNames_k3 (v2 : Int) (rec2 : Int × (List ByteArray) → Option (List ByteArray)) : (List ByteArray) → Option (List ByteArray)
  | v5 =>
    rec2 ((w64 (v2 + 1), v5))
def api_givenNames_k4 (v2 : Int) (v3 : List ByteArray) (k3 : (List ByteArray) → Option (List ByteArray)) : ByteArray → Option (List ByteArray)
  | v6 =>
    asr (decide (v6.size + (bStr [IntKind.wrap .u8 (w64 (48 + (Int.tmod v2 10)))]).size ≤ 9223372036854775807)) <|
    asr (roomy (v3.length + ([v6 ++ (bStr [IntKind.wrap .u8 (w64 (48 + (Int.tmod v2 10)))])]).length) 16) <|
    k3 (v3 ++ [v6 ++ (bStr [IntKind.wrap .u8 (w64 (48 + (Int.tmod v2 10)))])])
def api_givenNames_b2 (x0 : ByteArray) (x1 : Int) (k1 : (List ByteArray) → Option (List ByteArray)) (rec2 : Int × (List ByteArray) → Option (List ByteArray)) : Int × (List ByteArray) → Option (List ByteArray)
  | (v2, v3) =>
    bif decide (v2 < x1) then
      jn (api_givenNames_k3 v2 rec2) fun k3 =>
      jn (api_givenNames_k4 v2 v3 k3) fun k4 =>
      bif decide (9 < v2) then
        asr (decide (x0.size + (bStr [IntKind.wrap .u8 (w64 (48 + (w64 (Int.tdiv v2 10))))]).size ≤ 9223372036854775807)) <|
        k4 (x0 ++ (bStr [IntKind.wrap .u8 (w64 (48 + (w64 (Int.tdiv v2 10))))]))
      else
        k4 x0
    else
      k1 v3
def api_givenNames (x0 : ByteArray) (x1 : Int) : Option (List ByteArray) :=
  jn api_givenNames_k1 fun k1 =>
  lp (api_givenNames_b2 x0 x1 k1) ((x1).toNat + 1) ((0, ([] : List ByteArray)))
theorem api_givenNames_ok {x0 : ByteArray} {x1 : Int} {R : (List ByteArray)} (H : api_givenNames x0 x1 = some R) : FnOk Tryz.prog K0 45 [(aS x0), (aN .i64 x1)] [(0, .fresh)] (.row 0) [(0, (oR 9 1 eS R))] := by
  refine fn_w (nt := 36) (np := 0) Tryz.func45 z z (by simp) (np_of2 z) <| ?_
  unfold api_givenNames at H
  refine sgr z <| la z z <| ne <| sgr z <| la z z <| ne <| ?_
  refine w_jn1 H (fun v1 => ⟨[(5, (.row 3))], [(3, (oR 9 1 eS v1))]⟩) ?_ ?_
  · intro v1 H
    rw [api_givenNames_k1] at H
    refine sgr z <| lm z z <| la z z <| ne <| wc_ret <| ?_
    obtain rfl := sm H
    exact fin (Or.inr z) (rs1 (rv z) rs0) (re [(3, 0)] (.same z z) z (hr z h0))
  intro H
  refine sgr z <| lm z z <| lm z z <| ne <| wc_block <| w_lp2 H (fun v2 v3 => ⟨[(0, (aS x0)), (5, (.row 3)), (8, (aN .i64 x1)), (9, (aN .i64 v2))], [(3, (oR 9 1 eS v3))]⟩) (Ent.trans (nr (d := 5) (f := eS) (sz := 1) (e := 9) 1 z z z) (en [(1, 3)] (wd z (ws z z z (wd z (wd z w0)))) z (hr z h0))) <| ?_
  intro n2 v2 v3 H
  rw [api_givenNames_b2] at H
  refine sgr z <| l (p_lss z z) z <| ne <| wc_seq <| ?_
  rcases cn H with ⟨b4, H⟩ | ⟨b4, H⟩
  · refine c_t z b4 ?_
    refine se <| ?_
    refine w_jn1 H (fun v5 => ⟨[(0, (aS x0)), (5, (.row 4)), (8, (aN .i64 x1)), (9, (aN .i64 v2))], [(4, (oR 9 1 eS v5))]⟩) ?_ ?_
    · intro v5 H
      rw [api_givenNames_k3] at H
      refine wc_region z <| l (p_add z z) z <| lm z z <| ne <| ?_
      exact ⟨w64 (v2 + 1), v5, H, en [(4, 3)] (wd z (ws z z z (wd z (wd z w0)))) z (hr z h0)⟩
    intro H
    refine wc_block <| sgr z <| lm z z <| la z z <| ne <| sgr z <| lm z z <| la z z <| ne <| ?_
    refine w_jn1 H (fun v6 => ⟨[(0, (aS x0)), (5, (.row 3)), (6, (aN .i64 v2)), (7, (aS v6)), (8, (aN .i64 x1)), (9, (aN .i64 v2))], [(3, (oR 9 1 eS v3))]⟩) ?_ ?_
    · intro v6 H
      rw [api_givenNames_k4] at H
      refine wc_region z <| lm z z <| lm z z <| lm z z <| l (p_rem z z z) z <| l (p_add z z) z <| l (p_cv Tryz.underlying3 Tryz.underlying5 z) z <| l (p_bs (f := (eN .u8)) [.tmp 28] [IntKind.wrap .u8 (w64 (48 + (Int.tmod v2 10)))] Tryz.underlying116 ty_5.size zr_5 z z z z (el1 (.one _) z el0) z) z <| l (p_cvB Tryz.underlying116 Tryz.underlying5 Tryz.underlying9 z) z <| ?_
      obtain ⟨e7, H⟩ := as_ H
      refine l (p_sad z z e7) z <| l (p_bs (f := eS) [.tmp 31] [v6 ++ (bStr [IntKind.wrap .u8 (w64 (48 + (Int.tmod v2 10)))])] Tryz.underlying98 ty_9.size zr_9 z z z z (el1 (.one _) z el0) z) z <| ?_
      obtain ⟨e8, H⟩ := as_ H
      refine lh (p_apA 4 Tryz.underlying98 el_9 z z z z e8) z <| la z z <| wl_nil <| ?_
      refine e_bn (e_n ?_)
      exact ⟨v3 ++ [v6 ++ (bStr [IntKind.wrap .u8 (w64 (48 + (Int.tmod v2 10)))])], H, en [(4, 4)] (wd z (ws z z z (wd z (wd z w0)))) z (hr z h0)⟩
    intro H
    refine sgr z <| lm z z <| l (p_gtr z z) z <| ne <| ?_
    rcases cn H with ⟨b9, H⟩ | ⟨b9, H⟩
    · refine c_t z b9 ?_
      refine wc_region z <| lm z z <| lm z z <| l (p_quo z z z) z <| l (p_add z z) z <| l (p_cv Tryz.underlying3 Tryz.underlying5 z) z <| l (p_bs (f := (eN .u8)) [.tmp 19] [IntKind.wrap .u8 (w64 (48 + (w64 (Int.tdiv v2 10))))] Tryz.underlying116 ty_5.size zr_5 z z z z (el1 (.one _) z el0) z) z <| l (p_cvB Tryz.underlying116 Tryz.underlying5 Tryz.underlying9 z) z <| ?_
      obtain ⟨e10, H⟩ := as_ H
      refine l (p_sad z z e10) z <| la z z <| ne <| ?_
      exact ⟨x0 ++ (bStr [IntKind.wrap .u8 (w64 (48 + (w64 (Int.tdiv v2 10))))]), H, en [(3, 3)] (wd z (ws z z z (wd z (wd z (wd z (wd z w0)))))) z (hr z h0)⟩
    refine c_f z b9 <| se <| ?_
    exact ⟨x0, H, en [(3, 3)] (wd z (ws z z z (wd z (wd z (wd z (wd z w0)))))) z (hr z h0)⟩
  refine c_f z b4 <| wc_exit <| ?_
  refine e_te (e_te (e_h (e_n ?_)))
  exact ⟨v3, H, en [(3, 3)] (ws z z z w0) z (hr z h0)⟩

def api_givenField (x0 : ByteArray) (x1 : Int) (x2 : Int) (x3 : Int) (x4 : List MachPiece) : Option MachOperand :=
  some ((MachOperand.mk x0 x1 x2 x3 x4 (-1)))
theorem api_givenField_ok {x0 : ByteArray} {x1 : Int} {x2 : Int} {x3 : Int} {x4 : List MachPiece} {R : MachOperand} (H : api_givenField x0 x1 x2 x3 x4 = some R) : FnOk Tryz.prog K0 48 [(aS x0), (aN .u8 x1), (aN .i64 x2), (aN .i64 x3), (aL 2 encMachPiece x4)] [] (aA (encMachOperand R)) [] := by
  refine fn_w (nt := 17) (np := 0) Tryz.func48 z z (by simp) (np_of2 z) <| ?_
  unfold api_givenField at H
  refine sgr z <| lh (p_al 0 zr_107 z) z <| ne <| sgr z <| lm z z <| lm z z <| lm z z <| lm z z <| lm z z <| l (p_bd (cs := (encMachOperand ((MachOperand.mk x0 x1 x2 x3 x4 (-1)))).map .data) pl_107 zr_107 z ⟨q, ⟨q, ⟨q, ⟨q, ⟨q, ⟨q, q⟩⟩⟩⟩⟩⟩ z) z <| l0h (p_stA (ds := (encMachOperand ((MachOperand.mk x0 x1 x2 x3 x4 (-1)))).map .data) ty_107 z z z z z z) <| ne <| wc_ret <| ?_
  obtain rfl := sm H
  exact fin (Or.inr z) (rs1 (rva (ds := (encMachOperand ((MachOperand.mk x0 x1 x2 x3 x4 (-1)))).map .data) ty_107 z z z z) rs0) (re [] (.adat) z h0)

def api_givenVar (x0 : ByteArray) (x1 : Int) : Option Term :=
  some ((Term.mk 2 x1 0 x0 0 ([] : List Term)))
theorem api_givenVar_ok {x0 : ByteArray} {x1 : Int} {R : Term} (H : api_givenVar x0 x1 = some R) : FnOk Tryz.prog K0 49 [(aS x0), (aN .i64 x1)] [] (aA (encTermX R)) [] := by
  refine fn_w (nt := 8) (np := 0) Tryz.func49 z z (by simp) (np_of2 z) <| ?_
  unfold api_givenVar at H
  refine sgr z <| lh (p_al 0 zr_114 z) z <| ne <| sgr z <| lm z z <| lm z z <| l (p_bd (cs := [(aN .u8 2), (aN .i64 x1), (aN .u64 0), (aS x0), (aN .i64 0), aNil]) pl_114 zr_114 z ⟨q, ⟨q, ⟨q, q⟩⟩⟩ z) z <| l0h (p_stA (ds := [(aN .u8 2), (aN .i64 x1), (aN .u64 0), (aS x0), (aN .i64 0), aNil]) ty_114 z z z z z z) <| ne <| wc_ret <| ?_
  obtain rfl := sm H
  exact fin (Or.inr z) (rs1 (rva (ds := [(aN .u8 2), (aN .i64 x1), (aN .u64 0), (aS x0), (aN .i64 0), aNil]) ty_114 z z z z) rs0) (re [] (.sub (sg ⟨sr, ⟨sr, ⟨sr, ⟨sr, ⟨sr, ⟨sn, q⟩⟩⟩⟩⟩⟩) z) z h0)

def api_givenOp (x0 : Int) (x1 : Int) (x2 : List Term) : Option Term :=
  some (Term.mk x0 x1 0 ⟨#[]⟩ 0 x2)
theorem api_givenOp_ok {x0 : Int} {x1 : Int} {x2 : List Term} {R : Term} (H : api_givenOp x0 x1 x2 = some R) : FnOk Tryz.prog K0 51 [(aN .u8 x0), (aN .i64 x1), (aL 6 encTerm x2)] [] (aA (encTermX R)) [] := by
  refine fn_w (nt := 11) (np := 0) Tryz.func51 z z (by simp) (np_of2 z) <| ?_
  unfold api_givenOp at H
  refine sgr z <| lh (p_al 0 zr_114 z) z <| ne <| sgr z <| lm z z <| lm z z <| lm z z <| l (p_bd (cs := (encTermX (Term.mk x0 x1 0 ⟨#[]⟩ 0 x2)).map .data) pl_114 zr_114 z ⟨q, ⟨q, ⟨q, q⟩⟩⟩ z) z <| l0h (p_stA (ds := (encTermX (Term.mk x0 x1 0 ⟨#[]⟩ 0 x2)).map .data) ty_114 z z z z z z) <| ne <| wc_ret <| ?_
  obtain rfl := sm H
  exact fin (Or.inr z) (rs1 (rva (ds := (encTermX (Term.mk x0 x1 0 ⟨#[]⟩ 0 x2)).map .data) ty_114 z z z z) rs0) (re [] (.adat) z h0)

def api_givenSet (x0 : Int) (x1 : Term) : Option MachEffect :=
  some ((MachEffect.mk 1 x0 0 ((Term.mk 0 0 0 ⟨#[]⟩ 0 ([] : List Term))) x1 ((Term.mk 0 0 0 ⟨#[]⟩ 0 ([] : List Term)))))
theorem api_givenSet_ok {x0 : Int} {x1 : Term} {R : MachEffect} (H : api_givenSet x0 x1 = some R) : FnOk Tryz.prog K0 50 [(aN .i64 x0), (aA (encTermX x1))] [] (aA (encMachEffect R)) [] := by
  refine fn_w (nt := 8) (np := 0) Tryz.func50 z z (by simp) (np_of2 z) <| ?_
  unfold api_givenSet at H
  refine sgr z <| lh (p_bx 0 z q z) z <| lh (p_al 1 zr_118 z) z <| ne <| sgr z <| lm z z <| l (p_ldB (ds := (encTermX x1).map .data) ty_114 z z z z) z <| l (p_bd (cs := [(aN .u8 1), (aN .i64 x0), (aN .i64 0), (aN .u8 0), (aN .i64 0), (aN .u64 0), (aS ⟨#[]⟩), (aN .i64 0), aNil, (aN .u8 x1.Kind), (aN .i64 x1.Width), (aN .u64 x1.Bits), (aS x1.Name), (aN .i64 x1.Low), (aL 6 encTerm x1.Sub), (aN .u8 0), (aN .i64 0), (aN .u64 0), (aS ⟨#[]⟩), (aN .i64 0), aNil]) pl_118 zr_118 z ⟨q, ⟨q, ⟨q, q⟩⟩⟩ z) z <| l0h (p_stA (ds := [(aN .u8 1), (aN .i64 x0), (aN .i64 0), (aN .u8 0), (aN .i64 0), (aN .u64 0), (aS ⟨#[]⟩), (aN .i64 0), aNil, (aN .u8 x1.Kind), (aN .i64 x1.Width), (aN .u64 x1.Bits), (aS x1.Name), (aN .i64 x1.Low), (aL 6 encTerm x1.Sub), (aN .u8 0), (aN .i64 0), (aN .u64 0), (aS ⟨#[]⟩), (aN .i64 0), aNil]) ty_118 z z z z z z) <| ne <| wc_ret <| ?_
  obtain rfl := sm H
  exact fin (Or.inr z) (rs1 (rva (ds := [(aN .u8 1), (aN .i64 x0), (aN .i64 0), (aN .u8 0), (aN .i64 0), (aN .u64 0), (aS ⟨#[]⟩), (aN .i64 0), aNil, (aN .u8 x1.Kind), (aN .i64 x1.Width), (aN .u64 x1.Bits), (aS x1.Name), (aN .i64 x1.Low), (aL 6 encTerm x1.Sub), (aN .u8 0), (aN .i64 0), (aN .u64 0), (aS ⟨#[]⟩), (aN .i64 0), aNil]) ty_118 z z z z) rs0) (re [] (.sub (sg ⟨sr, ⟨sr, ⟨sr, ⟨sr, ⟨sr, ⟨sr, ⟨sr, ⟨sr, ⟨sn, ⟨sr, ⟨sr, ⟨sr, ⟨sr, ⟨sr, ⟨sr, ⟨sr, ⟨sr, ⟨sr, ⟨sr, ⟨sr, ⟨sn, q⟩⟩⟩⟩⟩⟩⟩⟩⟩⟩⟩⟩⟩⟩⟩⟩⟩⟩⟩⟩⟩) z) z h0)

def api_givenRisc_1 (x0 : ByteArray) (x1 : Int) (x2 : Int) (x3 : Int) (x4 : Int) (x5 : List MachOperand) (x6 : List MachEffect) (x7 : ByteArray) (x8 : Int) (x9 : Int) (x10 : List MachReg) (x11 : List MachBank) (x12 : List MachUnit) (x13 : List MachInstr) : Option ((List MachInstr) × ByteArray × Int × Int × (List MachBank) × (List MachUnit)) :=
  asr (roomy (x13.length + [(MachInstr.mk x0 4227858432 (sShl .u64 (IntKind.wrap .u64 (x13.length : Int)) 26) x5 x6 x1 x2 x3 x4)].length) 112) <|
  some ((x13 ++ [(MachInstr.mk x0 4227858432 (sShl .u64 (IntKind.wrap .u64 (x13.length : Int)) 26) x5 x6 x1 x2 x3 x4)], x7, x8, x9, x11, x12))
theorem api_givenRisc_1_ok {x0 : ByteArray} {x1 : Int} {x2 : Int} {x3 : Int} {x4 : Int} {x5 : List MachOperand} {x6 : List MachEffect} {x7 : ByteArray} {x8 : Int} {x9 : Int} {x10 : List MachReg} {x11 : List MachBank} {x12 : List MachUnit} {x13 : List MachInstr} {R : (List MachInstr) × ByteArray × Int × Int × (List MachBank) × (List MachUnit)} (H : api_givenRisc_1 x0 x1 x2 x3 x4 x5 x6 x7 x8 x9 x10 x11 x12 x13 = some R) : FnOk Tryz.prog K0 58 [(aS x0), (aN .i64 x1), (aN .i64 x2), (aN .i64 x3), (aN .i64 x4), (aL 6 encMachOperand x5), (aL 21 encMachEffect x6), (.ptr 0 0)] [(0, (oC 27 [(aS x7), (aN .i64 x8), (aN .i64 x9), (.row 1), (aL 2 encMachBank x11), (aL 2 encMachUnit x12), (.row 2)])), (1, (oR 100 4 encMachReg x10)), (2, (oR 61 9 encMachInstr x13)), (3, .fresh)] (.tup []) [(0, (oC 27 [(aS R.2.1), (aN .i64 R.2.2.1), (aN .i64 R.2.2.2.1), (.row 1), (aL 2 encMachBank R.2.2.2.2.1), (aL 2 encMachUnit R.2.2.2.2.2), (.row 3)])), (1, (oR 100 4 encMachReg x10)), (2, .dead), (3, (oR 61 9 encMachInstr R.1))] := by
  refine fn_w (nt := 37) (np := 3) Tryz.func58 z z (by simp) (np_of2 z) <| ?_
  unfold api_givenRisc_1 at H
  refine sgr z <| l (p_fd fld_27_6 z) z <| l (p_ld ty_25 z z z) z <| l (p_lenR Tryz.underlying25 z z) z <| la z z <| ne <| sgr z <| lm z z <| lm z z <| l (p_cv Tryz.underlying3 Tryz.underlying57 z) z <| l (p_shl z z z) z <| lm z z <| lm z z <| lm z z <| lm z z <| lm z z <| lm z z <| l (p_bd (cs := (encMachInstr ((MachInstr.mk x0 4227858432 (sShl .u64 (IntKind.wrap .u64 (x13.length : Int)) 26) x5 x6 x1 x2 x3 x4))).map .data) pl_61 zr_61 z ⟨q, ⟨q, ⟨q, ⟨q, ⟨q, ⟨q, ⟨q, ⟨q, ⟨q, q⟩⟩⟩⟩⟩⟩⟩⟩⟩ z) z <| lh (p_al 4 zr_61 z) z <| l0h (p_stA (ds := (encMachInstr ((MachInstr.mk x0 4227858432 (sShl .u64 (IntKind.wrap .u64 (x13.length : Int)) 26) x5 x6 x1 x2 x3 x4))).map .data) ty_61 z z z z z z) <| ne <| wc_region z <| l (p_fd fld_27_6 z) z <| l (p_ld ty_25 z z z) z <| l (p_ldB (ds := (encMachInstr ((MachInstr.mk x0 4227858432 (sShl .u64 (IntKind.wrap .u64 (x13.length : Int)) 26) x5 x6 x1 x2 x3 x4))).map .data) ty_61 z z z z) z <| l (p_bs (f := encMachInstr) [.tmp 33] [(MachInstr.mk x0 4227858432 (sShl .u64 (IntKind.wrap .u64 (x13.length : Int)) 26) x5 x6 x1 x2 x3 x4)] Tryz.underlying25 ty_61.size zr_61 z z z z (el1 (.agg _) z el0) z) z <| ?_
  obtain ⟨e1, H⟩ := as_ H
  refine lh (p_apA 5 Tryz.underlying25 el_61 z z z z e1) z <| l (p_fd fld_27_6 z) z <| l0h (p_st ty_25 z z z q z z) <| wl_nil <| ?_
  obtain rfl := sm H
  exact fin (Or.inl z) rs0 (re2 [(0, 0), (1, 1), (2, 2), (5, 3)] q z (hs z z z (hr z (hx (hr z h0)))))

def api_givenNum (x0 : Int) (x1 : Int) : Option Term :=
  some ((Term.mk 1 x0 x1 ⟨#[]⟩ 0 ([] : List Term)))
theorem api_givenNum_ok {x0 : Int} {x1 : Int} {R : Term} (H : api_givenNum x0 x1 = some R) : FnOk Tryz.prog K0 54 [(aN .i64 x0), (aN .u64 x1)] [] (aA (encTermX R)) [] := by
  refine fn_w (nt := 8) (np := 0) Tryz.func54 z z (by simp) (np_of2 z) <| ?_
  unfold api_givenNum at H
  refine sgr z <| lh (p_al 0 zr_114 z) z <| ne <| sgr z <| lm z z <| lm z z <| l (p_bd (cs := [(aN .u8 1), (aN .i64 x0), (aN .u64 x1), (aS ⟨#[]⟩), (aN .i64 0), aNil]) pl_114 zr_114 z ⟨q, ⟨q, ⟨q, q⟩⟩⟩ z) z <| l0h (p_stA (ds := [(aN .u8 1), (aN .i64 x0), (aN .u64 x1), (aS ⟨#[]⟩), (aN .i64 0), aNil]) ty_114 z z z z z z) <| ne <| wc_ret <| ?_
  obtain rfl := sm H
  exact fin (Or.inr z) (rs1 (rva (ds := [(aN .u8 1), (aN .i64 x0), (aN .u64 x1), (aS ⟨#[]⟩), (aN .i64 0), aNil]) ty_114 z z z z) rs0) (re [] (.sub (sg ⟨sr, ⟨sr, ⟨sr, ⟨sr, ⟨sr, ⟨sn, q⟩⟩⟩⟩⟩⟩) z) z h0)

def api_givenRisc_2 (x0 : Term) : Option Term :=
  (api_givenOp 22 32 [x0]).bind fun r1 =>
  some r1
theorem api_givenRisc_2_ok {x0 : Term} {R : Term} (H : api_givenRisc_2 x0 = some R) : FnOk Tryz.prog K0 59 [(aA (encTermX x0))] [] (aA (encTermX R)) [] := by
  refine fn_w (nt := 6) (np := 0) Tryz.func59 z z (by simp) (np_of2 z) <| ?_
  unfold api_givenRisc_2 at H
  refine sgr z <| lh (p_bx 0 z q z) z <| lh (p_al 1 zr_114 z) z <| ne <| sgr z <| l (p_ldB (ds := (encTermX x0).map .data) ty_114 z z z z) z <| l (p_bs (f := encTerm) [.tmp 3] [x0] Tryz.underlying112 ty_114.size zr_114 z z z z (el1X (encTerm_X _) (.agg _) z el0) z) z <| ?_
  obtain ⟨r1, e2, H⟩ := ob H
  refine l (p_c (api_givenOp_ok e2) ent_51 z z z) z <| l0h (p_stA (ds := (encTermX r1).map .data) ty_114 z z z z z z) <| ne <| wc_ret <| ?_
  obtain rfl := sm H
  exact fin (Or.inr z) (rs1 (rva (ds := (encTermX r1).map .data) ty_114 z z z z) rs0) (re [] (.adat) z h0)

def api_givenStore (x0 : Term) (x1 : Term) : Option MachEffect :=
  some ((MachEffect.mk 2 0 0 x0 x1 ((Term.mk 0 0 0 ⟨#[]⟩ 0 ([] : List Term)))))
theorem api_givenStore_ok {x0 : Term} {x1 : Term} {R : MachEffect} (H : api_givenStore x0 x1 = some R) : FnOk Tryz.prog K0 53 [(aA (encTermX x0)), (aA (encTermX x1))] [] (aA (encMachEffect R)) [] := by
  refine fn_w (nt := 8) (np := 0) Tryz.func53 z z (by simp) (np_of2 z) <| ?_
  unfold api_givenStore at H
  refine sgr z <| lh (p_bx 0 z q z) z <| lh (p_bx 1 z q z) z <| lh (p_al 2 zr_118 z) z <| ne <| sgr z <| l (p_ldB (ds := (encTermX x0).map .data) ty_114 z z z z) z <| l (p_ldB (ds := (encTermX x1).map .data) ty_114 z z z z) z <| l (p_bd (cs := [(aN .u8 2), (aN .i64 0), (aN .i64 0), (aN .u8 x0.Kind), (aN .i64 x0.Width), (aN .u64 x0.Bits), (aS x0.Name), (aN .i64 x0.Low), (aL 6 encTerm x0.Sub), (aN .u8 x1.Kind), (aN .i64 x1.Width), (aN .u64 x1.Bits), (aS x1.Name), (aN .i64 x1.Low), (aL 6 encTerm x1.Sub), (aN .u8 0), (aN .i64 0), (aN .u64 0), (aS ⟨#[]⟩), (aN .i64 0), aNil]) pl_118 zr_118 z ⟨q, ⟨q, ⟨q, q⟩⟩⟩ z) z <| l0h (p_stA (ds := [(aN .u8 2), (aN .i64 0), (aN .i64 0), (aN .u8 x0.Kind), (aN .i64 x0.Width), (aN .u64 x0.Bits), (aS x0.Name), (aN .i64 x0.Low), (aL 6 encTerm x0.Sub), (aN .u8 x1.Kind), (aN .i64 x1.Width), (aN .u64 x1.Bits), (aS x1.Name), (aN .i64 x1.Low), (aL 6 encTerm x1.Sub), (aN .u8 0), (aN .i64 0), (aN .u64 0), (aS ⟨#[]⟩), (aN .i64 0), aNil]) ty_118 z z z z z z) <| ne <| wc_ret <| ?_
  obtain rfl := sm H
  exact fin (Or.inr z) (rs1 (rva (ds := [(aN .u8 2), (aN .i64 0), (aN .i64 0), (aN .u8 x0.Kind), (aN .i64 x0.Width), (aN .u64 x0.Bits), (aS x0.Name), (aN .i64 x0.Low), (aL 6 encTerm x0.Sub), (aN .u8 x1.Kind), (aN .i64 x1.Width), (aN .u64 x1.Bits), (aS x1.Name), (aN .i64 x1.Low), (aL 6 encTerm x1.Sub), (aN .u8 0), (aN .i64 0), (aN .u64 0), (aS ⟨#[]⟩), (aN .i64 0), aNil]) ty_118 z z z z) rs0) (re [] (.sub (sg ⟨sr, ⟨sr, ⟨sr, ⟨sr, ⟨sr, ⟨sr, ⟨sr, ⟨sr, ⟨sr, ⟨sr, ⟨sr, ⟨sr, ⟨sr, ⟨sr, ⟨sr, ⟨sr, ⟨sr, ⟨sr, ⟨sr, ⟨sr, ⟨sn, q⟩⟩⟩⟩⟩⟩⟩⟩⟩⟩⟩⟩⟩⟩⟩⟩⟩⟩⟩⟩⟩) z) z h0)

def api_givenJump (x0 : Term) (x1 : Term) : Option MachEffect :=
  some ((MachEffect.mk 3 0 0 ((Term.mk 0 0 0 ⟨#[]⟩ 0 ([] : List Term))) x0 x1))
theorem api_givenJump_ok {x0 : Term} {x1 : Term} {R : MachEffect} (H : api_givenJump x0 x1 = some R) : FnOk Tryz.prog K0 55 [(aA (encTermX x0)), (aA (encTermX x1))] [] (aA (encMachEffect R)) [] := by
  refine fn_w (nt := 8) (np := 0) Tryz.func55 z z (by simp) (np_of2 z) <| ?_
  unfold api_givenJump at H
  refine sgr z <| lh (p_bx 0 z q z) z <| lh (p_bx 1 z q z) z <| lh (p_al 2 zr_118 z) z <| ne <| sgr z <| l (p_ldB (ds := (encTermX x0).map .data) ty_114 z z z z) z <| l (p_ldB (ds := (encTermX x1).map .data) ty_114 z z z z) z <| l (p_bd (cs := [(aN .u8 3), (aN .i64 0), (aN .i64 0), (aN .u8 0), (aN .i64 0), (aN .u64 0), (aS ⟨#[]⟩), (aN .i64 0), aNil, (aN .u8 x0.Kind), (aN .i64 x0.Width), (aN .u64 x0.Bits), (aS x0.Name), (aN .i64 x0.Low), (aL 6 encTerm x0.Sub), (aN .u8 x1.Kind), (aN .i64 x1.Width), (aN .u64 x1.Bits), (aS x1.Name), (aN .i64 x1.Low), (aL 6 encTerm x1.Sub)]) pl_118 zr_118 z ⟨q, ⟨q, ⟨q, q⟩⟩⟩ z) z <| l0h (p_stA (ds := [(aN .u8 3), (aN .i64 0), (aN .i64 0), (aN .u8 0), (aN .i64 0), (aN .u64 0), (aS ⟨#[]⟩), (aN .i64 0), aNil, (aN .u8 x0.Kind), (aN .i64 x0.Width), (aN .u64 x0.Bits), (aS x0.Name), (aN .i64 x0.Low), (aL 6 encTerm x0.Sub), (aN .u8 x1.Kind), (aN .i64 x1.Width), (aN .u64 x1.Bits), (aS x1.Name), (aN .i64 x1.Low), (aL 6 encTerm x1.Sub)]) ty_118 z z z z z z) <| ne <| wc_ret <| ?_
  obtain rfl := sm H
  exact fin (Or.inr z) (rs1 (rva (ds := [(aN .u8 3), (aN .i64 0), (aN .i64 0), (aN .u8 0), (aN .i64 0), (aN .u64 0), (aS ⟨#[]⟩), (aN .i64 0), aNil, (aN .u8 x0.Kind), (aN .i64 x0.Width), (aN .u64 x0.Bits), (aS x0.Name), (aN .i64 x0.Low), (aL 6 encTerm x0.Sub), (aN .u8 x1.Kind), (aN .i64 x1.Width), (aN .u64 x1.Bits), (aS x1.Name), (aN .i64 x1.Low), (aL 6 encTerm x1.Sub)]) ty_118 z z z z) rs0) (re [] (.sub (sg ⟨sr, ⟨sr, ⟨sr, ⟨sr, ⟨sr, ⟨sr, ⟨sr, ⟨sr, ⟨sn, ⟨sr, ⟨sr, ⟨sr, ⟨sr, ⟨sr, ⟨sr, ⟨sr, ⟨sr, ⟨sr, ⟨sr, ⟨sr, ⟨sr, q⟩⟩⟩⟩⟩⟩⟩⟩⟩⟩⟩⟩⟩⟩⟩⟩⟩⟩⟩⟩⟩) z) z h0)

def api_givenFixed (x0 : Int) (x1 : Term) : Option MachEffect :=
  some ((MachEffect.mk 1 (-1) x0 ((Term.mk 0 0 0 ⟨#[]⟩ 0 ([] : List Term))) x1 ((Term.mk 0 0 0 ⟨#[]⟩ 0 ([] : List Term)))))
theorem api_givenFixed_ok {x0 : Int} {x1 : Term} {R : MachEffect} (H : api_givenFixed x0 x1 = some R) : FnOk Tryz.prog K0 56 [(aN .i64 x0), (aA (encTermX x1))] [] (aA (encMachEffect R)) [] := by
  refine fn_w (nt := 8) (np := 0) Tryz.func56 z z (by simp) (np_of2 z) <| ?_
  unfold api_givenFixed at H
  refine sgr z <| lh (p_bx 0 z q z) z <| lh (p_al 1 zr_118 z) z <| ne <| sgr z <| lm z z <| l (p_ldB (ds := (encTermX x1).map .data) ty_114 z z z z) z <| l (p_bd (cs := [(aN .u8 1), (aN .i64 (-1)), (aN .i64 x0), (aN .u8 0), (aN .i64 0), (aN .u64 0), (aS ⟨#[]⟩), (aN .i64 0), aNil, (aN .u8 x1.Kind), (aN .i64 x1.Width), (aN .u64 x1.Bits), (aS x1.Name), (aN .i64 x1.Low), (aL 6 encTerm x1.Sub), (aN .u8 0), (aN .i64 0), (aN .u64 0), (aS ⟨#[]⟩), (aN .i64 0), aNil]) pl_118 zr_118 z ⟨q, ⟨q, ⟨q, ⟨q, q⟩⟩⟩⟩ z) z <| l0h (p_stA (ds := [(aN .u8 1), (aN .i64 (-1)), (aN .i64 x0), (aN .u8 0), (aN .i64 0), (aN .u64 0), (aS ⟨#[]⟩), (aN .i64 0), aNil, (aN .u8 x1.Kind), (aN .i64 x1.Width), (aN .u64 x1.Bits), (aS x1.Name), (aN .i64 x1.Low), (aL 6 encTerm x1.Sub), (aN .u8 0), (aN .i64 0), (aN .u64 0), (aS ⟨#[]⟩), (aN .i64 0), aNil]) ty_118 z z z z z z) <| ne <| wc_ret <| ?_
  obtain rfl := sm H
  exact fin (Or.inr z) (rs1 (rva (ds := [(aN .u8 1), (aN .i64 (-1)), (aN .i64 x0), (aN .u8 0), (aN .i64 0), (aN .u64 0), (aS ⟨#[]⟩), (aN .i64 0), aNil, (aN .u8 x1.Kind), (aN .i64 x1.Width), (aN .u64 x1.Bits), (aS x1.Name), (aN .i64 x1.Low), (aL 6 encTerm x1.Sub), (aN .u8 0), (aN .i64 0), (aN .u64 0), (aS ⟨#[]⟩), (aN .i64 0), aNil]) ty_118 z z z z) rs0) (re [] (.sub (sg ⟨sr, ⟨sr, ⟨sr, ⟨sr, ⟨sr, ⟨sr, ⟨sr, ⟨sr, ⟨sn, ⟨sr, ⟨sr, ⟨sr, ⟨sr, ⟨sr, ⟨sr, ⟨sr, ⟨sr, ⟨sr, ⟨sr, ⟨sr, ⟨sn, q⟩⟩⟩⟩⟩⟩⟩⟩⟩⟩⟩⟩⟩⟩⟩⟩⟩⟩⟩⟩⟩) z) z h0)

def api_givenTrap (x0 : Term) : Option MachEffect :=
  some ((MachEffect.mk 4 0 0 ((Term.mk 0 0 0 ⟨#[]⟩ 0 ([] : List Term))) x0 ((Term.mk 0 0 0 ⟨#[]⟩ 0 ([] : List Term)))))
theorem api_givenTrap_ok {x0 : Term} {R : MachEffect} (H : api_givenTrap x0 = some R) : FnOk Tryz.prog K0 57 [(aA (encTermX x0))] [] (aA (encMachEffect R)) [] := by
  refine fn_w (nt := 5) (np := 0) Tryz.func57 z z (by simp) (np_of2 z) <| ?_
  unfold api_givenTrap at H
  refine sgr z <| lh (p_bx 0 z q z) z <| lh (p_al 1 zr_118 z) z <| ne <| sgr z <| l (p_ldB (ds := (encTermX x0).map .data) ty_114 z z z z) z <| l (p_bd (cs := [(aN .u8 4), (aN .i64 0), (aN .i64 0), (aN .u8 0), (aN .i64 0), (aN .u64 0), (aS ⟨#[]⟩), (aN .i64 0), aNil, (aN .u8 x0.Kind), (aN .i64 x0.Width), (aN .u64 x0.Bits), (aS x0.Name), (aN .i64 x0.Low), (aL 6 encTerm x0.Sub), (aN .u8 0), (aN .i64 0), (aN .u64 0), (aS ⟨#[]⟩), (aN .i64 0), aNil]) pl_118 zr_118 z ⟨q, ⟨q, q⟩⟩ z) z <| l0h (p_stA (ds := [(aN .u8 4), (aN .i64 0), (aN .i64 0), (aN .u8 0), (aN .i64 0), (aN .u64 0), (aS ⟨#[]⟩), (aN .i64 0), aNil, (aN .u8 x0.Kind), (aN .i64 x0.Width), (aN .u64 x0.Bits), (aS x0.Name), (aN .i64 x0.Low), (aL 6 encTerm x0.Sub), (aN .u8 0), (aN .i64 0), (aN .u64 0), (aS ⟨#[]⟩), (aN .i64 0), aNil]) ty_118 z z z z z z) <| ne <| wc_ret <| ?_
  obtain rfl := sm H
  exact fin (Or.inr z) (rs1 (rva (ds := [(aN .u8 4), (aN .i64 0), (aN .i64 0), (aN .u8 0), (aN .i64 0), (aN .u64 0), (aS ⟨#[]⟩), (aN .i64 0), aNil, (aN .u8 x0.Kind), (aN .i64 x0.Width), (aN .u64 x0.Bits), (aS x0.Name), (aN .i64 x0.Low), (aL 6 encTerm x0.Sub), (aN .u8 0), (aN .i64 0), (aN .u64 0), (aS ⟨#[]⟩), (aN .i64 0), aNil]) ty_118 z z z z) rs0) (re [] (.sub (sg ⟨sr, ⟨sr, ⟨sr, ⟨sr, ⟨sr, ⟨sr, ⟨sr, ⟨sr, ⟨sn, ⟨sr, ⟨sr, ⟨sr, ⟨sr, ⟨sr, ⟨sr, ⟨sr, ⟨sr, ⟨sr, ⟨sr, ⟨sr, ⟨sn, q⟩⟩⟩⟩⟩⟩⟩⟩⟩⟩⟩⟩⟩⟩⟩⟩⟩⟩⟩⟩⟩) z) z h0)

def api_givenRisc_k5 (v6 : List MachReg) (r8 : MachOperand) (r10 : MachOperand) (r12 : MachOperand) (r14 : MachOperand) (r16 : MachOperand) (r20 : Term) (r22 : Term) (r26 : Term) (r28 : Term) : ByteArray × Int × Int × (List MachBank) × (List MachUnit) × (List MachInstr) → Option Machine
  | (v126, v127, v128, v129, v130, v131) =>
    (api_givenField (⟨#[116, 111]⟩ : ByteArray) 4 0 0 [(MachPiece.mk 0 14)]).bind fun r132 =>
    (api_givenField (⟨#[116, 111]⟩ : ByteArray) 4 0 0 [(MachPiece.mk 0 26)]).bind fun r134 =>
    (api_givenVar (⟨#[116, 111]⟩ : ByteArray) 32).bind fun r136 =>
    (api_givenOp 16 1 [r20, r22]).bind fun r138 =>
    (api_givenJump r136 r138).bind fun r140 =>
    (api_givenRisc_1 (⟨#[98, 101, 113]⟩ : ByteArray) 0 1 1 1 [r10, r12, r132] [r140] v126 v127 v128 v6 v129 v130 v131).bind fun r142 =>
    (api_givenOp 16 1 [r20, r22]).bind fun r144 =>
    (api_givenOp 3 1 [r144]).bind fun r146 =>
    (api_givenJump r136 r146).bind fun r148 =>
    (api_givenRisc_1 (⟨#[98, 110, 101]⟩ : ByteArray) 0 1 1 1 [r10, r12, r132] [r148] r142.2.1 r142.2.2.1 r142.2.2.2.1 v6 r142.2.2.2.2.1 r142.2.2.2.2.2 r142.1).bind fun r150 =>
    (api_givenOp 18 1 [r20, r22]).bind fun r152 =>
    (api_givenJump r136 r152).bind fun r154 =>
    (api_givenRisc_1 (⟨#[98, 108, 116]⟩ : ByteArray) 0 1 1 1 [r10, r12, r132] [r154] r150.2.1 r150.2.2.1 r150.2.2.2.1 v6 r150.2.2.2.2.1 r150.2.2.2.2.2 r150.1).bind fun r156 =>
    (api_givenJump r136 ((Term.mk 0 0 0 ⟨#[]⟩ 0 ([] : List Term)))).bind fun r158 =>
    (api_givenRisc_1 (⟨#[106, 117, 109, 112]⟩ : ByteArray) 0 1 1 1 [r134] [r158] r156.2.1 r156.2.2.1 r156.2.2.2.1 v6 r156.2.2.2.2.1 r156.2.2.2.2.2 r156.1).bind fun r160 =>
    (api_givenNum 32 8).bind fun r162 =>
    (api_givenOp 5 32 [r28, r162]).bind fun r164 =>
    (api_givenFixed 15 r164).bind fun r166 =>
    (api_givenJump r136 ((Term.mk 0 0 0 ⟨#[]⟩ 0 ([] : List Term)))).bind fun r168 =>
    (api_givenRisc_1 (⟨#[99, 97, 108, 108]⟩ : ByteArray) 0 1 1 1 [r134] [r166, r168] r160.2.1 r160.2.2.1 r160.2.2.2.1 v6 r160.2.2.2.2.1 r160.2.2.2.2.2 r160.1).bind fun r170 =>
    (api_givenJump r20 ((Term.mk 0 0 0 ⟨#[]⟩ 0 ([] : List Term)))).bind fun r172 =>
    (api_givenRisc_1 (⟨#[106, 114]⟩ : ByteArray) 0 1 1 1 [r10] [r172] r170.2.1 r170.2.2.1 r170.2.2.2.1 v6 r170.2.2.2.2.1 r170.2.2.2.2.2 r170.1).bind fun r174 =>
    (api_givenTrap r26).bind fun r176 =>
    (api_givenRisc_1 (⟨#[116, 114, 97, 112]⟩ : ByteArray) 0 1 1 0 [r16] [r176] r174.2.1 r174.2.2.1 r174.2.2.2.1 v6 r174.2.2.2.2.1 r174.2.2.2.2.2 r174.1).bind fun r178 =>
    (api_givenNum 1 1).bind fun r180 =>
    (api_givenOp 20 33 [r180, r20]).bind fun r182 =>
    (api_givenTrap r182).bind fun r184 =>
    (api_givenRisc_1 (⟨#[116, 101, 108, 108]⟩ : ByteArray) 0 1 1 0 [r10] [r184] r178.2.1 r178.2.2.1 r178.2.2.2.1 v6 r178.2.2.2.2.1 r178.2.2.2.2.2 r178.1).bind fun r186 =>
    (api_givenTrap r20).bind fun r188 =>
    (api_givenRisc_1 (⟨#[104, 97, 108, 116]⟩ : ByteArray) 0 1 1 0 [r10] [r188] r186.2.1 r186.2.2.1 r186.2.2.2.1 v6 r186.2.2.2.2.1 r186.2.2.2.2.2 r186.1).bind fun r190 =>
    (api_givenRisc_1 (⟨#[110, 111, 112]⟩ : ByteArray) 0 1 1 0 ([] : List MachOperand) ([] : List MachEffect) r190.2.1 r190.2.2.1 r190.2.2.2.1 v6 r190.2.2.2.2.1 r190.2.2.2.2.2 r190.1).bind fun r192 =>
    (api_givenSet 0 r26).bind fun r194 =>
    (api_givenRisc_1 (⟨#[108, 105]⟩ : ByteArray) 0 1 1 0 [r8, r14] [r194] r192.2.1 r192.2.2.1 r192.2.2.2.1 v6 r192.2.2.2.2.1 r192.2.2.2.2.2 r192.1).bind fun r196 =>
    some (Machine.mk r196.2.1 r196.2.2.1 r196.2.2.2.1 v6 r196.2.2.2.2.1 r196.2.2.2.2.2 r196.1)
def api_givenRisc_b6 (v6 : List MachReg) (r8 : MachOperand) (r10 : MachOperand) (r12 : MachOperand) (r20 : Term) (r22 : Term) (k5 : ByteArray × Int × Int × (List MachBank) × (List MachUnit) × (List MachInstr) → Option Machine) (rec6 : Int × ByteArray × Int × Int × (List MachBank) × (List MachUnit) × (List MachInstr) → Option Machine) : Int × ByteArray × Int × Int × (List MachBank) × (List MachUnit) × (List MachInstr) → Option Machine
  | (v198, v199, v200, v201, v202, v203, v204) =>
    bif decide (v198 < ([16, 17, 18].length : Int)) then
      (ix [16, 17, 18] v198).bind fun r206 =>
      (ix ([(⟨#[101, 113]⟩ : ByteArray), (⟨#[117, 108, 116]⟩ : ByteArray), (⟨#[115, 108, 116]⟩ : ByteArray)]) v198).bind fun r208 =>
      (api_givenOp r206 1 [r20, r22]).bind fun r210 =>
      (api_givenRisc_2 r210).bind fun r212 =>
      (api_givenSet 0 r212).bind fun r214 =>
      (api_givenRisc_1 r208 0 1 1 0 [r8, r10, r12] [r214] v199 v200 v201 v6 v202 v203 v204).bind fun r216 =>
      rec6 ((w64 (v198 + 1), r216.2.1, r216.2.2.1, r216.2.2.2.1, r216.2.2.2.2.1, r216.2.2.2.2.2, r216.1))
    else
      k5 (v199, v200, v201, v202, v203, v204)
def api_givenRisc_k4 (v6 : List MachReg) (r8 : MachOperand) (r10 : MachOperand) (r12 : MachOperand) (r14 : MachOperand) (r16 : MachOperand) (r20 : Term) (r22 : Term) (r24 : Term) (r26 : Term) (r28 : Term) (r30 : Term) : ByteArray × Int × Int × (List MachBank) × (List MachUnit) × (List MachInstr) → Option Machine
  | (v66, v67, v68, v69, v70, v71) =>
    (api_givenNum 32 16).bind fun r72 =>
    (api_givenOp 11 32 [r26, r72]).bind fun r74 =>
    (api_givenSet 0 r74).bind fun r76 =>
    (api_givenRisc_1 (⟨#[108, 117, 105]⟩ : ByteArray) 0 1 1 0 [r8, r16] [r76] v66 v67 v68 v6 v69 v70 v71).bind fun r78 =>
    (api_givenOp 24 32 [r30]).bind fun r80 =>
    (api_givenSet 0 r80).bind fun r82 =>
    (api_givenRisc_1 (⟨#[108, 119]⟩ : ByteArray) 1 1 2 0 [r8, r10, r14] [r82] r78.2.1 r78.2.2.1 r78.2.2.2.1 v6 r78.2.2.2.2.1 r78.2.2.2.2.2 r78.1).bind fun r84 =>
    (api_givenOp 24 8 [r30]).bind fun r86 =>
    (api_givenOp 23 32 [r86]).bind fun r88 =>
    (api_givenSet 0 r88).bind fun r90 =>
    (api_givenRisc_1 (⟨#[108, 98]⟩ : ByteArray) 1 1 2 0 [r8, r10, r14] [r90] r84.2.1 r84.2.2.1 r84.2.2.2.1 v6 r84.2.2.2.2.1 r84.2.2.2.2.2 r84.1).bind fun r92 =>
    (api_givenOp 24 8 [r30]).bind fun r94 =>
    (api_givenRisc_2 r94).bind fun r96 =>
    (api_givenSet 0 r96).bind fun r98 =>
    (api_givenRisc_1 (⟨#[108, 98, 117]⟩ : ByteArray) 1 1 2 0 [r8, r10, r14] [r98] r92.2.1 r92.2.2.1 r92.2.2.2.1 v6 r92.2.2.2.2.1 r92.2.2.2.2.2 r92.1).bind fun r100 =>
    (api_givenOp 24 16 [r30]).bind fun r102 =>
    (api_givenRisc_2 r102).bind fun r104 =>
    (api_givenSet 0 r104).bind fun r106 =>
    (api_givenRisc_1 (⟨#[108, 104, 117]⟩ : ByteArray) 1 1 2 0 [r8, r10, r14] [r106] r100.2.1 r100.2.2.1 r100.2.2.2.1 v6 r100.2.2.2.2.1 r100.2.2.2.2.2 r100.1).bind fun r108 =>
    (api_givenStore r30 r24).bind fun r110 =>
    (api_givenRisc_1 (⟨#[115, 119]⟩ : ByteArray) 1 1 1 0 [r8, r10, r14] [r110] r108.2.1 r108.2.2.1 r108.2.2.2.1 v6 r108.2.2.2.2.1 r108.2.2.2.2.2 r108.1).bind fun r112 =>
    (api_givenOp 21 16 [r24]).bind fun r114 =>
    (api_givenStore r30 r114).bind fun r116 =>
    (api_givenRisc_1 (⟨#[115, 104]⟩ : ByteArray) 1 1 1 0 [r8, r10, r14] [r116] r112.2.1 r112.2.2.1 r112.2.2.2.1 v6 r112.2.2.2.2.1 r112.2.2.2.2.2 r112.1).bind fun r118 =>
    (api_givenOp 21 8 [r24]).bind fun r120 =>
    (api_givenStore r30 r120).bind fun r122 =>
    (api_givenRisc_1 (⟨#[115, 98]⟩ : ByteArray) 1 1 1 0 [r8, r10, r14] [r122] r118.2.1 r118.2.2.1 r118.2.2.2.1 v6 r118.2.2.2.2.1 r118.2.2.2.2.2 r118.1).bind fun r124 =>
    jn (api_givenRisc_k5 v6 r8 r10 r12 r14 r16 r20 r22 r26 r28) fun k5 =>
    lp (api_givenRisc_b6 v6 r8 r10 r12 r20 r22 k5) ([16, 17, 18].length + 1) (0, r124.2.1, r124.2.2.1, r124.2.2.2.1, r124.2.2.2.2.1, r124.2.2.2.2.2, r124.1)
def api_givenRisc_b7 (v6 : List MachReg) (r8 : MachOperand) (r10 : MachOperand) (r18 : MachOperand) (r20 : Term) (r26 : Term) (k4 : ByteArray × Int × Int × (List MachBank) × (List MachUnit) × (List MachInstr) → Option Machine) (rec7 : Int × ByteArray × Int × Int × (List MachBank) × (List MachUnit) × (List MachInstr) → Option Machine) : Int × ByteArray × Int × Int × (List MachBank) × (List MachUnit) × (List MachInstr) → Option Machine
  | (v218, v219, v220, v221, v222, v223, v224) =>
    bif decide (v218 < ([11, 12, 13].length : Int)) then
      (ix [11, 12, 13] v218).bind fun r226 =>
      (ix ([(⟨#[115, 104, 108, 105]⟩ : ByteArray), (⟨#[115, 104, 114, 105]⟩ : ByteArray), (⟨#[115, 97, 114, 105]⟩ : ByteArray)]) v218).bind fun r228 =>
      (api_givenOp r226 32 [r20, r26]).bind fun r230 =>
      (api_givenSet 0 r230).bind fun r232 =>
      (api_givenRisc_1 r228 0 1 1 0 [r8, r10, r18] [r232] v219 v220 v221 v6 v222 v223 v224).bind fun r234 =>
      rec7 ((w64 (v218 + 1), r234.2.1, r234.2.2.1, r234.2.2.2.1, r234.2.2.2.2.1, r234.2.2.2.2.2, r234.1))
    else
      k4 (v219, v220, v221, v222, v223, v224)
def api_givenRisc_k3 (v6 : List MachReg) (r8 : MachOperand) (r10 : MachOperand) (r12 : MachOperand) (r14 : MachOperand) (r16 : MachOperand) (r18 : MachOperand) (r20 : Term) (r22 : Term) (r24 : Term) (r26 : Term) (r28 : Term) (r30 : Term) : ByteArray × Int × Int × (List MachBank) × (List MachUnit) × (List MachInstr) → Option Machine
  | (v60, v61, v62, v63, v64, v65) =>
    jn (api_givenRisc_k4 v6 r8 r10 r12 r14 r16 r20 r22 r24 r26 r28 r30) fun k4 =>
    lp (api_givenRisc_b7 v6 r8 r10 r18 r20 r26 k4) ([11, 12, 13].length + 1) (0, v60, v61, v62, v63, v64, v65)
def api_givenRisc_b8 (v6 : List MachReg) (r8 : MachOperand) (r10 : MachOperand) (r16 : MachOperand) (r20 : Term) (r26 : Term) (k3 : ByteArray × Int × Int × (List MachBank) × (List MachUnit) × (List MachInstr) → Option Machine) (rec8 : Int × ByteArray × Int × Int × (List MachBank) × (List MachUnit) × (List MachInstr) → Option Machine) : Int × ByteArray × Int × Int × (List MachBank) × (List MachUnit) × (List MachInstr) → Option Machine
  | (v236, v237, v238, v239, v240, v241, v242) =>
    bif decide (v236 < ([8, 9, 10].length : Int)) then
      (ix [8, 9, 10] v236).bind fun r244 =>
      (ix ([(⟨#[97, 110, 100, 105]⟩ : ByteArray), (⟨#[111, 114, 105]⟩ : ByteArray), (⟨#[120, 111, 114, 105]⟩ : ByteArray)]) v236).bind fun r246 =>
      (api_givenOp r244 32 [r20, r26]).bind fun r248 =>
      (api_givenSet 0 r248).bind fun r250 =>
      (api_givenRisc_1 r246 0 1 1 0 [r8, r10, r16] [r250] v237 v238 v239 v6 v240 v241 v242).bind fun r252 =>
      rec8 ((w64 (v236 + 1), r252.2.1, r252.2.2.1, r252.2.2.2.1, r252.2.2.2.2.1, r252.2.2.2.2.2, r252.1))
    else
      k3 (v237, v238, v239, v240, v241, v242)
def api_givenRisc_k2 (v6 : List MachReg) (r8 : MachOperand) (r10 : MachOperand) (r12 : MachOperand) (r14 : MachOperand) (r16 : MachOperand) (r18 : MachOperand) (r20 : Term) (r22 : Term) (r24 : Term) (r26 : Term) (r28 : Term) (r30 : Term) : ByteArray × Int × Int × (List MachBank) × (List MachUnit) × (List MachInstr) → Option Machine
  | (v32, v33, v34, v35, v36, v37) =>
    (api_givenOp 7 32 [r20, r22]).bind fun r38 =>
    (api_givenSet 0 r38).bind fun r40 =>
    (api_givenRisc_1 (⟨#[109, 117, 108]⟩ : ByteArray) 2 1 4 0 [r8, r10, r12] [r40] v32 v33 v34 v6 v35 v36 v37).bind fun r42 =>
    (api_givenOp 14 32 [r20, r22]).bind fun r44 =>
    (api_givenSet 0 r44).bind fun r46 =>
    (api_givenRisc_1 (⟨#[117, 100, 105, 118]⟩ : ByteArray) 2 8 8 0 [r8, r10, r12] [r46] r42.2.1 r42.2.2.1 r42.2.2.2.1 v6 r42.2.2.2.2.1 r42.2.2.2.2.2 r42.1).bind fun r48 =>
    (api_givenOp 15 32 [r20, r22]).bind fun r50 =>
    (api_givenSet 0 r50).bind fun r52 =>
    (api_givenRisc_1 (⟨#[117, 114, 101, 109]⟩ : ByteArray) 2 8 8 0 [r8, r10, r12] [r52] r48.2.1 r48.2.2.1 r48.2.2.2.1 v6 r48.2.2.2.2.1 r48.2.2.2.2.2 r48.1).bind fun r54 =>
    (api_givenSet 0 r30).bind fun r56 =>
    (api_givenRisc_1 (⟨#[97, 100, 100, 105]⟩ : ByteArray) 0 1 1 0 [r8, r10, r14] [r56] r54.2.1 r54.2.2.1 r54.2.2.2.1 v6 r54.2.2.2.2.1 r54.2.2.2.2.2 r54.1).bind fun r58 =>
    jn (api_givenRisc_k3 v6 r8 r10 r12 r14 r16 r18 r20 r22 r24 r26 r28 r30) fun k3 =>
    lp (api_givenRisc_b8 v6 r8 r10 r16 r20 r26 k3) ([8, 9, 10].length + 1) (0, r58.2.1, r58.2.2.1, r58.2.2.2.1, r58.2.2.2.2.1, r58.2.2.2.2.2, r58.1)
def api_givenRisc_b9 (v6 : List MachReg) (r8 : MachOperand) (r10 : MachOperand) (r12 : MachOperand) (r20 : Term) (r22 : Term) (k2 : ByteArray × Int × Int × (List MachBank) × (List MachUnit) × (List MachInstr) → Option Machine) (rec9 : Int × ByteArray × Int × Int × (List MachBank) × (List MachUnit) × (List MachInstr) → Option Machine) : Int × ByteArray × Int × Int × (List MachBank) × (List MachUnit) × (List MachInstr) → Option Machine
  | (v254, v255, v256, v257, v258, v259, v260) =>
    bif decide (v254 < ([5, 6, 8, 9, 10, 11, 12, 13].length : Int)) then
      (ix [5, 6, 8, 9, 10, 11, 12, 13] v254).bind fun r262 =>
      (ix ([(⟨#[97, 100, 100]⟩ : ByteArray), (⟨#[115, 117, 98]⟩ : ByteArray), (⟨#[97, 110, 100]⟩ : ByteArray), (⟨#[111, 114]⟩ : ByteArray), (⟨#[120, 111, 114]⟩ : ByteArray), (⟨#[115, 104, 108]⟩ : ByteArray), (⟨#[115, 104, 114]⟩ : ByteArray), (⟨#[115, 97, 114]⟩ : ByteArray)]) v254).bind fun r264 =>
      (api_givenOp r262 32 [r20, r22]).bind fun r266 =>
      (api_givenSet 0 r266).bind fun r268 =>
      (api_givenRisc_1 r264 0 1 1 0 [r8, r10, r12] [r268] v255 v256 v257 v6 v258 v259 v260).bind fun r270 =>
      rec9 ((w64 (v254 + 1), r270.2.1, r270.2.2.1, r270.2.2.2.1, r270.2.2.2.2.1, r270.2.2.2.2.2, r270.1))
    else
      k2 (v255, v256, v257, v258, v259, v260)
def api_givenRisc_k1 : ByteArray × Int × Int × (List MachUnit) × ByteArray × (List MachReg) × (List Int) → Option Machine
  | (v1, v2, v3, v4, v5, v6, v7) =>
    (api_givenField (⟨#[100]⟩ : ByteArray) 1 0 0 [(MachPiece.mk 22 4)]).bind fun r8 =>
    (api_givenField (⟨#[97]⟩ : ByteArray) 1 0 0 [(MachPiece.mk 18 4)]).bind fun r10 =>
    (api_givenField (⟨#[98]⟩ : ByteArray) 1 0 0 [(MachPiece.mk 14 4)]).bind fun r12 =>
    (api_givenField (⟨#[110]⟩ : ByteArray) 2 0 0 [(MachPiece.mk 0 16)]).bind fun r14 =>
    (api_givenField (⟨#[110]⟩ : ByteArray) 3 0 0 [(MachPiece.mk 0 16)]).bind fun r16 =>
    (api_givenField (⟨#[110]⟩ : ByteArray) 3 0 0 [(MachPiece.mk 0 5)]).bind fun r18 =>
    (api_givenVar (⟨#[97]⟩ : ByteArray) 32).bind fun r20 =>
    (api_givenVar (⟨#[98]⟩ : ByteArray) 32).bind fun r22 =>
    (api_givenVar (⟨#[100]⟩ : ByteArray) 32).bind fun r24 =>
    (api_givenVar (⟨#[110]⟩ : ByteArray) 32).bind fun r26 =>
    (api_givenVar (⟨#[112, 99]⟩ : ByteArray) 32).bind fun r28 =>
    (api_givenOp 5 32 [r20, r26]).bind fun r30 =>
    jn (api_givenRisc_k2 v6 r8 r10 r12 r14 r16 r18 r20 r22 r24 r26 r28 r30) fun k2 =>
    lp (api_givenRisc_b9 v6 r8 r10 r12 r20 r22 k2) ([5, 6, 8, 9, 10, 11, 12, 13].length + 1) ((0, v1, v2, v3, [(MachBank.mk v5 v7)], v4, ([] : List MachInstr)))
def api_givenRisc_b10 (k1 : ByteArray × Int × Int × (List MachUnit) × ByteArray × (List MachReg) × (List Int) → Option Machine) (r272 : (List ByteArray)) (rec10 : Int × ByteArray × Int × Int × (List MachUnit) × ByteArray × (List MachReg) × (List Int) → Option Machine) : Int × ByteArray × Int × Int × (List MachUnit) × ByteArray × (List MachReg) × (List Int) → Option Machine
  | (v275, v276, v277, v278, v279, v280, v281, v282) =>
    bif decide (v275 < (((r272 ++ [(⟨#[115, 112]⟩ : ByteArray), (⟨#[108, 114]⟩ : ByteArray)]).length : Int))) then
      (ix (r272 ++ [(⟨#[115, 112]⟩ : ByteArray), (⟨#[108, 114]⟩ : ByteArray)]) v275).bind fun r284 =>
      asr (roomy (v281.length + [(MachReg.mk r284 32 (-1) 0)].length) 40) <|
      asr (roomy (v282.length + [v275].length) 8) <|
      rec10 ((w64 (v275 + 1), v276, v277, v278, v279, v280, v281 ++ [(MachReg.mk r284 32 (-1) 0)], v282 ++ [v275]))
    else
      k1 (v276, v277, v278, v279, v280, v281, v282)
def api_givenRisc : Option Machine :=
  jn api_givenRisc_k1 fun k1 =>
  (api_givenNames (⟨#[114]⟩ : ByteArray) 14).bind fun r272 =>
  asr (roomy (r272.length + ([(⟨#[115, 112]⟩ : ByteArray), (⟨#[108, 114]⟩ : ByteArray)]).length) 16) <|
  lp (api_givenRisc_b10 k1 r272) ((r272 ++ [(⟨#[115, 112]⟩ : ByteArray), (⟨#[108, 114]⟩ : ByteArray)]).length + 1) ((0, (⟨#[114, 105, 115, 99]⟩ : ByteArray), 4, 32, [(MachUnit.mk (⟨#[97, 108, 117]⟩ : ByteArray) 1), (MachUnit.mk (⟨#[109, 101, 109]⟩ : ByteArray) 1), (MachUnit.mk (⟨#[109, 117, 108]⟩ : ByteArray) 1)], (⟨#[103, 112, 114]⟩ : ByteArray), ([] : List MachReg), ([] : List Int)))
theorem api_givenRisc_ok {R : Machine} (H : api_givenRisc = some R) : FnOk Tryz.prog K0 25 [] [] (aA (encMachine R)) [] := by
  refine fn_w (nt := 449) (np := 0) Tryz.func25 z z (by simp) (np_of2 z) <| ?_
  unfold api_givenRisc at H
  refine sgr z <| lh (p_al 0 zr_27 z) z <| ne <| sgr z <| l (p_bd (cs := (encMachUnit ((MachUnit.mk (⟨#[97, 108, 117]⟩ : ByteArray) 1))).map .data) pl_92 zr_92 z ⟨q, ⟨q, q⟩⟩ z) z <| l (p_bd (cs := (encMachUnit ((MachUnit.mk (⟨#[109, 101, 109]⟩ : ByteArray) 1))).map .data) pl_92 zr_92 z ⟨q, ⟨q, q⟩⟩ z) z <| l (p_bd (cs := (encMachUnit ((MachUnit.mk (⟨#[109, 117, 108]⟩ : ByteArray) 1))).map .data) pl_92 zr_92 z ⟨q, ⟨q, q⟩⟩ z) z <| l (p_bs (f := encMachUnit) [.tmp 31, .tmp 32, .tmp 33] [(MachUnit.mk (⟨#[97, 108, 117]⟩ : ByteArray) 1), (MachUnit.mk (⟨#[109, 101, 109]⟩ : ByteArray) 1), (MachUnit.mk (⟨#[109, 117, 108]⟩ : ByteArray) 1)] Tryz.underlying24 ty_92.size zr_92 z z z z (el1 (.agg _) z (el1 (.agg _) z (el1 (.agg _) z el0))) z) z <| l (p_bd (cs := [(aS (⟨#[114, 105, 115, 99]⟩ : ByteArray)), (aN .i64 4), (aN .i64 32), aNil, aNil, (aL 2 encMachUnit ([(MachUnit.mk (⟨#[97, 108, 117]⟩ : ByteArray) 1), (MachUnit.mk (⟨#[109, 101, 109]⟩ : ByteArray) 1), (MachUnit.mk (⟨#[109, 117, 108]⟩ : ByteArray) 1)])), aNil]) pl_27 zr_27 z ⟨q, ⟨q, ⟨q, ⟨q, q⟩⟩⟩⟩ z) z <| lh (p_al 1 zr_27 z) z <| l0h (p_stA (ds := [(aS (⟨#[114, 105, 115, 99]⟩ : ByteArray)), (aN .i64 4), (aN .i64 32), aNil, aNil, (aL 2 encMachUnit ([(MachUnit.mk (⟨#[97, 108, 117]⟩ : ByteArray) 1), (MachUnit.mk (⟨#[109, 101, 109]⟩ : ByteArray) 1), (MachUnit.mk (⟨#[109, 117, 108]⟩ : ByteArray) 1)])), aNil]) ty_27 z z z z z z) <| ne <| sgr z <| l (p_bd (cs := [(aS (⟨#[103, 112, 114]⟩ : ByteArray)), aNil]) pl_97 zr_97 z ⟨q, q⟩ z) z <| lh (p_al 2 zr_97 z) z <| l0h (p_stA (ds := [(aS (⟨#[103, 112, 114]⟩ : ByteArray)), aNil]) ty_97 z z z z z z) <| ne <| ?_
  refine w_jn7 H (fun v1 v2 v3 v4 v5 v6 v7 => ⟨[(0, (.ptr 0 0)), (1, (.ptr 1 0)), (2, (.ptr 2 0))], [(0, (oC 27 [(aS ⟨#[]⟩), (aN .i64 0), (aN .i64 0), aNil, aNil, aNil, aNil])), (1, (oC 27 [(aS v1), (aN .i64 v2), (aN .i64 v3), (.row 9), aNil, (aL 2 encMachUnit v4), aNil])), (2, (oC 97 [(aS v5), (.row 10)])), (9, (oR 100 4 encMachReg v6)), (10, (oR 3 1 (eN .i64) v7))]⟩) ?_ ?_
  · intro v1 v2 v3 v4 v5 v6 v7 H
    rw [api_givenRisc_k1] at H
    refine sgr z <| wl_ent (fzc (j := 2) (i := 1) z z z z (fun _ => z)) <| l (p_ldB (ds := (encMachBank (MachBank.mk v5 v7)).map .data) ty_97 z z z z) z <| l (p_bs (f := encMachBank) [.tmp 60] [(MachBank.mk v5 v7)] Tryz.underlying23 ty_97.size zr_97 z z z z (el1 (.agg _) z el0) z) z <| l (p_fd fld_27_4 z) z <| l0h (p_st ty_23 z z z q z z) <| ne <| sgr z <| wl_ent (nrc (j := 1) (i := 6) (f := encMachInstr) (sz := 9) (e := 61) 11 z z z) <| l (p_mf z z) z <| la z z <| ne <| sgr z <| l (p_bd (cs := (encMachPiece (MachPiece.mk 22 4)).map .data) pl_110 zr_110 z ⟨q, ⟨q, q⟩⟩ z) z <| l (p_bs (f := encMachPiece) [.tmp 64] [(MachPiece.mk 22 4)] Tryz.underlying105 ty_110.size zr_110 z z z z (el1 (.agg _) z el0) z) z <| ?_
    obtain ⟨r8, e9, H⟩ := ob H
    refine l (p_c (api_givenField_ok e9) ent_48 z z z) z <| l (p_bd (cs := (encMachPiece (MachPiece.mk 18 4)).map .data) pl_110 zr_110 z ⟨q, ⟨q, q⟩⟩ z) z <| l (p_bs (f := encMachPiece) [.tmp 67] [(MachPiece.mk 18 4)] Tryz.underlying105 ty_110.size zr_110 z z z z (el1 (.agg _) z el0) z) z <| ?_
    obtain ⟨r10, e11, H⟩ := ob H
    refine l (p_c (api_givenField_ok e11) ent_48 z z z) z <| l (p_bd (cs := (encMachPiece (MachPiece.mk 14 4)).map .data) pl_110 zr_110 z ⟨q, ⟨q, q⟩⟩ z) z <| l (p_bs (f := encMachPiece) [.tmp 70] [(MachPiece.mk 14 4)] Tryz.underlying105 ty_110.size zr_110 z z z z (el1 (.agg _) z el0) z) z <| ?_
    obtain ⟨r12, e13, H⟩ := ob H
    refine l (p_c (api_givenField_ok e13) ent_48 z z z) z <| lh (p_al 12 zr_107 z) z <| lh (p_al 13 zr_107 z) z <| lh (p_al 14 zr_107 z) z <| l0h (p_stA (ds := (encMachOperand r8).map .data) ty_107 z z z z z z) <| l0h (p_stA (ds := (encMachOperand r10).map .data) ty_107 z z z z z z) <| l0h (p_stA (ds := (encMachOperand r12).map .data) ty_107 z z z z z z) <| ne <| sgr z <| l (p_bd (cs := (encMachPiece (MachPiece.mk 0 16)).map .data) pl_110 zr_110 z ⟨q, ⟨q, q⟩⟩ z) z <| l (p_bs (f := encMachPiece) [.tmp 73] [(MachPiece.mk 0 16)] Tryz.underlying105 ty_110.size zr_110 z z z z (el1 (.agg _) z el0) z) z <| ?_
    obtain ⟨r14, e15, H⟩ := ob H
    refine l (p_c (api_givenField_ok e15) ent_48 z z z) z <| l (p_bd (cs := (encMachPiece (MachPiece.mk 0 16)).map .data) pl_110 zr_110 z ⟨q, ⟨q, q⟩⟩ z) z <| l (p_bs (f := encMachPiece) [.tmp 76] [(MachPiece.mk 0 16)] Tryz.underlying105 ty_110.size zr_110 z z z z (el1 (.agg _) z el0) z) z <| ?_
    obtain ⟨r16, e17, H⟩ := ob H
    refine l (p_c (api_givenField_ok e17) ent_48 z z z) z <| l (p_bd (cs := (encMachPiece (MachPiece.mk 0 5)).map .data) pl_110 zr_110 z ⟨q, ⟨q, q⟩⟩ z) z <| l (p_bs (f := encMachPiece) [.tmp 79] [(MachPiece.mk 0 5)] Tryz.underlying105 ty_110.size zr_110 z z z z (el1 (.agg _) z el0) z) z <| ?_
    obtain ⟨r18, e19, H⟩ := ob H
    refine l (p_c (api_givenField_ok e19) ent_48 z z z) z <| lh (p_al 15 zr_107 z) z <| lh (p_al 16 zr_107 z) z <| lh (p_al 17 zr_107 z) z <| l0h (p_stA (ds := (encMachOperand r14).map .data) ty_107 z z z z z z) <| l0h (p_stA (ds := (encMachOperand r16).map .data) ty_107 z z z z z z) <| l0h (p_stA (ds := (encMachOperand r18).map .data) ty_107 z z z z z z) <| ne <| sgr z <| ?_
    obtain ⟨r20, e21, H⟩ := ob H
    refine l (p_c (api_givenVar_ok e21) ent_49 z z z) z <| ?_
    obtain ⟨r22, e23, H⟩ := ob H
    refine l (p_c (api_givenVar_ok e23) ent_49 z z z) z <| ?_
    obtain ⟨r24, e25, H⟩ := ob H
    refine l (p_c (api_givenVar_ok e25) ent_49 z z z) z <| ?_
    obtain ⟨r26, e27, H⟩ := ob H
    refine l (p_c (api_givenVar_ok e27) ent_49 z z z) z <| ?_
    obtain ⟨r28, e29, H⟩ := ob H
    refine l (p_c (api_givenVar_ok e29) ent_49 z z z) z <| lh (p_al 18 zr_114 z) z <| lh (p_al 19 zr_114 z) z <| lh (p_al 20 zr_114 z) z <| lh (p_al 21 zr_114 z) z <| lh (p_al 22 zr_114 z) z <| l0h (p_stA (ds := (encTermX r20).map .data) ty_114 z z z z z z) <| l0h (p_stA (ds := (encTermX r22).map .data) ty_114 z z z z z z) <| l0h (p_stA (ds := (encTermX r24).map .data) ty_114 z z z z z z) <| l0h (p_stA (ds := (encTermX r26).map .data) ty_114 z z z z z z) <| l0h (p_stA (ds := (encTermX r28).map .data) ty_114 z z z z z z) <| ne <| sgr z <| l (p_ldB (ds := (encTermX r20).map .data) ty_114 z z z z) z <| l (p_ldB (ds := (encTermX r26).map .data) ty_114 z z z z) z <| l (p_bs (f := encTerm) [.tmp 87, .tmp 88] [r20, r26] Tryz.underlying112 ty_114.size zr_114 z z z z (el1X (encTerm_X _) (.agg _) z (el1X (encTerm_X _) (.agg _) z el0)) z) z <| ?_
    obtain ⟨r30, e31, H⟩ := ob H
    refine l (p_c (api_givenOp_ok e31) ent_51 z z z) z <| lh (p_al 23 zr_114 z) z <| l0h (p_stA (ds := (encTermX r30).map .data) ty_114 z z z z z z) <| ne <| sgr z <| la z z <| ne <| sgr z <| l (p_bs (f := eS) [.const (Value.string {data := #[97, 100, 100]}), .const (Value.string {data := #[115, 117, 98]}), .const (Value.string {data := #[97, 110, 100]}), .const (Value.string {data := #[111, 114]}), .const (Value.string {data := #[120, 111, 114]}), .const (Value.string {data := #[115, 104, 108]}), .const (Value.string {data := #[115, 104, 114]}), .const (Value.string {data := #[115, 97, 114]})] [(⟨#[97, 100, 100]⟩ : ByteArray), (⟨#[115, 117, 98]⟩ : ByteArray), (⟨#[97, 110, 100]⟩ : ByteArray), (⟨#[111, 114]⟩ : ByteArray), (⟨#[120, 111, 114]⟩ : ByteArray), (⟨#[115, 104, 108]⟩ : ByteArray), (⟨#[115, 104, 114]⟩ : ByteArray), (⟨#[115, 97, 114]⟩ : ByteArray)] Tryz.underlying98 ty_9.size zr_9 z z z z (el1 (.one _) z (el1 (.one _) z (el1 (.one _) z (el1 (.one _) z (el1 (.one _) z (el1 (.one _) z (el1 (.one _) z (el1 (.one _) z el0)))))))) z) z <| la z z <| ne <| ?_
    refine w_jn6 H (fun v32 v33 v34 v35 v36 v37 => ⟨[(0, (.ptr 0 0)), (1, (.ptr 1 0)), (5, (.fn (.func 58) [] [(.ptr 1 0)])), (6, (.ptr 12 0)), (7, (.ptr 13 0)), (8, (.ptr 14 0)), (9, (.ptr 15 0)), (10, (.ptr 16 0)), (11, (.ptr 17 0)), (12, (.ptr 18 0)), (13, (.ptr 19 0)), (14, (.ptr 20 0)), (15, (.ptr 21 0)), (16, (.ptr 22 0)), (17, (.ptr 23 0)), (18, (.fn (.func 59) [] []))], [(0, (oC 27 [(aS ⟨#[]⟩), (aN .i64 0), (aN .i64 0), aNil, aNil, aNil, aNil])), (1, (oC 27 [(aS v32), (aN .i64 v33), (aN .i64 v34), (.row 9), (aL 2 encMachBank v35), (aL 2 encMachUnit v36), (.row 11)])), (9, (oR 100 4 encMachReg v6)), (11, (oR 61 9 encMachInstr v37)), (12, (oD 107 (encMachOperand r8))), (13, (oD 107 (encMachOperand r10))), (14, (oD 107 (encMachOperand r12))), (15, (oD 107 (encMachOperand r14))), (16, (oD 107 (encMachOperand r16))), (17, (oD 107 (encMachOperand r18))), (18, (oD 114 (encTermX r20))), (19, (oD 114 (encTermX r22))), (20, (oD 114 (encTermX r24))), (21, (oD 114 (encTermX r26))), (22, (oD 114 (encTermX r28))), (23, (oD 114 (encTermX r30)))]⟩) ?_ ?_
    · intro v32 v33 v34 v35 v36 v37 H
      rw [api_givenRisc_k2] at H
      refine wc_seq <| wc_draw [0, 0, 0, 0, 14, 0, 0, 96, 224, 480, 992, 2047] mixed z <| dm z z <| dr (p_ldB (ds := (encMachOperand r8).map .data) ty_107 z z z z) z <| dr (p_ldB (ds := (encMachOperand r10).map .data) ty_107 z z z z) z <| dr (p_ldB (ds := (encMachOperand r12).map .data) ty_107 z z z z) z <| dr (p_bs (f := encMachOperand) [.tmp 118, .tmp 119, .tmp 120] [r8, r10, r12] Tryz.underlying58 ty_107.size zr_107 z z z z (el1 (.agg _) z (el1 (.agg _) z (el1 (.agg _) z el0))) z) z <| dr (p_ldB (ds := (encTermX r20).map .data) ty_114 z z z z) z <| dr (p_ldB (ds := (encTermX r22).map .data) ty_114 z z z z) z <| dr (p_bs (f := encTerm) [.tmp 122, .tmp 123] [r20, r22] Tryz.underlying112 ty_114.size zr_114 z z z z (el1X (encTerm_X _) (.agg _) z (el1X (encTerm_X _) (.agg _) z el0)) z) z <| ?_
      obtain ⟨r38, e39, H⟩ := ob H
      refine dr (p_c (api_givenOp_ok e39) ent_51 z z z) z <| ?_
      obtain ⟨r40, e41, H⟩ := ob H
      refine dr (p_c (api_givenSet_ok e41) ent_50 z z z) z <| dr (p_bs (f := encMachEffect) [.tmp 126] [r40] Tryz.underlying59 ty_118.size zr_118 z z z z (el1 (.agg _) z el0) z) z <| ?_
      obtain ⟨r42, e43, H⟩ := ob H
      refine drh (p_cw (ids := [1, 9, 11, 25]) (api_givenRisc_1_ok e43) ent_58 z z z (rc z z (rc z rm (rc z rm (rc z z rn)))) (rc z z (rc z rm (rc z z (rc z rm rn)))) z ⟨z, ⟨z, ⟨z, ⟨z, q⟩⟩⟩⟩ (by decide) z z z (oc z (oc om (oc om (oc z on)))) (oc z (oc om (oc z (oc om on)))) z) z <| ?_
      refine wd_nil ?_ (by kernel_rfl)
      refine e_n <| wc_seq <| wc_draw [0, 0, 0, 0, 14, 0, 0, 96, 224, 480, 992, 2047] mixed z <| dm z z <| dr (p_ldB (ds := (encMachOperand r8).map .data) ty_107 z z z z) z <| dr (p_ldB (ds := (encMachOperand r10).map .data) ty_107 z z z z) z <| dr (p_ldB (ds := (encMachOperand r12).map .data) ty_107 z z z z) z <| dr (p_bs (f := encMachOperand) [.tmp 130, .tmp 131, .tmp 132] [r8, r10, r12] Tryz.underlying58 ty_107.size zr_107 z z z z (el1 (.agg _) z (el1 (.agg _) z (el1 (.agg _) z el0))) z) z <| dr (p_ldB (ds := (encTermX r20).map .data) ty_114 z z z z) z <| dr (p_ldB (ds := (encTermX r22).map .data) ty_114 z z z z) z <| dr (p_bs (f := encTerm) [.tmp 134, .tmp 135] [r20, r22] Tryz.underlying112 ty_114.size zr_114 z z z z (el1X (encTerm_X _) (.agg _) z (el1X (encTerm_X _) (.agg _) z el0)) z) z <| ?_
      obtain ⟨r44, e45, H⟩ := ob H
      refine dr (p_c (api_givenOp_ok e45) ent_51 z z z) z <| ?_
      obtain ⟨r46, e47, H⟩ := ob H
      refine dr (p_c (api_givenSet_ok e47) ent_50 z z z) z <| dr (p_bs (f := encMachEffect) [.tmp 138] [r46] Tryz.underlying59 ty_118.size zr_118 z z z z (el1 (.agg _) z el0) z) z <| ?_
      obtain ⟨r48, e49, H⟩ := ob H
      refine drh (p_cw (ids := [1, 9, 25, 26]) (api_givenRisc_1_ok e49) ent_58 z z z (rc z z (rc z rm (rc z rm (rc z z rn)))) (rc z z (rc z rm (rc z z (rc z rm rn)))) z ⟨z, ⟨z, ⟨z, ⟨z, q⟩⟩⟩⟩ (by decide) z z z (oc z (oc om (oc om (oc z on)))) (oc z (oc om (oc z (oc om on)))) z) z <| ?_
      refine wd_nil ?_ (by kernel_rfl)
      refine e_n <| wc_seq <| wc_draw [0, 0, 0, 0, 14, 0, 0, 96, 224, 480, 992, 2047] mixed z <| dm z z <| dr (p_ldB (ds := (encMachOperand r8).map .data) ty_107 z z z z) z <| dr (p_ldB (ds := (encMachOperand r10).map .data) ty_107 z z z z) z <| dr (p_ldB (ds := (encMachOperand r12).map .data) ty_107 z z z z) z <| dr (p_bs (f := encMachOperand) [.tmp 142, .tmp 143, .tmp 144] [r8, r10, r12] Tryz.underlying58 ty_107.size zr_107 z z z z (el1 (.agg _) z (el1 (.agg _) z (el1 (.agg _) z el0))) z) z <| dr (p_ldB (ds := (encTermX r20).map .data) ty_114 z z z z) z <| dr (p_ldB (ds := (encTermX r22).map .data) ty_114 z z z z) z <| dr (p_bs (f := encTerm) [.tmp 146, .tmp 147] [r20, r22] Tryz.underlying112 ty_114.size zr_114 z z z z (el1X (encTerm_X _) (.agg _) z (el1X (encTerm_X _) (.agg _) z el0)) z) z <| ?_
      obtain ⟨r50, e51, H⟩ := ob H
      refine dr (p_c (api_givenOp_ok e51) ent_51 z z z) z <| ?_
      obtain ⟨r52, e53, H⟩ := ob H
      refine dr (p_c (api_givenSet_ok e53) ent_50 z z z) z <| dr (p_bs (f := encMachEffect) [.tmp 150] [r52] Tryz.underlying59 ty_118.size zr_118 z z z z (el1 (.agg _) z el0) z) z <| ?_
      obtain ⟨r54, e55, H⟩ := ob H
      refine drh (p_cw (ids := [1, 9, 26, 27]) (api_givenRisc_1_ok e55) ent_58 z z z (rc z z (rc z rm (rc z rm (rc z z rn)))) (rc z z (rc z rm (rc z z (rc z rm rn)))) z ⟨z, ⟨z, ⟨z, ⟨z, q⟩⟩⟩⟩ (by decide) z z z (oc z (oc om (oc om (oc z on)))) (oc z (oc om (oc z (oc om on)))) z) z <| ?_
      refine wd_nil ?_ (by kernel_rfl)
      refine e_n <| wc_seq <| wc_draw [0, 0, 0, 0, 14, 0, 32, 96, 255] mixed z <| dm z z <| dr (p_ldB (ds := (encMachOperand r8).map .data) ty_107 z z z z) z <| dr (p_ldB (ds := (encMachOperand r10).map .data) ty_107 z z z z) z <| dr (p_ldB (ds := (encMachOperand r14).map .data) ty_107 z z z z) z <| dr (p_bs (f := encMachOperand) [.tmp 154, .tmp 155, .tmp 156] [r8, r10, r14] Tryz.underlying58 ty_107.size zr_107 z z z z (el1 (.agg _) z (el1 (.agg _) z (el1 (.agg _) z el0))) z) z <| dr (p_ldB (ds := (encTermX r30).map .data) ty_114 z z z z) z <| ?_
      obtain ⟨r56, e57, H⟩ := ob H
      refine dr (p_c (api_givenSet_ok e57) ent_50 z z z) z <| dr (p_bs (f := encMachEffect) [.tmp 159] [r56] Tryz.underlying59 ty_118.size zr_118 z z z z (el1 (.agg _) z el0) z) z <| ?_
      obtain ⟨r58, e59, H⟩ := ob H
      refine drh (p_cw (ids := [1, 9, 27, 28]) (api_givenRisc_1_ok e59) ent_58 z z z (rc z z (rc z rm (rc z rm (rc z z rn)))) (rc z z (rc z rm (rc z z (rc z rm rn)))) z ⟨z, ⟨z, ⟨z, ⟨z, q⟩⟩⟩⟩ (by decide) z z z (oc z (oc om (oc om (oc z on)))) (oc z (oc om (oc z (oc om on)))) z) z <| ?_
      refine wd_nil ?_ (by kernel_rfl)
      refine e_n <| sgr z <| l (p_bs (f := eS) [.const (Value.string {data := #[97, 110, 100, 105]}), .const (Value.string {data := #[111, 114, 105]}), .const (Value.string {data := #[120, 111, 114, 105]})] [(⟨#[97, 110, 100, 105]⟩ : ByteArray), (⟨#[111, 114, 105]⟩ : ByteArray), (⟨#[120, 111, 114, 105]⟩ : ByteArray)] Tryz.underlying98 ty_9.size zr_9 z z z z (el1 (.one _) z (el1 (.one _) z (el1 (.one _) z el0))) z) z <| la z z <| ne <| ?_
      refine w_jn6 H (fun v60 v61 v62 v63 v64 v65 => ⟨[(0, (.ptr 0 0)), (1, (.ptr 1 0)), (5, (.fn (.func 58) [] [(.ptr 1 0)])), (6, (.ptr 12 0)), (7, (.ptr 13 0)), (8, (.ptr 14 0)), (9, (.ptr 15 0)), (10, (.ptr 16 0)), (11, (.ptr 17 0)), (12, (.ptr 18 0)), (13, (.ptr 19 0)), (14, (.ptr 20 0)), (15, (.ptr 21 0)), (16, (.ptr 22 0)), (17, (.ptr 23 0)), (18, (.fn (.func 59) [] []))], [(0, (oC 27 [(aS ⟨#[]⟩), (aN .i64 0), (aN .i64 0), aNil, aNil, aNil, aNil])), (1, (oC 27 [(aS v60), (aN .i64 v61), (aN .i64 v62), (.row 9), (aL 2 encMachBank v63), (aL 2 encMachUnit v64), (.row 28)])), (9, (oR 100 4 encMachReg v6)), (12, (oD 107 (encMachOperand r8))), (13, (oD 107 (encMachOperand r10))), (14, (oD 107 (encMachOperand r12))), (15, (oD 107 (encMachOperand r14))), (16, (oD 107 (encMachOperand r16))), (17, (oD 107 (encMachOperand r18))), (18, (oD 114 (encTermX r20))), (19, (oD 114 (encTermX r22))), (20, (oD 114 (encTermX r24))), (21, (oD 114 (encTermX r26))), (22, (oD 114 (encTermX r28))), (23, (oD 114 (encTermX r30))), (28, (oR 61 9 encMachInstr v65))]⟩) ?_ ?_
      · intro v60 v61 v62 v63 v64 v65 H
        rw [api_givenRisc_k3] at H
        refine sgr z <| l (p_bs (f := eS) [.const (Value.string {data := #[115, 104, 108, 105]}), .const (Value.string {data := #[115, 104, 114, 105]}), .const (Value.string {data := #[115, 97, 114, 105]})] [(⟨#[115, 104, 108, 105]⟩ : ByteArray), (⟨#[115, 104, 114, 105]⟩ : ByteArray), (⟨#[115, 97, 114, 105]⟩ : ByteArray)] Tryz.underlying98 ty_9.size zr_9 z z z z (el1 (.one _) z (el1 (.one _) z (el1 (.one _) z el0))) z) z <| la z z <| ne <| ?_
        refine w_jn6 H (fun v66 v67 v68 v69 v70 v71 => ⟨[(0, (.ptr 0 0)), (1, (.ptr 1 0)), (5, (.fn (.func 58) [] [(.ptr 1 0)])), (6, (.ptr 12 0)), (7, (.ptr 13 0)), (8, (.ptr 14 0)), (9, (.ptr 15 0)), (10, (.ptr 16 0)), (12, (.ptr 18 0)), (13, (.ptr 19 0)), (14, (.ptr 20 0)), (15, (.ptr 21 0)), (16, (.ptr 22 0)), (17, (.ptr 23 0)), (18, (.fn (.func 59) [] []))], [(0, (oC 27 [(aS ⟨#[]⟩), (aN .i64 0), (aN .i64 0), aNil, aNil, aNil, aNil])), (1, (oC 27 [(aS v66), (aN .i64 v67), (aN .i64 v68), (.row 9), (aL 2 encMachBank v69), (aL 2 encMachUnit v70), (.row 28)])), (9, (oR 100 4 encMachReg v6)), (12, (oD 107 (encMachOperand r8))), (13, (oD 107 (encMachOperand r10))), (14, (oD 107 (encMachOperand r12))), (15, (oD 107 (encMachOperand r14))), (16, (oD 107 (encMachOperand r16))), (18, (oD 114 (encTermX r20))), (19, (oD 114 (encTermX r22))), (20, (oD 114 (encTermX r24))), (21, (oD 114 (encTermX r26))), (22, (oD 114 (encTermX r28))), (23, (oD 114 (encTermX r30))), (28, (oR 61 9 encMachInstr v71))]⟩) ?_ ?_
        · intro v66 v67 v68 v69 v70 v71 H
          rw [api_givenRisc_k4] at H
          refine wc_seq <| wc_draw [0, 0, 0, 6, 0, 0, 48, 112, 240, 496, 1023] mixed z <| dm z z <| dr (p_ldB (ds := (encMachOperand r8).map .data) ty_107 z z z z) z <| dr (p_ldB (ds := (encMachOperand r16).map .data) ty_107 z z z z) z <| dr (p_bs (f := encMachOperand) [.tmp 215, .tmp 216] [r8, r16] Tryz.underlying58 ty_107.size zr_107 z z z z (el1 (.agg _) z (el1 (.agg _) z el0)) z) z <| dr (p_ldB (ds := (encTermX r26).map .data) ty_114 z z z z) z <| ?_
          obtain ⟨r72, e73, H⟩ := ob H
          refine dr (p_c (api_givenNum_ok e73) ent_54 z z z) z <| dr (p_bs (f := encTerm) [.tmp 218, .tmp 219] [r26, r72] Tryz.underlying112 ty_114.size zr_114 z z z z (el1X (encTerm_X _) (.agg _) z (el1X (encTerm_X _) (.agg _) z el0)) z) z <| ?_
          obtain ⟨r74, e75, H⟩ := ob H
          refine dr (p_c (api_givenOp_ok e75) ent_51 z z z) z <| ?_
          obtain ⟨r76, e77, H⟩ := ob H
          refine dr (p_c (api_givenSet_ok e77) ent_50 z z z) z <| dr (p_bs (f := encMachEffect) [.tmp 222] [r76] Tryz.underlying59 ty_118.size zr_118 z z z z (el1 (.agg _) z el0) z) z <| ?_
          obtain ⟨r78, e79, H⟩ := ob H
          refine drh (p_cw (ids := [1, 9, 28, 31]) (api_givenRisc_1_ok e79) ent_58 z z z (rc z z (rc z rm (rc z rm (rc z z rn)))) (rc z z (rc z rm (rc z z (rc z rm rn)))) z ⟨z, ⟨z, ⟨z, ⟨z, q⟩⟩⟩⟩ (by decide) z z z (oc z (oc om (oc om (oc z on)))) (oc z (oc om (oc z (oc om on)))) z) z <| ?_
          refine wd_nil ?_ (by kernel_rfl)
          refine e_n <| wc_seq <| wc_draw [0, 0, 0, 0, 14, 0, 32, 96, 224, 480, 1023] mixed z <| dm z z <| dr (p_ldB (ds := (encMachOperand r8).map .data) ty_107 z z z z) z <| dr (p_ldB (ds := (encMachOperand r10).map .data) ty_107 z z z z) z <| dr (p_ldB (ds := (encMachOperand r14).map .data) ty_107 z z z z) z <| dr (p_bs (f := encMachOperand) [.tmp 226, .tmp 227, .tmp 228] [r8, r10, r14] Tryz.underlying58 ty_107.size zr_107 z z z z (el1 (.agg _) z (el1 (.agg _) z (el1 (.agg _) z el0))) z) z <| dr (p_ldB (ds := (encTermX r30).map .data) ty_114 z z z z) z <| dr (p_bs (f := encTerm) [.tmp 230] [r30] Tryz.underlying112 ty_114.size zr_114 z z z z (el1X (encTerm_X _) (.agg _) z el0) z) z <| ?_
          obtain ⟨r80, e81, H⟩ := ob H
          refine dr (p_c (api_givenOp_ok e81) ent_51 z z z) z <| ?_
          obtain ⟨r82, e83, H⟩ := ob H
          refine dr (p_c (api_givenSet_ok e83) ent_50 z z z) z <| dr (p_bs (f := encMachEffect) [.tmp 233] [r82] Tryz.underlying59 ty_118.size zr_118 z z z z (el1 (.agg _) z el0) z) z <| ?_
          obtain ⟨r84, e85, H⟩ := ob H
          refine drh (p_cw (ids := [1, 9, 31, 32]) (api_givenRisc_1_ok e85) ent_58 z z z (rc z z (rc z rm (rc z rm (rc z z rn)))) (rc z z (rc z rm (rc z z (rc z rm rn)))) z ⟨z, ⟨z, ⟨z, ⟨z, q⟩⟩⟩⟩ (by decide) z z z (oc z (oc om (oc om (oc z on)))) (oc z (oc om (oc z (oc om on)))) z) z <| ?_
          refine wd_nil ?_ (by kernel_rfl)
          refine e_n <| wc_seq <| wc_draw [0, 0, 0, 0, 14, 0, 32, 96, 224, 480, 992, 2016, 4095] mixed z <| dm z z <| dr (p_ldB (ds := (encMachOperand r8).map .data) ty_107 z z z z) z <| dr (p_ldB (ds := (encMachOperand r10).map .data) ty_107 z z z z) z <| dr (p_ldB (ds := (encMachOperand r14).map .data) ty_107 z z z z) z <| dr (p_bs (f := encMachOperand) [.tmp 237, .tmp 238, .tmp 239] [r8, r10, r14] Tryz.underlying58 ty_107.size zr_107 z z z z (el1 (.agg _) z (el1 (.agg _) z (el1 (.agg _) z el0))) z) z <| dr (p_ldB (ds := (encTermX r30).map .data) ty_114 z z z z) z <| dr (p_bs (f := encTerm) [.tmp 241] [r30] Tryz.underlying112 ty_114.size zr_114 z z z z (el1X (encTerm_X _) (.agg _) z el0) z) z <| ?_
          obtain ⟨r86, e87, H⟩ := ob H
          refine dr (p_c (api_givenOp_ok e87) ent_51 z z z) z <| dr (p_bs (f := encTerm) [.tmp 243] [r86] Tryz.underlying112 ty_114.size zr_114 z z z z (el1X (encTerm_X _) (.agg _) z el0) z) z <| ?_
          obtain ⟨r88, e89, H⟩ := ob H
          refine dr (p_c (api_givenOp_ok e89) ent_51 z z z) z <| ?_
          obtain ⟨r90, e91, H⟩ := ob H
          refine dr (p_c (api_givenSet_ok e91) ent_50 z z z) z <| dr (p_bs (f := encMachEffect) [.tmp 246] [r90] Tryz.underlying59 ty_118.size zr_118 z z z z (el1 (.agg _) z el0) z) z <| ?_
          obtain ⟨r92, e93, H⟩ := ob H
          refine drh (p_cw (ids := [1, 9, 32, 33]) (api_givenRisc_1_ok e93) ent_58 z z z (rc z z (rc z rm (rc z rm (rc z z rn)))) (rc z z (rc z rm (rc z z (rc z rm rn)))) z ⟨z, ⟨z, ⟨z, ⟨z, q⟩⟩⟩⟩ (by decide) z z z (oc z (oc om (oc om (oc z on)))) (oc z (oc om (oc z (oc om on)))) z) z <| ?_
          refine wd_nil ?_ (by kernel_rfl)
          refine e_n <| wc_seq <| wc_draw [0, 0, 0, 0, 14, 0, 0, 64, 192, 480, 992, 2016, 4095] mixed z <| dm z z <| dr (p_ldB (ds := (encMachOperand r8).map .data) ty_107 z z z z) z <| dr (p_ldB (ds := (encMachOperand r10).map .data) ty_107 z z z z) z <| dr (p_ldB (ds := (encMachOperand r14).map .data) ty_107 z z z z) z <| dr (p_bs (f := encMachOperand) [.tmp 250, .tmp 251, .tmp 252] [r8, r10, r14] Tryz.underlying58 ty_107.size zr_107 z z z z (el1 (.agg _) z (el1 (.agg _) z (el1 (.agg _) z el0))) z) z <| dm z z <| dr (p_ldB (ds := (encTermX r30).map .data) ty_114 z z z z) z <| dr (p_bs (f := encTerm) [.tmp 255] [r30] Tryz.underlying112 ty_114.size zr_114 z z z z (el1X (encTerm_X _) (.agg _) z el0) z) z <| ?_
          obtain ⟨r94, e95, H⟩ := ob H
          refine dr (p_c (api_givenOp_ok e95) ent_51 z z z) z <| ?_
          obtain ⟨r96, e97, H⟩ := ob H
          refine dr (p_cw (ids := []) (api_givenRisc_2_ok e97) ent_59 z z z rn rn rna q List.nodup_nil z z z on on z) z <| ?_
          obtain ⟨r98, e99, H⟩ := ob H
          refine dr (p_c (api_givenSet_ok e99) ent_50 z z z) z <| dr (p_bs (f := encMachEffect) [.tmp 259] [r98] Tryz.underlying59 ty_118.size zr_118 z z z z (el1 (.agg _) z el0) z) z <| ?_
          obtain ⟨r100, e101, H⟩ := ob H
          refine drh (p_cw (ids := [1, 9, 33, 34]) (api_givenRisc_1_ok e101) ent_58 z z z (rc z z (rc z rm (rc z rm (rc z z rn)))) (rc z z (rc z rm (rc z z (rc z rm rn)))) z ⟨z, ⟨z, ⟨z, ⟨z, q⟩⟩⟩⟩ (by decide) z z z (oc z (oc om (oc om (oc z on)))) (oc z (oc om (oc z (oc om on)))) z) z <| ?_
          refine wd_nil ?_ (by kernel_rfl)
          refine e_n <| wc_seq <| wc_draw [0, 0, 0, 0, 14, 0, 0, 64, 192, 480, 992, 2016, 4095] mixed z <| dm z z <| dr (p_ldB (ds := (encMachOperand r8).map .data) ty_107 z z z z) z <| dr (p_ldB (ds := (encMachOperand r10).map .data) ty_107 z z z z) z <| dr (p_ldB (ds := (encMachOperand r14).map .data) ty_107 z z z z) z <| dr (p_bs (f := encMachOperand) [.tmp 263, .tmp 264, .tmp 265] [r8, r10, r14] Tryz.underlying58 ty_107.size zr_107 z z z z (el1 (.agg _) z (el1 (.agg _) z (el1 (.agg _) z el0))) z) z <| dm z z <| dr (p_ldB (ds := (encTermX r30).map .data) ty_114 z z z z) z <| dr (p_bs (f := encTerm) [.tmp 268] [r30] Tryz.underlying112 ty_114.size zr_114 z z z z (el1X (encTerm_X _) (.agg _) z el0) z) z <| ?_
          obtain ⟨r102, e103, H⟩ := ob H
          refine dr (p_c (api_givenOp_ok e103) ent_51 z z z) z <| ?_
          obtain ⟨r104, e105, H⟩ := ob H
          refine dr (p_cw (ids := []) (api_givenRisc_2_ok e105) ent_59 z z z rn rn rna q List.nodup_nil z z z on on z) z <| ?_
          obtain ⟨r106, e107, H⟩ := ob H
          refine dr (p_c (api_givenSet_ok e107) ent_50 z z z) z <| dr (p_bs (f := encMachEffect) [.tmp 272] [r106] Tryz.underlying59 ty_118.size zr_118 z z z z (el1 (.agg _) z el0) z) z <| ?_
          obtain ⟨r108, e109, H⟩ := ob H
          refine drh (p_cw (ids := [1, 9, 34, 35]) (api_givenRisc_1_ok e109) ent_58 z z z (rc z z (rc z rm (rc z rm (rc z z rn)))) (rc z z (rc z rm (rc z z (rc z rm rn)))) z ⟨z, ⟨z, ⟨z, ⟨z, q⟩⟩⟩⟩ (by decide) z z z (oc z (oc om (oc om (oc z on)))) (oc z (oc om (oc z (oc om on)))) z) z <| ?_
          refine wd_nil ?_ (by kernel_rfl)
          refine e_n <| wc_seq <| wc_draw [0, 0, 0, 0, 14, 0, 0, 96, 224, 511] mixed z <| dm z z <| dr (p_ldB (ds := (encMachOperand r8).map .data) ty_107 z z z z) z <| dr (p_ldB (ds := (encMachOperand r10).map .data) ty_107 z z z z) z <| dr (p_ldB (ds := (encMachOperand r14).map .data) ty_107 z z z z) z <| dr (p_bs (f := encMachOperand) [.tmp 276, .tmp 277, .tmp 278] [r8, r10, r14] Tryz.underlying58 ty_107.size zr_107 z z z z (el1 (.agg _) z (el1 (.agg _) z (el1 (.agg _) z el0))) z) z <| dr (p_ldB (ds := (encTermX r30).map .data) ty_114 z z z z) z <| dr (p_ldB (ds := (encTermX r24).map .data) ty_114 z z z z) z <| ?_
          obtain ⟨r110, e111, H⟩ := ob H
          refine dr (p_c (api_givenStore_ok e111) ent_53 z z z) z <| dr (p_bs (f := encMachEffect) [.tmp 282] [r110] Tryz.underlying59 ty_118.size zr_118 z z z z (el1 (.agg _) z el0) z) z <| ?_
          obtain ⟨r112, e113, H⟩ := ob H
          refine drh (p_cw (ids := [1, 9, 35, 36]) (api_givenRisc_1_ok e113) ent_58 z z z (rc z z (rc z rm (rc z rm (rc z z rn)))) (rc z z (rc z rm (rc z z (rc z rm rn)))) z ⟨z, ⟨z, ⟨z, ⟨z, q⟩⟩⟩⟩ (by decide) z z z (oc z (oc om (oc om (oc z on)))) (oc z (oc om (oc z (oc om on)))) z) z <| ?_
          refine wd_nil ?_ (by kernel_rfl)
          refine e_n <| wc_seq <| wc_draw [0, 0, 0, 0, 14, 0, 0, 64, 192, 480, 992, 2047] mixed z <| dm z z <| dr (p_ldB (ds := (encMachOperand r8).map .data) ty_107 z z z z) z <| dr (p_ldB (ds := (encMachOperand r10).map .data) ty_107 z z z z) z <| dr (p_ldB (ds := (encMachOperand r14).map .data) ty_107 z z z z) z <| dr (p_bs (f := encMachOperand) [.tmp 286, .tmp 287, .tmp 288] [r8, r10, r14] Tryz.underlying58 ty_107.size zr_107 z z z z (el1 (.agg _) z (el1 (.agg _) z (el1 (.agg _) z el0))) z) z <| dr (p_ldB (ds := (encTermX r30).map .data) ty_114 z z z z) z <| dr (p_ldB (ds := (encTermX r24).map .data) ty_114 z z z z) z <| dr (p_bs (f := encTerm) [.tmp 291] [r24] Tryz.underlying112 ty_114.size zr_114 z z z z (el1X (encTerm_X _) (.agg _) z el0) z) z <| ?_
          obtain ⟨r114, e115, H⟩ := ob H
          refine dr (p_c (api_givenOp_ok e115) ent_51 z z z) z <| ?_
          obtain ⟨r116, e117, H⟩ := ob H
          refine dr (p_c (api_givenStore_ok e117) ent_53 z z z) z <| dr (p_bs (f := encMachEffect) [.tmp 294] [r116] Tryz.underlying59 ty_118.size zr_118 z z z z (el1 (.agg _) z el0) z) z <| ?_
          obtain ⟨r118, e119, H⟩ := ob H
          refine drh (p_cw (ids := [1, 9, 36, 37]) (api_givenRisc_1_ok e119) ent_58 z z z (rc z z (rc z rm (rc z rm (rc z z rn)))) (rc z z (rc z rm (rc z z (rc z rm rn)))) z ⟨z, ⟨z, ⟨z, ⟨z, q⟩⟩⟩⟩ (by decide) z z z (oc z (oc om (oc om (oc z on)))) (oc z (oc om (oc z (oc om on)))) z) z <| ?_
          refine wd_nil ?_ (by kernel_rfl)
          refine e_n <| wc_seq <| wc_draw [0, 0, 0, 0, 14, 0, 0, 64, 192, 480, 992, 2047] mixed z <| dm z z <| dr (p_ldB (ds := (encMachOperand r8).map .data) ty_107 z z z z) z <| dr (p_ldB (ds := (encMachOperand r10).map .data) ty_107 z z z z) z <| dr (p_ldB (ds := (encMachOperand r14).map .data) ty_107 z z z z) z <| dr (p_bs (f := encMachOperand) [.tmp 298, .tmp 299, .tmp 300] [r8, r10, r14] Tryz.underlying58 ty_107.size zr_107 z z z z (el1 (.agg _) z (el1 (.agg _) z (el1 (.agg _) z el0))) z) z <| dr (p_ldB (ds := (encTermX r30).map .data) ty_114 z z z z) z <| dr (p_ldB (ds := (encTermX r24).map .data) ty_114 z z z z) z <| dr (p_bs (f := encTerm) [.tmp 303] [r24] Tryz.underlying112 ty_114.size zr_114 z z z z (el1X (encTerm_X _) (.agg _) z el0) z) z <| ?_
          obtain ⟨r120, e121, H⟩ := ob H
          refine dr (p_c (api_givenOp_ok e121) ent_51 z z z) z <| ?_
          obtain ⟨r122, e123, H⟩ := ob H
          refine dr (p_c (api_givenStore_ok e123) ent_53 z z z) z <| dr (p_bs (f := encMachEffect) [.tmp 306] [r122] Tryz.underlying59 ty_118.size zr_118 z z z z (el1 (.agg _) z el0) z) z <| ?_
          obtain ⟨r124, e125, H⟩ := ob H
          refine drh (p_cw (ids := [1, 9, 37, 38]) (api_givenRisc_1_ok e125) ent_58 z z z (rc z z (rc z rm (rc z rm (rc z z rn)))) (rc z z (rc z rm (rc z z (rc z rm rn)))) z ⟨z, ⟨z, ⟨z, ⟨z, q⟩⟩⟩⟩ (by decide) z z z (oc z (oc om (oc om (oc z on)))) (oc z (oc om (oc z (oc om on)))) z) z <| ?_
          refine wd_nil ?_ (by kernel_rfl)
          refine e_n <| sgr z <| l (p_bs (f := eS) [.const (Value.string {data := #[101, 113]}), .const (Value.string {data := #[117, 108, 116]}), .const (Value.string {data := #[115, 108, 116]})] [(⟨#[101, 113]⟩ : ByteArray), (⟨#[117, 108, 116]⟩ : ByteArray), (⟨#[115, 108, 116]⟩ : ByteArray)] Tryz.underlying98 ty_9.size zr_9 z z z z (el1 (.one _) z (el1 (.one _) z (el1 (.one _) z el0))) z) z <| la z z <| ne <| ?_
          refine w_jn6 H (fun v126 v127 v128 v129 v130 v131 => ⟨[(0, (.ptr 0 0)), (1, (.ptr 1 0)), (5, (.fn (.func 58) [] [(.ptr 1 0)])), (6, (.ptr 12 0)), (7, (.ptr 13 0)), (8, (.ptr 14 0)), (9, (.ptr 15 0)), (10, (.ptr 16 0)), (12, (.ptr 18 0)), (13, (.ptr 19 0)), (15, (.ptr 21 0)), (16, (.ptr 22 0))], [(0, (oC 27 [(aS ⟨#[]⟩), (aN .i64 0), (aN .i64 0), aNil, aNil, aNil, aNil])), (1, (oC 27 [(aS v126), (aN .i64 v127), (aN .i64 v128), (.row 9), (aL 2 encMachBank v129), (aL 2 encMachUnit v130), (.row 38)])), (9, (oR 100 4 encMachReg v6)), (12, (oD 107 (encMachOperand r8))), (13, (oD 107 (encMachOperand r10))), (14, (oD 107 (encMachOperand r12))), (15, (oD 107 (encMachOperand r14))), (16, (oD 107 (encMachOperand r16))), (18, (oD 114 (encTermX r20))), (19, (oD 114 (encTermX r22))), (21, (oD 114 (encTermX r26))), (22, (oD 114 (encTermX r28))), (38, (oR 61 9 encMachInstr v131))]⟩) ?_ ?_
          · intro v126 v127 v128 v129 v130 v131 H
            rw [api_givenRisc_k5] at H
            refine sgr z <| l (p_bd (cs := (encMachPiece (MachPiece.mk 0 14)).map .data) pl_110 zr_110 z ⟨q, ⟨q, q⟩⟩ z) z <| l (p_bs (f := encMachPiece) [.tmp 337] [(MachPiece.mk 0 14)] Tryz.underlying105 ty_110.size zr_110 z z z z (el1 (.agg _) z el0) z) z <| ?_
            obtain ⟨r132, e133, H⟩ := ob H
            refine l (p_c (api_givenField_ok e133) ent_48 z z z) z <| lh (p_al 40 zr_107 z) z <| l0h (p_stA (ds := (encMachOperand r132).map .data) ty_107 z z z z z z) <| ne <| sgr z <| l (p_bd (cs := (encMachPiece (MachPiece.mk 0 26)).map .data) pl_110 zr_110 z ⟨q, ⟨q, q⟩⟩ z) z <| l (p_bs (f := encMachPiece) [.tmp 340] [(MachPiece.mk 0 26)] Tryz.underlying105 ty_110.size zr_110 z z z z (el1 (.agg _) z el0) z) z <| ?_
            obtain ⟨r134, e135, H⟩ := ob H
            refine l (p_c (api_givenField_ok e135) ent_48 z z z) z <| lh (p_al 41 zr_107 z) z <| l0h (p_stA (ds := (encMachOperand r134).map .data) ty_107 z z z z z z) <| ne <| sgr z <| ?_
            obtain ⟨r136, e137, H⟩ := ob H
            refine l (p_c (api_givenVar_ok e137) ent_49 z z z) z <| lh (p_al 42 zr_114 z) z <| l0h (p_stA (ds := (encTermX r136).map .data) ty_114 z z z z z z) <| ne <| wc_seq <| wc_draw [0, 0, 0, 0, 14, 0, 0, 0, 192, 448, 992, 2016, 4095] mixed z <| dm z z <| dr (p_ldB (ds := (encMachOperand r10).map .data) ty_107 z z z z) z <| dr (p_ldB (ds := (encMachOperand r12).map .data) ty_107 z z z z) z <| dr (p_ldB (ds := (encMachOperand r132).map .data) ty_107 z z z z) z <| dr (p_bs (f := encMachOperand) [.tmp 345, .tmp 346, .tmp 347] [r10, r12, r132] Tryz.underlying58 ty_107.size zr_107 z z z z (el1 (.agg _) z (el1 (.agg _) z (el1 (.agg _) z el0))) z) z <| dr (p_ldB (ds := (encTermX r136).map .data) ty_114 z z z z) z <| dr (p_ldB (ds := (encTermX r20).map .data) ty_114 z z z z) z <| dr (p_ldB (ds := (encTermX r22).map .data) ty_114 z z z z) z <| dr (p_bs (f := encTerm) [.tmp 350, .tmp 351] [r20, r22] Tryz.underlying112 ty_114.size zr_114 z z z z (el1X (encTerm_X _) (.agg _) z (el1X (encTerm_X _) (.agg _) z el0)) z) z <| ?_
            obtain ⟨r138, e139, H⟩ := ob H
            refine dr (p_c (api_givenOp_ok e139) ent_51 z z z) z <| ?_
            obtain ⟨r140, e141, H⟩ := ob H
            refine dr (p_c (api_givenJump_ok e141) ent_55 z z z) z <| dr (p_bs (f := encMachEffect) [.tmp 354] [r140] Tryz.underlying59 ty_118.size zr_118 z z z z (el1 (.agg _) z el0) z) z <| ?_
            obtain ⟨r142, e143, H⟩ := ob H
            refine drh (p_cw (ids := [1, 9, 38, 43]) (api_givenRisc_1_ok e143) ent_58 z z z (rc z z (rc z rm (rc z rm (rc z z rn)))) (rc z z (rc z rm (rc z z (rc z rm rn)))) z ⟨z, ⟨z, ⟨z, ⟨z, q⟩⟩⟩⟩ (by decide) z z z (oc z (oc om (oc om (oc z on)))) (oc z (oc om (oc z (oc om on)))) z) z <| ?_
            refine wd_nil ?_ (by kernel_rfl)
            refine e_n <| wc_seq <| wc_draw [0, 0, 0, 0, 14, 0, 0, 0, 192, 448, 960, 1984, 4064, 8160, 16383] mixed z <| dm z z <| dr (p_ldB (ds := (encMachOperand r10).map .data) ty_107 z z z z) z <| dr (p_ldB (ds := (encMachOperand r12).map .data) ty_107 z z z z) z <| dr (p_ldB (ds := (encMachOperand r132).map .data) ty_107 z z z z) z <| dr (p_bs (f := encMachOperand) [.tmp 358, .tmp 359, .tmp 360] [r10, r12, r132] Tryz.underlying58 ty_107.size zr_107 z z z z (el1 (.agg _) z (el1 (.agg _) z (el1 (.agg _) z el0))) z) z <| dr (p_ldB (ds := (encTermX r136).map .data) ty_114 z z z z) z <| dr (p_ldB (ds := (encTermX r20).map .data) ty_114 z z z z) z <| dr (p_ldB (ds := (encTermX r22).map .data) ty_114 z z z z) z <| dr (p_bs (f := encTerm) [.tmp 363, .tmp 364] [r20, r22] Tryz.underlying112 ty_114.size zr_114 z z z z (el1X (encTerm_X _) (.agg _) z (el1X (encTerm_X _) (.agg _) z el0)) z) z <| ?_
            obtain ⟨r144, e145, H⟩ := ob H
            refine dr (p_c (api_givenOp_ok e145) ent_51 z z z) z <| dr (p_bs (f := encTerm) [.tmp 366] [r144] Tryz.underlying112 ty_114.size zr_114 z z z z (el1X (encTerm_X _) (.agg _) z el0) z) z <| ?_
            obtain ⟨r146, e147, H⟩ := ob H
            refine dr (p_c (api_givenOp_ok e147) ent_51 z z z) z <| ?_
            obtain ⟨r148, e149, H⟩ := ob H
            refine dr (p_c (api_givenJump_ok e149) ent_55 z z z) z <| dr (p_bs (f := encMachEffect) [.tmp 369] [r148] Tryz.underlying59 ty_118.size zr_118 z z z z (el1 (.agg _) z el0) z) z <| ?_
            obtain ⟨r150, e151, H⟩ := ob H
            refine drh (p_cw (ids := [1, 9, 43, 44]) (api_givenRisc_1_ok e151) ent_58 z z z (rc z z (rc z rm (rc z rm (rc z z rn)))) (rc z z (rc z rm (rc z z (rc z rm rn)))) z ⟨z, ⟨z, ⟨z, ⟨z, q⟩⟩⟩⟩ (by decide) z z z (oc z (oc om (oc om (oc z on)))) (oc z (oc om (oc z (oc om on)))) z) z <| ?_
            refine wd_nil ?_ (by kernel_rfl)
            refine e_n <| wc_seq <| wc_draw [0, 0, 0, 0, 14, 0, 0, 0, 192, 448, 992, 2016, 4095] mixed z <| dm z z <| dr (p_ldB (ds := (encMachOperand r10).map .data) ty_107 z z z z) z <| dr (p_ldB (ds := (encMachOperand r12).map .data) ty_107 z z z z) z <| dr (p_ldB (ds := (encMachOperand r132).map .data) ty_107 z z z z) z <| dr (p_bs (f := encMachOperand) [.tmp 373, .tmp 374, .tmp 375] [r10, r12, r132] Tryz.underlying58 ty_107.size zr_107 z z z z (el1 (.agg _) z (el1 (.agg _) z (el1 (.agg _) z el0))) z) z <| dr (p_ldB (ds := (encTermX r136).map .data) ty_114 z z z z) z <| dr (p_ldB (ds := (encTermX r20).map .data) ty_114 z z z z) z <| dr (p_ldB (ds := (encTermX r22).map .data) ty_114 z z z z) z <| dr (p_bs (f := encTerm) [.tmp 378, .tmp 379] [r20, r22] Tryz.underlying112 ty_114.size zr_114 z z z z (el1X (encTerm_X _) (.agg _) z (el1X (encTerm_X _) (.agg _) z el0)) z) z <| ?_
            obtain ⟨r152, e153, H⟩ := ob H
            refine dr (p_c (api_givenOp_ok e153) ent_51 z z z) z <| ?_
            obtain ⟨r154, e155, H⟩ := ob H
            refine dr (p_c (api_givenJump_ok e155) ent_55 z z z) z <| dr (p_bs (f := encMachEffect) [.tmp 382] [r154] Tryz.underlying59 ty_118.size zr_118 z z z z (el1 (.agg _) z el0) z) z <| ?_
            obtain ⟨r156, e157, H⟩ := ob H
            refine drh (p_cw (ids := [1, 9, 44, 45]) (api_givenRisc_1_ok e157) ent_58 z z z (rc z z (rc z rm (rc z rm (rc z z rn)))) (rc z z (rc z rm (rc z z (rc z rm rn)))) z ⟨z, ⟨z, ⟨z, ⟨z, q⟩⟩⟩⟩ (by decide) z z z (oc z (oc om (oc om (oc z on)))) (oc z (oc om (oc z (oc om on)))) z) z <| ?_
            refine wd_nil ?_ (by kernel_rfl)
            refine e_n <| wc_seq <| wc_draw [0, 0, 2, 0, 0, 24, 56, 127] mixed z <| dm z z <| dr (p_ldB (ds := (encMachOperand r134).map .data) ty_107 z z z z) z <| dr (p_bs (f := encMachOperand) [.tmp 386] [r134] Tryz.underlying58 ty_107.size zr_107 z z z z (el1 (.agg _) z el0) z) z <| dr (p_ldB (ds := (encTermX r136).map .data) ty_114 z z z z) z <| dr (p_bd (cs := [(aN .u8 0), (aN .i64 0), (aN .u64 0), (aS ⟨#[]⟩), (aN .i64 0), aNil]) pl_114 zr_114 z q z) z <| ?_
            obtain ⟨r158, e159, H⟩ := ob H
            refine dr (p_cs (api_givenJump_ok e159) ent_55 z ⟨sr, ⟨sg ⟨sr, ⟨sr, ⟨sr, ⟨sr, ⟨sr, ⟨sn, q⟩⟩⟩⟩⟩⟩, q⟩⟩ z z) z <| dr (p_bs (f := encMachEffect) [.tmp 390] [r158] Tryz.underlying59 ty_118.size zr_118 z z z z (el1 (.agg _) z el0) z) z <| ?_
            obtain ⟨r160, e161, H⟩ := ob H
            refine drh (p_cw (ids := [1, 9, 45, 46]) (api_givenRisc_1_ok e161) ent_58 z z z (rc z z (rc z rm (rc z rm (rc z z rn)))) (rc z z (rc z rm (rc z z (rc z rm rn)))) z ⟨z, ⟨z, ⟨z, ⟨z, q⟩⟩⟩⟩ (by decide) z z z (oc z (oc om (oc om (oc z on)))) (oc z (oc om (oc z (oc om on)))) z) z <| ?_
            refine wd_nil ?_ (by kernel_rfl)
            refine e_n <| wc_seq <| wc_draw [0, 0, 2, 0, 0, 24, 56, 120, 0, 0, 1016, 2040, 4095] mixed z <| dm z z <| dr (p_ldB (ds := (encMachOperand r134).map .data) ty_107 z z z z) z <| dr (p_bs (f := encMachOperand) [.tmp 394] [r134] Tryz.underlying58 ty_107.size zr_107 z z z z (el1 (.agg _) z el0) z) z <| dr (p_ldB (ds := (encTermX r28).map .data) ty_114 z z z z) z <| ?_
            obtain ⟨r162, e163, H⟩ := ob H
            refine dr (p_c (api_givenNum_ok e163) ent_54 z z z) z <| dr (p_bs (f := encTerm) [.tmp 396, .tmp 397] [r28, r162] Tryz.underlying112 ty_114.size zr_114 z z z z (el1X (encTerm_X _) (.agg _) z (el1X (encTerm_X _) (.agg _) z el0)) z) z <| ?_
            obtain ⟨r164, e165, H⟩ := ob H
            refine dr (p_c (api_givenOp_ok e165) ent_51 z z z) z <| ?_
            obtain ⟨r166, e167, H⟩ := ob H
            refine dr (p_c (api_givenFixed_ok e167) ent_56 z z z) z <| dr (p_ldB (ds := (encTermX r136).map .data) ty_114 z z z z) z <| dr (p_bd (cs := [(aN .u8 0), (aN .i64 0), (aN .u64 0), (aS ⟨#[]⟩), (aN .i64 0), aNil]) pl_114 zr_114 z q z) z <| ?_
            obtain ⟨r168, e169, H⟩ := ob H
            refine dr (p_cs (api_givenJump_ok e169) ent_55 z ⟨sr, ⟨sg ⟨sr, ⟨sr, ⟨sr, ⟨sr, ⟨sr, ⟨sn, q⟩⟩⟩⟩⟩⟩, q⟩⟩ z z) z <| dr (p_bs (f := encMachEffect) [.tmp 400, .tmp 403] [r166, r168] Tryz.underlying59 ty_118.size zr_118 z z z z (el1 (.agg _) z (el1 (.agg _) z el0)) z) z <| ?_
            obtain ⟨r170, e171, H⟩ := ob H
            refine drh (p_cw (ids := [1, 9, 46, 47]) (api_givenRisc_1_ok e171) ent_58 z z z (rc z z (rc z rm (rc z rm (rc z z rn)))) (rc z z (rc z rm (rc z z (rc z rm rn)))) z ⟨z, ⟨z, ⟨z, ⟨z, q⟩⟩⟩⟩ (by decide) z z z (oc z (oc om (oc om (oc z on)))) (oc z (oc om (oc z (oc om on)))) z) z <| ?_
            refine wd_nil ?_ (by kernel_rfl)
            refine e_n <| wc_seq <| wc_draw [0, 0, 2, 0, 0, 24, 56, 127] mixed z <| dm z z <| dr (p_ldB (ds := (encMachOperand r10).map .data) ty_107 z z z z) z <| dr (p_bs (f := encMachOperand) [.tmp 407] [r10] Tryz.underlying58 ty_107.size zr_107 z z z z (el1 (.agg _) z el0) z) z <| dr (p_ldB (ds := (encTermX r20).map .data) ty_114 z z z z) z <| dr (p_bd (cs := [(aN .u8 0), (aN .i64 0), (aN .u64 0), (aS ⟨#[]⟩), (aN .i64 0), aNil]) pl_114 zr_114 z q z) z <| ?_
            obtain ⟨r172, e173, H⟩ := ob H
            refine dr (p_cs (api_givenJump_ok e173) ent_55 z ⟨sr, ⟨sg ⟨sr, ⟨sr, ⟨sr, ⟨sr, ⟨sr, ⟨sn, q⟩⟩⟩⟩⟩⟩, q⟩⟩ z z) z <| dr (p_bs (f := encMachEffect) [.tmp 411] [r172] Tryz.underlying59 ty_118.size zr_118 z z z z (el1 (.agg _) z el0) z) z <| ?_
            obtain ⟨r174, e175, H⟩ := ob H
            refine drh (p_cw (ids := [1, 9, 47, 48]) (api_givenRisc_1_ok e175) ent_58 z z z (rc z z (rc z rm (rc z rm (rc z z rn)))) (rc z z (rc z rm (rc z z (rc z rm rn)))) z ⟨z, ⟨z, ⟨z, ⟨z, q⟩⟩⟩⟩ (by decide) z z z (oc z (oc om (oc om (oc z on)))) (oc z (oc om (oc z (oc om on)))) z) z <| ?_
            refine wd_nil ?_ (by kernel_rfl)
            refine e_n <| wc_seq <| wc_draw [0, 0, 2, 0, 8, 24, 63] mixed z <| dm z z <| dr (p_ldB (ds := (encMachOperand r16).map .data) ty_107 z z z z) z <| dr (p_bs (f := encMachOperand) [.tmp 415] [r16] Tryz.underlying58 ty_107.size zr_107 z z z z (el1 (.agg _) z el0) z) z <| dr (p_ldB (ds := (encTermX r26).map .data) ty_114 z z z z) z <| ?_
            obtain ⟨r176, e177, H⟩ := ob H
            refine dr (p_c (api_givenTrap_ok e177) ent_57 z z z) z <| dr (p_bs (f := encMachEffect) [.tmp 418] [r176] Tryz.underlying59 ty_118.size zr_118 z z z z (el1 (.agg _) z el0) z) z <| ?_
            obtain ⟨r178, e179, H⟩ := ob H
            refine drh (p_cw (ids := [1, 9, 48, 49]) (api_givenRisc_1_ok e179) ent_58 z z z (rc z z (rc z rm (rc z rm (rc z z rn)))) (rc z z (rc z rm (rc z z (rc z rm rn)))) z ⟨z, ⟨z, ⟨z, ⟨z, q⟩⟩⟩⟩ (by decide) z z z (oc z (oc om (oc om (oc z on)))) (oc z (oc om (oc z (oc om on)))) z) z <| ?_
            refine wd_nil ?_ (by kernel_rfl)
            refine e_n <| wc_seq <| wc_draw [0, 0, 2, 0, 0, 24, 56, 120, 248, 511] mixed z <| dm z z <| dr (p_ldB (ds := (encMachOperand r10).map .data) ty_107 z z z z) z <| dr (p_bs (f := encMachOperand) [.tmp 422] [r10] Tryz.underlying58 ty_107.size zr_107 z z z z (el1 (.agg _) z el0) z) z <| ?_
            obtain ⟨r180, e181, H⟩ := ob H
            refine dr (p_c (api_givenNum_ok e181) ent_54 z z z) z <| dr (p_ldB (ds := (encTermX r20).map .data) ty_114 z z z z) z <| dr (p_bs (f := encTerm) [.tmp 424, .tmp 425] [r180, r20] Tryz.underlying112 ty_114.size zr_114 z z z z (el1X (encTerm_X _) (.agg _) z (el1X (encTerm_X _) (.agg _) z el0)) z) z <| ?_
            obtain ⟨r182, e183, H⟩ := ob H
            refine dr (p_c (api_givenOp_ok e183) ent_51 z z z) z <| ?_
            obtain ⟨r184, e185, H⟩ := ob H
            refine dr (p_c (api_givenTrap_ok e185) ent_57 z z z) z <| dr (p_bs (f := encMachEffect) [.tmp 428] [r184] Tryz.underlying59 ty_118.size zr_118 z z z z (el1 (.agg _) z el0) z) z <| ?_
            obtain ⟨r186, e187, H⟩ := ob H
            refine drh (p_cw (ids := [1, 9, 49, 50]) (api_givenRisc_1_ok e187) ent_58 z z z (rc z z (rc z rm (rc z rm (rc z z rn)))) (rc z z (rc z rm (rc z z (rc z rm rn)))) z ⟨z, ⟨z, ⟨z, ⟨z, q⟩⟩⟩⟩ (by decide) z z z (oc z (oc om (oc om (oc z on)))) (oc z (oc om (oc z (oc om on)))) z) z <| ?_
            refine wd_nil ?_ (by kernel_rfl)
            refine e_n <| wc_seq <| wc_draw [0, 0, 2, 0, 8, 24, 63] mixed z <| dm z z <| dr (p_ldB (ds := (encMachOperand r10).map .data) ty_107 z z z z) z <| dr (p_bs (f := encMachOperand) [.tmp 432] [r10] Tryz.underlying58 ty_107.size zr_107 z z z z (el1 (.agg _) z el0) z) z <| dr (p_ldB (ds := (encTermX r20).map .data) ty_114 z z z z) z <| ?_
            obtain ⟨r188, e189, H⟩ := ob H
            refine dr (p_c (api_givenTrap_ok e189) ent_57 z z z) z <| dr (p_bs (f := encMachEffect) [.tmp 435] [r188] Tryz.underlying59 ty_118.size zr_118 z z z z (el1 (.agg _) z el0) z) z <| ?_
            obtain ⟨r190, e191, H⟩ := ob H
            refine drh (p_cw (ids := [1, 9, 50, 51]) (api_givenRisc_1_ok e191) ent_58 z z z (rc z z (rc z rm (rc z rm (rc z z rn)))) (rc z z (rc z rm (rc z z (rc z rm rn)))) z ⟨z, ⟨z, ⟨z, ⟨z, q⟩⟩⟩⟩ (by decide) z z z (oc z (oc om (oc om (oc z on)))) (oc z (oc om (oc z (oc om on)))) z) z <| ?_
            refine wd_nil ?_ (by kernel_rfl)
            refine e_n <| sgr z <| lm z z <| ?_
            obtain ⟨r192, e193, H⟩ := ob H
            refine lh (p_cw (ids := [1, 9, 51, 52]) (FnOk.sub (us := [(aS (⟨#[110, 111, 112]⟩ : ByteArray)), (aN .i64 0), (aN .i64 1), (aN .i64 1), (aN .i64 0), aNil, aNil, (.ptr 0 0)]) (api_givenRisc_1_ok e193) ⟨sr, ⟨sr, ⟨sr, ⟨sr, ⟨sr, ⟨sn, ⟨sn, ⟨sr, q⟩⟩⟩⟩⟩⟩⟩⟩) ent_58 z z z (rc z z (rc z rm (rc z rm (rc z z rn)))) (rc z z (rc z rm (rc z z (rc z rm rn)))) z ⟨z, ⟨z, ⟨z, ⟨z, q⟩⟩⟩⟩ (by decide) z z z (oc z (oc om (oc om (oc z on)))) (oc z (oc om (oc z (oc om on)))) z) z <| ne <| wc_seq <| wc_draw [0, 0, 0, 6, 0, 16, 48, 127] mixed z <| dm z z <| dr (p_ldB (ds := (encMachOperand r8).map .data) ty_107 z z z z) z <| dr (p_ldB (ds := (encMachOperand r14).map .data) ty_107 z z z z) z <| dr (p_bs (f := encMachOperand) [.tmp 441, .tmp 442] [r8, r14] Tryz.underlying58 ty_107.size zr_107 z z z z (el1 (.agg _) z (el1 (.agg _) z el0)) z) z <| dr (p_ldB (ds := (encTermX r26).map .data) ty_114 z z z z) z <| ?_
            obtain ⟨r194, e195, H⟩ := ob H
            refine dr (p_c (api_givenSet_ok e195) ent_50 z z z) z <| dr (p_bs (f := encMachEffect) [.tmp 445] [r194] Tryz.underlying59 ty_118.size zr_118 z z z z (el1 (.agg _) z el0) z) z <| ?_
            obtain ⟨r196, e197, H⟩ := ob H
            refine drh (p_cw (ids := [1, 9, 52, 53]) (api_givenRisc_1_ok e197) ent_58 z z z (rc z z (rc z rm (rc z rm (rc z z rn)))) (rc z z (rc z rm (rc z z (rc z rm rn)))) z ⟨z, ⟨z, ⟨z, ⟨z, q⟩⟩⟩⟩ (by decide) z z z (oc z (oc om (oc om (oc z on)))) (oc z (oc om (oc z (oc om on)))) z) z <| ?_
            refine wd_nil ?_ (by kernel_rfl)
            refine e_n <| sgr z <| wl_ent (fzc (j := 1) (i := 3) z z z z (fun _ => z)) <| wl_ent (fzc (j := 1) (i := 6) z z z z (fun _ => z)) <| l (p_ldB (ds := (encMachine (Machine.mk r196.2.1 r196.2.2.1 r196.2.2.2.1 v6 r196.2.2.2.2.1 r196.2.2.2.2.2 r196.1)).map .data) ty_27 z z z z) z <| l0h (p_stA (ds := (encMachine (Machine.mk r196.2.1 r196.2.2.1 r196.2.2.2.1 v6 r196.2.2.2.2.1 r196.2.2.2.2.2 r196.1)).map .data) ty_27 z z z z z z) <| ne <| wc_ret <| ?_
            obtain rfl := sm H
            exact fin (Or.inr z) (rs1 (rva (ds := (encMachine (Machine.mk r196.2.1 r196.2.2.1 r196.2.2.2.1 v6 r196.2.2.2.2.1 r196.2.2.2.2.2 r196.1)).map .data) ty_27 z z z z) rs0) (re [] (.adat) z h0)
          intro H
          refine sgr z <| l (p_bs (f := (eN .u8)) [.const (Value.int IntKind.u8 16), .const (Value.int IntKind.u8 17), .const (Value.int IntKind.u8 18)] [16, 17, 18] Tryz.underlying116 ty_5.size zr_5 z z z z (el1 (.one _) z (el1 (.one _) z (el1 (.one _) z el0))) z) z <| l (p_lenL Tryz.underlying116 z) z <| lm z z <| ne <| wc_block <| w_lp7 H (fun v198 v199 v200 v201 v202 v203 v204 => ⟨[(0, (.ptr 0 0)), (1, (.ptr 1 0)), (5, (.fn (.func 58) [] [(.ptr 1 0)])), (6, (.ptr 12 0)), (7, (.ptr 13 0)), (8, (.ptr 14 0)), (9, (.ptr 15 0)), (10, (.ptr 16 0)), (12, (.ptr 18 0)), (13, (.ptr 19 0)), (15, (.ptr 21 0)), (16, (.ptr 22 0)), (18, (.fn (.func 59) [] [])), (19, (aL 1 eS ([(⟨#[101, 113]⟩ : ByteArray), (⟨#[117, 108, 116]⟩ : ByteArray), (⟨#[115, 108, 116]⟩ : ByteArray)]))), (310, (aL 1 (eN .u8) [16, 17, 18])), (311, (aN .i64 ([16, 17, 18].length : Int))), (312, (aN .i64 v198))], [(0, (oC 27 [(aS ⟨#[]⟩), (aN .i64 0), (aN .i64 0), aNil, aNil, aNil, aNil])), (1, (oC 27 [(aS v199), (aN .i64 v200), (aN .i64 v201), (.row 9), (aL 2 encMachBank v202), (aL 2 encMachUnit v203), (.row 38)])), (9, (oR 100 4 encMachReg v6)), (12, (oD 107 (encMachOperand r8))), (13, (oD 107 (encMachOperand r10))), (14, (oD 107 (encMachOperand r12))), (15, (oD 107 (encMachOperand r14))), (16, (oD 107 (encMachOperand r16))), (18, (oD 114 (encTermX r20))), (19, (oD 114 (encTermX r22))), (21, (oD 114 (encTermX r26))), (22, (oD 114 (encTermX r28))), (38, (oR 61 9 encMachInstr v204))]⟩) (en [(0, 0), (1, 1), (9, 9), (12, 12), (13, 13), (14, 14), (15, 15), (16, 16), (18, 18), (19, 19), (21, 21), (22, 22), (38, 38)] (ws z z z (ws z z z (ws z z z (ws z z z (ws z z z (ws z z z (ws z z z (ws z z z (ws z z z (ws z z z (ws z z z (ws z z z (ws z z z (wd z (wd z (wd z (wd z w0))))))))))))))))) z (hs z z z (hs z z z (hr z (hc z (hc z (hc z (hc z (hc z (hc z (hc z (hc z (hc z (hr z h0)))))))))))))) <| ?_
          intro n6 v198 v199 v200 v201 v202 v203 v204 H
          rw [api_givenRisc_b6] at H
          refine sgr z <| l (p_lss z z) z <| ne <| wc_seq <| ?_
          rcases cn H with ⟨b205, H⟩ | ⟨b205, H⟩
          · refine c_t z b205 ?_
            refine se <| wc_seq <| wc_block <| sgr z <| lm z z <| ?_
            obtain ⟨r206, e207, H⟩ := ob H
            refine l (p_ixL Tryz.underlying116 ty_5.size z z e207) z <| l (p_ldP ty_5 z z) z <| la z z <| la z z <| ne <| wc_draw [0, 0, 0, 6, 14, 0, 0, 0, 224, 0, 0, 0, 0, 6144, 15360, 32256, 65024, 130560, 262143] mixed z <| dm z z <| dm z z <| dm z z <| ?_
            obtain ⟨r208, e209, H⟩ := ob H
            refine dr (p_ixL Tryz.underlying98 ty_9.size z z e209) z <| dr (p_ldP ty_9 z z) z <| dr (p_ldB (ds := (encMachOperand r8).map .data) ty_107 z z z z) z <| dr (p_ldB (ds := (encMachOperand r10).map .data) ty_107 z z z z) z <| dr (p_ldB (ds := (encMachOperand r12).map .data) ty_107 z z z z) z <| dr (p_bs (f := encMachOperand) [.tmp 322, .tmp 323, .tmp 324] [r8, r10, r12] Tryz.underlying58 ty_107.size zr_107 z z z z (el1 (.agg _) z (el1 (.agg _) z (el1 (.agg _) z el0))) z) z <| dm z z <| dm z z <| dr (p_ldB (ds := (encTermX r20).map .data) ty_114 z z z z) z <| dr (p_ldB (ds := (encTermX r22).map .data) ty_114 z z z z) z <| dr (p_bs (f := encTerm) [.tmp 328, .tmp 329] [r20, r22] Tryz.underlying112 ty_114.size zr_114 z z z z (el1X (encTerm_X _) (.agg _) z (el1X (encTerm_X _) (.agg _) z el0)) z) z <| ?_
            obtain ⟨r210, e211, H⟩ := ob H
            refine dr (p_c (api_givenOp_ok e211) ent_51 z z z) z <| ?_
            obtain ⟨r212, e213, H⟩ := ob H
            refine dr (p_cw (ids := []) (api_givenRisc_2_ok e213) ent_59 z z z rn rn rna q List.nodup_nil z z z on on z) z <| ?_
            obtain ⟨r214, e215, H⟩ := ob H
            refine dr (p_c (api_givenSet_ok e215) ent_50 z z z) z <| dr (p_bs (f := encMachEffect) [.tmp 333] [r214] Tryz.underlying59 ty_118.size zr_118 z z z z (el1 (.agg _) z el0) z) z <| ?_
            obtain ⟨r216, e217, H⟩ := ob H
            refine drh (p_cw (ids := [1, 9, 38, 40]) (api_givenRisc_1_ok e217) ent_58 z z z (rc z z (rc z rm (rc z rm (rc z z rn)))) (rc z z (rc z rm (rc z z (rc z rm rn)))) z ⟨z, ⟨z, ⟨z, ⟨z, q⟩⟩⟩⟩ (by decide) z z z (oc z (oc om (oc om (oc z on)))) (oc z (oc om (oc z (oc om on)))) z) z <| ?_
            refine wd_nil ?_ (by kernel_rfl)
            refine e_bn (e_n ?_)
            refine wc_region z <| l (p_add z z) z <| lm z z <| ne <| ?_
            exact ⟨w64 (v198 + 1), r216.2.1, r216.2.2.1, r216.2.2.2.1, r216.2.2.2.2.1, r216.2.2.2.2.2, r216.1, H, en [(0, 0), (1, 1), (9, 9), (12, 12), (13, 13), (14, 14), (15, 15), (16, 16), (18, 18), (19, 19), (21, 21), (22, 22), (40, 38)] (ws z z z (ws z z z (ws z z z (ws z z z (ws z z z (ws z z z (ws z z z (ws z z z (ws z z z (ws z z z (ws z z z (ws z z z (ws z z z (wd z (wd z (wd z (wd z w0))))))))))))))))) z (hs z z z (hs z z z (hr z (hc z (hc z (hc z (hc z (hc z (hc z (hc z (hc z (hc z (hr z h0)))))))))))))⟩
          refine c_f z b205 <| wc_exit <| ?_
          refine e_te (e_te (e_h (e_n ?_)))
          exact ⟨v199, v200, v201, v202, v203, v204, H, en [(0, 0), (1, 1), (9, 9), (12, 12), (13, 13), (14, 14), (15, 15), (16, 16), (18, 18), (19, 19), (21, 21), (22, 22), (38, 38)] (ws z z z (ws z z z (ws z z z (ws z z z (ws z z z (ws z z z (ws z z z (ws z z z (ws z z z (ws z z z (ws z z z (ws z z z w0)))))))))))) z (hs z z z (hs z z z (hr z (hc z (hc z (hc z (hc z (hc z (hc z (hc z (hc z (hc z (hr z h0)))))))))))))⟩
        intro H
        refine sgr z <| l (p_bs (f := (eN .u8)) [.const (Value.int IntKind.u8 11), .const (Value.int IntKind.u8 12), .const (Value.int IntKind.u8 13)] [11, 12, 13] Tryz.underlying116 ty_5.size zr_5 z z z z (el1 (.one _) z (el1 (.one _) z (el1 (.one _) z el0))) z) z <| l (p_lenL Tryz.underlying116 z) z <| lm z z <| ne <| wc_block <| w_lp7 H (fun v218 v219 v220 v221 v222 v223 v224 => ⟨[(0, (.ptr 0 0)), (1, (.ptr 1 0)), (5, (.fn (.func 58) [] [(.ptr 1 0)])), (6, (.ptr 12 0)), (7, (.ptr 13 0)), (8, (.ptr 14 0)), (9, (.ptr 15 0)), (10, (.ptr 16 0)), (11, (.ptr 17 0)), (12, (.ptr 18 0)), (13, (.ptr 19 0)), (14, (.ptr 20 0)), (15, (.ptr 21 0)), (16, (.ptr 22 0)), (17, (.ptr 23 0)), (18, (.fn (.func 59) [] [])), (19, (aL 1 eS ([(⟨#[115, 104, 108, 105]⟩ : ByteArray), (⟨#[115, 104, 114, 105]⟩ : ByteArray), (⟨#[115, 97, 114, 105]⟩ : ByteArray)]))), (189, (aL 1 (eN .u8) [11, 12, 13])), (190, (aN .i64 ([11, 12, 13].length : Int))), (191, (aN .i64 v218))], [(0, (oC 27 [(aS ⟨#[]⟩), (aN .i64 0), (aN .i64 0), aNil, aNil, aNil, aNil])), (1, (oC 27 [(aS v219), (aN .i64 v220), (aN .i64 v221), (.row 9), (aL 2 encMachBank v222), (aL 2 encMachUnit v223), (.row 28)])), (9, (oR 100 4 encMachReg v6)), (12, (oD 107 (encMachOperand r8))), (13, (oD 107 (encMachOperand r10))), (14, (oD 107 (encMachOperand r12))), (15, (oD 107 (encMachOperand r14))), (16, (oD 107 (encMachOperand r16))), (17, (oD 107 (encMachOperand r18))), (18, (oD 114 (encTermX r20))), (19, (oD 114 (encTermX r22))), (20, (oD 114 (encTermX r24))), (21, (oD 114 (encTermX r26))), (22, (oD 114 (encTermX r28))), (23, (oD 114 (encTermX r30))), (28, (oR 61 9 encMachInstr v224))]⟩) (en [(0, 0), (1, 1), (9, 9), (12, 12), (13, 13), (14, 14), (15, 15), (16, 16), (17, 17), (18, 18), (19, 19), (20, 20), (21, 21), (22, 22), (23, 23), (28, 28)] (ws z z z (ws z z z (ws z z z (ws z z z (ws z z z (ws z z z (ws z z z (ws z z z (ws z z z (ws z z z (ws z z z (ws z z z (ws z z z (ws z z z (ws z z z (ws z z z (wd z (wd z (wd z (wd z w0)))))))))))))))))))) z (hs z z z (hs z z z (hr z (hc z (hc z (hc z (hc z (hc z (hc z (hc z (hc z (hc z (hc z (hc z (hc z (hr z h0))))))))))))))))) <| ?_
        intro n7 v218 v219 v220 v221 v222 v223 v224 H
        rw [api_givenRisc_b7] at H
        refine sgr z <| l (p_lss z z) z <| ne <| wc_seq <| ?_
        rcases cn H with ⟨b225, H⟩ | ⟨b225, H⟩
        · refine c_t z b225 ?_
          refine se <| wc_seq <| wc_block <| sgr z <| lm z z <| ?_
          obtain ⟨r226, e227, H⟩ := ob H
          refine l (p_ixL Tryz.underlying116 ty_5.size z z e227) z <| l (p_ldP ty_5 z z) z <| la z z <| la z z <| ne <| wc_draw [0, 0, 0, 6, 14, 0, 0, 0, 224, 0, 0, 0, 3072, 7680, 15872, 32256, 65535] mixed z <| dm z z <| dm z z <| dm z z <| ?_
          obtain ⟨r228, e229, H⟩ := ob H
          refine dr (p_ixL Tryz.underlying98 ty_9.size z z e229) z <| dr (p_ldP ty_9 z z) z <| dr (p_ldB (ds := (encMachOperand r8).map .data) ty_107 z z z z) z <| dr (p_ldB (ds := (encMachOperand r10).map .data) ty_107 z z z z) z <| dr (p_ldB (ds := (encMachOperand r18).map .data) ty_107 z z z z) z <| dr (p_bs (f := encMachOperand) [.tmp 201, .tmp 202, .tmp 203] [r8, r10, r18] Tryz.underlying58 ty_107.size zr_107 z z z z (el1 (.agg _) z (el1 (.agg _) z (el1 (.agg _) z el0))) z) z <| dm z z <| dr (p_ldB (ds := (encTermX r20).map .data) ty_114 z z z z) z <| dr (p_ldB (ds := (encTermX r26).map .data) ty_114 z z z z) z <| dr (p_bs (f := encTerm) [.tmp 206, .tmp 207] [r20, r26] Tryz.underlying112 ty_114.size zr_114 z z z z (el1X (encTerm_X _) (.agg _) z (el1X (encTerm_X _) (.agg _) z el0)) z) z <| ?_
          obtain ⟨r230, e231, H⟩ := ob H
          refine dr (p_c (api_givenOp_ok e231) ent_51 z z z) z <| ?_
          obtain ⟨r232, e233, H⟩ := ob H
          refine dr (p_c (api_givenSet_ok e233) ent_50 z z z) z <| dr (p_bs (f := encMachEffect) [.tmp 210] [r232] Tryz.underlying59 ty_118.size zr_118 z z z z (el1 (.agg _) z el0) z) z <| ?_
          obtain ⟨r234, e235, H⟩ := ob H
          refine drh (p_cw (ids := [1, 9, 28, 31]) (api_givenRisc_1_ok e235) ent_58 z z z (rc z z (rc z rm (rc z rm (rc z z rn)))) (rc z z (rc z rm (rc z z (rc z rm rn)))) z ⟨z, ⟨z, ⟨z, ⟨z, q⟩⟩⟩⟩ (by decide) z z z (oc z (oc om (oc om (oc z on)))) (oc z (oc om (oc z (oc om on)))) z) z <| ?_
          refine wd_nil ?_ (by kernel_rfl)
          refine e_bn (e_n ?_)
          refine wc_region z <| l (p_add z z) z <| lm z z <| ne <| ?_
          exact ⟨w64 (v218 + 1), r234.2.1, r234.2.2.1, r234.2.2.2.1, r234.2.2.2.2.1, r234.2.2.2.2.2, r234.1, H, en [(0, 0), (1, 1), (9, 9), (12, 12), (13, 13), (14, 14), (15, 15), (16, 16), (17, 17), (18, 18), (19, 19), (20, 20), (21, 21), (22, 22), (23, 23), (31, 28)] (ws z z z (ws z z z (ws z z z (ws z z z (ws z z z (ws z z z (ws z z z (ws z z z (ws z z z (ws z z z (ws z z z (ws z z z (ws z z z (ws z z z (ws z z z (ws z z z (wd z (wd z (wd z (wd z w0)))))))))))))))))))) z (hs z z z (hs z z z (hr z (hc z (hc z (hc z (hc z (hc z (hc z (hc z (hc z (hc z (hc z (hc z (hc z (hr z h0))))))))))))))))⟩
        refine c_f z b225 <| wc_exit <| ?_
        refine e_te (e_te (e_h (e_n ?_)))
        exact ⟨v219, v220, v221, v222, v223, v224, H, en [(0, 0), (1, 1), (9, 9), (12, 12), (13, 13), (14, 14), (15, 15), (16, 16), (18, 18), (19, 19), (20, 20), (21, 21), (22, 22), (23, 23), (28, 28)] (ws z z z (ws z z z (ws z z z (ws z z z (ws z z z (ws z z z (ws z z z (ws z z z (ws z z z (ws z z z (ws z z z (ws z z z (ws z z z (ws z z z (ws z z z w0))))))))))))))) z (hs z z z (hs z z z (hr z (hc z (hc z (hc z (hc z (hc z (hc z (hc z (hc z (hc z (hc z (hc z (hr z h0)))))))))))))))⟩
      intro H
      refine sgr z <| l (p_bs (f := (eN .u8)) [.const (Value.int IntKind.u8 8), .const (Value.int IntKind.u8 9), .const (Value.int IntKind.u8 10)] [8, 9, 10] Tryz.underlying116 ty_5.size zr_5 z z z z (el1 (.one _) z (el1 (.one _) z (el1 (.one _) z el0))) z) z <| l (p_lenL Tryz.underlying116 z) z <| lm z z <| ne <| wc_block <| w_lp7 H (fun v236 v237 v238 v239 v240 v241 v242 => ⟨[(0, (.ptr 0 0)), (1, (.ptr 1 0)), (5, (.fn (.func 58) [] [(.ptr 1 0)])), (6, (.ptr 12 0)), (7, (.ptr 13 0)), (8, (.ptr 14 0)), (9, (.ptr 15 0)), (10, (.ptr 16 0)), (11, (.ptr 17 0)), (12, (.ptr 18 0)), (13, (.ptr 19 0)), (14, (.ptr 20 0)), (15, (.ptr 21 0)), (16, (.ptr 22 0)), (17, (.ptr 23 0)), (18, (.fn (.func 59) [] [])), (19, (aL 1 eS ([(⟨#[97, 110, 100, 105]⟩ : ByteArray), (⟨#[111, 114, 105]⟩ : ByteArray), (⟨#[120, 111, 114, 105]⟩ : ByteArray)]))), (163, (aL 1 (eN .u8) [8, 9, 10])), (164, (aN .i64 ([8, 9, 10].length : Int))), (165, (aN .i64 v236))], [(0, (oC 27 [(aS ⟨#[]⟩), (aN .i64 0), (aN .i64 0), aNil, aNil, aNil, aNil])), (1, (oC 27 [(aS v237), (aN .i64 v238), (aN .i64 v239), (.row 9), (aL 2 encMachBank v240), (aL 2 encMachUnit v241), (.row 28)])), (9, (oR 100 4 encMachReg v6)), (12, (oD 107 (encMachOperand r8))), (13, (oD 107 (encMachOperand r10))), (14, (oD 107 (encMachOperand r12))), (15, (oD 107 (encMachOperand r14))), (16, (oD 107 (encMachOperand r16))), (17, (oD 107 (encMachOperand r18))), (18, (oD 114 (encTermX r20))), (19, (oD 114 (encTermX r22))), (20, (oD 114 (encTermX r24))), (21, (oD 114 (encTermX r26))), (22, (oD 114 (encTermX r28))), (23, (oD 114 (encTermX r30))), (28, (oR 61 9 encMachInstr v242))]⟩) (en [(0, 0), (1, 1), (9, 9), (12, 12), (13, 13), (14, 14), (15, 15), (16, 16), (17, 17), (18, 18), (19, 19), (20, 20), (21, 21), (22, 22), (23, 23), (28, 28)] (ws z z z (ws z z z (ws z z z (ws z z z (ws z z z (ws z z z (ws z z z (ws z z z (ws z z z (ws z z z (ws z z z (ws z z z (ws z z z (ws z z z (ws z z z (ws z z z (wd z (wd z (wd z (wd z w0)))))))))))))))))))) z (hs z z z (hs z z z (hr z (hc z (hc z (hc z (hc z (hc z (hc z (hc z (hc z (hc z (hc z (hc z (hc z (hr z h0))))))))))))))))) <| ?_
      intro n8 v236 v237 v238 v239 v240 v241 v242 H
      rw [api_givenRisc_b8] at H
      refine sgr z <| l (p_lss z z) z <| ne <| wc_seq <| ?_
      rcases cn H with ⟨b243, H⟩ | ⟨b243, H⟩
      · refine c_t z b243 ?_
        refine se <| wc_seq <| wc_block <| sgr z <| lm z z <| ?_
        obtain ⟨r244, e245, H⟩ := ob H
        refine l (p_ixL Tryz.underlying116 ty_5.size z z e245) z <| l (p_ldP ty_5 z z) z <| la z z <| la z z <| ne <| wc_draw [0, 0, 0, 6, 14, 0, 0, 0, 224, 0, 0, 0, 3072, 7680, 15872, 32256, 65535] mixed z <| dm z z <| dm z z <| dm z z <| ?_
        obtain ⟨r246, e247, H⟩ := ob H
        refine dr (p_ixL Tryz.underlying98 ty_9.size z z e247) z <| dr (p_ldP ty_9 z z) z <| dr (p_ldB (ds := (encMachOperand r8).map .data) ty_107 z z z z) z <| dr (p_ldB (ds := (encMachOperand r10).map .data) ty_107 z z z z) z <| dr (p_ldB (ds := (encMachOperand r16).map .data) ty_107 z z z z) z <| dr (p_bs (f := encMachOperand) [.tmp 175, .tmp 176, .tmp 177] [r8, r10, r16] Tryz.underlying58 ty_107.size zr_107 z z z z (el1 (.agg _) z (el1 (.agg _) z (el1 (.agg _) z el0))) z) z <| dm z z <| dr (p_ldB (ds := (encTermX r20).map .data) ty_114 z z z z) z <| dr (p_ldB (ds := (encTermX r26).map .data) ty_114 z z z z) z <| dr (p_bs (f := encTerm) [.tmp 180, .tmp 181] [r20, r26] Tryz.underlying112 ty_114.size zr_114 z z z z (el1X (encTerm_X _) (.agg _) z (el1X (encTerm_X _) (.agg _) z el0)) z) z <| ?_
        obtain ⟨r248, e249, H⟩ := ob H
        refine dr (p_c (api_givenOp_ok e249) ent_51 z z z) z <| ?_
        obtain ⟨r250, e251, H⟩ := ob H
        refine dr (p_c (api_givenSet_ok e251) ent_50 z z z) z <| dr (p_bs (f := encMachEffect) [.tmp 184] [r250] Tryz.underlying59 ty_118.size zr_118 z z z z (el1 (.agg _) z el0) z) z <| ?_
        obtain ⟨r252, e253, H⟩ := ob H
        refine drh (p_cw (ids := [1, 9, 28, 30]) (api_givenRisc_1_ok e253) ent_58 z z z (rc z z (rc z rm (rc z rm (rc z z rn)))) (rc z z (rc z rm (rc z z (rc z rm rn)))) z ⟨z, ⟨z, ⟨z, ⟨z, q⟩⟩⟩⟩ (by decide) z z z (oc z (oc om (oc om (oc z on)))) (oc z (oc om (oc z (oc om on)))) z) z <| ?_
        refine wd_nil ?_ (by kernel_rfl)
        refine e_bn (e_n ?_)
        refine wc_region z <| l (p_add z z) z <| lm z z <| ne <| ?_
        exact ⟨w64 (v236 + 1), r252.2.1, r252.2.2.1, r252.2.2.2.1, r252.2.2.2.2.1, r252.2.2.2.2.2, r252.1, H, en [(0, 0), (1, 1), (9, 9), (12, 12), (13, 13), (14, 14), (15, 15), (16, 16), (17, 17), (18, 18), (19, 19), (20, 20), (21, 21), (22, 22), (23, 23), (30, 28)] (ws z z z (ws z z z (ws z z z (ws z z z (ws z z z (ws z z z (ws z z z (ws z z z (ws z z z (ws z z z (ws z z z (ws z z z (ws z z z (ws z z z (ws z z z (ws z z z (wd z (wd z (wd z (wd z w0)))))))))))))))))))) z (hs z z z (hs z z z (hr z (hc z (hc z (hc z (hc z (hc z (hc z (hc z (hc z (hc z (hc z (hc z (hc z (hr z h0))))))))))))))))⟩
      refine c_f z b243 <| wc_exit <| ?_
      refine e_te (e_te (e_h (e_n ?_)))
      exact ⟨v237, v238, v239, v240, v241, v242, H, en [(0, 0), (1, 1), (9, 9), (12, 12), (13, 13), (14, 14), (15, 15), (16, 16), (17, 17), (18, 18), (19, 19), (20, 20), (21, 21), (22, 22), (23, 23), (28, 28)] (ws z z z (ws z z z (ws z z z (ws z z z (ws z z z (ws z z z (ws z z z (ws z z z (ws z z z (ws z z z (ws z z z (ws z z z (ws z z z (ws z z z (ws z z z (ws z z z w0)))))))))))))))) z (hs z z z (hs z z z (hr z (hc z (hc z (hc z (hc z (hc z (hc z (hc z (hc z (hc z (hc z (hc z (hc z (hr z h0))))))))))))))))⟩
    intro H
    refine sgr z <| l (p_bs (f := (eN .u8)) [.const (Value.int IntKind.u8 5), .const (Value.int IntKind.u8 6), .const (Value.int IntKind.u8 8), .const (Value.int IntKind.u8 9), .const (Value.int IntKind.u8 10), .const (Value.int IntKind.u8 11), .const (Value.int IntKind.u8 12), .const (Value.int IntKind.u8 13)] [5, 6, 8, 9, 10, 11, 12, 13] Tryz.underlying116 ty_5.size zr_5 z z z z (el1 (.one _) z (el1 (.one _) z (el1 (.one _) z (el1 (.one _) z (el1 (.one _) z (el1 (.one _) z (el1 (.one _) z (el1 (.one _) z el0)))))))) z) z <| l (p_lenL Tryz.underlying116 z) z <| lm z z <| ne <| wc_block <| w_lp7 H (fun v254 v255 v256 v257 v258 v259 v260 => ⟨[(0, (.ptr 0 0)), (1, (.ptr 1 0)), (5, (.fn (.func 58) [] [(.ptr 1 0)])), (6, (.ptr 12 0)), (7, (.ptr 13 0)), (8, (.ptr 14 0)), (9, (.ptr 15 0)), (10, (.ptr 16 0)), (11, (.ptr 17 0)), (12, (.ptr 18 0)), (13, (.ptr 19 0)), (14, (.ptr 20 0)), (15, (.ptr 21 0)), (16, (.ptr 22 0)), (17, (.ptr 23 0)), (18, (.fn (.func 59) [] [])), (19, (aL 1 eS ([(⟨#[97, 100, 100]⟩ : ByteArray), (⟨#[115, 117, 98]⟩ : ByteArray), (⟨#[97, 110, 100]⟩ : ByteArray), (⟨#[111, 114]⟩ : ByteArray), (⟨#[120, 111, 114]⟩ : ByteArray), (⟨#[115, 104, 108]⟩ : ByteArray), (⟨#[115, 104, 114]⟩ : ByteArray), (⟨#[115, 97, 114]⟩ : ByteArray)]))), (92, (aL 1 (eN .u8) [5, 6, 8, 9, 10, 11, 12, 13])), (93, (aN .i64 ([5, 6, 8, 9, 10, 11, 12, 13].length : Int))), (94, (aN .i64 v254))], [(0, (oC 27 [(aS ⟨#[]⟩), (aN .i64 0), (aN .i64 0), aNil, aNil, aNil, aNil])), (1, (oC 27 [(aS v255), (aN .i64 v256), (aN .i64 v257), (.row 9), (aL 2 encMachBank v258), (aL 2 encMachUnit v259), (.row 11)])), (9, (oR 100 4 encMachReg v6)), (11, (oR 61 9 encMachInstr v260)), (12, (oD 107 (encMachOperand r8))), (13, (oD 107 (encMachOperand r10))), (14, (oD 107 (encMachOperand r12))), (15, (oD 107 (encMachOperand r14))), (16, (oD 107 (encMachOperand r16))), (17, (oD 107 (encMachOperand r18))), (18, (oD 114 (encTermX r20))), (19, (oD 114 (encTermX r22))), (20, (oD 114 (encTermX r24))), (21, (oD 114 (encTermX r26))), (22, (oD 114 (encTermX r28))), (23, (oD 114 (encTermX r30)))]⟩) (en [(0, 0), (1, 1), (9, 9), (11, 11), (12, 12), (13, 13), (14, 14), (15, 15), (16, 16), (17, 17), (18, 18), (19, 19), (20, 20), (21, 21), (22, 22), (23, 23)] (ws z z z (ws z z z (ws z z z (ws z z z (ws z z z (ws z z z (ws z z z (ws z z z (ws z z z (ws z z z (ws z z z (ws z z z (ws z z z (ws z z z (ws z z z (ws z z z (wd z (wd z (wd z (wd z w0)))))))))))))))))))) z (hs z z z (hs z z z (hr z (hr z (hc z (hc z (hc z (hc z (hc z (hc z (hc z (hc z (hc z (hc z (hc z (hc z h0))))))))))))))))) <| ?_
    intro n9 v254 v255 v256 v257 v258 v259 v260 H
    rw [api_givenRisc_b9] at H
    refine sgr z <| l (p_lss z z) z <| ne <| wc_seq <| ?_
    rcases cn H with ⟨b261, H⟩ | ⟨b261, H⟩
    · refine c_t z b261 ?_
      refine se <| wc_seq <| wc_block <| sgr z <| lm z z <| ?_
      obtain ⟨r262, e263, H⟩ := ob H
      refine l (p_ixL Tryz.underlying116 ty_5.size z z e263) z <| l (p_ldP ty_5 z z) z <| la z z <| la z z <| ne <| wc_draw [0, 0, 0, 6, 14, 0, 0, 0, 224, 0, 0, 0, 3072, 7680, 15872, 32256, 65535] mixed z <| dm z z <| dm z z <| dm z z <| ?_
      obtain ⟨r264, e265, H⟩ := ob H
      refine dr (p_ixL Tryz.underlying98 ty_9.size z z e265) z <| dr (p_ldP ty_9 z z) z <| dr (p_ldB (ds := (encMachOperand r8).map .data) ty_107 z z z z) z <| dr (p_ldB (ds := (encMachOperand r10).map .data) ty_107 z z z z) z <| dr (p_ldB (ds := (encMachOperand r12).map .data) ty_107 z z z z) z <| dr (p_bs (f := encMachOperand) [.tmp 104, .tmp 105, .tmp 106] [r8, r10, r12] Tryz.underlying58 ty_107.size zr_107 z z z z (el1 (.agg _) z (el1 (.agg _) z (el1 (.agg _) z el0))) z) z <| dm z z <| dr (p_ldB (ds := (encTermX r20).map .data) ty_114 z z z z) z <| dr (p_ldB (ds := (encTermX r22).map .data) ty_114 z z z z) z <| dr (p_bs (f := encTerm) [.tmp 109, .tmp 110] [r20, r22] Tryz.underlying112 ty_114.size zr_114 z z z z (el1X (encTerm_X _) (.agg _) z (el1X (encTerm_X _) (.agg _) z el0)) z) z <| ?_
      obtain ⟨r266, e267, H⟩ := ob H
      refine dr (p_c (api_givenOp_ok e267) ent_51 z z z) z <| ?_
      obtain ⟨r268, e269, H⟩ := ob H
      refine dr (p_c (api_givenSet_ok e269) ent_50 z z z) z <| dr (p_bs (f := encMachEffect) [.tmp 113] [r268] Tryz.underlying59 ty_118.size zr_118 z z z z (el1 (.agg _) z el0) z) z <| ?_
      obtain ⟨r270, e271, H⟩ := ob H
      refine drh (p_cw (ids := [1, 9, 11, 25]) (api_givenRisc_1_ok e271) ent_58 z z z (rc z z (rc z rm (rc z rm (rc z z rn)))) (rc z z (rc z rm (rc z z (rc z rm rn)))) z ⟨z, ⟨z, ⟨z, ⟨z, q⟩⟩⟩⟩ (by decide) z z z (oc z (oc om (oc om (oc z on)))) (oc z (oc om (oc z (oc om on)))) z) z <| ?_
      refine wd_nil ?_ (by kernel_rfl)
      refine e_bn (e_n ?_)
      refine wc_region z <| l (p_add z z) z <| lm z z <| ne <| ?_
      exact ⟨w64 (v254 + 1), r270.2.1, r270.2.2.1, r270.2.2.2.1, r270.2.2.2.2.1, r270.2.2.2.2.2, r270.1, H, en [(0, 0), (1, 1), (9, 9), (25, 11), (12, 12), (13, 13), (14, 14), (15, 15), (16, 16), (17, 17), (18, 18), (19, 19), (20, 20), (21, 21), (22, 22), (23, 23)] (ws z z z (ws z z z (ws z z z (ws z z z (ws z z z (ws z z z (ws z z z (ws z z z (ws z z z (ws z z z (ws z z z (ws z z z (ws z z z (ws z z z (ws z z z (ws z z z (wd z (wd z (wd z (wd z w0)))))))))))))))))))) z (hs z z z (hs z z z (hr z (hr z (hc z (hc z (hc z (hc z (hc z (hc z (hc z (hc z (hc z (hc z (hc z (hc z h0))))))))))))))))⟩
    refine c_f z b261 <| wc_exit <| ?_
    refine e_te (e_te (e_h (e_n ?_)))
    exact ⟨v255, v256, v257, v258, v259, v260, H, en [(0, 0), (1, 1), (9, 9), (11, 11), (12, 12), (13, 13), (14, 14), (15, 15), (16, 16), (17, 17), (18, 18), (19, 19), (20, 20), (21, 21), (22, 22), (23, 23)] (ws z z z (ws z z z (ws z z z (ws z z z (ws z z z (ws z z z (ws z z z (ws z z z (ws z z z (ws z z z (ws z z z (ws z z z (ws z z z (ws z z z (ws z z z (ws z z z w0)))))))))))))))) z (hs z z z (hs z z z (hr z (hr z (hc z (hc z (hc z (hc z (hc z (hc z (hc z (hc z (hc z (hc z (hc z (hc z h0))))))))))))))))⟩
  intro H
  refine sgr z <| ?_
  obtain ⟨r272, e273, H⟩ := ob H
  refine lh (p_ch (ids := [3]) (api_givenNames_ok e273) ent_45 z z (rc z z rn) (rc z rm rn) z ⟨z, q⟩ (by decide) z z z (oc z on) (oc om on) z) z <| l (p_bs (f := eS) [.const (Value.string {data := #[115, 112]}), .const (Value.string {data := #[108, 114]})] [(⟨#[115, 112]⟩ : ByteArray), (⟨#[108, 114]⟩ : ByteArray)] Tryz.underlying98 ty_9.size zr_9 z z z z (el1 (.one _) z (el1 (.one _) z el0)) z) z <| ?_
  obtain ⟨e274, H⟩ := as_ H
  refine lh (p_apA 4 Tryz.underlying98 el_9 z z z z e274) z <| l (p_lenR Tryz.underlying98 z z) z <| lm z z <| ne <| wc_block <| w_lp8 H (fun v275 v276 v277 v278 v279 v280 v281 v282 => ⟨[(0, (.ptr 0 0)), (1, (.ptr 1 0)), (2, (.ptr 2 0)), (39, (.row 4)), (40, (aN .i64 (((r272 ++ [(⟨#[115, 112]⟩ : ByteArray), (⟨#[108, 114]⟩ : ByteArray)]).length : Int)))), (41, (aN .i64 v275))], [(0, (oC 27 [(aS ⟨#[]⟩), (aN .i64 0), (aN .i64 0), aNil, aNil, aNil, aNil])), (1, (oC 27 [(aS v276), (aN .i64 v277), (aN .i64 v278), (.row 9), aNil, (aL 2 encMachUnit v279), aNil])), (2, (oC 97 [(aS v280), (.row 10)])), (4, (oR 9 1 eS (r272 ++ [(⟨#[115, 112]⟩ : ByteArray), (⟨#[108, 114]⟩ : ByteArray)]))), (9, (oR 100 4 encMachReg v281)), (10, (oR 3 1 (eN .i64) v282))]⟩) (Ent.trans (nrc (j := 1) (i := 3) (f := encMachReg) (sz := 4) (e := 100) 5 z z z) (Ent.trans (nrc (j := 2) (i := 1) (f := (eN .i64)) (sz := 1) (e := 3) 6 z z z) (en [(0, 0), (1, 1), (2, 2), (4, 4), (5, 9), (6, 10)] (ws z z z (ws z z z (ws z z z (ws z z z (wd z (wd z w0)))))) z (hs z z z (hs z z z (hs z z z (hr z (hr z (hr z h0))))))))) <| ?_
  intro n10 v275 v276 v277 v278 v279 v280 v281 v282 H
  rw [api_givenRisc_b10] at H
  refine sgr z <| l (p_lss z z) z <| ne <| wc_seq <| ?_
  rcases cn H with ⟨b283, H⟩ | ⟨b283, H⟩
  · refine c_t z b283 ?_
    refine se <| wc_seq <| wc_block <| sgr z <| lm z z <| ?_
    obtain ⟨r284, e285, H⟩ := ob H
    refine l (p_ixR Tryz.underlying98 ty_9.size z z z e285) z <| l (p_ldR (n := v275) (j := 0) (sz := 1) (k := 4) (r := r284) (f := eS) (fun _ => z) ty_9 z z e285 z) z <| la z z <| la z z <| ne <| sgr z <| l (p_fd fld_27_3 z) z <| l (p_ld ty_22 z z z) z <| lm z z <| l (p_bd (cs := (encMachReg ((MachReg.mk r284 32 (-1) 0))).map .data) pl_100 zr_100 z ⟨q, ⟨q, ⟨q, q⟩⟩⟩ z) z <| l (p_bs (f := encMachReg) [.tmp 49] [(MachReg.mk r284 32 (-1) 0)] Tryz.underlying22 ty_100.size zr_100 z z z z (el1 (.agg _) z el0) z) z <| ?_
    obtain ⟨e286, H⟩ := as_ H
    refine lh (p_apA 11 Tryz.underlying22 el_100 z z z z e286) z <| l (p_fd fld_27_3 z) z <| l0h (p_st ty_22 z z z q z z) <| ne <| wc_region z <| l (p_fd fld_97_1 z) z <| l (p_ld ty_29 z z z) z <| lm z z <| l (p_bs (f := (eN .i64)) [.tmp 55] [v275] Tryz.underlying29 ty_3.size zr_3 z z z z (el1 (.one _) z el0) z) z <| ?_
    obtain ⟨e287, H⟩ := as_ H
    refine lh (p_apA 12 Tryz.underlying29 el_3 z z z z e287) z <| l (p_fd fld_97_1 z) z <| l0h (p_st ty_29 z z z q z z) <| wl_nil <| ?_
    refine e_bn (e_n ?_)
    refine wc_region z <| l (p_add z z) z <| lm z z <| ne <| ?_
    exact ⟨w64 (v275 + 1), v276, v277, v278, v279, v280, v281 ++ [(MachReg.mk r284 32 (-1) 0)], v282 ++ [v275], H, en [(0, 0), (1, 1), (2, 2), (4, 4), (11, 9), (12, 10)] (ws z z z (ws z z z (ws z z z (ws z z z (wd z (wd z w0)))))) z (hs z z z (hs z z z (hs z z z (hr z (hr z (hr z h0))))))⟩
  refine c_f z b283 <| wc_exit <| ?_
  refine e_te (e_te (e_h (e_n ?_)))
  exact ⟨v276, v277, v278, v279, v280, v281, v282, H, en [(0, 0), (1, 1), (2, 2), (9, 9), (10, 10)] (ws z z z (ws z z z (ws z z z w0))) z (hs z z z (hs z z z (hs z z z (hr z (hr z h0)))))⟩

def api_Given (x0 : Int) : Option Machine :=
  bif x0 == 1 then
    none
  else
    bif x0 == 2 then
      none
    else
      (api_givenRisc).bind fun r3 =>
      some r3
theorem api_Given_ok {x0 : Int} {R : Machine} (H : api_Given x0 = some R) : FnOk Tryz.prog K0 8 [(aN .i64 x0)] [] (aA (encMachine R)) [] := by
  refine fn_w (nt := 11) (np := 0) Tryz.func8 z z (by simp) (np_of2 z) <| ?_
  unfold api_Given at H
  refine sgr z <| lh (p_al 0 zr_27 z) z <| ne <| wc_seq <| sgr z <| lm z z <| ne <| wc_block <| sgr z <| l (p_eql z z) z <| la z z <| ne <| ?_
  rcases cn H with ⟨b1, H⟩ | ⟨b1, H⟩
  · refine c_t z b1 ?_
    refine sgr z <| ?_
    cases H
  refine c_f z b1 <| sgr z <| l (p_eql z z) z <| la z z <| ne <| ?_
  rcases cn H with ⟨b2, H⟩ | ⟨b2, H⟩
  · refine c_t z b2 ?_
    refine sgr z <| ?_
    cases H
  refine c_f z b2 <| wc_skip <| ?_
  refine e_bn (e_n ?_)
  refine sgr z <| ?_
  obtain ⟨r3, e4, H⟩ := ob H
  refine l (p_c (api_givenRisc_ok e4) ent_25 z z z) z <| l0h (p_stA (ds := (encMachine r3).map .data) ty_27 z z z z z z) <| ne <| wc_ret <| ?_
  obtain rfl := sm H
  exact fin (Or.inr z) (rs1 (rva (ds := (encMachine r3).map .data) ty_27 z z z z) rs0) (re [] (.adat) z h0)

def slices_Max_int_int_k2 : Int → Option Int
  | v3 =>
    some v3
def slices_Max_int_int_b3 (x0 : List Int) (k2 : Int → Option Int) (rec3 : Int × Int → Option Int) : Int × Int → Option Int
  | (v4, v5) =>
    bif decide (v5 < (x0.length : Int)) then
      (ix x0 v5).bind fun r7 =>
      rec3 ((max v4 r7, w64 (v5 + 1)))
    else
      k2 v4
def slices_Max_int_int_k1 (x0 : List Int) : Unit → Option Int
  | () =>
    (ix x0 0).bind fun r1 =>
    jn slices_Max_int_int_k2 fun k2 =>
    lp (slices_Max_int_int_b3 x0 k2) (((x0.length : Int) - 1).toNat + 1) (r1, 1)
def slices_Max_int_int (x0 : List Int) : Option Int :=
  jn (slices_Max_int_int_k1 x0) fun k1 =>
  bif decide ((x0.length : Int) < 1) then none else k1 ()
theorem slices_Max_int_int_ok {x0 : List Int} {R : Int} (H : slices_Max_int_int x0 = some R) : FnOk Tryz.prog K0 119 [(aL 1 (eN .i64) x0)] [] (aN .i64 R) [] := by
  refine fn_w (nt := 25) (np := 0) Tryz.func119 z z (by simp) (np_of2 z) <| ?_
  unfold slices_Max_int_int at H
  refine sgr z <| la z z <| ne <| ?_
  refine w_jn0 H (⟨[(0, (aL 1 (eN .i64) x0))], []⟩) ?_ ?_
  · intro H
    rw [slices_Max_int_int_k1] at H
    refine sgr z <| lm z z <| ?_
    obtain ⟨r1, e2, H⟩ := ob H
    refine l (p_ixL Tryz.underlying29 ty_3.size z z e2) z <| l (p_ldP ty_3 z z) z <| la z z <| ne <| ?_
    refine w_jn1 H (fun v3 => ⟨[(3, (aN .i64 v3))], []⟩) ?_ ?_
    · intro v3 H
      rw [slices_Max_int_int_k2] at H
      refine sgr z <| lm z z <| la z z <| ne <| wc_ret <| ?_
      obtain rfl := sm H
      exact fin (Or.inr z) (rs1 (rv z) rs0) (re [] (.dat) z h0)
    intro H
    refine sgr z <| la z z <| ne <| wc_block <| w_lp2 H (fun v4 v5 => ⟨[(0, (aL 1 (eN .i64) x0)), (3, (aN .i64 v4)), (4, (aN .i64 v5))], []⟩) (en [] (wd z (wd z (wd z w0))) z h0) <| ?_
    intro n3 v4 v5 H
    rw [slices_Max_int_int_b3] at H
    refine wc_seq <| sgr z <| lm z z <| lm z z <| l (p_lenL Tryz.underlying29 z) z <| l (p_lss z z) z <| ne <| ?_
    rcases cn H with ⟨b6, H⟩ | ⟨b6, H⟩
    · refine c_t z b6 ?_
      refine se <| wc_seq <| wc_block <| wc_region z <| lm z z <| lm z z <| lm z z <| ?_
      obtain ⟨r7, e8, H⟩ := ob H
      refine l (p_ixL Tryz.underlying29 ty_3.size z z e8) z <| l (p_ldP ty_3 z z) z <| l (p_max z z) z <| la z z <| wl_nil <| ?_
      refine e_bn (e_n ?_)
      refine wc_region z <| lm z z <| l (p_add z z) z <| la z z <| ne <| ?_
      exact ⟨max v4 r7, w64 (v5 + 1), H, en [] (wd z (wd z (wd z w0))) z h0⟩
    refine c_f z b6 <| wc_exit <| ?_
    refine e_te (e_te (e_h (e_n ?_)))
    exact ⟨v4, H, en [] (wd z w0) z h0⟩
  intro H
  refine sgr z <| lm z z <| l (p_lenL Tryz.underlying29 z) z <| l (p_lss z z) z <| ne <| ?_
  rcases cn H with ⟨b9, H⟩ | ⟨b9, H⟩
  · refine c_t z b9 ?_
    cases H
  refine c_f z b9 <| se <| ?_
  exact ⟨H, en [] (wd z w0) z h0⟩

def machine_fewer (x0 : Int) (x1 : List Int) : Option Bool :=
  asr (roomy (x1.length + [0].length) 8) <|
  asr (!x1.isEmpty) <|
  (slices_Max_int_int (x1 ++ [0])).bind fun r3 =>
  some (decide (r3 ≤ x0))
theorem machine_fewer_ok {x0 : Int} {x1 : List Int} {R : Bool} (H : machine_fewer x0 x1 = some R) : FnOk Tryz.prog K0 103 [(aN .i64 x0), (aF 1 (eN .i64) x1)] [] (aT R) [] := by
  refine fn_w (nt := 11) (np := 0) Tryz.func103 z z (by simp) (np_of2 z) <| ?_
  unfold machine_fewer at H
  refine sgr z <| la z z <| ne <| sgr z <| lm z z <| l (p_bs (f := (eN .i64)) [.const (Value.int IntKind.i64 0)] [0] Tryz.underlying29 ty_3.size zr_3 z z z z (el1 (.one _) z el0) z) z <| ?_
  obtain ⟨e1, H⟩ := as_ H
  obtain ⟨e2, H⟩ := as_ H
  refine lh (p_apF 1 0 Tryz.underlying29 el_3 z z e2 z z z z e1) z <| ?_
  obtain ⟨r3, e4, H⟩ := ob H
  refine l (p_cb (slices_Max_int_int_ok e4) ent_119 z z (ld1 ld0) lit_d (fun _ => z)) z <| lm z z <| l (p_leq z z) z <| la z z <| ne <| wc_ret <| ?_
  obtain rfl := sm H
  exact fin (Or.inr z) (rs1 (rv z) rs0) (re [] (.dat) z h0)

def machine_small_k2 : Bool → Option Bool
  | v10 =>
    some v10
def machine_small_k4 (v12 : Int) (rec3 : Bool × Int → Option Bool) : Bool → Option Bool
  | v14 =>
    rec3 ((v14, w64 (v12 + 1)))
def machine_small_b5 (k4 : Bool → Option Bool) (r15 : MachInstr) (rec5 : Bool × Int → Option Bool) : Bool × Int → Option Bool
  | (v21, v22) =>
    bif decide (v22 < (r15.Operands.length : Int)) then
      (ix r15.Operands v22).bind fun r24 =>
      (bif (true && (v21 == true)) then machine_fewer 4 [(r24.Pieces.length : Int)] else some default).bind fun r26 =>
      rec5 ((v21 && r26, w64 (v22 + 1)))
    else
      k4 v21
def machine_small_b3 (x0 : Machine) (k2 : Bool → Option Bool) (rec3 : Bool × Int → Option Bool) : Bool × Int → Option Bool
  | (v11, v12) =>
    bif decide (v12 < (x0.Instrs.length : Int)) then
      jn (machine_small_k4 v12 rec3) fun k4 =>
      (ix x0.Instrs v12).bind fun r15 =>
      (bif (true && (v11 == true)) then machine_fewer 4 [(r15.Operands.length : Int)] else some default).bind fun r17 =>
      (bif (true && ((v11 && r17) == true)) then machine_fewer 4 [(r15.Effects.length : Int)] else some default).bind fun r19 =>
      lp (machine_small_b5 k4 r15) (r15.Operands.length + 1) (((v11 && r17) && r19, 0))
    else
      k2 v11
def machine_small_k1 (x0 : Machine) : Bool → Option Bool
  | v9 =>
    jn machine_small_k2 fun k2 =>
    lp (machine_small_b3 x0 k2) (x0.Instrs.length + 1) (v9, 0)
def machine_small_b6 (x0 : Machine) (k1 : Bool → Option Bool) (rec6 : Bool × Int → Option Bool) : Bool × Int → Option Bool
  | (v28, v29) =>
    bif decide (v29 < (x0.Banks.length : Int)) then
      (ix x0.Banks v29).bind fun r31 =>
      (bif (true && (v28 == true)) then machine_fewer 64 [(r31.Regs.length : Int)] else some default).bind fun r33 =>
      rec6 ((v28 && r33, w64 (v29 + 1)))
    else
      k1 v28
def machine_small (x0 : Machine) : Option Bool :=
  (machine_fewer 64 [(x0.Regs.length : Int)]).bind fun r1 =>
  (bif (true && (r1 == true)) then machine_fewer 16 [(x0.Banks.length : Int)] else some default).bind fun r3 =>
  (bif (true && ((r1 && r3) == true)) then machine_fewer 8 [(x0.Units.length : Int)] else some default).bind fun r5 =>
  (bif (true && (((r1 && r3) && r5) == true)) then machine_fewer 64 [(x0.Instrs.length : Int)] else some default).bind fun r7 =>
  jn (machine_small_k1 x0) fun k1 =>
  lp (machine_small_b6 x0 k1) (x0.Banks.length + 1) ((((r1 && r3) && r5) && r7, 0))
theorem machine_small_ok {x0 : Machine} {R : Bool} (H : machine_small x0 = some R) : FnOk Tryz.prog K0 83 [(aA (encMachine x0))] [] (aT R) [] := by
  refine fn_w (nt := 92) (np := 0) Tryz.func83 z z (by simp) (np_of2 z) <| ?_
  unfold machine_small at H
  refine sgr z <| lh (p_bx 0 z q z) z <| la z z <| ne <| sgr z <| l (p_fd fld_27_3 z) z <| l (p_ld ty_22 z z z) z <| l (p_lenL Tryz.underlying22 z) z <| l (p_bsF (f := (eN .i64)) [.tmp 12] [(x0.Regs.length : Int)] Tryz.underlying29 ty_3.size zr_3 z z z z (el1 (.one _) z el0) z) z <| ?_
  obtain ⟨r1, e2, H⟩ := ob H
  refine l (p_c (machine_fewer_ok e2) ent_103 z z z) z <| lm z z <| lw z (Grd.plain _) z [1] z (s1 strip_same s0) (fun hw => p_fd fld_27_4 z) ⟨z, q⟩ (by exact q) z z <| lw z (Grd.plain _) z [16] z (s1 (strip_when id) s0) (fun hw => p_ld ty_23 z z z) ⟨z, q⟩ (by exact ⟨z, q⟩) z z <| lw z (Grd.plain _) z [17] z (s1 (strip_when id) s0) (fun hw => p_lenL Tryz.underlying23 z) ⟨z, q⟩ (by exact q) z z <| lw z (Grd.plain _) z [18] z (s1 (strip_when id) s0) (fun hw => p_bsF (f := (eN .i64)) [.tmp 18] [(x0.Banks.length : Int)] Tryz.underlying29 ty_3.size zr_3 z z z z (el1 (.one _) z el0) z) ⟨z, q⟩ (by exact q) z z <| ?_
  obtain ⟨r3, e4, H⟩ := ob H
  refine lw z (Grd.plain _) z [19] z (s1 (strip_when id) s0) (fun hw => p_c (machine_fewer_ok (bt hw e4)) ent_103 z z z) ⟨z, q⟩ (by exact q) z z <| l (p_pkA z z q (strip_when (wt))) z <| lm z z <| lw z (Grd.plain _) z [1] z (s1 strip_same s0) (fun hw => p_fd fld_27_5 z) ⟨z, q⟩ (by exact q) z z <| lw z (Grd.plain _) z [23] z (s1 (strip_when id) s0) (fun hw => p_ld ty_24 z z z) ⟨z, q⟩ (by exact ⟨z, q⟩) z z <| lw z (Grd.plain _) z [24] z (s1 (strip_when id) s0) (fun hw => p_lenL Tryz.underlying24 z) ⟨z, q⟩ (by exact q) z z <| lw z (Grd.plain _) z [25] z (s1 (strip_when id) s0) (fun hw => p_bsF (f := (eN .i64)) [.tmp 25] [(x0.Units.length : Int)] Tryz.underlying29 ty_3.size zr_3 z z z z (el1 (.one _) z el0) z) ⟨z, q⟩ (by exact q) z z <| ?_
  obtain ⟨r5, e6, H⟩ := ob H
  refine lw z (Grd.plain _) z [26] z (s1 (strip_when id) s0) (fun hw => p_c (machine_fewer_ok (bt hw e6)) ent_103 z z z) ⟨z, q⟩ (by exact q) z z <| l (p_pkA z z q (strip_when (wt))) z <| lm z z <| lw z (Grd.plain _) z [1] z (s1 strip_same s0) (fun hw => p_fd fld_27_6 z) ⟨z, q⟩ (by exact q) z z <| lw z (Grd.plain _) z [30] z (s1 (strip_when id) s0) (fun hw => p_ld ty_25 z z z) ⟨z, q⟩ (by exact ⟨z, q⟩) z z <| lw z (Grd.plain _) z [31] z (s1 (strip_when id) s0) (fun hw => p_lenL Tryz.underlying25 z) ⟨z, q⟩ (by exact q) z z <| lw z (Grd.plain _) z [32] z (s1 (strip_when id) s0) (fun hw => p_bsF (f := (eN .i64)) [.tmp 32] [(x0.Instrs.length : Int)] Tryz.underlying29 ty_3.size zr_3 z z z z (el1 (.one _) z el0) z) ⟨z, q⟩ (by exact q) z z <| ?_
  obtain ⟨r7, e8, H⟩ := ob H
  refine lw z (Grd.plain _) z [33] z (s1 (strip_when id) s0) (fun hw => p_c (machine_fewer_ok (bt hw e8)) ent_103 z z z) ⟨z, q⟩ (by exact q) z z <| l (p_pkA z z q (strip_when (wt))) z <| la z z <| ne <| ?_
  refine w_jn1 H (fun v9 => ⟨[(1, (.ptr 0 0)), (3, (aT v9))], [(0, (oD 27 (encMachine x0)))]⟩) ?_ ?_
  · intro v9 H
    rw [machine_small_k1] at H
    refine w_jn1 H (fun v10 => ⟨[(3, (aT v10))], []⟩) ?_ ?_
    · intro v10 H
      rw [machine_small_k2] at H
      refine sgr z <| lm z z <| la z z <| ne <| wc_ret <| ?_
      obtain rfl := sm H
      exact fin (Or.inr z) (rs1 (rv z) rs0) (re [] (.dat) z h0)
    intro H
    refine sgr z <| l (p_fd fld_27_6 z) z <| l (p_ld ty_25 z z z) z <| l (p_lenL Tryz.underlying25 z) z <| lm z z <| ne <| wc_block <| w_lp2 H (fun v11 v12 => ⟨[(3, (aT v11)), (53, (aL 9 encMachInstr x0.Instrs)), (54, (aN .i64 (x0.Instrs.length : Int))), (55, (aN .i64 v12))], []⟩) (en [] (wd z (wd z (wd z (wd z w0)))) z h0) <| ?_
    intro n3 v11 v12 H
    rw [machine_small_b3] at H
    refine sgr z <| l (p_lss z z) z <| ne <| wc_seq <| ?_
    rcases cn H with ⟨b13, H⟩ | ⟨b13, H⟩
    · refine c_t z b13 ?_
      refine se <| ?_
      refine w_jn1 H (fun v14 => ⟨[(3, (aT v14)), (53, (aL 9 encMachInstr x0.Instrs)), (54, (aN .i64 (x0.Instrs.length : Int))), (55, (aN .i64 v12))], []⟩) ?_ ?_
      · intro v14 H
        rw [machine_small_k4] at H
        refine wc_region z <| l (p_add z z) z <| lm z z <| ne <| ?_
        exact ⟨v14, w64 (v12 + 1), H, en [] (wd z (wd z (wd z (wd z w0)))) z h0⟩
      intro H
      refine wc_block <| sgr z <| ?_
      obtain ⟨r15, e16, H⟩ := ob H
      refine l (p_ixL Tryz.underlying25 ty_61.size z z e16) z <| l (p_ldA (ds := encMachInstr r15) ty_61 z z z) z <| lh (p_al 4 zr_61 z) z <| l0h (p_stA (ds := (encMachInstr r15).map .data) ty_61 z z z z z z) <| ne <| sgr z <| lm z z <| lm z z <| lw z (Grd.plain _) z [7] z (s1 strip_same s0) (fun hw => p_fd fld_61_3 z) ⟨z, q⟩ (by exact q) z z <| lw z (Grd.plain _) z [61] z (s1 (strip_when id) s0) (fun hw => p_ld ty_58 z z z) ⟨z, q⟩ (by exact ⟨z, q⟩) z z <| lw z (Grd.plain _) z [62] z (s1 (strip_when id) s0) (fun hw => p_lenL Tryz.underlying58 z) ⟨z, q⟩ (by exact q) z z <| lw z (Grd.plain _) z [63] z (s1 (strip_when id) s0) (fun hw => p_bsF (f := (eN .i64)) [.tmp 63] [(r15.Operands.length : Int)] Tryz.underlying29 ty_3.size zr_3 z z z z (el1 (.one _) z el0) z) ⟨z, q⟩ (by exact q) z z <| ?_
      obtain ⟨r17, e18, H⟩ := ob H
      refine lw z (Grd.plain _) z [64] z (s1 (strip_when id) s0) (fun hw => p_c (machine_fewer_ok (bt hw e18)) ent_103 z z z) ⟨z, q⟩ (by exact q) z z <| l (p_pkA z z q (strip_when (wt))) z <| lm z z <| lw z (Grd.plain _) z [7] z (s1 strip_same s0) (fun hw => p_fd fld_61_4 z) ⟨z, q⟩ (by exact q) z z <| lw z (Grd.plain _) z [68] z (s1 (strip_when id) s0) (fun hw => p_ld ty_59 z z z) ⟨z, q⟩ (by exact ⟨z, q⟩) z z <| lw z (Grd.plain _) z [69] z (s1 (strip_when id) s0) (fun hw => p_lenL Tryz.underlying59 z) ⟨z, q⟩ (by exact q) z z <| lw z (Grd.plain _) z [70] z (s1 (strip_when id) s0) (fun hw => p_bsF (f := (eN .i64)) [.tmp 70] [(r15.Effects.length : Int)] Tryz.underlying29 ty_3.size zr_3 z z z z (el1 (.one _) z el0) z) ⟨z, q⟩ (by exact q) z z <| ?_
      obtain ⟨r19, e20, H⟩ := ob H
      refine lw z (Grd.plain _) z [71] z (s1 (strip_when id) s0) (fun hw => p_c (machine_fewer_ok (bt hw e20)) ent_103 z z z) ⟨z, q⟩ (by exact q) z z <| l (p_pkA z z q (strip_when (wt))) z <| la z z <| ne <| sgr z <| l (p_fd fld_61_3 z) z <| l (p_ld ty_58 z z z) z <| l (p_lenL Tryz.underlying58 z) z <| lm z z <| ne <| wc_block <| w_lp2 H (fun v21 v22 => ⟨[(3, (aT v21)), (53, (aL 9 encMachInstr x0.Instrs)), (54, (aN .i64 (x0.Instrs.length : Int))), (55, (aN .i64 v12)), (75, (aL 6 encMachOperand r15.Operands)), (76, (aN .i64 (r15.Operands.length : Int))), (77, (aN .i64 v22))], []⟩) (en [] (wd z (wd z (wd z (wd z (wd z (wd z (wd z w0))))))) z h0) <| ?_
      intro n5 v21 v22 H
      rw [machine_small_b5] at H
      refine sgr z <| l (p_lss z z) z <| ne <| wc_seq <| ?_
      rcases cn H with ⟨b23, H⟩ | ⟨b23, H⟩
      · refine c_t z b23 ?_
        refine se <| wc_seq <| wc_block <| sgr z <| ?_
        obtain ⟨r24, e25, H⟩ := ob H
        refine l (p_ixL Tryz.underlying58 ty_107.size z z e25) z <| l (p_ldA (ds := encMachOperand r24) ty_107 z z z) z <| lh (p_al 6 zr_107 z) z <| l0h (p_stA (ds := (encMachOperand r24).map .data) ty_107 z z z z z z) <| ne <| wc_region z <| lm z z <| lm z z <| lw z (Grd.plain _) z [9] z (s1 strip_same s0) (fun hw => p_fd fld_107_4 z) ⟨z, q⟩ (by exact q) z z <| lw z (Grd.plain _) z [83] z (s1 (strip_when id) s0) (fun hw => p_ld ty_105 z z z) ⟨z, q⟩ (by exact ⟨z, q⟩) z z <| lw z (Grd.plain _) z [84] z (s1 (strip_when id) s0) (fun hw => p_lenL Tryz.underlying105 z) ⟨z, q⟩ (by exact q) z z <| lw z (Grd.plain _) z [85] z (s1 (strip_when id) s0) (fun hw => p_bsF (f := (eN .i64)) [.tmp 85] [(r24.Pieces.length : Int)] Tryz.underlying29 ty_3.size zr_3 z z z z (el1 (.one _) z el0) z) ⟨z, q⟩ (by exact q) z z <| ?_
        obtain ⟨r26, e27, H⟩ := ob H
        refine lw z (Grd.plain _) z [86] z (s1 (strip_when id) s0) (fun hw => p_c (machine_fewer_ok (bt hw e27)) ent_103 z z z) ⟨z, q⟩ (by exact q) z z <| l (p_pkA z z q (strip_when (wt))) z <| la z z <| wl_nil <| ?_
        refine e_bn (e_n ?_)
        refine wc_region z <| l (p_add z z) z <| lm z z <| ne <| ?_
        exact ⟨v21 && r26, w64 (v22 + 1), H, en [] (wd z (wd z (wd z (wd z (wd z (wd z (wd z w0))))))) z h0⟩
      refine c_f z b23 <| wc_exit <| ?_
      refine e_te (e_te (e_h (e_bn (e_n ?_))))
      exact ⟨v21, H, en [] (wd z (wd z (wd z (wd z w0)))) z h0⟩
    refine c_f z b13 <| wc_exit <| ?_
    refine e_te (e_te (e_h (e_n ?_)))
    exact ⟨v11, H, en [] (wd z w0) z h0⟩
  intro H
  refine sgr z <| l (p_fd fld_27_4 z) z <| l (p_ld ty_23 z z z) z <| l (p_lenL Tryz.underlying23 z) z <| lm z z <| ne <| wc_block <| w_lp2 H (fun v28 v29 => ⟨[(1, (.ptr 0 0)), (3, (aT v28)), (37, (aL 2 encMachBank x0.Banks)), (38, (aN .i64 (x0.Banks.length : Int))), (39, (aN .i64 v29))], [(0, (oD 27 (encMachine x0)))]⟩) (en [(0, 0)] (ws z z z (wd z (wd z (wd z (wd z w0))))) z (hc z h0)) <| ?_
  intro n6 v28 v29 H
  rw [machine_small_b6] at H
  refine sgr z <| l (p_lss z z) z <| ne <| wc_seq <| ?_
  rcases cn H with ⟨b30, H⟩ | ⟨b30, H⟩
  · refine c_t z b30 ?_
    refine se <| wc_seq <| wc_block <| sgr z <| ?_
    obtain ⟨r31, e32, H⟩ := ob H
    refine l (p_ixL Tryz.underlying23 ty_97.size z z e32) z <| l (p_ldA (ds := encMachBank r31) ty_97 z z z) z <| lh (p_al 2 zr_97 z) z <| l0h (p_stA (ds := (encMachBank r31).map .data) ty_97 z z z z z z) <| ne <| wc_region z <| lm z z <| lm z z <| lw z (Grd.plain _) z [5] z (s1 strip_same s0) (fun hw => p_fd fld_97_1 z) ⟨z, q⟩ (by exact q) z z <| lw z (Grd.plain _) z [45] z (s1 (strip_when id) s0) (fun hw => p_ld ty_29 z z z) ⟨z, q⟩ (by exact ⟨z, q⟩) z z <| lw z (Grd.plain _) z [46] z (s1 (strip_when id) s0) (fun hw => p_lenL Tryz.underlying29 z) ⟨z, q⟩ (by exact q) z z <| lw z (Grd.plain _) z [47] z (s1 (strip_when id) s0) (fun hw => p_bsF (f := (eN .i64)) [.tmp 47] [(r31.Regs.length : Int)] Tryz.underlying29 ty_3.size zr_3 z z z z (el1 (.one _) z el0) z) ⟨z, q⟩ (by exact q) z z <| ?_
    obtain ⟨r33, e34, H⟩ := ob H
    refine lw z (Grd.plain _) z [48] z (s1 (strip_when id) s0) (fun hw => p_c (machine_fewer_ok (bt hw e34)) ent_103 z z z) ⟨z, q⟩ (by exact q) z z <| l (p_pkA z z q (strip_when (wt))) z <| la z z <| wl_nil <| ?_
    refine e_bn (e_n ?_)
    refine wc_region z <| l (p_add z z) z <| lm z z <| ne <| ?_
    exact ⟨v28 && r33, w64 (v29 + 1), H, en [(0, 0)] (ws z z z (wd z (wd z (wd z (wd z w0))))) z (hc z h0)⟩
  refine c_f z b30 <| wc_exit <| ?_
  refine e_te (e_te (e_h (e_n ?_)))
  exact ⟨v28, H, en [(0, 0)] (ws z z z (wd z w0)) z (hc z h0)⟩

def bits_Name_k1 : Unit → Option Bool
  | () =>
    some true
def bits_Name_b2 (x0 : ByteArray) (k1 : Unit → Option Bool) (rec2 : Int → Option Bool) : Int → Option Bool
  | v2 =>
    bif decide (v2 < (x0.size : Int)) then
      (sIx x0 v2).bind fun r4 =>
      bif (!(((decide (97 ≤ r4)) && (decide (r4 ≤ 122))) || ((decide (65 ≤ r4)) && (decide (r4 ≤ 90))))) && ((v2 == 0) || ((r4 != 95) && ((decide (r4 < 48)) || (decide (57 < r4))))) then some false else rec2 (w64 (v2 + 1))
    else
      k1 ()
def bits_Name (x0 : ByteArray) : Option Bool :=
  bif (decide ((x0.size : Int) < 1)) || (decide (24 < (x0.size : Int))) then
    some false
  else
    jn bits_Name_k1 fun k1 =>
    lp (bits_Name_b2 x0 k1) (x0.size + 1) 0
theorem bits_Name_ok {x0 : ByteArray} {R : Bool} (H : bits_Name x0 = some R) : FnOk Tryz.prog K0 85 [(aS x0)] [] (aT R) [] := by
  refine fn_w (nt := 55) (np := 0) Tryz.func85 z z (by simp) (np_of2 z) <| ?_
  unfold bits_Name at H
  refine sgr z <| la z z <| ne <| wc_seq <| sgr z <| lm z z <| l (p_lenS Tryz.underlying9 z) z <| l (p_lss z z) z <| lm z z <| lw z (Grd.plain _) z [0] z (s1 strip_same s0) (fun hw => p_mv z) ⟨z, q⟩ (by exact q) z z <| lw z (Grd.plain _) z [10] z (s1 (strip_when id) s0) (fun hw => p_lenS Tryz.underlying9 z) ⟨z, q⟩ (by exact q) z z <| lw z (Grd.plain _) z [11] z (s1 (strip_when id) s0) (fun hw => p_gtr z z) ⟨z, q⟩ (by exact q) z z <| l (p_pkO z z q (strip_when (wf))) z <| ne <| ?_
  rcases cn H with ⟨b1, H⟩ | ⟨b1, H⟩
  · refine c_t z b1 ?_
    refine sgr z <| la z z <| ne <| wc_ret <| e_tr <| ?_
    obtain rfl := sm H
    exact fin (Or.inr z) (rs1 (rv z) rs0) (re [] (.dat) z h0)
  refine c_f z b1 <| se <| ?_
  refine w_jn0 H (⟨[], []⟩) ?_ ?_
  · intro H
    rw [bits_Name_k1] at H
    refine sgr z <| la z z <| ne <| wc_ret <| ?_
    obtain rfl := sm H
    exact fin (Or.inr z) (rs1 (rv z) rs0) (re [] (.dat) z h0)
  intro H
  refine sgr z <| lm z z <| l (p_lenS Tryz.underlying9 z) z <| lm z z <| ne <| wc_block <| w_lp1 H (fun v2 => ⟨[(0, (aS x0)), (15, (aN .i64 (x0.size : Int))), (16, (aN .i64 v2))], []⟩) (en [] (wd z (wd z (wd z w0))) z h0) <| ?_
  intro n2 v2 H
  rw [bits_Name_b2] at H
  refine sgr z <| l (p_lss z z) z <| ne <| wc_seq <| ?_
  rcases cn H with ⟨b3, H⟩ | ⟨b3, H⟩
  · refine c_t z b3 ?_
    refine se <| wc_seq <| wc_block <| sgr z <| lm z z <| la z z <| ne <| sgr z <| lm z z <| lm z z <| ?_
    obtain ⟨r4, e5, H⟩ := ob H
    refine l (p_ixS Tryz.underlying9 z z e5) z <| la z z <| ne <| sgr z <| lm z z <| l (p_geq z z) z <| lm z z <| lw z (Grd.plain _) z [4] z (s1 strip_same s0) (fun hw => p_mv z) ⟨z, q⟩ (by exact q) z z <| lw z (Grd.plain _) z [25] z (s1 (strip_when id) s0) (fun hw => p_leq z z) ⟨z, q⟩ (by exact q) z z <| l (p_pkA z z q (strip_when (wt))) z <| lm z z <| lw z (Grd.plain _) z [4] z (s1 strip_same s0) (fun hw => p_mv z) ⟨z, q⟩ (by exact q) z z <| lw z (Grd.plain _) z [29] z (s1 (strip_when id) s0) (fun hw => p_geq z z) ⟨z, q⟩ (by exact q) z z <| lw z (Grd.plain _) z [30] z (s1 (strip_when id) s0) (fun hw => p_mv z) ⟨z, q⟩ (by exact q) z z <| lw z (Grd.under _ _) z [4] z (s1 strip_same s0) (fun hw => p_mv z) ⟨z, q⟩ (by exact q) z z <| lw z (Grd.under _ _) z [32] z (s1 (strip_when id) s0) (fun hw => p_leq z z) ⟨z, q⟩ (by exact q) z z <| lw z (Grd.plain _) z [31, 33] z (s1 (strip_when id) (s1 strip_same s0)) (fun hw => p_pkA z z q (strip_when (wtc hw))) ⟨z, ⟨z, q⟩⟩ (by exact q) z z <| l (p_pkO z z q (strip_when (wf))) z <| la z z <| ne <| sgr z <| lm z z <| l (p_not z) z <| lm z z <| lw z (Grd.plain _) z [3] z (s1 strip_same s0) (fun hw => p_mv z) ⟨z, q⟩ (by exact q) z z <| lw z (Grd.plain _) z [39] z (s1 (strip_when id) s0) (fun hw => p_eql z z) ⟨z, q⟩ (by exact q) z z <| lw z (Grd.plain _) z [40] z (s1 (strip_when id) s0) (fun hw => p_mv z) ⟨z, q⟩ (by exact q) z z <| lw z (Grd.under _ _) z [4] z (s1 strip_same s0) (fun hw => p_mv z) ⟨z, q⟩ (by exact q) z z <| lw z (Grd.under _ _) z [42] z (s1 (strip_when id) s0) (fun hw => p_neq z z) ⟨z, q⟩ (by exact q) z z <| lw z (Grd.under _ _) z [43] z (s1 (strip_when id) s0) (fun hw => p_mv z) ⟨z, q⟩ (by exact q) z z <| lw z (Grd.under _ _) z [4] z (s1 strip_same s0) (fun hw => p_mv z) ⟨z, q⟩ (by exact q) z z <| lw z (Grd.under _ _) z [45] z (s1 (strip_when id) s0) (fun hw => p_lss z z) ⟨z, q⟩ (by exact q) z z <| lw z (Grd.under _ _) z [46] z (s1 (strip_when id) s0) (fun hw => p_mv z) ⟨z, q⟩ (by exact q) z z <| lw z (Grd.under _ _) z [4] z (s1 strip_same s0) (fun hw => p_mv z) ⟨z, q⟩ (by exact q) z z <| lw z (Grd.under _ _) z [48] z (s1 (strip_when id) s0) (fun hw => p_gtr z z) ⟨z, q⟩ (by exact q) z z <| lw z (Grd.under _ _) z [47, 49] z (s1 (strip_when id) (s1 strip_same s0)) (fun hw => p_pkO z z q (strip_when (wfc hw))) ⟨z, ⟨z, q⟩⟩ (by exact q) z z <| lw z (Grd.under _ _) z [44, 50] z (s1 (strip_when id) (s1 strip_same s0)) (fun hw => p_pkA z z q (strip_when (wtc hw))) ⟨z, ⟨z, q⟩⟩ (by exact q) z z <| lw z (Grd.plain _) z [41, 51] z (s1 (strip_when id) (s1 strip_same s0)) (fun hw => p_pkO z z q (strip_when (wfc hw))) ⟨z, ⟨z, q⟩⟩ (by exact q) z z <| l (p_pkA z z q (strip_when (wt))) z <| ne <| ?_
    rcases cn H with ⟨b6, H⟩ | ⟨b6, H⟩
    · refine c_t z b6 ?_
      refine sgr z <| la z z <| ne <| wc_ret <| ?_
      refine e_br (e_tr (e_tr (e_br (e_tr ?_))))
      obtain rfl := sm H
      exact fin (Or.inr z) (rs1 (rv z) rs0) (re [] (.dat) z h0)
    refine c_f z b6 <| wc_skip <| ?_
    refine e_bn (e_n ?_)
    refine wc_region z <| l (p_add z z) z <| lm z z <| ne <| ?_
    exact ⟨w64 (v2 + 1), H, en [] (wd z (wd z (wd z w0))) z h0⟩
  refine c_f z b3 <| wc_exit <| ?_
  refine e_te (e_te (e_h (e_n ?_)))
  exact ⟨H, en [] w0 z h0⟩

def machine_within (x0 : Int) (x1 : Int) (x2 : Int) : Option Bool :=
  some ((decide (x1 ≤ x0)) && (decide (x0 ≤ x2)))
theorem machine_within_ok {x0 : Int} {x1 : Int} {x2 : Int} {R : Bool} (H : machine_within x0 x1 x2 = some R) : FnOk Tryz.prog K0 64 [(aN .i64 x0), (aN .i64 x1), (aN .i64 x2)] [] (aT R) [] := by
  refine fn_w (nt := 15) (np := 0) Tryz.func64 z z (by simp) (np_of2 z) <| ?_
  unfold machine_within at H
  refine sgr z <| la z z <| ne <| sgr z <| lm z z <| lm z z <| l (p_leq z z) z <| lm z z <| lw z (Grd.plain _) z [0] z (s1 strip_same s0) (fun hw => p_mv z) ⟨z, q⟩ (by exact q) z z <| lw z (Grd.plain _) z [2] z (s1 strip_same s0) (fun hw => p_mv z) ⟨z, q⟩ (by exact q) z z <| lw z (Grd.plain _) z [11, 12] z (s1 (strip_when id) (s1 (strip_when id) s0)) (fun hw => p_leq z z) ⟨z, ⟨z, q⟩⟩ (by exact q) z z <| l (p_pkA z z q (strip_when (wt))) z <| la z z <| ne <| wc_ret <| ?_
  obtain rfl := sm H
  exact fin (Or.inr z) (rs1 (rv z) rs0) (re [] (.dat) z h0)

def machine_checker_must_b1 (x1 : List Bool) (rec1 : Int × machine_checker → Option machine_checker) : Int × machine_checker → Option machine_checker
  | (v1, v2) =>
    bif decide (v1 < (x1.length : Int)) then
      (ix x1 v1).bind fun r4 =>
      rec1 ((w64 (v1 + 1), (machine_checker.mk v2.Machine (v2.ok && r4))))
    else
      some v2
def machine_checker_must (x0 : machine_checker) (x1 : List Bool) : Option machine_checker :=
  lp (machine_checker_must_b1 x1) (x1.length + 1) (0, x0)
theorem machine_checker_must_ok {x0 : machine_checker} {x1 : List Bool} {R : machine_checker} (H : machine_checker_must x0 x1 = some R) : FnOk Tryz.prog K0 84 [(.ptr 0 0), (aL 1 eT x1)] [(0, (oD 150 (encmachine_checker x0)))] (.tup []) [(0, (oD 150 (encmachine_checker R)))] := by
  refine fn_w (nt := 23) (np := 1) Tryz.func84 z z (by simp) (np_of2 z) <| ?_
  unfold machine_checker_must at H
  refine sgr z <| lm z z <| l (p_lenL Tryz.underlying167 z) z <| lm z z <| ne <| wc_block <| w_lp2 H (fun v1 v2 => ⟨[(0, (.ptr 0 0)), (6, (aL 1 eT x1)), (7, (aN .i64 (x1.length : Int))), (8, (aN .i64 v1))], [(0, (oD 150 (encmachine_checker v2)))]⟩) (en [(0, 0)] (ws z z z (wd z (wd z (wd z w0)))) z (hc z h0)) <| ?_
  intro n1 v1 v2 H
  rw [machine_checker_must_b1] at H
  refine sgr z <| l (p_lss z z) z <| ne <| wc_seq <| ?_
  rcases cn H with ⟨b3, H⟩ | ⟨b3, H⟩
  · refine c_t z b3 ?_
    refine se <| wc_seq <| wc_block <| sgr z <| ?_
    obtain ⟨r4, e5, H⟩ := ob H
    refine l (p_ixL Tryz.underlying167 ty_4.size z z e5) z <| l (p_ldP ty_4 z z) z <| la z z <| ne <| wc_region z <| lm z z <| lm z z <| l (p_nl z) z <| l (p_fd fld_150_1 z) z <| l (p_ld ty_4 z z z) z <| lm z z <| lw z (Grd.plain _) z [5] z (s1 strip_same s0) (fun hw => p_mv z) ⟨z, q⟩ (by exact q) z z <| l (p_pkA z z q (strip_when (wt))) z <| l (p_nl z) z <| l (p_fd fld_150_1 z) z <| l0h (p_st ty_4 z z z q z z) <| wl_nil <| ?_
    refine e_bn (e_n ?_)
    refine wc_region z <| l (p_add z z) z <| lm z z <| ne <| ?_
    exact ⟨w64 (v1 + 1), (machine_checker.mk v2.Machine (v2.ok && r4)), H, en [(0, 0)] (ws z z z (wd z (wd z (wd z w0)))) z (hc z h0)⟩
  refine c_f z b3 <| wc_exit <| ?_
  refine e_te (e_te (e_h ?_))
  obtain rfl := sm H
  exact fin (Or.inl z) rs0 (re2 [(0, 0)] q z (hc z h0))

def slices_Index_string_string_k1 : Unit → Option Int
  | () =>
    some (-1)
def slices_Index_string_string_b2 (x0 : List ByteArray) (x1 : ByteArray) (k1 : Unit → Option Int) (rec2 : Int → Option Int) : Int → Option Int
  | v1 =>
    bif decide (v1 < (x0.length : Int)) then
      (ix x0 v1).bind fun r3 =>
      bif sEq x1 r3 then some v1 else rec2 (w64 (v1 + 1))
    else
      k1 ()
def slices_Index_string_string (x0 : List ByteArray) (x1 : ByteArray) : Option Int :=
  jn slices_Index_string_string_k1 fun k1 =>
  lp (slices_Index_string_string_b2 x0 x1 k1) (x0.length + 1) 0
theorem slices_Index_string_string_ok {x0 : List ByteArray} {x1 : ByteArray} {R : Int} (H : slices_Index_string_string x0 x1 = some R) : FnOk Tryz.prog K0 118 [(aL 1 eS x0), (aS x1)] [] (aN .i64 R) [] := by
  refine fn_w (nt := 19) (np := 0) Tryz.func118 z z (by simp) (np_of2 z) <| ?_
  unfold slices_Index_string_string at H
  refine sgr z <| la z z <| ne <| ?_
  refine w_jn0 H (⟨[], []⟩) ?_ ?_
  · intro H
    rw [slices_Index_string_string_k1] at H
    refine sgr z <| la z z <| ne <| wc_ret <| ?_
    obtain rfl := sm H
    exact fin (Or.inr z) (rs1 (rv z) rs0) (re [] (.dat) z h0)
  intro H
  refine sgr z <| lm z z <| l (p_lenL Tryz.underlying98 z) z <| lm z z <| ne <| wc_block <| w_lp1 H (fun v1 => ⟨[(0, (aL 1 eS x0)), (1, (aS x1)), (7, (aN .i64 (x0.length : Int))), (8, (aN .i64 v1))], []⟩) (en [] (wd z (wd z (wd z (wd z w0)))) z h0) <| ?_
  intro n2 v1 H
  rw [slices_Index_string_string_b2] at H
  refine sgr z <| l (p_lss z z) z <| ne <| wc_seq <| ?_
  rcases cn H with ⟨b2, H⟩ | ⟨b2, H⟩
  · refine c_t z b2 ?_
    refine se <| wc_seq <| wc_block <| sgr z <| lm z z <| la z z <| ne <| sgr z <| lm z z <| lm z z <| lm z z <| ?_
    obtain ⟨r3, e4, H⟩ := ob H
    refine l (p_ixL Tryz.underlying98 ty_9.size z z e4) z <| l (p_ldP ty_9 z z) z <| l (p_seq z z) z <| ne <| ?_
    rcases cn H with ⟨b5, H⟩ | ⟨b5, H⟩
    · refine c_t z b5 ?_
      refine sgr z <| lm z z <| la z z <| ne <| wc_ret <| ?_
      refine e_br (e_tr (e_tr (e_br (e_tr ?_))))
      obtain rfl := sm H
      exact fin (Or.inr z) (rs1 (rv z) rs0) (re [] (.dat) z h0)
    refine c_f z b5 <| wc_skip <| ?_
    refine e_bn (e_n ?_)
    refine wc_region z <| l (p_add z z) z <| lm z z <| ne <| ?_
    exact ⟨w64 (v1 + 1), H, en [] (wd z (wd z (wd z (wd z w0)))) z h0⟩
  refine c_f z b2 <| wc_exit <| ?_
  refine e_te (e_te (e_h (e_n ?_)))
  exact ⟨H, en [] w0 z h0⟩

def slices_Contains_string_string (x0 : List ByteArray) (x1 : ByteArray) : Option Bool :=
  (slices_Index_string_string x0 x1).bind fun r1 =>
  some (decide (0 ≤ r1))
theorem slices_Contains_string_string_ok {x0 : List ByteArray} {x1 : ByteArray} {R : Bool} (H : slices_Contains_string_string x0 x1 = some R) : FnOk Tryz.prog K0 99 [(aL 1 eS x0), (aS x1)] [] (aT R) [] := by
  refine fn_w (nt := 9) (np := 0) Tryz.func99 z z (by simp) (np_of2 z) <| ?_
  unfold slices_Contains_string_string at H
  refine sgr z <| la z z <| ne <| sgr z <| lm z z <| lm z z <| ?_
  obtain ⟨r1, e2, H⟩ := ob H
  refine l (p_c (slices_Index_string_string_ok e2) ent_118 z z z) z <| l (p_geq z z) z <| la z z <| ne <| wc_ret <| ?_
  obtain rfl := sm H
  exact fin (Or.inr z) (rs1 (rv z) rs0) (re [] (.dat) z h0)

def machine_names_fresh (x0 : List ByteArray) (x1 : ByteArray) : Option (Bool × (List ByteArray)) :=
  (bits_Name x1).bind fun r1 =>
  (bif (true && (r1 == true)) then slices_Contains_string_string x0 x1 else some default).bind fun r3 =>
  asr (roomy (x0.length + [x1].length) 16) <|
  some ((r1 && (!r3), x0 ++ [x1]))
theorem machine_names_fresh_ok {x0 : List ByteArray} {x1 : ByteArray} {R : Bool × (List ByteArray)} (H : machine_names_fresh x0 x1 = some R) : FnOk Tryz.prog K0 89 [(.ptr 0 0), (aS x1)] [(0, (oC 154 [(.row 1)])), (1, (oR 9 1 eS x0)), (2, .fresh)] (aT R.1) [(0, (oC 154 [(.row 2)])), (1, .dead), (2, (oR 9 1 eS R.2))] := by
  refine fn_w (nt := 28) (np := 2) Tryz.func89 z z (by simp) (np_of2 z) <| ?_
  unfold machine_names_fresh at H
  refine sgr z <| la z z <| ne <| sgr z <| lm z z <| ?_
  obtain ⟨r1, e2, H⟩ := ob H
  refine l (p_c (bits_Name_ok e2) ent_85 z z z) z <| lm z z <| lw z (Grd.plain _) z [0] z (s1 strip_same s0) (fun hw => p_mv z) ⟨z, q⟩ (by exact q) z z <| lw z (Grd.plain _) z [9] z (s1 (strip_when id) s0) (fun hw => p_nl z) ⟨z, q⟩ (by exact q) z z <| lw z (Grd.plain _) z [10] z (s1 (strip_when id) s0) (fun hw => p_fd fld_154_0 z) ⟨z, q⟩ (by exact q) z z <| lw z (Grd.plain _) z [11] z (s1 (strip_when id) s0) (fun hw => p_ld ty_98 z z z) ⟨z, q⟩ (by exact ⟨z, q⟩) z z <| lw z (Grd.plain _) z [1] z (s1 strip_same s0) (fun hw => p_mv z) ⟨z, q⟩ (by exact q) z z <| ?_
  obtain ⟨r3, e4, H⟩ := ob H
  refine lw z (Grd.plain _) z [12, 13] z (s1 (strip_when id) (s1 (strip_when id) s0)) (fun hw => p_cb (slices_Contains_string_string_ok (bt hw e4)) ent_99 z z (ld1 (ld2 z ld0)) lit_d (fun _ => z)) ⟨z, ⟨z, q⟩⟩ (by exact ⟨z, q⟩) z z <| lw z (Grd.plain _) z [14] z (s1 (strip_when id) s0) (fun hw => p_not z) ⟨z, q⟩ (by exact q) z z <| l (p_pkA z z q (strip_when (wt))) z <| la z z <| ne <| sgr z <| lm z z <| lm z z <| l (p_nl z) z <| l (p_fd fld_154_0 z) z <| l (p_ld ty_98 z z z) z <| lm z z <| l (p_bs (f := eS) [.tmp 22] [x1] Tryz.underlying98 ty_9.size zr_9 z z z z (el1 (.one _) z el0) z) z <| ?_
  obtain ⟨e5, H⟩ := as_ H
  refine lh (p_apA 3 Tryz.underlying98 el_9 z z z z e5) z <| l (p_nl z) z <| l (p_fd fld_154_0 z) z <| l0h (p_st ty_98 z z z q z z) <| ne <| sgr z <| lm z z <| la z z <| ne <| wc_ret <| ?_
  obtain rfl := sm H
  exact fin (Or.inr z) (rs1 (rv z) rs0) (re [(0, 0), (1, 1), (3, 2)] (.dat) z (hs z z z (hx (hr z h0))))

def machine_checker_regs_k2 (v3 : Int) (rec1 : Int × machine_checker × (List ByteArray) → Option machine_checker) : machine_checker × (List ByteArray) → Option machine_checker
  | (v7, v8) =>
    rec1 ((w64 (v3 + 1), v7, v8))
def machine_checker_regs_b1 (r1 : machine_checker) (rec1 : Int × machine_checker × (List ByteArray) → Option machine_checker) : Int × machine_checker × (List ByteArray) → Option machine_checker
  | (v3, v4, v5) =>
    bif decide (v3 < (r1.Machine.Regs.length : Int)) then
      jn (machine_checker_regs_k2 v3 rec1) fun k2 =>
      (ix r1.Machine.Regs v3).bind fun r9 =>
      (machine_names_fresh v5 r9.Name).bind fun r11 =>
      (machine_within r9.Width 1 64).bind fun r13 =>
      (machine_checker_must v4 [r11.1, r13]).bind fun r15 =>
      bif r9.Of == (-1) then
        (machine_checker_must r15 [r9.Low == 0]).bind fun r18 =>
        k2 (r18, r11.2)
      else
        (machine_within r9.Of 0 (w64 ((r15.Machine.Regs.length : Int) - 1))).bind fun r20 =>
        bif !r20 then
          (machine_checker_must r15 [false]).bind fun r23 =>
          k2 (r23, r11.2)
        else
          (ix r15.Machine.Regs r9.Of).bind fun r25 =>
          (machine_within r25.Width 1 64).bind fun r27 =>
          (machine_within r9.Low 0 (w64 (r25.Width - r9.Width))).bind fun r29 =>
          (machine_checker_must r15 [r25.Of == (-1), decide (r9.Width < r25.Width), r27, r29]).bind fun r31 =>
          k2 (r31, r11.2)
    else
      some v4
def machine_checker_regs (x0 : machine_checker) : Option machine_checker :=
  (machine_checker_must x0 [decide (0 < (x0.Machine.Regs.length : Int))]).bind fun r1 =>
  lp (machine_checker_regs_b1 r1) (r1.Machine.Regs.length + 1) ((0, r1, ([] : List ByteArray)))
theorem machine_checker_regs_ok {x0 : machine_checker} {R : machine_checker} (H : machine_checker_regs x0 = some R) : FnOk Tryz.prog K0 86 [(.ptr 0 0)] [(0, (oD 150 (encmachine_checker x0)))] (.tup []) [(0, (oD 150 (encmachine_checker R)))] := by
  refine fn_w (nt := 92) (np := 1) Tryz.func86 z z (by simp) (np_of2 z) <| ?_
  unfold machine_checker_regs at H
  refine sgr z <| lh (p_al 1 zr_154 z) z <| wl_ent (nrc (j := 1) (i := 0) (f := eS) (sz := 1) (e := 9) 2 z z z) <| ne <| sgr z <| lm z z <| lm z z <| l (p_nl z) z <| l (p_fd fld_150_0 z) z <| l (p_fd fld_27_3 z) z <| l (p_ld ty_22 z z z) z <| l (p_lenL Tryz.underlying22 z) z <| l (p_gtr z z) z <| l (p_bs (f := eT) [.tmp 13] [decide (0 < (x0.Machine.Regs.length : Int))] Tryz.underlying167 ty_4.size zr_4 z z z z (el1 (.one _) z el0) z) z <| ?_
  obtain ⟨r1, e2, H⟩ := ob H
  refine lh (p_ch (ids := [0]) (machine_checker_must_ok e2) ent_84 z z (rc z rdd rn) (rc z rdd rn) z ⟨z, q⟩ (by decide) z z z (oc od on) (oc od on) z) z <| ne <| sgr z <| lm z z <| l (p_nl z) z <| l (p_fd fld_150_0 z) z <| l (p_fd fld_27_3 z) z <| l (p_ld ty_22 z z z) z <| l (p_lenL Tryz.underlying22 z) z <| lm z z <| ne <| wc_block <| w_lp3 H (fun v3 v4 v5 => ⟨[(0, (.ptr 0 0)), (2, (.ptr 1 0)), (20, (aL 4 encMachReg r1.Machine.Regs)), (21, (aN .i64 (r1.Machine.Regs.length : Int))), (22, (aN .i64 v3))], [(0, (oD 150 (encmachine_checker v4))), (1, (oC 154 [(.row 2)])), (2, (oR 9 1 eS v5))]⟩) (en [(0, 0), (1, 1), (2, 2)] (ws z z z (ws z z z (wd z (wd z (wd z w0))))) z (hc z (hs z z z (hr z h0)))) <| ?_
  intro n1 v3 v4 v5 H
  rw [machine_checker_regs_b1] at H
  refine sgr z <| l (p_lss z z) z <| ne <| wc_seq <| ?_
  rcases cn H with ⟨b6, H⟩ | ⟨b6, H⟩
  · refine c_t z b6 ?_
    refine se <| ?_
    refine w_jn2 H (fun v7 v8 => ⟨[(0, (.ptr 0 0)), (2, (.ptr 1 0)), (20, (aL 4 encMachReg r1.Machine.Regs)), (21, (aN .i64 (r1.Machine.Regs.length : Int))), (22, (aN .i64 v3))], [(0, (oD 150 (encmachine_checker v7))), (1, (oC 154 [(.row 7)])), (7, (oR 9 1 eS v8))]⟩) ?_ ?_
    · intro v7 v8 H
      rw [machine_checker_regs_k2] at H
      refine wc_region z <| l (p_add z z) z <| lm z z <| ne <| ?_
      exact ⟨w64 (v3 + 1), v7, v8, H, en [(0, 0), (1, 1), (7, 2)] (ws z z z (ws z z z (wd z (wd z (wd z w0))))) z (hc z (hs z z z (hr z h0)))⟩
    intro H
    refine wc_block <| sgr z <| ?_
    obtain ⟨r9, e10, H⟩ := ob H
    refine l (p_ixL Tryz.underlying22 ty_100.size z z e10) z <| l (p_ldA (ds := encMachReg r9) ty_100 z z z) z <| lh (p_al 6 zr_100 z) z <| l0h (p_stA (ds := (encMachReg r9).map .data) ty_100 z z z z z z) <| ne <| wc_seq <| wc_draw [0, 0, 2, 6, 0, 16, 62, 126, 255] mixed z <| dm z z <| dr (p_fd fld_100_0 z) z <| dr (p_ld ty_9 z z z) z <| ?_
    obtain ⟨r11, e12, H⟩ := ob H
    refine drh (p_ch (ids := [1, 2, 7]) (machine_names_fresh_ok e12) ent_89 z z (rc z z (rc z rm (rc z z rn))) (rc z z (rc z z (rc z rm rn))) z ⟨z, ⟨z, ⟨z, q⟩⟩⟩ (by decide) z z z (oc z (oc om (oc z on))) (oc z (oc z (oc om on))) z) z <| dr (p_fd fld_100_1 z) z <| dr (p_ld ty_3 z z z) z <| ?_
    obtain ⟨r13, e14, H⟩ := ob H
    refine dr (p_c (machine_within_ok e14) ent_64 z z z) z <| dr (p_bs (f := eT) [.tmp 29, .tmp 32] [r11.1, r13] Tryz.underlying167 ty_4.size zr_4 z z z z (el1 (.one _) z (el1 (.one _) z el0)) z) z <| ?_
    obtain ⟨r15, e16, H⟩ := ob H
    refine drh (p_ch (ids := [0]) (machine_checker_must_ok e16) ent_84 z z (rc z rdd rn) (rc z rdd rn) z ⟨z, q⟩ (by decide) z z z (oc od on) (oc od on) z) z <| ?_
    refine wd_nil ?_ (by kernel_rfl)
    refine e_n <| wc_block <| sgr z <| l (p_fd fld_100_2 z) z <| l (p_ld ty_3 z z z) z <| l (p_eql z z) z <| la z z <| ne <| ?_
    rcases cn H with ⟨b17, H⟩ | ⟨b17, H⟩
    · refine c_t z b17 ?_
      refine wc_region z <| lm z z <| l (p_fd fld_100_3 z) z <| l (p_ld ty_3 z z z) z <| l (p_eql z z) z <| l (p_bs (f := eT) [.tmp 73] [r9.Low == 0] Tryz.underlying167 ty_4.size zr_4 z z z z (el1 (.one _) z el0) z) z <| ?_
      obtain ⟨r18, e19, H⟩ := ob H
      refine lh (p_ch (ids := [0]) (machine_checker_must_ok e19) ent_84 z z (rc z rdd rn) (rc z rdd rn) z ⟨z, q⟩ (by decide) z z z (oc od on) (oc od on) z) z <| wl_nil <| ?_
      refine e_bn (e_bn (e_n ?_))
      exact ⟨r18, r11.2, H, en [(0, 0), (1, 1), (7, 7)] (ws z z z (ws z z z (wd z (wd z (wd z w0))))) z (hc z (hs z z z (hr z h0)))⟩
    refine c_f z b17 <| wc_seq <| wc_draw [0, 1, 0, 4, 12, 28, 60, 124, 252, 511, 1023, 2047] mixed z <| dr (p_fd fld_100_2 z) z <| dr (p_ld ty_3 z z z) z <| dm z z <| dr (p_nl z) z <| dr (p_fd fld_150_0 z) z <| dr (p_fd fld_27_3 z) z <| dr (p_ld ty_22 z z z) z <| dr (p_lenL Tryz.underlying22 z) z <| dr (p_sub z z) z <| ?_
    obtain ⟨r20, e21, H⟩ := ob H
    refine dr (p_c (machine_within_ok e21) ent_64 z z z) z <| dr (p_not z) z <| da z z <| ?_
    refine wd_nil ?_ (by kernel_rfl)
    refine e_n <| ?_
    rcases cn H with ⟨b22, H⟩ | ⟨b22, H⟩
    · refine c_t z b22 ?_
      refine wc_region z <| lm z z <| l (p_bs (f := eT) [.const (Value.bool false)] [false] Tryz.underlying167 ty_4.size zr_4 z z z z (el1 (.one _) z el0) z) z <| ?_
      obtain ⟨r23, e24, H⟩ := ob H
      refine lh (p_ch (ids := [0]) (machine_checker_must_ok e24) ent_84 z z (rc z rdd rn) (rc z rdd rn) z ⟨z, q⟩ (by decide) z z z (oc od on) (oc od on) z) z <| wl_nil <| ?_
      refine e_bn (e_bn (e_n ?_))
      exact ⟨r23, r11.2, H, en [(0, 0), (1, 1), (7, 7)] (ws z z z (ws z z z (wd z (wd z (wd z w0))))) z (hc z (hs z z z (hr z h0)))⟩
    refine c_f z b22 <| wc_seq <| wc_draw [0, 1, 3, 7, 15, 0, 32, 127, 255, 0, 1023] mixed z <| dm z z <| dr (p_nl z) z <| dr (p_fd fld_150_0 z) z <| dr (p_fd fld_27_3 z) z <| dr (p_ld ty_22 z z z) z <| dr (p_fd fld_100_2 z) z <| dr (p_ld ty_3 z z z) z <| ?_
    obtain ⟨r25, e26, H⟩ := ob H
    refine dr (p_ixL Tryz.underlying22 ty_100.size z z e26) z <| dr (p_ldA (ds := encMachReg r25) ty_100 z z z) z <| drh (p_al 8 zr_100 z) z <| dr0h (p_stA (ds := (encMachReg r25).map .data) ty_100 z z z z z z) <| ?_
    refine wd_nil ?_ (by kernel_rfl)
    refine e_n <| wc_draw [0, 0, 2, 6, 0, 16, 0, 64, 240, 0, 512, 1536, 0, 4096, 0, 16384, 0, 65536, 245760, 523776, 1048574, 2097151] mixed z <| dm z z <| dr (p_fd fld_100_2 z) z <| dr (p_ld ty_3 z z z) z <| dr (p_eql z z) z <| dr (p_fd fld_100_1 z) z <| dr (p_ld ty_3 z z z) z <| dr (p_fd fld_100_1 z) z <| dr (p_ld ty_3 z z z) z <| dr (p_lss z z) z <| dr (p_fd fld_100_1 z) z <| dr (p_ld ty_3 z z z) z <| ?_
    obtain ⟨r27, e28, H⟩ := ob H
    refine dr (p_c (machine_within_ok e28) ent_64 z z z) z <| dr (p_fd fld_100_3 z) z <| dr (p_ld ty_3 z z z) z <| dr (p_fd fld_100_1 z) z <| dr (p_ld ty_3 z z z) z <| dr (p_fd fld_100_1 z) z <| dr (p_ld ty_3 z z z) z <| dr (p_sub z z) z <| ?_
    obtain ⟨r29, e30, H⟩ := ob H
    refine dr (p_c (machine_within_ok e30) ent_64 z z z) z <| dr (p_bs (f := eT) [.tmp 47, .tmp 52, .tmp 55, .tmp 63] [r25.Of == (-1), decide (r9.Width < r25.Width), r27, r29] Tryz.underlying167 ty_4.size zr_4 z z z z (el1 (.one _) z (el1 (.one _) z (el1 (.one _) z (el1 (.one _) z el0)))) z) z <| ?_
    obtain ⟨r31, e32, H⟩ := ob H
    refine drh (p_ch (ids := [0]) (machine_checker_must_ok e32) ent_84 z z (rc z rdd rn) (rc z rdd rn) z ⟨z, q⟩ (by decide) z z z (oc od on) (oc od on) z) z <| ?_
    refine wd_nil ?_ (by kernel_rfl)
    refine e_bn (e_bn (e_n ?_))
    exact ⟨r31, r11.2, H, en [(0, 0), (1, 1), (7, 7)] (ws z z z (ws z z z (wd z (wd z (wd z w0))))) z (hc z (hs z z z (hr z h0)))⟩
  refine c_f z b6 <| wc_exit <| ?_
  refine e_te (e_te (e_h ?_))
  obtain rfl := sm H
  exact fin (Or.inl z) rs0 (re2 [(0, 0)] q z (hc z h0))

def slices_Index_int_int_k1 : Unit → Option Int
  | () =>
    some (-1)
def slices_Index_int_int_b2 (x0 : List Int) (x1 : Int) (k1 : Unit → Option Int) (rec2 : Int → Option Int) : Int → Option Int
  | v1 =>
    bif decide (v1 < (x0.length : Int)) then
      (ix x0 v1).bind fun r3 =>
      bif x1 == r3 then some v1 else rec2 (w64 (v1 + 1))
    else
      k1 ()
def slices_Index_int_int (x0 : List Int) (x1 : Int) : Option Int :=
  jn slices_Index_int_int_k1 fun k1 =>
  lp (slices_Index_int_int_b2 x0 x1 k1) (x0.length + 1) 0
theorem slices_Index_int_int_ok {x0 : List Int} {x1 : Int} {R : Int} (H : slices_Index_int_int x0 x1 = some R) : FnOk Tryz.prog K0 92 [(aL 1 (eN .i64) x0), (aN .i64 x1)] [] (aN .i64 R) [] := by
  refine fn_w (nt := 19) (np := 0) Tryz.func92 z z (by simp) (np_of2 z) <| ?_
  unfold slices_Index_int_int at H
  refine sgr z <| la z z <| ne <| ?_
  refine w_jn0 H (⟨[], []⟩) ?_ ?_
  · intro H
    rw [slices_Index_int_int_k1] at H
    refine sgr z <| la z z <| ne <| wc_ret <| ?_
    obtain rfl := sm H
    exact fin (Or.inr z) (rs1 (rv z) rs0) (re [] (.dat) z h0)
  intro H
  refine sgr z <| lm z z <| l (p_lenL Tryz.underlying29 z) z <| lm z z <| ne <| wc_block <| w_lp1 H (fun v1 => ⟨[(0, (aL 1 (eN .i64) x0)), (1, (aN .i64 x1)), (7, (aN .i64 (x0.length : Int))), (8, (aN .i64 v1))], []⟩) (en [] (wd z (wd z (wd z (wd z w0)))) z h0) <| ?_
  intro n2 v1 H
  rw [slices_Index_int_int_b2] at H
  refine sgr z <| l (p_lss z z) z <| ne <| wc_seq <| ?_
  rcases cn H with ⟨b2, H⟩ | ⟨b2, H⟩
  · refine c_t z b2 ?_
    refine se <| wc_seq <| wc_block <| sgr z <| lm z z <| la z z <| ne <| sgr z <| lm z z <| lm z z <| lm z z <| ?_
    obtain ⟨r3, e4, H⟩ := ob H
    refine l (p_ixL Tryz.underlying29 ty_3.size z z e4) z <| l (p_ldP ty_3 z z) z <| l (p_eql z z) z <| ne <| ?_
    rcases cn H with ⟨b5, H⟩ | ⟨b5, H⟩
    · refine c_t z b5 ?_
      refine sgr z <| lm z z <| la z z <| ne <| wc_ret <| ?_
      refine e_br (e_tr (e_tr (e_br (e_tr ?_))))
      obtain rfl := sm H
      exact fin (Or.inr z) (rs1 (rv z) rs0) (re [] (.dat) z h0)
    refine c_f z b5 <| wc_skip <| ?_
    refine e_bn (e_n ?_)
    refine wc_region z <| l (p_add z z) z <| lm z z <| ne <| ?_
    exact ⟨w64 (v1 + 1), H, en [] (wd z (wd z (wd z (wd z w0)))) z h0⟩
  refine c_f z b2 <| wc_exit <| ?_
  refine e_te (e_te (e_h (e_n ?_)))
  exact ⟨H, en [] w0 z h0⟩

def slices_Contains_int_int (x0 : List Int) (x1 : Int) : Option Bool :=
  (slices_Index_int_int x0 x1).bind fun r1 =>
  some (decide (0 ≤ r1))
theorem slices_Contains_int_int_ok {x0 : List Int} {x1 : Int} {R : Bool} (H : slices_Contains_int_int x0 x1 = some R) : FnOk Tryz.prog K0 66 [(aL 1 (eN .i64) x0), (aN .i64 x1)] [] (aT R) [] := by
  refine fn_w (nt := 9) (np := 0) Tryz.func66 z z (by simp) (np_of2 z) <| ?_
  unfold slices_Contains_int_int at H
  refine sgr z <| la z z <| ne <| sgr z <| lm z z <| lm z z <| ?_
  obtain ⟨r1, e2, H⟩ := ob H
  refine l (p_c (slices_Index_int_int_ok e2) ent_92 z z z) z <| l (p_geq z z) z <| la z z <| ne <| wc_ret <| ?_
  obtain rfl := sm H
  exact fin (Or.inr z) (rs1 (rv z) rs0) (re [] (.dat) z h0)

def machine_checker_banks_k2 (v1 : Int) (rec1 : Int × machine_checker × (List ByteArray) → Option machine_checker) : machine_checker × (List ByteArray) → Option machine_checker
  | (v5, v6) =>
    rec1 ((w64 (v1 + 1), v5, v6))
def machine_checker_banks_k4 (v13 : Int) (rec3 : Int × machine_checker → Option machine_checker) : machine_checker → Option machine_checker
  | v16 =>
    rec3 ((w64 (v13 + 1), v16))
def machine_checker_banks_b3 (k2 : machine_checker × (List ByteArray) → Option machine_checker) (r7 : MachBank) (r9 : Bool × (List ByteArray)) (rec3 : Int × machine_checker → Option machine_checker) : Int × machine_checker → Option machine_checker
  | (v13, v14) =>
    bif decide (v13 < (r7.Regs.length : Int)) then
      jn (machine_checker_banks_k4 v13 rec3) fun k4 =>
      (ix r7.Regs v13).bind fun r17 =>
      (machine_within r17 0 (w64 ((v14.Machine.Regs.length : Int) - 1))).bind fun r19 =>
      asr (subOk 0 v13 r7.Regs.length) <|
      (slices_Contains_int_int (lSub r7.Regs 0 v13) r17).bind fun r22 =>
      (machine_checker_must v14 [r19, !r22]).bind fun r24 =>
      bif r24.ok then
        (ix r24.Machine.Regs r17).bind fun r27 =>
        (ix r7.Regs 0).bind fun r29 =>
        (ix r24.Machine.Regs r29).bind fun r31 =>
        (machine_checker_must r24 [r27.Width == r31.Width]).bind fun r33 =>
        k4 r33
      else
        k4 r24
    else
      k2 (v14, r9.2)
def machine_checker_banks_b1 (x0 : machine_checker) (rec1 : Int × machine_checker × (List ByteArray) → Option machine_checker) : Int × machine_checker × (List ByteArray) → Option machine_checker
  | (v1, v2, v3) =>
    bif decide (v1 < (x0.Machine.Banks.length : Int)) then
      jn (machine_checker_banks_k2 v1 rec1) fun k2 =>
      (ix x0.Machine.Banks v1).bind fun r7 =>
      (machine_names_fresh v3 r7.Name).bind fun r9 =>
      (machine_checker_must v2 [r9.1, decide (0 < (r7.Regs.length : Int))]).bind fun r11 =>
      lp (machine_checker_banks_b3 k2 r7 r9) (r7.Regs.length + 1) (0, r11)
    else
      some v2
def machine_checker_banks (x0 : machine_checker) : Option machine_checker :=
  lp (machine_checker_banks_b1 x0) (x0.Machine.Banks.length + 1) ((0, x0, ([] : List ByteArray)))
theorem machine_checker_banks_ok {x0 : machine_checker} {R : machine_checker} (H : machine_checker_banks x0 = some R) : FnOk Tryz.prog K0 87 [(.ptr 0 0)] [(0, (oD 150 (encmachine_checker x0)))] (.tup []) [(0, (oD 150 (encmachine_checker R)))] := by
  refine fn_w (nt := 85) (np := 1) Tryz.func87 z z (by simp) (np_of2 z) <| ?_
  unfold machine_checker_banks at H
  refine sgr z <| lh (p_al 1 zr_154 z) z <| wl_ent (nrc (j := 1) (i := 0) (f := eS) (sz := 1) (e := 9) 2 z z z) <| ne <| sgr z <| lm z z <| l (p_nl z) z <| l (p_fd fld_150_0 z) z <| l (p_fd fld_27_4 z) z <| l (p_ld ty_23 z z z) z <| l (p_lenL Tryz.underlying23 z) z <| lm z z <| ne <| wc_block <| w_lp3 H (fun v1 v2 v3 => ⟨[(0, (.ptr 0 0)), (2, (.ptr 1 0)), (11, (aL 2 encMachBank x0.Machine.Banks)), (12, (aN .i64 (x0.Machine.Banks.length : Int))), (13, (aN .i64 v1))], [(0, (oD 150 (encmachine_checker v2))), (1, (oC 154 [(.row 2)])), (2, (oR 9 1 eS v3))]⟩) (en [(0, 0), (1, 1), (2, 2)] (ws z z z (ws z z z (wd z (wd z (wd z w0))))) z (hc z (hs z z z (hr z h0)))) <| ?_
  intro n1 v1 v2 v3 H
  rw [machine_checker_banks_b1] at H
  refine sgr z <| l (p_lss z z) z <| ne <| wc_seq <| ?_
  rcases cn H with ⟨b4, H⟩ | ⟨b4, H⟩
  · refine c_t z b4 ?_
    refine se <| ?_
    refine w_jn2 H (fun v5 v6 => ⟨[(0, (.ptr 0 0)), (2, (.ptr 1 0)), (11, (aL 2 encMachBank x0.Machine.Banks)), (12, (aN .i64 (x0.Machine.Banks.length : Int))), (13, (aN .i64 v1))], [(0, (oD 150 (encmachine_checker v5))), (1, (oC 154 [(.row 6)])), (6, (oR 9 1 eS v6))]⟩) ?_ ?_
    · intro v5 v6 H
      rw [machine_checker_banks_k2] at H
      refine wc_region z <| l (p_add z z) z <| lm z z <| ne <| ?_
      exact ⟨w64 (v1 + 1), v5, v6, H, en [(0, 0), (1, 1), (6, 2)] (ws z z z (ws z z z (wd z (wd z (wd z w0))))) z (hc z (hs z z z (hr z h0)))⟩
    intro H
    refine wc_block <| sgr z <| ?_
    obtain ⟨r7, e8, H⟩ := ob H
    refine l (p_ixL Tryz.underlying23 ty_97.size z z e8) z <| l (p_ldA (ds := encMachBank r7) ty_97 z z z) z <| lh (p_al 5 zr_97 z) z <| l0h (p_stA (ds := (encMachBank r7).map .data) ty_97 z z z z z z) <| ne <| wc_seq <| wc_draw [0, 0, 2, 6, 0, 16, 48, 112, 254, 511] mixed z <| dm z z <| dr (p_fd fld_97_0 z) z <| dr (p_ld ty_9 z z z) z <| ?_
    obtain ⟨r9, e10, H⟩ := ob H
    refine drh (p_ch (ids := [1, 2, 6]) (machine_names_fresh_ok e10) ent_89 z z (rc z z (rc z rm (rc z z rn))) (rc z z (rc z z (rc z rm rn))) z ⟨z, ⟨z, ⟨z, q⟩⟩⟩ (by decide) z z z (oc z (oc om (oc z on))) (oc z (oc z (oc om on))) z) z <| dr (p_fd fld_97_1 z) z <| dr (p_ld ty_29 z z z) z <| dr (p_lenL Tryz.underlying29 z) z <| dr (p_gtr z z) z <| dr (p_bs (f := eT) [.tmp 20, .tmp 24] [r9.1, decide (0 < (r7.Regs.length : Int))] Tryz.underlying167 ty_4.size zr_4 z z z z (el1 (.one _) z (el1 (.one _) z el0)) z) z <| ?_
    obtain ⟨r11, e12, H⟩ := ob H
    refine drh (p_ch (ids := [0]) (machine_checker_must_ok e12) ent_84 z z (rc z rdd rn) (rc z rdd rn) z ⟨z, q⟩ (by decide) z z z (oc od on) (oc od on) z) z <| ?_
    refine wd_nil ?_ (by kernel_rfl)
    refine e_n <| sgr z <| l (p_fd fld_97_1 z) z <| l (p_ld ty_29 z z z) z <| l (p_lenL Tryz.underlying29 z) z <| lm z z <| ne <| wc_block <| w_lp2 H (fun v13 v14 => ⟨[(0, (.ptr 0 0)), (2, (.ptr 1 0)), (4, (.ptr 5 0)), (11, (aL 2 encMachBank x0.Machine.Banks)), (12, (aN .i64 (x0.Machine.Banks.length : Int))), (13, (aN .i64 v1)), (28, (aL 1 (eN .i64) r7.Regs)), (29, (aN .i64 (r7.Regs.length : Int))), (30, (aN .i64 v13))], [(0, (oD 150 (encmachine_checker v14))), (1, (oC 154 [(.row 6)])), (5, (oD 97 (encMachBank r7))), (6, (oR 9 1 eS r9.2))]⟩) (en [(0, 0), (1, 1), (5, 5), (6, 6)] (ws z z z (ws z z z (ws z z z (wd z (wd z (wd z (wd z (wd z (wd z w0))))))))) z (hc z (hs z z z (hc z (hr z h0))))) <| ?_
    intro n3 v13 v14 H
    rw [machine_checker_banks_b3] at H
    refine sgr z <| l (p_lss z z) z <| ne <| wc_seq <| ?_
    rcases cn H with ⟨b15, H⟩ | ⟨b15, H⟩
    · refine c_t z b15 ?_
      refine se <| ?_
      refine w_jn1 H (fun v16 => ⟨[(0, (.ptr 0 0)), (2, (.ptr 1 0)), (4, (.ptr 5 0)), (11, (aL 2 encMachBank x0.Machine.Banks)), (12, (aN .i64 (x0.Machine.Banks.length : Int))), (13, (aN .i64 v1)), (28, (aL 1 (eN .i64) r7.Regs)), (29, (aN .i64 (r7.Regs.length : Int))), (30, (aN .i64 v13))], [(0, (oD 150 (encmachine_checker v16))), (1, (oC 154 [(.row 6)])), (5, (oD 97 (encMachBank r7))), (6, (oR 9 1 eS r9.2))]⟩) ?_ ?_
      · intro v16 H
        rw [machine_checker_banks_k4] at H
        refine wc_region z <| l (p_add z z) z <| lm z z <| ne <| ?_
        exact ⟨w64 (v13 + 1), v16, H, en [(0, 0), (1, 1), (5, 5), (6, 6)] (ws z z z (ws z z z (ws z z z (wd z (wd z (wd z (wd z (wd z (wd z w0))))))))) z (hc z (hs z z z (hc z (hr z h0))))⟩
      intro H
      refine wc_block <| sgr z <| lm z z <| ?_
      obtain ⟨r17, e18, H⟩ := ob H
      refine l (p_ixL Tryz.underlying29 ty_3.size z z e18) z <| l (p_ldP ty_3 z z) z <| la z z <| la z z <| ne <| wc_seq <| wc_draw [0, 0, 0, 4, 12, 28, 60, 124, 252, 510, 0, 1024, 0, 7168, 0, 32766, 65534, 131070, 262143] mixed z <| dm z z <| dm z z <| dm z z <| dr (p_nl z) z <| dr (p_fd fld_150_0 z) z <| dr (p_fd fld_27_3 z) z <| dr (p_ld ty_22 z z z) z <| dr (p_lenL Tryz.underlying22 z) z <| dr (p_sub z z) z <| ?_
      obtain ⟨r19, e20, H⟩ := ob H
      refine dr (p_c (machine_within_ok e20) ent_64 z z z) z <| dr (p_fd fld_97_1 z) z <| dr (p_ld ty_29 z z z) z <| dm z z <| ?_
      obtain ⟨e21, H⟩ := as_ H
      refine dr (p_slL Tryz.underlying29 ty_3.size z .no (.yes z) e21) z <| dm z z <| ?_
      obtain ⟨r22, e23, H⟩ := ob H
      refine dr (p_c (slices_Contains_int_int_ok e23) ent_66 z z z) z <| dr (p_not z) z <| dr (p_bs (f := eT) [.tmp 44, .tmp 51] [r19, !r22] Tryz.underlying167 ty_4.size zr_4 z z z z (el1 (.one _) z (el1 (.one _) z el0)) z) z <| ?_
      obtain ⟨r24, e25, H⟩ := ob H
      refine drh (p_ch (ids := [0]) (machine_checker_must_ok e25) ent_84 z z (rc z rdd rn) (rc z rdd rn) z ⟨z, q⟩ (by decide) z z z (oc od on) (oc od on) z) z <| ?_
      refine wd_nil ?_ (by kernel_rfl)
      refine e_n <| sgr z <| lm z z <| l (p_nl z) z <| l (p_fd fld_150_1 z) z <| l (p_ld ty_4 z z z) z <| ne <| ?_
      rcases cn H with ⟨b26, H⟩ | ⟨b26, H⟩
      · refine c_t z b26 ?_
        refine wc_draw [0, 0, 2, 6, 14, 30, 0, 126, 254, 510, 0, 1024, 3072, 7168, 15360, 0, 32768, 98304, 229376, 523264, 1047552, 2096128, 4194302, 8388606, 16777215] mixed z <| dm z z <| dm z z <| dr (p_nl z) z <| dr (p_fd fld_150_0 z) z <| dr (p_fd fld_27_3 z) z <| dr (p_ld ty_22 z z z) z <| dm z z <| ?_
        obtain ⟨r27, e28, H⟩ := ob H
        refine dr (p_ixL Tryz.underlying22 ty_100.size z z e28) z <| dr (p_fdP fld_100_1 z) z <| dr (p_ldP ty_3 z z) z <| dm z z <| dr (p_nl z) z <| dr (p_fd fld_150_0 z) z <| dr (p_fd fld_27_3 z) z <| dr (p_ld ty_22 z z z) z <| dr (p_fd fld_97_1 z) z <| dr (p_ld ty_29 z z z) z <| ?_
        obtain ⟨r29, e30, H⟩ := ob H
        refine dr (p_ixL Tryz.underlying29 ty_3.size z z e30) z <| dr (p_ldP ty_3 z z) z <| ?_
        obtain ⟨r31, e32, H⟩ := ob H
        refine dr (p_ixL Tryz.underlying22 ty_100.size z z e32) z <| dr (p_fdP fld_100_1 z) z <| dr (p_ldP ty_3 z z) z <| dr (p_eql z z) z <| dr (p_bs (f := eT) [.tmp 80] [r27.Width == r31.Width] Tryz.underlying167 ty_4.size zr_4 z z z z (el1 (.one _) z el0) z) z <| ?_
        obtain ⟨r33, e34, H⟩ := ob H
        refine drh (p_ch (ids := [0]) (machine_checker_must_ok e34) ent_84 z z (rc z rdd rn) (rc z rdd rn) z ⟨z, q⟩ (by decide) z z z (oc od on) (oc od on) z) z <| ?_
        refine wd_nil ?_ (by kernel_rfl)
        refine e_bn (e_n ?_)
        exact ⟨r33, H, en [(0, 0), (1, 1), (5, 5), (6, 6)] (ws z z z (ws z z z (ws z z z (wd z (wd z (wd z (wd z (wd z (wd z w0))))))))) z (hc z (hs z z z (hc z (hr z h0))))⟩
      refine c_f z b26 <| wc_skip <| ?_
      refine e_bn (e_n ?_)
      exact ⟨r24, H, en [(0, 0), (1, 1), (5, 5), (6, 6)] (ws z z z (ws z z z (ws z z z (wd z (wd z (wd z (wd z (wd z (wd z w0))))))))) z (hc z (hs z z z (hc z (hr z h0))))⟩
    refine c_f z b15 <| wc_exit <| ?_
    refine e_te (e_te (e_h (e_bn (e_n ?_))))
    exact ⟨v14, r9.2, H, en [(0, 0), (1, 1), (6, 6)] (ws z z z (ws z z z (wd z (wd z (wd z w0))))) z (hc z (hs z z z (hr z h0)))⟩
  refine c_f z b4 <| wc_exit <| ?_
  refine e_te (e_te (e_h ?_))
  obtain rfl := sm H
  exact fin (Or.inl z) rs0 (re2 [(0, 0)] q z (hc z h0))

def machine_checker_units_b1 (r1 : machine_checker) (rec1 : Int × machine_checker × (List ByteArray) → Option machine_checker) : Int × machine_checker × (List ByteArray) → Option machine_checker
  | (v3, v4, v5) =>
    bif decide (v3 < (r1.Machine.Units.length : Int)) then
      (ix r1.Machine.Units v3).bind fun r7 =>
      (machine_names_fresh v5 r7.Name).bind fun r9 =>
      (machine_within r7.Count 1 4).bind fun r11 =>
      (machine_checker_must v4 [r9.1, r11]).bind fun r13 =>
      rec1 ((w64 (v3 + 1), r13, r9.2))
    else
      some v4
def machine_checker_units (x0 : machine_checker) : Option machine_checker :=
  (machine_checker_must x0 [decide (0 < (x0.Machine.Units.length : Int))]).bind fun r1 =>
  lp (machine_checker_units_b1 r1) (r1.Machine.Units.length + 1) ((0, r1, ([] : List ByteArray)))
theorem machine_checker_units_ok {x0 : machine_checker} {R : machine_checker} (H : machine_checker_units x0 = some R) : FnOk Tryz.prog K0 88 [(.ptr 0 0)] [(0, (oD 150 (encmachine_checker x0)))] (.tup []) [(0, (oD 150 (encmachine_checker R)))] := by
  refine fn_w (nt := 35) (np := 1) Tryz.func88 z z (by simp) (np_of2 z) <| ?_
  unfold machine_checker_units at H
  refine sgr z <| lh (p_al 1 zr_154 z) z <| wl_ent (nrc (j := 1) (i := 0) (f := eS) (sz := 1) (e := 9) 2 z z z) <| ne <| sgr z <| lm z z <| lm z z <| l (p_nl z) z <| l (p_fd fld_150_0 z) z <| l (p_fd fld_27_5 z) z <| l (p_ld ty_24 z z z) z <| l (p_lenL Tryz.underlying24 z) z <| l (p_gtr z z) z <| l (p_bs (f := eT) [.tmp 12] [decide (0 < (x0.Machine.Units.length : Int))] Tryz.underlying167 ty_4.size zr_4 z z z z (el1 (.one _) z el0) z) z <| ?_
  obtain ⟨r1, e2, H⟩ := ob H
  refine lh (p_ch (ids := [0]) (machine_checker_must_ok e2) ent_84 z z (rc z rdd rn) (rc z rdd rn) z ⟨z, q⟩ (by decide) z z z (oc od on) (oc od on) z) z <| ne <| sgr z <| lm z z <| l (p_nl z) z <| l (p_fd fld_150_0 z) z <| l (p_fd fld_27_5 z) z <| l (p_ld ty_24 z z z) z <| l (p_lenL Tryz.underlying24 z) z <| lm z z <| ne <| wc_block <| w_lp3 H (fun v3 v4 v5 => ⟨[(0, (.ptr 0 0)), (2, (.ptr 1 0)), (19, (aL 2 encMachUnit r1.Machine.Units)), (20, (aN .i64 (r1.Machine.Units.length : Int))), (21, (aN .i64 v3))], [(0, (oD 150 (encmachine_checker v4))), (1, (oC 154 [(.row 2)])), (2, (oR 9 1 eS v5))]⟩) (en [(0, 0), (1, 1), (2, 2)] (ws z z z (ws z z z (wd z (wd z (wd z w0))))) z (hc z (hs z z z (hr z h0)))) <| ?_
  intro n1 v3 v4 v5 H
  rw [machine_checker_units_b1] at H
  refine sgr z <| l (p_lss z z) z <| ne <| wc_seq <| ?_
  rcases cn H with ⟨b6, H⟩ | ⟨b6, H⟩
  · refine c_t z b6 ?_
    refine se <| wc_seq <| wc_block <| sgr z <| ?_
    obtain ⟨r7, e8, H⟩ := ob H
    refine l (p_ixL Tryz.underlying24 ty_92.size z z e8) z <| l (p_ldA (ds := encMachUnit r7) ty_92 z z z) z <| lh (p_al 5 zr_92 z) z <| l0h (p_stA (ds := (encMachUnit r7).map .data) ty_92 z z z z z z) <| ne <| wc_draw [0, 0, 2, 6, 0, 16, 62, 126, 255] mixed z <| dm z z <| dr (p_fd fld_92_0 z) z <| dr (p_ld ty_9 z z z) z <| ?_
    obtain ⟨r9, e10, H⟩ := ob H
    refine drh (p_ch (ids := [1, 2, 6]) (machine_names_fresh_ok e10) ent_89 z z (rc z z (rc z rm (rc z z rn))) (rc z z (rc z z (rc z rm rn))) z ⟨z, ⟨z, ⟨z, q⟩⟩⟩ (by decide) z z z (oc z (oc om (oc z on))) (oc z (oc z (oc om on))) z) z <| dr (p_fd fld_92_1 z) z <| dr (p_ld ty_3 z z z) z <| ?_
    obtain ⟨r11, e12, H⟩ := ob H
    refine dr (p_c (machine_within_ok e12) ent_64 z z z) z <| dr (p_bs (f := eT) [.tmp 28, .tmp 31] [r9.1, r11] Tryz.underlying167 ty_4.size zr_4 z z z z (el1 (.one _) z (el1 (.one _) z el0)) z) z <| ?_
    obtain ⟨r13, e14, H⟩ := ob H
    refine drh (p_ch (ids := [0]) (machine_checker_must_ok e14) ent_84 z z (rc z rdd rn) (rc z rdd rn) z ⟨z, q⟩ (by decide) z z z (oc od on) (oc od on) z) z <| ?_
    refine wd_nil ?_ (by kernel_rfl)
    refine e_bn (e_n ?_)
    refine wc_region z <| l (p_add z z) z <| lm z z <| ne <| ?_
    exact ⟨w64 (v3 + 1), r13, r9.2, H, en [(0, 0), (1, 1), (6, 2)] (ws z z z (ws z z z (wd z (wd z (wd z w0))))) z (hc z (hs z z z (hr z h0)))⟩
  refine c_f z b6 <| wc_exit <| ?_
  refine e_te (e_te (e_h ?_))
  obtain rfl := sm H
  exact fin (Or.inl z) rs0 (re2 [(0, 0)] q z (hc z h0))

def bits_wide (x0 : Int) : Option Bool :=
  some ((decide (1 ≤ x0)) && (decide (x0 ≤ 64)))
theorem bits_wide_ok {x0 : Int} {R : Bool} (H : bits_wide x0 = some R) : FnOk Tryz.prog K0 117 [(aN .i64 x0)] [] (aT R) [] := by
  refine fn_w (nt := 9) (np := 0) Tryz.func117 z z (by simp) (np_of2 z) <| ?_
  unfold bits_wide at H
  refine sgr z <| la z z <| ne <| sgr z <| lm z z <| l (p_geq z z) z <| lm z z <| lw z (Grd.plain _) z [0] z (s1 strip_same s0) (fun hw => p_mv z) ⟨z, q⟩ (by exact q) z z <| lw z (Grd.plain _) z [6] z (s1 (strip_when id) s0) (fun hw => p_leq z z) ⟨z, q⟩ (by exact q) z z <| l (p_pkA z z q (strip_when (wt))) z <| la z z <| ne <| wc_ret <| ?_
  obtain rfl := sm H
  exact fin (Or.inr z) (rs1 (rv z) rs0) (re [] (.dat) z h0)

def bits_Mask (x0 : Int) : Option Int :=
  (bits_wide x0).bind fun r1 =>
  bif !r1 then
    some 0
  else
    asr (decide (0 ≤ w64 (64 - x0))) <|
    some (sShr .u64 18446744073709551615 (w64 (64 - x0)))
theorem bits_Mask_ok {x0 : Int} {R : Int} (H : bits_Mask x0 = some R) : FnOk Tryz.prog K0 98 [(aN .i64 x0)] [] (aN .u64 R) [] := by
  refine fn_w (nt := 9) (np := 0) Tryz.func98 z z (by simp) (np_of2 z) <| ?_
  unfold bits_Mask at H
  refine sgr z <| la z z <| ne <| wc_seq <| sgr z <| lm z z <| ?_
  obtain ⟨r1, e2, H⟩ := ob H
  refine l (p_c (bits_wide_ok e2) ent_117 z z z) z <| l (p_not z) z <| ne <| ?_
  rcases cn H with ⟨b3, H⟩ | ⟨b3, H⟩
  · refine c_t z b3 ?_
    refine sgr z <| la z z <| ne <| wc_ret <| e_tr <| ?_
    obtain rfl := sm H
    exact fin (Or.inr z) (rs1 (rv z) rs0) (re [] (.dat) z h0)
  refine c_f z b3 <| se <| sgr z <| lm z z <| l (p_sub z z) z <| ?_
  obtain ⟨e4, H⟩ := as_ H
  refine l (p_shr z z e4) z <| la z z <| ne <| wc_ret <| ?_
  obtain rfl := sm H
  exact fin (Or.inr z) (rs1 (rv z) rs0) (re [] (.dat) z h0)

def machine_field_k1 : Int → Option Int
  | v1 =>
    some v1
def machine_field_b2 (x0 : MachOperand) (k1 : Int → Option Int) (rec2 : Int × Int → Option Int) : Int × Int → Option Int
  | (v2, v3) =>
    bif decide (v3 < (x0.Pieces.length : Int)) then
      (ix x0.Pieces v3).bind fun r5 =>
      rec2 ((w64 (v2 + r5.Len), w64 (v3 + 1)))
    else
      k1 v2
def machine_field (x0 : MachOperand) : Option Int :=
  jn machine_field_k1 fun k1 =>
  lp (machine_field_b2 x0 k1) (x0.Pieces.length + 1) (0, 0)
theorem machine_field_ok {x0 : MachOperand} {R : Int} (H : machine_field x0 = some R) : FnOk Tryz.prog K0 91 [(aA (encMachOperand x0))] [] (aN .i64 R) [] := by
  refine fn_w (nt := 18) (np := 0) Tryz.func91 z z (by simp) (np_of2 z) <| ?_
  unfold machine_field at H
  refine sgr z <| lh (p_bx 0 z q z) z <| la z z <| ne <| ?_
  refine w_jn1 H (fun v1 => ⟨[(2, (aN .i64 v1))], []⟩) ?_ ?_
  · intro v1 H
    rw [machine_field_k1] at H
    refine sgr z <| lm z z <| la z z <| ne <| wc_ret <| ?_
    obtain rfl := sm H
    exact fin (Or.inr z) (rs1 (rv z) rs0) (re [] (.dat) z h0)
  intro H
  refine sgr z <| l (p_fd fld_107_4 z) z <| l (p_ld ty_105 z z z) z <| l (p_lenL Tryz.underlying105 z) z <| lm z z <| ne <| wc_block <| w_lp2 H (fun v2 v3 => ⟨[(2, (aN .i64 v2)), (6, (aL 2 encMachPiece x0.Pieces)), (7, (aN .i64 (x0.Pieces.length : Int))), (8, (aN .i64 v3))], []⟩) (en [] (wd z (wd z (wd z (wd z w0)))) z h0) <| ?_
  intro n2 v2 v3 H
  rw [machine_field_b2] at H
  refine sgr z <| l (p_lss z z) z <| ne <| wc_seq <| ?_
  rcases cn H with ⟨b4, H⟩ | ⟨b4, H⟩
  · refine c_t z b4 ?_
    refine se <| wc_seq <| wc_block <| sgr z <| ?_
    obtain ⟨r5, e6, H⟩ := ob H
    refine l (p_ixL Tryz.underlying105 ty_110.size z z e6) z <| l (p_ldA (ds := encMachPiece r5) ty_110 z z z) z <| lh (p_al 2 zr_110 z) z <| l0h (p_stA (ds := (encMachPiece r5).map .data) ty_110 z z z z z z) <| ne <| wc_region z <| lm z z <| l (p_fd fld_110_1 z) z <| l (p_ld ty_3 z z z) z <| l (p_add z z) z <| la z z <| wl_nil <| ?_
    refine e_bn (e_n ?_)
    refine wc_region z <| l (p_add z z) z <| lm z z <| ne <| ?_
    exact ⟨w64 (v2 + r5.Len), w64 (v3 + 1), H, en [] (wd z (wd z (wd z (wd z w0)))) z h0⟩
  refine c_f z b4 <| wc_exit <| ?_
  refine e_te (e_te (e_h (e_n ?_)))
  exact ⟨v2, H, en [] (wd z w0) z h0⟩

def machine_checker_operand_k2 : Int × machine_checker → Option (Int × machine_checker)
  | (v5, v6) =>
    some (v5, v6)
def machine_checker_operand_k3 (r1 : MachOperand) (v3 : Int) (v4 : machine_checker) (k2 : Int × machine_checker → Option (Int × machine_checker)) : Bool → Option (Int × machine_checker)
  | v30 =>
    bif v30 then
      (machine_field r1).bind fun r32 =>
      (machine_within r1.Scale 0 3).bind fun r34 =>
      (machine_checker_must v4 [r1.Bank == 0, r1.Tied == (-1), r34, decide (0 < r32), decide ((w64 (r32 + r1.Scale)) ≤ v4.Machine.Address)]).bind fun r36 =>
      k2 (v3, r36)
    else
      (machine_checker_must v4 [false]).bind fun r38 =>
      k2 (v3, r38)
def machine_checker_operand_k1 (x1 : MachInstr) (x2 : Int) (r1 : MachOperand) : Int × machine_checker → Option (Int × machine_checker)
  | (v3, v4) =>
    jn machine_checker_operand_k2 fun k2 =>
    bif r1.Kind == 1 then
      (machine_within r1.Bank 0 (w64 ((v4.Machine.Banks.length : Int) - 1))).bind fun r8 =>
      (machine_checker_must v4 [r8, r1.Scale == 0]).bind fun r10 =>
      bif !r10.ok then
        some (0, r10)
      else
        bif r1.Tied == (-1) then
          (machine_field r1).bind fun r14 =>
          (bif (true && ((decide (6 < r14)) == false)) then ix r10.Machine.Banks r1.Bank else some default).bind fun r16 =>
          asr (!((true && ((decide (6 < r14)) == false))) || decide (0 ≤ r14)) <|
          (machine_checker_must r10 [decide (0 < r14), (decide (6 < r14)) || (decide ((r16.Regs.length : Int) ≤ (sShl .i64 1 r14)))]).bind fun r19 =>
          k2 (v3, r19)
        else
          (machine_within r1.Tied 0 (w64 (x2 - 1))).bind fun r21 =>
          (machine_checker_must r10 [r21, (r1.Pieces.length : Int) == 0]).bind fun r23 =>
          bif r23.ok then
            (ix x1.Operands r1.Tied).bind fun r26 =>
            (machine_checker_must r23 [r26.Kind == 1, r26.Bank == r1.Bank, r26.Tied == (-1)]).bind fun r28 =>
            k2 (v3, r28)
          else
            k2 (v3, r23)
    else
      jn (machine_checker_operand_k3 r1 v3 v4 k2) fun k3 =>
      bif r1.Kind == 2 then k3 (r1.Kind == 2) else bif r1.Kind == 3 then k3 (r1.Kind == 3) else k3 (r1.Kind == 4)
def machine_checker_operand_b4 (r1 : MachOperand) (k1 : Int × machine_checker → Option (Int × machine_checker)) (rec4 : Int × Int × machine_checker → Option (Int × machine_checker)) : Int × Int × machine_checker → Option (Int × machine_checker)
  | (v42, v43, v44) =>
    bif decide (v43 < (r1.Pieces.length : Int)) then
      (ix r1.Pieces v43).bind fun r46 =>
      (machine_within r46.Len 1 (w64 (8 * v44.Machine.Word))).bind fun r48 =>
      (machine_checker_must v44 [r48, decide (0 ≤ r46.At), decide (r46.At ≤ (w64 ((w64 (8 * v44.Machine.Word)) - r46.Len)))]).bind fun r50 =>
      bif !r50.ok then
        some (0, r50)
      else
        (bits_Mask r46.Len).bind fun r53 =>
        asr (decide (0 ≤ r46.At)) <|
        (machine_checker_must r50 [(bAnd .u64 v42 (sShl .u64 r53 r46.At)) == 0]).bind fun r56 =>
        rec4 ((bOr .u64 v42 (sShl .u64 r53 r46.At), w64 (v43 + 1), r56))
    else
      k1 (v42, v44)
def machine_checker_operand (x0 : machine_checker) (x1 : MachInstr) (x2 : Int) : Option (Int × machine_checker) :=
  (ix x1.Operands x2).bind fun r1 =>
  jn (machine_checker_operand_k1 x1 x2 r1) fun k1 =>
  lp (machine_checker_operand_b4 r1 k1) (r1.Pieces.length + 1) (0, 0, x0)
theorem machine_checker_operand_ok {x0 : machine_checker} {x1 : MachInstr} {x2 : Int} {R : Int × machine_checker} (H : machine_checker_operand x0 x1 x2 = some R) : FnOk Tryz.prog K0 104 [(.ptr 0 0), (aA (encMachInstr x1)), (aN .i64 x2)] [(0, (oD 150 (encmachine_checker x0)))] (aN .u64 R.1) [(0, (oD 150 (encmachine_checker R.2)))] := by
  refine fn_w (nt := 198) (np := 1) Tryz.func104 z z (by simp) (np_of2 z) <| ?_
  unfold machine_checker_operand at H
  refine sgr z <| lh (p_bx 1 z q z) z <| la z z <| ne <| sgr z <| l (p_fd fld_61_3 z) z <| l (p_ld ty_58 z z z) z <| lm z z <| ?_
  obtain ⟨r1, e2, H⟩ := ob H
  refine l (p_ixL Tryz.underlying58 ty_107.size z z e2) z <| l (p_ldA (ds := encMachOperand r1) ty_107 z z z) z <| lh (p_al 2 zr_107 z) z <| l0h (p_stA (ds := (encMachOperand r1).map .data) ty_107 z z z z z z) <| ne <| ?_
  refine w_jn2 H (fun v3 v4 => ⟨[(0, (.ptr 0 0)), (2, (aN .i64 x2)), (4, (.ptr 1 0)), (6, (aN .u64 v3)), (7, (.ptr 2 0))], [(0, (oD 150 (encmachine_checker v4))), (1, (oD 61 (encMachInstr x1))), (2, (oD 107 (encMachOperand r1)))]⟩) ?_ ?_
  · intro v3 v4 H
    rw [machine_checker_operand_k1] at H
    refine w_jn2 H (fun v5 v6 => ⟨[(6, (aN .u64 v5))], [(0, (oD 150 (encmachine_checker v6)))]⟩) ?_ ?_
    · intro v5 v6 H
      rw [machine_checker_operand_k2] at H
      refine sgr z <| lm z z <| la z z <| ne <| wc_ret <| ?_
      obtain rfl := sm H
      exact fin (Or.inr z) (rs1 (rv z) rs0) (re [(0, 0)] (.dat) z (hc z h0))
    intro H
    refine sgr z <| l (p_fd fld_107_1 z) z <| l (p_ld ty_5 z z z) z <| ne <| wc_block <| sgr z <| l (p_eql z z) z <| la z z <| ne <| ?_
    rcases cn H with ⟨b7, H⟩ | ⟨b7, H⟩
    · refine c_t z b7 ?_
      refine wc_seq <| wc_draw [0, 0, 2, 0, 8, 24, 56, 120, 248, 504, 1022, 0, 2048, 6144, 16382, 32767] mixed z <| dm z z <| dr (p_fd fld_107_2 z) z <| dr (p_ld ty_3 z z z) z <| dm z z <| dr (p_nl z) z <| dr (p_fd fld_150_0 z) z <| dr (p_fd fld_27_4 z) z <| dr (p_ld ty_23 z z z) z <| dr (p_lenL Tryz.underlying23 z) z <| dr (p_sub z z) z <| ?_
      obtain ⟨r8, e9, H⟩ := ob H
      refine dr (p_c (machine_within_ok e9) ent_64 z z z) z <| dr (p_fd fld_107_3 z) z <| dr (p_ld ty_3 z z z) z <| dr (p_eql z z) z <| dr (p_bs (f := eT) [.tmp 92, .tmp 95] [r8, r1.Scale == 0] Tryz.underlying167 ty_4.size zr_4 z z z z (el1 (.one _) z (el1 (.one _) z el0)) z) z <| ?_
      obtain ⟨r10, e11, H⟩ := ob H
      refine drh (p_ch (ids := [0]) (machine_checker_must_ok e11) ent_84 z z (rc z rdd rn) (rc z rdd rn) z ⟨z, q⟩ (by decide) z z z (oc od on) (oc od on) z) z <| ?_
      refine wd_nil ?_ (by kernel_rfl)
      refine e_n <| wc_seq <| sgr z <| lm z z <| l (p_nl z) z <| l (p_fd fld_150_1 z) z <| l (p_ld ty_4 z z z) z <| l (p_not z) z <| ne <| ?_
      rcases cn H with ⟨b12, H⟩ | ⟨b12, H⟩
      · refine c_t z b12 ?_
        refine sgr z <| la z z <| ne <| wc_ret <| ?_
        refine e_tr (e_br (e_tr ?_))
        obtain rfl := sm H
        exact fin (Or.inr z) (rs1 (rv z) rs0) (re [(0, 0)] (.dat) z (hc z h0))
      refine c_f z b12 <| se <| wc_seq <| sgr z <| l (p_fd fld_107_5 z) z <| l (p_ld ty_3 z z z) z <| l (p_eql z z) z <| ne <| ?_
      rcases cn H with ⟨b13, H⟩ | ⟨b13, H⟩
      · refine c_t z b13 ?_
        refine sgr z <| l (p_ldB (ds := (encMachOperand r1).map .data) ty_107 z z z z) z <| ?_
        obtain ⟨r14, e15, H⟩ := ob H
        refine l (p_c (machine_field_ok e15) ent_91 z z z) z <| la z z <| ne <| wc_seq <| wc_draw [0, 0, 2, 0, 8, 24, 56, 120, 248, 504, 1016, 56, 2104, 8184, 16376, 32760, 65528, 56, 131128, 524280, 1048568, 2097150, 4194303] mixed z <| dm z z <| dm z z <| dr (p_gtr z z) z <| dm z z <| dr (p_gtr z z) z <| dm z z <| dw z (Grd.plain _) z [0] z (s1 strip_same s0) (fun hw => p_mv z) ⟨z, q⟩ (by exact q) z <| dw z (Grd.plain _) z [114] z (s1 (strip_when id) s0) (fun hw => p_nl z) ⟨z, q⟩ (by exact q) z <| dw z (Grd.plain _) z [115] z (s1 (strip_when id) s0) (fun hw => p_fd fld_150_0 z) ⟨z, q⟩ (by exact q) z <| dw z (Grd.plain _) z [116] z (s1 (strip_when id) s0) (fun hw => p_fd fld_27_4 z) ⟨z, q⟩ (by exact q) z <| dw z (Grd.plain _) z [117] z (s1 (strip_when id) s0) (fun hw => p_ld ty_23 z z z) ⟨z, q⟩ (by exact ⟨z, q⟩) z <| dw z (Grd.plain _) z [7] z (s1 strip_same s0) (fun hw => p_fd fld_107_2 z) ⟨z, q⟩ (by exact q) z <| dw z (Grd.plain _) z [119] z (s1 (strip_when id) s0) (fun hw => p_ld ty_3 z z z) ⟨z, q⟩ (by exact ⟨z, q⟩) z <| ?_
        obtain ⟨r16, e17, H⟩ := ob H
        refine dw z (Grd.plain _) z [118, 120] z (s1 (strip_when id) (s1 (strip_when id) s0)) (fun hw => p_ixL Tryz.underlying23 ty_97.size z z (bt hw e17)) ⟨z, ⟨z, q⟩⟩ (by exact q) z <| dw z (Grd.plain _) z [121] z (s1 (strip_when id) s0) (fun hw => p_fdP fld_97_1 z) ⟨z, q⟩ (by exact q) z <| dw z (Grd.plain _) z [122] z (s1 (strip_when id) s0) (fun hw => p_ldP ty_29 z z) ⟨z, q⟩ (by exact q) z <| dw z (Grd.plain _) z [123] z (s1 (strip_when id) s0) (fun hw => p_lenL Tryz.underlying29 z) ⟨z, q⟩ (by exact q) z <| dw z (Grd.plain _) z [11] z (s1 strip_same s0) (fun hw => p_mv z) ⟨z, q⟩ (by exact q) z <| ?_
        obtain ⟨e18, H⟩ := as_ H
        refine dw z (Grd.plain _) z [125] z (s1 (strip_when id) s0) (fun hw => p_shl z z (bi hw e18)) ⟨z, q⟩ (by exact q) z <| dw z (Grd.plain _) z [124, 126] z (s1 (strip_when id) (s1 (strip_when id) s0)) (fun hw => p_leq z z) ⟨z, ⟨z, q⟩⟩ (by exact q) z <| dr (p_pkO z z q (strip_when (wf))) z <| dr (p_bs (f := eT) [.tmp 110, .tmp 128] [decide (0 < r14), (decide (6 < r14)) || (decide ((r16.Regs.length : Int) ≤ (sShl .i64 1 r14)))] Tryz.underlying167 ty_4.size zr_4 z z z z (el1 (.one _) z (el1 (.one _) z el0)) z) z <| ?_
        obtain ⟨r19, e20, H⟩ := ob H
        refine drh (p_ch (ids := [0]) (machine_checker_must_ok e20) ent_84 z z (rc z rdd rn) (rc z rdd rn) z ⟨z, q⟩ (by decide) z z z (oc od on) (oc od on) z) z <| ?_
        refine wd_nil ?_ (by kernel_rfl)
        refine e_n <| wc_exit <| ?_
        refine e_te (e_h (e_n ?_))
        exact ⟨v3, r19, H, en [(0, 0)] (wd z w0) z (hc z h0)⟩
      refine c_f z b13 <| se <| wc_seq <| wc_draw [0, 0, 2, 0, 8, 30, 0, 64, 192, 448, 1022, 2047] mixed z <| dm z z <| dr (p_fd fld_107_5 z) z <| dr (p_ld ty_3 z z z) z <| dm z z <| dr (p_sub z z) z <| ?_
      obtain ⟨r21, e22, H⟩ := ob H
      refine dr (p_c (machine_within_ok e22) ent_64 z z z) z <| dr (p_fd fld_107_4 z) z <| dr (p_ld ty_105 z z z) z <| dr (p_lenL Tryz.underlying105 z) z <| dr (p_eql z z) z <| dr (p_bs (f := eT) [.tmp 136, .tmp 140] [r21, (r1.Pieces.length : Int) == 0] Tryz.underlying167 ty_4.size zr_4 z z z z (el1 (.one _) z (el1 (.one _) z el0)) z) z <| ?_
      obtain ⟨r23, e24, H⟩ := ob H
      refine drh (p_ch (ids := [0]) (machine_checker_must_ok e24) ent_84 z z (rc z rdd rn) (rc z rdd rn) z ⟨z, q⟩ (by decide) z z z (oc od on) (oc od on) z) z <| ?_
      refine wd_nil ?_ (by kernel_rfl)
      refine e_n <| sgr z <| lm z z <| l (p_nl z) z <| l (p_fd fld_150_1 z) z <| l (p_ld ty_4 z z z) z <| ne <| ?_
      rcases cn H with ⟨b25, H⟩ | ⟨b25, H⟩
      · refine c_t z b25 ?_
        refine sgr z <| l (p_fd fld_61_3 z) z <| l (p_ld ty_58 z z z) z <| l (p_fd fld_107_5 z) z <| l (p_ld ty_3 z z z) z <| ?_
        obtain ⟨r26, e27, H⟩ := ob H
        refine l (p_ixL Tryz.underlying58 ty_107.size z z e27) z <| l (p_ldA (ds := encMachOperand r26) ty_107 z z z) z <| lh (p_al 4 zr_107 z) z <| l0h (p_stA (ds := (encMachOperand r26).map .data) ty_107 z z z z z z) <| ne <| wc_region z <| lm z z <| l (p_fd fld_107_1 z) z <| l (p_ld ty_5 z z z) z <| l (p_eql z z) z <| l (p_fd fld_107_2 z) z <| l (p_ld ty_3 z z z) z <| l (p_fd fld_107_2 z) z <| l (p_ld ty_3 z z z) z <| l (p_eql z z) z <| l (p_fd fld_107_5 z) z <| l (p_ld ty_3 z z z) z <| l (p_eql z z) z <| l (p_bs (f := eT) [.tmp 156, .tmp 161, .tmp 164] [r26.Kind == 1, r26.Bank == r1.Bank, r26.Tied == (-1)] Tryz.underlying167 ty_4.size zr_4 z z z z (el1 (.one _) z (el1 (.one _) z (el1 (.one _) z el0))) z) z <| ?_
        obtain ⟨r28, e29, H⟩ := ob H
        refine lh (p_ch (ids := [0]) (machine_checker_must_ok e29) ent_84 z z (rc z rdd rn) (rc z rdd rn) z ⟨z, q⟩ (by decide) z z z (oc od on) (oc od on) z) z <| wl_nil <| ?_
        refine e_bn (e_n ?_)
        exact ⟨v3, r28, H, en [(0, 0)] (wd z w0) z (hc z h0)⟩
      refine c_f z b25 <| wc_skip <| ?_
      refine e_bn (e_n ?_)
      exact ⟨v3, r23, H, en [(0, 0)] (wd z w0) z (hc z h0)⟩
    refine c_f z b7 <| ?_
    refine w_jn1 H (fun v30 => ⟨[(0, (.ptr 0 0)), (6, (aN .u64 v3)), (7, (.ptr 2 0)), (167, (aT v30))], [(0, (oD 150 (encmachine_checker v4))), (2, (oD 107 (encMachOperand r1)))]⟩) ?_ ?_
    · intro v30 H
      rw [machine_checker_operand_k3] at H
      rcases cn H with ⟨b31, H⟩ | ⟨b31, H⟩
      · refine c_t z b31 ?_
        refine sgr z <| l (p_ldB (ds := (encMachOperand r1).map .data) ty_107 z z z z) z <| ?_
        obtain ⟨r32, e33, H⟩ := ob H
        refine l (p_c (machine_field_ok e33) ent_91 z z z) z <| la z z <| ne <| wc_draw [0, 0, 2, 6, 0, 16, 48, 0, 128, 384, 0, 1024, 0, 0, 8192, 28672, 0, 65536, 196608, 458752, 983040, 2093056, 4194302, 8388607] mixed z <| dm z z <| dr (p_fd fld_107_2 z) z <| dr (p_ld ty_3 z z z) z <| dr (p_eql z z) z <| dr (p_fd fld_107_5 z) z <| dr (p_ld ty_3 z z z) z <| dr (p_eql z z) z <| dr (p_fd fld_107_3 z) z <| dr (p_ld ty_3 z z z) z <| ?_
        obtain ⟨r34, e35, H⟩ := ob H
        refine dr (p_c (machine_within_ok e35) ent_64 z z z) z <| dm z z <| dr (p_gtr z z) z <| dm z z <| dr (p_fd fld_107_3 z) z <| dr (p_ld ty_3 z z z) z <| dr (p_add z z) z <| dm z z <| dr (p_nl z) z <| dr (p_fd fld_150_0 z) z <| dr (p_fd fld_27_2 z) z <| dr (p_ld ty_3 z z z) z <| dr (p_leq z z) z <| dr (p_bs (f := eT) [.tmp 176, .tmp 179, .tmp 182, .tmp 184, .tmp 194] [r1.Bank == 0, r1.Tied == (-1), r34, decide (0 < r32), decide ((w64 (r32 + r1.Scale)) ≤ v4.Machine.Address)] Tryz.underlying167 ty_4.size zr_4 z z z z (el1 (.one _) z (el1 (.one _) z (el1 (.one _) z (el1 (.one _) z (el1 (.one _) z el0))))) z) z <| ?_
        obtain ⟨r36, e37, H⟩ := ob H
        refine drh (p_ch (ids := [0]) (machine_checker_must_ok e37) ent_84 z z (rc z rdd rn) (rc z rdd rn) z ⟨z, q⟩ (by decide) z z z (oc od on) (oc od on) z) z <| ?_
        refine wd_nil ?_ (by kernel_rfl)
        refine e_bn (e_n ?_)
        exact ⟨v3, r36, H, en [(0, 0)] (wd z w0) z (hc z h0)⟩
      refine c_f z b31 <| wc_region z <| lm z z <| l (p_bs (f := eT) [.const (Value.bool false)] [false] Tryz.underlying167 ty_4.size zr_4 z z z z (el1 (.one _) z el0) z) z <| ?_
      obtain ⟨r38, e39, H⟩ := ob H
      refine lh (p_ch (ids := [0]) (machine_checker_must_ok e39) ent_84 z z (rc z rdd rn) (rc z rdd rn) z ⟨z, q⟩ (by decide) z z z (oc od on) (oc od on) z) z <| wl_nil <| ?_
      refine e_bn (e_n ?_)
      exact ⟨v3, r38, H, en [(0, 0)] (wd z w0) z (hc z h0)⟩
    intro H
    refine sgr z <| l (p_eql z z) z <| la z z <| ne <| ?_
    rcases cn H with ⟨b40, H⟩ | ⟨b40, H⟩
    · refine c_t z b40 ?_
      refine se <| ?_
      exact ⟨r1.Kind == 2, H, en [(0, 0), (2, 2)] (ws z z z (wd z (ws z z z (wd z w0)))) z (hc z (hc z h0))⟩
    refine c_f z b40 <| sgr z <| l (p_eql z z) z <| la z z <| ne <| ?_
    rcases cn H with ⟨b41, H⟩ | ⟨b41, H⟩
    · refine c_t z b41 ?_
      refine se <| ?_
      exact ⟨r1.Kind == 3, H, en [(0, 0), (2, 2)] (ws z z z (wd z (ws z z z (wd z w0)))) z (hc z (hc z h0))⟩
    refine c_f z b41 <| wc_region z <| l (p_eql z z) z <| la z z <| ne <| ?_
    exact ⟨r1.Kind == 4, H, en [(0, 0), (2, 2)] (ws z z z (wd z (ws z z z (wd z w0)))) z (hc z (hc z h0))⟩
  intro H
  refine sgr z <| l (p_fd fld_107_4 z) z <| l (p_ld ty_105 z z z) z <| l (p_lenL Tryz.underlying105 z) z <| lm z z <| ne <| wc_block <| w_lp3 H (fun v42 v43 v44 => ⟨[(0, (.ptr 0 0)), (2, (aN .i64 x2)), (4, (.ptr 1 0)), (6, (aN .u64 v42)), (7, (.ptr 2 0)), (20, (aL 2 encMachPiece r1.Pieces)), (21, (aN .i64 (r1.Pieces.length : Int))), (22, (aN .i64 v43))], [(0, (oD 150 (encmachine_checker v44))), (1, (oD 61 (encMachInstr x1))), (2, (oD 107 (encMachOperand r1)))]⟩) (en [(0, 0), (1, 1), (2, 2)] (ws z z z (wd z (ws z z z (wd z (ws z z z (wd z (wd z (wd z w0)))))))) z (hc z (hc z (hc z h0)))) <| ?_
  intro n4 v42 v43 v44 H
  rw [machine_checker_operand_b4] at H
  refine sgr z <| l (p_lss z z) z <| ne <| wc_seq <| ?_
  rcases cn H with ⟨b45, H⟩ | ⟨b45, H⟩
  · refine c_t z b45 ?_
    refine se <| wc_seq <| wc_block <| sgr z <| ?_
    obtain ⟨r46, e47, H⟩ := ob H
    refine l (p_ixL Tryz.underlying105 ty_110.size z z e47) z <| l (p_ldA (ds := encMachPiece r46) ty_110 z z z) z <| lh (p_al 4 zr_110 z) z <| l0h (p_stA (ds := (encMachPiece r46).map .data) ty_110 z z z z z z) <| ne <| wc_seq <| wc_draw [0, 0, 2, 0, 8, 24, 56, 120, 248, 510, 0, 1024, 3072, 0, 8192, 0, 32768, 98304, 229376, 491520, 1015808, 0, 2097152, 8355840, 16769024, 33554430, 67108863] mixed z <| dm z z <| dr (p_fd fld_110_1 z) z <| dr (p_ld ty_3 z z z) z <| dm z z <| dr (p_nl z) z <| dr (p_fd fld_150_0 z) z <| dr (p_fd fld_27_1 z) z <| dr (p_ld ty_3 z z z) z <| dr (p_mul z z) z <| ?_
    obtain ⟨r48, e49, H⟩ := ob H
    refine dr (p_c (machine_within_ok e49) ent_64 z z z) z <| dr (p_fd fld_110_0 z) z <| dr (p_ld ty_3 z z z) z <| dr (p_geq z z) z <| dr (p_fd fld_110_0 z) z <| dr (p_ld ty_3 z z z) z <| dm z z <| dr (p_nl z) z <| dr (p_fd fld_150_0 z) z <| dr (p_fd fld_27_1 z) z <| dr (p_ld ty_3 z z z) z <| dr (p_mul z z) z <| dr (p_fd fld_110_1 z) z <| dr (p_ld ty_3 z z z) z <| dr (p_sub z z) z <| dr (p_leq z z) z <| dr (p_bs (f := eT) [.tmp 35, .tmp 38, .tmp 50] [r48, decide (0 ≤ r46.At), decide (r46.At ≤ (w64 ((w64 (8 * v44.Machine.Word)) - r46.Len)))] Tryz.underlying167 ty_4.size zr_4 z z z z (el1 (.one _) z (el1 (.one _) z (el1 (.one _) z el0))) z) z <| ?_
    obtain ⟨r50, e51, H⟩ := ob H
    refine drh (p_ch (ids := [0]) (machine_checker_must_ok e51) ent_84 z z (rc z rdd rn) (rc z rdd rn) z ⟨z, q⟩ (by decide) z z z (oc od on) (oc od on) z) z <| ?_
    refine wd_nil ?_ (by kernel_rfl)
    refine e_n <| wc_seq <| sgr z <| lm z z <| l (p_nl z) z <| l (p_fd fld_150_1 z) z <| l (p_ld ty_4 z z z) z <| l (p_not z) z <| ne <| ?_
    rcases cn H with ⟨b52, H⟩ | ⟨b52, H⟩
    · refine c_t z b52 ?_
      refine sgr z <| la z z <| ne <| wc_ret <| ?_
      refine e_tr (e_br (e_tr (e_tr (e_br (e_tr ?_)))))
      obtain rfl := sm H
      exact fin (Or.inr z) (rs1 (rv z) rs0) (re [(0, 0)] (.dat) z (hc z h0))
    refine c_f z b52 <| se <| wc_seq <| wc_draw [0, 1, 3, 0, 8, 31, 63] mixed z <| dr (p_fd fld_110_1 z) z <| dr (p_ld ty_3 z z z) z <| ?_
    obtain ⟨r53, e54, H⟩ := ob H
    refine dr (p_c (bits_Mask_ok e54) ent_98 z z z) z <| dr (p_fd fld_110_0 z) z <| dr (p_ld ty_3 z z z) z <| ?_
    obtain ⟨e55, H⟩ := as_ H
    refine dr (p_shl z z e55) z <| da z z <| ?_
    refine wd_nil ?_ (by kernel_rfl)
    refine e_n <| sgr z <| lm z z <| lm z z <| lm z z <| l (p_and z z) z <| l (p_eql z z) z <| l (p_bs (f := eT) [.tmp 68] [(bAnd .u64 v42 (sShl .u64 r53 r46.At)) == 0] Tryz.underlying167 ty_4.size zr_4 z z z z (el1 (.one _) z el0) z) z <| ?_
    obtain ⟨r56, e57, H⟩ := ob H
    refine lh (p_ch (ids := [0]) (machine_checker_must_ok e57) ent_84 z z (rc z rdd rn) (rc z rdd rn) z ⟨z, q⟩ (by decide) z z z (oc od on) (oc od on) z) z <| ne <| wc_region z <| lm z z <| lm z z <| l (p_or z z) z <| la z z <| wl_nil <| ?_
    refine e_bn (e_n ?_)
    refine wc_region z <| l (p_add z z) z <| lm z z <| ne <| ?_
    exact ⟨bOr .u64 v42 (sShl .u64 r53 r46.At), w64 (v43 + 1), r56, H, en [(0, 0), (1, 1), (2, 2)] (ws z z z (wd z (ws z z z (wd z (ws z z z (wd z (wd z (wd z w0)))))))) z (hc z (hc z (hc z h0)))⟩
  refine c_f z b45 <| wc_exit <| ?_
  refine e_te (e_te (e_h (e_n ?_)))
  exact ⟨v42, v44, H, en [(0, 0), (1, 1), (2, 2)] (ws z z z (wd z (ws z z z (wd z (ws z z z w0))))) z (hc z (hc z (hc z h0)))⟩

def machine_wide (x0 : Machine) (x1 : MachOperand) : Option Int :=
  bif x1.Kind != 1 then
    some x0.Address
  else
    (ix x0.Banks x1.Bank).bind fun r2 =>
    (ix r2.Regs 0).bind fun r4 =>
    (ix x0.Regs r4).bind fun r6 =>
    some r6.Width
theorem machine_wide_ok {x0 : Machine} {x1 : MachOperand} {R : Int} (H : machine_wide x0 x1 = some R) : FnOk Tryz.prog K0 120 [(aA (encMachine x0)), (aA (encMachOperand x1))] [] (aN .i64 R) [] := by
  refine fn_w (nt := 24) (np := 0) Tryz.func120 z z (by simp) (np_of2 z) <| ?_
  unfold machine_wide at H
  refine sgr z <| lh (p_bx 0 z q z) z <| lh (p_bx 1 z q z) z <| la z z <| ne <| wc_seq <| sgr z <| l (p_fd fld_107_1 z) z <| l (p_ld ty_5 z z z) z <| l (p_neq z z) z <| ne <| ?_
  rcases cn H with ⟨b1, H⟩ | ⟨b1, H⟩
  · refine c_t z b1 ?_
    refine sgr z <| l (p_fd fld_27_2 z) z <| l (p_ld ty_3 z z z) z <| la z z <| ne <| wc_ret <| e_tr <| ?_
    obtain rfl := sm H
    exact fin (Or.inr z) (rs1 (rv z) rs0) (re [] (.dat) z h0)
  refine c_f z b1 <| se <| wc_seq <| wc_draw [0, 1, 0, 4, 0, 16, 60, 124, 252, 508, 1020, 2047, 4095, 8191, 16383] mixed z <| dr (p_fd fld_27_3 z) z <| dr (p_ld ty_22 z z z) z <| dr (p_fd fld_27_4 z) z <| dr (p_ld ty_23 z z z) z <| dr (p_fd fld_107_2 z) z <| dr (p_ld ty_3 z z z) z <| ?_
  obtain ⟨r2, e3, H⟩ := ob H
  refine dr (p_ixL Tryz.underlying23 ty_97.size z z e3) z <| dr (p_fdP fld_97_1 z) z <| dr (p_ldP ty_29 z z) z <| ?_
  obtain ⟨r4, e5, H⟩ := ob H
  refine dr (p_ixL Tryz.underlying29 ty_3.size z z e5) z <| dr (p_ldP ty_3 z z) z <| ?_
  obtain ⟨r6, e7, H⟩ := ob H
  refine dr (p_ixL Tryz.underlying22 ty_100.size z z e7) z <| dr (p_fdP fld_100_1 z) z <| dr (p_ldP ty_3 z z) z <| da z z <| ?_
  refine wd_nil ?_ (by kernel_rfl)
  refine e_n <| wc_ret <| ?_
  obtain rfl := sm H
  exact fin (Or.inr z) (rs1 (rv z) rs0) (re [] (.dat) z h0)

def machine_checker_variables_k2 : (List (ByteArray × Int)) → Option ((List (ByteArray × Int)))
  | v2 =>
    some v2
def machine_checker_variables_b3 (x0 : machine_checker) (x1 : MachInstr) (k2 : (List (ByteArray × Int)) → Option ((List (ByteArray × Int)))) (rec3 : Int × (List (ByteArray × Int)) → Option ((List (ByteArray × Int)))) : Int × (List (ByteArray × Int)) → Option ((List (ByteArray × Int)))
  | (v3, v4) =>
    bif decide (v3 < (x1.Operands.length : Int)) then
      (ix x1.Operands v3).bind fun r6 =>
      (machine_wide x0.Machine r6).bind fun r8 =>
      rec3 ((w64 (v3 + 1), mSet v4 r6.Name r8))
    else
      k2 v4
def machine_checker_variables_k1 (x0 : machine_checker) (x1 : MachInstr) : (List (ByteArray × Int)) → Option ((List (ByteArray × Int)))
  | v1 =>
    jn machine_checker_variables_k2 fun k2 =>
    lp (machine_checker_variables_b3 x0 x1 k2) (x1.Operands.length + 1) (0, v1)
def machine_checker_variables_b4 (x0 : machine_checker) (k1 : (List (ByteArray × Int)) → Option ((List (ByteArray × Int)))) (rec4 : Int × (List (ByteArray × Int)) → Option ((List (ByteArray × Int)))) : Int × (List (ByteArray × Int)) → Option ((List (ByteArray × Int)))
  | (v10, v11) =>
    bif decide (v10 < (x0.Machine.Regs.length : Int)) then
      (ix x0.Machine.Regs v10).bind fun r13 =>
      asr (decide ((⟨#[114, 46]⟩ : ByteArray).size + r13.Name.size ≤ 9223372036854775807)) <|
      rec4 ((w64 (v10 + 1), mSet v11 ((⟨#[114, 46]⟩ : ByteArray) ++ r13.Name) r13.Width))
    else
      k1 v11
def machine_checker_variables (x0 : machine_checker) (x1 : MachInstr) : Option ((List (ByteArray × Int))) :=
  jn (machine_checker_variables_k1 x0 x1) fun k1 =>
  lp (machine_checker_variables_b4 x0 k1) (x0.Machine.Regs.length + 1) ((0, mSet (([] : List (ByteArray × Int))) (⟨#[112, 99]⟩ : ByteArray) x0.Machine.Address))
theorem machine_checker_variables_ok {x0 : machine_checker} {x1 : MachInstr} {R : (List (ByteArray × Int))} (H : machine_checker_variables x0 x1 = some R) : FnOk Tryz.prog K0 105 [(.ptr 0 0), (aA (encMachInstr x1))] [(0, (oD 150 (encmachine_checker x0))), (1, .fresh)] (.mp 1) [(0, (oD 150 (encmachine_checker x0))), (1, (oM Value.string (dN .i64) R))] := by
  refine fn_w (nt := 52) (np := 1) Tryz.func105 z z (by simp) (np_of2 z) <| ?_
  unfold machine_checker_variables at H
  refine sgr z <| lh (p_bx 2 z q z) z <| la z z <| ne <| sgr z <| lh (p_mm 3 (dN .i64) Value.string z) z <| lm z z <| l (p_nl z) z <| l (p_fd fld_150_0 z) z <| l (p_fd fld_27_2 z) z <| l (p_ld ty_3 z z z) z <| l0h (p_mi (vd := (dN .i64)) (y0 := x0.Machine.Address) Tryz.underlying138 (keyS Tryz.underlying9) z z z z) <| lm z z <| la z z <| ne <| ?_
  refine w_jn1 H (fun v1 => ⟨[(0, (.ptr 0 0)), (3, (.ptr 2 0)), (5, (.mp 3))], [(0, (oD 150 (encmachine_checker x0))), (2, (oD 61 (encMachInstr x1))), (3, (oM Value.string (dN .i64) v1))]⟩) ?_ ?_
  · intro v1 H
    rw [machine_checker_variables_k1] at H
    refine w_jn1 H (fun v2 => ⟨[(5, (.mp 3))], [(0, (oD 150 (encmachine_checker x0))), (3, (oM Value.string (dN .i64) v2))]⟩) ?_ ?_
    · intro v2 H
      rw [machine_checker_variables_k2] at H
      refine sgr z <| lm z z <| la z z <| ne <| wc_ret <| ?_
      obtain rfl := sm H
      exact fin (Or.inr z) (rs1 (rv z) rs0) (re [(0, 0), (3, 1)] (.same z z) z (hc z (hs z rmm omm h0)))
    intro H
    refine sgr z <| l (p_fd fld_61_3 z) z <| l (p_ld ty_58 z z z) z <| l (p_lenL Tryz.underlying58 z) z <| lm z z <| ne <| wc_block <| w_lp2 H (fun v3 v4 => ⟨[(0, (.ptr 0 0)), (5, (.mp 3)), (35, (aL 6 encMachOperand x1.Operands)), (36, (aN .i64 (x1.Operands.length : Int))), (37, (aN .i64 v3))], [(0, (oD 150 (encmachine_checker x0))), (3, (oM Value.string (dN .i64) v4))]⟩) (en [(0, 0), (3, 3)] (ws z z z (ws z z z (wd z (wd z (wd z w0))))) z (hc z (hs z rmm omm h0))) <| ?_
    intro n3 v3 v4 H
    rw [machine_checker_variables_b3] at H
    refine sgr z <| l (p_lss z z) z <| ne <| wc_seq <| ?_
    rcases cn H with ⟨b5, H⟩ | ⟨b5, H⟩
    · refine c_t z b5 ?_
      refine se <| wc_seq <| wc_block <| sgr z <| ?_
      obtain ⟨r6, e7, H⟩ := ob H
      refine l (p_ixL Tryz.underlying58 ty_107.size z z e7) z <| l (p_ldA (ds := encMachOperand r6) ty_107 z z z) z <| lh (p_al 6 zr_107 z) z <| l0h (p_stA (ds := (encMachOperand r6).map .data) ty_107 z z z z z z) <| ne <| wc_draw [0, 0, 2, 0, 8, 24, 56, 0, 248, 511] mixed z <| dm z z <| dr (p_fd fld_107_0 z) z <| dr (p_ld ty_9 z z z) z <| dm z z <| dr (p_nl z) z <| dr (p_fd fld_150_0 z) z <| dr (p_ldB (ds := (encMachine x0.Machine).map .data) ty_27 z z z z) z <| dr (p_ldB (ds := (encMachOperand r6).map .data) ty_107 z z z z) z <| ?_
      obtain ⟨r8, e9, H⟩ := ob H
      refine dr (p_c (machine_wide_ok e9) ent_120 z z z) z <| dr0h (p_mu (vd := (dN .i64)) (y0 := r8) Tryz.underlying138 (keyS Tryz.underlying9) z z z z) <| ?_
      refine wd_nil ?_ (by kernel_rfl)
      refine e_bn (e_n ?_)
      refine wc_region z <| l (p_add z z) z <| lm z z <| ne <| ?_
      exact ⟨w64 (v3 + 1), mSet v4 r6.Name r8, H, en [(0, 0), (3, 3)] (ws z z z (ws z z z (wd z (wd z (wd z w0))))) z (hc z (hs z rmm omm h0))⟩
    refine c_f z b5 <| wc_exit <| ?_
    refine e_te (e_te (e_h (e_n ?_)))
    exact ⟨v4, H, en [(0, 0), (3, 3)] (ws z z z w0) z (hc z (hs z rmm omm h0))⟩
  intro H
  refine sgr z <| lm z z <| l (p_nl z) z <| l (p_fd fld_150_0 z) z <| l (p_fd fld_27_3 z) z <| l (p_ld ty_22 z z z) z <| l (p_lenL Tryz.underlying22 z) z <| lm z z <| ne <| wc_block <| w_lp2 H (fun v10 v11 => ⟨[(0, (.ptr 0 0)), (3, (.ptr 2 0)), (5, (.mp 3)), (21, (aL 4 encMachReg x0.Machine.Regs)), (22, (aN .i64 (x0.Machine.Regs.length : Int))), (23, (aN .i64 v10))], [(0, (oD 150 (encmachine_checker x0))), (2, (oD 61 (encMachInstr x1))), (3, (oM Value.string (dN .i64) v11))]⟩) (en [(0, 0), (2, 2), (3, 3)] (ws z z z (ws z z z (ws z z z (wd z (wd z (wd z w0)))))) z (hc z (hc z (hs z rmm omm h0)))) <| ?_
  intro n4 v10 v11 H
  rw [machine_checker_variables_b4] at H
  refine sgr z <| l (p_lss z z) z <| ne <| wc_seq <| ?_
  rcases cn H with ⟨b12, H⟩ | ⟨b12, H⟩
  · refine c_t z b12 ?_
    refine se <| wc_seq <| wc_block <| sgr z <| ?_
    obtain ⟨r13, e14, H⟩ := ob H
    refine l (p_ixL Tryz.underlying22 ty_100.size z z e14) z <| l (p_ldA (ds := encMachReg r13) ty_100 z z z) z <| lh (p_al 5 zr_100 z) z <| l0h (p_stA (ds := (encMachReg r13).map .data) ty_100 z z z z z z) <| ne <| wc_region z <| lm z z <| l (p_fd fld_100_0 z) z <| l (p_ld ty_9 z z z) z <| ?_
    obtain ⟨e15, H⟩ := as_ H
    refine l (p_sad z z e15) z <| l (p_fd fld_100_1 z) z <| l (p_ld ty_3 z z z) z <| l0h (p_mu (vd := (dN .i64)) (y0 := r13.Width) Tryz.underlying138 (keyS Tryz.underlying9) z z z z) <| wl_nil <| ?_
    refine e_bn (e_n ?_)
    refine wc_region z <| l (p_add z z) z <| lm z z <| ne <| ?_
    exact ⟨w64 (v10 + 1), mSet v11 ((⟨#[114, 46]⟩ : ByteArray) ++ r13.Name) r13.Width, H, en [(0, 0), (2, 2), (3, 3)] (ws z z z (ws z z z (ws z z z (wd z (wd z (wd z w0)))))) z (hc z (hc z (hs z rmm omm h0)))⟩
  refine c_f z b12 <| wc_exit <| ?_
  refine e_te (e_te (e_h (e_n ?_)))
  exact ⟨v11, H, en [(0, 0), (2, 2), (3, 3)] (ws z z z (ws z z z (ws z z z w0))) z (hc z (hc z (hs z rmm omm h0)))⟩

def term_nodes (x0 : Term) : Option Term :=
  some x0
theorem term_nodes_ok {x0 : Term} {R : Term} (H : term_nodes x0 = some R) : FnOk Tryz.prog K0 133 [(aA (encTermX x0))] [(0, .fresh)] (.fn (.func 136) [] [(.ptr 0 0)]) [(0, (oD 114 (encTermX R)))] := by
  refine fn_w (nt := 4) (np := 0) Tryz.func133 z z (by simp) (np_of2 z) <| ?_
  unfold term_nodes at H
  refine sgr z <| lh (p_bx 1 z q z) z <| la z z <| ne <| sgr z <| l (p_mf z z) z <| la z z <| ne <| wc_ret <| ?_
  obtain rfl := sm H
  exact fin (Or.inr z) (rs1 (rv z) rs0) (re [(1, 0)] (.same z z) z (hc z h0))

noncomputable def rg131_0_a : Code := cA (cB (cR (cL (cR (cR ((Tryz.f131.body).getD .skip))))))
noncomputable def rg131_0_d : Code := cD (cB (cR (cL (cR (cR ((Tryz.f131.body).getD .skip))))))

def rg131_0_y (x0 : Nat) (x1 : Int) (x2 : Term) : Option (Nat × Int) := asr (Nat.beq x0 0) <|
  some ((0, w64 (x1 + 1)))
theorem rg131_0_y_ok {x0 : Nat} {x1 : Int} {x2 : Term} {R : Nat × Int} (H : rg131_0_y x0 x1 x2 = some R) : YOk Tryz.prog K0 [(aA (encTermX x2))] [(0, (.live (.loop #[6] rg131_0_a rg131_0_d 10 [(3, (.ptr 1 0))] x0))), (1, (oC 3 [(aN .i64 x1)]))] (aT (Nat.beq R.1 0)) [(0, (.live (.loop #[6] rg131_0_a rg131_0_d 10 [(3, (.ptr 1 0))] R.1))), (1, (oC 3 [(aN .i64 R.2)]))] := by
  unfold rg131_0_y at H
  obtain ⟨hq, H⟩ := as_ H
  refine y_w (nt := 10) (np := 2) hq z (np_of2 z) z z z <| se <| ?_
  refine ⟨hp_lk z, ?_⟩
  refine wc_block <| wc_region z <| l (p_ld ty_3 z z z) z <| l (p_add z z) z <| l0h (p_st ty_3 z z z q z z) <| wl_nil <| e_bn <| ?_
  obtain rfl := sm H
  exact yfin 0 z z (re [(0, 0), (1, 1)] .dat z (hs z z z (hs z z z h0)))

def term_visit_k1 : Nat × Int → Option (Bool × Nat × Int)
  | (v4, v5) =>
    some (true, v4, v5)
def term_visit_b2 (x0 : Term) (self : Term → Nat → Int → Option (Bool × Nat × Int)) (k1 : Nat × Int → Option (Bool × Nat × Int)) (rec2 : Int × Nat × Int → Option (Bool × Nat × Int)) : Int × Nat × Int → Option (Bool × Nat × Int)
  | (v6, v7, v8) =>
    bif decide (v6 < (x0.Sub.length : Int)) then
      (ix x0.Sub v6).bind fun r10 =>
      (self r10 v7 v8).bind fun r12 =>
      bif !r12.1 then some (false, r12.2.1, r12.2.2) else rec2 ((w64 (v6 + 1), r12.2.1, r12.2.2))
    else
      k1 (v7, v8)
def term_visit_f (self : Term → Nat → Int → Option (Bool × Nat × Int)) (x0 : Term) (x1 : Nat) (x2 : Int) : Option (Bool × Nat × Int) :=
  (rg131_0_y x1 x2 x0).bind fun r1 =>
  bif !(Nat.beq r1.1 0) then
    some (false, r1.1, r1.2)
  else
    jn term_visit_k1 fun k1 =>
    lp (term_visit_b2 x0 self k1) (x0.Sub.length + 1) (0, r1.1, r1.2)
def term_visit : Nat → Term → Nat → Int → Option (Bool × Nat × Int)
  | 0 => fun _ _ _ => none
  | n + 1 => term_visit_f (term_visit n)
theorem term_visit_ok {n : Nat} : ∀ {x0 : Term} {x1 : Nat} {x2 : Int} {R : Bool × Nat × Int}, term_visit n x0 x1 x2 = some R → FnOk Tryz.prog K0 137 [(aA (encTermX x0)), (.via 0 yR)] [(0, (.live (.loop #[6] rg131_0_a rg131_0_d 10 [(3, (.ptr 1 0))] x1))), (1, (oC 3 [(aN .i64 x2)]))] (aT R.1) [(0, (.live (.loop #[6] rg131_0_a rg131_0_d 10 [(3, (.ptr 1 0))] R.2.1))), (1, (oC 3 [(aN .i64 R.2.2)]))] := by
  induction n with
  | zero => intro x0 x1 x2 R H; cases H
  | succ n ih =>
    intro x0 x1 x2 R H
    refine fn_w (nt := 23) (np := 2) Tryz.func137 z z (by simp) (np_of2 z) <| ?_
    have H : term_visit_f (term_visit n) x0 x1 x2 = some R := H
    unfold term_visit_f at H
    refine sgr z <| lh (p_bx 2 z q z) z <| la z z <| ne <| wc_seq <| sgr z <| lm z z <| l (p_ldB (ds := (encTermX x0).map .data) ty_114 z z z z) z <| ?_
    obtain ⟨r1, e2, H⟩ := ob H
    refine ly (ids := [0, 1]) (rg131_0_y_ok e2) z z z z z (rc z z (rc z z rn)) (rc z z (rc z z rn)) z ⟨z, ⟨z, q⟩⟩ (by decide) z z z (oc z (oc z on)) (oc z (oc z on)) z z <| l (p_not z) z <| ne <| ?_
    rcases cn H with ⟨b3, H⟩ | ⟨b3, H⟩
    · refine c_t z b3 ?_
      refine sgr z <| la z z <| ne <| wc_ret <| e_tr <| ?_
      obtain rfl := sm H
      exact fin (Or.inr z) (rs1 (rv z) rs0) (re [(0, 0), (1, 1)] (.dat) z (hs z z z (hs z z z h0)))
    refine c_f z b3 <| se <| ?_
    refine w_jn2 H (fun v4 v5 => ⟨[], [(0, (.live (.loop #[6] rg131_0_a rg131_0_d 10 [(3, (.ptr 1 0))] v4))), (1, (oC 3 [(aN .i64 v5)]))]⟩) ?_ ?_
    · intro v4 v5 H
      rw [term_visit_k1] at H
      refine sgr z <| la z z <| ne <| wc_ret <| ?_
      obtain rfl := sm H
      exact fin (Or.inr z) (rs1 (rv z) rs0) (re [(0, 0), (1, 1)] (.dat) z (hs z z z (hs z z z h0)))
    intro H
    refine sgr z <| l (p_fd fld_114_5 z) z <| l (p_ld ty_112 z z z) z <| l (p_lenL Tryz.underlying112 z) z <| lm z z <| ne <| wc_block <| w_lp3 H (fun v6 v7 v8 => ⟨[(1, (.via 0 yR)), (12, (aL 6 encTerm x0.Sub)), (13, (aN .i64 (x0.Sub.length : Int))), (14, (aN .i64 v6))], [(0, (.live (.loop #[6] rg131_0_a rg131_0_d 10 [(3, (.ptr 1 0))] v7))), (1, (oC 3 [(aN .i64 v8)]))]⟩) (en [(0, 0), (1, 1)] (ws z z z (wd z (wd z (wd z w0)))) z (hs z z z (hs z z z h0))) <| ?_
    intro n2 v6 v7 v8 H
    rw [term_visit_b2] at H
    refine sgr z <| l (p_lss z z) z <| ne <| wc_seq <| ?_
    rcases cn H with ⟨b9, H⟩ | ⟨b9, H⟩
    · refine c_t z b9 ?_
      refine se <| wc_seq <| wc_block <| sgr z <| ?_
      obtain ⟨r10, e11, H⟩ := ob H
      refine l (p_ixX (encTerm_X _) Tryz.underlying112 ty_114.size z z e11) z <| l (p_ldA (ds := encTermX r10) ty_114 z z z) z <| lh (p_al 4 zr_114 z) z <| l0h (p_stA (ds := (encTermX r10).map .data) ty_114 z z z z z z) <| ne <| sgr z <| l (p_ldB (ds := (encTermX r10).map .data) ty_114 z z z z) z <| lm z z <| ?_
      obtain ⟨r12, e13, H⟩ := ob H
      refine lh (p_ch (ids := [0, 1]) (ih e13) ent_137 z z (rc z z (rc z z rn)) (rc z z (rc z z rn)) z ⟨z, ⟨z, q⟩⟩ (by decide) z z z (oc z (oc z on)) (oc z (oc z on)) z) z <| l (p_not z) z <| ne <| ?_
      rcases cn H with ⟨b14, H⟩ | ⟨b14, H⟩
      · refine c_t z b14 ?_
        refine sgr z <| la z z <| ne <| wc_ret <| ?_
        refine e_br (e_tr (e_tr (e_br (e_tr ?_))))
        obtain rfl := sm H
        exact fin (Or.inr z) (rs1 (rv z) rs0) (re [(0, 0), (1, 1)] (.dat) z (hs z z z (hs z z z h0)))
      refine c_f z b14 <| wc_skip <| ?_
      refine e_bn (e_n ?_)
      refine wc_region z <| l (p_add z z) z <| lm z z <| ne <| ?_
      exact ⟨w64 (v6 + 1), r12.2.1, r12.2.2, H, en [(0, 0), (1, 1)] (ws z z z (wd z (wd z (wd z w0)))) z (hs z z z (hs z z z h0))⟩
    refine c_f z b9 <| wc_exit <| ?_
    refine e_te (e_te (e_h (e_n ?_)))
    exact ⟨v7, v8, H, en [(0, 0), (1, 1)] w0 z (hs z z z (hs z z z h0))⟩

def term_nodes_1 (x0 : Nat) (x1 : Int) (x2 : Term) : Option (Nat × Int) :=
  (term_visit (rankTerm x2) x2 x0 x1).bind fun r1 =>
  some (r1.2.1, r1.2.2)
theorem term_nodes_1_ok {x0 : Nat} {x1 : Int} {x2 : Term} {R : Nat × Int} (H : term_nodes_1 x0 x1 x2 = some R) : FnOk Tryz.prog K0 136 [(.via 0 yR), (.ptr 2 0)] [(0, (.live (.loop #[6] rg131_0_a rg131_0_d 10 [(3, (.ptr 1 0))] x0))), (1, (oC 3 [(aN .i64 x1)])), (2, (oD 114 (encTermX x2)))] (.tup []) [(0, (.live (.loop #[6] rg131_0_a rg131_0_d 10 [(3, (.ptr 1 0))] R.1))), (1, (oC 3 [(aN .i64 R.2)])), (2, (oD 114 (encTermX x2)))] := by
  refine fn_w (nt := 6) (np := 3) Tryz.func136 z z (by simp) (np_of2 z) <| ?_
  unfold term_nodes_1 at H
  refine wc_region z <| l (p_ldB (ds := (encTermX x2).map .data) ty_114 z z z z) z <| lm z z <| ?_
  obtain ⟨r1, e2, H⟩ := ob H
  refine lh (p_ch (ids := [0, 1]) (term_visit_ok e2) ent_137 z z (rc z z (rc z z rn)) (rc z z (rc z z rn)) z ⟨z, ⟨z, q⟩⟩ (by decide) z z z (oc z (oc z on)) (oc z (oc z on)) z) z <| wl_nil <| ?_
  obtain rfl := sm H
  exact fin (Or.inl z) rs0 (re2 [(0, 0), (1, 1), (2, 2)] q z (hs z z z (hs z z z (hc z h0))))

def term_Size (x0 : Term) : Option Int :=
  (term_nodes x0).bind fun r1 =>
  (term_nodes_1 0 0 r1).bind fun r3 =>
  asr (Nat.beq r3.1 0) <|
  some r3.2
theorem term_Size_ok {x0 : Term} {R : Int} (H : term_Size x0 = some R) : FnOk Tryz.prog K0 131 [(aA (encTermX x0))] [] (aN .i64 R) [] := by
  refine fn_z (nt := 10) (np := 0) Tryz.func131 z z (by simp) (np_of2 z) <| ?_
  unfold term_Size at H
  refine wz_seq <| wc_region z <| lh (p_bx 0 z q z) z <| la z z <| ne <| wz_seq <| wc_region z <| lh (p_al 1 zr_3 z) z <| l0h (p_st ty_3 z z z q z z) <| ne <| wz_pre <| wc_region z <| l (p_ldB (ds := (encTermX x0).map .data) ty_114 z z z z) z <| ?_
  obtain ⟨r1, e2, H⟩ := ob H
  refine lh (p_ch (ids := [2]) (term_nodes_ok e2) ent_133 z z (rc z z rn) (rc z rdd rn) z ⟨z, q⟩ (by decide) z z z (oc z on) (oc od on) z) z <| ne <| ?_
  obtain ⟨r3, e4, H⟩ := ob H
  refine w_range (kL := 3) (kD := 4) (ids := [1, 2]) (q := r3.1) (ts := [(3, (.ptr 1 0))]) (term_nodes_1_ok e4) ent_136 z z (rc z z (rc z z (rc z rdd rn))) (rc z z (rc z z (rc z rdd rn))) z z z ⟨z, q⟩ ⟨z, ⟨z, ⟨z, q⟩⟩⟩ (by decide) z z z (oc z (oc z (oc od on))) (oc z (oc z (oc od on))) z z z <| ?_
  obtain ⟨b5, H⟩ := as_ H
  refine .inl ⟨Nat.eq_of_beq_eq_true b5, ?_⟩
  refine sgr z <| l (p_ld ty_3 z z z) z <| la z z <| ne <| wc_ret <| ?_
  obtain rfl := sm H
  exact fin (Or.inr z) (rs1 (rv z) rs0) (re [] (.dat) z h0)

def term_Depth_k1 : Int → Option Int
  | v1 =>
    some (w64 (v1 + 1))
def term_Depth_b2 (x0 : Term) (self : Term → Option Int) (k1 : Int → Option Int) (rec2 : Int × Int → Option Int) : Int × Int → Option Int
  | (v2, v3) =>
    bif decide (v3 < (x0.Sub.length : Int)) then
      (ix x0.Sub v3).bind fun r5 =>
      (self r5).bind fun r7 =>
      rec2 ((max v2 r7, w64 (v3 + 1)))
    else
      k1 v2
def term_Depth_f (self : Term → Option Int) (x0 : Term) : Option Int :=
  jn term_Depth_k1 fun k1 =>
  lp (term_Depth_b2 x0 self k1) (x0.Sub.length + 1) (0, 0)
def term_Depth : Nat → Term → Option Int
  | 0 => fun _ => none
  | n + 1 => term_Depth_f (term_Depth n)
theorem term_Depth_ok {n : Nat} : ∀ {x0 : Term} {R : Int}, term_Depth n x0 = some R → FnOk Tryz.prog K0 132 [(aA (encTermX x0))] [] (aN .i64 R) [] := by
  induction n with
  | zero => intro x0 R H; cases H
  | succ n ih =>
    intro x0 R H
    refine fn_w (nt := 20) (np := 0) Tryz.func132 z z (by simp) (np_of2 z) <| ?_
    have H : term_Depth_f (term_Depth n) x0 = some R := H
    unfold term_Depth_f at H
    refine sgr z <| lh (p_bx 0 z q z) z <| la z z <| ne <| sgr z <| la z z <| ne <| ?_
    refine w_jn1 H (fun v1 => ⟨[(3, (aN .i64 v1))], []⟩) ?_ ?_
    · intro v1 H
      rw [term_Depth_k1] at H
      refine sgr z <| lm z z <| l (p_add z z) z <| la z z <| ne <| wc_ret <| ?_
      obtain rfl := sm H
      exact fin (Or.inr z) (rs1 (rv z) rs0) (re [] (.dat) z h0)
    intro H
    refine sgr z <| l (p_fd fld_114_5 z) z <| l (p_ld ty_112 z z z) z <| l (p_lenL Tryz.underlying112 z) z <| lm z z <| ne <| wc_block <| w_lp2 H (fun v2 v3 => ⟨[(3, (aN .i64 v2)), (7, (aL 6 encTerm x0.Sub)), (8, (aN .i64 (x0.Sub.length : Int))), (9, (aN .i64 v3))], []⟩) (en [] (wd z (wd z (wd z (wd z w0)))) z h0) <| ?_
    intro n2 v2 v3 H
    rw [term_Depth_b2] at H
    refine sgr z <| l (p_lss z z) z <| ne <| wc_seq <| ?_
    rcases cn H with ⟨b4, H⟩ | ⟨b4, H⟩
    · refine c_t z b4 ?_
      refine se <| wc_seq <| wc_block <| sgr z <| ?_
      obtain ⟨r5, e6, H⟩ := ob H
      refine l (p_ixX (encTerm_X _) Tryz.underlying112 ty_114.size z z e6) z <| l (p_ldA (ds := encTermX r5) ty_114 z z z) z <| lh (p_al 2 zr_114 z) z <| l0h (p_stA (ds := (encTermX r5).map .data) ty_114 z z z z z z) <| ne <| wc_region z <| lm z z <| l (p_ldB (ds := (encTermX r5).map .data) ty_114 z z z z) z <| ?_
      obtain ⟨r7, e8, H⟩ := ob H
      refine l (p_c (ih e8) ent_132 z z z) z <| l (p_max z z) z <| la z z <| wl_nil <| ?_
      refine e_bn (e_n ?_)
      refine wc_region z <| l (p_add z z) z <| lm z z <| ne <| ?_
      exact ⟨max v2 r7, w64 (v3 + 1), H, en [] (wd z (wd z (wd z (wd z w0)))) z h0⟩
    refine c_f z b4 <| wc_exit <| ?_
    refine e_te (e_te (e_h (e_n ?_)))
    exact ⟨v2, H, en [] (wd z w0) z h0⟩

noncomputable def rg128_1_a : Code := cA (cB (cR (cL (cR (cR ((Tryz.f128.body).getD .skip))))))
noncomputable def rg128_1_d : Code := cD (cB (cR (cL (cR (cR ((Tryz.f128.body).getD .skip))))))

def term_wide (x0 : Int) : Option Bool :=
  some ((decide (1 ≤ x0)) && (decide (x0 ≤ 64)))
theorem term_wide_ok {x0 : Int} {R : Bool} (H : term_wide x0 = some R) : FnOk Tryz.prog K0 138 [(aN .i64 x0)] [] (aT R) [] := by
  refine fn_w (nt := 9) (np := 0) Tryz.func138 z z (by simp) (np_of2 z) <| ?_
  unfold term_wide at H
  refine sgr z <| la z z <| ne <| sgr z <| lm z z <| l (p_geq z z) z <| lm z z <| lw z (Grd.plain _) z [0] z (s1 strip_same s0) (fun hw => p_mv z) ⟨z, q⟩ (by exact q) z z <| lw z (Grd.plain _) z [6] z (s1 (strip_when id) s0) (fun hw => p_leq z z) ⟨z, q⟩ (by exact q) z z <| l (p_pkA z z q (strip_when (wt))) z <| la z z <| ne <| wc_ret <| ?_
  obtain rfl := sm H
  exact fin (Or.inr z) (rs1 (rv z) rs0) (re [] (.dat) z h0)

def term_shaped (x0 : Int) : Option (term_shape × Bool) :=
  bif decide (24 < x0) then
    some (((term_shape.mk ⟨#[]⟩ 0 0), false))
  else
    (ix tab0 x0).bind fun r2 =>
    (ix tab0 x0).bind fun r4 =>
    some ((r2, decide (0 < r4.parts)))
theorem term_shaped_ok {x0 : Int} {R : term_shape × Bool} (H : term_shaped x0 = some R) : FnOk Tryz.prog K0 139 [(aN .u8 x0)] [] (.tup [(aA (encterm_shape R.1)), (aT R.2)]) [] := by
  refine fn_w (nt := 15) (np := 0) Tryz.func139 z z (by simp) (np_of2 z) <| ?_
  unfold term_shaped at H
  refine sgr z <| lh (p_al 0 zr_205 z) z <| la z z <| ne <| wc_seq <| sgr z <| lm z z <| l (p_gtr z z) z <| ne <| ?_
  rcases cn H with ⟨b1, H⟩ | ⟨b1, H⟩
  · refine c_t z b1 ?_
    refine sgr z <| l (p_bd (cs := (encterm_shape (term_shape.mk ⟨#[]⟩ 0 0)).map .data) pl_205 zr_205 z q z) z <| l0h (p_stA (ds := (encterm_shape (term_shape.mk ⟨#[]⟩ 0 0)).map .data) ty_205 z z z z z z) <| la z z <| ne <| wc_ret <| e_tr <| ?_
    obtain rfl := sm H
    exact fin (Or.inr z) (rs1 (rva (ds := (encterm_shape (term_shape.mk ⟨#[]⟩ 0 0)).map .data) ty_205 z z z z) (rs1 (rv z) rs0)) (re2 [] ⟨.adat, ⟨.dat, q⟩⟩ z h0)
  refine c_f z b1 <| se <| wc_seq <| wc_draw [0, 1, 3, 0, 8, 24, 56, 120, 7, 511] mixed z <| dm z z <| ?_
  obtain ⟨r2, e3, H⟩ := ob H
  refine dr (p_ixG (hG0) Tryz.underlying210 (by decide) ty_205.size (fun _ => z) z e3) z <| dr (p_ldA (ds := encterm_shape r2) ty_205 z z z) z <| dm z z <| ?_
  obtain ⟨r4, e5, H⟩ := ob H
  refine dr (p_ixG (hG0) Tryz.underlying210 (by decide) ty_205.size (fun _ => z) z e5) z <| dr (p_fdP fld_205_1 z) z <| dr (p_ldP ty_3 z z) z <| dr (p_gtr z z) z <| dr0h (p_stA (ds := (encterm_shape r2).map .data) ty_205 z z z z z z) <| da z z <| ?_
  refine wd_nil ?_ (by kernel_rfl)
  refine e_n <| wc_ret <| ?_
  obtain rfl := sm H
  exact fin (Or.inr z) (rs1 (rva (ds := (encterm_shape r2).map .data) ty_205 z z z z) (rs1 (rv z) rs0)) (re2 [] ⟨.adat, ⟨.dat, q⟩⟩ z h0)

def bits_Ok (x0 : Int) (x1 : Int) : Option Bool :=
  (bits_wide x0).bind fun r1 =>
  (bif (true && (r1 == true)) then bits_Mask x0 else some default).bind fun r3 =>
  some (r1 && (decide (x1 ≤ r3)))
theorem bits_Ok_ok {x0 : Int} {x1 : Int} {R : Bool} (H : bits_Ok x0 x1 = some R) : FnOk Tryz.prog K0 140 [(aN .i64 x0), (aN .u64 x1)] [] (aT R) [] := by
  refine fn_w (nt := 13) (np := 0) Tryz.func140 z z (by simp) (np_of2 z) <| ?_
  unfold bits_Ok at H
  refine sgr z <| la z z <| ne <| sgr z <| lm z z <| ?_
  obtain ⟨r1, e2, H⟩ := ob H
  refine l (p_c (bits_wide_ok e2) ent_117 z z z) z <| lm z z <| lw z (Grd.plain _) z [1] z (s1 strip_same s0) (fun hw => p_mv z) ⟨z, q⟩ (by exact q) z z <| lw z (Grd.plain _) z [0] z (s1 strip_same s0) (fun hw => p_mv z) ⟨z, q⟩ (by exact q) z z <| ?_
  obtain ⟨r3, e4, H⟩ := ob H
  refine lw z (Grd.plain _) z [9] z (s1 (strip_when id) s0) (fun hw => p_c (bits_Mask_ok (bt hw e4)) ent_98 z z z) ⟨z, q⟩ (by exact q) z z <| lw z (Grd.plain _) z [8, 10] z (s1 (strip_when id) (s1 (strip_when id) s0)) (fun hw => p_leq z z) ⟨z, ⟨z, q⟩⟩ (by exact q) z z <| l (p_pkA z z q (strip_when (wt))) z <| la z z <| ne <| wc_ret <| ?_
  obtain rfl := sm H
  exact fin (Or.inr z) (rs1 (rv z) rs0) (re [] (.dat) z h0)

def internal_stringslite_HasPrefix (x0 : ByteArray) (x1 : ByteArray) : Option Bool :=
  asr (!((true && ((decide ((x1.size : Int) ≤ (x0.size : Int))) == true))) || subOk 0 (x1.size : Int) x0.size) <|
  some ((decide ((x1.size : Int) ≤ (x0.size : Int))) && (sEq (sSub x0 0 (x1.size : Int)) x1))
theorem internal_stringslite_HasPrefix_ok {x0 : ByteArray} {x1 : ByteArray} {R : Bool} (H : internal_stringslite_HasPrefix x0 x1 = some R) : FnOk Tryz.prog K0 149 [(aS x0), (aS x1)] [] (aT R) [] := by
  refine fn_w (nt := 18) (np := 0) Tryz.func149 z z (by simp) (np_of2 z) <| ?_
  unfold internal_stringslite_HasPrefix at H
  refine sgr z <| la z z <| ne <| sgr z <| lm z z <| l (p_lenS Tryz.underlying9 z) z <| lm z z <| l (p_lenS Tryz.underlying9 z) z <| l (p_geq z z) z <| lm z z <| lw z (Grd.plain _) z [0] z (s1 strip_same s0) (fun hw => p_mv z) ⟨z, q⟩ (by exact q) z z <| lw z (Grd.plain _) z [1] z (s1 strip_same s0) (fun hw => p_mv z) ⟨z, q⟩ (by exact q) z z <| lw z (Grd.plain _) z [12] z (s1 (strip_when id) s0) (fun hw => p_lenS Tryz.underlying9 z) ⟨z, q⟩ (by exact q) z z <| ?_
  obtain ⟨e1, H⟩ := as_ H
  refine lw z (Grd.plain _) z [11, 13] z (s1 (strip_when id) (s1 (strip_when id) s0)) (fun hw => p_slS Tryz.underlying9 z .no (.yes z) (bi hw e1)) ⟨z, ⟨z, q⟩⟩ (by exact q) z z <| lw z (Grd.plain _) z [1] z (s1 strip_same s0) (fun hw => p_mv z) ⟨z, q⟩ (by exact q) z z <| lw z (Grd.plain _) z [14, 15] z (s1 (strip_when id) (s1 (strip_when id) s0)) (fun hw => p_seq z z) ⟨z, ⟨z, q⟩⟩ (by exact q) z z <| l (p_pkA z z q (strip_when (wt))) z <| la z z <| ne <| wc_ret <| ?_
  obtain rfl := sm H
  exact fin (Or.inr z) (rs1 (rv z) rs0) (re [] (.dat) z h0)

def internal_stringslite_TrimPrefix (x0 : ByteArray) (x1 : ByteArray) : Option ByteArray :=
  (internal_stringslite_HasPrefix x0 x1).bind fun r1 =>
  bif r1 then
    asr (subOk (x1.size : Int) (x0.size : Int) x0.size) <|
    some (sSub x0 (x1.size : Int) (x0.size : Int))
  else
    some x0
theorem internal_stringslite_TrimPrefix_ok {x0 : ByteArray} {x1 : ByteArray} {R : ByteArray} (H : internal_stringslite_TrimPrefix x0 x1 = some R) : FnOk Tryz.prog K0 147 [(aS x0), (aS x1)] [] (aS R) [] := by
  refine fn_w (nt := 13) (np := 0) Tryz.func147 z z (by simp) (np_of2 z) <| ?_
  unfold internal_stringslite_TrimPrefix at H
  refine sgr z <| la z z <| ne <| wc_seq <| sgr z <| lm z z <| lm z z <| ?_
  obtain ⟨r1, e2, H⟩ := ob H
  refine l (p_c (internal_stringslite_HasPrefix_ok e2) ent_149 z z z) z <| ne <| ?_
  rcases cn H with ⟨b3, H⟩ | ⟨b3, H⟩
  · refine c_t z b3 ?_
    refine sgr z <| lm z z <| lm z z <| l (p_lenS Tryz.underlying9 z) z <| ?_
    obtain ⟨e4, H⟩ := as_ H
    refine l (p_slS Tryz.underlying9 z (.yes z) .no e4) z <| la z z <| ne <| wc_ret <| e_tr <| ?_
    obtain rfl := sm H
    exact fin (Or.inr z) (rs1 (rv z) rs0) (re [] (.dat) z h0)
  refine c_f z b3 <| se <| sgr z <| lm z z <| la z z <| ne <| wc_ret <| ?_
  obtain rfl := sm H
  exact fin (Or.inr z) (rs1 (rv z) rs0) (re [] (.dat) z h0)

def strings_TrimPrefix (x0 : ByteArray) (x1 : ByteArray) : Option ByteArray :=
  (internal_stringslite_TrimPrefix x0 x1).bind fun r1 =>
  some r1
theorem strings_TrimPrefix_ok {x0 : ByteArray} {x1 : ByteArray} {R : ByteArray} (H : strings_TrimPrefix x0 x1 = some R) : FnOk Tryz.prog K0 143 [(aS x0), (aS x1)] [] (aS R) [] := by
  refine fn_w (nt := 8) (np := 0) Tryz.func143 z z (by simp) (np_of2 z) <| ?_
  unfold strings_TrimPrefix at H
  refine sgr z <| la z z <| ne <| sgr z <| lm z z <| lm z z <| ?_
  obtain ⟨r1, e2, H⟩ := ob H
  refine l (p_c (internal_stringslite_TrimPrefix_ok e2) ent_147 z z z) z <| la z z <| ne <| wc_ret <| ?_
  obtain rfl := sm H
  exact fin (Or.inr z) (rs1 (rv z) rs0) (re [] (.dat) z h0)

def term_variable (x0 : ByteArray) : Option Bool :=
  (strings_TrimPrefix x0 (⟨#[114, 46]⟩ : ByteArray)).bind fun r1 =>
  (bits_Name r1).bind fun r3 =>
  some r3
theorem term_variable_ok {x0 : ByteArray} {R : Bool} (H : term_variable x0 = some R) : FnOk Tryz.prog K0 141 [(aS x0)] [] (aT R) [] := by
  refine fn_w (nt := 6) (np := 0) Tryz.func141 z z (by simp) (np_of2 z) <| ?_
  unfold term_variable at H
  refine sgr z <| la z z <| ne <| sgr z <| lm z z <| ?_
  obtain ⟨r1, e2, H⟩ := ob H
  refine l (p_c (strings_TrimPrefix_ok e2) ent_143 z z z) z <| ?_
  obtain ⟨r3, e4, H⟩ := ob H
  refine l (p_c (bits_Name_ok e4) ent_85 z z z) z <| la z z <| ne <| wc_ret <| ?_
  obtain rfl := sm H
  exact fin (Or.inr z) (rs1 (rv z) rs0) (re [] (.dat) z h0)

def term_widths_1 (x0 : Term) (x1 : Int) : Option Bool :=
  some (x0.Width != x1)
theorem term_widths_1_ok {x0 : Term} {x1 : Int} {R : Bool} (H : term_widths_1 x0 x1 = some R) : FnOk Tryz.prog K0 145 [(aA (encTermX x0)), (.ptr 0 0)] [(0, (oC 3 [(aN .i64 x1)]))] (aT R) [(0, (oC 3 [(aN .i64 x1)]))] := by
  refine fn_w (nt := 8) (np := 1) Tryz.func145 z z (by simp) (np_of2 z) <| ?_
  unfold term_widths_1 at H
  refine sgr z <| lh (p_bx 1 z q z) z <| la z z <| ne <| sgr z <| l (p_fd fld_114_1 z) z <| l (p_ld ty_3 z z z) z <| l (p_ld ty_3 z z z) z <| l (p_neq z z) z <| la z z <| ne <| wc_ret <| ?_
  obtain rfl := sm H
  exact fin (Or.inr z) (rs1 (rv z) rs0) (re [(0, 0)] (.dat) z (hs z z z h0))

def slices_IndexFunc_api_Term_api_Term_k1 : Unit → Option Int
  | () =>
    some (-1)
def slices_IndexFunc_api_Term_api_Term_b2 (x0 : List Term) (x1 : Int) (k1 : Unit → Option Int) (rec2 : Int → Option Int) : Int → Option Int
  | v1 =>
    bif decide (v1 < (x0.length : Int)) then
      (ix x0 v1).bind fun r3 =>
      (term_widths_1 r3 x1).bind fun r5 =>
      bif r5 then some v1 else rec2 (w64 (v1 + 1))
    else
      k1 ()
def slices_IndexFunc_api_Term_api_Term (x0 : List Term) (x1 : Int) : Option Int :=
  jn slices_IndexFunc_api_Term_api_Term_k1 fun k1 =>
  lp (slices_IndexFunc_api_Term_api_Term_b2 x0 x1 k1) (x0.length + 1) 0
theorem slices_IndexFunc_api_Term_api_Term_ok {x0 : List Term} {x1 : Int} {R : Int} (H : slices_IndexFunc_api_Term_api_Term x0 x1 = some R) : FnOk Tryz.prog K0 148 [(aL 6 encTerm x0), (.fn (.func 145) [] [(.ptr 0 0)])] [(0, (oC 3 [(aN .i64 x1)]))] (aN .i64 R) [(0, (oC 3 [(aN .i64 x1)]))] := by
  refine fn_w (nt := 19) (np := 1) Tryz.func148 z z (by simp) (np_of2 z) <| ?_
  unfold slices_IndexFunc_api_Term_api_Term at H
  refine sgr z <| la z z <| ne <| ?_
  refine w_jn0 H (⟨[], [(0, (oC 3 [(aN .i64 x1)]))]⟩) ?_ ?_
  · intro H
    rw [slices_IndexFunc_api_Term_api_Term_k1] at H
    refine sgr z <| la z z <| ne <| wc_ret <| ?_
    obtain rfl := sm H
    exact fin (Or.inr z) (rs1 (rv z) rs0) (re [(0, 0)] (.dat) z (hs z z z h0))
  intro H
  refine sgr z <| lm z z <| l (p_lenL Tryz.underlying112 z) z <| lm z z <| ne <| wc_block <| w_lp1 H (fun v1 => ⟨[(0, (aL 6 encTerm x0)), (1, (.fn (.func 145) [] [(.ptr 0 0)])), (7, (aN .i64 (x0.length : Int))), (8, (aN .i64 v1))], [(0, (oC 3 [(aN .i64 x1)]))]⟩) (en [(0, 0)] (wd z (ws z z z (wd z (wd z w0)))) z (hs z z z h0)) <| ?_
  intro n2 v1 H
  rw [slices_IndexFunc_api_Term_api_Term_b2] at H
  refine sgr z <| l (p_lss z z) z <| ne <| wc_seq <| ?_
  rcases cn H with ⟨b2, H⟩ | ⟨b2, H⟩
  · refine c_t z b2 ?_
    refine se <| wc_seq <| wc_block <| sgr z <| lm z z <| la z z <| ne <| sgr z <| lm z z <| lm z z <| lm z z <| ?_
    obtain ⟨r3, e4, H⟩ := ob H
    refine l (p_ixX (encTerm_X _) Tryz.underlying112 ty_114.size z z e4) z <| l (p_ldA (ds := encTermX r3) ty_114 z z z) z <| ?_
    obtain ⟨r5, e6, H⟩ := ob H
    refine lh (p_cw (ids := [0]) (term_widths_1_ok e6) ent_145 z z z (rc z z rn) (rc z z rn) z ⟨z, q⟩ (by decide) z z z (oc z on) (oc z on) z) z <| ne <| ?_
    rcases cn H with ⟨b7, H⟩ | ⟨b7, H⟩
    · refine c_t z b7 ?_
      refine sgr z <| lm z z <| la z z <| ne <| wc_ret <| ?_
      refine e_br (e_tr (e_tr (e_br (e_tr ?_))))
      obtain rfl := sm H
      exact fin (Or.inr z) (rs1 (rv z) rs0) (re [(0, 0)] (.dat) z (hs z z z h0))
    refine c_f z b7 <| wc_skip <| ?_
    refine e_bn (e_n ?_)
    refine wc_region z <| l (p_add z z) z <| lm z z <| ne <| ?_
    exact ⟨w64 (v1 + 1), H, en [(0, 0)] (wd z (ws z z z (wd z (wd z w0)))) z (hs z z z h0)⟩
  refine c_f z b2 <| wc_exit <| ?_
  refine e_te (e_te (e_h (e_n ?_)))
  exact ⟨H, en [(0, 0)] w0 z (hs z z z h0)⟩

def slices_ContainsFunc_api_Term_api_Term (x0 : List Term) (x1 : Int) : Option Bool :=
  (slices_IndexFunc_api_Term_api_Term x0 x1).bind fun r1 =>
  some (decide (0 ≤ r1))
theorem slices_ContainsFunc_api_Term_api_Term_ok {x0 : List Term} {x1 : Int} {R : Bool} (H : slices_ContainsFunc_api_Term_api_Term x0 x1 = some R) : FnOk Tryz.prog K0 144 [(aL 6 encTerm x0), (.fn (.func 145) [] [(.ptr 0 0)])] [(0, (oC 3 [(aN .i64 x1)]))] (aT R) [(0, (oC 3 [(aN .i64 x1)]))] := by
  refine fn_w (nt := 9) (np := 1) Tryz.func144 z z (by simp) (np_of2 z) <| ?_
  unfold slices_ContainsFunc_api_Term_api_Term at H
  refine sgr z <| la z z <| ne <| sgr z <| lm z z <| lm z z <| ?_
  obtain ⟨r1, e2, H⟩ := ob H
  refine lh (p_ch (ids := [0]) (slices_IndexFunc_api_Term_api_Term_ok e2) ent_148 z z (rc z z rn) (rc z z rn) z ⟨z, q⟩ (by decide) z z z (oc z on) (oc z on) z) z <| l (p_geq z z) z <| la z z <| ne <| wc_ret <| ?_
  obtain rfl := sm H
  exact fin (Or.inr z) (rs1 (rv z) rs0) (re [(0, 0)] (.dat) z (hs z z z h0))

def term_loadable (x0 : Int) : Option Bool :=
  some ((((x0 == 8) || (x0 == 16)) || (x0 == 32)) || (x0 == 64))
theorem term_loadable_ok {x0 : Int} {R : Bool} (H : term_loadable x0 = some R) : FnOk Tryz.prog K0 146 [(aN .i64 x0)] [] (aT R) [] := by
  refine fn_w (nt := 17) (np := 0) Tryz.func146 z z (by simp) (np_of2 z) <| ?_
  unfold term_loadable at H
  refine sgr z <| la z z <| ne <| sgr z <| lm z z <| l (p_eql z z) z <| lm z z <| lw z (Grd.plain _) z [0] z (s1 strip_same s0) (fun hw => p_mv z) ⟨z, q⟩ (by exact q) z z <| lw z (Grd.plain _) z [6] z (s1 (strip_when id) s0) (fun hw => p_eql z z) ⟨z, q⟩ (by exact q) z z <| l (p_pkO z z q (strip_when (wf))) z <| lm z z <| lw z (Grd.plain _) z [0] z (s1 strip_same s0) (fun hw => p_mv z) ⟨z, q⟩ (by exact q) z z <| lw z (Grd.plain _) z [10] z (s1 (strip_when id) s0) (fun hw => p_eql z z) ⟨z, q⟩ (by exact q) z z <| l (p_pkO z z q (strip_when (wf))) z <| lm z z <| lw z (Grd.plain _) z [0] z (s1 strip_same s0) (fun hw => p_mv z) ⟨z, q⟩ (by exact q) z z <| lw z (Grd.plain _) z [14] z (s1 (strip_when id) s0) (fun hw => p_eql z z) ⟨z, q⟩ (by exact q) z z <| l (p_pkO z z q (strip_when (wf))) z <| la z z <| ne <| wc_ret <| ?_
  obtain rfl := sm H
  exact fin (Or.inr z) (rs1 (rv z) rs0) (re [] (.dat) z h0)

end Go.Proofs.YtgmpgoafokdcbaaGreatDoor.Sx
