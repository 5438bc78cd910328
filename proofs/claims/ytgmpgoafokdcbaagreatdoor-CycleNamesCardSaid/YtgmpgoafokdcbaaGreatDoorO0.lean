/- Plain functions and their proofs, part 1: what the functions of the given program compute; printed by a program of this repo (dxmake.py). -/
import Derived.Test.YtgmpgoafokdcbaaGreatDoorSyr
import Derived.Test.YtgmpgoafokdcbaaGreatDoorProg
set_option linter.unusedVariables false
set_option linter.unusedSimpArgs false
set_option maxRecDepth 100000
set_option maxHeartbeats 4000000
namespace Go.Proofs.YtgmpgoafokdcbaaGreatDoor.Sx
open Go Go.RowKit
structure MachUnit where
  Name : ByteArray
  Count : Int
instance : Inhabited MachUnit := ⟨⟨⟨#[]⟩, 0⟩⟩
def encMachUnit (x : MachUnit) : List D := [.lit (.string x.Name), .lit (.int .i64 x.Count)]
structure MachReg where
  Name : ByteArray
  Width : Int
  Of : Int
  Low : Int
instance : Inhabited MachReg := ⟨⟨⟨#[]⟩, 0, 0, 0⟩⟩
def encMachReg (x : MachReg) : List D := [.lit (.string x.Name), .lit (.int .i64 x.Width), .lit (.int .i64 x.Of), .lit (.int .i64 x.Low)]
structure MachBank where
  Name : ByteArray
  Regs : List Int
instance : Inhabited MachBank := ⟨⟨⟨#[]⟩, []⟩⟩
def encMachBank (x : MachBank) : List D := [.lit (.string x.Name), .list 1 (x.Regs.map (eN .i64))]
structure MachPiece where
  At : Int
  Len : Int
instance : Inhabited MachPiece := ⟨⟨0, 0⟩⟩
def encMachPiece (x : MachPiece) : List D := [.lit (.int .i64 x.At), .lit (.int .i64 x.Len)]
structure MachOperand where
  Name : ByteArray
  Kind : Int
  Bank : Int
  Scale : Int
  Pieces : List MachPiece
  Tied : Int
instance : Inhabited MachOperand := ⟨⟨⟨#[]⟩, 0, 0, 0, [], 0⟩⟩
def encMachOperand (x : MachOperand) : List D := [.lit (.string x.Name), .lit (.int .u8 x.Kind), .lit (.int .i64 x.Bank), .lit (.int .i64 x.Scale), .list 2 (x.Pieces.map encMachPiece), .lit (.int .i64 x.Tied)]
structure Term where
  Kind : Int
  Width : Int
  Bits : Int
  Name : ByteArray
  Low : Int
  Sub : List Term
instance : Inhabited Term := ⟨⟨0, 0, 0, ⟨#[]⟩, 0, []⟩⟩
mutual
def encTerm : Term → List D
  | ⟨x0, x1, x2, x3, x4, x5⟩ => [.lit (.int .u8 x0), .lit (.int .i64 x1), .lit (.int .u64 x2), .lit (.string x3), .lit (.int .i64 x4), .list 6 (encTerms x5)]
def encTerms : List Term → List (List D)
  | [] => []
  | x :: l => encTerm x :: encTerms l
end
theorem encTerms_map : ∀ l : List Term, encTerms l = l.map encTerm
  | [] => rfl
  | x :: l => by simp [encTerms, encTerms_map l]
mutual
def rankTerm : Term → Nat
  | ⟨x0, x1, x2, x3, x4, x5⟩ => rankTerms x5 + 1
def rankTerms : List Term → Nat
  | [] => 0
  | x :: l => max (rankTerm x) (rankTerms l)
end
def encTermX (x : Term) : List D := [.lit (.int .u8 x.Kind), .lit (.int .i64 x.Width), .lit (.int .u64 x.Bits), .lit (.string x.Name), .lit (.int .i64 x.Low), .list 6 (x.Sub.map encTerm)]
theorem encTerm_X (x : Term) : encTerm x = encTermX x := by
  cases x
  simp [encTerm, encTermX, encTerms_map]
structure MachEffect where
  Kind : Int
  Operand : Int
  Reg : Int
  Addr : Term
  Value : Term
  Cond : Term
instance : Inhabited MachEffect := ⟨⟨0, 0, 0, (default : Term), (default : Term), (default : Term)⟩⟩
def encMachEffect (x : MachEffect) : List D := [.lit (.int .u8 x.Kind), .lit (.int .i64 x.Operand), .lit (.int .i64 x.Reg)] ++ encTermX x.Addr ++ encTermX x.Value ++ encTermX x.Cond
structure MachInstr where
  Name : ByteArray
  Mask : Int
  Match : Int
  Operands : List MachOperand
  Effects : List MachEffect
  Unit : Int
  Busy : Int
  Latency : Int
  Slots : Int
instance : Inhabited MachInstr := ⟨⟨⟨#[]⟩, 0, 0, [], [], 0, 0, 0, 0⟩⟩
def encMachInstr (x : MachInstr) : List D := [.lit (.string x.Name), .lit (.int .u64 x.Mask), .lit (.int .u64 x.Match), .list 6 (x.Operands.map encMachOperand), .list 21 (x.Effects.map encMachEffect), .lit (.int .i64 x.Unit), .lit (.int .i64 x.Busy), .lit (.int .i64 x.Latency), .lit (.int .i64 x.Slots)]
structure Machine where
  Name : ByteArray
  Word : Int
  Address : Int
  Regs : List MachReg
  Banks : List MachBank
  Units : List MachUnit
  Instrs : List MachInstr
instance : Inhabited Machine := ⟨⟨⟨#[]⟩, 0, 0, [], [], [], []⟩⟩
def encMachine (x : Machine) : List D := [.lit (.string x.Name), .lit (.int .i64 x.Word), .lit (.int .i64 x.Address), .list 4 (x.Regs.map encMachReg), .list 2 (x.Banks.map encMachBank), .list 2 (x.Units.map encMachUnit), .list 9 (x.Instrs.map encMachInstr)]
structure MachOp where
  Instr : Int
  Args : List Int
instance : Inhabited MachOp := ⟨⟨0, []⟩⟩
def encMachOp (x : MachOp) : List D := [.lit (.int .i64 x.Instr), .list 1 (x.Args.map (eN .i64))]
structure machine_checker where
  Machine : Machine
  ok : Bool
instance : Inhabited machine_checker := ⟨⟨(default : Machine), false⟩⟩
def encmachine_checker (x : machine_checker) : List D := encMachine x.Machine ++ [.lit (.bool x.ok)]
structure term_shape where
  word : ByteArray
  parts : Int
  how : Int
instance : Inhabited term_shape := ⟨⟨⟨#[]⟩, 0, 0⟩⟩
def encterm_shape (x : term_shape) : List D := [.lit (.string x.word), .lit (.int .i64 x.parts), .lit (.int .i64 x.how)]
structure core_Place where
  Root : Int
  Low : Int
  Width : Int
instance : Inhabited core_Place := ⟨⟨0, 0, 0⟩⟩
def enccore_Place (x : core_Place) : List D := [.lit (.int .i64 x.Root), .lit (.int .i64 x.Low), .lit (.int .i64 x.Width)]
structure core_Core where
  Machine : Machine
  Roots : Int
  places : List core_Place
instance : Inhabited core_Core := ⟨⟨(default : Machine), 0, []⟩⟩
def enccore_Core (x : core_Core) : List D := encMachine x.Machine ++ [.lit (.int .i64 x.Roots), .list 3 (x.places.map enccore_Place)]
structure Pipe where
  At : Int
  Jumps : Bool
  Units : List (List Int)
  Regs : List Int
  Mem : Int
instance : Inhabited Pipe := ⟨⟨0, false, [], [], 0⟩⟩
def encPipe (x : Pipe) : List D := [.lit (.int .i64 x.At), .lit (.bool x.Jumps), .list 1 (x.Units.map (eL 1 (eN .i64))), .list 1 (x.Regs.map (eN .i64)), .lit (.int .i64 x.Mem)]
structure Touch where
  Reads : List Int
  Writes : List Int
  Loads : Bool
  Stores : Bool
  Jumps : Bool
  Traps : Bool
  Pc : Bool
instance : Inhabited Touch := ⟨⟨[], [], false, false, false, false, false⟩⟩
def encTouch (x : Touch) : List D := [.list 1 (x.Reads.map (eN .u64)), .list 1 (x.Writes.map (eN .u64)), .lit (.bool x.Loads), .lit (.bool x.Stores), .lit (.bool x.Jumps), .lit (.bool x.Traps), .lit (.bool x.Pc)]
def tencMachBank (x : MachBank) : List TC := [.av (.data (.lit (.string x.Name))), wR 3 1 (eN .i64) x.Regs]
theorem tmMachBank : TameF tencMachBank := ⟨fun x => (Tame.consD (Tame.consR .nil))⟩
theorem frMachBank : ∀ x, FrCs (tencMachBank x) (encMachBank x) := fun x => ⟨FrC.dat, ⟨FrC.row (fun _ => rfl), trivial⟩⟩
def tencPipe (x : Pipe) : List TC := [.av (.data (.lit (.int .i64 x.At))), .av (.data (.lit (.bool x.Jumps))), wT 29 1 (tL 3 1 (eN .i64)) x.Units, wR 3 1 (eN .i64) x.Regs, .av (.data (.lit (.int .i64 x.Mem)))]
theorem tmPipe : TameF tencPipe := ⟨fun x => (Tame.consD (Tame.consD (Tame.consT tmL (Tame.consR (Tame.consD .nil)))))⟩
theorem frPipe : ∀ x, FrCs (tencPipe x) (encPipe x) := fun x => ⟨FrC.dat, ⟨FrC.dat, ⟨FrC.tree (fun _ => rfl) (frL (fun _ => rfl)), ⟨FrC.row (fun _ => rfl), ⟨FrC.dat, trivial⟩⟩⟩⟩⟩
def tab0 : List term_shape := [⟨⟨#[]⟩, 0, 0⟩, ⟨⟨#[]⟩, 0, 0⟩, ⟨⟨#[]⟩, 0, 0⟩, ⟨⟨#[110, 111, 116]⟩, 1, 1⟩, ⟨⟨#[110, 101, 103]⟩, 1, 1⟩, ⟨⟨#[97, 100, 100]⟩, 2, 1⟩, ⟨⟨#[115, 117, 98]⟩, 2, 1⟩, ⟨⟨#[109, 117, 108]⟩, 2, 1⟩, ⟨⟨#[97, 110, 100]⟩, 2, 1⟩, ⟨⟨#[111, 114]⟩, 2, 1⟩, ⟨⟨#[120, 111, 114]⟩, 2, 1⟩, ⟨⟨#[115, 104, 108]⟩, 2, 1⟩, ⟨⟨#[115, 104, 114]⟩, 2, 1⟩, ⟨⟨#[115, 97, 114]⟩, 2, 1⟩, ⟨⟨#[117, 100, 105, 118]⟩, 2, 1⟩, ⟨⟨#[117, 114, 101, 109]⟩, 2, 1⟩, ⟨⟨#[101, 113]⟩, 2, 2⟩, ⟨⟨#[117, 108, 116]⟩, 2, 2⟩, ⟨⟨#[115, 108, 116]⟩, 2, 2⟩, ⟨⟨#[105, 116, 101]⟩, 3, 3⟩, ⟨⟨#[99, 111, 110, 99, 97, 116]⟩, 2, 4⟩, ⟨⟨#[101, 120, 116, 114, 97, 99, 116]⟩, 1, 5⟩, ⟨⟨#[122, 101, 120, 116]⟩, 1, 6⟩, ⟨⟨#[115, 101, 120, 116]⟩, 1, 6⟩, ⟨⟨#[108, 111, 97, 100]⟩, 1, 7⟩]
noncomputable def K0 : GL := fun i => bif Nat.beq i 0 then some (tab0.flatMap encterm_shape) else none
theorem hG0 : K0 0 = some (tab0.flatMap encterm_shape) := rfl
theorem mixed : Tryz.prog.follows .mixedOrders = true := by kernel_rfl
theorem zr_27 : Zr Tryz.prog 27 [.string ⟨#[]⟩, .int .i64 0, .int .i64 0, .slice none 0 0, .slice none 0 0, .slice none 0 0, .slice none 0 0] := ⟨⟨.agg #[.string ⟨#[]⟩, .int .i64 0, .int .i64 0, .slice none 0 0, .slice none 0 0, .slice none 0 0, .slice none 0 0], fun _ => by kernel_rfl, rfl⟩, by simp [Value.oneCell']⟩
theorem pl_92 : Pl Tryz.prog 92 [(0, 1), (1, 1)] := ⟨_, Tryz.underlying92, fun _ => by kernel_rfl⟩
theorem zr_92 : Zr Tryz.prog 92 [.string ⟨#[]⟩, .int .i64 0] := ⟨⟨.agg #[.string ⟨#[]⟩, .int .i64 0], fun _ => by kernel_rfl, rfl⟩, by simp [Value.oneCell']⟩
theorem ty_92 : Ty Tryz.prog 92 2 true := ⟨fun _ => by kernel_rfl, fun _ => by kernel_rfl⟩
theorem pl_27 : Pl Tryz.prog 27 [(0, 1), (1, 1), (2, 1), (3, 1), (4, 1), (5, 1), (6, 1)] := ⟨_, Tryz.underlying27, fun _ => by kernel_rfl⟩
theorem ty_27 : Ty Tryz.prog 27 7 true := ⟨fun _ => by kernel_rfl, fun _ => by kernel_rfl⟩
theorem pl_97 : Pl Tryz.prog 97 [(0, 1), (1, 1)] := ⟨_, Tryz.underlying97, fun _ => by kernel_rfl⟩
theorem zr_97 : Zr Tryz.prog 97 [.string ⟨#[]⟩, .slice none 0 0] := ⟨⟨.agg #[.string ⟨#[]⟩, .slice none 0 0], fun _ => by kernel_rfl, rfl⟩, by simp [Value.oneCell']⟩
theorem ty_97 : Ty Tryz.prog 97 2 true := ⟨fun _ => by kernel_rfl, fun _ => by kernel_rfl⟩
theorem ty_9 : Ty Tryz.prog 9 1 false := ⟨fun _ => by kernel_rfl, fun _ => by kernel_rfl⟩
theorem zr_9 : Zr Tryz.prog 9 [.string ⟨#[]⟩] := ⟨⟨.string ⟨#[]⟩, fun _ => by kernel_rfl, rfl⟩, by simp [Value.oneCell']⟩
theorem fld_27_3 : Fld Tryz.prog 27 3 3 := ⟨fun _ _ => by kernel_rfl⟩
theorem ty_22 : Ty Tryz.prog 22 1 false := ⟨fun _ => by kernel_rfl, fun _ => by kernel_rfl⟩
theorem pl_100 : Pl Tryz.prog 100 [(0, 1), (1, 1), (2, 1), (3, 1)] := ⟨_, Tryz.underlying100, fun _ => by kernel_rfl⟩
theorem zr_100 : Zr Tryz.prog 100 [.string ⟨#[]⟩, .int .i64 0, .int .i64 0, .int .i64 0] := ⟨⟨.agg #[.string ⟨#[]⟩, .int .i64 0, .int .i64 0, .int .i64 0], fun _ => by kernel_rfl, rfl⟩, by simp [Value.oneCell']⟩
theorem ty_100 : Ty Tryz.prog 100 4 true := ⟨fun _ => by kernel_rfl, fun _ => by kernel_rfl⟩
theorem el_100 : El Tryz.prog 100 4 40 := ⟨by obtain ⟨i, h1, h2, h3, h4⟩ := info_parts (show (Tryz.prog.info? 100).map (fun i => (i.zero, i.size, i.bytes)) = some (some (.agg #[.string ⟨#[]⟩, .int .i64 0, .int .i64 0, .int .i64 0]), 4, 40) by kernel_rfl); exact ⟨i, _, h1, h2, h3, h4, rfl⟩, by decide⟩
theorem fld_97_1 : Fld Tryz.prog 97 1 1 := ⟨fun _ _ => by kernel_rfl⟩
theorem ty_29 : Ty Tryz.prog 29 1 false := ⟨fun _ => by kernel_rfl, fun _ => by kernel_rfl⟩
theorem ty_3 : Ty Tryz.prog 3 1 false := ⟨fun _ => by kernel_rfl, fun _ => by kernel_rfl⟩
theorem zr_3 : Zr Tryz.prog 3 [.int .i64 0] := ⟨⟨.int .i64 0, fun _ => by kernel_rfl, rfl⟩, by simp [Value.oneCell']⟩
theorem el_3 : El Tryz.prog 3 1 8 := ⟨by obtain ⟨i, h1, h2, h3, h4⟩ := info_parts (show (Tryz.prog.info? 3).map (fun i => (i.zero, i.size, i.bytes)) = some (some (.int .i64 0), 1, 8) by kernel_rfl); exact ⟨i, _, h1, h2, h3, h4, rfl⟩, by decide⟩
theorem fld_27_4 : Fld Tryz.prog 27 4 4 := ⟨fun _ _ => by kernel_rfl⟩
theorem ty_23 : Ty Tryz.prog 23 1 false := ⟨fun _ => by kernel_rfl, fun _ => by kernel_rfl⟩
theorem pl_110 : Pl Tryz.prog 110 [(0, 1), (1, 1)] := ⟨_, Tryz.underlying110, fun _ => by kernel_rfl⟩
theorem zr_110 : Zr Tryz.prog 110 [.int .i64 0, .int .i64 0] := ⟨⟨.agg #[.int .i64 0, .int .i64 0], fun _ => by kernel_rfl, rfl⟩, by simp [Value.oneCell']⟩
theorem ty_110 : Ty Tryz.prog 110 2 true := ⟨fun _ => by kernel_rfl, fun _ => by kernel_rfl⟩
theorem zr_107 : Zr Tryz.prog 107 [.string ⟨#[]⟩, .int .u8 0, .int .i64 0, .int .i64 0, .slice none 0 0, .int .i64 0] := ⟨⟨.agg #[.string ⟨#[]⟩, .int .u8 0, .int .i64 0, .int .i64 0, .slice none 0 0, .int .i64 0], fun _ => by kernel_rfl, rfl⟩, by simp [Value.oneCell']⟩
theorem pl_107 : Pl Tryz.prog 107 [(0, 1), (1, 1), (2, 1), (3, 1), (4, 1), (5, 1)] := ⟨_, Tryz.underlying107, fun _ => by kernel_rfl⟩
theorem ty_107 : Ty Tryz.prog 107 6 true := ⟨fun _ => by kernel_rfl, fun _ => by kernel_rfl⟩
theorem ent_48 : Ent1 Tryz.prog 48 := ent1_of Tryz.func48 (by kernel_rfl) rfl
theorem ent_52 : Ent1 Tryz.prog 52 := ent1_of Tryz.func52 (by kernel_rfl) rfl
theorem zr_114 : Zr Tryz.prog 114 [.int .u8 0, .int .i64 0, .int .u64 0, .string ⟨#[]⟩, .int .i64 0, .slice none 0 0] := ⟨⟨.agg #[.int .u8 0, .int .i64 0, .int .u64 0, .string ⟨#[]⟩, .int .i64 0, .slice none 0 0], fun _ => by kernel_rfl, rfl⟩, by simp [Value.oneCell']⟩
theorem pl_114 : Pl Tryz.prog 114 [(0, 1), (1, 1), (2, 1), (3, 1), (4, 1), (5, 1)] := ⟨_, Tryz.underlying114, fun _ => by kernel_rfl⟩
theorem ty_114 : Ty Tryz.prog 114 6 true := ⟨fun _ => by kernel_rfl, fun _ => by kernel_rfl⟩
theorem ent_49 : Ent1 Tryz.prog 49 := ent1_of Tryz.func49 (by kernel_rfl) rfl
theorem zr_118 : Zr Tryz.prog 118 [.int .u8 0, .int .i64 0, .int .i64 0, .int .u8 0, .int .i64 0, .int .u64 0, .string ⟨#[]⟩, .int .i64 0, .slice none 0 0, .int .u8 0, .int .i64 0, .int .u64 0, .string ⟨#[]⟩, .int .i64 0, .slice none 0 0, .int .u8 0, .int .i64 0, .int .u64 0, .string ⟨#[]⟩, .int .i64 0, .slice none 0 0] := ⟨⟨.agg #[.int .u8 0, .int .i64 0, .int .i64 0, .int .u8 0, .int .i64 0, .int .u64 0, .string ⟨#[]⟩, .int .i64 0, .slice none 0 0, .int .u8 0, .int .i64 0, .int .u64 0, .string ⟨#[]⟩, .int .i64 0, .slice none 0 0, .int .u8 0, .int .i64 0, .int .u64 0, .string ⟨#[]⟩, .int .i64 0, .slice none 0 0], fun _ => by kernel_rfl, rfl⟩, by simp [Value.oneCell']⟩
theorem pl_118 : Pl Tryz.prog 118 [(0, 1), (1, 1), (2, 1), (3, 6), (9, 6), (15, 6)] := ⟨_, Tryz.underlying118, fun _ => by kernel_rfl⟩
theorem ty_118 : Ty Tryz.prog 118 21 true := ⟨fun _ => by kernel_rfl, fun _ => by kernel_rfl⟩
theorem ent_50 : Ent1 Tryz.prog 50 := ent1_of Tryz.func50 (by kernel_rfl) rfl
theorem fld_27_6 : Fld Tryz.prog 27 6 6 := ⟨fun _ _ => by kernel_rfl⟩
theorem ty_25 : Ty Tryz.prog 25 1 false := ⟨fun _ => by kernel_rfl, fun _ => by kernel_rfl⟩
theorem pl_61 : Pl Tryz.prog 61 [(0, 1), (1, 1), (2, 1), (3, 1), (4, 1), (5, 1), (6, 1), (7, 1), (8, 1)] := ⟨_, Tryz.underlying61, fun _ => by kernel_rfl⟩
theorem zr_61 : Zr Tryz.prog 61 [.string ⟨#[]⟩, .int .u64 0, .int .u64 0, .slice none 0 0, .slice none 0 0, .int .i64 0, .int .i64 0, .int .i64 0, .int .i64 0] := ⟨⟨.agg #[.string ⟨#[]⟩, .int .u64 0, .int .u64 0, .slice none 0 0, .slice none 0 0, .int .i64 0, .int .i64 0, .int .i64 0, .int .i64 0], fun _ => by kernel_rfl, rfl⟩, by simp [Value.oneCell']⟩
theorem ty_61 : Ty Tryz.prog 61 9 true := ⟨fun _ => by kernel_rfl, fun _ => by kernel_rfl⟩
theorem el_61 : El Tryz.prog 61 9 112 := ⟨by obtain ⟨i, h1, h2, h3, h4⟩ := info_parts (show (Tryz.prog.info? 61).map (fun i => (i.zero, i.size, i.bytes)) = some (some (.agg #[.string ⟨#[]⟩, .int .u64 0, .int .u64 0, .slice none 0 0, .slice none 0 0, .int .i64 0, .int .i64 0, .int .i64 0, .int .i64 0]), 9, 112) by kernel_rfl); exact ⟨i, _, h1, h2, h3, h4, rfl⟩, by decide⟩
theorem ent_77 : Ent1 Tryz.prog 77 := ent1_of Tryz.func77 (by kernel_rfl) rfl
theorem ent_54 : Ent1 Tryz.prog 54 := ent1_of Tryz.func54 (by kernel_rfl) rfl
theorem ent_51 : Ent1 Tryz.prog 51 := ent1_of Tryz.func51 (by kernel_rfl) rfl
theorem fld_114_1 : Fld Tryz.prog 114 1 1 := ⟨fun _ _ => by kernel_rfl⟩
theorem ent_56 : Ent1 Tryz.prog 56 := ent1_of Tryz.func56 (by kernel_rfl) rfl
theorem ent_78 : Ent1 Tryz.prog 78 := ent1_of Tryz.func78 (by kernel_rfl) rfl
theorem ent_79 : Ent1 Tryz.prog 79 := ent1_of Tryz.func79 (by kernel_rfl) rfl
theorem ty_5 : Ty Tryz.prog 5 1 false := ⟨fun _ => by kernel_rfl, fun _ => by kernel_rfl⟩
theorem zr_5 : Zr Tryz.prog 5 [.int .u8 0] := ⟨⟨.int .u8 0, fun _ => by kernel_rfl, rfl⟩, by simp [Value.oneCell']⟩
theorem ent_42 : Ent1 Tryz.prog 42 := ent1_of Tryz.func42 (by kernel_rfl) rfl
theorem ent_53 : Ent1 Tryz.prog 53 := ent1_of Tryz.func53 (by kernel_rfl) rfl
theorem ent_43 : Ent1 Tryz.prog 43 := ent1_of Tryz.func43 (by kernel_rfl) rfl
theorem ent_80 : Ent1 Tryz.prog 80 := ent1_of Tryz.func80 (by kernel_rfl) rfl
theorem ent_55 : Ent1 Tryz.prog 55 := ent1_of Tryz.func55 (by kernel_rfl) rfl
theorem ent_57 : Ent1 Tryz.prog 57 := ent1_of Tryz.func57 (by kernel_rfl) rfl
theorem ent_44 : Ent1 Tryz.prog 44 := ent1_of Tryz.func44 (by kernel_rfl) rfl
theorem ent_23 : Ent1 Tryz.prog 23 := ent1_of Tryz.func23 (by kernel_rfl) rfl
theorem el_9 : El Tryz.prog 9 1 16 := ⟨by obtain ⟨i, h1, h2, h3, h4⟩ := info_parts (show (Tryz.prog.info? 9).map (fun i => (i.zero, i.size, i.bytes)) = some (some (.string ⟨#[]⟩), 1, 16) by kernel_rfl); exact ⟨i, _, h1, h2, h3, h4, rfl⟩, by decide⟩
theorem ent_45 : Ent1 Tryz.prog 45 := ent1_of Tryz.func45 (by kernel_rfl) rfl
theorem ent_47 : Ent1 Tryz.prog 47 := ent1_of Tryz.func47 (by kernel_rfl) rfl
theorem ent_46 : Ent1 Tryz.prog 46 := ent1_of Tryz.func46 (by kernel_rfl) rfl
theorem ent_24 : Ent1 Tryz.prog 24 := ent1_of Tryz.func24 (by kernel_rfl) rfl
theorem ent_58 : Ent1 Tryz.prog 58 := ent1_of Tryz.func58 (by kernel_rfl) rfl
theorem ent_59 : Ent1 Tryz.prog 59 := ent1_of Tryz.func59 (by kernel_rfl) rfl
theorem ent_25 : Ent1 Tryz.prog 25 := ent1_of Tryz.func25 (by kernel_rfl) rfl
theorem ent_8 : Ent1 Tryz.prog 8 := ent1_of Tryz.func8 (by kernel_rfl) rfl
theorem pl_31 : Pl Tryz.prog 31 [(0, 1), (1, 1)] := ⟨_, Tryz.underlying31, fun _ => by kernel_rfl⟩
theorem zr_31 : Zr Tryz.prog 31 [.int .i64 0, .slice none 0 0] := ⟨⟨.agg #[.int .i64 0, .slice none 0 0], fun _ => by kernel_rfl, rfl⟩, by simp [Value.oneCell']⟩
theorem ty_31 : Ty Tryz.prog 31 2 true := ⟨fun _ => by kernel_rfl, fun _ => by kernel_rfl⟩
theorem zr_34 : Zr Tryz.prog 34 [.int .i64 0, .bool false, .slice none 0 0, .slice none 0 0, .int .i64 0] := ⟨⟨.agg #[.int .i64 0, .bool false, .slice none 0 0, .slice none 0 0, .int .i64 0], fun _ => by kernel_rfl, rfl⟩, by simp [Value.oneCell']⟩
theorem ent_119 : Ent1 Tryz.prog 119 := ent1_of Tryz.func119 (by kernel_rfl) rfl
theorem ent_103 : Ent1 Tryz.prog 103 := ent1_of Tryz.func103 (by kernel_rfl) rfl
theorem fld_27_5 : Fld Tryz.prog 27 5 5 := ⟨fun _ _ => by kernel_rfl⟩
theorem ty_24 : Ty Tryz.prog 24 1 false := ⟨fun _ => by kernel_rfl, fun _ => by kernel_rfl⟩
theorem fld_61_3 : Fld Tryz.prog 61 3 3 := ⟨fun _ _ => by kernel_rfl⟩
theorem ty_58 : Ty Tryz.prog 58 1 false := ⟨fun _ => by kernel_rfl, fun _ => by kernel_rfl⟩
theorem fld_61_4 : Fld Tryz.prog 61 4 4 := ⟨fun _ _ => by kernel_rfl⟩
theorem ty_59 : Ty Tryz.prog 59 1 false := ⟨fun _ => by kernel_rfl, fun _ => by kernel_rfl⟩
theorem fld_107_4 : Fld Tryz.prog 107 4 4 := ⟨fun _ _ => by kernel_rfl⟩
theorem ty_105 : Ty Tryz.prog 105 1 false := ⟨fun _ => by kernel_rfl, fun _ => by kernel_rfl⟩
theorem ent_83 : Ent1 Tryz.prog 83 := ent1_of Tryz.func83 (by kernel_rfl) rfl
theorem pl_150 : Pl Tryz.prog 150 [(0, 7), (7, 1)] := ⟨_, Tryz.underlying150, fun _ => by kernel_rfl⟩
theorem zr_150 : Zr Tryz.prog 150 [.string ⟨#[]⟩, .int .i64 0, .int .i64 0, .slice none 0 0, .slice none 0 0, .slice none 0 0, .slice none 0 0, .bool false] := ⟨⟨.agg #[.string ⟨#[]⟩, .int .i64 0, .int .i64 0, .slice none 0 0, .slice none 0 0, .slice none 0 0, .slice none 0 0, .bool false], fun _ => by kernel_rfl, rfl⟩, by simp [Value.oneCell']⟩
theorem fld_27_0 : Fld Tryz.prog 27 0 0 := ⟨fun _ _ => by kernel_rfl⟩
theorem ent_85 : Ent1 Tryz.prog 85 := ent1_of Tryz.func85 (by kernel_rfl) rfl
theorem fld_27_1 : Fld Tryz.prog 27 1 1 := ⟨fun _ _ => by kernel_rfl⟩
theorem ent_64 : Ent1 Tryz.prog 64 := ent1_of Tryz.func64 (by kernel_rfl) rfl
theorem fld_27_2 : Fld Tryz.prog 27 2 2 := ⟨fun _ _ => by kernel_rfl⟩
theorem ty_4 : Ty Tryz.prog 4 1 false := ⟨fun _ => by kernel_rfl, fun _ => by kernel_rfl⟩
theorem zr_4 : Zr Tryz.prog 4 [.bool false] := ⟨⟨.bool false, fun _ => by kernel_rfl, rfl⟩, by simp [Value.oneCell']⟩
theorem fld_150_1 : Fld Tryz.prog 150 1 7 := ⟨fun _ _ => by kernel_rfl⟩
theorem ent_84 : Ent1 Tryz.prog 84 := ent1_of Tryz.func84 (by kernel_rfl) rfl
theorem zr_154 : Zr Tryz.prog 154 [.slice none 0 0] := ⟨⟨.agg #[.slice none 0 0], fun _ => by kernel_rfl, rfl⟩, by simp [Value.oneCell']⟩
theorem fld_150_0 : Fld Tryz.prog 150 0 0 := ⟨fun _ _ => by kernel_rfl⟩
theorem fld_100_0 : Fld Tryz.prog 100 0 0 := ⟨fun _ _ => by kernel_rfl⟩
theorem fld_154_0 : Fld Tryz.prog 154 0 0 := ⟨fun _ _ => by kernel_rfl⟩
theorem ty_98 : Ty Tryz.prog 98 1 false := ⟨fun _ => by kernel_rfl, fun _ => by kernel_rfl⟩
theorem ent_118 : Ent1 Tryz.prog 118 := ent1_of Tryz.func118 (by kernel_rfl) rfl
theorem ent_99 : Ent1 Tryz.prog 99 := ent1_of Tryz.func99 (by kernel_rfl) rfl
theorem ent_89 : Ent1 Tryz.prog 89 := ent1_of Tryz.func89 (by kernel_rfl) rfl
theorem fld_100_1 : Fld Tryz.prog 100 1 1 := ⟨fun _ _ => by kernel_rfl⟩
theorem fld_100_2 : Fld Tryz.prog 100 2 2 := ⟨fun _ _ => by kernel_rfl⟩
theorem fld_100_3 : Fld Tryz.prog 100 3 3 := ⟨fun _ _ => by kernel_rfl⟩
theorem ent_86 : Ent1 Tryz.prog 86 := ent1_of Tryz.func86 (by kernel_rfl) rfl
theorem fld_97_0 : Fld Tryz.prog 97 0 0 := ⟨fun _ _ => by kernel_rfl⟩
theorem ent_92 : Ent1 Tryz.prog 92 := ent1_of Tryz.func92 (by kernel_rfl) rfl
theorem ent_66 : Ent1 Tryz.prog 66 := ent1_of Tryz.func66 (by kernel_rfl) rfl
theorem ent_87 : Ent1 Tryz.prog 87 := ent1_of Tryz.func87 (by kernel_rfl) rfl
theorem fld_92_0 : Fld Tryz.prog 92 0 0 := ⟨fun _ _ => by kernel_rfl⟩
theorem fld_92_1 : Fld Tryz.prog 92 1 1 := ⟨fun _ _ => by kernel_rfl⟩
theorem ent_88 : Ent1 Tryz.prog 88 := ent1_of Tryz.func88 (by kernel_rfl) rfl
theorem fld_61_0 : Fld Tryz.prog 61 0 0 := ⟨fun _ _ => by kernel_rfl⟩
theorem fld_61_1 : Fld Tryz.prog 61 1 1 := ⟨fun _ _ => by kernel_rfl⟩
theorem ty_57 : Ty Tryz.prog 57 1 false := ⟨fun _ => by kernel_rfl, fun _ => by kernel_rfl⟩
theorem ent_117 : Ent1 Tryz.prog 117 := ent1_of Tryz.func117 (by kernel_rfl) rfl
theorem ent_98 : Ent1 Tryz.prog 98 := ent1_of Tryz.func98 (by kernel_rfl) rfl
theorem fld_61_2 : Fld Tryz.prog 61 2 2 := ⟨fun _ _ => by kernel_rfl⟩
theorem pl_154 : Pl Tryz.prog 154 [(0, 1)] := ⟨_, Tryz.underlying154, fun _ => by kernel_rfl⟩
theorem ty_154 : Ty Tryz.prog 154 1 true := ⟨fun _ => by kernel_rfl, fun _ => by kernel_rfl⟩
theorem fld_107_0 : Fld Tryz.prog 107 0 0 := ⟨fun _ _ => by kernel_rfl⟩
theorem fld_110_1 : Fld Tryz.prog 110 1 1 := ⟨fun _ _ => by kernel_rfl⟩
theorem fld_110_0 : Fld Tryz.prog 110 0 0 := ⟨fun _ _ => by kernel_rfl⟩
theorem fld_107_1 : Fld Tryz.prog 107 1 1 := ⟨fun _ _ => by kernel_rfl⟩
theorem fld_107_2 : Fld Tryz.prog 107 2 2 := ⟨fun _ _ => by kernel_rfl⟩
theorem fld_107_3 : Fld Tryz.prog 107 3 3 := ⟨fun _ _ => by kernel_rfl⟩
theorem fld_107_5 : Fld Tryz.prog 107 5 5 := ⟨fun _ _ => by kernel_rfl⟩
theorem ent_91 : Ent1 Tryz.prog 91 := ent1_of Tryz.func91 (by kernel_rfl) rfl
theorem ent_104 : Ent1 Tryz.prog 104 := ent1_of Tryz.func104 (by kernel_rfl) rfl
theorem ent_120 : Ent1 Tryz.prog 120 := ent1_of Tryz.func120 (by kernel_rfl) rfl
theorem ent_105 : Ent1 Tryz.prog 105 := ent1_of Tryz.func105 (by kernel_rfl) rfl
theorem fld_118_0 : Fld Tryz.prog 118 0 0 := ⟨fun _ _ => by kernel_rfl⟩
theorem fld_118_1 : Fld Tryz.prog 118 1 1 := ⟨fun _ _ => by kernel_rfl⟩
theorem fld_118_2 : Fld Tryz.prog 118 2 2 := ⟨fun _ _ => by kernel_rfl⟩
theorem fld_118_4 : Fld Tryz.prog 118 4 9 := ⟨fun _ _ => by kernel_rfl⟩
theorem zr_35 : Zr Tryz.prog 35 [.int .i64 0] := ⟨⟨.int .i64 0, fun _ => by kernel_rfl, rfl⟩, by simp [Value.oneCell']⟩
theorem ent_133 : Ent1 Tryz.prog 133 := ent1_of Tryz.func133 (by kernel_rfl) rfl
theorem fld_114_5 : Fld Tryz.prog 114 5 5 := ⟨fun _ _ => by kernel_rfl⟩
theorem ty_112 : Ty Tryz.prog 112 1 false := ⟨fun _ => by kernel_rfl, fun _ => by kernel_rfl⟩
theorem ent_137 : Ent1 Tryz.prog 137 := ent1_of Tryz.func137 (by kernel_rfl) rfl
theorem ent_136 : Ent1 Tryz.prog 136 := ent1_of Tryz.func136 (by kernel_rfl) rfl
theorem ent_131 : Ent1 Tryz.prog 131 := ent1_of Tryz.func131 (by kernel_rfl) rfl
theorem ent_132 : Ent1 Tryz.prog 132 := ent1_of Tryz.func132 (by kernel_rfl) rfl
theorem ty_35 : Ty Tryz.prog 35 1 false := ⟨fun _ => by kernel_rfl, fun _ => by kernel_rfl⟩
theorem ent_138 : Ent1 Tryz.prog 138 := ent1_of Tryz.func138 (by kernel_rfl) rfl
theorem fld_114_0 : Fld Tryz.prog 114 0 0 := ⟨fun _ _ => by kernel_rfl⟩
theorem zr_205 : Zr Tryz.prog 205 [.string ⟨#[]⟩, .int .i64 0, .int .i64 0] := ⟨⟨.agg #[.string ⟨#[]⟩, .int .i64 0, .int .i64 0], fun _ => by kernel_rfl, rfl⟩, by simp [Value.oneCell']⟩
theorem pl_205 : Pl Tryz.prog 205 [(0, 1), (1, 1), (2, 1)] := ⟨_, Tryz.underlying205, fun _ => by kernel_rfl⟩
theorem ty_205 : Ty Tryz.prog 205 3 true := ⟨fun _ => by kernel_rfl, fun _ => by kernel_rfl⟩
theorem fld_205_1 : Fld Tryz.prog 205 1 1 := ⟨fun _ _ => by kernel_rfl⟩
theorem ent_139 : Ent1 Tryz.prog 139 := ent1_of Tryz.func139 (by kernel_rfl) rfl
theorem fld_114_4 : Fld Tryz.prog 114 4 4 := ⟨fun _ _ => by kernel_rfl⟩
theorem fld_114_3 : Fld Tryz.prog 114 3 3 := ⟨fun _ _ => by kernel_rfl⟩
theorem fld_114_2 : Fld Tryz.prog 114 2 2 := ⟨fun _ _ => by kernel_rfl⟩
theorem ent_140 : Ent1 Tryz.prog 140 := ent1_of Tryz.func140 (by kernel_rfl) rfl
theorem ent_149 : Ent1 Tryz.prog 149 := ent1_of Tryz.func149 (by kernel_rfl) rfl
theorem ent_147 : Ent1 Tryz.prog 147 := ent1_of Tryz.func147 (by kernel_rfl) rfl
theorem ent_143 : Ent1 Tryz.prog 143 := ent1_of Tryz.func143 (by kernel_rfl) rfl
theorem ent_141 : Ent1 Tryz.prog 141 := ent1_of Tryz.func141 (by kernel_rfl) rfl
theorem fld_205_2 : Fld Tryz.prog 205 2 2 := ⟨fun _ _ => by kernel_rfl⟩
theorem ent_145 : Ent1 Tryz.prog 145 := ent1_of Tryz.func145 (by kernel_rfl) rfl
theorem ent_148 : Ent1 Tryz.prog 148 := ent1_of Tryz.func148 (by kernel_rfl) rfl
theorem ent_144 : Ent1 Tryz.prog 144 := ent1_of Tryz.func144 (by kernel_rfl) rfl
theorem ent_146 : Ent1 Tryz.prog 146 := ent1_of Tryz.func146 (by kernel_rfl) rfl
theorem ent_142 : Ent1 Tryz.prog 142 := ent1_of Tryz.func142 (by kernel_rfl) rfl
theorem ent_134 : Ent1 Tryz.prog 134 := ent1_of Tryz.func134 (by kernel_rfl) rfl
theorem zr_138 : Zr Tryz.prog 138 [.map none] := ⟨⟨.map none, fun _ => by kernel_rfl, rfl⟩, by simp [Value.oneCell']⟩
theorem ty_138 : Ty Tryz.prog 138 1 false := ⟨fun _ => by kernel_rfl, fun _ => by kernel_rfl⟩
theorem zv_3 : ∀ w, (zeroValue 3).run Tryz.prog w = .ok (.int .i64 0) w := fun _ => by kernel_rfl
theorem ent_135 : Ent1 Tryz.prog 135 := ent1_of Tryz.func135 (by kernel_rfl) rfl
theorem ent_128 : Ent1 Tryz.prog 128 := ent1_of Tryz.func128 (by kernel_rfl) rfl
theorem ent_129 : Ent1 Tryz.prog 129 := ent1_of Tryz.func129 (by kernel_rfl) rfl
theorem ent_121 : Ent1 Tryz.prog 121 := ent1_of Tryz.func121 (by kernel_rfl) rfl
theorem fld_118_3 : Fld Tryz.prog 118 3 3 := ⟨fun _ _ => by kernel_rfl⟩
theorem fld_118_5 : Fld Tryz.prog 118 5 15 := ⟨fun _ _ => by kernel_rfl⟩
theorem ent_122 : Ent1 Tryz.prog 122 := ent1_of Tryz.func122 (by kernel_rfl) rfl
theorem ent_106 : Ent1 Tryz.prog 106 := ent1_of Tryz.func106 (by kernel_rfl) rfl
theorem fld_61_5 : Fld Tryz.prog 61 5 5 := ⟨fun _ _ => by kernel_rfl⟩
theorem fld_61_6 : Fld Tryz.prog 61 6 6 := ⟨fun _ _ => by kernel_rfl⟩
theorem fld_61_7 : Fld Tryz.prog 61 7 7 := ⟨fun _ _ => by kernel_rfl⟩
theorem fld_61_8 : Fld Tryz.prog 61 8 8 := ⟨fun _ _ => by kernel_rfl⟩
theorem ent_90 : Ent1 Tryz.prog 90 := ent1_of Tryz.func90 (by kernel_rfl) rfl
theorem ent_63 : Ent1 Tryz.prog 63 := ent1_of Tryz.func63 (by kernel_rfl) rfl
theorem ent_81 : Ent1 Tryz.prog 81 := ent1_of Tryz.func81 (by kernel_rfl) rfl
theorem ent_60 : Ent1 Tryz.prog 60 := ent1_of Tryz.func60 (by kernel_rfl) rfl
theorem pl_89 : Pl Tryz.prog 89 [(0, 7), (7, 1), (8, 1)] := ⟨_, Tryz.underlying89, fun _ => by kernel_rfl⟩
theorem zr_89 : Zr Tryz.prog 89 [.string ⟨#[]⟩, .int .i64 0, .int .i64 0, .slice none 0 0, .slice none 0 0, .slice none 0 0, .slice none 0 0, .int .i64 0, .slice none 0 0] := ⟨⟨.agg #[.string ⟨#[]⟩, .int .i64 0, .int .i64 0, .slice none 0 0, .slice none 0 0, .slice none 0 0, .slice none 0 0, .int .i64 0, .slice none 0 0], fun _ => by kernel_rfl, rfl⟩, by simp [Value.oneCell']⟩
theorem ent_97 : Ent1 Tryz.prog 97 := ent1_of Tryz.func97 (by kernel_rfl) rfl
theorem ent_71 : Ent1 Tryz.prog 71 := ent1_of Tryz.func71 (by kernel_rfl) rfl
theorem ent_82 : Ent1 Tryz.prog 82 := ent1_of Tryz.func82 (by kernel_rfl) rfl
theorem ent_61 : Ent1 Tryz.prog 61 := ent1_of Tryz.func61 (by kernel_rfl) rfl
theorem fld_89_2 : Fld Tryz.prog 89 2 8 := ⟨fun _ _ => by kernel_rfl⟩
theorem ty_87 : Ty Tryz.prog 87 1 false := ⟨fun _ => by kernel_rfl, fun _ => by kernel_rfl⟩
theorem pl_129 : Pl Tryz.prog 129 [(0, 1), (1, 1), (2, 1)] := ⟨_, Tryz.underlying129, fun _ => by kernel_rfl⟩
theorem zr_129 : Zr Tryz.prog 129 [.int .i64 0, .int .i64 0, .int .i64 0] := ⟨⟨.agg #[.int .i64 0, .int .i64 0, .int .i64 0], fun _ => by kernel_rfl, rfl⟩, by simp [Value.oneCell']⟩
theorem ty_129 : Ty Tryz.prog 129 3 true := ⟨fun _ => by kernel_rfl, fun _ => by kernel_rfl⟩
theorem el_129 : El Tryz.prog 129 3 24 := ⟨by obtain ⟨i, h1, h2, h3, h4⟩ := info_parts (show (Tryz.prog.info? 129).map (fun i => (i.zero, i.size, i.bytes)) = some (some (.agg #[.int .i64 0, .int .i64 0, .int .i64 0]), 3, 24) by kernel_rfl); exact ⟨i, _, h1, h2, h3, h4, rfl⟩, by decide⟩
theorem ent_26 : Ent1 Tryz.prog 26 := ent1_of Tryz.func26 (by kernel_rfl) rfl
theorem pl_34 : Pl Tryz.prog 34 [(0, 1), (1, 1), (2, 1), (3, 1), (4, 1)] := ⟨_, Tryz.underlying34, fun _ => by kernel_rfl⟩
theorem ty_34 : Ty Tryz.prog 34 5 true := ⟨fun _ => by kernel_rfl, fun _ => by kernel_rfl⟩
theorem fld_89_1 : Fld Tryz.prog 89 1 7 := ⟨fun _ _ => by kernel_rfl⟩
theorem fld_89_0 : Fld Tryz.prog 89 0 0 := ⟨fun _ _ => by kernel_rfl⟩
theorem fld_34_2 : Fld Tryz.prog 34 2 2 := ⟨fun _ _ => by kernel_rfl⟩
theorem ty_32 : Ty Tryz.prog 32 1 false := ⟨fun _ => by kernel_rfl, fun _ => by kernel_rfl⟩
theorem zr_29 : Zr Tryz.prog 29 [.slice none 0 0] := ⟨⟨.slice none 0 0, fun _ => by kernel_rfl, rfl⟩, by simp [Value.oneCell']⟩
theorem el_29 : El Tryz.prog 29 1 24 := ⟨by obtain ⟨i, h1, h2, h3, h4⟩ := info_parts (show (Tryz.prog.info? 29).map (fun i => (i.zero, i.size, i.bytes)) = some (some (.slice none 0 0), 1, 24) by kernel_rfl); exact ⟨i, _, h1, h2, h3, h4, rfl⟩, by decide⟩
theorem ent_27 : Ent1 Tryz.prog 27 := ent1_of Tryz.func27 (by kernel_rfl) rfl
theorem ent_9 : Ent1 Tryz.prog 9 := ent1_of Tryz.func9 (by kernel_rfl) rfl
theorem fld_34_3 : Fld Tryz.prog 34 3 3 := ⟨fun _ _ => by kernel_rfl⟩
theorem fld_34_0 : Fld Tryz.prog 34 0 0 := ⟨fun _ _ => by kernel_rfl⟩
theorem fld_34_4 : Fld Tryz.prog 34 4 4 := ⟨fun _ _ => by kernel_rfl⟩
theorem ent_62 : Ent1 Tryz.prog 62 := ent1_of Tryz.func62 (by kernel_rfl) rfl
theorem ent_34 : Ent1 Tryz.prog 34 := ent1_of Tryz.func34 (by kernel_rfl) rfl
theorem ent_36 : Ent1 Tryz.prog 36 := ent1_of Tryz.func36 (by kernel_rfl) rfl
theorem ent_28 : Ent1 Tryz.prog 28 := ent1_of Tryz.func28 (by kernel_rfl) rfl
theorem fld_31_0 : Fld Tryz.prog 31 0 0 := ⟨fun _ _ => by kernel_rfl⟩
theorem fld_31_1 : Fld Tryz.prog 31 1 1 := ⟨fun _ _ => by kernel_rfl⟩
theorem ent_65 : Ent1 Tryz.prog 65 := ent1_of Tryz.func65 (by kernel_rfl) rfl
theorem ent_29 : Ent1 Tryz.prog 29 := ent1_of Tryz.func29 (by kernel_rfl) rfl
theorem zr_85 : Zr Tryz.prog 85 [.slice none 0 0, .slice none 0 0, .bool false, .bool false, .bool false, .bool false, .bool false] := ⟨⟨.agg #[.slice none 0 0, .slice none 0 0, .bool false, .bool false, .bool false, .bool false, .bool false], fun _ => by kernel_rfl, rfl⟩, by simp [Value.oneCell']⟩
theorem el_57 : El Tryz.prog 57 1 8 := ⟨by obtain ⟨i, h1, h2, h3, h4⟩ := info_parts (show (Tryz.prog.info? 57).map (fun i => (i.zero, i.size, i.bytes)) = some (some (.int .u64 0), 1, 8) by kernel_rfl); exact ⟨i, _, h1, h2, h3, h4, rfl⟩, by decide⟩
theorem zr_57 : Zr Tryz.prog 57 [.int .u64 0] := ⟨⟨.int .u64 0, fun _ => by kernel_rfl, rfl⟩, by simp [Value.oneCell']⟩
theorem pl_85 : Pl Tryz.prog 85 [(0, 1), (1, 1), (2, 1), (3, 1), (4, 1), (5, 1), (6, 1)] := ⟨_, Tryz.underlying85, fun _ => by kernel_rfl⟩
theorem ty_85 : Ty Tryz.prog 85 7 true := ⟨fun _ => by kernel_rfl, fun _ => by kernel_rfl⟩
theorem ent_72 : Ent1 Tryz.prog 72 := ent1_of Tryz.func72 (by kernel_rfl) rfl
theorem fld_85_1 : Fld Tryz.prog 85 1 1 := ⟨fun _ _ => by kernel_rfl⟩
theorem ty_83 : Ty Tryz.prog 83 1 false := ⟨fun _ => by kernel_rfl, fun _ => by kernel_rfl⟩
theorem fld_129_0 : Fld Tryz.prog 129 0 0 := ⟨fun _ _ => by kernel_rfl⟩
theorem fld_129_2 : Fld Tryz.prog 129 2 2 := ⟨fun _ _ => by kernel_rfl⟩
theorem fld_129_1 : Fld Tryz.prog 129 1 1 := ⟨fun _ _ => by kernel_rfl⟩
theorem ent_73 : Ent1 Tryz.prog 73 := ent1_of Tryz.func73 (by kernel_rfl) rfl
theorem fld_85_3 : Fld Tryz.prog 85 3 3 := ⟨fun _ _ => by kernel_rfl⟩
theorem fld_85_4 : Fld Tryz.prog 85 4 4 := ⟨fun _ _ => by kernel_rfl⟩
theorem fld_85_5 : Fld Tryz.prog 85 5 5 := ⟨fun _ _ => by kernel_rfl⟩
theorem fld_85_0 : Fld Tryz.prog 85 0 0 := ⟨fun _ _ => by kernel_rfl⟩
theorem fld_85_6 : Fld Tryz.prog 85 6 6 := ⟨fun _ _ => by kernel_rfl⟩
theorem fld_85_2 : Fld Tryz.prog 85 2 2 := ⟨fun _ _ => by kernel_rfl⟩
theorem ent_74 : Ent1 Tryz.prog 74 := ent1_of Tryz.func74 (by kernel_rfl) rfl
theorem ent_37 : Ent1 Tryz.prog 37 := ent1_of Tryz.func37 (by kernel_rfl) rfl
theorem fld_34_1 : Fld Tryz.prog 34 1 1 := ⟨fun _ _ => by kernel_rfl⟩
theorem ent_93 : Ent1 Tryz.prog 93 := ent1_of Tryz.func93 (by kernel_rfl) rfl
theorem ent_67 : Ent1 Tryz.prog 67 := ent1_of Tryz.func67 (by kernel_rfl) rfl
theorem ent_116 : Ent1 Tryz.prog 116 := ent1_of Tryz.func116 (by kernel_rfl) rfl
theorem ent_95 : Ent1 Tryz.prog 95 := ent1_of Tryz.func95 (by kernel_rfl) rfl
theorem ent_107 : Ent1 Tryz.prog 107 := ent1_of Tryz.func107 (by kernel_rfl) rfl
theorem ent_94 : Ent1 Tryz.prog 94 := ent1_of Tryz.func94 (by kernel_rfl) rfl
theorem ent_68 : Ent1 Tryz.prog 68 := ent1_of Tryz.func68 (by kernel_rfl) rfl
theorem ent_30 : Ent1 Tryz.prog 30 := ent1_of Tryz.func30 (by kernel_rfl) rfl
theorem ent_10 : Ent1 Tryz.prog 10 := ent1_of Tryz.func10 (by kernel_rfl) rfl
theorem ent_11 : Ent1 Tryz.prog 11 := ent1_of Tryz.func11 (by kernel_rfl) rfl
theorem ent_70 : Ent1 Tryz.prog 70 := ent1_of Tryz.func70 (by kernel_rfl) rfl
theorem ent_96 : Ent1 Tryz.prog 96 := ent1_of Tryz.func96 (by kernel_rfl) rfl
theorem ent_69 : Ent1 Tryz.prog 69 := ent1_of Tryz.func69 (by kernel_rfl) rfl
theorem ent_31 : Ent1 Tryz.prog 31 := ent1_of Tryz.func31 (by kernel_rfl) rfl
theorem ent_12 : Ent1 Tryz.prog 12 := ent1_of Tryz.func12 (by kernel_rfl) rfl
theorem ent_13 : Ent1 Tryz.prog 13 := ent1_of Tryz.func13 (by kernel_rfl) rfl
theorem el_31 : El Tryz.prog 31 2 32 := ⟨by obtain ⟨i, h1, h2, h3, h4⟩ := info_parts (show (Tryz.prog.info? 31).map (fun i => (i.zero, i.size, i.bytes)) = some (some (.agg #[.int .i64 0, .slice none 0 0]), 2, 32) by kernel_rfl); exact ⟨i, _, h1, h2, h3, h4, rfl⟩, by decide⟩
theorem ent_32 : Ent1 Tryz.prog 32 := ent1_of Tryz.func32 (by kernel_rfl) rfl
theorem ent_33 : Ent1 Tryz.prog 33 := ent1_of Tryz.func33 (by kernel_rfl) rfl
theorem ent_14 : Ent1 Tryz.prog 14 := ent1_of Tryz.func14 (by kernel_rfl) rfl
theorem ent_35 : Ent1 Tryz.prog 35 := ent1_of Tryz.func35 (by kernel_rfl) rfl
theorem el_85 : El Tryz.prog 85 7 56 := ⟨by obtain ⟨i, h1, h2, h3, h4⟩ := info_parts (show (Tryz.prog.info? 85).map (fun i => (i.zero, i.size, i.bytes)) = some (some (.agg #[.slice none 0 0, .slice none 0 0, .bool false, .bool false, .bool false, .bool false, .bool false]), 7, 56) by kernel_rfl); exact ⟨i, _, h1, h2, h3, h4, rfl⟩, by decide⟩
theorem ent_38 : Ent1 Tryz.prog 38 := ent1_of Tryz.func38 (by kernel_rfl) rfl
theorem ent_15 : Ent1 Tryz.prog 15 := ent1_of Tryz.func15 (by kernel_rfl) rfl
theorem ent_16 : Ent1 Tryz.prog 16 := ent1_of Tryz.func16 (by kernel_rfl) rfl
theorem ent_17 : Ent1 Tryz.prog 17 := ent1_of Tryz.func17 (by kernel_rfl) rfl
theorem ent_18 : Ent1 Tryz.prog 18 := ent1_of Tryz.func18 (by kernel_rfl) rfl
def api_givenField (x0 : ByteArray) (x1 : Int) (x2 : Int) (x3 : Int) (x4 : List MachPiece) : Option MachOperand :=
  some ((MachOperand.mk x0 x1 x2 x3 x4 (-1)))
theorem api_givenField_ok {x0 : ByteArray} {x1 : Int} {x2 : Int} {x3 : Int} {x4 : List MachPiece} {R : MachOperand} (H : api_givenField x0 x1 x2 x3 x4 = some R) : FnOk Tryz.prog K0 48 [(aS x0), (aN .u8 x1), (aN .i64 x2), (aN .i64 x3), (aL 2 encMachPiece x4)] [] (aA (encMachOperand R)) [] := by
  refine fn_w (nt := 17) (np := 0) Tryz.func48 z z (by simp) (np_of2 z) <| ?_
  unfold api_givenField at H
  refine sgr z <| lh (p_al 0 zr_107 z) z <| ne <| sgr z <| lm z z <| lm z z <| lm z z <| lm z z <| lm z z <| l (p_bd (cs := (encMachOperand ((MachOperand.mk x0 x1 x2 x3 x4 (-1)))).map .data) pl_107 zr_107 z ⟨q, ⟨q, ⟨q, ⟨q, ⟨q, ⟨q, q⟩⟩⟩⟩⟩⟩ z) z <| l0h (p_stA (ds := (encMachOperand ((MachOperand.mk x0 x1 x2 x3 x4 (-1)))).map .data) ty_107 z z z z z z) <| ne <| wc_ret <| ?_
  obtain rfl := sm H
  exact fin (Or.inr z) (rs1 (rva (ds := (encMachOperand ((MachOperand.mk x0 x1 x2 x3 x4 (-1)))).map .data) ty_107 z z z z) rs0) (re [] (.adat) z h0)

def api_givenTied (x0 : ByteArray) (x1 : Int) (x2 : Int) : Option MachOperand :=
  some ((MachOperand.mk x0 1 x1 0 ([] : List MachPiece) x2))
theorem api_givenTied_ok {x0 : ByteArray} {x1 : Int} {x2 : Int} {R : MachOperand} (H : api_givenTied x0 x1 x2 = some R) : FnOk Tryz.prog K0 52 [(aS x0), (aN .i64 x1), (aN .i64 x2)] [] (aA (encMachOperand R)) [] := by
  refine fn_w (nt := 11) (np := 0) Tryz.func52 z z (by simp) (np_of2 z) <| ?_
  unfold api_givenTied at H
  refine sgr z <| lh (p_al 0 zr_107 z) z <| ne <| sgr z <| lm z z <| lm z z <| lm z z <| l (p_bd (cs := [(aS x0), (aN .u8 1), (aN .i64 x1), (aN .i64 0), aNil, (aN .i64 x2)]) pl_107 zr_107 z ⟨q, ⟨q, ⟨q, ⟨q, q⟩⟩⟩⟩ z) z <| l0h (p_stA (ds := [(aS x0), (aN .u8 1), (aN .i64 x1), (aN .i64 0), aNil, (aN .i64 x2)]) ty_107 z z z z z z) <| ne <| wc_ret <| ?_
  obtain rfl := sm H
  exact fin (Or.inr z) (rs1 (rva (ds := [(aS x0), (aN .u8 1), (aN .i64 x1), (aN .i64 0), aNil, (aN .i64 x2)]) ty_107 z z z z) rs0) (re [] (.sub (sg ⟨sr, ⟨sr, ⟨sr, ⟨sr, ⟨sn, ⟨sr, q⟩⟩⟩⟩⟩⟩) z) z h0)

def api_givenVar (x0 : ByteArray) (x1 : Int) : Option Term :=
  some ((Term.mk 2 x1 0 x0 0 ([] : List Term)))
theorem api_givenVar_ok {x0 : ByteArray} {x1 : Int} {R : Term} (H : api_givenVar x0 x1 = some R) : FnOk Tryz.prog K0 49 [(aS x0), (aN .i64 x1)] [] (aA (encTermX R)) [] := by
  refine fn_w (nt := 8) (np := 0) Tryz.func49 z z (by simp) (np_of2 z) <| ?_
  unfold api_givenVar at H
  refine sgr z <| lh (p_al 0 zr_114 z) z <| ne <| sgr z <| lm z z <| lm z z <| l (p_bd (cs := [(aN .u8 2), (aN .i64 x1), (aN .u64 0), (aS x0), (aN .i64 0), aNil]) pl_114 zr_114 z ⟨q, ⟨q, ⟨q, q⟩⟩⟩ z) z <| l0h (p_stA (ds := [(aN .u8 2), (aN .i64 x1), (aN .u64 0), (aS x0), (aN .i64 0), aNil]) ty_114 z z z z z z) <| ne <| wc_ret <| ?_
  obtain rfl := sm H
  exact fin (Or.inr z) (rs1 (rva (ds := [(aN .u8 2), (aN .i64 x1), (aN .u64 0), (aS x0), (aN .i64 0), aNil]) ty_114 z z z z) rs0) (re [] (.sub (sg ⟨sr, ⟨sr, ⟨sr, ⟨sr, ⟨sr, ⟨sn, q⟩⟩⟩⟩⟩⟩) z) z h0)

def api_givenSet (x0 : Int) (x1 : Term) : Option MachEffect :=
  some ((MachEffect.mk 1 x0 0 ((Term.mk 0 0 0 ⟨#[]⟩ 0 ([] : List Term))) x1 ((Term.mk 0 0 0 ⟨#[]⟩ 0 ([] : List Term)))))
theorem api_givenSet_ok {x0 : Int} {x1 : Term} {R : MachEffect} (H : api_givenSet x0 x1 = some R) : FnOk Tryz.prog K0 50 [(aN .i64 x0), (aA (encTermX x1))] [] (aA (encMachEffect R)) [] := by
  refine fn_w (nt := 8) (np := 0) Tryz.func50 z z (by simp) (np_of2 z) <| ?_
  unfold api_givenSet at H
  refine sgr z <| lh (p_bx 0 z q z) z <| lh (p_al 1 zr_118 z) z <| ne <| sgr z <| lm z z <| l (p_ldB (ds := (encTermX x1).map .data) ty_114 z z z z) z <| l (p_bd (cs := [(aN .u8 1), (aN .i64 x0), (aN .i64 0), (aN .u8 0), (aN .i64 0), (aN .u64 0), (aS ⟨#[]⟩), (aN .i64 0), aNil, (aN .u8 x1.Kind), (aN .i64 x1.Width), (aN .u64 x1.Bits), (aS x1.Name), (aN .i64 x1.Low), (aL 6 encTerm x1.Sub), (aN .u8 0), (aN .i64 0), (aN .u64 0), (aS ⟨#[]⟩), (aN .i64 0), aNil]) pl_118 zr_118 z ⟨q, ⟨q, ⟨q, q⟩⟩⟩ z) z <| l0h (p_stA (ds := [(aN .u8 1), (aN .i64 x0), (aN .i64 0), (aN .u8 0), (aN .i64 0), (aN .u64 0), (aS ⟨#[]⟩), (aN .i64 0), aNil, (aN .u8 x1.Kind), (aN .i64 x1.Width), (aN .u64 x1.Bits), (aS x1.Name), (aN .i64 x1.Low), (aL 6 encTerm x1.Sub), (aN .u8 0), (aN .i64 0), (aN .u64 0), (aS ⟨#[]⟩), (aN .i64 0), aNil]) ty_118 z z z z z z) <| ne <| wc_ret <| ?_
  obtain rfl := sm H
  exact fin (Or.inr z) (rs1 (rva (ds := [(aN .u8 1), (aN .i64 x0), (aN .i64 0), (aN .u8 0), (aN .i64 0), (aN .u64 0), (aS ⟨#[]⟩), (aN .i64 0), aNil, (aN .u8 x1.Kind), (aN .i64 x1.Width), (aN .u64 x1.Bits), (aS x1.Name), (aN .i64 x1.Low), (aL 6 encTerm x1.Sub), (aN .u8 0), (aN .i64 0), (aN .u64 0), (aS ⟨#[]⟩), (aN .i64 0), aNil]) ty_118 z z z z) rs0) (re [] (.sub (sg ⟨sr, ⟨sr, ⟨sr, ⟨sr, ⟨sr, ⟨sr, ⟨sr, ⟨sr, ⟨sn, ⟨sr, ⟨sr, ⟨sr, ⟨sr, ⟨sr, ⟨sr, ⟨sr, ⟨sr, ⟨sr, ⟨sr, ⟨sr, ⟨sn, q⟩⟩⟩⟩⟩⟩⟩⟩⟩⟩⟩⟩⟩⟩⟩⟩⟩⟩⟩⟩⟩) z) z h0)

def api_givenAdd (x0 : ByteArray) (x1 : Int) (x2 : Int) (x3 : List MachReg) (x4 : List MachBank) (x5 : List MachUnit) (x6 : List MachInstr) (x7 : ByteArray) (x8 : Int) (x9 : List MachOperand) (x10 : List MachEffect) : Option ((List MachInstr) × ByteArray × Int × Int × (List MachBank) × (List MachUnit)) :=
  asr (roomy (x6.length + [(MachInstr.mk x7 64512 (sShl .u64 (IntKind.wrap .u64 (x6.length : Int)) 10) x9 x10 0 1 x8 0)].length) 112) <|
  some ((x6 ++ [(MachInstr.mk x7 64512 (sShl .u64 (IntKind.wrap .u64 (x6.length : Int)) 10) x9 x10 0 1 x8 0)], x0, x1, x2, x4, x5))
theorem api_givenAdd_ok {x0 : ByteArray} {x1 : Int} {x2 : Int} {x3 : List MachReg} {x4 : List MachBank} {x5 : List MachUnit} {x6 : List MachInstr} {x7 : ByteArray} {x8 : Int} {x9 : List MachOperand} {x10 : List MachEffect} {R : (List MachInstr) × ByteArray × Int × Int × (List MachBank) × (List MachUnit)} (H : api_givenAdd x0 x1 x2 x3 x4 x5 x6 x7 x8 x9 x10 = some R) : FnOk Tryz.prog K0 77 [(.ptr 0 0), (aS x7), (aN .i64 x8), (aL 6 encMachOperand x9), (aL 21 encMachEffect x10)] [(0, (oC 27 [(aS x0), (aN .i64 x1), (aN .i64 x2), (.row 1), (aL 2 encMachBank x4), (aL 2 encMachUnit x5), (.row 2)])), (1, (oR 100 4 encMachReg x3)), (2, (oR 61 9 encMachInstr x6)), (3, .fresh)] (.tup []) [(0, (oC 27 [(aS R.2.1), (aN .i64 R.2.2.1), (aN .i64 R.2.2.2.1), (.row 1), (aL 2 encMachBank R.2.2.2.2.1), (aL 2 encMachUnit R.2.2.2.2.2), (.row 3)])), (1, (oR 100 4 encMachReg x3)), (2, .dead), (3, (oR 61 9 encMachInstr R.1))] := by
  refine fn_w (nt := 35) (np := 3) Tryz.func77 z z (by simp) (np_of2 z) <| ?_
  unfold api_givenAdd at H
  refine sgr z <| lm z z <| l (p_nl z) z <| l (p_fd fld_27_6 z) z <| l (p_ld ty_25 z z z) z <| l (p_lenR Tryz.underlying25 z z) z <| la z z <| ne <| sgr z <| lm z z <| lm z z <| l (p_cv Tryz.underlying3 Tryz.underlying57 z) z <| l (p_shl z z z) z <| lm z z <| lm z z <| lm z z <| l (p_bd (cs := (encMachInstr ((MachInstr.mk x7 64512 (sShl .u64 (IntKind.wrap .u64 (x6.length : Int)) 10) x9 x10 0 1 x8 0))).map .data) pl_61 zr_61 z ⟨q, ⟨q, ⟨q, ⟨q, ⟨q, ⟨q, ⟨q, q⟩⟩⟩⟩⟩⟩⟩ z) z <| lh (p_al 4 zr_61 z) z <| l0h (p_stA (ds := (encMachInstr ((MachInstr.mk x7 64512 (sShl .u64 (IntKind.wrap .u64 (x6.length : Int)) 10) x9 x10 0 1 x8 0))).map .data) ty_61 z z z z z z) <| ne <| wc_draw [0, 0, 2, 6, 14, 0, 32, 126, 255, 511, 1023] mixed z <| dm z z <| dm z z <| dr (p_nl z) z <| dr (p_fd fld_27_6 z) z <| dr (p_ld ty_25 z z z) z <| dr (p_ldB (ds := (encMachInstr ((MachInstr.mk x7 64512 (sShl .u64 (IntKind.wrap .u64 (x6.length : Int)) 10) x9 x10 0 1 x8 0))).map .data) ty_61 z z z z) z <| dr (p_bs (f := encMachInstr) [.tmp 30] [(MachInstr.mk x7 64512 (sShl .u64 (IntKind.wrap .u64 (x6.length : Int)) 10) x9 x10 0 1 x8 0)] Tryz.underlying25 ty_61.size zr_61 z z z z (el1 (.agg _) z el0) z) z <| ?_
  obtain ⟨e1, H⟩ := as_ H
  refine drh (p_apA 5 Tryz.underlying25 el_61 z z z z e1) z <| dr (p_nl z) z <| dr (p_fd fld_27_6 z) z <| dr0h (p_st ty_25 z z z q z z) <| ?_
  refine wd_nil ?_ (by kernel_rfl)
  obtain rfl := sm H
  exact fin (Or.inl z) rs0 (re2 [(0, 0), (1, 1), (2, 2), (5, 3)] q z (hs z z z (hr z (hx (hr z h0)))))

def api_givenNum (x0 : Int) (x1 : Int) : Option Term :=
  some ((Term.mk 1 x0 x1 ⟨#[]⟩ 0 ([] : List Term)))
theorem api_givenNum_ok {x0 : Int} {x1 : Int} {R : Term} (H : api_givenNum x0 x1 = some R) : FnOk Tryz.prog K0 54 [(aN .i64 x0), (aN .u64 x1)] [] (aA (encTermX R)) [] := by
  refine fn_w (nt := 8) (np := 0) Tryz.func54 z z (by simp) (np_of2 z) <| ?_
  unfold api_givenNum at H
  refine sgr z <| lh (p_al 0 zr_114 z) z <| ne <| sgr z <| lm z z <| lm z z <| l (p_bd (cs := [(aN .u8 1), (aN .i64 x0), (aN .u64 x1), (aS ⟨#[]⟩), (aN .i64 0), aNil]) pl_114 zr_114 z ⟨q, ⟨q, ⟨q, q⟩⟩⟩ z) z <| l0h (p_stA (ds := [(aN .u8 1), (aN .i64 x0), (aN .u64 x1), (aS ⟨#[]⟩), (aN .i64 0), aNil]) ty_114 z z z z z z) <| ne <| wc_ret <| ?_
  obtain rfl := sm H
  exact fin (Or.inr z) (rs1 (rva (ds := [(aN .u8 1), (aN .i64 x0), (aN .u64 x1), (aS ⟨#[]⟩), (aN .i64 0), aNil]) ty_114 z z z z) rs0) (re [] (.sub (sg ⟨sr, ⟨sr, ⟨sr, ⟨sr, ⟨sr, ⟨sn, q⟩⟩⟩⟩⟩⟩) z) z h0)

def api_givenOp (x0 : Int) (x1 : Int) (x2 : List Term) : Option Term :=
  some (Term.mk x0 x1 0 ⟨#[]⟩ 0 x2)
theorem api_givenOp_ok {x0 : Int} {x1 : Int} {x2 : List Term} {R : Term} (H : api_givenOp x0 x1 x2 = some R) : FnOk Tryz.prog K0 51 [(aN .u8 x0), (aN .i64 x1), (aL 6 encTerm x2)] [] (aA (encTermX R)) [] := by
  refine fn_w (nt := 11) (np := 0) Tryz.func51 z z (by simp) (np_of2 z) <| ?_
  unfold api_givenOp at H
  refine sgr z <| lh (p_al 0 zr_114 z) z <| ne <| sgr z <| lm z z <| lm z z <| lm z z <| l (p_bd (cs := (encTermX (Term.mk x0 x1 0 ⟨#[]⟩ 0 x2)).map .data) pl_114 zr_114 z ⟨q, ⟨q, ⟨q, q⟩⟩⟩ z) z <| l0h (p_stA (ds := (encTermX (Term.mk x0 x1 0 ⟨#[]⟩ 0 x2)).map .data) ty_114 z z z z z z) <| ne <| wc_ret <| ?_
  obtain rfl := sm H
  exact fin (Or.inr z) (rs1 (rva (ds := (encTermX (Term.mk x0 x1 0 ⟨#[]⟩ 0 x2)).map .data) ty_114 z z z z) rs0) (re [] (.adat) z h0)

def api_givenFixed (x0 : Int) (x1 : Term) : Option MachEffect :=
  some ((MachEffect.mk 1 (-1) x0 ((Term.mk 0 0 0 ⟨#[]⟩ 0 ([] : List Term))) x1 ((Term.mk 0 0 0 ⟨#[]⟩ 0 ([] : List Term)))))
theorem api_givenFixed_ok {x0 : Int} {x1 : Term} {R : MachEffect} (H : api_givenFixed x0 x1 = some R) : FnOk Tryz.prog K0 56 [(aN .i64 x0), (aA (encTermX x1))] [] (aA (encMachEffect R)) [] := by
  refine fn_w (nt := 8) (np := 0) Tryz.func56 z z (by simp) (np_of2 z) <| ?_
  unfold api_givenFixed at H
  refine sgr z <| lh (p_bx 0 z q z) z <| lh (p_al 1 zr_118 z) z <| ne <| sgr z <| lm z z <| l (p_ldB (ds := (encTermX x1).map .data) ty_114 z z z z) z <| l (p_bd (cs := [(aN .u8 1), (aN .i64 (-1)), (aN .i64 x0), (aN .u8 0), (aN .i64 0), (aN .u64 0), (aS ⟨#[]⟩), (aN .i64 0), aNil, (aN .u8 x1.Kind), (aN .i64 x1.Width), (aN .u64 x1.Bits), (aS x1.Name), (aN .i64 x1.Low), (aL 6 encTerm x1.Sub), (aN .u8 0), (aN .i64 0), (aN .u64 0), (aS ⟨#[]⟩), (aN .i64 0), aNil]) pl_118 zr_118 z ⟨q, ⟨q, ⟨q, ⟨q, q⟩⟩⟩⟩ z) z <| l0h (p_stA (ds := [(aN .u8 1), (aN .i64 (-1)), (aN .i64 x0), (aN .u8 0), (aN .i64 0), (aN .u64 0), (aS ⟨#[]⟩), (aN .i64 0), aNil, (aN .u8 x1.Kind), (aN .i64 x1.Width), (aN .u64 x1.Bits), (aS x1.Name), (aN .i64 x1.Low), (aL 6 encTerm x1.Sub), (aN .u8 0), (aN .i64 0), (aN .u64 0), (aS ⟨#[]⟩), (aN .i64 0), aNil]) ty_118 z z z z z z) <| ne <| wc_ret <| ?_
  obtain rfl := sm H
  exact fin (Or.inr z) (rs1 (rva (ds := [(aN .u8 1), (aN .i64 (-1)), (aN .i64 x0), (aN .u8 0), (aN .i64 0), (aN .u64 0), (aS ⟨#[]⟩), (aN .i64 0), aNil, (aN .u8 x1.Kind), (aN .i64 x1.Width), (aN .u64 x1.Bits), (aS x1.Name), (aN .i64 x1.Low), (aL 6 encTerm x1.Sub), (aN .u8 0), (aN .i64 0), (aN .u64 0), (aS ⟨#[]⟩), (aN .i64 0), aNil]) ty_118 z z z z) rs0) (re [] (.sub (sg ⟨sr, ⟨sr, ⟨sr, ⟨sr, ⟨sr, ⟨sr, ⟨sr, ⟨sr, ⟨sn, ⟨sr, ⟨sr, ⟨sr, ⟨sr, ⟨sr, ⟨sr, ⟨sr, ⟨sr, ⟨sr, ⟨sr, ⟨sr, ⟨sn, q⟩⟩⟩⟩⟩⟩⟩⟩⟩⟩⟩⟩⟩⟩⟩⟩⟩⟩⟩⟩⟩) z) z h0)

def api_givenZero (x0 : Term) : Option MachEffect :=
  (api_givenNum x0.Width 0).bind fun r1 =>
  (api_givenOp 16 1 [x0, r1]).bind fun r3 =>
  (api_givenFixed 16 r3).bind fun r5 =>
  some r5
theorem api_givenZero_ok {x0 : Term} {R : MachEffect} (H : api_givenZero x0 = some R) : FnOk Tryz.prog K0 78 [(aA (encTermX x0))] [] (aA (encMachEffect R)) [] := by
  refine fn_w (nt := 10) (np := 0) Tryz.func78 z z (by simp) (np_of2 z) <| ?_
  unfold api_givenZero at H
  refine sgr z <| lh (p_bx 0 z q z) z <| lh (p_al 1 zr_118 z) z <| ne <| wc_seq <| wc_draw [0, 0, 2, 6, 15, 31, 63, 127] mixed z <| dr (p_ldB (ds := (encTermX x0).map .data) ty_114 z z z z) z <| dr (p_fd fld_114_1 z) z <| dr (p_ld ty_3 z z z) z <| ?_
  obtain ⟨r1, e2, H⟩ := ob H
  refine dr (p_c (api_givenNum_ok e2) ent_54 z z z) z <| dr (p_bs (f := encTerm) [.tmp 3, .tmp 6] [x0, r1] Tryz.underlying112 ty_114.size zr_114 z z z z (el1X (encTerm_X _) (.agg _) z (el1X (encTerm_X _) (.agg _) z el0)) z) z <| ?_
  obtain ⟨r3, e4, H⟩ := ob H
  refine dr (p_c (api_givenOp_ok e4) ent_51 z z z) z <| ?_
  obtain ⟨r5, e6, H⟩ := ob H
  refine dr (p_c (api_givenFixed_ok e6) ent_56 z z z) z <| dr0h (p_stA (ds := (encMachEffect r5).map .data) ty_118 z z z z z z) <| ?_
  refine wd_nil ?_ (by kernel_rfl)
  refine e_n <| wc_ret <| ?_
  obtain rfl := sm H
  exact fin (Or.inr z) (rs1 (rva (ds := (encMachEffect r5).map .data) ty_118 z z z z) rs0) (re [] (.adat) z h0)

def api_givenSign (x0 : Term) : Option MachEffect :=
  (api_givenNum x0.Width 0).bind fun r1 =>
  (api_givenOp 18 1 [x0, r1]).bind fun r3 =>
  (api_givenFixed 18 r3).bind fun r5 =>
  some r5
theorem api_givenSign_ok {x0 : Term} {R : MachEffect} (H : api_givenSign x0 = some R) : FnOk Tryz.prog K0 79 [(aA (encTermX x0))] [] (aA (encMachEffect R)) [] := by
  refine fn_w (nt := 10) (np := 0) Tryz.func79 z z (by simp) (np_of2 z) <| ?_
  unfold api_givenSign at H
  refine sgr z <| lh (p_bx 0 z q z) z <| lh (p_al 1 zr_118 z) z <| ne <| wc_seq <| wc_draw [0, 0, 2, 6, 15, 31, 63, 127] mixed z <| dr (p_ldB (ds := (encTermX x0).map .data) ty_114 z z z z) z <| dr (p_fd fld_114_1 z) z <| dr (p_ld ty_3 z z z) z <| ?_
  obtain ⟨r1, e2, H⟩ := ob H
  refine dr (p_c (api_givenNum_ok e2) ent_54 z z z) z <| dr (p_bs (f := encTerm) [.tmp 3, .tmp 6] [x0, r1] Tryz.underlying112 ty_114.size zr_114 z z z z (el1X (encTerm_X _) (.agg _) z (el1X (encTerm_X _) (.agg _) z el0)) z) z <| ?_
  obtain ⟨r3, e4, H⟩ := ob H
  refine dr (p_c (api_givenOp_ok e4) ent_51 z z z) z <| ?_
  obtain ⟨r5, e6, H⟩ := ob H
  refine dr (p_c (api_givenFixed_ok e6) ent_56 z z z) z <| dr0h (p_stA (ds := (encMachEffect r5).map .data) ty_118 z z z z z z) <| ?_
  refine wd_nil ?_ (by kernel_rfl)
  refine e_n <| wc_ret <| ?_
  obtain rfl := sm H
  exact fin (Or.inr z) (rs1 (rva (ds := (encMachEffect r5).map .data) ty_118 z z z z) rs0) (re [] (.adat) z h0)

def api_givenFlagsWords_k2 (x3 : List MachReg) (r1 : MachOperand) (r3 : MachOperand) (r5 : MachOperand) (r9 : MachOperand) (r11 : Term) (r13 : Term) (r15 : Term) (r17 : Term) : ByteArray × Int × Int × (List MachBank) × (List MachUnit) × (List MachInstr) → Option ((List MachInstr) × ByteArray × Int × Int × (List MachBank) × (List MachUnit))
  | (v95, v96, v97, v98, v99, v100) =>
    (api_givenOp 11 16 [r11, r17]).bind fun r101 =>
    (api_givenSet 0 r101).bind fun r103 =>
    (api_givenAdd v95 v96 v97 x3 v98 v99 v100 (⟨#[115, 104, 108, 105]⟩ : ByteArray) 1 [r1, r5, r9] [r103]).bind fun r105 =>
    (api_givenOp 12 16 [r11, r17]).bind fun r107 =>
    (api_givenSet 0 r107).bind fun r109 =>
    (api_givenAdd r105.2.1 r105.2.2.1 r105.2.2.2.1 x3 r105.2.2.2.2.1 r105.2.2.2.2.2 r105.1 (⟨#[115, 104, 114, 105]⟩ : ByteArray) 1 [r1, r5, r9] [r109]).bind fun r111 =>
    (api_givenOp 4 16 [r11]).bind fun r113 =>
    (api_givenSet 0 r113).bind fun r115 =>
    (api_givenAdd r111.2.1 r111.2.2.1 r111.2.2.2.1 x3 r111.2.2.2.2.1 r111.2.2.2.2.2 r111.1 (⟨#[110, 101, 103]⟩ : ByteArray) 1 [r1, r5] [r115]).bind fun r117 =>
    (api_givenOp 3 16 [r11]).bind fun r119 =>
    (api_givenSet 0 r119).bind fun r121 =>
    (api_givenAdd r117.2.1 r117.2.2.1 r117.2.2.2.1 x3 r117.2.2.2.2.1 r117.2.2.2.2.2 r117.1 (⟨#[110, 111, 116]⟩ : ByteArray) 1 [r1, r5] [r121]).bind fun r123 =>
    (api_givenOp 7 16 [r11, r13]).bind fun r125 =>
    (api_givenSet 0 r125).bind fun r127 =>
    (api_givenAdd r123.2.1 r123.2.2.1 r123.2.2.2.1 x3 r123.2.2.2.2.1 r123.2.2.2.2.2 r123.1 (⟨#[109, 117, 108]⟩ : ByteArray) 6 [r1, r5, r3] [r127]).bind fun r129 =>
    (api_givenOp 14 16 [r11, r13]).bind fun r131 =>
    (api_givenSet 0 r131).bind fun r133 =>
    (api_givenAdd r129.2.1 r129.2.2.1 r129.2.2.2.1 x3 r129.2.2.2.2.1 r129.2.2.2.2.2 r129.1 (⟨#[117, 100, 105, 118]⟩ : ByteArray) 12 [r1, r5, r3] [r133]).bind fun r135 =>
    (api_givenOp 15 16 [r11, r13]).bind fun r137 =>
    (api_givenSet 0 r137).bind fun r139 =>
    (api_givenAdd r135.2.1 r135.2.2.1 r135.2.2.2.1 x3 r135.2.2.2.2.1 r135.2.2.2.2.2 r135.1 (⟨#[117, 114, 101, 109]⟩ : ByteArray) 12 [r1, r5, r3] [r139]).bind fun r141 =>
    (api_givenOp 16 1 [r15, r13]).bind fun r143 =>
    (api_givenFixed 16 r143).bind fun r145 =>
    (api_givenOp 17 1 [r15, r13]).bind fun r147 =>
    (api_givenFixed 17 r147).bind fun r149 =>
    (api_givenOp 18 1 [r15, r13]).bind fun r151 =>
    (api_givenFixed 18 r151).bind fun r153 =>
    (api_givenAdd r141.2.1 r141.2.2.1 r141.2.2.2.1 x3 r141.2.2.2.2.1 r141.2.2.2.2.2 r141.1 (⟨#[99, 109, 112]⟩ : ByteArray) 1 [r1, r3] [r145, r149, r153]).bind fun r155 =>
    some (r155.1, r155.2.1, r155.2.2.1, r155.2.2.2.1, r155.2.2.2.2.1, r155.2.2.2.2.2)
def api_givenFlagsWords_b3 (x3 : List MachReg) (r1 : MachOperand) (r3 : MachOperand) (r5 : MachOperand) (r11 : Term) (r13 : Term) (k2 : ByteArray × Int × Int × (List MachBank) × (List MachUnit) × (List MachInstr) → Option ((List MachInstr) × ByteArray × Int × Int × (List MachBank) × (List MachUnit))) (rec3 : Int × ByteArray × Int × Int × (List MachBank) × (List MachUnit) × (List MachInstr) → Option ((List MachInstr) × ByteArray × Int × Int × (List MachBank) × (List MachUnit))) : Int × ByteArray × Int × Int × (List MachBank) × (List MachUnit) × (List MachInstr) → Option ((List MachInstr) × ByteArray × Int × Int × (List MachBank) × (List MachUnit))
  | (v157, v158, v159, v160, v161, v162, v163) =>
    bif decide (v157 < ([11, 12, 13].length : Int)) then
      (ix [11, 12, 13] v157).bind fun r165 =>
      (ix ([(⟨#[115, 104, 108]⟩ : ByteArray), (⟨#[115, 104, 114]⟩ : ByteArray), (⟨#[115, 97, 114]⟩ : ByteArray)]) v157).bind fun r167 =>
      (api_givenOp r165 16 [r11, r13]).bind fun r169 =>
      (api_givenSet 0 r169).bind fun r171 =>
      (api_givenAdd v158 v159 v160 x3 v161 v162 v163 r167 1 [r1, r5, r3] [r171]).bind fun r173 =>
      rec3 ((w64 (v157 + 1), r173.2.1, r173.2.2.1, r173.2.2.2.1, r173.2.2.2.2.1, r173.2.2.2.2.2, r173.1))
    else
      k2 (v158, v159, v160, v161, v162, v163)
def api_givenFlagsWords_k1 (x3 : List MachReg) (r1 : MachOperand) (r3 : MachOperand) (r5 : MachOperand) (r7 : MachOperand) (r9 : MachOperand) (r11 : Term) (r13 : Term) (r15 : Term) (r17 : Term) : ByteArray × Int × Int × (List MachBank) × (List MachUnit) × (List MachInstr) → Option ((List MachInstr) × ByteArray × Int × Int × (List MachBank) × (List MachUnit))
  | (v79, v80, v81, v82, v83, v84) =>
    (api_givenOp 5 16 [r11, r17]).bind fun r85 =>
    (api_givenSet 0 r85).bind fun r87 =>
    (api_givenOp 5 16 [r11, r17]).bind fun r89 =>
    (api_givenZero r89).bind fun r91 =>
    (api_givenAdd v79 v80 v81 x3 v82 v83 v84 (⟨#[97, 100, 100, 105]⟩ : ByteArray) 1 [r1, r5, r7] [r87, r91]).bind fun r93 =>
    jn (api_givenFlagsWords_k2 x3 r1 r3 r5 r9 r11 r13 r15 r17) fun k2 =>
    lp (api_givenFlagsWords_b3 x3 r1 r3 r5 r11 r13 k2) ([11, 12, 13].length + 1) (0, r93.2.1, r93.2.2.1, r93.2.2.2.1, r93.2.2.2.2.1, r93.2.2.2.2.2, r93.1)
def api_givenFlagsWords_b4 (x3 : List MachReg) (r1 : MachOperand) (r3 : MachOperand) (r5 : MachOperand) (r11 : Term) (r13 : Term) (k1 : ByteArray × Int × Int × (List MachBank) × (List MachUnit) × (List MachInstr) → Option ((List MachInstr) × ByteArray × Int × Int × (List MachBank) × (List MachUnit))) (rec4 : Int × ByteArray × Int × Int × (List MachBank) × (List MachUnit) × (List MachInstr) → Option ((List MachInstr) × ByteArray × Int × Int × (List MachBank) × (List MachUnit))) : Int × ByteArray × Int × Int × (List MachBank) × (List MachUnit) × (List MachInstr) → Option ((List MachInstr) × ByteArray × Int × Int × (List MachBank) × (List MachUnit))
  | (v175, v176, v177, v178, v179, v180, v181) =>
    bif decide (v175 < ([8, 9, 10].length : Int)) then
      (ix [8, 9, 10] v175).bind fun r183 =>
      (ix ([(⟨#[97, 110, 100]⟩ : ByteArray), (⟨#[111, 114]⟩ : ByteArray), (⟨#[120, 111, 114]⟩ : ByteArray)]) v175).bind fun r185 =>
      (api_givenOp r183 16 [r11, r13]).bind fun r187 =>
      (api_givenSet 0 r187).bind fun r189 =>
      (api_givenOp r183 16 [r11, r13]).bind fun r191 =>
      (api_givenZero r191).bind fun r193 =>
      (api_givenAdd v176 v177 v178 x3 v179 v180 v181 r185 1 [r1, r5, r3] [r189, r193]).bind fun r195 =>
      rec4 ((w64 (v175 + 1), r195.2.1, r195.2.2.1, r195.2.2.2.1, r195.2.2.2.2.1, r195.2.2.2.2.2, r195.1))
    else
      k1 (v176, v177, v178, v179, v180, v181)
def api_givenFlagsWords (x0 : ByteArray) (x1 : Int) (x2 : Int) (x3 : List MachReg) (x4 : List MachBank) (x5 : List MachUnit) (x6 : List MachInstr) : Option ((List MachInstr) × ByteArray × Int × Int × (List MachBank) × (List MachUnit)) :=
  (api_givenField (⟨#[100]⟩ : ByteArray) 1 0 0 [(MachPiece.mk 7 3)]).bind fun r1 =>
  (api_givenField (⟨#[115]⟩ : ByteArray) 1 0 0 [(MachPiece.mk 4 3)]).bind fun r3 =>
  (api_givenTied (⟨#[97]⟩ : ByteArray) 0 0).bind fun r5 =>
  (api_givenField (⟨#[110]⟩ : ByteArray) 2 0 0 [(MachPiece.mk 0 7)]).bind fun r7 =>
  (api_givenField (⟨#[110]⟩ : ByteArray) 3 0 0 [(MachPiece.mk 0 4)]).bind fun r9 =>
  (api_givenVar (⟨#[97]⟩ : ByteArray) 16).bind fun r11 =>
  (api_givenVar (⟨#[115]⟩ : ByteArray) 16).bind fun r13 =>
  (api_givenVar (⟨#[100]⟩ : ByteArray) 16).bind fun r15 =>
  (api_givenVar (⟨#[110]⟩ : ByteArray) 16).bind fun r17 =>
  (api_givenSet 0 r13).bind fun r19 =>
  (api_givenAdd x0 x1 x2 x3 x4 x5 x6 (⟨#[109, 111, 118]⟩ : ByteArray) 1 [r1, r3] [r19]).bind fun r21 =>
  (api_givenSet 0 r17).bind fun r23 =>
  (api_givenAdd r21.2.1 r21.2.2.1 r21.2.2.2.1 x3 r21.2.2.2.2.1 r21.2.2.2.2.2 r21.1 (⟨#[109, 111, 118, 105]⟩ : ByteArray) 1 [r1, r7] [r23]).bind fun r25 =>
  (api_givenNum 16 9).bind fun r27 =>
  (api_givenOp 11 16 [r17, r27]).bind fun r29 =>
  (api_givenNum 16 511).bind fun r31 =>
  (api_givenOp 8 16 [r11, r31]).bind fun r33 =>
  (api_givenOp 9 16 [r29, r33]).bind fun r35 =>
  (api_givenSet 0 r35).bind fun r37 =>
  (api_givenAdd r25.2.1 r25.2.2.1 r25.2.2.2.1 x3 r25.2.2.2.2.1 r25.2.2.2.2.2 r25.1 (⟨#[109, 111, 118, 104]⟩ : ByteArray) 1 [r1, r5, r7] [r37]).bind fun r39 =>
  (api_givenOp 5 16 [r11, r13]).bind fun r41 =>
  (api_givenSet 0 r41).bind fun r43 =>
  (api_givenOp 5 16 [r11, r13]).bind fun r45 =>
  (api_givenZero r45).bind fun r47 =>
  (api_givenOp 5 16 [r11, r13]).bind fun r49 =>
  (api_givenOp 17 1 [r49, r11]).bind fun r51 =>
  (api_givenFixed 17 r51).bind fun r53 =>
  (api_givenOp 5 16 [r11, r13]).bind fun r55 =>
  (api_givenSign r55).bind fun r57 =>
  (api_givenAdd r39.2.1 r39.2.2.1 r39.2.2.2.1 x3 r39.2.2.2.2.1 r39.2.2.2.2.2 r39.1 (⟨#[97, 100, 100]⟩ : ByteArray) 1 [r1, r5, r3] [r43, r47, r53, r57]).bind fun r59 =>
  (api_givenOp 6 16 [r11, r13]).bind fun r61 =>
  (api_givenSet 0 r61).bind fun r63 =>
  (api_givenOp 16 1 [r11, r13]).bind fun r65 =>
  (api_givenFixed 16 r65).bind fun r67 =>
  (api_givenOp 17 1 [r11, r13]).bind fun r69 =>
  (api_givenFixed 17 r69).bind fun r71 =>
  (api_givenOp 18 1 [r11, r13]).bind fun r73 =>
  (api_givenFixed 18 r73).bind fun r75 =>
  (api_givenAdd r59.2.1 r59.2.2.1 r59.2.2.2.1 x3 r59.2.2.2.2.1 r59.2.2.2.2.2 r59.1 (⟨#[115, 117, 98]⟩ : ByteArray) 1 [r1, r5, r3] [r63, r67, r71, r75]).bind fun r77 =>
  jn (api_givenFlagsWords_k1 x3 r1 r3 r5 r7 r9 r11 r13 r15 r17) fun k1 =>
  lp (api_givenFlagsWords_b4 x3 r1 r3 r5 r11 r13 k1) ([8, 9, 10].length + 1) (0, r77.2.1, r77.2.2.1, r77.2.2.2.1, r77.2.2.2.2.1, r77.2.2.2.2.2, r77.1)
theorem api_givenFlagsWords_ok {x0 : ByteArray} {x1 : Int} {x2 : Int} {x3 : List MachReg} {x4 : List MachBank} {x5 : List MachUnit} {x6 : List MachInstr} {R : (List MachInstr) × ByteArray × Int × Int × (List MachBank) × (List MachUnit)} (H : api_givenFlagsWords x0 x1 x2 x3 x4 x5 x6 = some R) : FnOk Tryz.prog K0 42 [(.ptr 0 0)] [(0, (oC 27 [(aS x0), (aN .i64 x1), (aN .i64 x2), (.row 1), (aL 2 encMachBank x4), (aL 2 encMachUnit x5), (.row 2)])), (1, (oR 100 4 encMachReg x3)), (2, (oR 61 9 encMachInstr x6)), (3, .fresh)] (.tup []) [(0, (oC 27 [(aS R.2.1), (aN .i64 R.2.2.1), (aN .i64 R.2.2.2.1), (.row 1), (aL 2 encMachBank R.2.2.2.2.1), (aL 2 encMachUnit R.2.2.2.2.2), (.row 3)])), (1, (oR 100 4 encMachReg x3)), (2, .dead), (3, (oR 61 9 encMachInstr R.1))] := by
  refine fn_w (nt := 300) (np := 3) Tryz.func42 z z (by simp) (np_of2 z) <| ?_
  unfold api_givenFlagsWords at H
  refine sgr z <| l (p_bd (cs := (encMachPiece (MachPiece.mk 7 3)).map .data) pl_110 zr_110 z ⟨q, ⟨q, q⟩⟩ z) z <| l (p_bs (f := encMachPiece) [.tmp 16] [(MachPiece.mk 7 3)] Tryz.underlying105 ty_110.size zr_110 z z z z (el1 (.agg _) z el0) z) z <| ?_
  obtain ⟨r1, e2, H⟩ := ob H
  refine l (p_c (api_givenField_ok e2) ent_48 z z z) z <| l (p_bd (cs := (encMachPiece (MachPiece.mk 4 3)).map .data) pl_110 zr_110 z ⟨q, ⟨q, q⟩⟩ z) z <| l (p_bs (f := encMachPiece) [.tmp 19] [(MachPiece.mk 4 3)] Tryz.underlying105 ty_110.size zr_110 z z z z (el1 (.agg _) z el0) z) z <| ?_
  obtain ⟨r3, e4, H⟩ := ob H
  refine l (p_c (api_givenField_ok e4) ent_48 z z z) z <| lh (p_al 4 zr_107 z) z <| lh (p_al 5 zr_107 z) z <| l0h (p_stA (ds := (encMachOperand r1).map .data) ty_107 z z z z z z) <| l0h (p_stA (ds := (encMachOperand r3).map .data) ty_107 z z z z z z) <| ne <| sgr z <| ?_
  obtain ⟨r5, e6, H⟩ := ob H
  refine l (p_c (api_givenTied_ok e6) ent_52 z z z) z <| lh (p_al 6 zr_107 z) z <| l0h (p_stA (ds := (encMachOperand r5).map .data) ty_107 z z z z z z) <| ne <| sgr z <| l (p_bd (cs := (encMachPiece (MachPiece.mk 0 7)).map .data) pl_110 zr_110 z ⟨q, ⟨q, q⟩⟩ z) z <| l (p_bs (f := encMachPiece) [.tmp 23] [(MachPiece.mk 0 7)] Tryz.underlying105 ty_110.size zr_110 z z z z (el1 (.agg _) z el0) z) z <| ?_
  obtain ⟨r7, e8, H⟩ := ob H
  refine l (p_c (api_givenField_ok e8) ent_48 z z z) z <| l (p_bd (cs := (encMachPiece (MachPiece.mk 0 4)).map .data) pl_110 zr_110 z ⟨q, ⟨q, q⟩⟩ z) z <| l (p_bs (f := encMachPiece) [.tmp 26] [(MachPiece.mk 0 4)] Tryz.underlying105 ty_110.size zr_110 z z z z (el1 (.agg _) z el0) z) z <| ?_
  obtain ⟨r9, e10, H⟩ := ob H
  refine l (p_c (api_givenField_ok e10) ent_48 z z z) z <| lh (p_al 7 zr_107 z) z <| lh (p_al 8 zr_107 z) z <| l0h (p_stA (ds := (encMachOperand r7).map .data) ty_107 z z z z z z) <| l0h (p_stA (ds := (encMachOperand r9).map .data) ty_107 z z z z z z) <| ne <| sgr z <| ?_
  obtain ⟨r11, e12, H⟩ := ob H
  refine l (p_c (api_givenVar_ok e12) ent_49 z z z) z <| ?_
  obtain ⟨r13, e14, H⟩ := ob H
  refine l (p_c (api_givenVar_ok e14) ent_49 z z z) z <| ?_
  obtain ⟨r15, e16, H⟩ := ob H
  refine l (p_c (api_givenVar_ok e16) ent_49 z z z) z <| ?_
  obtain ⟨r17, e18, H⟩ := ob H
  refine l (p_c (api_givenVar_ok e18) ent_49 z z z) z <| lh (p_al 9 zr_114 z) z <| lh (p_al 10 zr_114 z) z <| lh (p_al 11 zr_114 z) z <| lh (p_al 12 zr_114 z) z <| l0h (p_stA (ds := (encTermX r11).map .data) ty_114 z z z z z z) <| l0h (p_stA (ds := (encTermX r13).map .data) ty_114 z z z z z z) <| l0h (p_stA (ds := (encTermX r15).map .data) ty_114 z z z z z z) <| l0h (p_stA (ds := (encTermX r17).map .data) ty_114 z z z z z z) <| ne <| wc_seq <| wc_draw [0, 0, 0, 6, 0, 16, 48, 127] mixed z <| dm z z <| dr (p_ldB (ds := (encMachOperand r1).map .data) ty_107 z z z z) z <| dr (p_ldB (ds := (encMachOperand r3).map .data) ty_107 z z z z) z <| dr (p_bs (f := encMachOperand) [.tmp 34, .tmp 35] [r1, r3] Tryz.underlying58 ty_107.size zr_107 z z z z (el1 (.agg _) z (el1 (.agg _) z el0)) z) z <| dr (p_ldB (ds := (encTermX r13).map .data) ty_114 z z z z) z <| ?_
  obtain ⟨r19, e20, H⟩ := ob H
  refine dr (p_c (api_givenSet_ok e20) ent_50 z z z) z <| dr (p_bs (f := encMachEffect) [.tmp 38] [r19] Tryz.underlying59 ty_118.size zr_118 z z z z (el1 (.agg _) z el0) z) z <| ?_
  obtain ⟨r21, e22, H⟩ := ob H
  refine drh (p_ch (ids := [0, 1, 2, 13]) (api_givenAdd_ok e22) ent_77 z z (rc z z (rc z rm (rc z rm (rc z z rn)))) (rc z z (rc z rm (rc z z (rc z rm rn)))) z ⟨z, ⟨z, ⟨z, ⟨z, q⟩⟩⟩⟩ (by decide) z z z (oc z (oc om (oc om (oc z on)))) (oc z (oc om (oc z (oc om on)))) z) z <| ?_
  refine wd_nil ?_ (by kernel_rfl)
  refine e_n <| wc_seq <| wc_draw [0, 0, 0, 6, 0, 16, 48, 127] mixed z <| dm z z <| dr (p_ldB (ds := (encMachOperand r1).map .data) ty_107 z z z z) z <| dr (p_ldB (ds := (encMachOperand r7).map .data) ty_107 z z z z) z <| dr (p_bs (f := encMachOperand) [.tmp 42, .tmp 43] [r1, r7] Tryz.underlying58 ty_107.size zr_107 z z z z (el1 (.agg _) z (el1 (.agg _) z el0)) z) z <| dr (p_ldB (ds := (encTermX r17).map .data) ty_114 z z z z) z <| ?_
  obtain ⟨r23, e24, H⟩ := ob H
  refine dr (p_c (api_givenSet_ok e24) ent_50 z z z) z <| dr (p_bs (f := encMachEffect) [.tmp 46] [r23] Tryz.underlying59 ty_118.size zr_118 z z z z (el1 (.agg _) z el0) z) z <| ?_
  obtain ⟨r25, e26, H⟩ := ob H
  refine drh (p_ch (ids := [0, 1, 13, 14]) (api_givenAdd_ok e26) ent_77 z z (rc z z (rc z rm (rc z rm (rc z z rn)))) (rc z z (rc z rm (rc z z (rc z rm rn)))) z ⟨z, ⟨z, ⟨z, ⟨z, q⟩⟩⟩⟩ (by decide) z z z (oc z (oc om (oc om (oc z on)))) (oc z (oc om (oc z (oc om on)))) z) z <| ?_
  refine wd_nil ?_ (by kernel_rfl)
  refine e_n <| wc_seq <| wc_draw [0, 0, 0, 0, 14, 0, 0, 96, 224, 0, 480, 2016, 4064, 8160, 16352, 32736, 65504, 131071] mixed z <| dm z z <| dr (p_ldB (ds := (encMachOperand r1).map .data) ty_107 z z z z) z <| dr (p_ldB (ds := (encMachOperand r5).map .data) ty_107 z z z z) z <| dr (p_ldB (ds := (encMachOperand r7).map .data) ty_107 z z z z) z <| dr (p_bs (f := encMachOperand) [.tmp 50, .tmp 51, .tmp 52] [r1, r5, r7] Tryz.underlying58 ty_107.size zr_107 z z z z (el1 (.agg _) z (el1 (.agg _) z (el1 (.agg _) z el0))) z) z <| dr (p_ldB (ds := (encTermX r17).map .data) ty_114 z z z z) z <| ?_
  obtain ⟨r27, e28, H⟩ := ob H
  refine dr (p_c (api_givenNum_ok e28) ent_54 z z z) z <| dr (p_bs (f := encTerm) [.tmp 54, .tmp 55] [r17, r27] Tryz.underlying112 ty_114.size zr_114 z z z z (el1X (encTerm_X _) (.agg _) z (el1X (encTerm_X _) (.agg _) z el0)) z) z <| ?_
  obtain ⟨r29, e30, H⟩ := ob H
  refine dr (p_c (api_givenOp_ok e30) ent_51 z z z) z <| dr (p_ldB (ds := (encTermX r11).map .data) ty_114 z z z z) z <| ?_
  obtain ⟨r31, e32, H⟩ := ob H
  refine dr (p_c (api_givenNum_ok e32) ent_54 z z z) z <| dr (p_bs (f := encTerm) [.tmp 58, .tmp 59] [r11, r31] Tryz.underlying112 ty_114.size zr_114 z z z z (el1X (encTerm_X _) (.agg _) z (el1X (encTerm_X _) (.agg _) z el0)) z) z <| ?_
  obtain ⟨r33, e34, H⟩ := ob H
  refine dr (p_c (api_givenOp_ok e34) ent_51 z z z) z <| dr (p_bs (f := encTerm) [.tmp 57, .tmp 61] [r29, r33] Tryz.underlying112 ty_114.size zr_114 z z z z (el1X (encTerm_X _) (.agg _) z (el1X (encTerm_X _) (.agg _) z el0)) z) z <| ?_
  obtain ⟨r35, e36, H⟩ := ob H
  refine dr (p_c (api_givenOp_ok e36) ent_51 z z z) z <| ?_
  obtain ⟨r37, e38, H⟩ := ob H
  refine dr (p_c (api_givenSet_ok e38) ent_50 z z z) z <| dr (p_bs (f := encMachEffect) [.tmp 64] [r37] Tryz.underlying59 ty_118.size zr_118 z z z z (el1 (.agg _) z el0) z) z <| ?_
  obtain ⟨r39, e40, H⟩ := ob H
  refine drh (p_ch (ids := [0, 1, 14, 15]) (api_givenAdd_ok e40) ent_77 z z (rc z z (rc z rm (rc z rm (rc z z rn)))) (rc z z (rc z rm (rc z z (rc z rm rn)))) z ⟨z, ⟨z, ⟨z, ⟨z, q⟩⟩⟩⟩ (by decide) z z z (oc z (oc om (oc om (oc z on)))) (oc z (oc om (oc z (oc om on)))) z) z <| ?_
  refine wd_nil ?_ (by kernel_rfl)
  refine e_n <| wc_seq <| wc_draw [0, 0, 0, 0, 14, 0, 0, 96, 224, 480, 0, 0, 3072, 8160, 16352, 0, 0, 98304, 262112, 0, 1048544, 2097120, 4194272, 0, 0, 25165824, 67108832, 134217696, 268435424, 536870911] mixed z <| dm z z <| dr (p_ldB (ds := (encMachOperand r1).map .data) ty_107 z z z z) z <| dr (p_ldB (ds := (encMachOperand r5).map .data) ty_107 z z z z) z <| dr (p_ldB (ds := (encMachOperand r3).map .data) ty_107 z z z z) z <| dr (p_bs (f := encMachOperand) [.tmp 68, .tmp 69, .tmp 70] [r1, r5, r3] Tryz.underlying58 ty_107.size zr_107 z z z z (el1 (.agg _) z (el1 (.agg _) z (el1 (.agg _) z el0))) z) z <| dr (p_ldB (ds := (encTermX r11).map .data) ty_114 z z z z) z <| dr (p_ldB (ds := (encTermX r13).map .data) ty_114 z z z z) z <| dr (p_bs (f := encTerm) [.tmp 72, .tmp 73] [r11, r13] Tryz.underlying112 ty_114.size zr_114 z z z z (el1X (encTerm_X _) (.agg _) z (el1X (encTerm_X _) (.agg _) z el0)) z) z <| ?_
  obtain ⟨r41, e42, H⟩ := ob H
  refine dr (p_c (api_givenOp_ok e42) ent_51 z z z) z <| ?_
  obtain ⟨r43, e44, H⟩ := ob H
  refine dr (p_c (api_givenSet_ok e44) ent_50 z z z) z <| dr (p_ldB (ds := (encTermX r11).map .data) ty_114 z z z z) z <| dr (p_ldB (ds := (encTermX r13).map .data) ty_114 z z z z) z <| dr (p_bs (f := encTerm) [.tmp 77, .tmp 78] [r11, r13] Tryz.underlying112 ty_114.size zr_114 z z z z (el1X (encTerm_X _) (.agg _) z (el1X (encTerm_X _) (.agg _) z el0)) z) z <| ?_
  obtain ⟨r45, e46, H⟩ := ob H
  refine dr (p_c (api_givenOp_ok e46) ent_51 z z z) z <| ?_
  obtain ⟨r47, e48, H⟩ := ob H
  refine dr (p_c (api_givenZero_ok e48) ent_78 z z z) z <| dr (p_ldB (ds := (encTermX r11).map .data) ty_114 z z z z) z <| dr (p_ldB (ds := (encTermX r13).map .data) ty_114 z z z z) z <| dr (p_bs (f := encTerm) [.tmp 82, .tmp 83] [r11, r13] Tryz.underlying112 ty_114.size zr_114 z z z z (el1X (encTerm_X _) (.agg _) z (el1X (encTerm_X _) (.agg _) z el0)) z) z <| ?_
  obtain ⟨r49, e50, H⟩ := ob H
  refine dr (p_c (api_givenOp_ok e50) ent_51 z z z) z <| dr (p_ldB (ds := (encTermX r11).map .data) ty_114 z z z z) z <| dr (p_bs (f := encTerm) [.tmp 85, .tmp 86] [r49, r11] Tryz.underlying112 ty_114.size zr_114 z z z z (el1X (encTerm_X _) (.agg _) z (el1X (encTerm_X _) (.agg _) z el0)) z) z <| ?_
  obtain ⟨r51, e52, H⟩ := ob H
  refine dr (p_c (api_givenOp_ok e52) ent_51 z z z) z <| ?_
  obtain ⟨r53, e54, H⟩ := ob H
  refine dr (p_c (api_givenFixed_ok e54) ent_56 z z z) z <| dr (p_ldB (ds := (encTermX r11).map .data) ty_114 z z z z) z <| dr (p_ldB (ds := (encTermX r13).map .data) ty_114 z z z z) z <| dr (p_bs (f := encTerm) [.tmp 90, .tmp 91] [r11, r13] Tryz.underlying112 ty_114.size zr_114 z z z z (el1X (encTerm_X _) (.agg _) z (el1X (encTerm_X _) (.agg _) z el0)) z) z <| ?_
  obtain ⟨r55, e56, H⟩ := ob H
  refine dr (p_c (api_givenOp_ok e56) ent_51 z z z) z <| ?_
  obtain ⟨r57, e58, H⟩ := ob H
  refine dr (p_c (api_givenSign_ok e58) ent_79 z z z) z <| dr (p_bs (f := encMachEffect) [.tmp 76, .tmp 81, .tmp 89, .tmp 94] [r43, r47, r53, r57] Tryz.underlying59 ty_118.size zr_118 z z z z (el1 (.agg _) z (el1 (.agg _) z (el1 (.agg _) z (el1 (.agg _) z el0)))) z) z <| ?_
  obtain ⟨r59, e60, H⟩ := ob H
  refine drh (p_ch (ids := [0, 1, 15, 16]) (api_givenAdd_ok e60) ent_77 z z (rc z z (rc z rm (rc z rm (rc z z rn)))) (rc z z (rc z rm (rc z z (rc z rm rn)))) z ⟨z, ⟨z, ⟨z, ⟨z, q⟩⟩⟩⟩ (by decide) z z z (oc z (oc om (oc om (oc z on)))) (oc z (oc om (oc z (oc om on)))) z) z <| ?_
  refine wd_nil ?_ (by kernel_rfl)
  refine e_n <| wc_seq <| wc_draw [0, 0, 0, 0, 14, 0, 0, 96, 224, 480, 0, 0, 3072, 8160, 16352, 0, 0, 98304, 262112, 524256, 0, 0, 3145728, 8388576, 16777184, 33554400, 67108863] mixed z <| dm z z <| dr (p_ldB (ds := (encMachOperand r1).map .data) ty_107 z z z z) z <| dr (p_ldB (ds := (encMachOperand r5).map .data) ty_107 z z z z) z <| dr (p_ldB (ds := (encMachOperand r3).map .data) ty_107 z z z z) z <| dr (p_bs (f := encMachOperand) [.tmp 98, .tmp 99, .tmp 100] [r1, r5, r3] Tryz.underlying58 ty_107.size zr_107 z z z z (el1 (.agg _) z (el1 (.agg _) z (el1 (.agg _) z el0))) z) z <| dr (p_ldB (ds := (encTermX r11).map .data) ty_114 z z z z) z <| dr (p_ldB (ds := (encTermX r13).map .data) ty_114 z z z z) z <| dr (p_bs (f := encTerm) [.tmp 102, .tmp 103] [r11, r13] Tryz.underlying112 ty_114.size zr_114 z z z z (el1X (encTerm_X _) (.agg _) z (el1X (encTerm_X _) (.agg _) z el0)) z) z <| ?_
  obtain ⟨r61, e62, H⟩ := ob H
  refine dr (p_c (api_givenOp_ok e62) ent_51 z z z) z <| ?_
  obtain ⟨r63, e64, H⟩ := ob H
  refine dr (p_c (api_givenSet_ok e64) ent_50 z z z) z <| dr (p_ldB (ds := (encTermX r11).map .data) ty_114 z z z z) z <| dr (p_ldB (ds := (encTermX r13).map .data) ty_114 z z z z) z <| dr (p_bs (f := encTerm) [.tmp 107, .tmp 108] [r11, r13] Tryz.underlying112 ty_114.size zr_114 z z z z (el1X (encTerm_X _) (.agg _) z (el1X (encTerm_X _) (.agg _) z el0)) z) z <| ?_
  obtain ⟨r65, e66, H⟩ := ob H
  refine dr (p_c (api_givenOp_ok e66) ent_51 z z z) z <| ?_
  obtain ⟨r67, e68, H⟩ := ob H
  refine dr (p_c (api_givenFixed_ok e68) ent_56 z z z) z <| dr (p_ldB (ds := (encTermX r11).map .data) ty_114 z z z z) z <| dr (p_ldB (ds := (encTermX r13).map .data) ty_114 z z z z) z <| dr (p_bs (f := encTerm) [.tmp 112, .tmp 113] [r11, r13] Tryz.underlying112 ty_114.size zr_114 z z z z (el1X (encTerm_X _) (.agg _) z (el1X (encTerm_X _) (.agg _) z el0)) z) z <| ?_
  obtain ⟨r69, e70, H⟩ := ob H
  refine dr (p_c (api_givenOp_ok e70) ent_51 z z z) z <| ?_
  obtain ⟨r71, e72, H⟩ := ob H
  refine dr (p_c (api_givenFixed_ok e72) ent_56 z z z) z <| dr (p_ldB (ds := (encTermX r11).map .data) ty_114 z z z z) z <| dr (p_ldB (ds := (encTermX r13).map .data) ty_114 z z z z) z <| dr (p_bs (f := encTerm) [.tmp 117, .tmp 118] [r11, r13] Tryz.underlying112 ty_114.size zr_114 z z z z (el1X (encTerm_X _) (.agg _) z (el1X (encTerm_X _) (.agg _) z el0)) z) z <| ?_
  obtain ⟨r73, e74, H⟩ := ob H
  refine dr (p_c (api_givenOp_ok e74) ent_51 z z z) z <| ?_
  obtain ⟨r75, e76, H⟩ := ob H
  refine dr (p_c (api_givenFixed_ok e76) ent_56 z z z) z <| dr (p_bs (f := encMachEffect) [.tmp 106, .tmp 111, .tmp 116, .tmp 121] [r63, r67, r71, r75] Tryz.underlying59 ty_118.size zr_118 z z z z (el1 (.agg _) z (el1 (.agg _) z (el1 (.agg _) z (el1 (.agg _) z el0)))) z) z <| ?_
  obtain ⟨r77, e78, H⟩ := ob H
  refine drh (p_ch (ids := [0, 1, 16, 17]) (api_givenAdd_ok e78) ent_77 z z (rc z z (rc z rm (rc z rm (rc z z rn)))) (rc z z (rc z rm (rc z z (rc z rm rn)))) z ⟨z, ⟨z, ⟨z, ⟨z, q⟩⟩⟩⟩ (by decide) z z z (oc z (oc om (oc om (oc z on)))) (oc z (oc om (oc z (oc om on)))) z) z <| ?_
  refine wd_nil ?_ (by kernel_rfl)
  refine e_n <| sgr z <| l (p_bs (f := eS) [.const (Value.string {data := #[97, 110, 100]}), .const (Value.string {data := #[111, 114]}), .const (Value.string {data := #[120, 111, 114]})] [(⟨#[97, 110, 100]⟩ : ByteArray), (⟨#[111, 114]⟩ : ByteArray), (⟨#[120, 111, 114]⟩ : ByteArray)] Tryz.underlying98 ty_9.size zr_9 z z z z (el1 (.one _) z (el1 (.one _) z (el1 (.one _) z el0))) z) z <| la z z <| ne <| ?_
  refine w_jn6 H (fun v79 v80 v81 v82 v83 v84 => ⟨[(0, (.ptr 0 0)), (2, (.ptr 4 0)), (3, (.ptr 5 0)), (4, (.ptr 6 0)), (5, (.ptr 7 0)), (6, (.ptr 8 0)), (7, (.ptr 9 0)), (8, (.ptr 10 0)), (9, (.ptr 11 0)), (10, (.ptr 12 0))], [(0, (oC 27 [(aS v79), (aN .i64 v80), (aN .i64 v81), (.row 1), (aL 2 encMachBank v82), (aL 2 encMachUnit v83), (.row 17)])), (1, (oR 100 4 encMachReg x3)), (2, .dead), (4, (oD 107 (encMachOperand r1))), (5, (oD 107 (encMachOperand r3))), (6, (oD 107 (encMachOperand r5))), (7, (oD 107 (encMachOperand r7))), (8, (oD 107 (encMachOperand r9))), (9, (oD 114 (encTermX r11))), (10, (oD 114 (encTermX r13))), (11, (oD 114 (encTermX r15))), (12, (oD 114 (encTermX r17))), (17, (oR 61 9 encMachInstr v84))]⟩) ?_ ?_
  · intro v79 v80 v81 v82 v83 v84 H
    rw [api_givenFlagsWords_k1] at H
    refine wc_seq <| wc_draw [0, 0, 0, 0, 14, 0, 0, 96, 224, 480, 0, 0, 3072, 8160, 16352, 32736, 65535] mixed z <| dm z z <| dr (p_ldB (ds := (encMachOperand r1).map .data) ty_107 z z z z) z <| dr (p_ldB (ds := (encMachOperand r5).map .data) ty_107 z z z z) z <| dr (p_ldB (ds := (encMachOperand r7).map .data) ty_107 z z z z) z <| dr (p_bs (f := encMachOperand) [.tmp 157, .tmp 158, .tmp 159] [r1, r5, r7] Tryz.underlying58 ty_107.size zr_107 z z z z (el1 (.agg _) z (el1 (.agg _) z (el1 (.agg _) z el0))) z) z <| dr (p_ldB (ds := (encTermX r11).map .data) ty_114 z z z z) z <| dr (p_ldB (ds := (encTermX r17).map .data) ty_114 z z z z) z <| dr (p_bs (f := encTerm) [.tmp 161, .tmp 162] [r11, r17] Tryz.underlying112 ty_114.size zr_114 z z z z (el1X (encTerm_X _) (.agg _) z (el1X (encTerm_X _) (.agg _) z el0)) z) z <| ?_
    obtain ⟨r85, e86, H⟩ := ob H
    refine dr (p_c (api_givenOp_ok e86) ent_51 z z z) z <| ?_
    obtain ⟨r87, e88, H⟩ := ob H
    refine dr (p_c (api_givenSet_ok e88) ent_50 z z z) z <| dr (p_ldB (ds := (encTermX r11).map .data) ty_114 z z z z) z <| dr (p_ldB (ds := (encTermX r17).map .data) ty_114 z z z z) z <| dr (p_bs (f := encTerm) [.tmp 166, .tmp 167] [r11, r17] Tryz.underlying112 ty_114.size zr_114 z z z z (el1X (encTerm_X _) (.agg _) z (el1X (encTerm_X _) (.agg _) z el0)) z) z <| ?_
    obtain ⟨r89, e90, H⟩ := ob H
    refine dr (p_c (api_givenOp_ok e90) ent_51 z z z) z <| ?_
    obtain ⟨r91, e92, H⟩ := ob H
    refine dr (p_c (api_givenZero_ok e92) ent_78 z z z) z <| dr (p_bs (f := encMachEffect) [.tmp 165, .tmp 170] [r87, r91] Tryz.underlying59 ty_118.size zr_118 z z z z (el1 (.agg _) z (el1 (.agg _) z el0)) z) z <| ?_
    obtain ⟨r93, e94, H⟩ := ob H
    refine drh (p_ch (ids := [0, 1, 17, 19]) (api_givenAdd_ok e94) ent_77 z z (rc z z (rc z rm (rc z rm (rc z z rn)))) (rc z z (rc z rm (rc z z (rc z rm rn)))) z ⟨z, ⟨z, ⟨z, ⟨z, q⟩⟩⟩⟩ (by decide) z z z (oc z (oc om (oc om (oc z on)))) (oc z (oc om (oc z (oc om on)))) z) z <| ?_
    refine wd_nil ?_ (by kernel_rfl)
    refine e_n <| sgr z <| l (p_bs (f := eS) [.const (Value.string {data := #[115, 104, 108]}), .const (Value.string {data := #[115, 104, 114]}), .const (Value.string {data := #[115, 97, 114]})] [(⟨#[115, 104, 108]⟩ : ByteArray), (⟨#[115, 104, 114]⟩ : ByteArray), (⟨#[115, 97, 114]⟩ : ByteArray)] Tryz.underlying98 ty_9.size zr_9 z z z z (el1 (.one _) z (el1 (.one _) z (el1 (.one _) z el0))) z) z <| la z z <| ne <| ?_
    refine w_jn6 H (fun v95 v96 v97 v98 v99 v100 => ⟨[(0, (.ptr 0 0)), (2, (.ptr 4 0)), (3, (.ptr 5 0)), (4, (.ptr 6 0)), (6, (.ptr 8 0)), (7, (.ptr 9 0)), (8, (.ptr 10 0)), (9, (.ptr 11 0)), (10, (.ptr 12 0))], [(0, (oC 27 [(aS v95), (aN .i64 v96), (aN .i64 v97), (.row 1), (aL 2 encMachBank v98), (aL 2 encMachUnit v99), (.row 19)])), (1, (oR 100 4 encMachReg x3)), (2, .dead), (4, (oD 107 (encMachOperand r1))), (5, (oD 107 (encMachOperand r3))), (6, (oD 107 (encMachOperand r5))), (8, (oD 107 (encMachOperand r9))), (9, (oD 114 (encTermX r11))), (10, (oD 114 (encTermX r13))), (11, (oD 114 (encTermX r15))), (12, (oD 114 (encTermX r17))), (19, (oR 61 9 encMachInstr v100))]⟩) ?_ ?_
    · intro v95 v96 v97 v98 v99 v100 H
      rw [api_givenFlagsWords_k2] at H
      refine wc_seq <| wc_draw [0, 0, 0, 0, 14, 0, 0, 96, 224, 480, 992, 2047] mixed z <| dm z z <| dr (p_ldB (ds := (encMachOperand r1).map .data) ty_107 z z z z) z <| dr (p_ldB (ds := (encMachOperand r5).map .data) ty_107 z z z z) z <| dr (p_ldB (ds := (encMachOperand r9).map .data) ty_107 z z z z) z <| dr (p_bs (f := encMachOperand) [.tmp 200, .tmp 201, .tmp 202] [r1, r5, r9] Tryz.underlying58 ty_107.size zr_107 z z z z (el1 (.agg _) z (el1 (.agg _) z (el1 (.agg _) z el0))) z) z <| dr (p_ldB (ds := (encTermX r11).map .data) ty_114 z z z z) z <| dr (p_ldB (ds := (encTermX r17).map .data) ty_114 z z z z) z <| dr (p_bs (f := encTerm) [.tmp 204, .tmp 205] [r11, r17] Tryz.underlying112 ty_114.size zr_114 z z z z (el1X (encTerm_X _) (.agg _) z (el1X (encTerm_X _) (.agg _) z el0)) z) z <| ?_
      obtain ⟨r101, e102, H⟩ := ob H
      refine dr (p_c (api_givenOp_ok e102) ent_51 z z z) z <| ?_
      obtain ⟨r103, e104, H⟩ := ob H
      refine dr (p_c (api_givenSet_ok e104) ent_50 z z z) z <| dr (p_bs (f := encMachEffect) [.tmp 208] [r103] Tryz.underlying59 ty_118.size zr_118 z z z z (el1 (.agg _) z el0) z) z <| ?_
      obtain ⟨r105, e106, H⟩ := ob H
      refine drh (p_ch (ids := [0, 1, 19, 21]) (api_givenAdd_ok e106) ent_77 z z (rc z z (rc z rm (rc z rm (rc z z rn)))) (rc z z (rc z rm (rc z z (rc z rm rn)))) z ⟨z, ⟨z, ⟨z, ⟨z, q⟩⟩⟩⟩ (by decide) z z z (oc z (oc om (oc om (oc z on)))) (oc z (oc om (oc z (oc om on)))) z) z <| ?_
      refine wd_nil ?_ (by kernel_rfl)
      refine e_n <| wc_seq <| wc_draw [0, 0, 0, 0, 14, 0, 0, 96, 224, 480, 992, 2047] mixed z <| dm z z <| dr (p_ldB (ds := (encMachOperand r1).map .data) ty_107 z z z z) z <| dr (p_ldB (ds := (encMachOperand r5).map .data) ty_107 z z z z) z <| dr (p_ldB (ds := (encMachOperand r9).map .data) ty_107 z z z z) z <| dr (p_bs (f := encMachOperand) [.tmp 212, .tmp 213, .tmp 214] [r1, r5, r9] Tryz.underlying58 ty_107.size zr_107 z z z z (el1 (.agg _) z (el1 (.agg _) z (el1 (.agg _) z el0))) z) z <| dr (p_ldB (ds := (encTermX r11).map .data) ty_114 z z z z) z <| dr (p_ldB (ds := (encTermX r17).map .data) ty_114 z z z z) z <| dr (p_bs (f := encTerm) [.tmp 216, .tmp 217] [r11, r17] Tryz.underlying112 ty_114.size zr_114 z z z z (el1X (encTerm_X _) (.agg _) z (el1X (encTerm_X _) (.agg _) z el0)) z) z <| ?_
      obtain ⟨r107, e108, H⟩ := ob H
      refine dr (p_c (api_givenOp_ok e108) ent_51 z z z) z <| ?_
      obtain ⟨r109, e110, H⟩ := ob H
      refine dr (p_c (api_givenSet_ok e110) ent_50 z z z) z <| dr (p_bs (f := encMachEffect) [.tmp 220] [r109] Tryz.underlying59 ty_118.size zr_118 z z z z (el1 (.agg _) z el0) z) z <| ?_
      obtain ⟨r111, e112, H⟩ := ob H
      refine drh (p_ch (ids := [0, 1, 21, 22]) (api_givenAdd_ok e112) ent_77 z z (rc z z (rc z rm (rc z rm (rc z z rn)))) (rc z z (rc z rm (rc z z (rc z rm rn)))) z ⟨z, ⟨z, ⟨z, ⟨z, q⟩⟩⟩⟩ (by decide) z z z (oc z (oc om (oc om (oc z on)))) (oc z (oc om (oc z (oc om on)))) z) z <| ?_
      refine wd_nil ?_ (by kernel_rfl)
      refine e_n <| wc_seq <| wc_draw [0, 0, 0, 6, 0, 16, 48, 112, 240, 511] mixed z <| dm z z <| dr (p_ldB (ds := (encMachOperand r1).map .data) ty_107 z z z z) z <| dr (p_ldB (ds := (encMachOperand r5).map .data) ty_107 z z z z) z <| dr (p_bs (f := encMachOperand) [.tmp 224, .tmp 225] [r1, r5] Tryz.underlying58 ty_107.size zr_107 z z z z (el1 (.agg _) z (el1 (.agg _) z el0)) z) z <| dr (p_ldB (ds := (encTermX r11).map .data) ty_114 z z z z) z <| dr (p_bs (f := encTerm) [.tmp 227] [r11] Tryz.underlying112 ty_114.size zr_114 z z z z (el1X (encTerm_X _) (.agg _) z el0) z) z <| ?_
      obtain ⟨r113, e114, H⟩ := ob H
      refine dr (p_c (api_givenOp_ok e114) ent_51 z z z) z <| ?_
      obtain ⟨r115, e116, H⟩ := ob H
      refine dr (p_c (api_givenSet_ok e116) ent_50 z z z) z <| dr (p_bs (f := encMachEffect) [.tmp 230] [r115] Tryz.underlying59 ty_118.size zr_118 z z z z (el1 (.agg _) z el0) z) z <| ?_
      obtain ⟨r117, e118, H⟩ := ob H
      refine drh (p_ch (ids := [0, 1, 22, 23]) (api_givenAdd_ok e118) ent_77 z z (rc z z (rc z rm (rc z rm (rc z z rn)))) (rc z z (rc z rm (rc z z (rc z rm rn)))) z ⟨z, ⟨z, ⟨z, ⟨z, q⟩⟩⟩⟩ (by decide) z z z (oc z (oc om (oc om (oc z on)))) (oc z (oc om (oc z (oc om on)))) z) z <| ?_
      refine wd_nil ?_ (by kernel_rfl)
      refine e_n <| wc_seq <| wc_draw [0, 0, 0, 6, 0, 16, 48, 112, 240, 511] mixed z <| dm z z <| dr (p_ldB (ds := (encMachOperand r1).map .data) ty_107 z z z z) z <| dr (p_ldB (ds := (encMachOperand r5).map .data) ty_107 z z z z) z <| dr (p_bs (f := encMachOperand) [.tmp 234, .tmp 235] [r1, r5] Tryz.underlying58 ty_107.size zr_107 z z z z (el1 (.agg _) z (el1 (.agg _) z el0)) z) z <| dr (p_ldB (ds := (encTermX r11).map .data) ty_114 z z z z) z <| dr (p_bs (f := encTerm) [.tmp 237] [r11] Tryz.underlying112 ty_114.size zr_114 z z z z (el1X (encTerm_X _) (.agg _) z el0) z) z <| ?_
      obtain ⟨r119, e120, H⟩ := ob H
      refine dr (p_c (api_givenOp_ok e120) ent_51 z z z) z <| ?_
      obtain ⟨r121, e122, H⟩ := ob H
      refine dr (p_c (api_givenSet_ok e122) ent_50 z z z) z <| dr (p_bs (f := encMachEffect) [.tmp 240] [r121] Tryz.underlying59 ty_118.size zr_118 z z z z (el1 (.agg _) z el0) z) z <| ?_
      obtain ⟨r123, e124, H⟩ := ob H
      refine drh (p_ch (ids := [0, 1, 23, 24]) (api_givenAdd_ok e124) ent_77 z z (rc z z (rc z rm (rc z rm (rc z z rn)))) (rc z z (rc z rm (rc z z (rc z rm rn)))) z ⟨z, ⟨z, ⟨z, ⟨z, q⟩⟩⟩⟩ (by decide) z z z (oc z (oc om (oc om (oc z on)))) (oc z (oc om (oc z (oc om on)))) z) z <| ?_
      refine wd_nil ?_ (by kernel_rfl)
      refine e_n <| wc_seq <| wc_draw [0, 0, 0, 0, 14, 0, 0, 96, 224, 480, 992, 2047] mixed z <| dm z z <| dr (p_ldB (ds := (encMachOperand r1).map .data) ty_107 z z z z) z <| dr (p_ldB (ds := (encMachOperand r5).map .data) ty_107 z z z z) z <| dr (p_ldB (ds := (encMachOperand r3).map .data) ty_107 z z z z) z <| dr (p_bs (f := encMachOperand) [.tmp 244, .tmp 245, .tmp 246] [r1, r5, r3] Tryz.underlying58 ty_107.size zr_107 z z z z (el1 (.agg _) z (el1 (.agg _) z (el1 (.agg _) z el0))) z) z <| dr (p_ldB (ds := (encTermX r11).map .data) ty_114 z z z z) z <| dr (p_ldB (ds := (encTermX r13).map .data) ty_114 z z z z) z <| dr (p_bs (f := encTerm) [.tmp 248, .tmp 249] [r11, r13] Tryz.underlying112 ty_114.size zr_114 z z z z (el1X (encTerm_X _) (.agg _) z (el1X (encTerm_X _) (.agg _) z el0)) z) z <| ?_
      obtain ⟨r125, e126, H⟩ := ob H
      refine dr (p_c (api_givenOp_ok e126) ent_51 z z z) z <| ?_
      obtain ⟨r127, e128, H⟩ := ob H
      refine dr (p_c (api_givenSet_ok e128) ent_50 z z z) z <| dr (p_bs (f := encMachEffect) [.tmp 252] [r127] Tryz.underlying59 ty_118.size zr_118 z z z z (el1 (.agg _) z el0) z) z <| ?_
      obtain ⟨r129, e130, H⟩ := ob H
      refine drh (p_ch (ids := [0, 1, 24, 25]) (api_givenAdd_ok e130) ent_77 z z (rc z z (rc z rm (rc z rm (rc z z rn)))) (rc z z (rc z rm (rc z z (rc z rm rn)))) z ⟨z, ⟨z, ⟨z, ⟨z, q⟩⟩⟩⟩ (by decide) z z z (oc z (oc om (oc om (oc z on)))) (oc z (oc om (oc z (oc om on)))) z) z <| ?_
      refine wd_nil ?_ (by kernel_rfl)
      refine e_n <| wc_seq <| wc_draw [0, 0, 0, 0, 14, 0, 0, 96, 224, 480, 992, 2047] mixed z <| dm z z <| dr (p_ldB (ds := (encMachOperand r1).map .data) ty_107 z z z z) z <| dr (p_ldB (ds := (encMachOperand r5).map .data) ty_107 z z z z) z <| dr (p_ldB (ds := (encMachOperand r3).map .data) ty_107 z z z z) z <| dr (p_bs (f := encMachOperand) [.tmp 256, .tmp 257, .tmp 258] [r1, r5, r3] Tryz.underlying58 ty_107.size zr_107 z z z z (el1 (.agg _) z (el1 (.agg _) z (el1 (.agg _) z el0))) z) z <| dr (p_ldB (ds := (encTermX r11).map .data) ty_114 z z z z) z <| dr (p_ldB (ds := (encTermX r13).map .data) ty_114 z z z z) z <| dr (p_bs (f := encTerm) [.tmp 260, .tmp 261] [r11, r13] Tryz.underlying112 ty_114.size zr_114 z z z z (el1X (encTerm_X _) (.agg _) z (el1X (encTerm_X _) (.agg _) z el0)) z) z <| ?_
      obtain ⟨r131, e132, H⟩ := ob H
      refine dr (p_c (api_givenOp_ok e132) ent_51 z z z) z <| ?_
      obtain ⟨r133, e134, H⟩ := ob H
      refine dr (p_c (api_givenSet_ok e134) ent_50 z z z) z <| dr (p_bs (f := encMachEffect) [.tmp 264] [r133] Tryz.underlying59 ty_118.size zr_118 z z z z (el1 (.agg _) z el0) z) z <| ?_
      obtain ⟨r135, e136, H⟩ := ob H
      refine drh (p_ch (ids := [0, 1, 25, 26]) (api_givenAdd_ok e136) ent_77 z z (rc z z (rc z rm (rc z rm (rc z z rn)))) (rc z z (rc z rm (rc z z (rc z rm rn)))) z ⟨z, ⟨z, ⟨z, ⟨z, q⟩⟩⟩⟩ (by decide) z z z (oc z (oc om (oc om (oc z on)))) (oc z (oc om (oc z (oc om on)))) z) z <| ?_
      refine wd_nil ?_ (by kernel_rfl)
      refine e_n <| wc_seq <| wc_draw [0, 0, 0, 0, 14, 0, 0, 96, 224, 480, 992, 2047] mixed z <| dm z z <| dr (p_ldB (ds := (encMachOperand r1).map .data) ty_107 z z z z) z <| dr (p_ldB (ds := (encMachOperand r5).map .data) ty_107 z z z z) z <| dr (p_ldB (ds := (encMachOperand r3).map .data) ty_107 z z z z) z <| dr (p_bs (f := encMachOperand) [.tmp 268, .tmp 269, .tmp 270] [r1, r5, r3] Tryz.underlying58 ty_107.size zr_107 z z z z (el1 (.agg _) z (el1 (.agg _) z (el1 (.agg _) z el0))) z) z <| dr (p_ldB (ds := (encTermX r11).map .data) ty_114 z z z z) z <| dr (p_ldB (ds := (encTermX r13).map .data) ty_114 z z z z) z <| dr (p_bs (f := encTerm) [.tmp 272, .tmp 273] [r11, r13] Tryz.underlying112 ty_114.size zr_114 z z z z (el1X (encTerm_X _) (.agg _) z (el1X (encTerm_X _) (.agg _) z el0)) z) z <| ?_
      obtain ⟨r137, e138, H⟩ := ob H
      refine dr (p_c (api_givenOp_ok e138) ent_51 z z z) z <| ?_
      obtain ⟨r139, e140, H⟩ := ob H
      refine dr (p_c (api_givenSet_ok e140) ent_50 z z z) z <| dr (p_bs (f := encMachEffect) [.tmp 276] [r139] Tryz.underlying59 ty_118.size zr_118 z z z z (el1 (.agg _) z el0) z) z <| ?_
      obtain ⟨r141, e142, H⟩ := ob H
      refine drh (p_ch (ids := [0, 1, 26, 27]) (api_givenAdd_ok e142) ent_77 z z (rc z z (rc z rm (rc z rm (rc z z rn)))) (rc z z (rc z rm (rc z z (rc z rm rn)))) z ⟨z, ⟨z, ⟨z, ⟨z, q⟩⟩⟩⟩ (by decide) z z z (oc z (oc om (oc om (oc z on)))) (oc z (oc om (oc z (oc om on)))) z) z <| ?_
      refine wd_nil ?_ (by kernel_rfl)
      refine e_n <| wc_draw [0, 0, 0, 6, 0, 0, 48, 112, 240, 0, 0, 1536, 4080, 8176, 0, 0, 49152, 131056, 262128, 524272, 1048575] mixed z <| dm z z <| dr (p_ldB (ds := (encMachOperand r1).map .data) ty_107 z z z z) z <| dr (p_ldB (ds := (encMachOperand r3).map .data) ty_107 z z z z) z <| dr (p_bs (f := encMachOperand) [.tmp 280, .tmp 281] [r1, r3] Tryz.underlying58 ty_107.size zr_107 z z z z (el1 (.agg _) z (el1 (.agg _) z el0)) z) z <| dr (p_ldB (ds := (encTermX r15).map .data) ty_114 z z z z) z <| dr (p_ldB (ds := (encTermX r13).map .data) ty_114 z z z z) z <| dr (p_bs (f := encTerm) [.tmp 283, .tmp 284] [r15, r13] Tryz.underlying112 ty_114.size zr_114 z z z z (el1X (encTerm_X _) (.agg _) z (el1X (encTerm_X _) (.agg _) z el0)) z) z <| ?_
      obtain ⟨r143, e144, H⟩ := ob H
      refine dr (p_c (api_givenOp_ok e144) ent_51 z z z) z <| ?_
      obtain ⟨r145, e146, H⟩ := ob H
      refine dr (p_c (api_givenFixed_ok e146) ent_56 z z z) z <| dr (p_ldB (ds := (encTermX r15).map .data) ty_114 z z z z) z <| dr (p_ldB (ds := (encTermX r13).map .data) ty_114 z z z z) z <| dr (p_bs (f := encTerm) [.tmp 288, .tmp 289] [r15, r13] Tryz.underlying112 ty_114.size zr_114 z z z z (el1X (encTerm_X _) (.agg _) z (el1X (encTerm_X _) (.agg _) z el0)) z) z <| ?_
      obtain ⟨r147, e148, H⟩ := ob H
      refine dr (p_c (api_givenOp_ok e148) ent_51 z z z) z <| ?_
      obtain ⟨r149, e150, H⟩ := ob H
      refine dr (p_c (api_givenFixed_ok e150) ent_56 z z z) z <| dr (p_ldB (ds := (encTermX r15).map .data) ty_114 z z z z) z <| dr (p_ldB (ds := (encTermX r13).map .data) ty_114 z z z z) z <| dr (p_bs (f := encTerm) [.tmp 293, .tmp 294] [r15, r13] Tryz.underlying112 ty_114.size zr_114 z z z z (el1X (encTerm_X _) (.agg _) z (el1X (encTerm_X _) (.agg _) z el0)) z) z <| ?_
      obtain ⟨r151, e152, H⟩ := ob H
      refine dr (p_c (api_givenOp_ok e152) ent_51 z z z) z <| ?_
      obtain ⟨r153, e154, H⟩ := ob H
      refine dr (p_c (api_givenFixed_ok e154) ent_56 z z z) z <| dr (p_bs (f := encMachEffect) [.tmp 287, .tmp 292, .tmp 297] [r145, r149, r153] Tryz.underlying59 ty_118.size zr_118 z z z z (el1 (.agg _) z (el1 (.agg _) z (el1 (.agg _) z el0))) z) z <| ?_
      obtain ⟨r155, e156, H⟩ := ob H
      refine drh (p_ch (ids := [0, 1, 27, 28]) (api_givenAdd_ok e156) ent_77 z z (rc z z (rc z rm (rc z rm (rc z z rn)))) (rc z z (rc z rm (rc z z (rc z rm rn)))) z ⟨z, ⟨z, ⟨z, ⟨z, q⟩⟩⟩⟩ (by decide) z z z (oc z (oc om (oc om (oc z on)))) (oc z (oc om (oc z (oc om on)))) z) z <| ?_
      refine wd_nil ?_ (by kernel_rfl)
      obtain rfl := sm H
      exact fin (Or.inl z) rs0 (re2 [(0, 0), (1, 1), (2, 2), (28, 3)] q z (hs z z z (hr z (hx (hr z h0)))))
    intro H
    refine sgr z <| l (p_bs (f := (eN .u8)) [.const (Value.int IntKind.u8 11), .const (Value.int IntKind.u8 12), .const (Value.int IntKind.u8 13)] [11, 12, 13] Tryz.underlying116 ty_5.size zr_5 z z z z (el1 (.one _) z (el1 (.one _) z (el1 (.one _) z el0))) z) z <| l (p_lenL Tryz.underlying116 z) z <| lm z z <| ne <| wc_block <| w_lp7 H (fun v157 v158 v159 v160 v161 v162 v163 => ⟨[(0, (.ptr 0 0)), (2, (.ptr 4 0)), (3, (.ptr 5 0)), (4, (.ptr 6 0)), (6, (.ptr 8 0)), (7, (.ptr 9 0)), (8, (.ptr 10 0)), (9, (.ptr 11 0)), (10, (.ptr 12 0)), (11, (aL 1 eS ([(⟨#[115, 104, 108]⟩ : ByteArray), (⟨#[115, 104, 114]⟩ : ByteArray), (⟨#[115, 97, 114]⟩ : ByteArray)]))), (174, (aL 1 (eN .u8) [11, 12, 13])), (175, (aN .i64 ([11, 12, 13].length : Int))), (176, (aN .i64 v157))], [(0, (oC 27 [(aS v158), (aN .i64 v159), (aN .i64 v160), (.row 1), (aL 2 encMachBank v161), (aL 2 encMachUnit v162), (.row 19)])), (1, (oR 100 4 encMachReg x3)), (2, .dead), (4, (oD 107 (encMachOperand r1))), (5, (oD 107 (encMachOperand r3))), (6, (oD 107 (encMachOperand r5))), (8, (oD 107 (encMachOperand r9))), (9, (oD 114 (encTermX r11))), (10, (oD 114 (encTermX r13))), (11, (oD 114 (encTermX r15))), (12, (oD 114 (encTermX r17))), (19, (oR 61 9 encMachInstr v163))]⟩) (en [(0, 0), (1, 1), (2, 2), (4, 4), (5, 5), (6, 6), (8, 8), (9, 9), (10, 10), (11, 11), (12, 12), (19, 19)] (ws z z z (ws z z z (ws z z z (ws z z z (ws z z z (ws z z z (ws z z z (ws z z z (ws z z z (wd z (wd z (wd z (wd z w0))))))))))))) z (hs z z z (hr z (hx (hc z (hc z (hc z (hc z (hc z (hc z (hc z (hc z (hr z h0))))))))))))) <| ?_
    intro n3 v157 v158 v159 v160 v161 v162 v163 H
    rw [api_givenFlagsWords_b3] at H
    refine sgr z <| l (p_lss z z) z <| ne <| wc_seq <| ?_
    rcases cn H with ⟨b164, H⟩ | ⟨b164, H⟩
    · refine c_t z b164 ?_
      refine se <| wc_seq <| wc_block <| sgr z <| lm z z <| ?_
      obtain ⟨r165, e166, H⟩ := ob H
      refine l (p_ixL Tryz.underlying116 ty_5.size z z e166) z <| l (p_ldP ty_5 z z) z <| la z z <| la z z <| ne <| wc_draw [0, 0, 0, 6, 14, 0, 0, 0, 224, 0, 0, 0, 3072, 7680, 15872, 32256, 65535] mixed z <| dm z z <| dm z z <| dm z z <| ?_
      obtain ⟨r167, e168, H⟩ := ob H
      refine dr (p_ixL Tryz.underlying98 ty_9.size z z e168) z <| dr (p_ldP ty_9 z z) z <| dr (p_ldB (ds := (encMachOperand r1).map .data) ty_107 z z z z) z <| dr (p_ldB (ds := (encMachOperand r5).map .data) ty_107 z z z z) z <| dr (p_ldB (ds := (encMachOperand r3).map .data) ty_107 z z z z) z <| dr (p_bs (f := encMachOperand) [.tmp 186, .tmp 187, .tmp 188] [r1, r5, r3] Tryz.underlying58 ty_107.size zr_107 z z z z (el1 (.agg _) z (el1 (.agg _) z (el1 (.agg _) z el0))) z) z <| dm z z <| dr (p_ldB (ds := (encTermX r11).map .data) ty_114 z z z z) z <| dr (p_ldB (ds := (encTermX r13).map .data) ty_114 z z z z) z <| dr (p_bs (f := encTerm) [.tmp 191, .tmp 192] [r11, r13] Tryz.underlying112 ty_114.size zr_114 z z z z (el1X (encTerm_X _) (.agg _) z (el1X (encTerm_X _) (.agg _) z el0)) z) z <| ?_
      obtain ⟨r169, e170, H⟩ := ob H
      refine dr (p_c (api_givenOp_ok e170) ent_51 z z z) z <| ?_
      obtain ⟨r171, e172, H⟩ := ob H
      refine dr (p_c (api_givenSet_ok e172) ent_50 z z z) z <| dr (p_bs (f := encMachEffect) [.tmp 195] [r171] Tryz.underlying59 ty_118.size zr_118 z z z z (el1 (.agg _) z el0) z) z <| ?_
      obtain ⟨r173, e174, H⟩ := ob H
      refine drh (p_ch (ids := [0, 1, 19, 21]) (api_givenAdd_ok e174) ent_77 z z (rc z z (rc z rm (rc z rm (rc z z rn)))) (rc z z (rc z rm (rc z z (rc z rm rn)))) z ⟨z, ⟨z, ⟨z, ⟨z, q⟩⟩⟩⟩ (by decide) z z z (oc z (oc om (oc om (oc z on)))) (oc z (oc om (oc z (oc om on)))) z) z <| ?_
      refine wd_nil ?_ (by kernel_rfl)
      refine e_bn (e_n ?_)
      refine wc_region z <| l (p_add z z) z <| lm z z <| ne <| ?_
      exact ⟨w64 (v157 + 1), r173.2.1, r173.2.2.1, r173.2.2.2.1, r173.2.2.2.2.1, r173.2.2.2.2.2, r173.1, H, en [(0, 0), (1, 1), (2, 2), (4, 4), (5, 5), (6, 6), (8, 8), (9, 9), (10, 10), (11, 11), (12, 12), (21, 19)] (ws z z z (ws z z z (ws z z z (ws z z z (ws z z z (ws z z z (ws z z z (ws z z z (ws z z z (wd z (wd z (wd z (wd z w0))))))))))))) z (hs z z z (hr z (hx (hc z (hc z (hc z (hc z (hc z (hc z (hc z (hc z (hr z h0))))))))))))⟩
    refine c_f z b164 <| wc_exit <| ?_
    refine e_te (e_te (e_h (e_n ?_)))
    exact ⟨v158, v159, v160, v161, v162, v163, H, en [(0, 0), (1, 1), (2, 2), (4, 4), (5, 5), (6, 6), (8, 8), (9, 9), (10, 10), (11, 11), (12, 12), (19, 19)] (ws z z z (ws z z z (ws z z z (ws z z z (ws z z z (ws z z z (ws z z z (ws z z z (ws z z z w0))))))))) z (hs z z z (hr z (hx (hc z (hc z (hc z (hc z (hc z (hc z (hc z (hc z (hr z h0))))))))))))⟩
  intro H
  refine sgr z <| l (p_bs (f := (eN .u8)) [.const (Value.int IntKind.u8 8), .const (Value.int IntKind.u8 9), .const (Value.int IntKind.u8 10)] [8, 9, 10] Tryz.underlying116 ty_5.size zr_5 z z z z (el1 (.one _) z (el1 (.one _) z (el1 (.one _) z el0))) z) z <| l (p_lenL Tryz.underlying116 z) z <| lm z z <| ne <| wc_block <| w_lp7 H (fun v175 v176 v177 v178 v179 v180 v181 => ⟨[(0, (.ptr 0 0)), (2, (.ptr 4 0)), (3, (.ptr 5 0)), (4, (.ptr 6 0)), (5, (.ptr 7 0)), (6, (.ptr 8 0)), (7, (.ptr 9 0)), (8, (.ptr 10 0)), (9, (.ptr 11 0)), (10, (.ptr 12 0)), (11, (aL 1 eS ([(⟨#[97, 110, 100]⟩ : ByteArray), (⟨#[111, 114]⟩ : ByteArray), (⟨#[120, 111, 114]⟩ : ByteArray)]))), (125, (aL 1 (eN .u8) [8, 9, 10])), (126, (aN .i64 ([8, 9, 10].length : Int))), (127, (aN .i64 v175))], [(0, (oC 27 [(aS v176), (aN .i64 v177), (aN .i64 v178), (.row 1), (aL 2 encMachBank v179), (aL 2 encMachUnit v180), (.row 17)])), (1, (oR 100 4 encMachReg x3)), (2, .dead), (4, (oD 107 (encMachOperand r1))), (5, (oD 107 (encMachOperand r3))), (6, (oD 107 (encMachOperand r5))), (7, (oD 107 (encMachOperand r7))), (8, (oD 107 (encMachOperand r9))), (9, (oD 114 (encTermX r11))), (10, (oD 114 (encTermX r13))), (11, (oD 114 (encTermX r15))), (12, (oD 114 (encTermX r17))), (17, (oR 61 9 encMachInstr v181))]⟩) (en [(0, 0), (1, 1), (2, 2), (4, 4), (5, 5), (6, 6), (7, 7), (8, 8), (9, 9), (10, 10), (11, 11), (12, 12), (17, 17)] (ws z z z (ws z z z (ws z z z (ws z z z (ws z z z (ws z z z (ws z z z (ws z z z (ws z z z (ws z z z (wd z (wd z (wd z (wd z w0)))))))))))))) z (hs z z z (hr z (hx (hc z (hc z (hc z (hc z (hc z (hc z (hc z (hc z (hc z (hr z h0)))))))))))))) <| ?_
  intro n4 v175 v176 v177 v178 v179 v180 v181 H
  rw [api_givenFlagsWords_b4] at H
  refine sgr z <| l (p_lss z z) z <| ne <| wc_seq <| ?_
  rcases cn H with ⟨b182, H⟩ | ⟨b182, H⟩
  · refine c_t z b182 ?_
    refine se <| wc_seq <| wc_block <| sgr z <| lm z z <| ?_
    obtain ⟨r183, e184, H⟩ := ob H
    refine l (p_ixL Tryz.underlying116 ty_5.size z z e184) z <| l (p_ldP ty_5 z z) z <| la z z <| la z z <| ne <| wc_draw [0, 0, 0, 6, 14, 0, 0, 0, 224, 0, 0, 0, 3072, 7680, 15872, 0, 0, 0, 196608, 523776, 1048064, 2096640, 4194303] mixed z <| dm z z <| dm z z <| dm z z <| ?_
    obtain ⟨r185, e186, H⟩ := ob H
    refine dr (p_ixL Tryz.underlying98 ty_9.size z z e186) z <| dr (p_ldP ty_9 z z) z <| dr (p_ldB (ds := (encMachOperand r1).map .data) ty_107 z z z z) z <| dr (p_ldB (ds := (encMachOperand r5).map .data) ty_107 z z z z) z <| dr (p_ldB (ds := (encMachOperand r3).map .data) ty_107 z z z z) z <| dr (p_bs (f := encMachOperand) [.tmp 137, .tmp 138, .tmp 139] [r1, r5, r3] Tryz.underlying58 ty_107.size zr_107 z z z z (el1 (.agg _) z (el1 (.agg _) z (el1 (.agg _) z el0))) z) z <| dm z z <| dr (p_ldB (ds := (encTermX r11).map .data) ty_114 z z z z) z <| dr (p_ldB (ds := (encTermX r13).map .data) ty_114 z z z z) z <| dr (p_bs (f := encTerm) [.tmp 142, .tmp 143] [r11, r13] Tryz.underlying112 ty_114.size zr_114 z z z z (el1X (encTerm_X _) (.agg _) z (el1X (encTerm_X _) (.agg _) z el0)) z) z <| ?_
    obtain ⟨r187, e188, H⟩ := ob H
    refine dr (p_c (api_givenOp_ok e188) ent_51 z z z) z <| ?_
    obtain ⟨r189, e190, H⟩ := ob H
    refine dr (p_c (api_givenSet_ok e190) ent_50 z z z) z <| dm z z <| dr (p_ldB (ds := (encTermX r11).map .data) ty_114 z z z z) z <| dr (p_ldB (ds := (encTermX r13).map .data) ty_114 z z z z) z <| dr (p_bs (f := encTerm) [.tmp 148, .tmp 149] [r11, r13] Tryz.underlying112 ty_114.size zr_114 z z z z (el1X (encTerm_X _) (.agg _) z (el1X (encTerm_X _) (.agg _) z el0)) z) z <| ?_
    obtain ⟨r191, e192, H⟩ := ob H
    refine dr (p_c (api_givenOp_ok e192) ent_51 z z z) z <| ?_
    obtain ⟨r193, e194, H⟩ := ob H
    refine dr (p_c (api_givenZero_ok e194) ent_78 z z z) z <| dr (p_bs (f := encMachEffect) [.tmp 146, .tmp 152] [r189, r193] Tryz.underlying59 ty_118.size zr_118 z z z z (el1 (.agg _) z (el1 (.agg _) z el0)) z) z <| ?_
    obtain ⟨r195, e196, H⟩ := ob H
    refine drh (p_ch (ids := [0, 1, 17, 19]) (api_givenAdd_ok e196) ent_77 z z (rc z z (rc z rm (rc z rm (rc z z rn)))) (rc z z (rc z rm (rc z z (rc z rm rn)))) z ⟨z, ⟨z, ⟨z, ⟨z, q⟩⟩⟩⟩ (by decide) z z z (oc z (oc om (oc om (oc z on)))) (oc z (oc om (oc z (oc om on)))) z) z <| ?_
    refine wd_nil ?_ (by kernel_rfl)
    refine e_bn (e_n ?_)
    refine wc_region z <| l (p_add z z) z <| lm z z <| ne <| ?_
    exact ⟨w64 (v175 + 1), r195.2.1, r195.2.2.1, r195.2.2.2.1, r195.2.2.2.2.1, r195.2.2.2.2.2, r195.1, H, en [(0, 0), (1, 1), (2, 2), (4, 4), (5, 5), (6, 6), (7, 7), (8, 8), (9, 9), (10, 10), (11, 11), (12, 12), (19, 17)] (ws z z z (ws z z z (ws z z z (ws z z z (ws z z z (ws z z z (ws z z z (ws z z z (ws z z z (ws z z z (wd z (wd z (wd z (wd z w0)))))))))))))) z (hs z z z (hr z (hx (hc z (hc z (hc z (hc z (hc z (hc z (hc z (hc z (hc z (hr z h0)))))))))))))⟩
  refine c_f z b182 <| wc_exit <| ?_
  refine e_te (e_te (e_h (e_n ?_)))
  exact ⟨v176, v177, v178, v179, v180, v181, H, en [(0, 0), (1, 1), (2, 2), (4, 4), (5, 5), (6, 6), (7, 7), (8, 8), (9, 9), (10, 10), (11, 11), (12, 12), (17, 17)] (ws z z z (ws z z z (ws z z z (ws z z z (ws z z z (ws z z z (ws z z z (ws z z z (ws z z z (ws z z z w0)))))))))) z (hs z z z (hr z (hx (hc z (hc z (hc z (hc z (hc z (hc z (hc z (hc z (hc z (hr z h0)))))))))))))⟩

def api_givenStore (x0 : Term) (x1 : Term) : Option MachEffect :=
  some ((MachEffect.mk 2 0 0 x0 x1 ((Term.mk 0 0 0 ⟨#[]⟩ 0 ([] : List Term)))))
theorem api_givenStore_ok {x0 : Term} {x1 : Term} {R : MachEffect} (H : api_givenStore x0 x1 = some R) : FnOk Tryz.prog K0 53 [(aA (encTermX x0)), (aA (encTermX x1))] [] (aA (encMachEffect R)) [] := by
  refine fn_w (nt := 8) (np := 0) Tryz.func53 z z (by simp) (np_of2 z) <| ?_
  unfold api_givenStore at H
  refine sgr z <| lh (p_bx 0 z q z) z <| lh (p_bx 1 z q z) z <| lh (p_al 2 zr_118 z) z <| ne <| sgr z <| l (p_ldB (ds := (encTermX x0).map .data) ty_114 z z z z) z <| l (p_ldB (ds := (encTermX x1).map .data) ty_114 z z z z) z <| l (p_bd (cs := [(aN .u8 2), (aN .i64 0), (aN .i64 0), (aN .u8 x0.Kind), (aN .i64 x0.Width), (aN .u64 x0.Bits), (aS x0.Name), (aN .i64 x0.Low), (aL 6 encTerm x0.Sub), (aN .u8 x1.Kind), (aN .i64 x1.Width), (aN .u64 x1.Bits), (aS x1.Name), (aN .i64 x1.Low), (aL 6 encTerm x1.Sub), (aN .u8 0), (aN .i64 0), (aN .u64 0), (aS ⟨#[]⟩), (aN .i64 0), aNil]) pl_118 zr_118 z ⟨q, ⟨q, ⟨q, q⟩⟩⟩ z) z <| l0h (p_stA (ds := [(aN .u8 2), (aN .i64 0), (aN .i64 0), (aN .u8 x0.Kind), (aN .i64 x0.Width), (aN .u64 x0.Bits), (aS x0.Name), (aN .i64 x0.Low), (aL 6 encTerm x0.Sub), (aN .u8 x1.Kind), (aN .i64 x1.Width), (aN .u64 x1.Bits), (aS x1.Name), (aN .i64 x1.Low), (aL 6 encTerm x1.Sub), (aN .u8 0), (aN .i64 0), (aN .u64 0), (aS ⟨#[]⟩), (aN .i64 0), aNil]) ty_118 z z z z z z) <| ne <| wc_ret <| ?_
  obtain rfl := sm H
  exact fin (Or.inr z) (rs1 (rva (ds := [(aN .u8 2), (aN .i64 0), (aN .i64 0), (aN .u8 x0.Kind), (aN .i64 x0.Width), (aN .u64 x0.Bits), (aS x0.Name), (aN .i64 x0.Low), (aL 6 encTerm x0.Sub), (aN .u8 x1.Kind), (aN .i64 x1.Width), (aN .u64 x1.Bits), (aS x1.Name), (aN .i64 x1.Low), (aL 6 encTerm x1.Sub), (aN .u8 0), (aN .i64 0), (aN .u64 0), (aS ⟨#[]⟩), (aN .i64 0), aNil]) ty_118 z z z z) rs0) (re [] (.sub (sg ⟨sr, ⟨sr, ⟨sr, ⟨sr, ⟨sr, ⟨sr, ⟨sr, ⟨sr, ⟨sr, ⟨sr, ⟨sr, ⟨sr, ⟨sr, ⟨sr, ⟨sr, ⟨sr, ⟨sr, ⟨sr, ⟨sr, ⟨sr, ⟨sn, q⟩⟩⟩⟩⟩⟩⟩⟩⟩⟩⟩⟩⟩⟩⟩⟩⟩⟩⟩⟩⟩) z) z h0)

def api_givenFlagsBytes (x0 : ByteArray) (x1 : Int) (x2 : Int) (x3 : List MachReg) (x4 : List MachBank) (x5 : List MachUnit) (x6 : List MachInstr) : Option ((List MachInstr) × ByteArray × Int × Int × (List MachBank) × (List MachUnit)) :=
  (api_givenField (⟨#[100]⟩ : ByteArray) 1 0 0 [(MachPiece.mk 7 3)]).bind fun r1 =>
  (api_givenField (⟨#[115]⟩ : ByteArray) 1 0 0 [(MachPiece.mk 4 3)]).bind fun r3 =>
  (api_givenField (⟨#[100]⟩ : ByteArray) 1 1 0 [(MachPiece.mk 7 3)]).bind fun r5 =>
  (api_givenField (⟨#[115]⟩ : ByteArray) 1 1 0 [(MachPiece.mk 4 3)]).bind fun r7 =>
  (api_givenTied (⟨#[97]⟩ : ByteArray) 1 0).bind fun r9 =>
  (api_givenField (⟨#[110]⟩ : ByteArray) 3 0 0 [(MachPiece.mk 0 4)]).bind fun r11 =>
  (api_givenField (⟨#[110]⟩ : ByteArray) 3 0 1 [(MachPiece.mk 0 4)]).bind fun r13 =>
  (api_givenVar (⟨#[115]⟩ : ByteArray) 16).bind fun r15 =>
  (api_givenVar (⟨#[100]⟩ : ByteArray) 16).bind fun r17 =>
  (api_givenVar (⟨#[110]⟩ : ByteArray) 16).bind fun r19 =>
  (api_givenOp 5 16 [r15, r19]).bind fun r21 =>
  (api_givenOp 24 16 [r21]).bind fun r23 =>
  (api_givenSet 0 r23).bind fun r25 =>
  (api_givenAdd x0 x1 x2 x3 x4 x5 x6 (⟨#[108, 100]⟩ : ByteArray) 2 [r1, r3, r13] [r25]).bind fun r27 =>
  (api_givenOp 5 16 [r15, r19]).bind fun r29 =>
  (api_givenStore r29 r17).bind fun r31 =>
  (api_givenAdd r27.2.1 r27.2.2.1 r27.2.2.2.1 x3 r27.2.2.2.2.1 r27.2.2.2.2.2 r27.1 (⟨#[115, 116]⟩ : ByteArray) 1 [r1, r3, r13] [r31]).bind fun r33 =>
  (api_givenOp 5 16 [r15, r19]).bind fun r35 =>
  (api_givenOp 24 8 [r35]).bind fun r37 =>
  (api_givenSet 0 r37).bind fun r39 =>
  (api_givenAdd r33.2.1 r33.2.2.1 r33.2.2.2.1 x3 r33.2.2.2.2.1 r33.2.2.2.2.2 r33.1 (⟨#[108, 100, 98]⟩ : ByteArray) 2 [r5, r3, r11] [r39]).bind fun r41 =>
  (api_givenOp 5 16 [r15, r19]).bind fun r43 =>
  (api_givenVar (⟨#[100]⟩ : ByteArray) 8).bind fun r45 =>
  (api_givenStore r43 r45).bind fun r47 =>
  (api_givenAdd r41.2.1 r41.2.2.1 r41.2.2.2.1 x3 r41.2.2.2.2.1 r41.2.2.2.2.2 r41.1 (⟨#[115, 116, 98]⟩ : ByteArray) 1 [r5, r3, r11] [r47]).bind fun r49 =>
  (api_givenVar (⟨#[115]⟩ : ByteArray) 8).bind fun r51 =>
  (api_givenSet 0 r51).bind fun r53 =>
  (api_givenAdd r49.2.1 r49.2.2.1 r49.2.2.2.1 x3 r49.2.2.2.2.1 r49.2.2.2.2.2 r49.1 (⟨#[109, 111, 118, 98]⟩ : ByteArray) 1 [r5, r7] [r53]).bind fun r55 =>
  (api_givenVar (⟨#[97]⟩ : ByteArray) 8).bind fun r57 =>
  (api_givenVar (⟨#[115]⟩ : ByteArray) 8).bind fun r59 =>
  (api_givenOp 5 8 [r57, r59]).bind fun r61 =>
  (api_givenSet 0 r61).bind fun r63 =>
  (api_givenAdd r55.2.1 r55.2.2.1 r55.2.2.2.1 x3 r55.2.2.2.2.1 r55.2.2.2.2.2 r55.1 (⟨#[97, 100, 100, 98]⟩ : ByteArray) 1 [r5, r9, r7] [r63]).bind fun r65 =>
  (api_givenVar (⟨#[115]⟩ : ByteArray) 8).bind fun r67 =>
  (api_givenOp 22 16 [r67]).bind fun r69 =>
  (api_givenSet 0 r69).bind fun r71 =>
  (api_givenAdd r65.2.1 r65.2.2.1 r65.2.2.2.1 x3 r65.2.2.2.2.1 r65.2.2.2.2.2 r65.1 (⟨#[122, 101, 120, 116]⟩ : ByteArray) 1 [r1, r7] [r71]).bind fun r73 =>
  (api_givenVar (⟨#[115]⟩ : ByteArray) 8).bind fun r75 =>
  (api_givenOp 23 16 [r75]).bind fun r77 =>
  (api_givenSet 0 r77).bind fun r79 =>
  (api_givenAdd r73.2.1 r73.2.2.1 r73.2.2.2.1 x3 r73.2.2.2.2.1 r73.2.2.2.2.2 r73.1 (⟨#[115, 101, 120, 116]⟩ : ByteArray) 1 [r1, r7] [r79]).bind fun r81 =>
  some (r81.1, r81.2.1, r81.2.2.1, r81.2.2.2.1, r81.2.2.2.2.1, r81.2.2.2.2.2)
theorem api_givenFlagsBytes_ok {x0 : ByteArray} {x1 : Int} {x2 : Int} {x3 : List MachReg} {x4 : List MachBank} {x5 : List MachUnit} {x6 : List MachInstr} {R : (List MachInstr) × ByteArray × Int × Int × (List MachBank) × (List MachUnit)} (H : api_givenFlagsBytes x0 x1 x2 x3 x4 x5 x6 = some R) : FnOk Tryz.prog K0 43 [(.ptr 0 0)] [(0, (oC 27 [(aS x0), (aN .i64 x1), (aN .i64 x2), (.row 1), (aL 2 encMachBank x4), (aL 2 encMachUnit x5), (.row 2)])), (1, (oR 100 4 encMachReg x3)), (2, (oR 61 9 encMachInstr x6)), (3, .fresh)] (.tup []) [(0, (oC 27 [(aS R.2.1), (aN .i64 R.2.2.1), (aN .i64 R.2.2.2.1), (.row 1), (aL 2 encMachBank R.2.2.2.2.1), (aL 2 encMachUnit R.2.2.2.2.2), (.row 3)])), (1, (oR 100 4 encMachReg x3)), (2, .dead), (3, (oR 61 9 encMachInstr R.1))] := by
  refine fn_w (nt := 128) (np := 3) Tryz.func43 z z (by simp) (np_of2 z) <| ?_
  unfold api_givenFlagsBytes at H
  refine sgr z <| l (p_bd (cs := (encMachPiece (MachPiece.mk 7 3)).map .data) pl_110 zr_110 z ⟨q, ⟨q, q⟩⟩ z) z <| l (p_bs (f := encMachPiece) [.tmp 12] [(MachPiece.mk 7 3)] Tryz.underlying105 ty_110.size zr_110 z z z z (el1 (.agg _) z el0) z) z <| ?_
  obtain ⟨r1, e2, H⟩ := ob H
  refine l (p_c (api_givenField_ok e2) ent_48 z z z) z <| l (p_bd (cs := (encMachPiece (MachPiece.mk 4 3)).map .data) pl_110 zr_110 z ⟨q, ⟨q, q⟩⟩ z) z <| l (p_bs (f := encMachPiece) [.tmp 15] [(MachPiece.mk 4 3)] Tryz.underlying105 ty_110.size zr_110 z z z z (el1 (.agg _) z el0) z) z <| ?_
  obtain ⟨r3, e4, H⟩ := ob H
  refine l (p_c (api_givenField_ok e4) ent_48 z z z) z <| lh (p_al 4 zr_107 z) z <| lh (p_al 5 zr_107 z) z <| l0h (p_stA (ds := (encMachOperand r1).map .data) ty_107 z z z z z z) <| l0h (p_stA (ds := (encMachOperand r3).map .data) ty_107 z z z z z z) <| ne <| sgr z <| l (p_bd (cs := (encMachPiece (MachPiece.mk 7 3)).map .data) pl_110 zr_110 z ⟨q, ⟨q, q⟩⟩ z) z <| l (p_bs (f := encMachPiece) [.tmp 18] [(MachPiece.mk 7 3)] Tryz.underlying105 ty_110.size zr_110 z z z z (el1 (.agg _) z el0) z) z <| ?_
  obtain ⟨r5, e6, H⟩ := ob H
  refine l (p_c (api_givenField_ok e6) ent_48 z z z) z <| l (p_bd (cs := (encMachPiece (MachPiece.mk 4 3)).map .data) pl_110 zr_110 z ⟨q, ⟨q, q⟩⟩ z) z <| l (p_bs (f := encMachPiece) [.tmp 21] [(MachPiece.mk 4 3)] Tryz.underlying105 ty_110.size zr_110 z z z z (el1 (.agg _) z el0) z) z <| ?_
  obtain ⟨r7, e8, H⟩ := ob H
  refine l (p_c (api_givenField_ok e8) ent_48 z z z) z <| lh (p_al 6 zr_107 z) z <| lh (p_al 7 zr_107 z) z <| l0h (p_stA (ds := (encMachOperand r5).map .data) ty_107 z z z z z z) <| l0h (p_stA (ds := (encMachOperand r7).map .data) ty_107 z z z z z z) <| ne <| sgr z <| ?_
  obtain ⟨r9, e10, H⟩ := ob H
  refine l (p_c (api_givenTied_ok e10) ent_52 z z z) z <| lh (p_al 8 zr_107 z) z <| l0h (p_stA (ds := (encMachOperand r9).map .data) ty_107 z z z z z z) <| ne <| sgr z <| l (p_bd (cs := (encMachPiece (MachPiece.mk 0 4)).map .data) pl_110 zr_110 z ⟨q, ⟨q, q⟩⟩ z) z <| l (p_bs (f := encMachPiece) [.tmp 25] [(MachPiece.mk 0 4)] Tryz.underlying105 ty_110.size zr_110 z z z z (el1 (.agg _) z el0) z) z <| ?_
  obtain ⟨r11, e12, H⟩ := ob H
  refine l (p_c (api_givenField_ok e12) ent_48 z z z) z <| l (p_bd (cs := (encMachPiece (MachPiece.mk 0 4)).map .data) pl_110 zr_110 z ⟨q, ⟨q, q⟩⟩ z) z <| l (p_bs (f := encMachPiece) [.tmp 28] [(MachPiece.mk 0 4)] Tryz.underlying105 ty_110.size zr_110 z z z z (el1 (.agg _) z el0) z) z <| ?_
  obtain ⟨r13, e14, H⟩ := ob H
  refine l (p_c (api_givenField_ok e14) ent_48 z z z) z <| lh (p_al 9 zr_107 z) z <| lh (p_al 10 zr_107 z) z <| l0h (p_stA (ds := (encMachOperand r11).map .data) ty_107 z z z z z z) <| l0h (p_stA (ds := (encMachOperand r13).map .data) ty_107 z z z z z z) <| ne <| sgr z <| ?_
  obtain ⟨r15, e16, H⟩ := ob H
  refine l (p_c (api_givenVar_ok e16) ent_49 z z z) z <| ?_
  obtain ⟨r17, e18, H⟩ := ob H
  refine l (p_c (api_givenVar_ok e18) ent_49 z z z) z <| ?_
  obtain ⟨r19, e20, H⟩ := ob H
  refine l (p_c (api_givenVar_ok e20) ent_49 z z z) z <| lh (p_al 11 zr_114 z) z <| lh (p_al 12 zr_114 z) z <| lh (p_al 13 zr_114 z) z <| l0h (p_stA (ds := (encTermX r15).map .data) ty_114 z z z z z z) <| l0h (p_stA (ds := (encTermX r17).map .data) ty_114 z z z z z z) <| l0h (p_stA (ds := (encTermX r19).map .data) ty_114 z z z z z z) <| ne <| wc_seq <| wc_draw [0, 0, 0, 0, 14, 0, 0, 96, 224, 480, 992, 2016, 4064, 8191] mixed z <| dm z z <| dr (p_ldB (ds := (encMachOperand r1).map .data) ty_107 z z z z) z <| dr (p_ldB (ds := (encMachOperand r3).map .data) ty_107 z z z z) z <| dr (p_ldB (ds := (encMachOperand r13).map .data) ty_107 z z z z) z <| dr (p_bs (f := encMachOperand) [.tmp 35, .tmp 36, .tmp 37] [r1, r3, r13] Tryz.underlying58 ty_107.size zr_107 z z z z (el1 (.agg _) z (el1 (.agg _) z (el1 (.agg _) z el0))) z) z <| dr (p_ldB (ds := (encTermX r15).map .data) ty_114 z z z z) z <| dr (p_ldB (ds := (encTermX r19).map .data) ty_114 z z z z) z <| dr (p_bs (f := encTerm) [.tmp 39, .tmp 40] [r15, r19] Tryz.underlying112 ty_114.size zr_114 z z z z (el1X (encTerm_X _) (.agg _) z (el1X (encTerm_X _) (.agg _) z el0)) z) z <| ?_
  obtain ⟨r21, e22, H⟩ := ob H
  refine dr (p_c (api_givenOp_ok e22) ent_51 z z z) z <| dr (p_bs (f := encTerm) [.tmp 42] [r21] Tryz.underlying112 ty_114.size zr_114 z z z z (el1X (encTerm_X _) (.agg _) z el0) z) z <| ?_
  obtain ⟨r23, e24, H⟩ := ob H
  refine dr (p_c (api_givenOp_ok e24) ent_51 z z z) z <| ?_
  obtain ⟨r25, e26, H⟩ := ob H
  refine dr (p_c (api_givenSet_ok e26) ent_50 z z z) z <| dr (p_bs (f := encMachEffect) [.tmp 45] [r25] Tryz.underlying59 ty_118.size zr_118 z z z z (el1 (.agg _) z el0) z) z <| ?_
  obtain ⟨r27, e28, H⟩ := ob H
  refine drh (p_ch (ids := [0, 1, 2, 14]) (api_givenAdd_ok e28) ent_77 z z (rc z z (rc z rm (rc z rm (rc z z rn)))) (rc z z (rc z rm (rc z z (rc z rm rn)))) z ⟨z, ⟨z, ⟨z, ⟨z, q⟩⟩⟩⟩ (by decide) z z z (oc z (oc om (oc om (oc z on)))) (oc z (oc om (oc z (oc om on)))) z) z <| ?_
  refine wd_nil ?_ (by kernel_rfl)
  refine e_n <| wc_seq <| wc_draw [0, 0, 0, 0, 14, 0, 0, 96, 224, 0, 992, 2016, 4095] mixed z <| dm z z <| dr (p_ldB (ds := (encMachOperand r1).map .data) ty_107 z z z z) z <| dr (p_ldB (ds := (encMachOperand r3).map .data) ty_107 z z z z) z <| dr (p_ldB (ds := (encMachOperand r13).map .data) ty_107 z z z z) z <| dr (p_bs (f := encMachOperand) [.tmp 49, .tmp 50, .tmp 51] [r1, r3, r13] Tryz.underlying58 ty_107.size zr_107 z z z z (el1 (.agg _) z (el1 (.agg _) z (el1 (.agg _) z el0))) z) z <| dr (p_ldB (ds := (encTermX r15).map .data) ty_114 z z z z) z <| dr (p_ldB (ds := (encTermX r19).map .data) ty_114 z z z z) z <| dr (p_bs (f := encTerm) [.tmp 53, .tmp 54] [r15, r19] Tryz.underlying112 ty_114.size zr_114 z z z z (el1X (encTerm_X _) (.agg _) z (el1X (encTerm_X _) (.agg _) z el0)) z) z <| ?_
  obtain ⟨r29, e30, H⟩ := ob H
  refine dr (p_c (api_givenOp_ok e30) ent_51 z z z) z <| dr (p_ldB (ds := (encTermX r17).map .data) ty_114 z z z z) z <| ?_
  obtain ⟨r31, e32, H⟩ := ob H
  refine dr (p_c (api_givenStore_ok e32) ent_53 z z z) z <| dr (p_bs (f := encMachEffect) [.tmp 58] [r31] Tryz.underlying59 ty_118.size zr_118 z z z z (el1 (.agg _) z el0) z) z <| ?_
  obtain ⟨r33, e34, H⟩ := ob H
  refine drh (p_ch (ids := [0, 1, 14, 15]) (api_givenAdd_ok e34) ent_77 z z (rc z z (rc z rm (rc z rm (rc z z rn)))) (rc z z (rc z rm (rc z z (rc z rm rn)))) z ⟨z, ⟨z, ⟨z, ⟨z, q⟩⟩⟩⟩ (by decide) z z z (oc z (oc om (oc om (oc z on)))) (oc z (oc om (oc z (oc om on)))) z) z <| ?_
  refine wd_nil ?_ (by kernel_rfl)
  refine e_n <| wc_seq <| wc_draw [0, 0, 0, 0, 14, 0, 0, 96, 224, 480, 992, 2016, 4064, 8191] mixed z <| dm z z <| dr (p_ldB (ds := (encMachOperand r5).map .data) ty_107 z z z z) z <| dr (p_ldB (ds := (encMachOperand r3).map .data) ty_107 z z z z) z <| dr (p_ldB (ds := (encMachOperand r11).map .data) ty_107 z z z z) z <| dr (p_bs (f := encMachOperand) [.tmp 62, .tmp 63, .tmp 64] [r5, r3, r11] Tryz.underlying58 ty_107.size zr_107 z z z z (el1 (.agg _) z (el1 (.agg _) z (el1 (.agg _) z el0))) z) z <| dr (p_ldB (ds := (encTermX r15).map .data) ty_114 z z z z) z <| dr (p_ldB (ds := (encTermX r19).map .data) ty_114 z z z z) z <| dr (p_bs (f := encTerm) [.tmp 66, .tmp 67] [r15, r19] Tryz.underlying112 ty_114.size zr_114 z z z z (el1X (encTerm_X _) (.agg _) z (el1X (encTerm_X _) (.agg _) z el0)) z) z <| ?_
  obtain ⟨r35, e36, H⟩ := ob H
  refine dr (p_c (api_givenOp_ok e36) ent_51 z z z) z <| dr (p_bs (f := encTerm) [.tmp 69] [r35] Tryz.underlying112 ty_114.size zr_114 z z z z (el1X (encTerm_X _) (.agg _) z el0) z) z <| ?_
  obtain ⟨r37, e38, H⟩ := ob H
  refine dr (p_c (api_givenOp_ok e38) ent_51 z z z) z <| ?_
  obtain ⟨r39, e40, H⟩ := ob H
  refine dr (p_c (api_givenSet_ok e40) ent_50 z z z) z <| dr (p_bs (f := encMachEffect) [.tmp 72] [r39] Tryz.underlying59 ty_118.size zr_118 z z z z (el1 (.agg _) z el0) z) z <| ?_
  obtain ⟨r41, e42, H⟩ := ob H
  refine drh (p_ch (ids := [0, 1, 15, 16]) (api_givenAdd_ok e42) ent_77 z z (rc z z (rc z rm (rc z rm (rc z z rn)))) (rc z z (rc z rm (rc z z (rc z rm rn)))) z ⟨z, ⟨z, ⟨z, ⟨z, q⟩⟩⟩⟩ (by decide) z z z (oc z (oc om (oc om (oc z on)))) (oc z (oc om (oc z (oc om on)))) z) z <| ?_
  refine wd_nil ?_ (by kernel_rfl)
  refine e_n <| wc_seq <| wc_draw [0, 0, 0, 0, 14, 0, 0, 96, 224, 480, 992, 2016, 4095] mixed z <| dm z z <| dr (p_ldB (ds := (encMachOperand r5).map .data) ty_107 z z z z) z <| dr (p_ldB (ds := (encMachOperand r3).map .data) ty_107 z z z z) z <| dr (p_ldB (ds := (encMachOperand r11).map .data) ty_107 z z z z) z <| dr (p_bs (f := encMachOperand) [.tmp 76, .tmp 77, .tmp 78] [r5, r3, r11] Tryz.underlying58 ty_107.size zr_107 z z z z (el1 (.agg _) z (el1 (.agg _) z (el1 (.agg _) z el0))) z) z <| dr (p_ldB (ds := (encTermX r15).map .data) ty_114 z z z z) z <| dr (p_ldB (ds := (encTermX r19).map .data) ty_114 z z z z) z <| dr (p_bs (f := encTerm) [.tmp 80, .tmp 81] [r15, r19] Tryz.underlying112 ty_114.size zr_114 z z z z (el1X (encTerm_X _) (.agg _) z (el1X (encTerm_X _) (.agg _) z el0)) z) z <| ?_
  obtain ⟨r43, e44, H⟩ := ob H
  refine dr (p_c (api_givenOp_ok e44) ent_51 z z z) z <| ?_
  obtain ⟨r45, e46, H⟩ := ob H
  refine dr (p_c (api_givenVar_ok e46) ent_49 z z z) z <| ?_
  obtain ⟨r47, e48, H⟩ := ob H
  refine dr (p_c (api_givenStore_ok e48) ent_53 z z z) z <| dr (p_bs (f := encMachEffect) [.tmp 85] [r47] Tryz.underlying59 ty_118.size zr_118 z z z z (el1 (.agg _) z el0) z) z <| ?_
  obtain ⟨r49, e50, H⟩ := ob H
  refine drh (p_ch (ids := [0, 1, 16, 17]) (api_givenAdd_ok e50) ent_77 z z (rc z z (rc z rm (rc z rm (rc z z rn)))) (rc z z (rc z rm (rc z z (rc z rm rn)))) z ⟨z, ⟨z, ⟨z, ⟨z, q⟩⟩⟩⟩ (by decide) z z z (oc z (oc om (oc om (oc z on)))) (oc z (oc om (oc z (oc om on)))) z) z <| ?_
  refine wd_nil ?_ (by kernel_rfl)
  refine e_n <| wc_seq <| wc_draw [0, 0, 0, 6, 0, 16, 48, 127] mixed z <| dm z z <| dr (p_ldB (ds := (encMachOperand r5).map .data) ty_107 z z z z) z <| dr (p_ldB (ds := (encMachOperand r7).map .data) ty_107 z z z z) z <| dr (p_bs (f := encMachOperand) [.tmp 89, .tmp 90] [r5, r7] Tryz.underlying58 ty_107.size zr_107 z z z z (el1 (.agg _) z (el1 (.agg _) z el0)) z) z <| ?_
  obtain ⟨r51, e52, H⟩ := ob H
  refine dr (p_c (api_givenVar_ok e52) ent_49 z z z) z <| ?_
  obtain ⟨r53, e54, H⟩ := ob H
  refine dr (p_c (api_givenSet_ok e54) ent_50 z z z) z <| dr (p_bs (f := encMachEffect) [.tmp 93] [r53] Tryz.underlying59 ty_118.size zr_118 z z z z (el1 (.agg _) z el0) z) z <| ?_
  obtain ⟨r55, e56, H⟩ := ob H
  refine drh (p_ch (ids := [0, 1, 17, 18]) (api_givenAdd_ok e56) ent_77 z z (rc z z (rc z rm (rc z rm (rc z z rn)))) (rc z z (rc z rm (rc z z (rc z rm rn)))) z ⟨z, ⟨z, ⟨z, ⟨z, q⟩⟩⟩⟩ (by decide) z z z (oc z (oc om (oc om (oc z on)))) (oc z (oc om (oc z (oc om on)))) z) z <| ?_
  refine wd_nil ?_ (by kernel_rfl)
  refine e_n <| wc_seq <| wc_draw [0, 0, 0, 0, 14, 0, 32, 96, 224, 480, 992, 2047] mixed z <| dm z z <| dr (p_ldB (ds := (encMachOperand r5).map .data) ty_107 z z z z) z <| dr (p_ldB (ds := (encMachOperand r9).map .data) ty_107 z z z z) z <| dr (p_ldB (ds := (encMachOperand r7).map .data) ty_107 z z z z) z <| dr (p_bs (f := encMachOperand) [.tmp 97, .tmp 98, .tmp 99] [r5, r9, r7] Tryz.underlying58 ty_107.size zr_107 z z z z (el1 (.agg _) z (el1 (.agg _) z (el1 (.agg _) z el0))) z) z <| ?_
  obtain ⟨r57, e58, H⟩ := ob H
  refine dr (p_c (api_givenVar_ok e58) ent_49 z z z) z <| ?_
  obtain ⟨r59, e60, H⟩ := ob H
  refine dr (p_c (api_givenVar_ok e60) ent_49 z z z) z <| dr (p_bs (f := encTerm) [.tmp 101, .tmp 102] [r57, r59] Tryz.underlying112 ty_114.size zr_114 z z z z (el1X (encTerm_X _) (.agg _) z (el1X (encTerm_X _) (.agg _) z el0)) z) z <| ?_
  obtain ⟨r61, e62, H⟩ := ob H
  refine dr (p_c (api_givenOp_ok e62) ent_51 z z z) z <| ?_
  obtain ⟨r63, e64, H⟩ := ob H
  refine dr (p_c (api_givenSet_ok e64) ent_50 z z z) z <| dr (p_bs (f := encMachEffect) [.tmp 105] [r63] Tryz.underlying59 ty_118.size zr_118 z z z z (el1 (.agg _) z el0) z) z <| ?_
  obtain ⟨r65, e66, H⟩ := ob H
  refine drh (p_ch (ids := [0, 1, 18, 19]) (api_givenAdd_ok e66) ent_77 z z (rc z z (rc z rm (rc z rm (rc z z rn)))) (rc z z (rc z rm (rc z z (rc z rm rn)))) z ⟨z, ⟨z, ⟨z, ⟨z, q⟩⟩⟩⟩ (by decide) z z z (oc z (oc om (oc om (oc z on)))) (oc z (oc om (oc z (oc om on)))) z) z <| ?_
  refine wd_nil ?_ (by kernel_rfl)
  refine e_n <| wc_seq <| wc_draw [0, 0, 0, 6, 0, 16, 48, 112, 240, 511] mixed z <| dm z z <| dr (p_ldB (ds := (encMachOperand r1).map .data) ty_107 z z z z) z <| dr (p_ldB (ds := (encMachOperand r7).map .data) ty_107 z z z z) z <| dr (p_bs (f := encMachOperand) [.tmp 109, .tmp 110] [r1, r7] Tryz.underlying58 ty_107.size zr_107 z z z z (el1 (.agg _) z (el1 (.agg _) z el0)) z) z <| ?_
  obtain ⟨r67, e68, H⟩ := ob H
  refine dr (p_c (api_givenVar_ok e68) ent_49 z z z) z <| dr (p_bs (f := encTerm) [.tmp 112] [r67] Tryz.underlying112 ty_114.size zr_114 z z z z (el1X (encTerm_X _) (.agg _) z el0) z) z <| ?_
  obtain ⟨r69, e70, H⟩ := ob H
  refine dr (p_c (api_givenOp_ok e70) ent_51 z z z) z <| ?_
  obtain ⟨r71, e72, H⟩ := ob H
  refine dr (p_c (api_givenSet_ok e72) ent_50 z z z) z <| dr (p_bs (f := encMachEffect) [.tmp 115] [r71] Tryz.underlying59 ty_118.size zr_118 z z z z (el1 (.agg _) z el0) z) z <| ?_
  obtain ⟨r73, e74, H⟩ := ob H
  refine drh (p_ch (ids := [0, 1, 19, 20]) (api_givenAdd_ok e74) ent_77 z z (rc z z (rc z rm (rc z rm (rc z z rn)))) (rc z z (rc z rm (rc z z (rc z rm rn)))) z ⟨z, ⟨z, ⟨z, ⟨z, q⟩⟩⟩⟩ (by decide) z z z (oc z (oc om (oc om (oc z on)))) (oc z (oc om (oc z (oc om on)))) z) z <| ?_
  refine wd_nil ?_ (by kernel_rfl)
  refine e_n <| wc_draw [0, 0, 0, 6, 0, 16, 48, 112, 240, 511] mixed z <| dm z z <| dr (p_ldB (ds := (encMachOperand r1).map .data) ty_107 z z z z) z <| dr (p_ldB (ds := (encMachOperand r7).map .data) ty_107 z z z z) z <| dr (p_bs (f := encMachOperand) [.tmp 119, .tmp 120] [r1, r7] Tryz.underlying58 ty_107.size zr_107 z z z z (el1 (.agg _) z (el1 (.agg _) z el0)) z) z <| ?_
  obtain ⟨r75, e76, H⟩ := ob H
  refine dr (p_c (api_givenVar_ok e76) ent_49 z z z) z <| dr (p_bs (f := encTerm) [.tmp 122] [r75] Tryz.underlying112 ty_114.size zr_114 z z z z (el1X (encTerm_X _) (.agg _) z el0) z) z <| ?_
  obtain ⟨r77, e78, H⟩ := ob H
  refine dr (p_c (api_givenOp_ok e78) ent_51 z z z) z <| ?_
  obtain ⟨r79, e80, H⟩ := ob H
  refine dr (p_c (api_givenSet_ok e80) ent_50 z z z) z <| dr (p_bs (f := encMachEffect) [.tmp 125] [r79] Tryz.underlying59 ty_118.size zr_118 z z z z (el1 (.agg _) z el0) z) z <| ?_
  obtain ⟨r81, e82, H⟩ := ob H
  refine drh (p_ch (ids := [0, 1, 20, 21]) (api_givenAdd_ok e82) ent_77 z z (rc z z (rc z rm (rc z rm (rc z z rn)))) (rc z z (rc z rm (rc z z (rc z rm rn)))) z ⟨z, ⟨z, ⟨z, ⟨z, q⟩⟩⟩⟩ (by decide) z z z (oc z (oc om (oc om (oc z on)))) (oc z (oc om (oc z (oc om on)))) z) z <| ?_
  refine wd_nil ?_ (by kernel_rfl)
  obtain rfl := sm H
  exact fin (Or.inl z) rs0 (re2 [(0, 0), (1, 1), (2, 2), (21, 3)] q z (hs z z z (hr z (hx (hr z h0)))))

def api_givenFlag (x0 : ByteArray) : Option Term :=
  asr (decide ((⟨#[114, 46]⟩ : ByteArray).size + x0.size ≤ 9223372036854775807)) <|
  (api_givenVar ((⟨#[114, 46]⟩ : ByteArray) ++ x0) 1).bind fun r2 =>
  some r2
theorem api_givenFlag_ok {x0 : ByteArray} {R : Term} (H : api_givenFlag x0 = some R) : FnOk Tryz.prog K0 80 [(aS x0)] [] (aA (encTermX R)) [] := by
  refine fn_w (nt := 6) (np := 0) Tryz.func80 z z (by simp) (np_of2 z) <| ?_
  unfold api_givenFlag at H
  refine sgr z <| lh (p_al 0 zr_114 z) z <| ne <| sgr z <| lm z z <| ?_
  obtain ⟨e1, H⟩ := as_ H
  refine l (p_sad z z e1) z <| ?_
  obtain ⟨r2, e3, H⟩ := ob H
  refine l (p_c (api_givenVar_ok e3) ent_49 z z z) z <| l0h (p_stA (ds := (encTermX r2).map .data) ty_114 z z z z z z) <| ne <| wc_ret <| ?_
  obtain rfl := sm H
  exact fin (Or.inr z) (rs1 (rva (ds := (encTermX r2).map .data) ty_114 z z z z) rs0) (re [] (.adat) z h0)

def api_givenJump (x0 : Term) (x1 : Term) : Option MachEffect :=
  some ((MachEffect.mk 3 0 0 ((Term.mk 0 0 0 ⟨#[]⟩ 0 ([] : List Term))) x0 x1))
theorem api_givenJump_ok {x0 : Term} {x1 : Term} {R : MachEffect} (H : api_givenJump x0 x1 = some R) : FnOk Tryz.prog K0 55 [(aA (encTermX x0)), (aA (encTermX x1))] [] (aA (encMachEffect R)) [] := by
  refine fn_w (nt := 8) (np := 0) Tryz.func55 z z (by simp) (np_of2 z) <| ?_
  unfold api_givenJump at H
  refine sgr z <| lh (p_bx 0 z q z) z <| lh (p_bx 1 z q z) z <| lh (p_al 2 zr_118 z) z <| ne <| sgr z <| l (p_ldB (ds := (encTermX x0).map .data) ty_114 z z z z) z <| l (p_ldB (ds := (encTermX x1).map .data) ty_114 z z z z) z <| l (p_bd (cs := [(aN .u8 3), (aN .i64 0), (aN .i64 0), (aN .u8 0), (aN .i64 0), (aN .u64 0), (aS ⟨#[]⟩), (aN .i64 0), aNil, (aN .u8 x0.Kind), (aN .i64 x0.Width), (aN .u64 x0.Bits), (aS x0.Name), (aN .i64 x0.Low), (aL 6 encTerm x0.Sub), (aN .u8 x1.Kind), (aN .i64 x1.Width), (aN .u64 x1.Bits), (aS x1.Name), (aN .i64 x1.Low), (aL 6 encTerm x1.Sub)]) pl_118 zr_118 z ⟨q, ⟨q, ⟨q, q⟩⟩⟩ z) z <| l0h (p_stA (ds := [(aN .u8 3), (aN .i64 0), (aN .i64 0), (aN .u8 0), (aN .i64 0), (aN .u64 0), (aS ⟨#[]⟩), (aN .i64 0), aNil, (aN .u8 x0.Kind), (aN .i64 x0.Width), (aN .u64 x0.Bits), (aS x0.Name), (aN .i64 x0.Low), (aL 6 encTerm x0.Sub), (aN .u8 x1.Kind), (aN .i64 x1.Width), (aN .u64 x1.Bits), (aS x1.Name), (aN .i64 x1.Low), (aL 6 encTerm x1.Sub)]) ty_118 z z z z z z) <| ne <| wc_ret <| ?_
  obtain rfl := sm H
  exact fin (Or.inr z) (rs1 (rva (ds := [(aN .u8 3), (aN .i64 0), (aN .i64 0), (aN .u8 0), (aN .i64 0), (aN .u64 0), (aS ⟨#[]⟩), (aN .i64 0), aNil, (aN .u8 x0.Kind), (aN .i64 x0.Width), (aN .u64 x0.Bits), (aS x0.Name), (aN .i64 x0.Low), (aL 6 encTerm x0.Sub), (aN .u8 x1.Kind), (aN .i64 x1.Width), (aN .u64 x1.Bits), (aS x1.Name), (aN .i64 x1.Low), (aL 6 encTerm x1.Sub)]) ty_118 z z z z) rs0) (re [] (.sub (sg ⟨sr, ⟨sr, ⟨sr, ⟨sr, ⟨sr, ⟨sr, ⟨sr, ⟨sr, ⟨sn, ⟨sr, ⟨sr, ⟨sr, ⟨sr, ⟨sr, ⟨sr, ⟨sr, ⟨sr, ⟨sr, ⟨sr, ⟨sr, ⟨sr, q⟩⟩⟩⟩⟩⟩⟩⟩⟩⟩⟩⟩⟩⟩⟩⟩⟩⟩⟩⟩⟩) z) z h0)

def api_givenTrap (x0 : Term) : Option MachEffect :=
  some ((MachEffect.mk 4 0 0 ((Term.mk 0 0 0 ⟨#[]⟩ 0 ([] : List Term))) x0 ((Term.mk 0 0 0 ⟨#[]⟩ 0 ([] : List Term)))))
theorem api_givenTrap_ok {x0 : Term} {R : MachEffect} (H : api_givenTrap x0 = some R) : FnOk Tryz.prog K0 57 [(aA (encTermX x0))] [] (aA (encMachEffect R)) [] := by
  refine fn_w (nt := 5) (np := 0) Tryz.func57 z z (by simp) (np_of2 z) <| ?_
  unfold api_givenTrap at H
  refine sgr z <| lh (p_bx 0 z q z) z <| lh (p_al 1 zr_118 z) z <| ne <| sgr z <| l (p_ldB (ds := (encTermX x0).map .data) ty_114 z z z z) z <| l (p_bd (cs := [(aN .u8 4), (aN .i64 0), (aN .i64 0), (aN .u8 0), (aN .i64 0), (aN .u64 0), (aS ⟨#[]⟩), (aN .i64 0), aNil, (aN .u8 x0.Kind), (aN .i64 x0.Width), (aN .u64 x0.Bits), (aS x0.Name), (aN .i64 x0.Low), (aL 6 encTerm x0.Sub), (aN .u8 0), (aN .i64 0), (aN .u64 0), (aS ⟨#[]⟩), (aN .i64 0), aNil]) pl_118 zr_118 z ⟨q, ⟨q, q⟩⟩ z) z <| l0h (p_stA (ds := [(aN .u8 4), (aN .i64 0), (aN .i64 0), (aN .u8 0), (aN .i64 0), (aN .u64 0), (aS ⟨#[]⟩), (aN .i64 0), aNil, (aN .u8 x0.Kind), (aN .i64 x0.Width), (aN .u64 x0.Bits), (aS x0.Name), (aN .i64 x0.Low), (aL 6 encTerm x0.Sub), (aN .u8 0), (aN .i64 0), (aN .u64 0), (aS ⟨#[]⟩), (aN .i64 0), aNil]) ty_118 z z z z z z) <| ne <| wc_ret <| ?_
  obtain rfl := sm H
  exact fin (Or.inr z) (rs1 (rva (ds := [(aN .u8 4), (aN .i64 0), (aN .i64 0), (aN .u8 0), (aN .i64 0), (aN .u64 0), (aS ⟨#[]⟩), (aN .i64 0), aNil, (aN .u8 x0.Kind), (aN .i64 x0.Width), (aN .u64 x0.Bits), (aS x0.Name), (aN .i64 x0.Low), (aL 6 encTerm x0.Sub), (aN .u8 0), (aN .i64 0), (aN .u64 0), (aS ⟨#[]⟩), (aN .i64 0), aNil]) ty_118 z z z z) rs0) (re [] (.sub (sg ⟨sr, ⟨sr, ⟨sr, ⟨sr, ⟨sr, ⟨sr, ⟨sr, ⟨sr, ⟨sn, ⟨sr, ⟨sr, ⟨sr, ⟨sr, ⟨sr, ⟨sr, ⟨sr, ⟨sr, ⟨sr, ⟨sr, ⟨sr, ⟨sn, q⟩⟩⟩⟩⟩⟩⟩⟩⟩⟩⟩⟩⟩⟩⟩⟩⟩⟩⟩⟩⟩) z) z h0)

def api_givenFlagsJumps_k3 (x3 : List MachReg) (r1 : MachOperand) (r13 : Term) (r21 : Term) : ByteArray × Int × Int × (List MachBank) × (List MachUnit) × (List MachInstr) → Option ((List MachInstr) × ByteArray × Int × Int × (List MachBank) × (List MachUnit))
  | (v117, v118, v119, v120, v121, v122) =>
    (api_givenField (⟨#[116, 111]⟩ : ByteArray) 4 0 0 [(MachPiece.mk 0 7)]).bind fun r123 =>
    (api_givenNum 16 0).bind fun r125 =>
    (api_givenOp 16 1 [r13, r125]).bind fun r127 =>
    (api_givenOp 3 1 [r127]).bind fun r129 =>
    (api_givenJump r21 r129).bind fun r131 =>
    (api_givenAdd v117 v118 v119 x3 v120 v121 v122 (⟨#[98, 114, 110, 122]⟩ : ByteArray) 1 [r1, r123] [r131]).bind fun r133 =>
    some (r133.1, r133.2.1, r133.2.2.1, r133.2.2.2.1, r133.2.2.2.2.1, r133.2.2.2.2.2)
def api_givenFlagsJumps_b4 (x3 : List MachReg) (r1 : MachOperand) (r3 : MachOperand) (r5 : MachOperand) (r9 : Term) (r11 : Term) (k3 : ByteArray × Int × Int × (List MachBank) × (List MachUnit) × (List MachInstr) → Option ((List MachInstr) × ByteArray × Int × Int × (List MachBank) × (List MachUnit))) (rec4 : Int × ByteArray × Int × Int × (List MachBank) × (List MachUnit) × (List MachInstr) → Option ((List MachInstr) × ByteArray × Int × Int × (List MachBank) × (List MachUnit))) : Int × ByteArray × Int × Int × (List MachBank) × (List MachUnit) × (List MachInstr) → Option ((List MachInstr) × ByteArray × Int × Int × (List MachBank) × (List MachUnit))
  | (v135, v136, v137, v138, v139, v140, v141) =>
    bif decide (v135 < ([16, 17, 18].length : Int)) then
      (ix [16, 17, 18] v135).bind fun r143 =>
      (ix ([(⟨#[101, 113]⟩ : ByteArray), (⟨#[117, 108, 116]⟩ : ByteArray), (⟨#[115, 108, 116]⟩ : ByteArray)]) v135).bind fun r145 =>
      (api_givenOp r143 1 [r9, r11]).bind fun r147 =>
      (api_givenOp 22 16 [r147]).bind fun r149 =>
      (api_givenSet 0 r149).bind fun r151 =>
      (api_givenAdd v136 v137 v138 x3 v139 v140 v141 r145 1 [r1, r5, r3] [r151]).bind fun r153 =>
      rec4 ((w64 (v135 + 1), r153.2.1, r153.2.2.1, r153.2.2.2.1, r153.2.2.2.2.1, r153.2.2.2.2.2, r153.1))
    else
      k3 (v136, v137, v138, v139, v140, v141)
def api_givenFlagsJumps_k2 (x3 : List MachReg) (r1 : MachOperand) (r3 : MachOperand) (r5 : MachOperand) (r7 : MachOperand) (r9 : Term) (r11 : Term) (r13 : Term) (r15 : Term) (r17 : Term) (r19 : Term) (r21 : Term) (r29 : MachOperand) : ByteArray × Int × Int × (List MachBank) × (List MachUnit) × (List MachInstr) → Option ((List MachInstr) × ByteArray × Int × Int × (List MachBank) × (List MachUnit))
  | (v31, v32, v33, v34, v35, v36) =>
    (api_givenFlag (⟨#[122, 102]⟩ : ByteArray)).bind fun r37 =>
    (api_givenOp 3 1 [r37]).bind fun r39 =>
    (api_givenJump r21 r39).bind fun r41 =>
    (api_givenAdd v31 v32 v33 x3 v34 v35 v36 (⟨#[106, 110, 122]⟩ : ByteArray) 1 [r29] [r41]).bind fun r43 =>
    (api_givenJump r21 ((Term.mk 0 0 0 ⟨#[]⟩ 0 ([] : List Term)))).bind fun r45 =>
    (api_givenAdd r43.2.1 r43.2.2.1 r43.2.2.2.1 x3 r43.2.2.2.2.1 r43.2.2.2.2.2 r43.1 (⟨#[106, 109, 112]⟩ : ByteArray) 1 [r29] [r45]).bind fun r47 =>
    (api_givenJump r11 ((Term.mk 0 0 0 ⟨#[]⟩ 0 ([] : List Term)))).bind fun r49 =>
    (api_givenAdd r47.2.1 r47.2.2.1 r47.2.2.2.1 x3 r47.2.2.2.2.1 r47.2.2.2.2.2 r47.1 (⟨#[106, 114]⟩ : ByteArray) 1 [r3] [r49]).bind fun r51 =>
    (api_givenNum 16 2).bind fun r53 =>
    (api_givenOp 6 16 [r19, r53]).bind fun r55 =>
    (api_givenNum 16 2).bind fun r57 =>
    (api_givenOp 5 16 [r17, r57]).bind fun r59 =>
    (api_givenStore r55 r59).bind fun r61 =>
    (api_givenFixed 7 r55).bind fun r63 =>
    (api_givenJump r21 ((Term.mk 0 0 0 ⟨#[]⟩ 0 ([] : List Term)))).bind fun r65 =>
    (api_givenAdd r51.2.1 r51.2.2.1 r51.2.2.2.1 x3 r51.2.2.2.2.1 r51.2.2.2.2.2 r51.1 (⟨#[99, 97, 108, 108]⟩ : ByteArray) 1 [r29] [r61, r63, r65]).bind fun r67 =>
    (api_givenNum 16 2).bind fun r69 =>
    (api_givenOp 5 16 [r19, r69]).bind fun r71 =>
    (api_givenFixed 7 r71).bind fun r73 =>
    (api_givenOp 24 16 [r19]).bind fun r75 =>
    (api_givenJump r75 ((Term.mk 0 0 0 ⟨#[]⟩ 0 ([] : List Term)))).bind fun r77 =>
    (api_givenAdd r67.2.1 r67.2.2.1 r67.2.2.2.1 x3 r67.2.2.2.2.1 r67.2.2.2.2.2 r67.1 (⟨#[114, 101, 116]⟩ : ByteArray) 2 ([] : List MachOperand) [r73, r77]).bind fun r79 =>
    (api_givenStore r55 r11).bind fun r81 =>
    (api_givenFixed 7 r55).bind fun r83 =>
    (api_givenAdd r79.2.1 r79.2.2.1 r79.2.2.2.1 x3 r79.2.2.2.2.1 r79.2.2.2.2.2 r79.1 (⟨#[112, 117, 115, 104]⟩ : ByteArray) 1 [r3] [r81, r83]).bind fun r85 =>
    (api_givenOp 24 16 [r19]).bind fun r87 =>
    (api_givenSet 0 r87).bind fun r89 =>
    (api_givenNum 16 2).bind fun r91 =>
    (api_givenOp 5 16 [r19, r91]).bind fun r93 =>
    (api_givenFixed 7 r93).bind fun r95 =>
    (api_givenAdd r85.2.1 r85.2.2.1 r85.2.2.2.1 x3 r85.2.2.2.2.1 r85.2.2.2.2.2 r85.1 (⟨#[112, 111, 112]⟩ : ByteArray) 2 [r1] [r89, r95]).bind fun r97 =>
    (api_givenTrap r15).bind fun r99 =>
    (api_givenAdd r97.2.1 r97.2.2.1 r97.2.2.2.1 x3 r97.2.2.2.2.1 r97.2.2.2.2.2 r97.1 (⟨#[116, 114, 97, 112]⟩ : ByteArray) 1 [r7] [r99]).bind fun r101 =>
    (api_givenNum 1 1).bind fun r103 =>
    (api_givenOp 20 17 [r103, r11]).bind fun r105 =>
    (api_givenTrap r105).bind fun r107 =>
    (api_givenAdd r101.2.1 r101.2.2.1 r101.2.2.2.1 x3 r101.2.2.2.2.1 r101.2.2.2.2.2 r101.1 (⟨#[116, 101, 108, 108]⟩ : ByteArray) 1 [r3] [r107]).bind fun r109 =>
    (api_givenTrap r11).bind fun r111 =>
    (api_givenAdd r109.2.1 r109.2.2.1 r109.2.2.2.1 x3 r109.2.2.2.2.1 r109.2.2.2.2.2 r109.1 (⟨#[104, 97, 108, 116]⟩ : ByteArray) 1 [r3] [r111]).bind fun r113 =>
    (api_givenAdd r113.2.1 r113.2.2.1 r113.2.2.2.1 x3 r113.2.2.2.2.1 r113.2.2.2.2.2 r113.1 (⟨#[110, 111, 112]⟩ : ByteArray) 1 ([] : List MachOperand) ([] : List MachEffect)).bind fun r115 =>
    jn (api_givenFlagsJumps_k3 x3 r1 r13 r21) fun k3 =>
    lp (api_givenFlagsJumps_b4 x3 r1 r3 r5 r9 r11 k3) ([16, 17, 18].length + 1) (0, r115.2.1, r115.2.2.1, r115.2.2.2.1, r115.2.2.2.2.1, r115.2.2.2.2.2, r115.1)
def api_givenFlagsJumps_b5 (x3 : List MachReg) (r21 : Term) (r29 : MachOperand) (k2 : ByteArray × Int × Int × (List MachBank) × (List MachUnit) × (List MachInstr) → Option ((List MachInstr) × ByteArray × Int × Int × (List MachBank) × (List MachUnit))) (rec5 : Int × ByteArray × Int × Int × (List MachBank) × (List MachUnit) × (List MachInstr) → Option ((List MachInstr) × ByteArray × Int × Int × (List MachBank) × (List MachUnit))) : Int × ByteArray × Int × Int × (List MachBank) × (List MachUnit) × (List MachInstr) → Option ((List MachInstr) × ByteArray × Int × Int × (List MachBank) × (List MachUnit))
  | (v155, v156, v157, v158, v159, v160, v161) =>
    bif decide (v155 < ((([(⟨#[122, 102]⟩ : ByteArray), (⟨#[99, 102]⟩ : ByteArray), (⟨#[115, 102]⟩ : ByteArray)]).length : Int))) then
      (ix ([(⟨#[122, 102]⟩ : ByteArray), (⟨#[99, 102]⟩ : ByteArray), (⟨#[115, 102]⟩ : ByteArray)]) v155).bind fun r163 =>
      (ix ([(⟨#[106, 122]⟩ : ByteArray), (⟨#[106, 99]⟩ : ByteArray), (⟨#[106, 115]⟩ : ByteArray)]) v155).bind fun r165 =>
      (api_givenFlag r163).bind fun r167 =>
      (api_givenJump r21 r167).bind fun r169 =>
      (api_givenAdd v156 v157 v158 x3 v159 v160 v161 r165 1 [r29] [r169]).bind fun r171 =>
      rec5 ((w64 (v155 + 1), r171.2.1, r171.2.2.1, r171.2.2.2.1, r171.2.2.2.2.1, r171.2.2.2.2.2, r171.1))
    else
      k2 (v156, v157, v158, v159, v160, v161)
def api_givenFlagsJumps_k1 (x3 : List MachReg) (r1 : MachOperand) (r3 : MachOperand) (r5 : MachOperand) (r7 : MachOperand) (r9 : Term) (r11 : Term) (r13 : Term) (r15 : Term) (r17 : Term) (r19 : Term) (r21 : Term) : ByteArray × Int × Int × (List MachBank) × (List MachUnit) × (List MachInstr) → Option ((List MachInstr) × ByteArray × Int × Int × (List MachBank) × (List MachUnit))
  | (v23, v24, v25, v26, v27, v28) =>
    (api_givenField (⟨#[116, 111]⟩ : ByteArray) 4 0 0 [(MachPiece.mk 0 10)]).bind fun r29 =>
    jn (api_givenFlagsJumps_k2 x3 r1 r3 r5 r7 r9 r11 r13 r15 r17 r19 r21 r29) fun k2 =>
    lp (api_givenFlagsJumps_b5 x3 r21 r29 k2) (([(⟨#[122, 102]⟩ : ByteArray), (⟨#[99, 102]⟩ : ByteArray), (⟨#[115, 102]⟩ : ByteArray)]).length + 1) (0, v23, v24, v25, v26, v27, v28)
def api_givenFlagsJumps_b6 (x3 : List MachReg) (r1 : MachOperand) (k1 : ByteArray × Int × Int × (List MachBank) × (List MachUnit) × (List MachInstr) → Option ((List MachInstr) × ByteArray × Int × Int × (List MachBank) × (List MachUnit))) (rec6 : Int × ByteArray × Int × Int × (List MachBank) × (List MachUnit) × (List MachInstr) → Option ((List MachInstr) × ByteArray × Int × Int × (List MachBank) × (List MachUnit))) : Int × ByteArray × Int × Int × (List MachBank) × (List MachUnit) × (List MachInstr) → Option ((List MachInstr) × ByteArray × Int × Int × (List MachBank) × (List MachUnit))
  | (v173, v174, v175, v176, v177, v178, v179) =>
    bif decide (v173 < ((([(⟨#[122, 102]⟩ : ByteArray), (⟨#[99, 102]⟩ : ByteArray), (⟨#[115, 102]⟩ : ByteArray)]).length : Int))) then
      (ix ([(⟨#[122, 102]⟩ : ByteArray), (⟨#[99, 102]⟩ : ByteArray), (⟨#[115, 102]⟩ : ByteArray)]) v173).bind fun r181 =>
      (ix ([(⟨#[115, 101, 116, 122]⟩ : ByteArray), (⟨#[115, 101, 116, 99]⟩ : ByteArray), (⟨#[115, 101, 116, 115]⟩ : ByteArray)]) v173).bind fun r183 =>
      (api_givenFlag r181).bind fun r185 =>
      (api_givenOp 22 16 [r185]).bind fun r187 =>
      (api_givenSet 0 r187).bind fun r189 =>
      (api_givenAdd v174 v175 v176 x3 v177 v178 v179 r183 1 [r1] [r189]).bind fun r191 =>
      rec6 ((w64 (v173 + 1), r191.2.1, r191.2.2.1, r191.2.2.2.1, r191.2.2.2.2.1, r191.2.2.2.2.2, r191.1))
    else
      k1 (v174, v175, v176, v177, v178, v179)
def api_givenFlagsJumps (x0 : ByteArray) (x1 : Int) (x2 : Int) (x3 : List MachReg) (x4 : List MachBank) (x5 : List MachUnit) (x6 : List MachInstr) : Option ((List MachInstr) × ByteArray × Int × Int × (List MachBank) × (List MachUnit)) :=
  (api_givenField (⟨#[100]⟩ : ByteArray) 1 0 0 [(MachPiece.mk 7 3)]).bind fun r1 =>
  (api_givenField (⟨#[115]⟩ : ByteArray) 1 0 0 [(MachPiece.mk 4 3)]).bind fun r3 =>
  (api_givenTied (⟨#[97]⟩ : ByteArray) 0 0).bind fun r5 =>
  (api_givenField (⟨#[110]⟩ : ByteArray) 3 0 0 [(MachPiece.mk 0 4)]).bind fun r7 =>
  (api_givenVar (⟨#[97]⟩ : ByteArray) 16).bind fun r9 =>
  (api_givenVar (⟨#[115]⟩ : ByteArray) 16).bind fun r11 =>
  (api_givenVar (⟨#[100]⟩ : ByteArray) 16).bind fun r13 =>
  (api_givenVar (⟨#[110]⟩ : ByteArray) 16).bind fun r15 =>
  (api_givenVar (⟨#[112, 99]⟩ : ByteArray) 16).bind fun r17 =>
  (api_givenVar (⟨#[114, 46, 115, 112]⟩ : ByteArray) 16).bind fun r19 =>
  (api_givenVar (⟨#[116, 111]⟩ : ByteArray) 16).bind fun r21 =>
  jn (api_givenFlagsJumps_k1 x3 r1 r3 r5 r7 r9 r11 r13 r15 r17 r19 r21) fun k1 =>
  lp (api_givenFlagsJumps_b6 x3 r1 k1) (([(⟨#[122, 102]⟩ : ByteArray), (⟨#[99, 102]⟩ : ByteArray), (⟨#[115, 102]⟩ : ByteArray)]).length + 1) (0, x0, x1, x2, x4, x5, x6)
theorem api_givenFlagsJumps_ok {x0 : ByteArray} {x1 : Int} {x2 : Int} {x3 : List MachReg} {x4 : List MachBank} {x5 : List MachUnit} {x6 : List MachInstr} {R : (List MachInstr) × ByteArray × Int × Int × (List MachBank) × (List MachUnit)} (H : api_givenFlagsJumps x0 x1 x2 x3 x4 x5 x6 = some R) : FnOk Tryz.prog K0 44 [(.ptr 0 0)] [(0, (oC 27 [(aS x0), (aN .i64 x1), (aN .i64 x2), (.row 1), (aL 2 encMachBank x4), (aL 2 encMachUnit x5), (.row 2)])), (1, (oR 100 4 encMachReg x3)), (2, (oR 61 9 encMachInstr x6)), (3, .fresh)] (.tup []) [(0, (oC 27 [(aS R.2.1), (aN .i64 R.2.2.1), (aN .i64 R.2.2.2.1), (.row 1), (aL 2 encMachBank R.2.2.2.2.1), (aL 2 encMachUnit R.2.2.2.2.2), (.row 3)])), (1, (oR 100 4 encMachReg x3)), (2, .dead), (3, (oR 61 9 encMachInstr R.1))] := by
  refine fn_w (nt := 242) (np := 3) Tryz.func44 z z (by simp) (np_of2 z) <| ?_
  unfold api_givenFlagsJumps at H
  refine sgr z <| l (p_bd (cs := (encMachPiece (MachPiece.mk 7 3)).map .data) pl_110 zr_110 z ⟨q, ⟨q, q⟩⟩ z) z <| l (p_bs (f := encMachPiece) [.tmp 23] [(MachPiece.mk 7 3)] Tryz.underlying105 ty_110.size zr_110 z z z z (el1 (.agg _) z el0) z) z <| ?_
  obtain ⟨r1, e2, H⟩ := ob H
  refine l (p_c (api_givenField_ok e2) ent_48 z z z) z <| l (p_bd (cs := (encMachPiece (MachPiece.mk 4 3)).map .data) pl_110 zr_110 z ⟨q, ⟨q, q⟩⟩ z) z <| l (p_bs (f := encMachPiece) [.tmp 26] [(MachPiece.mk 4 3)] Tryz.underlying105 ty_110.size zr_110 z z z z (el1 (.agg _) z el0) z) z <| ?_
  obtain ⟨r3, e4, H⟩ := ob H
  refine l (p_c (api_givenField_ok e4) ent_48 z z z) z <| lh (p_al 4 zr_107 z) z <| lh (p_al 5 zr_107 z) z <| l0h (p_stA (ds := (encMachOperand r1).map .data) ty_107 z z z z z z) <| l0h (p_stA (ds := (encMachOperand r3).map .data) ty_107 z z z z z z) <| ne <| sgr z <| ?_
  obtain ⟨r5, e6, H⟩ := ob H
  refine l (p_c (api_givenTied_ok e6) ent_52 z z z) z <| l (p_bd (cs := (encMachPiece (MachPiece.mk 0 4)).map .data) pl_110 zr_110 z ⟨q, ⟨q, q⟩⟩ z) z <| l (p_bs (f := encMachPiece) [.tmp 30] [(MachPiece.mk 0 4)] Tryz.underlying105 ty_110.size zr_110 z z z z (el1 (.agg _) z el0) z) z <| ?_
  obtain ⟨r7, e8, H⟩ := ob H
  refine l (p_c (api_givenField_ok e8) ent_48 z z z) z <| lh (p_al 6 zr_107 z) z <| lh (p_al 7 zr_107 z) z <| l0h (p_stA (ds := (encMachOperand r5).map .data) ty_107 z z z z z z) <| l0h (p_stA (ds := (encMachOperand r7).map .data) ty_107 z z z z z z) <| ne <| sgr z <| ?_
  obtain ⟨r9, e10, H⟩ := ob H
  refine l (p_c (api_givenVar_ok e10) ent_49 z z z) z <| ?_
  obtain ⟨r11, e12, H⟩ := ob H
  refine l (p_c (api_givenVar_ok e12) ent_49 z z z) z <| ?_
  obtain ⟨r13, e14, H⟩ := ob H
  refine l (p_c (api_givenVar_ok e14) ent_49 z z z) z <| ?_
  obtain ⟨r15, e16, H⟩ := ob H
  refine l (p_c (api_givenVar_ok e16) ent_49 z z z) z <| ?_
  obtain ⟨r17, e18, H⟩ := ob H
  refine l (p_c (api_givenVar_ok e18) ent_49 z z z) z <| lh (p_al 8 zr_114 z) z <| lh (p_al 9 zr_114 z) z <| lh (p_al 10 zr_114 z) z <| lh (p_al 11 zr_114 z) z <| lh (p_al 12 zr_114 z) z <| l0h (p_stA (ds := (encTermX r9).map .data) ty_114 z z z z z z) <| l0h (p_stA (ds := (encTermX r11).map .data) ty_114 z z z z z z) <| l0h (p_stA (ds := (encTermX r13).map .data) ty_114 z z z z z z) <| l0h (p_stA (ds := (encTermX r15).map .data) ty_114 z z z z z z) <| l0h (p_stA (ds := (encTermX r17).map .data) ty_114 z z z z z z) <| ne <| sgr z <| ?_
  obtain ⟨r19, e20, H⟩ := ob H
  refine l (p_c (api_givenVar_ok e20) ent_49 z z z) z <| ?_
  obtain ⟨r21, e22, H⟩ := ob H
  refine l (p_c (api_givenVar_ok e22) ent_49 z z z) z <| lh (p_al 13 zr_114 z) z <| lh (p_al 14 zr_114 z) z <| l0h (p_stA (ds := (encTermX r19).map .data) ty_114 z z z z z z) <| l0h (p_stA (ds := (encTermX r21).map .data) ty_114 z z z z z z) <| ne <| sgr z <| l (p_bs (f := eS) [.const (Value.string {data := #[115, 101, 116, 122]}), .const (Value.string {data := #[115, 101, 116, 99]}), .const (Value.string {data := #[115, 101, 116, 115]})] [(⟨#[115, 101, 116, 122]⟩ : ByteArray), (⟨#[115, 101, 116, 99]⟩ : ByteArray), (⟨#[115, 101, 116, 115]⟩ : ByteArray)] Tryz.underlying98 ty_9.size zr_9 z z z z (el1 (.one _) z (el1 (.one _) z (el1 (.one _) z el0))) z) z <| la z z <| ne <| ?_
  refine w_jn6 H (fun v23 v24 v25 v26 v27 v28 => ⟨[(0, (.ptr 0 0)), (2, (.ptr 4 0)), (3, (.ptr 5 0)), (4, (.ptr 6 0)), (5, (.ptr 7 0)), (6, (.ptr 8 0)), (7, (.ptr 9 0)), (8, (.ptr 10 0)), (9, (.ptr 11 0)), (10, (.ptr 12 0)), (11, (.ptr 13 0)), (12, (.ptr 14 0))], [(0, (oC 27 [(aS v23), (aN .i64 v24), (aN .i64 v25), (.row 1), (aL 2 encMachBank v26), (aL 2 encMachUnit v27), (.row 15)])), (1, (oR 100 4 encMachReg x3)), (2, .dead), (4, (oD 107 (encMachOperand r1))), (5, (oD 107 (encMachOperand r3))), (6, (oD 107 (encMachOperand r5))), (7, (oD 107 (encMachOperand r7))), (8, (oD 114 (encTermX r9))), (9, (oD 114 (encTermX r11))), (10, (oD 114 (encTermX r13))), (11, (oD 114 (encTermX r15))), (12, (oD 114 (encTermX r17))), (13, (oD 114 (encTermX r19))), (14, (oD 114 (encTermX r21))), (15, (oR 61 9 encMachInstr v28))]⟩) ?_ ?_
  · intro v23 v24 v25 v26 v27 v28 H
    rw [api_givenFlagsJumps_k1] at H
    refine sgr z <| l (p_bd (cs := (encMachPiece (MachPiece.mk 0 10)).map .data) pl_110 zr_110 z ⟨q, ⟨q, q⟩⟩ z) z <| l (p_bs (f := encMachPiece) [.tmp 63] [(MachPiece.mk 0 10)] Tryz.underlying105 ty_110.size zr_110 z z z z (el1 (.agg _) z el0) z) z <| ?_
    obtain ⟨r29, e30, H⟩ := ob H
    refine l (p_c (api_givenField_ok e30) ent_48 z z z) z <| lh (p_al 17 zr_107 z) z <| l0h (p_stA (ds := (encMachOperand r29).map .data) ty_107 z z z z z z) <| ne <| sgr z <| l (p_bs (f := eS) [.const (Value.string {data := #[106, 122]}), .const (Value.string {data := #[106, 99]}), .const (Value.string {data := #[106, 115]})] [(⟨#[106, 122]⟩ : ByteArray), (⟨#[106, 99]⟩ : ByteArray), (⟨#[106, 115]⟩ : ByteArray)] Tryz.underlying98 ty_9.size zr_9 z z z z (el1 (.one _) z (el1 (.one _) z (el1 (.one _) z el0))) z) z <| la z z <| ne <| ?_
    refine w_jn6 H (fun v31 v32 v33 v34 v35 v36 => ⟨[(0, (.ptr 0 0)), (2, (.ptr 4 0)), (3, (.ptr 5 0)), (4, (.ptr 6 0)), (5, (.ptr 7 0)), (6, (.ptr 8 0)), (7, (.ptr 9 0)), (8, (.ptr 10 0)), (9, (.ptr 11 0)), (10, (.ptr 12 0)), (11, (.ptr 13 0)), (12, (.ptr 14 0)), (16, (.ptr 17 0))], [(0, (oC 27 [(aS v31), (aN .i64 v32), (aN .i64 v33), (.row 1), (aL 2 encMachBank v34), (aL 2 encMachUnit v35), (.row 15)])), (1, (oR 100 4 encMachReg x3)), (2, .dead), (4, (oD 107 (encMachOperand r1))), (5, (oD 107 (encMachOperand r3))), (6, (oD 107 (encMachOperand r5))), (7, (oD 107 (encMachOperand r7))), (8, (oD 114 (encTermX r9))), (9, (oD 114 (encTermX r11))), (10, (oD 114 (encTermX r13))), (11, (oD 114 (encTermX r15))), (12, (oD 114 (encTermX r17))), (13, (oD 114 (encTermX r19))), (14, (oD 114 (encTermX r21))), (15, (oR 61 9 encMachInstr v36)), (17, (oD 107 (encMachOperand r29)))]⟩) ?_ ?_
    · intro v31 v32 v33 v34 v35 v36 H
      rw [api_givenFlagsJumps_k2] at H
      refine wc_seq <| wc_draw [0, 0, 2, 0, 0, 16, 48, 120, 248, 511] mixed z <| dm z z <| dr (p_ldB (ds := (encMachOperand r29).map .data) ty_107 z z z z) z <| dr (p_bs (f := encMachOperand) [.tmp 89] [r29] Tryz.underlying58 ty_107.size zr_107 z z z z (el1 (.agg _) z el0) z) z <| dr (p_ldB (ds := (encTermX r21).map .data) ty_114 z z z z) z <| ?_
      obtain ⟨r37, e38, H⟩ := ob H
      refine dr (p_c (api_givenFlag_ok e38) ent_80 z z z) z <| dr (p_bs (f := encTerm) [.tmp 92] [r37] Tryz.underlying112 ty_114.size zr_114 z z z z (el1X (encTerm_X _) (.agg _) z el0) z) z <| ?_
      obtain ⟨r39, e40, H⟩ := ob H
      refine dr (p_c (api_givenOp_ok e40) ent_51 z z z) z <| ?_
      obtain ⟨r41, e42, H⟩ := ob H
      refine dr (p_c (api_givenJump_ok e42) ent_55 z z z) z <| dr (p_bs (f := encMachEffect) [.tmp 95] [r41] Tryz.underlying59 ty_118.size zr_118 z z z z (el1 (.agg _) z el0) z) z <| ?_
      obtain ⟨r43, e44, H⟩ := ob H
      refine drh (p_ch (ids := [0, 1, 15, 19]) (api_givenAdd_ok e44) ent_77 z z (rc z z (rc z rm (rc z rm (rc z z rn)))) (rc z z (rc z rm (rc z z (rc z rm rn)))) z ⟨z, ⟨z, ⟨z, ⟨z, q⟩⟩⟩⟩ (by decide) z z z (oc z (oc om (oc om (oc z on)))) (oc z (oc om (oc z (oc om on)))) z) z <| ?_
      refine wd_nil ?_ (by kernel_rfl)
      refine e_n <| wc_seq <| wc_draw [0, 0, 2, 0, 0, 24, 56, 127] mixed z <| dm z z <| dr (p_ldB (ds := (encMachOperand r29).map .data) ty_107 z z z z) z <| dr (p_bs (f := encMachOperand) [.tmp 99] [r29] Tryz.underlying58 ty_107.size zr_107 z z z z (el1 (.agg _) z el0) z) z <| dr (p_ldB (ds := (encTermX r21).map .data) ty_114 z z z z) z <| dr (p_bd (cs := [(aN .u8 0), (aN .i64 0), (aN .u64 0), (aS ⟨#[]⟩), (aN .i64 0), aNil]) pl_114 zr_114 z q z) z <| ?_
      obtain ⟨r45, e46, H⟩ := ob H
      refine dr (p_cs (api_givenJump_ok e46) ent_55 z ⟨sr, ⟨sg ⟨sr, ⟨sr, ⟨sr, ⟨sr, ⟨sr, ⟨sn, q⟩⟩⟩⟩⟩⟩, q⟩⟩ z z) z <| dr (p_bs (f := encMachEffect) [.tmp 103] [r45] Tryz.underlying59 ty_118.size zr_118 z z z z (el1 (.agg _) z el0) z) z <| ?_
      obtain ⟨r47, e48, H⟩ := ob H
      refine drh (p_ch (ids := [0, 1, 19, 20]) (api_givenAdd_ok e48) ent_77 z z (rc z z (rc z rm (rc z rm (rc z z rn)))) (rc z z (rc z rm (rc z z (rc z rm rn)))) z ⟨z, ⟨z, ⟨z, ⟨z, q⟩⟩⟩⟩ (by decide) z z z (oc z (oc om (oc om (oc z on)))) (oc z (oc om (oc z (oc om on)))) z) z <| ?_
      refine wd_nil ?_ (by kernel_rfl)
      refine e_n <| wc_seq <| wc_draw [0, 0, 2, 0, 0, 24, 56, 127] mixed z <| dm z z <| dr (p_ldB (ds := (encMachOperand r3).map .data) ty_107 z z z z) z <| dr (p_bs (f := encMachOperand) [.tmp 107] [r3] Tryz.underlying58 ty_107.size zr_107 z z z z (el1 (.agg _) z el0) z) z <| dr (p_ldB (ds := (encTermX r11).map .data) ty_114 z z z z) z <| dr (p_bd (cs := [(aN .u8 0), (aN .i64 0), (aN .u64 0), (aS ⟨#[]⟩), (aN .i64 0), aNil]) pl_114 zr_114 z q z) z <| ?_
      obtain ⟨r49, e50, H⟩ := ob H
      refine dr (p_cs (api_givenJump_ok e50) ent_55 z ⟨sr, ⟨sg ⟨sr, ⟨sr, ⟨sr, ⟨sr, ⟨sr, ⟨sn, q⟩⟩⟩⟩⟩⟩, q⟩⟩ z z) z <| dr (p_bs (f := encMachEffect) [.tmp 111] [r49] Tryz.underlying59 ty_118.size zr_118 z z z z (el1 (.agg _) z el0) z) z <| ?_
      obtain ⟨r51, e52, H⟩ := ob H
      refine drh (p_ch (ids := [0, 1, 20, 21]) (api_givenAdd_ok e52) ent_77 z z (rc z z (rc z rm (rc z rm (rc z z rn)))) (rc z z (rc z rm (rc z z (rc z rm rn)))) z ⟨z, ⟨z, ⟨z, ⟨z, q⟩⟩⟩⟩ (by decide) z z z (oc z (oc om (oc om (oc z on)))) (oc z (oc om (oc z (oc om on)))) z) z <| ?_
      refine wd_nil ?_ (by kernel_rfl)
      refine e_n <| wc_seq <| wc_draw [0, 0, 3, 7, 0, 31] mixed z <| dr (p_ldB (ds := (encTermX r19).map .data) ty_114 z z z z) z <| ?_
      obtain ⟨r53, e54, H⟩ := ob H
      refine dr (p_c (api_givenNum_ok e54) ent_54 z z z) z <| dr (p_bs (f := encTerm) [.tmp 114, .tmp 115] [r19, r53] Tryz.underlying112 ty_114.size zr_114 z z z z (el1X (encTerm_X _) (.agg _) z (el1X (encTerm_X _) (.agg _) z el0)) z) z <| ?_
      obtain ⟨r55, e56, H⟩ := ob H
      refine dr (p_c (api_givenOp_ok e56) ent_51 z z z) z <| drh (p_al 22 zr_114 z) z <| dr0h (p_stA (ds := (encTermX r55).map .data) ty_114 z z z z z z) <| ?_
      refine wd_nil ?_ (by kernel_rfl)
      refine e_n <| wc_seq <| wc_draw [0, 0, 2, 0, 0, 0, 48, 112, 248, 0, 1016, 0, 0, 8184, 16376, 32767] mixed z <| dm z z <| dr (p_ldB (ds := (encMachOperand r29).map .data) ty_107 z z z z) z <| dr (p_bs (f := encMachOperand) [.tmp 119] [r29] Tryz.underlying58 ty_107.size zr_107 z z z z (el1 (.agg _) z el0) z) z <| dr (p_ldB (ds := (encTermX r55).map .data) ty_114 z z z z) z <| dr (p_ldB (ds := (encTermX r17).map .data) ty_114 z z z z) z <| ?_
      obtain ⟨r57, e58, H⟩ := ob H
      refine dr (p_c (api_givenNum_ok e58) ent_54 z z z) z <| dr (p_bs (f := encTerm) [.tmp 122, .tmp 123] [r17, r57] Tryz.underlying112 ty_114.size zr_114 z z z z (el1X (encTerm_X _) (.agg _) z (el1X (encTerm_X _) (.agg _) z el0)) z) z <| ?_
      obtain ⟨r59, e60, H⟩ := ob H
      refine dr (p_c (api_givenOp_ok e60) ent_51 z z z) z <| ?_
      obtain ⟨r61, e62, H⟩ := ob H
      refine dr (p_c (api_givenStore_ok e62) ent_53 z z z) z <| dr (p_ldB (ds := (encTermX r55).map .data) ty_114 z z z z) z <| ?_
      obtain ⟨r63, e64, H⟩ := ob H
      refine dr (p_c (api_givenFixed_ok e64) ent_56 z z z) z <| dr (p_ldB (ds := (encTermX r21).map .data) ty_114 z z z z) z <| dr (p_bd (cs := [(aN .u8 0), (aN .i64 0), (aN .u64 0), (aS ⟨#[]⟩), (aN .i64 0), aNil]) pl_114 zr_114 z q z) z <| ?_
      obtain ⟨r65, e66, H⟩ := ob H
      refine dr (p_cs (api_givenJump_ok e66) ent_55 z ⟨sr, ⟨sg ⟨sr, ⟨sr, ⟨sr, ⟨sr, ⟨sr, ⟨sn, q⟩⟩⟩⟩⟩⟩, q⟩⟩ z z) z <| dr (p_bs (f := encMachEffect) [.tmp 126, .tmp 128, .tmp 131] [r61, r63, r65] Tryz.underlying59 ty_118.size zr_118 z z z z (el1 (.agg _) z (el1 (.agg _) z (el1 (.agg _) z el0))) z) z <| ?_
      obtain ⟨r67, e68, H⟩ := ob H
      refine drh (p_ch (ids := [0, 1, 21, 23]) (api_givenAdd_ok e68) ent_77 z z (rc z z (rc z rm (rc z rm (rc z z rn)))) (rc z z (rc z rm (rc z z (rc z rm rn)))) z ⟨z, ⟨z, ⟨z, ⟨z, q⟩⟩⟩⟩ (by decide) z z z (oc z (oc om (oc om (oc z on)))) (oc z (oc om (oc z (oc om on)))) z) z <| ?_
      refine wd_nil ?_ (by kernel_rfl)
      refine e_n <| wc_seq <| wc_draw [0, 0, 0, 6, 14, 30, 0, 64, 254, 0, 1022, 2046, 4095] mixed z <| dm z z <| dr (p_ldB (ds := (encTermX r19).map .data) ty_114 z z z z) z <| ?_
      obtain ⟨r69, e70, H⟩ := ob H
      refine dr (p_c (api_givenNum_ok e70) ent_54 z z z) z <| dr (p_bs (f := encTerm) [.tmp 135, .tmp 136] [r19, r69] Tryz.underlying112 ty_114.size zr_114 z z z z (el1X (encTerm_X _) (.agg _) z (el1X (encTerm_X _) (.agg _) z el0)) z) z <| ?_
      obtain ⟨r71, e72, H⟩ := ob H
      refine dr (p_c (api_givenOp_ok e72) ent_51 z z z) z <| ?_
      obtain ⟨r73, e74, H⟩ := ob H
      refine dr (p_c (api_givenFixed_ok e74) ent_56 z z z) z <| dr (p_ldB (ds := (encTermX r19).map .data) ty_114 z z z z) z <| dr (p_bs (f := encTerm) [.tmp 140] [r19] Tryz.underlying112 ty_114.size zr_114 z z z z (el1X (encTerm_X _) (.agg _) z el0) z) z <| ?_
      obtain ⟨r75, e76, H⟩ := ob H
      refine dr (p_c (api_givenOp_ok e76) ent_51 z z z) z <| dr (p_bd (cs := [(aN .u8 0), (aN .i64 0), (aN .u64 0), (aS ⟨#[]⟩), (aN .i64 0), aNil]) pl_114 zr_114 z q z) z <| ?_
      obtain ⟨r77, e78, H⟩ := ob H
      refine dr (p_cs (api_givenJump_ok e78) ent_55 z ⟨sr, ⟨sg ⟨sr, ⟨sr, ⟨sr, ⟨sr, ⟨sr, ⟨sn, q⟩⟩⟩⟩⟩⟩, q⟩⟩ z z) z <| dr (p_bs (f := encMachEffect) [.tmp 139, .tmp 144] [r73, r77] Tryz.underlying59 ty_118.size zr_118 z z z z (el1 (.agg _) z (el1 (.agg _) z el0)) z) z <| ?_
      obtain ⟨r79, e80, H⟩ := ob H
      refine drh (p_ch (ids := [0, 1, 23, 24]) (FnOk.sub (us := [(.ptr 0 0), (aS (⟨#[114, 101, 116]⟩ : ByteArray)), (aN .i64 2), aNil, (aL 21 encMachEffect [r73, r77])]) (api_givenAdd_ok e80) ⟨sr, ⟨sr, ⟨sr, ⟨sn, ⟨sr, q⟩⟩⟩⟩⟩) ent_77 z z (rc z z (rc z rm (rc z rm (rc z z rn)))) (rc z z (rc z rm (rc z z (rc z rm rn)))) z ⟨z, ⟨z, ⟨z, ⟨z, q⟩⟩⟩⟩ (by decide) z z z (oc z (oc om (oc om (oc z on)))) (oc z (oc om (oc z (oc om on)))) z) z <| ?_
      refine wd_nil ?_ (by kernel_rfl)
      refine e_n <| wc_seq <| wc_draw [0, 0, 2, 0, 0, 24, 0, 120, 248, 511] mixed z <| dm z z <| dr (p_ldB (ds := (encMachOperand r3).map .data) ty_107 z z z z) z <| dr (p_bs (f := encMachOperand) [.tmp 148] [r3] Tryz.underlying58 ty_107.size zr_107 z z z z (el1 (.agg _) z el0) z) z <| dr (p_ldB (ds := (encTermX r55).map .data) ty_114 z z z z) z <| dr (p_ldB (ds := (encTermX r11).map .data) ty_114 z z z z) z <| ?_
      obtain ⟨r81, e82, H⟩ := ob H
      refine dr (p_c (api_givenStore_ok e82) ent_53 z z z) z <| dr (p_ldB (ds := (encTermX r55).map .data) ty_114 z z z z) z <| ?_
      obtain ⟨r83, e84, H⟩ := ob H
      refine dr (p_c (api_givenFixed_ok e84) ent_56 z z z) z <| dr (p_bs (f := encMachEffect) [.tmp 152, .tmp 154] [r81, r83] Tryz.underlying59 ty_118.size zr_118 z z z z (el1 (.agg _) z (el1 (.agg _) z el0)) z) z <| ?_
      obtain ⟨r85, e86, H⟩ := ob H
      refine drh (p_ch (ids := [0, 1, 24, 25]) (api_givenAdd_ok e86) ent_77 z z (rc z z (rc z rm (rc z rm (rc z z rn)))) (rc z z (rc z rm (rc z z (rc z rm rn)))) z ⟨z, ⟨z, ⟨z, ⟨z, q⟩⟩⟩⟩ (by decide) z z z (oc z (oc om (oc om (oc z on)))) (oc z (oc om (oc z (oc om on)))) z) z <| ?_
      refine wd_nil ?_ (by kernel_rfl)
      refine e_n <| wc_seq <| wc_draw [0, 0, 2, 0, 8, 24, 56, 0, 120, 504, 1016, 2040, 4088, 8191] mixed z <| dm z z <| dr (p_ldB (ds := (encMachOperand r1).map .data) ty_107 z z z z) z <| dr (p_bs (f := encMachOperand) [.tmp 158] [r1] Tryz.underlying58 ty_107.size zr_107 z z z z (el1 (.agg _) z el0) z) z <| dr (p_ldB (ds := (encTermX r19).map .data) ty_114 z z z z) z <| dr (p_bs (f := encTerm) [.tmp 160] [r19] Tryz.underlying112 ty_114.size zr_114 z z z z (el1X (encTerm_X _) (.agg _) z el0) z) z <| ?_
      obtain ⟨r87, e88, H⟩ := ob H
      refine dr (p_c (api_givenOp_ok e88) ent_51 z z z) z <| ?_
      obtain ⟨r89, e90, H⟩ := ob H
      refine dr (p_c (api_givenSet_ok e90) ent_50 z z z) z <| dr (p_ldB (ds := (encTermX r19).map .data) ty_114 z z z z) z <| ?_
      obtain ⟨r91, e92, H⟩ := ob H
      refine dr (p_c (api_givenNum_ok e92) ent_54 z z z) z <| dr (p_bs (f := encTerm) [.tmp 164, .tmp 165] [r19, r91] Tryz.underlying112 ty_114.size zr_114 z z z z (el1X (encTerm_X _) (.agg _) z (el1X (encTerm_X _) (.agg _) z el0)) z) z <| ?_
      obtain ⟨r93, e94, H⟩ := ob H
      refine dr (p_c (api_givenOp_ok e94) ent_51 z z z) z <| ?_
      obtain ⟨r95, e96, H⟩ := ob H
      refine dr (p_c (api_givenFixed_ok e96) ent_56 z z z) z <| dr (p_bs (f := encMachEffect) [.tmp 163, .tmp 168] [r89, r95] Tryz.underlying59 ty_118.size zr_118 z z z z (el1 (.agg _) z (el1 (.agg _) z el0)) z) z <| ?_
      obtain ⟨r97, e98, H⟩ := ob H
      refine drh (p_ch (ids := [0, 1, 25, 26]) (api_givenAdd_ok e98) ent_77 z z (rc z z (rc z rm (rc z rm (rc z z rn)))) (rc z z (rc z rm (rc z z (rc z rm rn)))) z ⟨z, ⟨z, ⟨z, ⟨z, q⟩⟩⟩⟩ (by decide) z z z (oc z (oc om (oc om (oc z on)))) (oc z (oc om (oc z (oc om on)))) z) z <| ?_
      refine wd_nil ?_ (by kernel_rfl)
      refine e_n <| wc_seq <| wc_draw [0, 0, 2, 0, 8, 24, 63] mixed z <| dm z z <| dr (p_ldB (ds := (encMachOperand r7).map .data) ty_107 z z z z) z <| dr (p_bs (f := encMachOperand) [.tmp 172] [r7] Tryz.underlying58 ty_107.size zr_107 z z z z (el1 (.agg _) z el0) z) z <| dr (p_ldB (ds := (encTermX r15).map .data) ty_114 z z z z) z <| ?_
      obtain ⟨r99, e100, H⟩ := ob H
      refine dr (p_c (api_givenTrap_ok e100) ent_57 z z z) z <| dr (p_bs (f := encMachEffect) [.tmp 175] [r99] Tryz.underlying59 ty_118.size zr_118 z z z z (el1 (.agg _) z el0) z) z <| ?_
      obtain ⟨r101, e102, H⟩ := ob H
      refine drh (p_ch (ids := [0, 1, 26, 27]) (api_givenAdd_ok e102) ent_77 z z (rc z z (rc z rm (rc z rm (rc z z rn)))) (rc z z (rc z rm (rc z z (rc z rm rn)))) z ⟨z, ⟨z, ⟨z, ⟨z, q⟩⟩⟩⟩ (by decide) z z z (oc z (oc om (oc om (oc z on)))) (oc z (oc om (oc z (oc om on)))) z) z <| ?_
      refine wd_nil ?_ (by kernel_rfl)
      refine e_n <| wc_seq <| wc_draw [0, 0, 2, 0, 0, 24, 56, 120, 248, 511] mixed z <| dm z z <| dr (p_ldB (ds := (encMachOperand r3).map .data) ty_107 z z z z) z <| dr (p_bs (f := encMachOperand) [.tmp 179] [r3] Tryz.underlying58 ty_107.size zr_107 z z z z (el1 (.agg _) z el0) z) z <| ?_
      obtain ⟨r103, e104, H⟩ := ob H
      refine dr (p_c (api_givenNum_ok e104) ent_54 z z z) z <| dr (p_ldB (ds := (encTermX r11).map .data) ty_114 z z z z) z <| dr (p_bs (f := encTerm) [.tmp 181, .tmp 182] [r103, r11] Tryz.underlying112 ty_114.size zr_114 z z z z (el1X (encTerm_X _) (.agg _) z (el1X (encTerm_X _) (.agg _) z el0)) z) z <| ?_
      obtain ⟨r105, e106, H⟩ := ob H
      refine dr (p_c (api_givenOp_ok e106) ent_51 z z z) z <| ?_
      obtain ⟨r107, e108, H⟩ := ob H
      refine dr (p_c (api_givenTrap_ok e108) ent_57 z z z) z <| dr (p_bs (f := encMachEffect) [.tmp 185] [r107] Tryz.underlying59 ty_118.size zr_118 z z z z (el1 (.agg _) z el0) z) z <| ?_
      obtain ⟨r109, e110, H⟩ := ob H
      refine drh (p_ch (ids := [0, 1, 27, 28]) (api_givenAdd_ok e110) ent_77 z z (rc z z (rc z rm (rc z rm (rc z z rn)))) (rc z z (rc z rm (rc z z (rc z rm rn)))) z ⟨z, ⟨z, ⟨z, ⟨z, q⟩⟩⟩⟩ (by decide) z z z (oc z (oc om (oc om (oc z on)))) (oc z (oc om (oc z (oc om on)))) z) z <| ?_
      refine wd_nil ?_ (by kernel_rfl)
      refine e_n <| wc_seq <| wc_draw [0, 0, 2, 0, 8, 24, 63] mixed z <| dm z z <| dr (p_ldB (ds := (encMachOperand r3).map .data) ty_107 z z z z) z <| dr (p_bs (f := encMachOperand) [.tmp 189] [r3] Tryz.underlying58 ty_107.size zr_107 z z z z (el1 (.agg _) z el0) z) z <| dr (p_ldB (ds := (encTermX r11).map .data) ty_114 z z z z) z <| ?_
      obtain ⟨r111, e112, H⟩ := ob H
      refine dr (p_c (api_givenTrap_ok e112) ent_57 z z z) z <| dr (p_bs (f := encMachEffect) [.tmp 192] [r111] Tryz.underlying59 ty_118.size zr_118 z z z z (el1 (.agg _) z el0) z) z <| ?_
      obtain ⟨r113, e114, H⟩ := ob H
      refine drh (p_ch (ids := [0, 1, 28, 29]) (api_givenAdd_ok e114) ent_77 z z (rc z z (rc z rm (rc z rm (rc z z rn)))) (rc z z (rc z rm (rc z z (rc z rm rn)))) z ⟨z, ⟨z, ⟨z, ⟨z, q⟩⟩⟩⟩ (by decide) z z z (oc z (oc om (oc om (oc z on)))) (oc z (oc om (oc z (oc om on)))) z) z <| ?_
      refine wd_nil ?_ (by kernel_rfl)
      refine e_n <| sgr z <| lm z z <| ?_
      obtain ⟨r115, e116, H⟩ := ob H
      refine lh (p_ch (ids := [0, 1, 29, 30]) (FnOk.sub (us := [(.ptr 0 0), (aS (⟨#[110, 111, 112]⟩ : ByteArray)), (aN .i64 1), aNil, aNil]) (api_givenAdd_ok e116) ⟨sr, ⟨sr, ⟨sr, ⟨sn, ⟨sn, q⟩⟩⟩⟩⟩) ent_77 z z (rc z z (rc z rm (rc z rm (rc z z rn)))) (rc z z (rc z rm (rc z z (rc z rm rn)))) z ⟨z, ⟨z, ⟨z, ⟨z, q⟩⟩⟩⟩ (by decide) z z z (oc z (oc om (oc om (oc z on)))) (oc z (oc om (oc z (oc om on)))) z) z <| ne <| sgr z <| l (p_bs (f := eS) [.const (Value.string {data := #[101, 113]}), .const (Value.string {data := #[117, 108, 116]}), .const (Value.string {data := #[115, 108, 116]})] [(⟨#[101, 113]⟩ : ByteArray), (⟨#[117, 108, 116]⟩ : ByteArray), (⟨#[115, 108, 116]⟩ : ByteArray)] Tryz.underlying98 ty_9.size zr_9 z z z z (el1 (.one _) z (el1 (.one _) z (el1 (.one _) z el0))) z) z <| la z z <| ne <| ?_
      refine w_jn6 H (fun v117 v118 v119 v120 v121 v122 => ⟨[(0, (.ptr 0 0)), (2, (.ptr 4 0)), (8, (.ptr 10 0)), (12, (.ptr 14 0))], [(0, (oC 27 [(aS v117), (aN .i64 v118), (aN .i64 v119), (.row 1), (aL 2 encMachBank v120), (aL 2 encMachUnit v121), (.row 30)])), (1, (oR 100 4 encMachReg x3)), (2, .dead), (4, (oD 107 (encMachOperand r1))), (10, (oD 114 (encTermX r13))), (14, (oD 114 (encTermX r21))), (30, (oR 61 9 encMachInstr v122))]⟩) ?_ ?_
      · intro v117 v118 v119 v120 v121 v122 H
        rw [api_givenFlagsJumps_k3] at H
        refine sgr z <| l (p_bd (cs := (encMachPiece (MachPiece.mk 0 7)).map .data) pl_110 zr_110 z ⟨q, ⟨q, q⟩⟩ z) z <| l (p_bs (f := encMachPiece) [.tmp 225] [(MachPiece.mk 0 7)] Tryz.underlying105 ty_110.size zr_110 z z z z (el1 (.agg _) z el0) z) z <| ?_
        obtain ⟨r123, e124, H⟩ := ob H
        refine l (p_c (api_givenField_ok e124) ent_48 z z z) z <| lh (p_al 32 zr_107 z) z <| l0h (p_stA (ds := (encMachOperand r123).map .data) ty_107 z z z z z z) <| ne <| wc_draw [0, 0, 0, 6, 0, 0, 0, 96, 224, 480, 992, 2032, 4080, 8191] mixed z <| dm z z <| dr (p_ldB (ds := (encMachOperand r1).map .data) ty_107 z z z z) z <| dr (p_ldB (ds := (encMachOperand r123).map .data) ty_107 z z z z) z <| dr (p_bs (f := encMachOperand) [.tmp 229, .tmp 230] [r1, r123] Tryz.underlying58 ty_107.size zr_107 z z z z (el1 (.agg _) z (el1 (.agg _) z el0)) z) z <| dr (p_ldB (ds := (encTermX r21).map .data) ty_114 z z z z) z <| dr (p_ldB (ds := (encTermX r13).map .data) ty_114 z z z z) z <| ?_
        obtain ⟨r125, e126, H⟩ := ob H
        refine dr (p_c (api_givenNum_ok e126) ent_54 z z z) z <| dr (p_bs (f := encTerm) [.tmp 233, .tmp 234] [r13, r125] Tryz.underlying112 ty_114.size zr_114 z z z z (el1X (encTerm_X _) (.agg _) z (el1X (encTerm_X _) (.agg _) z el0)) z) z <| ?_
        obtain ⟨r127, e128, H⟩ := ob H
        refine dr (p_c (api_givenOp_ok e128) ent_51 z z z) z <| dr (p_bs (f := encTerm) [.tmp 236] [r127] Tryz.underlying112 ty_114.size zr_114 z z z z (el1X (encTerm_X _) (.agg _) z el0) z) z <| ?_
        obtain ⟨r129, e130, H⟩ := ob H
        refine dr (p_c (api_givenOp_ok e130) ent_51 z z z) z <| ?_
        obtain ⟨r131, e132, H⟩ := ob H
        refine dr (p_c (api_givenJump_ok e132) ent_55 z z z) z <| dr (p_bs (f := encMachEffect) [.tmp 239] [r131] Tryz.underlying59 ty_118.size zr_118 z z z z (el1 (.agg _) z el0) z) z <| ?_
        obtain ⟨r133, e134, H⟩ := ob H
        refine drh (p_ch (ids := [0, 1, 30, 33]) (api_givenAdd_ok e134) ent_77 z z (rc z z (rc z rm (rc z rm (rc z z rn)))) (rc z z (rc z rm (rc z z (rc z rm rn)))) z ⟨z, ⟨z, ⟨z, ⟨z, q⟩⟩⟩⟩ (by decide) z z z (oc z (oc om (oc om (oc z on)))) (oc z (oc om (oc z (oc om on)))) z) z <| ?_
        refine wd_nil ?_ (by kernel_rfl)
        obtain rfl := sm H
        exact fin (Or.inl z) rs0 (re2 [(0, 0), (1, 1), (2, 2), (33, 3)] q z (hs z z z (hr z (hx (hr z h0)))))
      intro H
      refine sgr z <| l (p_bs (f := (eN .u8)) [.const (Value.int IntKind.u8 16), .const (Value.int IntKind.u8 17), .const (Value.int IntKind.u8 18)] [16, 17, 18] Tryz.underlying116 ty_5.size zr_5 z z z z (el1 (.one _) z (el1 (.one _) z (el1 (.one _) z el0))) z) z <| l (p_lenL Tryz.underlying116 z) z <| lm z z <| ne <| wc_block <| w_lp7 H (fun v135 v136 v137 v138 v139 v140 v141 => ⟨[(0, (.ptr 0 0)), (2, (.ptr 4 0)), (3, (.ptr 5 0)), (4, (.ptr 6 0)), (6, (.ptr 8 0)), (7, (.ptr 9 0)), (8, (.ptr 10 0)), (12, (.ptr 14 0)), (13, (aL 1 eS ([(⟨#[101, 113]⟩ : ByteArray), (⟨#[117, 108, 116]⟩ : ByteArray), (⟨#[115, 108, 116]⟩ : ByteArray)]))), (198, (aL 1 (eN .u8) [16, 17, 18])), (199, (aN .i64 ([16, 17, 18].length : Int))), (200, (aN .i64 v135))], [(0, (oC 27 [(aS v136), (aN .i64 v137), (aN .i64 v138), (.row 1), (aL 2 encMachBank v139), (aL 2 encMachUnit v140), (.row 30)])), (1, (oR 100 4 encMachReg x3)), (2, .dead), (4, (oD 107 (encMachOperand r1))), (5, (oD 107 (encMachOperand r3))), (6, (oD 107 (encMachOperand r5))), (8, (oD 114 (encTermX r9))), (9, (oD 114 (encTermX r11))), (10, (oD 114 (encTermX r13))), (14, (oD 114 (encTermX r21))), (30, (oR 61 9 encMachInstr v141))]⟩) (en [(0, 0), (1, 1), (2, 2), (4, 4), (5, 5), (6, 6), (8, 8), (9, 9), (10, 10), (14, 14), (30, 30)] (ws z z z (ws z z z (ws z z z (ws z z z (ws z z z (ws z z z (ws z z z (ws z z z (wd z (wd z (wd z (wd z w0)))))))))))) z (hs z z z (hr z (hx (hc z (hc z (hc z (hc z (hc z (hc z (hc z (hr z h0)))))))))))) <| ?_
      intro n4 v135 v136 v137 v138 v139 v140 v141 H
      rw [api_givenFlagsJumps_b4] at H
      refine sgr z <| l (p_lss z z) z <| ne <| wc_seq <| ?_
      rcases cn H with ⟨b142, H⟩ | ⟨b142, H⟩
      · refine c_t z b142 ?_
        refine se <| wc_seq <| wc_block <| sgr z <| lm z z <| ?_
        obtain ⟨r143, e144, H⟩ := ob H
        refine l (p_ixL Tryz.underlying116 ty_5.size z z e144) z <| l (p_ldP ty_5 z z) z <| la z z <| la z z <| ne <| wc_draw [0, 0, 0, 6, 14, 0, 0, 0, 224, 0, 0, 0, 3072, 7680, 15872, 32256, 65024, 130560, 262143] mixed z <| dm z z <| dm z z <| dm z z <| ?_
        obtain ⟨r145, e146, H⟩ := ob H
        refine dr (p_ixL Tryz.underlying98 ty_9.size z z e146) z <| dr (p_ldP ty_9 z z) z <| dr (p_ldB (ds := (encMachOperand r1).map .data) ty_107 z z z z) z <| dr (p_ldB (ds := (encMachOperand r5).map .data) ty_107 z z z z) z <| dr (p_ldB (ds := (encMachOperand r3).map .data) ty_107 z z z z) z <| dr (p_bs (f := encMachOperand) [.tmp 210, .tmp 211, .tmp 212] [r1, r5, r3] Tryz.underlying58 ty_107.size zr_107 z z z z (el1 (.agg _) z (el1 (.agg _) z (el1 (.agg _) z el0))) z) z <| dm z z <| dr (p_ldB (ds := (encTermX r9).map .data) ty_114 z z z z) z <| dr (p_ldB (ds := (encTermX r11).map .data) ty_114 z z z z) z <| dr (p_bs (f := encTerm) [.tmp 215, .tmp 216] [r9, r11] Tryz.underlying112 ty_114.size zr_114 z z z z (el1X (encTerm_X _) (.agg _) z (el1X (encTerm_X _) (.agg _) z el0)) z) z <| ?_
        obtain ⟨r147, e148, H⟩ := ob H
        refine dr (p_c (api_givenOp_ok e148) ent_51 z z z) z <| dr (p_bs (f := encTerm) [.tmp 218] [r147] Tryz.underlying112 ty_114.size zr_114 z z z z (el1X (encTerm_X _) (.agg _) z el0) z) z <| ?_
        obtain ⟨r149, e150, H⟩ := ob H
        refine dr (p_c (api_givenOp_ok e150) ent_51 z z z) z <| ?_
        obtain ⟨r151, e152, H⟩ := ob H
        refine dr (p_c (api_givenSet_ok e152) ent_50 z z z) z <| dr (p_bs (f := encMachEffect) [.tmp 221] [r151] Tryz.underlying59 ty_118.size zr_118 z z z z (el1 (.agg _) z el0) z) z <| ?_
        obtain ⟨r153, e154, H⟩ := ob H
        refine drh (p_ch (ids := [0, 1, 30, 32]) (api_givenAdd_ok e154) ent_77 z z (rc z z (rc z rm (rc z rm (rc z z rn)))) (rc z z (rc z rm (rc z z (rc z rm rn)))) z ⟨z, ⟨z, ⟨z, ⟨z, q⟩⟩⟩⟩ (by decide) z z z (oc z (oc om (oc om (oc z on)))) (oc z (oc om (oc z (oc om on)))) z) z <| ?_
        refine wd_nil ?_ (by kernel_rfl)
        refine e_bn (e_n ?_)
        refine wc_region z <| l (p_add z z) z <| lm z z <| ne <| ?_
        exact ⟨w64 (v135 + 1), r153.2.1, r153.2.2.1, r153.2.2.2.1, r153.2.2.2.2.1, r153.2.2.2.2.2, r153.1, H, en [(0, 0), (1, 1), (2, 2), (4, 4), (5, 5), (6, 6), (8, 8), (9, 9), (10, 10), (14, 14), (32, 30)] (ws z z z (ws z z z (ws z z z (ws z z z (ws z z z (ws z z z (ws z z z (ws z z z (wd z (wd z (wd z (wd z w0)))))))))))) z (hs z z z (hr z (hx (hc z (hc z (hc z (hc z (hc z (hc z (hc z (hr z h0)))))))))))⟩
      refine c_f z b142 <| wc_exit <| ?_
      refine e_te (e_te (e_h (e_n ?_)))
      exact ⟨v136, v137, v138, v139, v140, v141, H, en [(0, 0), (1, 1), (2, 2), (4, 4), (10, 10), (14, 14), (30, 30)] (ws z z z (ws z z z (ws z z z (ws z z z w0)))) z (hs z z z (hr z (hx (hc z (hc z (hc z (hr z h0)))))))⟩
    intro H
    refine sgr z <| l (p_bs (f := eS) [.const (Value.string {data := #[122, 102]}), .const (Value.string {data := #[99, 102]}), .const (Value.string {data := #[115, 102]})] [(⟨#[122, 102]⟩ : ByteArray), (⟨#[99, 102]⟩ : ByteArray), (⟨#[115, 102]⟩ : ByteArray)] Tryz.underlying98 ty_9.size zr_9 z z z z (el1 (.one _) z (el1 (.one _) z (el1 (.one _) z el0))) z) z <| l (p_lenL Tryz.underlying98 z) z <| lm z z <| ne <| wc_block <| w_lp7 H (fun v155 v156 v157 v158 v159 v160 v161 => ⟨[(0, (.ptr 0 0)), (2, (.ptr 4 0)), (3, (.ptr 5 0)), (4, (.ptr 6 0)), (5, (.ptr 7 0)), (6, (.ptr 8 0)), (7, (.ptr 9 0)), (8, (.ptr 10 0)), (9, (.ptr 11 0)), (10, (.ptr 12 0)), (11, (.ptr 13 0)), (12, (.ptr 14 0)), (13, (aL 1 eS ([(⟨#[106, 122]⟩ : ByteArray), (⟨#[106, 99]⟩ : ByteArray), (⟨#[106, 115]⟩ : ByteArray)]))), (16, (.ptr 17 0)), (67, (aL 1 eS ([(⟨#[122, 102]⟩ : ByteArray), (⟨#[99, 102]⟩ : ByteArray), (⟨#[115, 102]⟩ : ByteArray)]))), (68, (aN .i64 ((([(⟨#[122, 102]⟩ : ByteArray), (⟨#[99, 102]⟩ : ByteArray), (⟨#[115, 102]⟩ : ByteArray)]).length : Int)))), (69, (aN .i64 v155))], [(0, (oC 27 [(aS v156), (aN .i64 v157), (aN .i64 v158), (.row 1), (aL 2 encMachBank v159), (aL 2 encMachUnit v160), (.row 15)])), (1, (oR 100 4 encMachReg x3)), (2, .dead), (4, (oD 107 (encMachOperand r1))), (5, (oD 107 (encMachOperand r3))), (6, (oD 107 (encMachOperand r5))), (7, (oD 107 (encMachOperand r7))), (8, (oD 114 (encTermX r9))), (9, (oD 114 (encTermX r11))), (10, (oD 114 (encTermX r13))), (11, (oD 114 (encTermX r15))), (12, (oD 114 (encTermX r17))), (13, (oD 114 (encTermX r19))), (14, (oD 114 (encTermX r21))), (15, (oR 61 9 encMachInstr v161)), (17, (oD 107 (encMachOperand r29)))]⟩) (en [(0, 0), (1, 1), (2, 2), (4, 4), (5, 5), (6, 6), (7, 7), (8, 8), (9, 9), (10, 10), (11, 11), (12, 12), (13, 13), (14, 14), (15, 15), (17, 17)] (ws z z z (ws z z z (ws z z z (ws z z z (ws z z z (ws z z z (ws z z z (ws z z z (ws z z z (ws z z z (ws z z z (ws z z z (wd z (ws z z z (wd z (wd z (wd z w0))))))))))))))))) z (hs z z z (hr z (hx (hc z (hc z (hc z (hc z (hc z (hc z (hc z (hc z (hc z (hc z (hc z (hr z (hc z h0))))))))))))))))) <| ?_
    intro n5 v155 v156 v157 v158 v159 v160 v161 H
    rw [api_givenFlagsJumps_b5] at H
    refine sgr z <| l (p_lss z z) z <| ne <| wc_seq <| ?_
    rcases cn H with ⟨b162, H⟩ | ⟨b162, H⟩
    · refine c_t z b162 ?_
      refine se <| wc_seq <| wc_block <| sgr z <| lm z z <| ?_
      obtain ⟨r163, e164, H⟩ := ob H
      refine l (p_ixL Tryz.underlying98 ty_9.size z z e164) z <| l (p_ldP ty_9 z z) z <| la z z <| la z z <| ne <| wc_draw [0, 0, 0, 6, 14, 0, 32, 0, 0, 256, 896, 1920, 4095] mixed z <| dm z z <| dm z z <| dm z z <| ?_
      obtain ⟨r165, e166, H⟩ := ob H
      refine dr (p_ixL Tryz.underlying98 ty_9.size z z e166) z <| dr (p_ldP ty_9 z z) z <| dr (p_ldB (ds := (encMachOperand r29).map .data) ty_107 z z z z) z <| dr (p_bs (f := encMachOperand) [.tmp 79] [r29] Tryz.underlying58 ty_107.size zr_107 z z z z (el1 (.agg _) z el0) z) z <| dr (p_ldB (ds := (encTermX r21).map .data) ty_114 z z z z) z <| dm z z <| ?_
      obtain ⟨r167, e168, H⟩ := ob H
      refine dr (p_c (api_givenFlag_ok e168) ent_80 z z z) z <| ?_
      obtain ⟨r169, e170, H⟩ := ob H
      refine dr (p_c (api_givenJump_ok e170) ent_55 z z z) z <| dr (p_bs (f := encMachEffect) [.tmp 84] [r169] Tryz.underlying59 ty_118.size zr_118 z z z z (el1 (.agg _) z el0) z) z <| ?_
      obtain ⟨r171, e172, H⟩ := ob H
      refine drh (p_ch (ids := [0, 1, 15, 19]) (api_givenAdd_ok e172) ent_77 z z (rc z z (rc z rm (rc z rm (rc z z rn)))) (rc z z (rc z rm (rc z z (rc z rm rn)))) z ⟨z, ⟨z, ⟨z, ⟨z, q⟩⟩⟩⟩ (by decide) z z z (oc z (oc om (oc om (oc z on)))) (oc z (oc om (oc z (oc om on)))) z) z <| ?_
      refine wd_nil ?_ (by kernel_rfl)
      refine e_bn (e_n ?_)
      refine wc_region z <| l (p_add z z) z <| lm z z <| ne <| ?_
      exact ⟨w64 (v155 + 1), r171.2.1, r171.2.2.1, r171.2.2.2.1, r171.2.2.2.2.1, r171.2.2.2.2.2, r171.1, H, en [(0, 0), (1, 1), (2, 2), (4, 4), (5, 5), (6, 6), (7, 7), (8, 8), (9, 9), (10, 10), (11, 11), (12, 12), (13, 13), (14, 14), (19, 15), (17, 17)] (ws z z z (ws z z z (ws z z z (ws z z z (ws z z z (ws z z z (ws z z z (ws z z z (ws z z z (ws z z z (ws z z z (ws z z z (wd z (ws z z z (wd z (wd z (wd z w0))))))))))))))))) z (hs z z z (hr z (hx (hc z (hc z (hc z (hc z (hc z (hc z (hc z (hc z (hc z (hc z (hc z (hr z (hc z h0))))))))))))))))⟩
    refine c_f z b162 <| wc_exit <| ?_
    refine e_te (e_te (e_h (e_n ?_)))
    exact ⟨v156, v157, v158, v159, v160, v161, H, en [(0, 0), (1, 1), (2, 2), (4, 4), (5, 5), (6, 6), (7, 7), (8, 8), (9, 9), (10, 10), (11, 11), (12, 12), (13, 13), (14, 14), (15, 15), (17, 17)] (ws z z z (ws z z z (ws z z z (ws z z z (ws z z z (ws z z z (ws z z z (ws z z z (ws z z z (ws z z z (ws z z z (ws z z z (ws z z z w0))))))))))))) z (hs z z z (hr z (hx (hc z (hc z (hc z (hc z (hc z (hc z (hc z (hc z (hc z (hc z (hc z (hr z (hc z h0))))))))))))))))⟩
  intro H
  refine sgr z <| l (p_bs (f := eS) [.const (Value.string {data := #[122, 102]}), .const (Value.string {data := #[99, 102]}), .const (Value.string {data := #[115, 102]})] [(⟨#[122, 102]⟩ : ByteArray), (⟨#[99, 102]⟩ : ByteArray), (⟨#[115, 102]⟩ : ByteArray)] Tryz.underlying98 ty_9.size zr_9 z z z z (el1 (.one _) z (el1 (.one _) z (el1 (.one _) z el0))) z) z <| l (p_lenL Tryz.underlying98 z) z <| lm z z <| ne <| wc_block <| wc_ent (mvr (j := 0) (i := 6) (k := 2) 15 z z z z z) <| w_lp7 H (fun v173 v174 v175 v176 v177 v178 v179 => ⟨[(0, (.ptr 0 0)), (2, (.ptr 4 0)), (3, (.ptr 5 0)), (4, (.ptr 6 0)), (5, (.ptr 7 0)), (6, (.ptr 8 0)), (7, (.ptr 9 0)), (8, (.ptr 10 0)), (9, (.ptr 11 0)), (10, (.ptr 12 0)), (11, (.ptr 13 0)), (12, (.ptr 14 0)), (13, (aL 1 eS ([(⟨#[115, 101, 116, 122]⟩ : ByteArray), (⟨#[115, 101, 116, 99]⟩ : ByteArray), (⟨#[115, 101, 116, 115]⟩ : ByteArray)]))), (41, (aL 1 eS ([(⟨#[122, 102]⟩ : ByteArray), (⟨#[99, 102]⟩ : ByteArray), (⟨#[115, 102]⟩ : ByteArray)]))), (42, (aN .i64 ((([(⟨#[122, 102]⟩ : ByteArray), (⟨#[99, 102]⟩ : ByteArray), (⟨#[115, 102]⟩ : ByteArray)]).length : Int)))), (43, (aN .i64 v173))], [(0, (oC 27 [(aS v174), (aN .i64 v175), (aN .i64 v176), (.row 1), (aL 2 encMachBank v177), (aL 2 encMachUnit v178), (.row 15)])), (1, (oR 100 4 encMachReg x3)), (2, .dead), (4, (oD 107 (encMachOperand r1))), (5, (oD 107 (encMachOperand r3))), (6, (oD 107 (encMachOperand r5))), (7, (oD 107 (encMachOperand r7))), (8, (oD 114 (encTermX r9))), (9, (oD 114 (encTermX r11))), (10, (oD 114 (encTermX r13))), (11, (oD 114 (encTermX r15))), (12, (oD 114 (encTermX r17))), (13, (oD 114 (encTermX r19))), (14, (oD 114 (encTermX r21))), (15, (oR 61 9 encMachInstr v179))]⟩) (en [(0, 0), (1, 1), (2, 2), (4, 4), (5, 5), (6, 6), (7, 7), (8, 8), (9, 9), (10, 10), (11, 11), (12, 12), (13, 13), (14, 14), (15, 15)] (ws z z z (ws z z z (ws z z z (ws z z z (ws z z z (ws z z z (ws z z z (ws z z z (ws z z z (ws z z z (ws z z z (ws z z z (wd z (wd z (wd z (wd z w0)))))))))))))))) z (hs z z z (hr z (hx (hc z (hc z (hc z (hc z (hc z (hc z (hc z (hc z (hc z (hc z (hc z (hr z h0)))))))))))))))) <| ?_
  intro n6 v173 v174 v175 v176 v177 v178 v179 H
  rw [api_givenFlagsJumps_b6] at H
  refine sgr z <| l (p_lss z z) z <| ne <| wc_seq <| ?_
  rcases cn H with ⟨b180, H⟩ | ⟨b180, H⟩
  · refine c_t z b180 ?_
    refine se <| wc_seq <| wc_block <| sgr z <| lm z z <| ?_
    obtain ⟨r181, e182, H⟩ := ob H
    refine l (p_ixL Tryz.underlying98 ty_9.size z z e182) z <| l (p_ldP ty_9 z z) z <| la z z <| la z z <| ne <| wc_draw [0, 0, 0, 6, 14, 0, 32, 0, 128, 384, 896, 1920, 3968, 8191] mixed z <| dm z z <| dm z z <| dm z z <| ?_
    obtain ⟨r183, e184, H⟩ := ob H
    refine dr (p_ixL Tryz.underlying98 ty_9.size z z e184) z <| dr (p_ldP ty_9 z z) z <| dr (p_ldB (ds := (encMachOperand r1).map .data) ty_107 z z z z) z <| dr (p_bs (f := encMachOperand) [.tmp 53] [r1] Tryz.underlying58 ty_107.size zr_107 z z z z (el1 (.agg _) z el0) z) z <| dm z z <| ?_
    obtain ⟨r185, e186, H⟩ := ob H
    refine dr (p_c (api_givenFlag_ok e186) ent_80 z z z) z <| dr (p_bs (f := encTerm) [.tmp 56] [r185] Tryz.underlying112 ty_114.size zr_114 z z z z (el1X (encTerm_X _) (.agg _) z el0) z) z <| ?_
    obtain ⟨r187, e188, H⟩ := ob H
    refine dr (p_c (api_givenOp_ok e188) ent_51 z z z) z <| ?_
    obtain ⟨r189, e190, H⟩ := ob H
    refine dr (p_c (api_givenSet_ok e190) ent_50 z z z) z <| dr (p_bs (f := encMachEffect) [.tmp 59] [r189] Tryz.underlying59 ty_118.size zr_118 z z z z (el1 (.agg _) z el0) z) z <| ?_
    obtain ⟨r191, e192, H⟩ := ob H
    refine drh (p_ch (ids := [0, 1, 15, 17]) (api_givenAdd_ok e192) ent_77 z z (rc z z (rc z rm (rc z rm (rc z z rn)))) (rc z z (rc z rm (rc z z (rc z rm rn)))) z ⟨z, ⟨z, ⟨z, ⟨z, q⟩⟩⟩⟩ (by decide) z z z (oc z (oc om (oc om (oc z on)))) (oc z (oc om (oc z (oc om on)))) z) z <| ?_
    refine wd_nil ?_ (by kernel_rfl)
    refine e_bn (e_n ?_)
    refine wc_region z <| l (p_add z z) z <| lm z z <| ne <| ?_
    exact ⟨w64 (v173 + 1), r191.2.1, r191.2.2.1, r191.2.2.2.1, r191.2.2.2.2.1, r191.2.2.2.2.2, r191.1, H, en [(0, 0), (1, 1), (2, 2), (4, 4), (5, 5), (6, 6), (7, 7), (8, 8), (9, 9), (10, 10), (11, 11), (12, 12), (13, 13), (14, 14), (17, 15)] (ws z z z (ws z z z (ws z z z (ws z z z (ws z z z (ws z z z (ws z z z (ws z z z (ws z z z (ws z z z (ws z z z (ws z z z (wd z (wd z (wd z (wd z w0)))))))))))))))) z (hs z z z (hr z (hx (hc z (hc z (hc z (hc z (hc z (hc z (hc z (hc z (hc z (hc z (hc z (hr z h0)))))))))))))))⟩
  refine c_f z b180 <| wc_exit <| ?_
  refine e_te (e_te (e_h (e_n ?_)))
  exact ⟨v174, v175, v176, v177, v178, v179, H, en [(0, 0), (1, 1), (2, 2), (4, 4), (5, 5), (6, 6), (7, 7), (8, 8), (9, 9), (10, 10), (11, 11), (12, 12), (13, 13), (14, 14), (15, 15)] (ws z z z (ws z z z (ws z z z (ws z z z (ws z z z (ws z z z (ws z z z (ws z z z (ws z z z (ws z z z (ws z z z (ws z z z w0)))))))))))) z (hs z z z (hr z (hx (hc z (hc z (hc z (hc z (hc z (hc z (hc z (hc z (hc z (hc z (hc z (hr z h0)))))))))))))))⟩

def api_givenFlags_k3 (v5 : ByteArray) (v7 : List Int) (v12 : ByteArray) (v14 : List Int) : ByteArray × Int × Int × (List MachUnit) × (List MachReg) → Option Machine
  | (v15, v16, v17, v18, v19) =>
    (api_givenFlagsWords v15 v16 v17 v19 [(MachBank.mk v5 v7), (MachBank.mk v12 v14)] v18 ([] : List MachInstr)).bind fun r20 =>
    (api_givenFlagsBytes r20.2.1 r20.2.2.1 r20.2.2.2.1 v19 r20.2.2.2.2.1 r20.2.2.2.2.2 r20.1).bind fun r22 =>
    (api_givenFlagsJumps r22.2.1 r22.2.2.1 r22.2.2.2.1 v19 r22.2.2.2.2.1 r22.2.2.2.2.2 r22.1).bind fun r24 =>
    some (Machine.mk r24.2.1 r24.2.2.1 r24.2.2.2.1 v19 r24.2.2.2.2.1 r24.2.2.2.2.2 r24.1)
def api_givenFlags_b4 (k3 : ByteArray × Int × Int × (List MachUnit) × (List MachReg) → Option Machine) (rec4 : Int × ByteArray × Int × Int × (List MachUnit) × (List MachReg) → Option Machine) : Int × ByteArray × Int × Int × (List MachUnit) × (List MachReg) → Option Machine
  | (v26, v27, v28, v29, v30, v31) =>
    bif decide (v26 < ((([(⟨#[122, 102]⟩ : ByteArray), (⟨#[99, 102]⟩ : ByteArray), (⟨#[115, 102]⟩ : ByteArray)]).length : Int))) then
      (ix ([(⟨#[122, 102]⟩ : ByteArray), (⟨#[99, 102]⟩ : ByteArray), (⟨#[115, 102]⟩ : ByteArray)]) v26).bind fun r33 =>
      asr (roomy (v31.length + [(MachReg.mk r33 1 (-1) 0)].length) 40) <|
      rec4 ((w64 (v26 + 1), v27, v28, v29, v30, v31 ++ [(MachReg.mk r33 1 (-1) 0)]))
    else
      k3 (v27, v28, v29, v30, v31)
def api_givenFlags_k2 (v5 : ByteArray) (v7 : List Int) : ByteArray × Int × Int × (List MachUnit) × ByteArray × (List MachReg) × (List Int) → Option Machine
  | (v8, v9, v10, v11, v12, v13, v14) =>
    jn (api_givenFlags_k3 v5 v7 v12 v14) fun k3 =>
    lp (api_givenFlags_b4 k3) (([(⟨#[122, 102]⟩ : ByteArray), (⟨#[99, 102]⟩ : ByteArray), (⟨#[115, 102]⟩ : ByteArray)]).length + 1) (0, v8, v9, v10, v11, v13)
def api_givenFlags_b5 (k2 : ByteArray × Int × Int × (List MachUnit) × ByteArray × (List MachReg) × (List Int) → Option Machine) (rec5 : Int × ByteArray × Int × Int × (List MachUnit) × ByteArray × (List MachReg) × (List Int) → Option Machine) : Int × ByteArray × Int × Int × (List MachUnit) × ByteArray × (List MachReg) × (List Int) → Option Machine
  | (v36, v37, v38, v39, v40, v41, v42, v43) =>
    bif decide (v36 < ((([(⟨#[97, 108]⟩ : ByteArray), (⟨#[98, 108]⟩ : ByteArray), (⟨#[99, 108]⟩ : ByteArray), (⟨#[100, 108]⟩ : ByteArray), (⟨#[97, 104]⟩ : ByteArray), (⟨#[98, 104]⟩ : ByteArray), (⟨#[99, 104]⟩ : ByteArray), (⟨#[100, 104]⟩ : ByteArray)]).length : Int))) then
      (ix ([(⟨#[97, 108]⟩ : ByteArray), (⟨#[98, 108]⟩ : ByteArray), (⟨#[99, 108]⟩ : ByteArray), (⟨#[100, 108]⟩ : ByteArray), (⟨#[97, 104]⟩ : ByteArray), (⟨#[98, 104]⟩ : ByteArray), (⟨#[99, 104]⟩ : ByteArray), (⟨#[100, 104]⟩ : ByteArray)]) v36).bind fun r45 =>
      asr (roomy (v42.length + [(MachReg.mk r45 8 (Int.tmod v36 4) (w64 (8 * (w64 (Int.tdiv v36 4)))))].length) 40) <|
      asr (roomy (v43.length + [w64 (8 + v36)].length) 8) <|
      rec5 ((w64 (v36 + 1), v37, v38, v39, v40, v41, v42 ++ [(MachReg.mk r45 8 (Int.tmod v36 4) (w64 (8 * (w64 (Int.tdiv v36 4)))))], v43 ++ [w64 (8 + v36)]))
    else
      k2 (v37, v38, v39, v40, v41, v42, v43)
def api_givenFlags_k1 : ByteArray × Int × Int × (List MachUnit) × ByteArray × (List MachReg) × (List Int) → Option Machine
  | (v1, v2, v3, v4, v5, v6, v7) =>
    jn (api_givenFlags_k2 v5 v7) fun k2 =>
    lp (api_givenFlags_b5 k2) (([(⟨#[97, 108]⟩ : ByteArray), (⟨#[98, 108]⟩ : ByteArray), (⟨#[99, 108]⟩ : ByteArray), (⟨#[100, 108]⟩ : ByteArray), (⟨#[97, 104]⟩ : ByteArray), (⟨#[98, 104]⟩ : ByteArray), (⟨#[99, 104]⟩ : ByteArray), (⟨#[100, 104]⟩ : ByteArray)]).length + 1) ((0, v1, v2, v3, v4, (⟨#[98]⟩ : ByteArray), v6, ([] : List Int)))
def api_givenFlags_b6 (k1 : ByteArray × Int × Int × (List MachUnit) × ByteArray × (List MachReg) × (List Int) → Option Machine) (rec6 : Int × ByteArray × Int × Int × (List MachUnit) × ByteArray × (List MachReg) × (List Int) → Option Machine) : Int × ByteArray × Int × Int × (List MachUnit) × ByteArray × (List MachReg) × (List Int) → Option Machine
  | (v49, v50, v51, v52, v53, v54, v55, v56) =>
    bif decide (v49 < ((([(⟨#[97, 120]⟩ : ByteArray), (⟨#[98, 120]⟩ : ByteArray), (⟨#[99, 120]⟩ : ByteArray), (⟨#[100, 120]⟩ : ByteArray), (⟨#[115, 105]⟩ : ByteArray), (⟨#[100, 105]⟩ : ByteArray), (⟨#[98, 112]⟩ : ByteArray), (⟨#[115, 112]⟩ : ByteArray)]).length : Int))) then
      (ix ([(⟨#[97, 120]⟩ : ByteArray), (⟨#[98, 120]⟩ : ByteArray), (⟨#[99, 120]⟩ : ByteArray), (⟨#[100, 120]⟩ : ByteArray), (⟨#[115, 105]⟩ : ByteArray), (⟨#[100, 105]⟩ : ByteArray), (⟨#[98, 112]⟩ : ByteArray), (⟨#[115, 112]⟩ : ByteArray)]) v49).bind fun r58 =>
      asr (roomy (v55.length + [(MachReg.mk r58 16 (-1) 0)].length) 40) <|
      asr (roomy (v56.length + [v49].length) 8) <|
      rec6 ((w64 (v49 + 1), v50, v51, v52, v53, v54, v55 ++ [(MachReg.mk r58 16 (-1) 0)], v56 ++ [v49]))
    else
      k1 (v50, v51, v52, v53, v54, v55, v56)
def api_givenFlags : Option Machine :=
  jn api_givenFlags_k1 fun k1 =>
  lp (api_givenFlags_b6 k1) (([(⟨#[97, 120]⟩ : ByteArray), (⟨#[98, 120]⟩ : ByteArray), (⟨#[99, 120]⟩ : ByteArray), (⟨#[100, 120]⟩ : ByteArray), (⟨#[115, 105]⟩ : ByteArray), (⟨#[100, 105]⟩ : ByteArray), (⟨#[98, 112]⟩ : ByteArray), (⟨#[115, 112]⟩ : ByteArray)]).length + 1) ((0, (⟨#[102, 108, 97, 103, 115]⟩ : ByteArray), 2, 16, [(MachUnit.mk (⟨#[99, 111, 114, 101]⟩ : ByteArray) 1)], (⟨#[119]⟩ : ByteArray), ([] : List MachReg), ([] : List Int)))
theorem api_givenFlags_ok {R : Machine} (H : api_givenFlags = some R) : FnOk Tryz.prog K0 23 [] [] (aA (encMachine R)) [] := by
  refine fn_w (nt := 85) (np := 0) Tryz.func23 z z (by simp) (np_of2 z) <| ?_
  unfold api_givenFlags at H
  refine sgr z <| lh (p_al 0 zr_27 z) z <| ne <| sgr z <| l (p_bd (cs := (encMachUnit ((MachUnit.mk (⟨#[99, 111, 114, 101]⟩ : ByteArray) 1))).map .data) pl_92 zr_92 z ⟨q, ⟨q, q⟩⟩ z) z <| l (p_bs (f := encMachUnit) [.tmp 10] [(MachUnit.mk (⟨#[99, 111, 114, 101]⟩ : ByteArray) 1)] Tryz.underlying24 ty_92.size zr_92 z z z z (el1 (.agg _) z el0) z) z <| l (p_bd (cs := [(aS (⟨#[102, 108, 97, 103, 115]⟩ : ByteArray)), (aN .i64 2), (aN .i64 16), aNil, aNil, (aL 2 encMachUnit ([(MachUnit.mk (⟨#[99, 111, 114, 101]⟩ : ByteArray) 1)])), aNil]) pl_27 zr_27 z ⟨q, ⟨q, ⟨q, ⟨q, q⟩⟩⟩⟩ z) z <| lh (p_al 1 zr_27 z) z <| l0h (p_stA (ds := [(aS (⟨#[102, 108, 97, 103, 115]⟩ : ByteArray)), (aN .i64 2), (aN .i64 16), aNil, aNil, (aL 2 encMachUnit ([(MachUnit.mk (⟨#[99, 111, 114, 101]⟩ : ByteArray) 1)])), aNil]) ty_27 z z z z z z) <| ne <| sgr z <| l (p_bd (cs := [(aS (⟨#[119]⟩ : ByteArray)), aNil]) pl_97 zr_97 z ⟨q, q⟩ z) z <| l (p_bd (cs := [(aS (⟨#[98]⟩ : ByteArray)), aNil]) pl_97 zr_97 z ⟨q, q⟩ z) z <| lh (p_al 2 zr_97 z) z <| lh (p_al 3 zr_97 z) z <| l0h (p_stA (ds := [(aS (⟨#[119]⟩ : ByteArray)), aNil]) ty_97 z z z z z z) <| l0h (p_stA (ds := [(aS (⟨#[98]⟩ : ByteArray)), aNil]) ty_97 z z z z z z) <| ne <| ?_
  refine w_jn7 H (fun v1 v2 v3 v4 v5 v6 v7 => ⟨[(0, (.ptr 0 0)), (1, (.ptr 1 0)), (2, (.ptr 2 0)), (3, (.ptr 3 0))], [(0, (oC 27 [(aS ⟨#[]⟩), (aN .i64 0), (aN .i64 0), aNil, aNil, aNil, aNil])), (1, (oC 27 [(aS v1), (aN .i64 v2), (aN .i64 v3), (.row 8), aNil, (aL 2 encMachUnit v4), aNil])), (2, (oC 97 [(aS v5), (.row 9)])), (3, (oC 97 [(aS (⟨#[98]⟩ : ByteArray)), aNil])), (8, (oR 100 4 encMachReg v6)), (9, (oR 3 1 (eN .i64) v7))]⟩) ?_ ?_
  · intro v1 v2 v3 v4 v5 v6 v7 H
    rw [api_givenFlags_k1] at H
    refine w_jn7 H (fun v8 v9 v10 v11 v12 v13 v14 => ⟨[(0, (.ptr 0 0)), (1, (.ptr 1 0)), (2, (.ptr 2 0)), (3, (.ptr 3 0))], [(0, (oC 27 [(aS ⟨#[]⟩), (aN .i64 0), (aN .i64 0), aNil, aNil, aNil, aNil])), (1, (oC 27 [(aS v8), (aN .i64 v9), (aN .i64 v10), (.row 8), aNil, (aL 2 encMachUnit v11), aNil])), (2, (oC 97 [(aS v5), (.row 9)])), (3, (oC 97 [(aS v12), (.row 13)])), (8, (oR 100 4 encMachReg v13)), (9, (oR 3 1 (eN .i64) v7)), (13, (oR 3 1 (eN .i64) v14))]⟩) ?_ ?_
    · intro v8 v9 v10 v11 v12 v13 v14 H
      rw [api_givenFlags_k2] at H
      refine w_jn5 H (fun v15 v16 v17 v18 v19 => ⟨[(0, (.ptr 0 0)), (1, (.ptr 1 0)), (2, (.ptr 2 0)), (3, (.ptr 3 0))], [(0, (oC 27 [(aS ⟨#[]⟩), (aN .i64 0), (aN .i64 0), aNil, aNil, aNil, aNil])), (1, (oC 27 [(aS v15), (aN .i64 v16), (aN .i64 v17), (.row 8), aNil, (aL 2 encMachUnit v18), aNil])), (2, (oC 97 [(aS v5), (.row 9)])), (3, (oC 97 [(aS v12), (.row 13)])), (8, (oR 100 4 encMachReg v19)), (9, (oR 3 1 (eN .i64) v7)), (13, (oR 3 1 (eN .i64) v14))]⟩) ?_ ?_
      · intro v15 v16 v17 v18 v19 H
        rw [api_givenFlags_k3] at H
        refine sgr z <| wl_ent (fzc (j := 2) (i := 1) z z z z (fun _ => z)) <| l (p_ldB (ds := (encMachBank (MachBank.mk v5 v7)).map .data) ty_97 z z z z) z <| wl_ent (fzc (j := 3) (i := 1) z z z z (fun _ => z)) <| l (p_ldB (ds := (encMachBank (MachBank.mk v12 v14)).map .data) ty_97 z z z z) z <| l (p_bs (f := encMachBank) [.tmp 77, .tmp 78] [(MachBank.mk v5 v7), (MachBank.mk v12 v14)] Tryz.underlying23 ty_97.size zr_97 z z z z (el1 (.agg _) z (el1 (.agg _) z el0)) z) z <| l (p_fd fld_27_4 z) z <| l0h (p_st ty_23 z z z q z z) <| ne <| sgr z <| wl_ent (nrc (j := 1) (i := 6) (f := encMachInstr) (sz := 9) (e := 61) 15 z z z) <| ?_
        obtain ⟨r20, e21, H⟩ := ob H
        refine lh (p_ch (ids := [1, 8, 15, 16]) (api_givenFlagsWords_ok e21) ent_42 z z (rc z z (rc z rm (rc z rm (rc z z rn)))) (rc z z (rc z rm (rc z z (rc z rm rn)))) z ⟨z, ⟨z, ⟨z, ⟨z, q⟩⟩⟩⟩ (by decide) z z z (oc z (oc om (oc om (oc z on)))) (oc z (oc om (oc z (oc om on)))) z) z <| ne <| sgr z <| ?_
        obtain ⟨r22, e23, H⟩ := ob H
        refine lh (p_ch (ids := [1, 8, 16, 17]) (api_givenFlagsBytes_ok e23) ent_43 z z (rc z z (rc z rm (rc z rm (rc z z rn)))) (rc z z (rc z rm (rc z z (rc z rm rn)))) z ⟨z, ⟨z, ⟨z, ⟨z, q⟩⟩⟩⟩ (by decide) z z z (oc z (oc om (oc om (oc z on)))) (oc z (oc om (oc z (oc om on)))) z) z <| ne <| sgr z <| ?_
        obtain ⟨r24, e25, H⟩ := ob H
        refine lh (p_ch (ids := [1, 8, 17, 18]) (api_givenFlagsJumps_ok e25) ent_44 z z (rc z z (rc z rm (rc z rm (rc z z rn)))) (rc z z (rc z rm (rc z z (rc z rm rn)))) z ⟨z, ⟨z, ⟨z, ⟨z, q⟩⟩⟩⟩ (by decide) z z z (oc z (oc om (oc om (oc z on)))) (oc z (oc om (oc z (oc om on)))) z) z <| ne <| sgr z <| wl_ent (fzc (j := 1) (i := 3) z z z z (fun _ => z)) <| wl_ent (fzc (j := 1) (i := 6) z z z z (fun _ => z)) <| l (p_ldB (ds := (encMachine (Machine.mk r24.2.1 r24.2.2.1 r24.2.2.2.1 v19 r24.2.2.2.2.1 r24.2.2.2.2.2 r24.1)).map .data) ty_27 z z z z) z <| l0h (p_stA (ds := (encMachine (Machine.mk r24.2.1 r24.2.2.1 r24.2.2.2.1 v19 r24.2.2.2.2.1 r24.2.2.2.2.2 r24.1)).map .data) ty_27 z z z z z z) <| ne <| wc_ret <| ?_
        obtain rfl := sm H
        exact fin (Or.inr z) (rs1 (rva (ds := (encMachine (Machine.mk r24.2.1 r24.2.2.1 r24.2.2.2.1 v19 r24.2.2.2.2.1 r24.2.2.2.2.2 r24.1)).map .data) ty_27 z z z z) rs0) (re [] (.adat) z h0)
      intro H
      refine sgr z <| l (p_bs (f := eS) [.const (Value.string {data := #[122, 102]}), .const (Value.string {data := #[99, 102]}), .const (Value.string {data := #[115, 102]})] [(⟨#[122, 102]⟩ : ByteArray), (⟨#[99, 102]⟩ : ByteArray), (⟨#[115, 102]⟩ : ByteArray)] Tryz.underlying98 ty_9.size zr_9 z z z z (el1 (.one _) z (el1 (.one _) z (el1 (.one _) z el0))) z) z <| l (p_lenL Tryz.underlying98 z) z <| lm z z <| ne <| wc_block <| w_lp6 H (fun v26 v27 v28 v29 v30 v31 => ⟨[(0, (.ptr 0 0)), (1, (.ptr 1 0)), (2, (.ptr 2 0)), (3, (.ptr 3 0)), (63, (aL 1 eS ([(⟨#[122, 102]⟩ : ByteArray), (⟨#[99, 102]⟩ : ByteArray), (⟨#[115, 102]⟩ : ByteArray)]))), (64, (aN .i64 ((([(⟨#[122, 102]⟩ : ByteArray), (⟨#[99, 102]⟩ : ByteArray), (⟨#[115, 102]⟩ : ByteArray)]).length : Int)))), (65, (aN .i64 v26))], [(0, (oC 27 [(aS ⟨#[]⟩), (aN .i64 0), (aN .i64 0), aNil, aNil, aNil, aNil])), (1, (oC 27 [(aS v27), (aN .i64 v28), (aN .i64 v29), (.row 8), aNil, (aL 2 encMachUnit v30), aNil])), (2, (oC 97 [(aS v5), (.row 9)])), (3, (oC 97 [(aS v12), (.row 13)])), (8, (oR 100 4 encMachReg v31)), (9, (oR 3 1 (eN .i64) v7)), (13, (oR 3 1 (eN .i64) v14))]⟩) (en [(0, 0), (1, 1), (2, 2), (3, 3), (8, 8), (9, 9), (13, 13)] (ws z z z (ws z z z (ws z z z (ws z z z (wd z (wd z (wd z w0))))))) z (hs z z z (hs z z z (hs z z z (hs z z z (hr z (hr z (hr z h0)))))))) <| ?_
      intro n4 v26 v27 v28 v29 v30 v31 H
      rw [api_givenFlags_b4] at H
      refine sgr z <| l (p_lss z z) z <| ne <| wc_seq <| ?_
      rcases cn H with ⟨b32, H⟩ | ⟨b32, H⟩
      · refine c_t z b32 ?_
        refine se <| wc_seq <| wc_block <| sgr z <| ?_
        obtain ⟨r33, e34, H⟩ := ob H
        refine l (p_ixL Tryz.underlying98 ty_9.size z z e34) z <| l (p_ldP ty_9 z z) z <| la z z <| ne <| wc_region z <| l (p_fd fld_27_3 z) z <| l (p_ld ty_22 z z z) z <| lm z z <| l (p_bd (cs := (encMachReg ((MachReg.mk r33 1 (-1) 0))).map .data) pl_100 zr_100 z ⟨q, ⟨q, ⟨q, q⟩⟩⟩ z) z <| l (p_bs (f := encMachReg) [.tmp 72] [(MachReg.mk r33 1 (-1) 0)] Tryz.underlying22 ty_100.size zr_100 z z z z (el1 (.agg _) z el0) z) z <| ?_
        obtain ⟨e35, H⟩ := as_ H
        refine lh (p_apA 15 Tryz.underlying22 el_100 z z z z e35) z <| l (p_fd fld_27_3 z) z <| l0h (p_st ty_22 z z z q z z) <| wl_nil <| ?_
        refine e_bn (e_n ?_)
        refine wc_region z <| l (p_add z z) z <| lm z z <| ne <| ?_
        exact ⟨w64 (v26 + 1), v27, v28, v29, v30, v31 ++ [(MachReg.mk r33 1 (-1) 0)], H, en [(0, 0), (1, 1), (2, 2), (3, 3), (15, 8), (9, 9), (13, 13)] (ws z z z (ws z z z (ws z z z (ws z z z (wd z (wd z (wd z w0))))))) z (hs z z z (hs z z z (hs z z z (hs z z z (hr z (hr z (hr z h0)))))))⟩
      refine c_f z b32 <| wc_exit <| ?_
      refine e_te (e_te (e_h (e_n ?_)))
      exact ⟨v27, v28, v29, v30, v31, H, en [(0, 0), (1, 1), (2, 2), (3, 3), (8, 8), (9, 9), (13, 13)] (ws z z z (ws z z z (ws z z z (ws z z z w0)))) z (hs z z z (hs z z z (hs z z z (hs z z z (hr z (hr z (hr z h0)))))))⟩
    intro H
    refine sgr z <| l (p_bs (f := eS) [.const (Value.string {data := #[97, 108]}), .const (Value.string {data := #[98, 108]}), .const (Value.string {data := #[99, 108]}), .const (Value.string {data := #[100, 108]}), .const (Value.string {data := #[97, 104]}), .const (Value.string {data := #[98, 104]}), .const (Value.string {data := #[99, 104]}), .const (Value.string {data := #[100, 104]})] [(⟨#[97, 108]⟩ : ByteArray), (⟨#[98, 108]⟩ : ByteArray), (⟨#[99, 108]⟩ : ByteArray), (⟨#[100, 108]⟩ : ByteArray), (⟨#[97, 104]⟩ : ByteArray), (⟨#[98, 104]⟩ : ByteArray), (⟨#[99, 104]⟩ : ByteArray), (⟨#[100, 104]⟩ : ByteArray)] Tryz.underlying98 ty_9.size zr_9 z z z z (el1 (.one _) z (el1 (.one _) z (el1 (.one _) z (el1 (.one _) z (el1 (.one _) z (el1 (.one _) z (el1 (.one _) z (el1 (.one _) z el0)))))))) z) z <| l (p_lenL Tryz.underlying98 z) z <| lm z z <| ne <| wc_block <| w_lp8 H (fun v36 v37 v38 v39 v40 v41 v42 v43 => ⟨[(0, (.ptr 0 0)), (1, (.ptr 1 0)), (2, (.ptr 2 0)), (3, (.ptr 3 0)), (36, (aL 1 eS ([(⟨#[97, 108]⟩ : ByteArray), (⟨#[98, 108]⟩ : ByteArray), (⟨#[99, 108]⟩ : ByteArray), (⟨#[100, 108]⟩ : ByteArray), (⟨#[97, 104]⟩ : ByteArray), (⟨#[98, 104]⟩ : ByteArray), (⟨#[99, 104]⟩ : ByteArray), (⟨#[100, 104]⟩ : ByteArray)]))), (37, (aN .i64 ((([(⟨#[97, 108]⟩ : ByteArray), (⟨#[98, 108]⟩ : ByteArray), (⟨#[99, 108]⟩ : ByteArray), (⟨#[100, 108]⟩ : ByteArray), (⟨#[97, 104]⟩ : ByteArray), (⟨#[98, 104]⟩ : ByteArray), (⟨#[99, 104]⟩ : ByteArray), (⟨#[100, 104]⟩ : ByteArray)]).length : Int)))), (38, (aN .i64 v36))], [(0, (oC 27 [(aS ⟨#[]⟩), (aN .i64 0), (aN .i64 0), aNil, aNil, aNil, aNil])), (1, (oC 27 [(aS v37), (aN .i64 v38), (aN .i64 v39), (.row 8), aNil, (aL 2 encMachUnit v40), aNil])), (2, (oC 97 [(aS v5), (.row 9)])), (3, (oC 97 [(aS v41), (.row 13)])), (8, (oR 100 4 encMachReg v42)), (9, (oR 3 1 (eN .i64) v7)), (13, (oR 3 1 (eN .i64) v43))]⟩) (Ent.trans (nrc (j := 3) (i := 1) (f := (eN .i64)) (sz := 1) (e := 3) 10 z z z) (en [(0, 0), (1, 1), (2, 2), (3, 3), (8, 8), (9, 9), (10, 13)] (ws z z z (ws z z z (ws z z z (ws z z z (wd z (wd z (wd z w0))))))) z (hs z z z (hs z z z (hs z z z (hs z z z (hr z (hr z (hr z h0))))))))) <| ?_
    intro n5 v36 v37 v38 v39 v40 v41 v42 v43 H
    rw [api_givenFlags_b5] at H
    refine sgr z <| l (p_lss z z) z <| ne <| wc_seq <| ?_
    rcases cn H with ⟨b44, H⟩ | ⟨b44, H⟩
    · refine c_t z b44 ?_
      refine se <| wc_seq <| wc_block <| sgr z <| lm z z <| ?_
      obtain ⟨r45, e46, H⟩ := ob H
      refine l (p_ixL Tryz.underlying98 ty_9.size z z e46) z <| l (p_ldP ty_9 z z) z <| la z z <| la z z <| ne <| sgr z <| l (p_fd fld_27_3 z) z <| l (p_ld ty_22 z z z) z <| lm z z <| lm z z <| l (p_rem z z z) z <| lm z z <| l (p_quo z z z) z <| l (p_mul z z) z <| l (p_bd (cs := (encMachReg ((MachReg.mk r45 8 (Int.tmod v36 4) (w64 (8 * (w64 (Int.tdiv v36 4))))))).map .data) pl_100 zr_100 z ⟨q, ⟨q, ⟨q, ⟨q, q⟩⟩⟩⟩ z) z <| l (p_bs (f := encMachReg) [.tmp 51] [(MachReg.mk r45 8 (Int.tmod v36 4) (w64 (8 * (w64 (Int.tdiv v36 4)))))] Tryz.underlying22 ty_100.size zr_100 z z z z (el1 (.agg _) z el0) z) z <| ?_
      obtain ⟨e47, H⟩ := as_ H
      refine lh (p_apA 14 Tryz.underlying22 el_100 z z z z e47) z <| l (p_fd fld_27_3 z) z <| l0h (p_st ty_22 z z z q z z) <| ne <| wc_region z <| l (p_fd fld_97_1 z) z <| l (p_ld ty_29 z z z) z <| lm z z <| l (p_add z z) z <| l (p_bs (f := (eN .i64)) [.tmp 58] [w64 (8 + v36)] Tryz.underlying29 ty_3.size zr_3 z z z z (el1 (.one _) z el0) z) z <| ?_
      obtain ⟨e48, H⟩ := as_ H
      refine lh (p_apA 15 Tryz.underlying29 el_3 z z z z e48) z <| l (p_fd fld_97_1 z) z <| l0h (p_st ty_29 z z z q z z) <| wl_nil <| ?_
      refine e_bn (e_n ?_)
      refine wc_region z <| l (p_add z z) z <| lm z z <| ne <| ?_
      exact ⟨w64 (v36 + 1), v37, v38, v39, v40, v41, v42 ++ [(MachReg.mk r45 8 (Int.tmod v36 4) (w64 (8 * (w64 (Int.tdiv v36 4)))))], v43 ++ [w64 (8 + v36)], H, en [(0, 0), (1, 1), (2, 2), (3, 3), (14, 8), (9, 9), (15, 13)] (ws z z z (ws z z z (ws z z z (ws z z z (wd z (wd z (wd z w0))))))) z (hs z z z (hs z z z (hs z z z (hs z z z (hr z (hr z (hr z h0)))))))⟩
    refine c_f z b44 <| wc_exit <| ?_
    refine e_te (e_te (e_h (e_n ?_)))
    exact ⟨v37, v38, v39, v40, v41, v42, v43, H, en [(0, 0), (1, 1), (2, 2), (3, 3), (8, 8), (9, 9), (13, 13)] (ws z z z (ws z z z (ws z z z (ws z z z w0)))) z (hs z z z (hs z z z (hs z z z (hs z z z (hr z (hr z (hr z h0)))))))⟩
  intro H
  refine sgr z <| l (p_bs (f := eS) [.const (Value.string {data := #[97, 120]}), .const (Value.string {data := #[98, 120]}), .const (Value.string {data := #[99, 120]}), .const (Value.string {data := #[100, 120]}), .const (Value.string {data := #[115, 105]}), .const (Value.string {data := #[100, 105]}), .const (Value.string {data := #[98, 112]}), .const (Value.string {data := #[115, 112]})] [(⟨#[97, 120]⟩ : ByteArray), (⟨#[98, 120]⟩ : ByteArray), (⟨#[99, 120]⟩ : ByteArray), (⟨#[100, 120]⟩ : ByteArray), (⟨#[115, 105]⟩ : ByteArray), (⟨#[100, 105]⟩ : ByteArray), (⟨#[98, 112]⟩ : ByteArray), (⟨#[115, 112]⟩ : ByteArray)] Tryz.underlying98 ty_9.size zr_9 z z z z (el1 (.one _) z (el1 (.one _) z (el1 (.one _) z (el1 (.one _) z (el1 (.one _) z (el1 (.one _) z (el1 (.one _) z (el1 (.one _) z el0)))))))) z) z <| l (p_lenL Tryz.underlying98 z) z <| lm z z <| ne <| wc_block <| w_lp8 H (fun v49 v50 v51 v52 v53 v54 v55 v56 => ⟨[(0, (.ptr 0 0)), (1, (.ptr 1 0)), (2, (.ptr 2 0)), (3, (.ptr 3 0)), (15, (aL 1 eS ([(⟨#[97, 120]⟩ : ByteArray), (⟨#[98, 120]⟩ : ByteArray), (⟨#[99, 120]⟩ : ByteArray), (⟨#[100, 120]⟩ : ByteArray), (⟨#[115, 105]⟩ : ByteArray), (⟨#[100, 105]⟩ : ByteArray), (⟨#[98, 112]⟩ : ByteArray), (⟨#[115, 112]⟩ : ByteArray)]))), (16, (aN .i64 ((([(⟨#[97, 120]⟩ : ByteArray), (⟨#[98, 120]⟩ : ByteArray), (⟨#[99, 120]⟩ : ByteArray), (⟨#[100, 120]⟩ : ByteArray), (⟨#[115, 105]⟩ : ByteArray), (⟨#[100, 105]⟩ : ByteArray), (⟨#[98, 112]⟩ : ByteArray), (⟨#[115, 112]⟩ : ByteArray)]).length : Int)))), (17, (aN .i64 v49))], [(0, (oC 27 [(aS ⟨#[]⟩), (aN .i64 0), (aN .i64 0), aNil, aNil, aNil, aNil])), (1, (oC 27 [(aS v50), (aN .i64 v51), (aN .i64 v52), (.row 8), aNil, (aL 2 encMachUnit v53), aNil])), (2, (oC 97 [(aS v54), (.row 9)])), (3, (oC 97 [(aS (⟨#[98]⟩ : ByteArray)), aNil])), (8, (oR 100 4 encMachReg v55)), (9, (oR 3 1 (eN .i64) v56))]⟩) (Ent.trans (nrc (j := 1) (i := 3) (f := encMachReg) (sz := 4) (e := 100) 4 z z z) (Ent.trans (nrc (j := 2) (i := 1) (f := (eN .i64)) (sz := 1) (e := 3) 5 z z z) (en [(0, 0), (1, 1), (2, 2), (3, 3), (4, 8), (5, 9)] (ws z z z (ws z z z (ws z z z (ws z z z (wd z (wd z (wd z w0))))))) z (hs z z z (hs z z z (hs z z z (hs z z z (hr z (hr z h0))))))))) <| ?_
  intro n6 v49 v50 v51 v52 v53 v54 v55 v56 H
  rw [api_givenFlags_b6] at H
  refine sgr z <| l (p_lss z z) z <| ne <| wc_seq <| ?_
  rcases cn H with ⟨b57, H⟩ | ⟨b57, H⟩
  · refine c_t z b57 ?_
    refine se <| wc_seq <| wc_block <| sgr z <| lm z z <| ?_
    obtain ⟨r58, e59, H⟩ := ob H
    refine l (p_ixL Tryz.underlying98 ty_9.size z z e59) z <| l (p_ldP ty_9 z z) z <| la z z <| la z z <| ne <| sgr z <| l (p_fd fld_27_3 z) z <| l (p_ld ty_22 z z z) z <| lm z z <| l (p_bd (cs := (encMachReg ((MachReg.mk r58 16 (-1) 0))).map .data) pl_100 zr_100 z ⟨q, ⟨q, ⟨q, q⟩⟩⟩ z) z <| l (p_bs (f := encMachReg) [.tmp 25] [(MachReg.mk r58 16 (-1) 0)] Tryz.underlying22 ty_100.size zr_100 z z z z (el1 (.agg _) z el0) z) z <| ?_
    obtain ⟨e60, H⟩ := as_ H
    refine lh (p_apA 10 Tryz.underlying22 el_100 z z z z e60) z <| l (p_fd fld_27_3 z) z <| l0h (p_st ty_22 z z z q z z) <| ne <| wc_region z <| l (p_fd fld_97_1 z) z <| l (p_ld ty_29 z z z) z <| lm z z <| l (p_bs (f := (eN .i64)) [.tmp 31] [v49] Tryz.underlying29 ty_3.size zr_3 z z z z (el1 (.one _) z el0) z) z <| ?_
    obtain ⟨e61, H⟩ := as_ H
    refine lh (p_apA 11 Tryz.underlying29 el_3 z z z z e61) z <| l (p_fd fld_97_1 z) z <| l0h (p_st ty_29 z z z q z z) <| wl_nil <| ?_
    refine e_bn (e_n ?_)
    refine wc_region z <| l (p_add z z) z <| lm z z <| ne <| ?_
    exact ⟨w64 (v49 + 1), v50, v51, v52, v53, v54, v55 ++ [(MachReg.mk r58 16 (-1) 0)], v56 ++ [v49], H, en [(0, 0), (1, 1), (2, 2), (3, 3), (10, 8), (11, 9)] (ws z z z (ws z z z (ws z z z (ws z z z (wd z (wd z (wd z w0))))))) z (hs z z z (hs z z z (hs z z z (hs z z z (hr z (hr z h0))))))⟩
  refine c_f z b57 <| wc_exit <| ?_
  refine e_te (e_te (e_h (e_n ?_)))
  exact ⟨v50, v51, v52, v53, v54, v55, v56, H, en [(0, 0), (1, 1), (2, 2), (3, 3), (8, 8), (9, 9)] (ws z z z (ws z z z (ws z z z (ws z z z w0)))) z (hs z z z (hs z z z (hs z z z (hs z z z (hr z (hr z h0))))))⟩

def api_givenNames_k1 : (List ByteArray) → Option (List ByteArray)
  | v1 =>
    some v1
def api_givenNames_k3 (v2 : Int) (rec2 : Int × (List ByteArray) → Option (List ByteArray)) : (List ByteArray) → Option (List ByteArray)
  | v5 =>
    rec2 ((w64 (v2 + 1), v5))
def api_givenNames_k4 (v2 : Int) (v3 : List ByteArray) (k3 : (List ByteArray) → Option (List ByteArray)) : ByteArray → Option (List ByteArray)
  | v6 =>
    asr (decide (v6.size + (bStr [IntKind.wrap .u8 (w64 (48 + (Int.tmod v2 10)))]).size ≤ 9223372036854775807)) <|
    asr (roomy (v3.length + ([v6 ++ (bStr [IntKind.wrap .u8 (w64 (48 + (Int.tmod v2 10)))])]).length) 16) <|
    k3 (v3 ++ [v6 ++ (bStr [IntKind.wrap .u8 (w64 (48 + (Int.tmod v2 10)))])])
def api_givenNames_b2 (x0 : ByteArray) (x1 : Int) (k1 : (List ByteArray) → Option (List ByteArray)) (rec2 : Int × (List ByteArray) → Option (List ByteArray)) : Int × (List ByteArray) → Option (List ByteArray)
  | (v2, v3) =>
    bif decide (v2 < x1) then
      jn (api_givenNames_k3 v2 rec2) fun k3 =>
      jn (api_givenNames_k4 v2 v3 k3) fun k4 =>
      bif decide (9 < v2) then
        asr (decide (x0.size + (bStr [IntKind.wrap .u8 (w64 (48 + (w64 (Int.tdiv v2 10))))]).size ≤ 9223372036854775807)) <|
        k4 (x0 ++ (bStr [IntKind.wrap .u8 (w64 (48 + (w64 (Int.tdiv v2 10))))]))
      else
        k4 x0
    else
      k1 v3
def api_givenNames (x0 : ByteArray) (x1 : Int) : Option (List ByteArray) :=
  jn api_givenNames_k1 fun k1 =>
  lp (api_givenNames_b2 x0 x1 k1) ((x1).toNat + 1) ((0, ([] : List ByteArray)))
theorem api_givenNames_ok {x0 : ByteArray} {x1 : Int} {R : (List ByteArray)} (H : api_givenNames x0 x1 = some R) : FnOk Tryz.prog K0 45 [(aS x0), (aN .i64 x1)] [(0, .fresh)] (.row 0) [(0, (oR 9 1 eS R))] := by
  refine fn_w (nt := 36) (np := 0) Tryz.func45 z z (by simp) (np_of2 z) <| ?_
  unfold api_givenNames at H
  refine sgr z <| la z z <| ne <| sgr z <| la z z <| ne <| ?_
  refine w_jn1 H (fun v1 => ⟨[(5, (.row 3))], [(3, (oR 9 1 eS v1))]⟩) ?_ ?_
  · intro v1 H
    rw [api_givenNames_k1] at H
    refine sgr z <| lm z z <| la z z <| ne <| wc_ret <| ?_
    obtain rfl := sm H
    exact fin (Or.inr z) (rs1 (rv z) rs0) (re [(3, 0)] (.same z z) z (hr z h0))
  intro H
  refine sgr z <| lm z z <| lm z z <| ne <| wc_block <| w_lp2 H (fun v2 v3 => ⟨[(0, (aS x0)), (5, (.row 3)), (8, (aN .i64 x1)), (9, (aN .i64 v2))], [(3, (oR 9 1 eS v3))]⟩) (Ent.trans (nr (d := 5) (f := eS) (sz := 1) (e := 9) 1 z z z) (en [(1, 3)] (wd z (ws z z z (wd z (wd z w0)))) z (hr z h0))) <| ?_
  intro n2 v2 v3 H
  rw [api_givenNames_b2] at H
  refine sgr z <| l (p_lss z z) z <| ne <| wc_seq <| ?_
  rcases cn H with ⟨b4, H⟩ | ⟨b4, H⟩
  · refine c_t z b4 ?_
    refine se <| ?_
    refine w_jn1 H (fun v5 => ⟨[(0, (aS x0)), (5, (.row 4)), (8, (aN .i64 x1)), (9, (aN .i64 v2))], [(4, (oR 9 1 eS v5))]⟩) ?_ ?_
    · intro v5 H
      rw [api_givenNames_k3] at H
      refine wc_region z <| l (p_add z z) z <| lm z z <| ne <| ?_
      exact ⟨w64 (v2 + 1), v5, H, en [(4, 3)] (wd z (ws z z z (wd z (wd z w0)))) z (hr z h0)⟩
    intro H
    refine wc_block <| sgr z <| lm z z <| la z z <| ne <| sgr z <| lm z z <| la z z <| ne <| ?_
    refine w_jn1 H (fun v6 => ⟨[(0, (aS x0)), (5, (.row 3)), (6, (aN .i64 v2)), (7, (aS v6)), (8, (aN .i64 x1)), (9, (aN .i64 v2))], [(3, (oR 9 1 eS v3))]⟩) ?_ ?_
    · intro v6 H
      rw [api_givenNames_k4] at H
      refine wc_region z <| lm z z <| lm z z <| lm z z <| l (p_rem z z z) z <| l (p_add z z) z <| l (p_cv Tryz.underlying3 Tryz.underlying5 z) z <| l (p_bs (f := (eN .u8)) [.tmp 28] [IntKind.wrap .u8 (w64 (48 + (Int.tmod v2 10)))] Tryz.underlying116 ty_5.size zr_5 z z z z (el1 (.one _) z el0) z) z <| l (p_cvB Tryz.underlying116 Tryz.underlying5 Tryz.underlying9 z) z <| ?_
      obtain ⟨e7, H⟩ := as_ H
      refine l (p_sad z z e7) z <| l (p_bs (f := eS) [.tmp 31] [v6 ++ (bStr [IntKind.wrap .u8 (w64 (48 + (Int.tmod v2 10)))])] Tryz.underlying98 ty_9.size zr_9 z z z z (el1 (.one _) z el0) z) z <| ?_
      obtain ⟨e8, H⟩ := as_ H
      refine lh (p_apA 4 Tryz.underlying98 el_9 z z z z e8) z <| la z z <| wl_nil <| ?_
      refine e_bn (e_n ?_)
      exact ⟨v3 ++ [v6 ++ (bStr [IntKind.wrap .u8 (w64 (48 + (Int.tmod v2 10)))])], H, en [(4, 4)] (wd z (ws z z z (wd z (wd z w0)))) z (hr z h0)⟩
    intro H
    refine sgr z <| lm z z <| l (p_gtr z z) z <| ne <| ?_
    rcases cn H with ⟨b9, H⟩ | ⟨b9, H⟩
    · refine c_t z b9 ?_
      refine wc_region z <| lm z z <| lm z z <| l (p_quo z z z) z <| l (p_add z z) z <| l (p_cv Tryz.underlying3 Tryz.underlying5 z) z <| l (p_bs (f := (eN .u8)) [.tmp 19] [IntKind.wrap .u8 (w64 (48 + (w64 (Int.tdiv v2 10))))] Tryz.underlying116 ty_5.size zr_5 z z z z (el1 (.one _) z el0) z) z <| l (p_cvB Tryz.underlying116 Tryz.underlying5 Tryz.underlying9 z) z <| ?_
      obtain ⟨e10, H⟩ := as_ H
      refine l (p_sad z z e10) z <| la z z <| ne <| ?_
      exact ⟨x0 ++ (bStr [IntKind.wrap .u8 (w64 (48 + (w64 (Int.tdiv v2 10))))]), H, en [(3, 3)] (wd z (ws z z z (wd z (wd z (wd z (wd z w0)))))) z (hr z h0)⟩
    refine c_f z b9 <| se <| ?_
    exact ⟨x0, H, en [(3, 3)] (wd z (ws z z z (wd z (wd z (wd z (wd z w0)))))) z (hr z h0)⟩
  refine c_f z b4 <| wc_exit <| ?_
  refine e_te (e_te (e_h (e_n ?_)))
  exact ⟨v3, H, en [(3, 3)] (ws z z z w0) z (hr z h0)⟩

def api_givenWide_2 (x0 : ByteArray) (x1 : Int) (x2 : Int) : Option MachOperand :=
  (api_givenField x0 1 x1 0 [(MachPiece.mk x2 3)]).bind fun r1 =>
  some r1
theorem api_givenWide_2_ok {x0 : ByteArray} {x1 : Int} {x2 : Int} {R : MachOperand} (H : api_givenWide_2 x0 x1 x2 = some R) : FnOk Tryz.prog K0 47 [(aS x0), (aN .i64 x1), (aN .i64 x2)] [] (aA (encMachOperand R)) [] := by
  refine fn_w (nt := 13) (np := 0) Tryz.func47 z z (by simp) (np_of2 z) <| ?_
  unfold api_givenWide_2 at H
  refine sgr z <| lh (p_al 0 zr_107 z) z <| ne <| sgr z <| lm z z <| lm z z <| lm z z <| l (p_bd (cs := (encMachPiece (MachPiece.mk x2 3)).map .data) pl_110 zr_110 z ⟨q, ⟨q, q⟩⟩ z) z <| l (p_bs (f := encMachPiece) [.tmp 10] [(MachPiece.mk x2 3)] Tryz.underlying105 ty_110.size zr_110 z z z z (el1 (.agg _) z el0) z) z <| ?_
  obtain ⟨r1, e2, H⟩ := ob H
  refine l (p_c (api_givenField_ok e2) ent_48 z z z) z <| l0h (p_stA (ds := (encMachOperand r1).map .data) ty_107 z z z z z z) <| ne <| wc_ret <| ?_
  obtain rfl := sm H
  exact fin (Or.inr z) (rs1 (rva (ds := (encMachOperand r1).map .data) ty_107 z z z z) rs0) (re [] (.adat) z h0)

def api_givenWide_1 (x0 : ByteArray) (x1 : Int) (x2 : Int) (x3 : Int) (x4 : Int) (x5 : List MachOperand) (x6 : List MachEffect) (x7 : ByteArray) (x8 : Int) (x9 : Int) (x10 : List MachReg) (x11 : List MachBank) (x12 : List MachUnit) (x13 : List MachInstr) : Option ((List MachInstr) × ByteArray × Int × Int × (List MachUnit)) :=
  asr (roomy (x13.length + [(MachInstr.mk x0 4278190080 (sShl .u64 (IntKind.wrap .u64 (w64 ((x13.length : Int) + 1))) 24) x5 x6 x1 x2 x3 x4)].length) 112) <|
  some ((x13 ++ [(MachInstr.mk x0 4278190080 (sShl .u64 (IntKind.wrap .u64 (w64 ((x13.length : Int) + 1))) 24) x5 x6 x1 x2 x3 x4)], x7, x8, x9, x12))
theorem api_givenWide_1_ok {x0 : ByteArray} {x1 : Int} {x2 : Int} {x3 : Int} {x4 : Int} {x5 : List MachOperand} {x6 : List MachEffect} {x7 : ByteArray} {x8 : Int} {x9 : Int} {x10 : List MachReg} {x11 : List MachBank} {x12 : List MachUnit} {x13 : List MachInstr} {R : (List MachInstr) × ByteArray × Int × Int × (List MachUnit)} (H : api_givenWide_1 x0 x1 x2 x3 x4 x5 x6 x7 x8 x9 x10 x11 x12 x13 = some R) : FnOk Tryz.prog K0 46 [(aS x0), (aN .i64 x1), (aN .i64 x2), (aN .i64 x3), (aN .i64 x4), (aL 6 encMachOperand x5), (aL 21 encMachEffect x6), (.ptr 0 0)] [(0, (oC 27 [(aS x7), (aN .i64 x8), (aN .i64 x9), (.row 1), (.row 2), (aL 2 encMachUnit x12), (.row 3)])), (1, (oR 100 4 encMachReg x10)), (2, (oT 97 2 tencMachBank x11)), (3, (oR 61 9 encMachInstr x13)), (4, .fresh)] (.tup []) [(0, (oC 27 [(aS R.2.1), (aN .i64 R.2.2.1), (aN .i64 R.2.2.2.1), (.row 1), (.row 2), (aL 2 encMachUnit R.2.2.2.2), (.row 4)])), (1, (oR 100 4 encMachReg x10)), (2, (oT 97 2 tencMachBank x11)), (3, .dead), (4, (oR 61 9 encMachInstr R.1))] := by
  refine fn_w (nt := 38) (np := 4) Tryz.func46 z z (by simp) (np_of2 z) <| ?_
  unfold api_givenWide_1 at H
  refine sgr z <| l (p_fd fld_27_6 z) z <| l (p_ld ty_25 z z z) z <| l (p_lenR Tryz.underlying25 z z) z <| la z z <| ne <| sgr z <| lm z z <| lm z z <| l (p_add z z) z <| l (p_cv Tryz.underlying3 Tryz.underlying57 z) z <| l (p_shl z z z) z <| lm z z <| lm z z <| lm z z <| lm z z <| lm z z <| lm z z <| l (p_bd (cs := (encMachInstr ((MachInstr.mk x0 4278190080 (sShl .u64 (IntKind.wrap .u64 (w64 ((x13.length : Int) + 1))) 24) x5 x6 x1 x2 x3 x4))).map .data) pl_61 zr_61 z ⟨q, ⟨q, ⟨q, ⟨q, ⟨q, ⟨q, ⟨q, ⟨q, ⟨q, q⟩⟩⟩⟩⟩⟩⟩⟩⟩ z) z <| lh (p_al 5 zr_61 z) z <| l0h (p_stA (ds := (encMachInstr ((MachInstr.mk x0 4278190080 (sShl .u64 (IntKind.wrap .u64 (w64 ((x13.length : Int) + 1))) 24) x5 x6 x1 x2 x3 x4))).map .data) ty_61 z z z z z z) <| ne <| wc_region z <| l (p_fd fld_27_6 z) z <| l (p_ld ty_25 z z z) z <| l (p_ldB (ds := (encMachInstr ((MachInstr.mk x0 4278190080 (sShl .u64 (IntKind.wrap .u64 (w64 ((x13.length : Int) + 1))) 24) x5 x6 x1 x2 x3 x4))).map .data) ty_61 z z z z) z <| l (p_bs (f := encMachInstr) [.tmp 34] [(MachInstr.mk x0 4278190080 (sShl .u64 (IntKind.wrap .u64 (w64 ((x13.length : Int) + 1))) 24) x5 x6 x1 x2 x3 x4)] Tryz.underlying25 ty_61.size zr_61 z z z z (el1 (.agg _) z el0) z) z <| ?_
  obtain ⟨e1, H⟩ := as_ H
  refine lh (p_apA 6 Tryz.underlying25 el_61 z z z z e1) z <| l (p_fd fld_27_6 z) z <| l0h (p_st ty_25 z z z q z z) <| wl_nil <| ?_
  obtain rfl := sm H
  exact fin (Or.inl z) rs0 (re2 [(0, 0), (1, 1), (2, 2), (3, 3), (6, 4)] q z (hs z z z (hr z (ht (Tame.flat tmMachBank _) z (hx (hr z h0))))))

end Go.Proofs.YtgmpgoafokdcbaaGreatDoor.Sx
