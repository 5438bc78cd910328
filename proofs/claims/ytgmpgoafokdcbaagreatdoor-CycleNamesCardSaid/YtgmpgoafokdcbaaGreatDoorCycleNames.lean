/- Proved here: the law CycleNames (its card) over the given program; no condition. -/
import Derived.Test.YtgmpgoafokdcbaaGreatDoorCards
import Derived.Test.YtgmpgoafokdcbaaGreatDoorTie
import Derived.WalkKit
import Derived.ProofKit
import Derived.OpenShut
import Derived.Deep.DeepHandedRow
import Derived.Lib.LaidTab
import Derived.Test.YtgmpgoafokdcbaaGreatDoorO3
import Derived.Test.YtgmpgoafokdcbaaGreatDoorSyq
set_option maxRecDepth 1000000
set_option maxHeartbeats 4000000
namespace Go.Proofs.YtgmpgoafokdcbaaGreatDoor.cycleNamesLaw
open Go Go.ChangeShapes Go.WideShapes Go.ChangeAt Go.RowKit Go.Proofs.YtgmpgoafokdcbaaGreatDoor.Sx

theorem own : ownKnob Tryz.prog.godebug = none := by kernel_rfl
theorem isTrue : retargetlaw16_CycleNames = some true := by kernel_rfl
def rows : List (List UInt8 × Int × Int) := tab0.map fun x => (x.word.data.toList, x.parts, x.how)
theorem table {W : World} (h : laidMetH Tryz.prog Rows.cycleNamesRow.laid W) : ∀ i ds, K0 i = some ds → cellsAt (allF W) ⟨i, 0, none⟩ ds := by
  intro i ds hi
  have key : cellsAt (allF W) ⟨0, 0, none⟩ (tab0.flatMap encterm_shape) :=
    tab_at (l := rows) (rest := []) (show Tryz.prog.globalNamed "retarget/term.shapes" = some 0 by kernel_rfl) (show (Tryz.prog.globals[0]?).map (·.type) = some 210 by kernel_rfl) Tryz.underlying210 Tryz.underlying205 rfl Tryz.underlying9 Tryz.underlying3
      (show Tryz.prog.cellsOf 205 = 3 by kernel_rfl) (show Tryz.prog.cellsOf 9 = 1 by kernel_rfl) (show Tryz.prog.cellsOf 3 = 1 by kernel_rfl) h rfl rfl
  unfold K0 at hi
  cases hb : Nat.beq i 0 with
  | false => rw [hb] at hi; cases hi
  | true =>
    rw [hb] at hi
    cases hi
    rw [Nat.eq_of_beq_eq_true hb]
    exact key
theorem contract (H : Type) (enc : TypeId × Value → H) (W : World) (args : Array Value) (ds gs : List (DataW H)) (before : List MemPlace)
    (hW : DataW.Whole enc Tryz.prog Tryz.f3.params.toList Rows.cycleNamesSpec.vars false W args.toList ds gs before) (hL : laidMetH Tryz.prog Rows.cycleNamesRow.laid W) :
    Calls Tryz.prog 3 args W fun e W' => ∃ v, e = .returned v ∧ Rows.cycleNamesSpec.post enc Tryz.prog Tryz.f3 false true false false W args v W' := by
  have hW' := hW
  obtain ⟨p, q, hA0, hV, rfl, hfz, hnd⟩ := hW
  have hA : DataW.TrodAll enc Tryz.prog W 0 (fun _ => true) true Tryz.f3.params.toList args.toList ds p := hA0
  rw [Tryz.params3] at hA
  obtain ⟨ha, rfl, rfl⟩ := trodAll_nil hA
  obtain rfl : args = #[] := by cases args; simp_all
  obtain ⟨rfl, rfl⟩ := trodVars_none hV
  refine (fn_law (retargetlaw16_CycleNames_ok isTrue) (table hL) rfl).mono ?_
  rintro e W' ⟨rfl, hx⟩
  exact ⟨_, rfl, post_law (pa := []) (pv := []) hW' (fun _ _ _ => trodAll_cons_mk (shut_bool Tryz.underlying4 _) trodAll_mk0) (by rw [Tryz.params3]; exact trodAll_mk0) rfl hx⟩
def cells : Array Value := (tab0.flatMap fun x => [.string x.word, .int .i64 x.parts, .int .i64 x.how]).toArray
noncomputable def laidWorld (os : Os) : World :=
  { World.holding Tryz.prog os ⟨#[], #[], []⟩ with heap := (World.holding Tryz.prog os ⟨#[], #[], []⟩).heap.modify 0 fun
      | .cells _ t frozen => .cells cells t frozen
      | o => o }
theorem laid_met (os : Os) : laidMet Tryz.prog Rows.cycleNamesRow.laid ((laidWorld os).forCall (fun _ _ => 0) ⟨#[], #[], []⟩).memory :=
  laidMet_of_run' 8 (by kernel_rfl) (by kernel_rfl)
theorem reads (os : Os) {H : Type} (enc : TypeId × Value → H) : ∃ places, DataW.whole enc Tryz.prog ((laidWorld os).forCall (fun _ _ => 0) ⟨#[], #[], []⟩).memory Tryz.f3.params.toList Rows.cycleNamesSpec.vars false (#[] : Array Value).toList 8 = some ([], [], places) :=
  ⟨[], by kernel_rfl⟩
theorem lifted (os : Os) (started : os.Started) (H : Type) (enc : TypeId × Value → H) (F : Stop.Interp) :
    ReturnsInHanded {} Tryz.checked os 3 .any ((OpenSpec.ofChange Rows.cycleNamesSpec).preRow enc Tryz.prog Tryz.f3 Rows.cycleNamesRow.domain false Rows.cycleNamesRow.laid) (((OpenSpec.ofChange Rows.cycleNamesSpec).at F).post enc Tryz.prog Tryz.f3 false true false false) := by
  obtain ⟨places, hx⟩ := reads os enc
  refine returnsInHanded_of_row (C := Tryz.checked) (s := OpenSpec.ofChange Rows.cycleNamesSpec) own started (by kernel_rfl) Tryz.func3
    (witness_row_at (enc := enc) (C := Tryz.checked) false (laidWorld os) #[] rfl (by kernel_rfl) (by kernel_rfl) (by kernel_rfl)
      (OpenSpec.preRow_of_cond 8 hx (by kernel_rfl) (fun k hk => by cases hk) (by kernel_rfl) (laid_met os))) ?_
  intro W base args ds gs before hval hW _ _ _ hL _ _
  exact contract H enc W args ds gs before hW hL
theorem said : Rows.CycleNamesSaid :=
  OpenClaim.holds_of_cond 3 Tryz.f3 rfl rfl rfl rfl rfl rfl rfl ⟨rfl, rfl, rfl, rfl, rfl⟩ rfl rfl rfl rfl rfl (by kernel_rfl) Tryz.func3 (by kernel_rfl)
    (of_decide_eq_true (by kernel_rfl)) (by unfold Func.isWrapper; first | (rw [if_pos (by decide +kernel)]; kernel_rfl) | (rw [if_neg (by decide +kernel)]; exact ⟨rfl, rfl⟩))
    (fun os started H enc _ F => by rw [OpenClaim.pre_eq_preRow]; exact lifted os started H enc F)
theorem plain (f : FuncId) (fn : Func) (hf : Tryz.pinned.checked.prog.funcNamed "retarget/retargetlaw16.CycleNames" = some f) (hfn : Tryz.pinned.checked.prog.funcs[f]? = some fn) :
    false = Tryz.pinned.checked.prog.looks [] ∧ ∀ (j : Nat) t, fn.params[j]? = some t → Tryz.pinned.checked.prog.wantsStandIn t = false := by
  obtain rfl : f = 3 := Option.some.inj ((show Tryz.prog.funcNamed "retarget/retargetlaw16.CycleNames" = some 3 by kernel_rfl).symm.trans hf) |>.symm
  obtain rfl : fn = Tryz.f3 := (Option.some.inj (Tryz.func3.symm.trans hfn)).symm
  refine ⟨by kernel_rfl, fun j t ht => ?_⟩
  rw [Tryz.params3] at ht
  simp at ht
theorem card : Rows.CycleNamesCardSaid :=
  Claim7.holds_tied_plain_at .later [] _ _ _ _ said (fun _ h => by cases h) (by kernel_rfl) (fun _ h => by cases h) cycleNames_row_tie rfl ⟨rfl, rfl⟩ (by kernel_rfl) rfl plain (by kernel_rfl)
end Go.Proofs.YtgmpgoafokdcbaaGreatDoor.cycleNamesLaw
