/- Proved here: the law CycleSteps (its card) over the given program; no condition. -/
import Derived.Test.YtgmpgoafokdcbaaGreatDoorCards
import Derived.Test.YtgmpgoafokdcbaaGreatDoorTie
import Derived.WalkKit
import Derived.ProofKit
import Derived.OpenShut
import Derived.Carry
import Derived.ReadAgain
import Derived.Deep.DeepHandedRow
import Derived.Lib.LaidTab
import Derived.Test.YtgmpgoafokdcbaaGreatDoorSde
import Derived.Test.YtgmpgoafokdcbaaGreatDoorPpq
import Derived.Test.YtgmpgoafokdcbaaGreatDoorO2
set_option maxRecDepth 1000000
set_option maxHeartbeats 4000000
namespace Go.Proofs.YtgmpgoafokdcbaaGreatDoor.cycleStepsLaw
open Go Go.ChangeShapes Go.WideShapes Go.ChangeAt Go.RowKit Go.Proofs.YtgmpgoafokdcbaaGreatDoor.Sx

theorem goodT {t : Term} (h : gTerm t) : GoodT t := by
  have key : ∀ n (t : Term), rankTerm t ≤ n → gTerm t → GoodT t := by
    intro n
    induction n with
    | zero => intro t h; have := rk_pos t; omega
    | succ n ih =>
      intro t hr h
      rw [gTerm, allT_X] at h
      rw [GoodT, allT_X]
      obtain ⟨⟨⟨k1, k2⟩, _, _, nm, _, ln⟩, hs⟩ := h
      refine ⟨⟨ln, k1, k2, nm⟩, fun x hx => ih x (by have := rk_sub hx; omega) (hs x hx)⟩
  exact key _ t (Nat.le_refl _) h
theorem good_of {M : Sx.Machine} (h : gMachine M) : GoodM M := by
  obtain ⟨_, _, _, _, h5, _, h7⟩ := h
  refine ⟨h5.1, h7.1, fun s hs => ?_, fun s hs x hx => ?_, fun s hs => ?_⟩
  · exact (h7.2 s hs).2.2.2.1.1
  · have := (h7.2 s hs).2.2.2.2.1.2 x hx
    exact ⟨goodT this.2.2.2.1, goodT this.2.2.2.2.1, goodT this.2.2.2.2.2⟩
  · exact (h7.2 s hs).2.2.2.2.1.1
theorem isTrue {x0 : Sx.Machine} {x1 : List MachOp} (h0 : gMachine x0) (h1 : x1.length ≤ maxLen ∧ ∀ a ∈ x1, gMachOp a) : retargetlaw16_CycleSteps x0 x1 = some true := CycleSteps_true (good_of h0) x1 h1.1

theorem own : ownKnob Tryz.prog.godebug = none := by kernel_rfl
def rows : List (List UInt8 × Int × Int) := tab0.map fun x => (x.word.data.toList, x.parts, x.how)
theorem table {W : World} (h : laidMetH Tryz.prog Rows.cycleStepsRow.laid W) : ∀ i ds, K0 i = some ds → cellsAt (allF W) ⟨i, 0, none⟩ ds := by
  intro i ds hi
  have key : cellsAt (allF W) ⟨0, 0, none⟩ (tab0.flatMap encterm_shape) :=
    tab_at (l := rows) (rest := []) (show Tryz.prog.globalNamed "retarget/term.shapes" = some 0 by kernel_rfl) (show (Tryz.prog.globals[0]?).map (·.type) = some 210 by kernel_rfl) Tryz.underlying210 Tryz.underlying205 rfl Tryz.underlying9 Tryz.underlying3
      (show Tryz.prog.cellsOf 205 = 3 by kernel_rfl) (show Tryz.prog.cellsOf 9 = 1 by kernel_rfl) (show Tryz.prog.cellsOf 3 = 1 by kernel_rfl) h rfl rfl
  unfold K0 at hi
  cases hb : Nat.beq i 0 with
  | false => rw [hb] at hi; cases hi
  | true =>
    rw [hb] at hi
    cases hi
    rw [Nat.eq_of_beq_eq_true hb]
    exact key
theorem kids : Kids Tryz.prog (· < Tryz.prog.types.size) := kids_rows (by kernel_rfl) (by kernel_rfl)
theorem full : ∀ t e, t < Tryz.prog.types.size → Tryz.prog.underlying t = some (.slice e) → 0 < Tryz.prog.cellsOf e := slices_full_of Tryz.prog (by kernel_rfl)
theorem inTable : ∀ t ∈ [27, 46], t < Tryz.prog.types.size := by
  intro t ht
  simp only [List.mem_cons, List.not_mem_nil, or_false] at ht
  rcases ht with rfl | rfl <;> exact of_decide_eq_true (by kernel_rfl)
theorem contract (H : Type) (enc : TypeId × Value → H) (W : World) (base : Nat) (args : Array Value) (ds gs : List (DataW H)) (before : List MemPlace)
    (hval : ∀ (j : Nat) t v, Tryz.f6.params[j]? = some t → args[j]? = some v → Value.okWide Tryz.prog W .any base t v)
    (hW : DataW.Whole enc Tryz.prog Tryz.f6.params.toList Rows.cycleStepsSpec.vars false W args.toList ds gs before) (hL : laidMetH Tryz.prog Rows.cycleStepsRow.laid W) :
    Calls Tryz.prog 6 args W fun e W' => ∃ v, e = .returned v ∧ Rows.cycleStepsSpec.post enc Tryz.prog Tryz.f6 false true false false W args v W' := by
  have hW' := hW
  obtain ⟨p, q, hA0, hV, rfl, hfz, hnd⟩ := hW
  have hA : DataW.TrodAll enc Tryz.prog W 0 (fun _ => true) true Tryz.f6.params.toList args.toList ds p := hA0
  rw [Tryz.params6] at hA hval
  have hB := hA
  obtain ⟨v0, v1, d0, d1, p0, p1, rfl, rfl, rfl, h0, h1⟩ := trodAll_two hA
  obtain ⟨rfl, rfl⟩ := trodVars_none hV
  obtain ⟨a0, k0, g0⟩ := rel_agg Tryz.underlying27 (hval 0 27 v0 rfl rfl) h0 (fun n => dec_Machine n)
  obtain ⟨a1, k1, g1⟩ := rel_slice Tryz.underlying46 (hval 1 46 v1 rfl rfl) h1 (fun n => (dec_slice (f := encMachOp) Tryz.underlying46 2 (by kernel_rfl) (fun _ => rfl) (fun m _ => dec_MachOp m)))
  refine (fn_law (retargetlaw16_CycleSteps_ok (isTrue g0 g1)) (table hL) ⟨_, _, rfl, k0, ⟨_, _, rfl, k1, rfl⟩⟩).mono ?_
  rintro e W' ⟨rfl, hx⟩
  exact ⟨_, rfl, post_law (pv := []) hW' (fun _ _ _ => trodAll_cons_mk (shut_bool Tryz.underlying4 _) trodAll_mk0) (by rw [Tryz.params6]; exact trodAll_back kids (fun h k => full _ _ h k) inTable hB hx) rfl hx⟩
def cells : Array Value := (tab0.flatMap fun x => [.string x.word, .int .i64 x.parts, .int .i64 x.how]).toArray
noncomputable def laidWorld (os : Os) : World :=
  { World.holding Tryz.prog os ⟨#[], #[], []⟩ with heap := (World.holding Tryz.prog os ⟨#[], #[], []⟩).heap.modify 0 fun
      | .cells _ t frozen => .cells cells t frozen
      | o => o }
def zargs : Array Value := #[(.agg #[.string ⟨#[]⟩, .int .i64 0, .int .i64 0, .slice none 0 0, .slice none 0 0, .slice none 0 0, .slice none 0 0] : Value), .slice none 0 0]
theorem laid_met (os : Os) : laidMet Tryz.prog Rows.cycleStepsRow.laid ((laidWorld os).forCall (fun _ _ => 0) ⟨#[], zargs, []⟩).memory :=
  laidMet_of_run' 8 (by kernel_rfl) (by kernel_rfl)
theorem reads (os : Os) {H : Type} (enc : TypeId × Value → H) : ∃ places, DataW.whole enc Tryz.prog ((laidWorld os).forCall (fun _ _ => 0) ⟨#[], zargs, []⟩).memory Tryz.f6.params.toList Rows.cycleStepsSpec.vars false zargs.toList 8 = some ([.agg [.lit (.string []), .lit (.int .i64 0), .lit (.int .i64 0), .nil, .nil, .nil, .nil], .nil], [], places) :=
  ⟨[], by kernel_rfl⟩
theorem lifted (os : Os) (started : os.Started) (H : Type) (enc : TypeId × Value → H) (F : Stop.Interp) :
    ReturnsInHanded {} Tryz.checked os 6 .any ((OpenSpec.ofChange Rows.cycleStepsSpec).preRow enc Tryz.prog Tryz.f6 Rows.cycleStepsRow.domain false Rows.cycleStepsRow.laid) (((OpenSpec.ofChange Rows.cycleStepsSpec).at F).post enc Tryz.prog Tryz.f6 false true false false) := by
  obtain ⟨places, hx⟩ := reads os enc
  refine returnsInHanded_of_row (C := Tryz.checked) (s := OpenSpec.ofChange Rows.cycleStepsSpec) own started (by kernel_rfl) Tryz.func6
    (witness_row_at (enc := enc) (C := Tryz.checked) false (laidWorld os) zargs rfl (by kernel_rfl) (by kernel_rfl) (by kernel_rfl)
      (OpenSpec.preRow_of_cond 8 hx (by kernel_rfl) (fun k hk => by cases hk) (by kernel_rfl) (laid_met os))) ?_
  intro W base args ds gs before hval hW _ _ _ hL _ _
  exact contract H enc W base args ds gs before hval hW hL
theorem said : Rows.CycleStepsSaid :=
  OpenClaim.holds_of_cond 6 Tryz.f6 rfl rfl rfl rfl rfl rfl rfl ⟨rfl, rfl, rfl, rfl, rfl⟩ rfl rfl rfl rfl rfl (by kernel_rfl) Tryz.func6 (by kernel_rfl)
    (of_decide_eq_true (by kernel_rfl)) (by unfold Func.isWrapper; first | (rw [if_pos (by decide +kernel)]; kernel_rfl) | (rw [if_neg (by decide +kernel)]; exact ⟨rfl, rfl⟩))
    (fun os started H enc _ F => by rw [OpenClaim.pre_eq_preRow]; exact lifted os started H enc F)
theorem plain (f : FuncId) (fn : Func) (hf : Tryz.pinned.checked.prog.funcNamed "retarget/retargetlaw16.CycleSteps" = some f) (hfn : Tryz.pinned.checked.prog.funcs[f]? = some fn) :
    false = Tryz.pinned.checked.prog.looks [] ∧ ∀ (j : Nat) t, fn.params[j]? = some t → Tryz.pinned.checked.prog.wantsStandIn t = false := by
  obtain rfl : f = 6 := Option.some.inj ((show Tryz.prog.funcNamed "retarget/retargetlaw16.CycleSteps" = some 6 by kernel_rfl).symm.trans hf) |>.symm
  obtain rfl : fn = Tryz.f6 := (Option.some.inj (Tryz.func6.symm.trans hfn)).symm
  refine ⟨by kernel_rfl, fun j t ht => ?_⟩
  rw [Tryz.params6] at ht
  have ht := Array.mem_of_getElem? ht
  simp only [List.mem_toArray, List.mem_cons, List.not_mem_nil, or_false] at ht
  rcases ht with rfl | rfl
  · exact (show Tryz.prog.wantsStandIn 27 = false by kernel_rfl)
  · exact (show Tryz.prog.wantsStandIn 46 = false by kernel_rfl)
theorem card : Rows.CycleStepsCardSaid :=
  Claim7.holds_tied_plain_at .later [] _ _ _ _ said (fun _ h => by cases h) (by kernel_rfl) (fun _ h => by cases h) cycleSteps_row_tie rfl ⟨rfl, rfl⟩ (by kernel_rfl) rfl plain (by kernel_rfl)
end Go.Proofs.YtgmpgoafokdcbaaGreatDoor.cycleStepsLaw
