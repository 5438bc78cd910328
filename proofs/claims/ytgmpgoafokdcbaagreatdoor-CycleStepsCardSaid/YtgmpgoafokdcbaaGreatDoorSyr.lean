/- Words for what comes often in a walk. -/
import Derived.Test.YtgmpgoafokdcbaaGreatDoorSyp
set_option linter.unusedVariables false
namespace Go.Proofs.YtgmpgoafokdcbaaGreatDoor.Sx
open Go Go.RowKit
variable {P : Program} {K : GL}
theorem z {α : Type} {a : α} : a = a := rfl
theorem q : True := trivial
section
variable {nt np : Nat} {s : St} {Q : Exit → St → Prop} {R : St → Prop} {y : Code}
theorem sgr {id : Nat} {l : List Oper} (hnd : noDefer l = true) (h : WL P K nt np l.toArray l s (thenQ (fun s' => WC P K nt np y s' Q) Q)) : WC P K nt np (.seq (.region id l.toArray false) y) s Q := wc_seq (wc_region hnd h)
theorem ne {ops : Array Oper} (h : R s) : WL P K nt np ops [] s (thenQ R Q) := wl_nil (e_n h)
theorem se (h : R s) : WC P K nt np .skip s (thenQ R Q) := wc_skip (e_n h)
end
section
variable {d : Tmp} {ty : TypeId} {pos : String} {after : Array Edge} {t : List (Nat × AV)} {h : List (Nat × HS)} {ops : Array Oper} {rest full : List Oper} {nt np : Nat} {Q : Exit → St → Prop} {B : List Nat} {pre : List AD} {x : Operand} {v : AV}
theorem lm (hx : rd t x = some v) (hd : Nat.blt d nt = true) (k : WL P K nt np ops rest ⟨(d, v) :: t, h⟩ Q) : WL P K nt np ops (⟨some d, .move x, ty, pos, after, none⟩ :: rest) ⟨t, h⟩ Q := l (p_mv hx) hd k
theorem la (hx : rd t x = some v) (hd : Nat.blt d nt = true) (k : WL P K nt np ops rest ⟨(d, v) :: t, h⟩ Q) : WL P K nt np ops (⟨some d, .assign x, ty, pos, after, none⟩ :: rest) ⟨t, h⟩ Q := l (p_as hx) hd k
theorem dm (hx : rd t x = some v) (hd : Nat.blt d nt = true) (k : WD P K nt B full (pre ++ [⟨rdO x v, [], v, []⟩]) rest ⟨(d, v) :: t, h⟩ Q) : WD P K nt B full pre (⟨some d, .move x, ty, pos, after, none⟩ :: rest) ⟨t, h⟩ Q := dr (p_mv hx) hd k
theorem da (hx : rd t x = some v) (hd : Nat.blt d nt = true) (k : WD P K nt B full (pre ++ [⟨rdO x v, [], v, []⟩]) rest ⟨(d, v) :: t, h⟩ Q) : WD P K nt B full pre (⟨some d, .assign x, ty, pos, after, none⟩ :: rest) ⟨t, h⟩ Q := dr (p_as hx) hd k
end
end Go.Proofs.YtgmpgoafokdcbaaGreatDoor.Sx
