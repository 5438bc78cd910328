/- The walk's words, part 9: literals that are own rows; several small ones. -/
import Derived.Test.YtgmpgoafokdcbaaGreatDoorSyh
set_option linter.unusedVariables false
set_option linter.unusedSectionVars false
namespace Go.Proofs.YtgmpgoafokdcbaaGreatDoor.Sx
open Go Go.RowKit
variable {P : Program} {K : GL}
def allCS (sz : Nat) : List AV → Prop
  | [] => True
  | v :: vs => cellAV v ∧ Nat.beq (CV v).length sz = true ∧ allCS sz vs
theorem allCS_mem {sz : Nat} : ∀ {vs : List AV}, allCS sz vs → ∀ v ∈ vs, cellAV v ∧ (CV v).length = sz
  | [], _, _, hm => by cases hm
  | _ :: _, h, v, hm => by
    rcases List.mem_cons.1 hm with rfl | hm
    · exact ⟨h.1, Nat.eq_of_beq_eq_true h.2.1⟩
    · exact allCS_mem h.2.2 v hm
theorem cs0 {sz : Nat} : allCS sz [] := trivial
theorem cs1 {sz : Nat} {v : AV} {vs : List AV} (h : cellAV v) (hl : Nat.beq (CV v).length sz = true) (k : allCS sz vs) : allCS sz (v :: vs) := ⟨h, hl, k⟩
section
variable {dst : Option Tmp} {ty : TypeId} {pos : String} {after : Array Edge} {g : Option (Nat × Bool)} {t : List (Nat × AV)} {h : List (Nat × HS)}
theorem p_bsO {α : Type} {f : α → List D} {u e : TypeId} {sz nn : Nat} {zs : List Value} (k : Nat) (xs : List Operand) (l : List α) {vs : List AV} {parts : Array (Nat × Operand)} (ht : P.underlying u = some (.slice e)) (hs : ∀ w, (sizeOf e).run P w = .ok sz w) (hz : Zr P e zs) (hp0 : Nat.blt 0 sz = true)
    (hpa : parts = partsOf xs) (hn : nn = xs.length) (hv : rds t xs = some vs) (hc : allCS sz vs) (hl : vs.flatMap CV = rowC f l) (hnl : l.length = nn) (hm : Nat.ble (nn * sz) 16777216 = true) (hf : hp h k = none) :
    SA P K t h ⟨dst, .buildSlice u nn parts, ty, pos, after, g⟩ (rdOs xs vs) [(k, .fresh)] (.row k) [(k, oR e sz f l)] :=
  p_bsR k xs l ht hs hz hp0 hpa hn hv (allCS_mem hc) hl hnl hm hf
theorem el1X {α : Type} {f : α → List D} {x : α} {sz : Nat} {v : AV} {c : List D} {vs : List AV} {cs : List (List D)} (hf : f x = c) (h : EL v c) (hl : c.length = sz) (k : ELs sz vs cs) : ELs sz (v :: vs) (f x :: cs) := by
  subst hf
  exact ⟨h, hl, k⟩
end
end Go.Proofs.YtgmpgoafokdcbaaGreatDoor.Sx
