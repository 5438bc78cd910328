/- A slice that is compared with nil. -/
import Derived.Test.YtgmpgoafokdcbaaGreatDoorSyk
set_option linter.unusedVariables false
namespace Go.Proofs.YtgmpgoafokdcbaaGreatDoor.Sx
open Go Go.RowKit
variable {P : Program} {K : GL}
def D.bit {α : Type} (m : List α) : D := ⟨fun _ v => ∃ b, v = .bool b ∧ (b = true → m = []), fun _ h => h, fun ⟨_, e, _⟩ => by rw [e]; rfl⟩
theorem c_any {α : Type} {m : List α} {nt np : Nat} {t : List (Nat × AV)} {h : List (Nat × HS)} {Q : Exit → St → Prop} {x y : Code} {i : Nat} (hi : lk t i = some (.data (D.bit m))) (kx : m = [] → WC P K nt np x ⟨t, h⟩ Q) (ky : WC P K nt np y ⟨t, h⟩ Q) : WC P K nt np (.cond (.tmp i) x y) ⟨t, h⟩ Q := by
  intro C h1 h2 h3 r a w hs
  obtain ⟨E, hO, hR⟩ := hs.ex
  have := hR i
  rw [lk_lk hi] at this
  obtain ⟨b, hb, hm⟩ := this
  exact wpIn_cond_split (t := b) hb (fun e => kx (hm e) C h1 h2 h3 r a w hs) (fun e => ky C h1 h2 h3 r a w hs)
section
variable {dst : Option Tmp} {ty : TypeId} {pos : String} {after : Array Edge} {g : Option (Nat × Bool)} {t : List (Nat × AV)} {h : List (Nat × HS)}
theorem p_nq {α : Type} {f : α → List D} {m : List α} {u e v : TypeId} {sz : Nat} {x y : Operand} (ht : P.underlying u = some (.slice e)) (hx : rd t x = some (aL sz f m)) (hy : rd t y = some aNil) :
    SA P K t h ⟨dst, .binOp .eql u x y v, ty, pos, after, g⟩ (rdO x (aL sz f m) ++ rdO y aNil) [] (.data (D.bit m)) [] := .pv2 hx hy fun a b => by
  intro E ac w _ _ hT _
  rw [relT_append] at hT
  obtain ⟨A, cap, e1, _, _, hA⟩ := rdO_rel hT.1 a
  rw [List.length_map] at e1
  have e2 := lit_eq (rdO_rel hT.2 b)
  refine ⟨.bool A.isNone, ?_, _, rfl, fun hn => by
    by_cases hm : m = []
    · exact hm
    · obtain ⟨ad, h1, _⟩ := hA (by simpa using hm)
      rw [h1] at hn
      cases hn⟩
  simp only [execOp, e1, e2, Sem.run_bind]
  have h1 : (eqGuard .eql u x y (.slice A m.length cap) (.slice none 0 0)).run P w = .ok () w := rfl
  rw [h1]
  have h2 : (Op.equal u (.slice A m.length cap) (.slice none 0 0)).run P w = .ok A.isNone w := by
    have : ∀ n, (Op.equalIn (n + 1) u (.slice A m.length cap) (.slice none 0 0)).run P w = .ok A.isNone w := fun n => by cases A <;> simp [Op.equalIn, run_underlying ht]
    exact this 9999
  simp [binOp, Sem.run_bind, h2]
end
end Go.Proofs.YtgmpgoafokdcbaaGreatDoor.Sx
