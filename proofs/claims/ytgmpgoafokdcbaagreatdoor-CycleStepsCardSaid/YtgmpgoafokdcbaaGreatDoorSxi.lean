/- Part 9 of the small logic: more operations; exits. -/
import Derived.Test.YtgmpgoafokdcbaaGreatDoorSxh
set_option linter.unusedVariables false
namespace Go.Proofs.YtgmpgoafokdcbaaGreatDoor.Sx
open Go Go.RowKit
variable {P : Program} {K : GL}
section
variable {dst : Option Tmp} {ty : TypeId} {pos : String} {after : Array Edge} {g : Option (Nat × Bool)}
def OVw (x : Operand) (y : AV) : Prop := match x with
  | .tmp _ => True
  | .const c => c.oneCell' = true ∧ y = .data (.lit c)
  | _ => False
theorem OVw.rel {E : Env} {a : Act} {x : Operand} {v : AV} (h : relT E a (rdO x v)) (hv : OVw x v) : Rel E v (a.eval x) := by
  cases x with
  | tmp i => exact h.1
  | const c =>
    obtain ⟨h1, rfl⟩ := hv
    exact ⟨rfl, h1⟩
  | func f => exact absurd hv id
  | global g => exact absurd hv id
theorem pv_pick3 {c x y : Operand} {e p q : Bool} {ax ay : AV} (hc : OV c (.data (.lit (.bool e)))) (hx : OVw x ax) (hy : OVw y ay) (sx : Strip e ax (.data (.lit (.bool p)))) (sy : Strip (!e) ay (.data (.lit (.bool q)))) :
    PV P K ⟨dst, .pick c x y, ty, pos, after, g⟩ (rdO c (.data (.lit (.bool e))) ++ (rdO x ax ++ rdO y ay)) [] (.data (.lit (.bool (if e then p else q)))) := by
  intro E a w _ _ hT _
  rw [relT_append, relT_append] at hT
  have h1 := lit_eq (rdO_rel hT.1 hc)
  have h2 := OVw.rel hT.2.1 hx
  have h3 := OVw.rel hT.2.2 hy
  cases e with
  | true => exact ⟨a.eval x, by simp [execOp, h1, asBool], sx.down rfl h2⟩
  | false => exact ⟨a.eval y, by simp [execOp, h1, asBool], sy.down rfl h3⟩
theorem strip_same {c : Bool} {x : AV} : Strip c x x := .inl rfl
theorem strip_when {c b : Bool} {x : AV} (h : c = true → b = true) : Strip c (.when b x) x := .inr ⟨b, rfl, h⟩
end
section
variable {Q : Exit → St → Prop} {R : St → Prop} {s : St} {i j : Nat}
theorem q_here (h : Q .normal s) : blkQ i Q (.exit i) s := by simp only [blkQ, if_true]; exact h
theorem q_past (h : Q (.exit i) s) (hn : i ≠ j) : blkQ j Q (.exit i) s := by simp only [blkQ]; rw [if_neg hn]; exact h
end
def okHs (p : Nat → Bool) : List (Nat × HS) → Bool
  | [] => true
  | (_, x) :: l => okH p x && okHs p l
theorem okHs_lk {p : Nat → Bool} : ∀ {l : List (Nat × HS)}, okHs p l = true → ∀ i, okH p (lkH l i) = true
  | [], _, _ => rfl
  | (j, x) :: l, h, i => by
    have h' : (okH p x && okHs p l) = true := h
    rw [Bool.and_eq_true] at h'
    simp only [lkH]
    split
    · exact h'.1
    · exact okHs_lk h'.2 i
theorem callOk_l {ids : List Nat} {args : List AV} {pre : List (Nat × HS)} {ret : AV} {post : List (Nat × HS)} (nd : ids.Nodup) (kp : pre.map (·.1) = List.range ids.length) (kq : post.map (·.1) = List.range ids.length) (oa : okAs (kept pre) args = true) (op : okHs (kept pre) pre = true) (oq : okHs (kept post) post = true) (or_ : okA (kept post) ret = true) : CallOk ids args pre ret post :=
  ⟨nd, kp, kq, oa, okHs_lk op, okHs_lk oq, or_⟩
def lkO : List (Nat × AV) → Nat → Option AV
  | [], _ => none
  | (i, x) :: l, t => if i = t then some x else lkO l t
def lkP : List (Nat × HS) → Nat → Option HS
  | [], _ => none
  | (i, x) :: l, t => if i = t then some x else lkP l t
def cT (t : List (Nat × AV)) : List (Nat × AV) → Prop
  | [] => True
  | (i, x) :: l => lkO t i = some x ∧ cT t l
def cH (t : List (Nat × HS)) : List (Nat × HS) → Prop
  | [] => True
  | (i, .fresh) :: l => lkP t i = none ∧ cH t l
  | (i, x) :: l => lkP t i = some x ∧ cH t l
section
variable {P : Program} {K : GL} {nt np : Nat} {s : St} {Q : Exit → St → Prop} {B : List Nat} {full : List Oper}
end
theorem wt {e : Bool} : e = true → (true && (e == true)) = true := by cases e <;> decide
theorem wf {e : Bool} : (!e) = true → (true && (e == false)) = true := by cases e <;> decide
theorem wtc {c e : Bool} (hc : c = true) : e = true → (c && (e == true)) = true := by subst hc; cases e <;> decide
theorem wfc {c e : Bool} (hc : c = true) : (!e) = true → (c && (e == false)) = true := by subst hc; cases e <;> decide
end Go.Proofs.YtgmpgoafokdcbaaGreatDoor.Sx
