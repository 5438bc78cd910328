/- The walk's words, short: one lemma an operation, over states written as lists. -/
import Derived.Test.YtgmpgoafokdcbaaGreatDoorSxz
import Derived.KernelRfl
set_option linter.unusedVariables false
namespace Go.Proofs.YtgmpgoafokdcbaaGreatDoor.Sx
open Go Go.RowKit
variable {P : Program} {K : GL}
abbrev aN (k : IntKind) (n : Int) : AV := .data (.lit (.int k n))
abbrev aT (b : Bool) : AV := .data (.lit (.bool b))
abbrev aS (s : ByteArray) : AV := .data (.lit (.string s))
abbrev eN (k : IntKind) (n : Int) : List D := [.lit (.int k n)]
abbrev eT (b : Bool) : List D := [.lit (.bool b)]
abbrev eS (s : ByteArray) : List D := [.lit (.string s)]
abbrev eL {α : Type} (sz : Nat) (f : α → List D) (l : List α) : List D := [.list sz (l.map f)]
abbrev aL {α : Type} (sz : Nat) (f : α → List D) (l : List α) : AV := .data (.list sz (l.map f))
abbrev aA (cs : List D) : AV := .agg (cs.map .data)
abbrev aP (cs : List D) : AV := .data (.fp cs)
abbrev aNil : AV := .data (.lit (.slice none 0 0))
abbrev rowC {α : Type} (f : α → List D) (l : List α) : List AV := (l.flatMap f).map .data
abbrev oR {α : Type} (t : TypeId) (sz : Nat) (f : α → List D) (l : List α) : HS := .live (.row t sz l.length (rowC f l))
abbrev oC (t : TypeId) (cs : List AV) : HS := .live (.cells t cs)
abbrev oD (t : TypeId) (cs : List D) : HS := .live (.cells t (cs.map .data))
def ix {α : Type} (l : List α) (n : Int) : Option α := if n < 0 then none else l[n.toNat]?
def asr {ρ : Type} (c : Bool) (x : Option ρ) : Option ρ := bif c then x else none
def jn {κ ρ : Type} (k : κ) (f : κ → Option ρ) : Option ρ := f k
abbrev w64 (n : Int) : Int := IntKind.i64.wrap n
def sEq (a b : ByteArray) : Bool := a.toList == b.toList
def sSub (s : ByteArray) (l h : Int) : ByteArray := ⟨⟨(s.data.toList.take h.toNat).drop l.toNat⟩⟩
def sIx (s : ByteArray) (n : Int) : Option Int := if n < 0 then none else (s[n.toNat]?).map fun b => (b.toNat : Int)
def lSub {α : Type} (s : List α) (l h : Int) : List α := (s.take h.toNat).drop l.toNat
def bAnd (k : IntKind) (x y : Int) : Int := k.wrap (BitVec.ofInt k.bits x &&& BitVec.ofInt k.bits y).toNat
def bOr (k : IntKind) (x y : Int) : Int := k.wrap (BitVec.ofInt k.bits x ||| BitVec.ofInt k.bits y).toNat
def bAndNot (k : IntKind) (x y : Int) : Int := k.wrap (BitVec.ofInt k.bits x &&& ~~~(BitVec.ofInt k.bits y)).toNat
def sShl (k : IntKind) (x y : Int) : Int := k.wrap (x * 2 ^ (min y.toNat k.bits))
def sShr (k : IntKind) (x y : Int) : Int := x.fdiv (2 ^ (min y.toNat k.bits))
def roomy (n bytes : Nat) : Bool := decide (n ≤ 1099511627776) && decide (n * bytes ≤ 140737488355328)
section
variable {ρ : Type} {R : ρ}
theorem ob {α : Type} {o : Option α} {f : α → Option ρ} (h : o.bind f = some R) : ∃ x, o = some x ∧ f x = some R := by
  cases o with
  | none => cases h
  | some x => exact ⟨x, rfl, h⟩
theorem as_ {c : Bool} {x : Option ρ} (h : asr c x = some R) : c = true ∧ x = some R := by
  cases c with
  | true => exact ⟨rfl, h⟩
  | false => cases h
theorem cn {c : Bool} {x y : Option ρ} (h : (bif c then x else y) = some R) : (c = true ∧ x = some R) ∨ (c = false ∧ y = some R) := by
  cases c with
  | true => exact .inl ⟨rfl, h⟩
  | false => exact .inr ⟨rfl, h⟩
theorem sm {x : ρ} (h : some x = some R) : x = R := by cases h; rfl
end
noncomputable def lk (l : List (Nat × AV)) (t : Nat) : Option AV := List.rec none (fun p _ ih => Prod.rec (fun i x => bif Nat.beq i t then some x else ih) p) l
theorem lk_lk {x : AV} {i : Nat} : ∀ {l : List (Nat × AV)}, lk l i = some x → lkT l i = x
  | [], h => by cases h
  | (j, y) :: l, h => by
    have h' : (bif Nat.beq j i then some y else lk l i) = some x := h
    simp only [lkT]
    cases hb : Nat.beq j i with
    | true =>
      rw [hb] at h'
      rw [if_pos (Nat.eq_of_beq_eq_true hb)]
      cases h'
      rfl
    | false =>
      rw [hb] at h'
      rw [if_neg (fun e => by rw [e] at hb; simp at hb)]
      exact lk_lk h'
noncomputable def rd (t : List (Nat × AV)) : Operand → Option AV
  | .tmp i => lk t i
  | .const c => bif c.oneCell' then some (.data (.lit c)) else none
  | .func f => some (.fn (.func f) [] [])
  | .global _ => none
theorem rd_c {t : List (Nat × AV)} {x : Operand} {v : AV} (e : rd t x = some v) : OV x v ∧ chkT t (rdO x v) := by
  cases x with
  | tmp i => exact ⟨trivial, lk_lk e, trivial⟩
  | const c =>
    simp only [rd] at e
    cases h : c.oneCell' with
    | true => rw [h] at e; cases e; exact ⟨⟨h, rfl⟩, trivial⟩
    | false => rw [h] at e; cases e
  | func f => cases e; exact ⟨rfl, trivial⟩
  | global g => cases e
noncomputable def rds (t : List (Nat × AV)) (xs : List Operand) : Option (List AV) := List.rec (some []) (fun x _ ih => (rd t x).bind fun v => ih.bind fun vs => some (v :: vs)) xs
theorem rds_c {t : List (Nat × AV)} : ∀ {xs : List Operand} {vs : List AV}, rds t xs = some vs → OVs xs vs ∧ chkT t (rdOs xs vs)
  | [], vs, e => by cases e; exact ⟨trivial, trivial⟩
  | x :: xs, vs, e => by
    have e' : ((rd t x).bind fun v => (rds t xs).bind fun vs => some (v :: vs)) = some vs := e
    obtain ⟨v, h1, e'⟩ := ob e'
    obtain ⟨us, h2, e'⟩ := ob e'
    cases e'
    obtain ⟨a1, a2⟩ := rd_c h1
    obtain ⟨b1, b2⟩ := rds_c h2
    refine ⟨⟨a1, b1⟩, ?_⟩
    show chkT t (rdO x v ++ rdOs xs us)
    exact chkT_mk (fun p hp => by
      rcases List.mem_append.1 hp with hp | hp
      · exact chkT_at a2 p hp
      · exact chkT_at b2 p hp)
theorem chkT_ap2 {t a b : List (Nat × AV)} (h1 : chkT t a) (h2 : chkT t b) : chkT t (a ++ b) := chkT_mk (fun p hp => by
  rcases List.mem_append.1 hp with hp | hp
  · exact chkT_at h1 p hp
  · exact chkT_at h2 p hp)
noncomputable def hp (l : List (Nat × HS)) (t : Nat) : Option HS := List.rec none (fun p _ ih => Prod.rec (fun i x => bif Nat.beq i t then some x else ih) p) l
theorem hp_lk {x : HS} {i : Nat} : ∀ {l : List (Nat × HS)}, hp l i = some x → lkH l i = x
  | [], h => by cases h
  | (j, y) :: l, h => by
    have h' : (bif Nat.beq j i then some y else hp l i) = some x := h
    simp only [lkH]
    cases hb : Nat.beq j i with
    | true =>
      rw [hb] at h'
      rw [if_pos (Nat.eq_of_beq_eq_true hb)]
      cases h'
      rfl
    | false =>
      rw [hb] at h'
      rw [if_neg (fun e => by rw [e] at hb; simp at hb)]
      exact hp_lk h'
theorem hp_no {i : Nat} : ∀ {l : List (Nat × HS)}, hp l i = none → lkH l i = .fresh
  | [], h => rfl
  | (j, y) :: l, h => by
    have h' : (bif Nat.beq j i then some y else hp l i) = none := h
    simp only [lkH]
    cases hb : Nat.beq j i with
    | true => rw [hb] at h'; cases h'
    | false =>
      rw [hb] at h'
      rw [if_neg (fun e => by rw [e] at hb; simp at hb)]
      exact hp_no h'
structure SA (P : Program) (K : GL) (t : List (Nat × AV)) (h : List (Nat × HS)) (o : Oper) (rT : List (Nat × AV)) (rH : List (Nat × HS)) (x : AV) (wH : List (Nat × HS)) : Prop where
  act : LAct P K o rT rH x wH
  t : chkT t rT
  h : chkH h rH
section
variable {dst : Option Tmp} {d : Tmp} {ty : TypeId} {pos : String} {after : Array Edge} {g : Option (Nat × Bool)} {t : List (Nat × AV)} {h : List (Nat × HS)} {op : Op} {ops : Array Oper} {rest full : List Oper}
  {rT : List (Nat × AV)} {rH wH : List (Nat × HS)} {x : AV} {nt np : Nat} {Q : Exit → St → Prop} {B : List Nat} {pre : List AD}
theorem l (a : SA P K t h ⟨some d, op, ty, pos, after, none⟩ rT rH x []) (hd : Nat.blt d nt = true) (k : WL P K nt np ops rest ⟨(d, x) :: t, h⟩ Q) : WL P K nt np ops (⟨some d, op, ty, pos, after, none⟩ :: rest) ⟨t, h⟩ Q :=
  wl_step a.act a.t a.h (show d < nt by simpa [Nat.blt_eq] using hd) k rfl
theorem lh (a : SA P K t h ⟨some d, op, ty, pos, after, none⟩ rT rH x wH) (hd : Nat.blt d nt = true) (k : WL P K nt np ops rest ⟨(d, x) :: t, wH ++ h⟩ Q) : WL P K nt np ops (⟨some d, op, ty, pos, after, none⟩ :: rest) ⟨t, h⟩ Q :=
  wl_step a.act a.t a.h (show d < nt by simpa [Nat.blt_eq] using hd) k rfl
theorem l0h (a : SA P K t h ⟨none, op, ty, pos, after, none⟩ rT rH x wH) (k : WL P K nt np ops rest ⟨t, wH ++ h⟩ Q) : WL P K nt np ops (⟨none, op, ty, pos, after, none⟩ :: rest) ⟨t, h⟩ Q :=
  wl_step a.act a.t a.h trivial k rfl
theorem dr (a : SA P K t h ⟨some d, op, ty, pos, after, none⟩ rT rH x []) (hd : Nat.blt d nt = true) (k : WD P K nt B full (pre ++ [⟨rT, rH, x, []⟩]) rest ⟨(d, x) :: t, h⟩ Q) : WD P K nt B full pre (⟨some d, op, ty, pos, after, none⟩ :: rest) ⟨t, h⟩ Q :=
  wd_step a.act a.t a.h (show d < nt by simpa [Nat.blt_eq] using hd) k rfl
theorem drh (a : SA P K t h ⟨some d, op, ty, pos, after, none⟩ rT rH x wH) (hd : Nat.blt d nt = true) (k : WD P K nt B full (pre ++ [⟨rT, rH, x, wH⟩]) rest ⟨(d, x) :: t, wH ++ h⟩ Q) : WD P K nt B full pre (⟨some d, op, ty, pos, after, none⟩ :: rest) ⟨t, h⟩ Q :=
  wd_step a.act a.t a.h (show d < nt by simpa [Nat.blt_eq] using hd) k rfl
theorem dr0h (a : SA P K t h ⟨none, op, ty, pos, after, none⟩ rT rH x wH) (k : WD P K nt B full (pre ++ [⟨rT, rH, x, wH⟩]) rest ⟨t, wH ++ h⟩ Q) : WD P K nt B full pre (⟨none, op, ty, pos, after, none⟩ :: rest) ⟨t, h⟩ Q :=
  wd_step a.act a.t a.h trivial k rfl
end
section
variable {dst : Option Tmp} {d : Tmp} {ty : TypeId} {pos : String} {after : Array Edge} {g : Option (Nat × Bool)} {t : List (Nat × AV)} {h : List (Nat × HS)} {op : Op}
theorem SA.pv1 {x : Operand} {v r : AV} (hx : rd t x = some v) (hp : OV x v → PV P K ⟨dst, op, ty, pos, after, g⟩ (rdO x v) [] r) : SA P K t h ⟨dst, op, ty, pos, after, g⟩ (rdO x v) [] r [] := ⟨(hp (rd_c hx).1).lact, (rd_c hx).2, trivial⟩
theorem SA.pv2 {x y : Operand} {v u r : AV} (hx : rd t x = some v) (hy : rd t y = some u) (hp : OV x v → OV y u → PV P K ⟨dst, op, ty, pos, after, g⟩ (rdO x v ++ rdO y u) [] r) : SA P K t h ⟨dst, op, ty, pos, after, g⟩ (rdO x v ++ rdO y u) [] r [] :=
  ⟨(hp (rd_c hx).1 (rd_c hy).1).lact, chkT_ap2 (rd_c hx).2 (rd_c hy).2, trivial⟩
theorem SA.pv1h {x : Operand} {v r : AV} {k : Nat} {o : AO} (hx : rd t x = some v) (hh : hp h k = some (.live o)) (hv : OV x v → PV P K ⟨dst, op, ty, pos, after, g⟩ (rdO x v) [(k, .live o)] r) : SA P K t h ⟨dst, op, ty, pos, after, g⟩ (rdO x v) [(k, .live o)] r [] := ⟨(hv (rd_c hx).1).lact, (rd_c hx).2, hp_lk hh, trivial⟩
theorem SA.pv2h {x y : Operand} {v u r : AV} {k : Nat} {o : AO} (hx : rd t x = some v) (hy : rd t y = some u) (hh : hp h k = some (.live o)) (hv : OV x v → OV y u → PV P K ⟨dst, op, ty, pos, after, g⟩ (rdO x v ++ rdO y u) [(k, .live o)] r) : SA P K t h ⟨dst, op, ty, pos, after, g⟩ (rdO x v ++ rdO y u) [(k, .live o)] r [] :=
  ⟨(hv (rd_c hx).1 (rd_c hy).1).lact, chkT_ap2 (rd_c hx).2 (rd_c hy).2, hp_lk hh, trivial⟩
theorem p_mv {x : Operand} {v : AV} (hx : rd t x = some v) : SA P K t h ⟨dst, .move x, ty, pos, after, g⟩ (rdO x v) [] v [] := .pv1 hx pv_move
theorem p_as {x : Operand} {v : AV} (hx : rd t x = some v) : SA P K t h ⟨dst, .assign x, ty, pos, after, g⟩ (rdO x v) [] v [] := .pv1 hx pv_assign
section
variable {k : IntKind} {p q : Int} {x y : Operand} {u v : TypeId}
theorem b_run {op : BinOp} {r : Value} (hx : rd t x = some (aN k p)) (hy : rd t y = some (aN k q)) (h1 : r.oneCell' = true) (hr : ∀ w, (binOp op u (.int k p) (.int k q)).run P w = .ok r w) :
    SA P K t h ⟨dst, .binOp op u x y v, ty, pos, after, g⟩ (rdO x (aN k p) ++ rdO y (aN k q)) [] (.data (.lit r)) [] :=
  .pv2 hx hy fun a b => pv_bin a b h1 fun w => by
    have : (eqGuard op u x y (.int k p) (.int k q)).run P w = .ok () w := by cases op <;> rfl
    rw [Sem.run_bind, this]
    exact hr w
theorem p_add (hx : rd t x = some (aN k p)) (hy : rd t y = some (aN k q)) : SA P K t h ⟨dst, .binOp .add u x y v, ty, pos, after, g⟩ (rdO x (aN k p) ++ rdO y (aN k q)) [] (aN k (k.wrap (p + q))) [] := b_run hx hy rfl fun w => by simp [binOp, Op.intArith]
theorem p_sub (hx : rd t x = some (aN k p)) (hy : rd t y = some (aN k q)) : SA P K t h ⟨dst, .binOp .sub u x y v, ty, pos, after, g⟩ (rdO x (aN k p) ++ rdO y (aN k q)) [] (aN k (k.wrap (p - q))) [] := b_run hx hy rfl fun w => by simp [binOp, Op.intArith]
theorem p_mul (hx : rd t x = some (aN k p)) (hy : rd t y = some (aN k q)) : SA P K t h ⟨dst, .binOp .mul u x y v, ty, pos, after, g⟩ (rdO x (aN k p) ++ rdO y (aN k q)) [] (aN k (k.wrap (p * q))) [] := b_run hx hy rfl fun w => by simp [binOp, Op.intArith]
theorem p_quo (hx : rd t x = some (aN k p)) (hy : rd t y = some (aN k q)) (hq : (q != 0) = true) : SA P K t h ⟨dst, .binOp .quo u x y v, ty, pos, after, g⟩ (rdO x (aN k p) ++ rdO y (aN k q)) [] (aN k (k.wrap (p.tdiv q))) [] := b_run hx hy rfl fun w => by
  have : q ≠ 0 := by simpa using hq
  simp [binOp, Op.intDiv, this]
theorem p_rem (hx : rd t x = some (aN k p)) (hy : rd t y = some (aN k q)) (hq : (q != 0) = true) : SA P K t h ⟨dst, .binOp .rem u x y v, ty, pos, after, g⟩ (rdO x (aN k p) ++ rdO y (aN k q)) [] (aN k (p.tmod q)) [] := b_run hx hy rfl fun w => by
  have : q ≠ 0 := by simpa using hq
  simp [binOp, Op.intDiv, this]
theorem p_and (hx : rd t x = some (aN k p)) (hy : rd t y = some (aN k q)) : SA P K t h ⟨dst, .binOp .and u x y v, ty, pos, after, g⟩ (rdO x (aN k p) ++ rdO y (aN k q)) [] (aN k (bAnd k p q)) [] := b_run hx hy rfl fun w => by simp [binOp, Op.intBits, bAnd]
theorem p_or (hx : rd t x = some (aN k p)) (hy : rd t y = some (aN k q)) : SA P K t h ⟨dst, .binOp .or u x y v, ty, pos, after, g⟩ (rdO x (aN k p) ++ rdO y (aN k q)) [] (aN k (bOr k p q)) [] := b_run hx hy rfl fun w => by simp [binOp, Op.intBits, bOr]
theorem p_andNot (hx : rd t x = some (aN k p)) (hy : rd t y = some (aN k q)) : SA P K t h ⟨dst, .binOp .andNot u x y v, ty, pos, after, g⟩ (rdO x (aN k p) ++ rdO y (aN k q)) [] (aN k (bAndNot k p q)) [] := b_run hx hy rfl fun w => by simp [binOp, Op.intBits, bAndNot]
theorem p_lss (hx : rd t x = some (aN k p)) (hy : rd t y = some (aN k q)) : SA P K t h ⟨dst, .binOp .lss u x y v, ty, pos, after, g⟩ (rdO x (aN k p) ++ rdO y (aN k q)) [] (aT (decide (p < q))) [] := b_run hx hy rfl fun w => by simp [binOp, Op.intCmp]
theorem p_leq (hx : rd t x = some (aN k p)) (hy : rd t y = some (aN k q)) : SA P K t h ⟨dst, .binOp .leq u x y v, ty, pos, after, g⟩ (rdO x (aN k p) ++ rdO y (aN k q)) [] (aT (decide (p ≤ q))) [] := b_run hx hy rfl fun w => by simp [binOp, Op.intCmp]
theorem p_gtr (hx : rd t x = some (aN k p)) (hy : rd t y = some (aN k q)) : SA P K t h ⟨dst, .binOp .gtr u x y v, ty, pos, after, g⟩ (rdO x (aN k p) ++ rdO y (aN k q)) [] (aT (decide (q < p))) [] := b_run hx hy rfl fun w => by simp [binOp, Op.intCmp]
theorem p_geq (hx : rd t x = some (aN k p)) (hy : rd t y = some (aN k q)) : SA P K t h ⟨dst, .binOp .geq u x y v, ty, pos, after, g⟩ (rdO x (aN k p) ++ rdO y (aN k q)) [] (aT (decide (q ≤ p))) [] := b_run hx hy rfl fun w => by simp [binOp, Op.intCmp]
theorem p_eql (hx : rd t x = some (aN k p)) (hy : rd t y = some (aN k q)) : SA P K t h ⟨dst, .binOp .eql u x y v, ty, pos, after, g⟩ (rdO x (aN k p) ++ rdO y (aN k q)) [] (aT (p == q)) [] := b_run hx hy rfl fun w => by simp [binOp, Op.intCmp]
theorem p_neq (hx : rd t x = some (aN k p)) (hy : rd t y = some (aN k q)) : SA P K t h ⟨dst, .binOp .neq u x y v, ty, pos, after, g⟩ (rdO x (aN k p) ++ rdO y (aN k q)) [] (aT (p != q)) [] := b_run hx hy rfl fun w => by simp [binOp, Op.intCmp]
theorem b_sh {op : BinOp} {k' : IntKind} {r : Value} (hx : rd t x = some (aN k p)) (hy : rd t y = some (aN k' q)) (h1 : r.oneCell' = true) (ho : op = .shl ∨ op = .shr) (hr : ∀ w, (Op.shift op k p k' q).run P w = .ok r w) :
    SA P K t h ⟨dst, .binOp op u x y v, ty, pos, after, g⟩ (rdO x (aN k p) ++ rdO y (aN k' q)) [] (.data (.lit r)) [] :=
  .pv2 hx hy fun a b => pv_bin a b h1 fun w => by
    have : (eqGuard op u x y (.int k p) (.int k' q)).run P w = .ok () w := by cases op <;> rfl
    rw [Sem.run_bind, this]
    rcases ho with rfl | rfl <;> exact hr w
theorem p_shl {k' : IntKind} (hx : rd t x = some (aN k p)) (hy : rd t y = some (aN k' q)) (hq : decide (0 ≤ q) = true) : SA P K t h ⟨dst, .binOp .shl u x y v, ty, pos, after, g⟩ (rdO x (aN k p) ++ rdO y (aN k' q)) [] (aN k (sShl k p q)) [] := b_sh hx hy rfl (.inl rfl) fun w => by
  have : ¬ q < 0 := by have := of_decide_eq_true hq; omega
  simp [Op.shift, this, sShl]
theorem p_shr {k' : IntKind} (hx : rd t x = some (aN k p)) (hy : rd t y = some (aN k' q)) (hq : decide (0 ≤ q) = true) : SA P K t h ⟨dst, .binOp .shr u x y v, ty, pos, after, g⟩ (rdO x (aN k p) ++ rdO y (aN k' q)) [] (aN k (sShr k p q)) [] := b_sh hx hy rfl (.inr rfl) fun w => by
  have : ¬ q < 0 := by have := of_decide_eq_true hq; omega
  simp [Op.shift, this, sShr]
theorem p_cv {s d : TypeId} {k' : IntKind} {ds : TypeDesc} (hs : P.underlying s = some ds) (hd : P.underlying d = some (.int k')) (hx : rd t x = some (aN k p)) : SA P K t h ⟨dst, .convert s d x, ty, pos, after, g⟩ (rdO x (aN k p)) [] (aN k' (k'.wrap p)) [] :=
  .pv1 hx fun a => pv_conv a rfl fun w => by simp [convert, run_underlying hs, run_underlying hd, Conv.intToInt]
end
section
variable {x y : Operand} {u v : TypeId} {a b : ByteArray}
theorem b_str {op : BinOp} {r : Value} (hx : rd t x = some (aS a)) (hy : rd t y = some (aS b)) (h1 : r.oneCell' = true) (hr : ∀ w, (Op.stringOp op a b).run P w = .ok r w) :
    SA P K t h ⟨dst, .binOp op u x y v, ty, pos, after, g⟩ (rdO x (aS a) ++ rdO y (aS b)) [] (.data (.lit r)) [] :=
  .pv2 hx hy fun e f => pv_bin e f h1 fun w => by
    have : (eqGuard op u x y (.string a) (.string b)).run P w = .ok () w := by cases op <;> rfl
    rw [Sem.run_bind, this]
    have h2 := hr w
    cases op <;> exact h2
theorem p_seq (hx : rd t x = some (aS a)) (hy : rd t y = some (aS b)) : SA P K t h ⟨dst, .binOp .eql u x y v, ty, pos, after, g⟩ (rdO x (aS a) ++ rdO y (aS b)) [] (aT (sEq a b)) [] := b_str hx hy rfl fun w => by simp [Op.stringOp, sEq]
theorem p_sne (hx : rd t x = some (aS a)) (hy : rd t y = some (aS b)) : SA P K t h ⟨dst, .binOp .neq u x y v, ty, pos, after, g⟩ (rdO x (aS a) ++ rdO y (aS b)) [] (aT (!sEq a b)) [] := b_str hx hy rfl fun w => by simp [Op.stringOp, sEq]
theorem p_sad (hx : rd t x = some (aS a)) (hy : rd t y = some (aS b)) (hl : decide (a.size + b.size ≤ 9223372036854775807) = true) : SA P K t h ⟨dst, .binOp .add u x y v, ty, pos, after, g⟩ (rdO x (aS a) ++ rdO y (aS b)) [] (aS (a ++ b)) [] := b_str hx hy rfl fun w => by
  have h1 := of_decide_eq_true hl
  have h3 : IntKind.i64.max = 9223372036854775807 := rfl
  have h2 : ¬ ((a.size + b.size : Nat) : Int) > IntKind.i64.max := by rw [h3]; omega
  simp only [Op.stringOp]
  rw [if_neg h2]
  rfl
theorem p_not {x : Operand} {c : Bool} (hx : rd t x = some (aT c)) : SA P K t h ⟨dst, .unOp .not u x, ty, pos, after, g⟩ (rdO x (aT c)) [] (aT (!c)) [] := .pv1 hx fun a => pv_un a rfl fun w => by simp [Op.unary]
theorem p_lenS (ht : P.underlying u = some .string) (hx : rd t x = some (aS a)) : SA P K t h ⟨dst, .call { callee := .builtin .len, args := #[x], argTypes := #[u] }, ty, pos, after, g⟩ (rdO x (aS a)) [] (aN .i64 a.size) [] := .pv1 hx fun e => pv_len_string ht e
theorem p_ixS {i : Operand} {n m : Int} {ik : IntKind} (ht : P.underlying u = some .string) (hx : rd t x = some (aS a)) (hi : rd t i = some (aN ik n)) (hr : sIx a n = some m) : SA P K t h ⟨dst, .index u x i, ty, pos, after, g⟩ (rdO x (aS a) ++ rdO i (aN ik n)) [] (aN .u8 m) [] := by
  unfold sIx at hr
  split at hr
  · cases hr
  · rename_i h0
    obtain ⟨c, hc, rfl⟩ := Option.map_eq_some_iff.1 hr
    exact .pv2 hx hi fun e f => pv_index_string ht e f (by omega) hc
end
theorem p_pk {c x y : Operand} {e p q : Bool} {ax ay : AV} (hc : rd t c = some (aT e)) (hx : rd t x = some ax) (hy : rd t y = some ay) (ox : OVw x ax) (oy : OVw y ay) (sx : Strip e ax (aT p)) (sy : Strip (!e) ay (aT q)) :
    SA P K t h ⟨dst, .pick c x y, ty, pos, after, g⟩ (rdO c (aT e) ++ (rdO x ax ++ rdO y ay)) [] (aT (bif e then p else q)) [] :=
  ⟨by
    have := (pv_pick3 (P := P) (K := K) (dst := dst) (ty := ty) (pos := pos) (after := after) (g := g) (rd_c hc).1 ox oy sx sy).lact
    rw [show (if e = true then p else q) = (bif e then p else q) by cases e <;> rfl] at this
    exact this, chkT_ap2 (rd_c hc).2 (chkT_ap2 (rd_c hx).2 (rd_c hy).2), trivial⟩
theorem p_pkA {c x : Operand} {e p : Bool} {ax : AV} (hc : rd t c = some (aT e)) (hx : rd t x = some ax) (ox : OVw x ax) (sx : Strip e ax (aT p)) :
    SA P K t h ⟨dst, .pick c x (.const (.bool false)), ty, pos, after, g⟩ (rdO c (aT e) ++ (rdO x ax ++ [])) [] (aT (e && p)) [] := by
  have := p_pk (P := P) (K := K) (h := h) (dst := dst) (ty := ty) (pos := pos) (after := after) (g := g) hc hx (y := .const (.bool false)) (ay := aT false) (q := false) rfl ox ⟨rfl, rfl⟩ sx (.inl rfl)
  rw [show (bif e then p else false) = (e && p) by cases e <;> rfl] at this
  exact this
theorem p_pkO {c y : Operand} {e q : Bool} {ay : AV} (hc : rd t c = some (aT e)) (hy : rd t y = some ay) (oy : OVw y ay) (sy : Strip (!e) ay (aT q)) :
    SA P K t h ⟨dst, .pick c (.const (.bool true)) y, ty, pos, after, g⟩ (rdO c (aT e) ++ ([] ++ rdO y ay)) [] (aT (e || q)) [] := by
  have := p_pk (P := P) (K := K) (h := h) (dst := dst) (ty := ty) (pos := pos) (after := after) (g := g) hc (x := .const (.bool true)) (ax := aT true) (p := true) rfl hy ⟨rfl, rfl⟩ oy (.inl rfl) sy
  rw [show (bif e then true else q) = (e || q) by cases e <;> rfl] at this
  exact this
theorem p_fdP {s : TypeId} {i off : Nat} {x : Operand} {cs : List D} (hf : Fld P s i off) (hx : rd t x = some (aP cs)) : SA P K t h ⟨dst, .fieldAddr s x i, ty, pos, after, g⟩ (rdO x (aP cs)) [] (aP (cs.drop off)) [] := .pv1 hx fun e => pv_field_fp hf e
theorem p_ldP {u : TypeId} {x : Operand} {cs : List D} {d : D} (ht : Ty P u 1 false) (hx : rd t x = some (aP cs)) (hd : cs[0]? = some d) : SA P K t h ⟨dst, .load u x, ty, pos, after, g⟩ (rdO x (aP cs)) [] (.data d) [] := .pv1 hx fun e => pv_load_fp ht e hd
theorem p_ldA {u : TypeId} {n : Nat} {x : Operand} {cs ds : List D} (ht : Ty P u n true) (hx : rd t x = some (aP cs)) (hn : Nat.ble n cs.length = true) (hd : cs.take n = ds) : SA P K t h ⟨dst, .load u x, ty, pos, after, g⟩ (rdO x (aP cs)) [] (aA ds) [] := by
  subst hd
  exact .pv1 hx fun e => pv_load_fp_agg ht e (Nat.le_of_ble_eq_true hn)
theorem p_ixL {α : Type} {f : α → List D} {l : List α} {r : α} {u e : TypeId} {sz : Nat} {x i : Operand} {n : Int} (ht : P.underlying u = some (.slice e)) (he : ∀ w, (sizeOf e).run P w = .ok sz w) (hx : rd t x = some (aL sz f l)) (hi : rd t i = some (aN .i64 n)) (hr : ix l n = some r) :
    SA P K t h ⟨dst, .indexAddr u x i, ty, pos, after, g⟩ (rdO x (aL sz f l) ++ rdO i (aN .i64 n)) [] (aP (f r)) [] := by
  unfold ix at hr
  split at hr
  · cases hr
  · exact .pv2 hx hi fun a b => pv_index_list ht he a b (by omega) (by rw [List.getElem?_map, hr]; rfl)
theorem p_lenL {α : Type} {f : α → List D} {l : List α} {u e : TypeId} {sz : Nat} {x : Operand} (ht : P.underlying u = some (.slice e)) (hx : rd t x = some (aL sz f l)) :
    SA P K t h ⟨dst, .call { callee := .builtin .len, args := #[x], argTypes := #[u] }, ty, pos, after, g⟩ (rdO x (aL sz f l)) [] (aN .i64 l.length) [] := .pv1 hx fun a => by
  have := pv_len_list (P := P) (K := K) (dst := dst) (ty := ty) (pos := pos) (after := after) (g := g) ht a
  rwa [List.length_map] at this
theorem p_nlP {x : Operand} {cs : List D} (hx : rd t x = some (aP cs)) : SA P K t h ⟨dst, .nilCheck x, ty, pos, after, g⟩ (rdO x (aP cs)) [] (aP cs) [] := .pv1 hx fun a => pv_nil_fp a
theorem p_fd {s : TypeId} {i off : Nat} {x : Operand} {k o : Nat} (hf : Fld P s i off) (hx : rd t x = some (.ptr k o)) : SA P K t h ⟨dst, .fieldAddr s x i, ty, pos, after, g⟩ (rdO x (.ptr k o)) [] (.ptr k (o + off)) [] := .pv1 hx fun e => pv_field hf e
theorem p_nl {x : Operand} {k o : Nat} (hx : rd t x = some (.ptr k o)) : SA P K t h ⟨dst, .nilCheck x, ty, pos, after, g⟩ (rdO x (.ptr k o)) [] (.ptr k o) [] := .pv1 hx fun a => pv_nil_ptr a
theorem p_ld {u ct : TypeId} {x : Operand} {k off : Nat} {cs : List AV} {y : AV} (ht : Ty P u 1 false) (hx : rd t x = some (.ptr k off)) (hh : hp h k = some (oC ct cs)) (hy : cs[off]? = some y) : SA P K t h ⟨dst, .load u x, ty, pos, after, g⟩ (rdO x (.ptr k off)) [(k, oC ct cs)] y [] := .pv1h hx hh fun e => pv_load ht e hy
theorem p_ldB {u ct : TypeId} {n : Nat} {x : Operand} {k off : Nat} {cs ds : List AV} (ht : Ty P u n true) (hx : rd t x = some (.ptr k off)) (hh : hp h k = some (oC ct cs)) (hn : Nat.ble (off + n) cs.length = true) (hd : (cs.drop off).take n = ds) : SA P K t h ⟨dst, .load u x, ty, pos, after, g⟩ (rdO x (.ptr k off)) [(k, oC ct cs)] (.agg ds) [] := by
  subst hd
  exact .pv1h hx hh fun e => pv_load_agg ht e (Nat.le_of_ble_eq_true hn)
theorem p_al {u : TypeId} {zs : List Value} (k : Nat) (hz : Zr P u zs) (hf : hp h k = none) : SA P K t h ⟨dst, .alloc u, ty, pos, after, g⟩ [] [(k, .fresh)] (.ptr k 0) [(k, oC u (zs.map fun z => .data (.lit z)))] := ⟨la_alloc k hz, trivial, hp_no hf, trivial⟩
theorem p_bx {u : TypeId} {x : Operand} {v : AV} (k : Nat) (hx : rd t x = some v) (hc : cellAV v) (hf : hp h k = none) : SA P K t h ⟨dst, .box u x, ty, pos, after, g⟩ (rdO x v) [(k, .fresh)] (.ptr k 0) [(k, oC u (CV v))] := ⟨la_box k (rd_c hx).1 hc, (rd_c hx).2, hp_no hf, trivial⟩
theorem p_st {u ct : TypeId} {x y : Operand} {k off : Nat} {cs : List AV} {v : AV} (ht : Ty P u 1 false) (hx : rd t x = some (.ptr k off)) (hy : rd t y = some v) (hh : hp h k = some (oC ct cs)) (hc : cellAV v) (hn : CV v = [v]) (hl : Nat.blt off cs.length = true) :
    SA P K t h ⟨dst, .store u x y, ty, pos, after, g⟩ (rdO x (.ptr k off) ++ rdO y v) [(k, oC ct cs)] .any [(k, oC ct (cs.set off v))] :=
  ⟨by
    have hlt : off < cs.length := by simpa [Nat.blt_eq] using hl
    have := la_store (P := P) (K := K) (dst := dst) (ty := ty) (pos := pos) (after := after) (g := g) (ct := ct) (cs := cs) ht (rd_c hx).1 (rd_c hy).1 hc (by rw [hn]; rfl) (.inr rfl) hlt
    rw [hn] at this
    rw [show cs.set off v = cs.take off ++ [v] ++ cs.drop (off + 1) by rw [List.set_eq_take_append_cons_drop, if_pos hlt]; simp]
    exact this, chkT_ap2 (rd_c hx).2 (rd_c hy).2, hp_lk hh, trivial⟩
theorem p_stA {u ct : TypeId} {n : Nat} {x y : Operand} {k off : Nat} {cs vs ds : List AV} (ht : Ty P u n true) (hx : rd t x = some (.ptr k off)) (hy : rd t y = some (.agg vs)) (hh : hp h k = some (oC ct cs)) (hn : vs.length = n) (hl : Nat.ble (off + n) cs.length = true) (hd : cs.take off ++ vs ++ cs.drop (off + n) = ds) :
    SA P K t h ⟨dst, .store u x y, ty, pos, after, g⟩ (rdO x (.ptr k off) ++ rdO y (.agg vs)) [(k, oC ct cs)] .any [(k, oC ct ds)] := by
  subst hd
  exact ⟨la_store ht (rd_c hx).1 (rd_c hy).1 trivial hn (.inl rfl) (Nat.le_of_ble_eq_true hl), chkT_ap2 (rd_c hx).2 (rd_c hy).2, hp_lk hh, trivial⟩
theorem p_ex {x : Operand} {i : Nat} {vs : List AV} {v : AV} (hx : rd t x = some (.tup vs)) (hv : vs[i]? = some v) : SA P K t h ⟨dst, .extract x i, ty, pos, after, g⟩ (rdO x (.tup vs)) [] v [] := .pv1 hx fun e => pv_extract e hv
theorem p_bs {α : Type} {f : α → List D} {u e : TypeId} {sz n : Nat} {zs : List Value} (xs : List Operand) (l : List α) {vs : List AV} {parts : Array (Nat × Operand)} (ht : P.underlying u = some (.slice e)) (hs : ∀ w, (sizeOf e).run P w = .ok sz w) (hz : Zr P e zs) (hp : Nat.blt 0 sz = true)
    (hpa : parts = partsOf xs) (hn : n = xs.length) (hv : rds t xs = some vs) (he : ELs sz vs (l.map f)) (hm : Nat.ble (n * sz) 16777216 = true) : SA P K t h ⟨dst, .buildSlice u n parts, ty, pos, after, g⟩ (rdOs xs vs) [] (aL sz f l) [] :=
  ⟨la_buildSlice xs ht hs hz (by simpa [Nat.blt_eq] using hp) hpa hn (rds_c hv).1 he (by have := Nat.le_of_ble_eq_true hm; omega), (rds_c hv).2, trivial⟩
theorem p_mf {fn : Fn} {xs ys : Array Operand} {vs us : List AV} (hx : rds t xs.toList = some vs) (hy : rds t ys.toList = some us) : SA P K t h ⟨dst, .makeFunc fn xs ys, ty, pos, after, g⟩ (rdOs xs.toList vs ++ rdOs ys.toList us) [] (.fn fn vs us) [] :=
  ⟨(pv_makeFunc (rds_c hx).1 (rds_c hy).1).lact, chkT_ap2 (rds_c hx).2 (rds_c hy).2, trivial⟩
theorem p_max {x y : Operand} {ats : Array TypeId} {k : IntKind} {p q : Int} (hx : rd t x = some (aN k p)) (hy : rd t y = some (aN k q)) : SA P K t h ⟨dst, .call { callee := .builtin .max, args := #[x, y], argTypes := ats }, ty, pos, after, g⟩ (rdO x (aN k p) ++ rdO y (aN k q)) [] (aN k (max p q)) [] := .pv2 hx hy fun a b => by
  have := pv_max (P := P) (K := K) (dst := dst) (ty := ty) (pos := pos) (after := after) (g := g) (ats := ats) a b
  rwa [show (if q > p then q else p) = max p q by rw [Int.max_def]; split <;> split <;> omega] at this
mutual
theorem renA_no (r : Nat → Nat) : ∀ {x : AV}, okA (fun _ => false) x = true → renA r x = x
  | .data _, _ => rfl
  | .ptr _ _, h => by cases h
  | .row _, h => by cases h
  | .mp _, h => by cases h
  | .via _ _, h => by cases h
  | .fn f a b, h => by
    have h' : (okAs (fun _ => false) a && okAs (fun _ => false) b) = true := h
    rw [Bool.and_eq_true] at h'
    simp only [renA, renAs_no r h'.1, renAs_no r h'.2]
  | .agg cs, h => by simp only [renA, renAs_no r (xs := cs) h]
  | .tup cs, h => by simp only [renA, renAs_no r (xs := cs) h]
  | .when b y, h => by simp only [renA, renA_no r (x := y) h]
  | .any, _ => rfl
theorem renAs_no (r : Nat → Nat) : ∀ {xs : List AV}, okAs (fun _ => false) xs = true → renAs r xs = xs
  | [], _ => rfl
  | x :: xs, h => by
    have h' : (okA (fun _ => false) x && okAs (fun _ => false) xs) = true := h
    rw [Bool.and_eq_true] at h'
    simp only [renAs, renA_no r h'.1, renAs_no r h'.2]
end
theorem p_c {f : FuncId} {args : List AV} {ret : AV} {xs : Array Operand} {ats : Array TypeId} (hc : FnOk P K f args [] ret []) (he : Ent1 P f) (ha : rds t xs.toList = some args) (h1 : okAs (fun _ => false) args = true) (h2 : okA (fun _ => false) ret = true) :
    SA P K t h ⟨dst, .call { callee := .value (.func f), args := xs, argTypes := ats }, ty, pos, after, g⟩ (rdOs xs.toList args) [] ret [] := by
  have hk : kept ([] : List (Nat × HS)) = fun _ => false := rfl
  have := la_call (dst := dst) (ty := ty) (pos := pos) (after := after) (g := g) (ids := []) (vs := args) (ats := ats) hc he ⟨List.nodup_nil, rfl, rfl, hk ▸ h1, fun _ => rfl, fun _ => rfl, hk ▸ h2⟩ (renAs_no _ h1) (rds_c ha).1
  rw [renA_no _ h2] at this
  exact ⟨this, (rds_c ha).2, trivial⟩
end
end Go.Proofs.YtgmpgoafokdcbaaGreatDoor.Sx
