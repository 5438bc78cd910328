/- The walk's words, part 5: operations under a guard. -/
import Derived.Test.YtgmpgoafokdcbaaGreatDoorSyd
set_option linter.unusedVariables false
namespace Go.Proofs.YtgmpgoafokdcbaaGreatDoor.Sx
open Go Go.RowKit
variable {P : Program} {K : GL}
noncomputable def sel (t : List (Nat × AV)) (is : List Nat) : Option (List (Nat × AV)) := List.rec (some []) (fun i _ ih => (lk t i).bind fun v => ih.bind fun l => some ((i, v) :: l)) is
theorem sel_c {t : List (Nat × AV)} : ∀ {is : List Nat} {r : List (Nat × AV)}, sel t is = some r → chkT t r
  | [], r, e => by cases e; exact trivial
  | i :: is, r, e => by
    have e' : ((lk t i).bind fun v => (sel t is).bind fun l => some ((i, v) :: l)) = some r := e
    obtain ⟨v, h1, e'⟩ := ob e'
    obtain ⟨l, h2, e'⟩ := ob e'
    cases e'
    exact ⟨lk_lk h1, sel_c h2⟩
def cK (t : List (Nat × AV)) : List (Nat × AV) → Prop
  | [] => True
  | (i, x) :: l => lk t i = some x ∧ cK t l
theorem cK_c {t : List (Nat × AV)} : ∀ {r : List (Nat × AV)}, cK t r → chkT t r
  | [], _ => trivial
  | (_, _) :: _, h => ⟨lk_lk h.1, cK_c h.2⟩
theorem rs0 {s : St} : RVs P s [] [] := trivial
theorem rs1 {s : St} {r : ResultVar} {x : AV} {l : List ResultVar} {m : List AV} (h : RV P s r x) (k : RVs P s l m) : RVs P s (r :: l) (x :: m) := ⟨h, k⟩
theorem el0 {sz : Nat} : ELs sz [] [] := trivial
theorem el1 {sz : Nat} {v : AV} {c : List D} {vs : List AV} {cs : List (List D)} (h : EL v c) (hl : c.length = sz) (k : ELs sz vs cs) : ELs sz (v :: vs) (c :: cs) := ⟨h, hl, k⟩
theorem s0 {c : Bool} : Strips c [] [] := trivial
theorem s1 {c : Bool} {i : Nat} {y x : AV} {l m : List (Nat × AV)} (h : Strip c y x) (k : Strips c l m) : Strips c ((i, y) :: l) ((i, x) :: m) := ⟨rfl, h, k⟩
section
variable {d : Tmp} {ty : TypeId} {pos : String} {after : Array Edge} {t : List (Nat × AV)} {h : List (Nat × HS)} {op : Op} {ops : Array Oper} {rest full : List Oper} {rS rT : List (Nat × AV)} {rH : List (Nat × HS)} {x gx : AV} {nt np gs j : Nat} {Q : Exit → St → Prop} {B : List Nat} {pre : List AD} {want c e : Bool}
theorem lw (hgx : lk t gs = some gx) (hgd : Grd gx c e) (hj : (ops[j]?).bind (·.dst) = some gs) (is : List Nat) (hS : sel t is = some rS) (hs : Strips (c && (e == want)) rS rT) (A : (c && (e == want)) = true → SA P K rT h ⟨some d, op, ty, pos, after, some (j, want)⟩ rT rH x [])
    (hc : cK rT rT) (hh : hH h rH) (hd : Nat.blt d nt = true) (hn : ((gs, gx) :: rS).all (fun p => decide (p.1 < nt)) = true) (k : WL P K nt np ops rest ⟨(d, .when (c && (e == want)) x) :: t, h⟩ Q) : WL P K nt np ops (⟨some d, op, ty, pos, after, some (j, want)⟩ :: rest) ⟨t, h⟩ Q :=
  wl_when (s := ⟨t, h⟩) (lk_lk hgx) hgd rfl hj (fun hw => (A hw).act) (sel_c hS) hs (cK_c hc) hn (hH_chk hh) (show d < nt by simpa [Nat.blt_eq] using hd) k
theorem dw (hgx : lk t gs = some gx) (hgd : Grd gx c e) (hj : ((full.toArray)[j]?).bind (·.dst) = some gs) (is : List Nat) (hS : sel t is = some rS) (hs : Strips (c && (e == want)) rS rT) (A : (c && (e == want)) = true → SA P K rT h ⟨some d, op, ty, pos, after, some (j, want)⟩ rT rH x [])
    (hc : cK rT rT) (hh : hH h rH) (hd : Nat.blt d nt = true) (k : WD P K nt B full (pre ++ [⟨(gs, gx) :: rS, rH, .when (c && (e == want)) x, []⟩]) rest ⟨(d, .when (c && (e == want)) x) :: t, h⟩ Q) : WD P K nt B full pre (⟨some d, op, ty, pos, after, some (j, want)⟩ :: rest) ⟨t, h⟩ Q :=
  wd_when (s := ⟨t, h⟩) (lk_lk hgx) hgd rfl hj (fun hw => (A hw).act) (sel_c hS) hs (cK_c hc) (hH_chk hh) (show d < nt by simpa [Nat.blt_eq] using hd) k
end
end Go.Proofs.YtgmpgoafokdcbaaGreatDoor.Sx
