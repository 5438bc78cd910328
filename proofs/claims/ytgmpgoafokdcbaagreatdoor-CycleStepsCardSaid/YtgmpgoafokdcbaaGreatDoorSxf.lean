/- Part 6 of the small logic: what falls away; code; functions. -/
import Derived.Test.YtgmpgoafokdcbaaGreatDoorSxe
import Derived.ControlIn
import Derived.TacticsIn
import Derived.OrdersIn
set_option linter.unusedVariables false
namespace Go.Proofs.YtgmpgoafokdcbaaGreatDoor.Sx
open Go Go.RowKit
variable {P : Program} {K : GL}
mutual
def okA (p : Nat → Bool) : AV → Bool
  | .data _ => true
  | .ptr k _ => p k
  | .row k => p k
  | .mp k => p k
  | .via k _ => p k
  | .fn _ first cap => okAs p first && okAs p cap
  | .agg cs => okAs p cs
  | .tup vs => okAs p vs
  | .when _ x => okA p x
  | .any => true
def okAs (p : Nat → Bool) : List AV → Bool
  | [] => true
  | x :: xs => okA p x && okAs p xs
end
mutual
def okC (p : Nat → Bool) : TC → Bool
  | .av x => okA p x
  | .own _ _ _ cs => okCs p cs
def okCs (p : Nat → Bool) : List TC → Bool
  | [] => true
  | x :: xs => okC p x && okCs p xs
end
def okO (p : Nat → Bool) : AO → Bool
  | .cells _ cs => okAs p cs
  | .row _ _ _ cs => okAs p cs
  | .map es => okAs p (es.map (·.2))
  | .loop _ _ _ _ ts _ => okAs p (ts.map (·.2))
  | .obj _ => true
  | .tree _ _ _ cs => okCs p cs
def Env.cut (E : Env) (p : Nat → Bool) : Env := ⟨E.F, fun k => if p k then E.φ k else none⟩
theorem Env.cut_at {E : Env} {p : Nat → Bool} {k : Nat} (h : p k = true) : (E.cut p).φ k = E.φ k := by simp [Env.cut, h]
mutual
theorem Rel.cut {E : Env} {p : Nat → Bool} : ∀ {x : AV} {v : Value}, okA p x = true → Rel E x v → Rel (E.cut p) x v
  | .data _, _, _, h => h
  | .ptr _ _, _, k, ⟨b, e, r⟩ => ⟨b, (Env.cut_at k).trans e, r⟩
  | .row _, _, k, ⟨e, r⟩ => ⟨(Env.cut_at k).trans e, r⟩
  | .mp _, _, k, ⟨e, r⟩ => ⟨(Env.cut_at k).trans e, r⟩
  | .via _ _, _, k, ⟨x, e, r⟩ => ⟨x, (Env.cut_at k).trans e, r⟩
  | .fn _ first cap, _, k, ⟨fs, cs, e, h1, h2⟩ => by
    have k' : (okAs p first && okAs p cap) = true := k
    rw [Bool.and_eq_true] at k'
    exact ⟨fs, cs, e, Rels.cut k'.1 h1, Rels.cut k'.2 h2⟩
  | .agg cs, _, k, ⟨vs, e, h1, h2⟩ => ⟨vs, e, Rels.cut (xs := cs) k h1, h2⟩
  | .tup xs, _, k, ⟨vs, e, h1⟩ => ⟨vs, e, Rels.cut (xs := xs) k h1⟩
  | .when _ x, _, k, h => ⟨fun e => Rel.cut (x := x) k (h.1 e), h.2⟩
  | .any, _, _, _ => trivial
theorem Rels.cut {E : Env} {p : Nat → Bool} : ∀ {xs : List AV} {vs : List Value}, okAs p xs = true → Rels E xs vs → Rels (E.cut p) xs vs
  | [], _, _, h => h
  | x :: xs, _, k, ⟨u, us, e, h1, h2⟩ => by
    have k' : (okA p x && okAs p xs) = true := k
    rw [Bool.and_eq_true] at k'
    exact ⟨u, us, e, Rel.cut k'.1 h1, Rels.cut k'.2 h2⟩
end
mutual
theorem TRel.cut {E : Env} {p : Nat → Bool} {w : World} : ∀ {x : TC} {v : Value}, okC p x = true → TRel E w x v → TRel (E.cut p) w x v
  | .av _, _, k, h => Rel.cut k h
  | .own _ _ _ _, _, k, ⟨vs, ho, hr, h1⟩ => ⟨vs, ho, TRels.cut k hr, h1⟩
theorem TRels.cut {E : Env} {p : Nat → Bool} {w : World} : ∀ {xs : List TC} {vs : List Value}, okCs p xs = true → TRels E w xs vs → TRels (E.cut p) w xs vs
  | [], _, _, h => h
  | x :: xs, _, k, ⟨u, us, e, h1, h2⟩ => by
    have k' : (okC p x && okCs p xs) = true := k
    rw [Bool.and_eq_true] at k'
    exact ⟨u, us, e, TRel.cut (x := x) k'.1 h1, TRels.cut (xs := xs) k'.2 h2⟩
end
theorem ORel.cut {E : Env} {p : Nat → Bool} {w : World} : ∀ {o : AO} {v : Value}, okO p o = true → ORel E w o v → ORel (E.cut p) w o v
  | .cells _ _, _, k, ⟨b, vs, e, hb, hr, h1⟩ => ⟨b, vs, e, hb, Rels.cut k hr, h1⟩
  | .row _ _ _ _, _, k, ⟨vs, ho, hr, h1⟩ => ⟨vs, ho, Rels.cut k hr, h1⟩
  | .map _, _, k, ⟨r, ents, c, e, hb, hk, hr⟩ => ⟨r, ents, c, e, hb, hk, Rels.cut k hr⟩
  | .loop _ _ _ _ _ _, _, k, ⟨l, fn, tm, D, e, hb, hn, hr⟩ => ⟨l, fn, tm, D, e, hb, hn, Rels.cut k hr⟩
  | .obj _, _, _, h => h
  | .tree _ _ _ _, _, k, ⟨h1, h2⟩ => ⟨TRel.cut (x := .own _ _ _ _) k h1, h2⟩
theorem okAs_map (p : Nat → Bool) : ∀ cs : List D, okAs p (cs.map .data) = true
  | [] => rfl
  | c :: cs => by
    show (true && okAs p (cs.map .data)) = true
    rw [okAs_map p cs]
    rfl
def kept (h : List (Nat × HS)) (k : Nat) : Bool := match lkH h k with
  | .fresh => false
  | _ => true
def okH (p : Nat → Bool) : HS → Bool
  | .live o => okO p o
  | _ => true
structure DropH (np : Nat) (h h' : List (Nat × HS)) : Prop where
  st : ∀ k, lkH h' k = lkH h k ∨ lkH h' k = .dead ∨ lkH h' k = .fresh
  ok : ∀ k, okH (kept h') (lkH h' k) = true
  np : ∀ k, k < np → kept h' k = true
theorem EOk.drop {C : Cx} {E : Env} {h h' : List (Nat × HS)} {w : World} {np : Nat} (hO : EOk C E h w) (hn : ∀ k, np ≤ k → C.hd k = none) (hd : DropH np h h') : EOk C (E.cut (kept h')) h' w := by
  refine ⟨hO.f0, fun k v e => ?_, hO.fz, hO.fn, fun k => ?_, ?_, hO.w, hO.g⟩
  · have hk : k < np := by
      rcases Nat.lt_or_ge k np with h1 | h1
      · exact h1
      · rw [hn k h1] at e; cases e
    rw [Env.cut_at (hd.np k hk)]
    exact hO.hd k v e
  · have hok := hd.ok k
    rcases hd.st k with e | e | e
    · have := hO.hs k
      rw [e] at hok ⊢
      cases hs : lkH h k with
      | fresh =>
        show (E.cut (kept h')).φ k = none
        have : kept h' k = false := by simp [kept, e, hs]
        simp [Env.cut, this]
      | dead => trivial
      | live o =>
        rw [hs] at this hok
        obtain ⟨v, ev, ho, hnn⟩ := this
        have hk : kept h' k = true := by simp [kept, e, hs]
        exact ⟨v, (Env.cut_at hk).trans ev, ho.cut hok, hnn⟩
    · rw [e]; trivial
    · rw [e]
      show (E.cut (kept h')).φ k = none
      have : kept h' k = false := by simp [kept, e]
      simp [Env.cut, this]
  · intro i j oi oj hi hj b li lj ei ej bi bj
    have H : ∀ {i : Nat} {oi : AO}, lkH h' i = .live oi → lkH h i = .live oi ∧ kept h' i = true := by
      intro i oi li
      refine ⟨?_, by simp [kept, li]⟩
      rcases hd.st i with e | e | e
      · rw [← e]; exact li
      · rw [e] at li; cases li
      · rw [e] at li; cases li
    obtain ⟨li', ki⟩ := H li
    obtain ⟨lj', kj⟩ := H lj
    rw [Env.cut_at ki] at ei
    rw [Env.cut_at kj] at ej
    exact hO.inj i j oi oj hi hj b li' lj' ei ej bi bj
def FR (r : Option Nat) : Fence := { Fence.wide with round := r }
theorem callsIn_FR {r : Option Nat} {n : Nat} {f : FuncId} {args : Array Value} {w : World} {R : Ending → World → Prop} (h : Calls P f args w R) : CallsIn (FR r) n P f args w R := callsIn_wide.2 h
theorem calls_FR {n : Nat} {f : FuncId} {args : Array Value} {w : World} {R : Ending → World → Prop} (h : CallsIn (FR none) n P f args w R) : Calls P f args w R := callsIn_wide.1 h
theorem wp_FR {n : Nat} {c : Code} {Q : Exit → Act → World → Prop} {a : Act} {w : World} (h : c.wpIn (FR none) n P Q a w) : c.wp P Q a w := wpIn_wide.1 h
def noDefer (l : List Oper) : Bool := l.all fun o => match o.op with
  | .defer _ => false
  | _ => true
theorem noDefer_mem {l : List Oper} (h : noDefer l = true) {o : Oper} (ho : o ∈ l) : ∀ c, o.op ≠ .defer c := fun c e => by
  have := List.all_eq_true.1 h o ho
  rw [e] at this
  cases this
theorem oper_in {r : Option Nat} {o : Oper} {a : Act} {w : World} {next : Act → World → Prop} {Q : Exit → Act → World → Prop} (hd : ∀ c, o.op ≠ .defer c) (h : o.wp P a w next Q) : o.wpIn (FR r) 0 P a w next Q := by
  refine ⟨fun _ _ => trivial, ?_⟩
  rw [Oper.semAt_eq _ _ _ hd]
  unfold Oper.wp at h
  generalize (execOp a.eval o).run P w = res at *
  cases res with
  | ok n w' =>
    cases n <;> simp only [Oper.upon] at h <;> first
      | exact h
      | exact ⟨(fun e => Bool.noConfusion (show false = true from e)), callsIn_FR h⟩
      | exact ⟨(fun e => Bool.noConfusion (show false = true from e)), fun c cs _ => let ⟨v, w'', q, s⟩ := h c cs; ⟨v, w'', q, stepsIn_wide.2 s⟩⟩
      | exact absurd h id
  | halt x w' => cases x <;> simp only [Oper.upon] at h <;> first | exact h | exact absurd h id
theorem any_in {r : Option Nat} {l : List Oper} {Q : Exit → Act → World → Prop} (hq : ¬ LetsOut Q) (hd : noDefer l = true) : ∀ (fuel : Nat) (listed : Array Bool) {a : Act} {w : World}, wpAny P .any l.toArray Q fuel listed a w → wpAnyIn (FR r) 0 P .any l.toArray Q fuel listed a w
  | 0, _, _, _, h => h
  | n + 1, listed, a, w, h => by
    refine ⟨h.1, fun i hi => ?_⟩
    have := h.2 i hi
    unfold wpOp at this
    unfold wpOpIn
    cases ho : l.toArray[i]? with
    | none => rw [ho] at this; exact any_in hq hd n _ this
    | some o =>
      rw [ho] at this
      simp only at this ⊢
      have hm : o ∈ l := by
        have : l[i]? = some o := by simpa using ho
        exact List.mem_of_getElem? this
      split
      · rename_i hw
        rw [if_pos hw] at this
        rcases this with h | h
        · exact oper_in (noDefer_mem hd hm) (Oper.wp_mono (fun a' w' k => any_in hq hd n _ k) h)
        · exact absurd h.2 hq
      · rename_i hw
        rw [if_neg hw] at this
        exact ⟨fun _ _ => trivial, any_in hq hd n _ this⟩
def PQ (C : Cx) (Q : Exit → St → Prop) : Exit → Act → World → Prop := fun e a w => e ≠ .outgrown ∧ ∃ s', Q e s' ∧ Sat C s' a w
theorem PQ.noOut {C : Cx} {Q : Exit → St → Prop} : ¬ LetsOut (PQ C Q) := fun ⟨_, _, h, _⟩ => h rfl
def WC (P : Program) (K : GL) (nt np : Nat) (c : Code) (s : St) (Q : Exit → St → Prop) : Prop :=
  ∀ C : Cx, C.gl = K → C.nt = nt → (∀ k, np ≤ k → C.hd k = none) → ∀ (r : Option Nat) (a : Act) (w : World), Sat C s a w → c.wpIn (FR r) 0 P (PQ C Q) a w
def WL (P : Program) (K : GL) (nt np : Nat) (ops : Array Oper) (rest : List Oper) (s : St) (Q : Exit → St → Prop) : Prop :=
  noDefer rest = true → ∀ C : Cx, C.gl = K → C.nt = nt → (∀ k, np ≤ k → C.hd k = none) → ∀ (r : Option Nat) (a : Act) (w : World), Sat C s a w → wpListIn (FR r) 0 P ops (PQ C Q) rest a w
theorem noDefer_tl {o : Oper} {l : List Oper} (h : noDefer (o :: l) = true) : noDefer l = true := by
  rw [noDefer, List.all_cons, Bool.and_eq_true] at h
  exact h.2
def thenQ (R : St → Prop) (Q : Exit → St → Prop) : Exit → St → Prop
  | .normal, s => R s
  | e, s => Q e s
def blkQ (id : Nat) (Q : Exit → St → Prop) : Exit → St → Prop
  | .exit i, s => if i = id then Q .normal s else Q (.exit i) s
  | e, s => Q e s
def Ent (np : Nat) (s s' : St) : Prop := ∀ C : Cx, (∀ k, np ≤ k → C.hd k = none) → ∀ (a : Act) (w : World), Sat C s a w → Sat C s' a w
section
variable {nt np : Nat} {s : St} {Q : Exit → St → Prop}
theorem wc_mono {c : Code} {Q' : Exit → St → Prop} (h : WC P K nt np c s Q) (hq : ∀ e s', Q e s' → Q' e s') : WC P K nt np c s Q' :=
  fun C h1 h2 h3 r a w hs => wpIn_mono (h C h1 h2 h3 r a w hs) fun e a' w' ⟨ho, s', q, k⟩ => ⟨ho, s', hq _ _ q, k⟩
theorem wc_seq {x y : Code} (h : WC P K nt np x s (thenQ (fun s' => WC P K nt np y s' Q) Q)) : WC P K nt np (.seq x y) s Q := by
  intro C h1 h2 h3 r a w hs
  refine wpIn_seq (wpIn_mono (h C h1 h2 h3 r a w hs) ?_)
  rintro e a' w' ⟨ho, s', hq, k⟩
  cases e with
  | normal => exact hq C h1 h2 h3 r a' w' k
  | _ => exact ⟨ho, s', hq, k⟩
theorem wc_skip (h : Q .normal s) : WC P K nt np .skip s Q := fun C _ _ _ r a w hs => wpIn_skip ⟨by simp, s, h, hs⟩
theorem wc_exit {id : Nat} (h : Q (.exit id) s) : WC P K nt np (.exit id) s Q := fun C _ _ _ r a w hs => wpIn_exit ⟨by simp, s, h, hs⟩
theorem wc_ret (h : Q .ret s) : WC P K nt np .ret s Q := fun C _ _ _ r a w hs => wpIn_ret ⟨by simp, s, h, hs⟩
theorem wc_label {l : Nat} (h : Q .normal s) : WC P K nt np (.label l) s Q := fun C _ _ _ r a w hs => wpIn_label ⟨by simp, s, h, hs⟩
theorem wc_block {id : Nat} {c : Code} (h : WC P K nt np c s (blkQ id Q)) : WC P K nt np (.block id c) s Q := by
  intro C h1 h2 h3 r a w hs
  refine wpIn_block (wpIn_mono (h C h1 h2 h3 r a w hs) ?_)
  rintro e a' w' ⟨ho, s', hq, k⟩
  cases e with
  | exit i =>
    simp only [blkQ] at hq
    simp only [Exit.inBlock]
    split
    · rename_i hi
      rw [if_pos hi] at hq
      exact ⟨by simp, s', hq, k⟩
    · rename_i hi
      rw [if_neg hi] at hq
      exact ⟨by simp, s', hq, k⟩
  | _ => exact ⟨ho, s', hq, k⟩
theorem wc_cond {i : Nat} {b : Bool} {x y : Code} (hi : lkT s.t i = .data (.lit (.bool b))) (hx : b = true → WC P K nt np x s Q) (hy : b = false → WC P K nt np y s Q) : WC P K nt np (.cond (.tmp i) x y) s Q := by
  intro C h1 h2 h3 r a w hs
  obtain ⟨E, hO, hR⟩ := hs.ex
  have := hR i
  rw [hi] at this
  refine wpIn_cond_split (t := b) (lit_eq this) (fun e => hx e C h1 h2 h3 r a w hs) (fun e => hy e C h1 h2 h3 r a w hs)
theorem wc_ent {c : Code} {s' : St} (h : Ent np s s') (k : WC P K nt np c s' Q) : WC P K nt np c s Q := fun C h1 h2 h3 r a w hs => k C h1 h2 h3 r a w (h C h3 a w hs)
theorem Ent.refl (s : St) : Ent np s s := fun _ _ _ _ h => h
theorem Ent.trans {s s' s'' : St} (h : Ent np s s') (k : Ent np s' s'') : Ent np s s'' := fun C hn a w hs => k C hn a w (h C hn a w hs)
theorem wpIn_loop_ghost {F : Fence} {n : Nat} {Q : Exit → Act → World → Prop} {c : Code} {a : Act} {w : World} (I : Nat → Act → World → Prop) (m : Nat) (h₀ : I m a w)
    (round : ∀ j a w, I j a w → c.wpIn F n P (Exit.then (fun a' w' => ∃ i, i < j ∧ I i a' w') Q) a w) : (Code.loop c).wpIn F n P Q a w := by
  intro b k cs hro hb hr
  have key : ∀ j a w, I j a w →
      ∃ e a' w', Q e a' w' ∧ ArrivesIn (Machine.fenced P F) P (lone (b.atR a (.code c :: .inLoop c :: k)) cs w) b k cs e a' w' := by
    intro j
    induction j using Nat.strongRecOn with
    | _ j ih =>
      intro a w hI
      obtain ⟨e, a₁, w₁, hq, harr⟩ := round j a w hI b (.inLoop c :: k) cs hro hb hr
      cases e with
      | normal =>
        obtain ⟨i, hlt, hI₁⟩ := hq
        obtain ⟨e₂, a₂, w₂, hq₂, harr₂⟩ := ih i hlt a₁ w₁ hI₁
        exact ⟨e₂, a₂, w₂, hq₂, .of_steps (StepsIn.trans harr (.one (fenced_calm hb hr rfl) stepR_inLoop)) harr₂⟩
      | exit id => exact ⟨_, a₁, w₁, hq, .pass (x := .inLoop c) rfl (fun _ _ => .inl (by simp)) harr⟩
      | goto l => exact ⟨_, a₁, w₁, hq, .pass (x := .inLoop c) rfl (fun _ _ => .inl (by simp)) harr⟩
      | ret => exact ⟨_, a₁, w₁, hq, .pass (x := .inLoop c) rfl (fun _ _ => .inl (by simp)) harr⟩
      | panic ch => exact ⟨_, a₁, w₁, hq, .pass (x := .inLoop c) rfl (fun _ _ => .inl (by simp)) harr⟩
      | outgrown => exact ⟨_, a₁, w₁, hq, .pass (x := .inLoop c) rfl (fun _ _ => .inl (by simp)) harr⟩
  obtain ⟨e, a', w', hq, harr⟩ := key m a w h₀
  exact ⟨e, a', w', hq, .of_steps (.one (fenced_calm hb hr rfl) stepR_loop) harr⟩
theorem wc_loop {α : Type} {c : Code} (I : α → St) (J : α → Prop) (μ : α → Nat) (x0 : α) (hJ : J x0) (h0 : Ent np s (I x0))
    (round : ∀ x, J x → WC P K nt np c (I x) (thenQ (fun s' => ∃ y, J y ∧ μ y < μ x ∧ Ent np s' (I y)) Q)) : WC P K nt np (.loop c) s Q := by
  intro C h1 h2 h3 r a w hs
  refine wpIn_loop_ghost (fun n a w => ∃ x, J x ∧ μ x = n ∧ Sat C (I x) a w) (μ x0) ⟨x0, hJ, rfl, h0 C h3 a w hs⟩ ?_
  rintro n a w ⟨x, hx, rfl, hs⟩
  refine wpIn_mono (round x hx C h1 h2 h3 r a w hs) ?_
  rintro e a' w' ⟨ho, s', hq, k⟩
  cases e with
  | normal =>
    obtain ⟨y, hy, hm, he⟩ := hq
    exact ⟨μ y, hm, y, hy, rfl, he C h3 a' w' k⟩
  | _ => exact ⟨ho, s', hq, k⟩
theorem wc_region {id : Nat} {l : List Oper} (hnd : noDefer l = true) (h : WL P K nt np l.toArray l s Q) : WC P K nt np (.region id l.toArray false) s Q :=
  fun C h1 h2 h3 r a w hs => wpIn_region_lit (h hnd C h1 h2 h3 r a w hs)
theorem wl_nil {ops : Array Oper} (h : Q .normal s) : WL P K nt np ops [] s Q := fun _ C _ _ _ _ a w hs => wpListIn_nil ⟨by simp, s, h, hs⟩
theorem Oper.upon_no {o : Oper} {a : Act} {next : Act → World → Prop} {Q' : Exit → Act → World → Prop} {w : World} (h : o.wp P a w next (fun _ _ _ => False)) : o.wp P a w next Q' := by
  unfold Oper.wp at *
  generalize (execOp a.eval o).run P w = r at *
  cases r with
  | ok n w' =>
    cases n <;> simp only [Oper.upon] at h ⊢ <;>
      first
        | exact h
        | exact Calls.mono h (fun e w'' he => by cases e <;> first | exact he | exact absurd he id | (obtain ⟨_, _, hf⟩ := he; exact absurd hf id))
  | halt x w' => cases x <;> simp only [Oper.upon] at h
theorem wl_step {ops : Array Oper} {o : Oper} {rest : List Oper} {rT : List (Nat × AV)} {rH : List (Nat × HS)} {x : AV} {wH : List (Nat × HS)} (ho : LAct P K o rT rH x wH) (hT : chkT s.t rT) (hH : chkH s.h rH) (hd : inT o.dst nt)
    (h : WL P K nt np ops rest ⟨putT o.dst x s.t, wH ++ s.h⟩ Q) (hg : o.guard = none) : WL P K nt np ops (o :: rest) s Q := by
  intro hnd C h1 h2 h3 r a w hs
  refine wpListIn_plain hg fun K' hK' => ?_
  exact oper_in (noDefer_mem hnd (by simp)) (Oper.wp_mono (fun a' w' hs' => hK' a' w' (h (noDefer_tl hnd) C h1 h2 h3 r a' w' hs')) (Oper.upon_no (ho C s a w h1 hT hH (h2 ▸ hd) hs)))
end
def FnOk (P : Program) (K : GL) (f : FuncId) (args : List AV) (pre : List (Nat × HS)) (ret : AV) (post : List (Nat × HS)) : Prop :=
  ∀ (C : Cx) (E : Env) (vs : List Value), C.gl = K → C.F0 = E.F → (∀ k v, E.φ k = some v → C.hd k = some v) → (∀ k, kept pre k = false → C.hd k = none) → EOk C E pre C.w0 → Rels E args vs →
    Calls P f vs.toArray C.w0 fun e w' => ∃ v E', e = .returned v ∧ Rel E' ret v ∧ EOk C E' post w'
inductive RV (P : Program) (s : St) : ResultVar → AV → Prop
  | tmp {t : Tmp} {x : AV} : lkT s.t t = x → RV P s (.tmp t) x
  | cell {a : Tmp} {t ct : TypeId} {k off : Nat} {cs : List AV} {x : AV} : Ty P t 1 false → lkT s.t a = .ptr k off → lkH s.h k = .live (.cells ct cs) → cs[off]? = some x → RV P s (.cell a t) x
  | agg {a : Tmp} {t ct : TypeId} {k off n : Nat} {cs : List AV} : Ty P t n true → lkT s.t a = .ptr k off → lkH s.h k = .live (.cells ct cs) → off + n ≤ cs.length → RV P s (.cell a t) (.agg ((cs.drop off).take n))
def RVs (P : Program) (s : St) : List ResultVar → List AV → Prop
  | [], [] => True
  | r :: rs, x :: xs => RV P s r x ∧ RVs P s rs xs
  | _, _ => False
def retOf : List AV → AV
  | [x] => x
  | xs => .tup xs
def rvSem (tm : Array Value) : ResultVar → Sem Value
  | .tmp t => pure (tm.getD t undef)
  | .cell b t => do loadVar t (← asAddr (tm.getD b undef))
theorem results_eq (fn : Func) (tm : Array Value) : results fn tm = (do
    let vs ← fn.results.mapM (rvSem tm)
    pure (if h : vs.size = 1 then vs[0] else .tuple vs)) := rfl
theorem RV_run {C : Cx} {s : St} {E : Env} {a : Act} {w : World} (hO : EOk C E s.h w) (hR : ∀ t, Rel E (lkT s.t t) (a.tmps.getD t undef)) {r : ResultVar} {x : AV} (h : RV P s r x) :
    ∃ v, (rvSem a.tmps r).run P w = .ok v w ∧ Rel E x v := by
  cases h with
  | tmp e =>
    subst e
    exact ⟨_, rfl, hR _⟩
  | cell ht ha hk hx =>
    rename_i sl t ct k off cs
    have h1 := hR sl
    rw [ha] at h1
    obtain ⟨b, vs, e, hw, hr, _⟩ := own_cells h1 (relH_of hO (r := [(k, .live (.cells ct cs))]) ⟨hk, trivial⟩)
    obtain ⟨u, hu, hy⟩ := hr.get hx
    have hc := cell_at hw hu
    exact ⟨u, by simp [rvSem, e, asAddr, loadVar, ht.agg, hc], hy⟩
  | agg ht ha hk hl =>
    rename_i sl t ct k off n cs
    have h1 := hR sl
    rw [ha] at h1
    obtain ⟨b, vs, e, hw, hr, h1'⟩ := own_cells h1 (relH_of hO (r := [(k, .live (.cells ct cs))]) ⟨hk, trivial⟩)
    have hll : ((vs.drop off).take n).length = n := by have := hr.length; simp; omega
    have := run_loadCells_list (P := P) w ⟨b, off, none⟩ ((vs.drop off).take n) (fun j v ej => by
      rw [List.getElem?_take] at ej
      split at ej
      · rw [List.getElem?_drop] at ej
        have hc := cell_at hw ej
        unfold Addr.add
        split
        · rename_i h0; subst h0; exact hc
        · exact hc
      · cases ej)
    rw [hll] at this
    exact ⟨.agg ((vs.drop off).take n).toArray, by simp [rvSem, e, asAddr, loadVar, ht.agg, ht.size, this], _, rfl, (hr.drop off).take n, fun u hu => h1' u (List.mem_of_mem_drop (List.mem_of_mem_take hu))⟩
theorem RVs_run {C : Cx} {s : St} {E : Env} {a : Act} {w : World} (hO : EOk C E s.h w) (hR : ∀ t, Rel E (lkT s.t t) (a.tmps.getD t undef)) : ∀ {rs : List ResultVar} {xs : List AV}, RVs P s rs xs →
    ∃ vs : List Value, (rs.mapM (rvSem a.tmps)).run P w = .ok vs w ∧ Rels E xs vs
  | [], [], _ => ⟨[], rfl, rfl⟩
  | r :: rs, x :: xs, h => by
    obtain ⟨v, hv, hx⟩ := RV_run hO hR h.1
    obtain ⟨vs, hvs, hxs⟩ := RVs_run hO hR h.2
    exact ⟨v :: vs, by simp [List.mapM_cons, hv, hvs], v, vs, rfl, hx, hxs⟩
  | [], _ :: _, h => absurd h id
  | _ :: _, [], h => absurd h id
def args0 : Nat → List AV → List (Nat × AV)
  | _, [] => []
  | i, x :: xs => (i, x) :: args0 (i + 1) xs
theorem args0_rel {E : Env} : ∀ {xs : List AV} {vs : List Value} (i : Nat) (tm : Nat → Value), Rels E xs vs → (∀ j v, vs[j]? = some v → tm (i + j) = v) → ∀ t, Rel E (lkT (args0 i xs) t) (tm t)
  | [], _, _, _, _, _, _ => trivial
  | x :: xs, _, i, tm, h, hv, t => by
    obtain ⟨u, us, rfl, hu, hr⟩ := h
    simp only [args0, lkT]
    split
    · rename_i e
      subst e
      have := hv 0 u rfl
      rw [Nat.add_zero] at this
      rw [this]
      exact hu
    · exact args0_rel (i + 1) tm hr (fun j v e => by have := hv (j + 1) v (by simpa using e); rwa [show i + (j + 1) = i + 1 + j by omega] at this) t
end Go.Proofs.YtgmpgoafokdcbaaGreatDoor.Sx
