/- Iterators: rounds, ranges over functions. -/
import Derived.Test.YtgmpgoafokdcbaaGreatDoorSyi
import Derived.RangeFuncLeaves
import Derived.RangeFuncSeq
set_option linter.unusedVariables false
namespace Go.Proofs.YtgmpgoafokdcbaaGreatDoor.Sx
open Go Go.RowKit
variable {P : Program} {K : GL}
def YOk (P : Program) (K : GL) (args : List AV) (pre : List (Nat × HS)) (ret : AV) (post : List (Nat × HS)) : Prop :=
  ∀ (C : Cx) (E : Env) (vs : List Value) (l : Nat), C.gl = K → C.F0 = E.F → (∀ k v, E.φ k = some v → C.hd k = some v) → (∀ k, kept pre k = false → C.hd k = none) → EOk C E pre C.w0 → Rels E args vs → E.φ 0 = some (.func (.yield l) #[] #[]) →
    ∃ fn tmps asg body, (Instr.yield l vs.toArray).run P C.w0 = .ok (.round l fn tmps asg body) C.w0 ∧ RoundIn Fence.wide 0 P l fn tmps asg body C.w0 (fun e w' => ∃ v E', e = .returned v ∧ Rel E' ret v ∧ EOk C E' post w')
theorem yield_sat {ids : List Nat} {args : List AV} {pre post : List (Nat × HS)} {ret : AV} (h : YOk P K args pre ret post) (hc : CallOk ids args pre ret post) (h0 : kept pre 0 = true) {C : Cx} {E : Env} {s : List (Nat × HS)} {w : World} {vs : List Value} {l : Nat} (hK : C.gl = K)
    (hO : EOk C E s w) (hv : Rels E (renAs (rOf ids) args) vs) (hp : chkH s (renH (rOf ids) pre)) (hl : E.φ (rOf ids 0) = some (.func (.yield l) #[] #[])) :
    ∃ fn tmps asg body, (Instr.yield l vs.toArray).run P w = .ok (.round l fn tmps asg body) w ∧ RoundIn Fence.wide 0 P l fn tmps asg body w (fun e w' => ∃ v E', e = .returned v ∧ Env.le E E' ∧ Rel E' (renA (rOf ids) ret) v ∧ EOk C E' (renH (rOf ids) post ++ s) w') := by
  obtain ⟨Cl, El, h1, _, rfl, h3, h4, h5, h6, h7, hx, h8⟩ := call_core hc hK hO hv hp
  obtain ⟨fn, tmps, asg, body, hy, hR⟩ := h Cl El vs l h1 h3 h4 h5 h6 h7 (hx 0 _ h0 hl)
  refine ⟨fn, tmps, asg, body, hy, hR.mono ?_⟩
  rintro e w' ⟨v, E1, rfl, hr, hE⟩
  obtain ⟨E', k1, k2, k3⟩ := h8 v E1 w' hr hE
  exact ⟨v, E', rfl, k1, k2, k3⟩
def yR (h v : Value) : Prop := v = h
theorem wl_y {nt np : Nat} {ops : Array Oper} {rest : List Oper} {s : St} {Q : Exit → St → Prop} {dst : Option Tmp} {ty : TypeId} {pos : String} {after : Array Edge} {ids : List Nat} {args vs : List AV} {pre post : List (Nat × HS)} {ret : AV} {x : Operand} {xs : Array Operand} {ats : Array TypeId}
    {ps : Array Tmp} {asg body : Code} {n : Nat} {ts : List (Nat × AV)} {q : Nat}
    (h : YOk P K args pre ret post) (hc : CallOk ids args pre ret post) (h0 : lkH pre 0 = .live (.loop ps asg body n ts q)) (hi : 0 < ids.length) (hx : OV x (.via (rOf ids 0) yR)) (ha : renAs (rOf ids) args = vs) (hv : OVs xs.toList vs)
    (hT : chkT s.t (rdO x (.via (rOf ids 0) yR) ++ rdOs xs.toList vs)) (hH : chkH s.h (renH (rOf ids) pre)) (hd : inT dst nt)
    (hn : WL P K nt np ops rest ⟨putT dst (renA (rOf ids) ret) s.t, renH (rOf ids) post ++ s.h⟩ Q) :
    WL P K nt np ops (⟨dst, .call { callee := .value x, args := xs, argTypes := ats }, ty, pos, after, none⟩ :: rest) s Q := by
  subst ha
  intro hnd C h1 h2 h3 r a w hs
  refine wpListIn_plain rfl fun K' hK' => ?_
  obtain ⟨hdf, hsz, E, hO, hR⟩ := hs
  have hT' := relT_append.1 (relT_of hR hT)
  have hxs := rdOs_rel hT'.2 hv
  obtain ⟨hh, hφ, hyv, _⟩ := rdO_rel hT'.1 hx
  have hstp : lkH s.h (rOf ids 0) = renS (rOf ids) (lkH pre 0) := chkH_renH hH (by rw [hc.kp]; exact List.mem_range.2 hi)
  have hlv := hO.hs (rOf ids 0)
  rw [hstp, h0] at hlv
  obtain ⟨hh', hφ', ⟨l, fn', tm', D, e1, hb, _⟩, _⟩ := hlv
  rw [hφ] at hφ'
  cases hφ'
  have hfv : a.eval x = .func (.yield l) #[] #[] := hyv.trans e1
  obtain ⟨fn, tmps, asg, body, hy, hRd⟩ := yield_sat h hc (by simp [kept, h0]) (h1) hO hxs hH (hφ.trans (congrArg some e1))
  refine ⟨fun _ _ => trivial, ?_⟩
  rw [Oper.semAt_eq _ _ _ (fun c => by simp)]
  have hex : (execOp a.eval ⟨dst, .call { callee := .value x, args := xs, argTypes := ats }, ty, pos, after, none⟩).run P w = .ok (.round l fn tmps asg body) w := by
    simp only [execOp, resolve, hfv, Deferred.ofValue, Sem.run_bind, Sem.run_pure, Result.andThen_ok, invoke]
    have e1 : (#[] ++ xs.map a.eval : Array Value) = (xs.toList.map a.eval).toArray := by apply Array.ext'; simp
    rw [e1]
    exact hy
  rw [hex, Oper.uponIn_round]
  refine ⟨fun e => Bool.noConfusion (show false = true from e), RoundIn.mono (F := FR r) hRd ?_⟩
  rintro e w' ⟨v, E', rfl, hle, hr, hO'⟩
  exact hK' _ _ (hn (noDefer_tl hnd) C h1 h2 h3 r _ _ (Sat.put hdf hsz hR hle hO' (h2 ▸ hd) hr))
def upd (ps : List Tmp) (vs : List Value) (t : Array Value) : Array Value := (ps.zip vs).foldl (fun t p => t.setIfInBounds p.1 p.2) t
def updT : List Tmp → List AV → List (Nat × AV) → List (Nat × AV)
  | p :: ps, x :: xs, ts => updT ps xs ((p, x) :: ts)
  | _, _, ts => ts
theorem upd_size : ∀ (ps : List Tmp) (vs : List Value) (t : Array Value), (upd ps vs t).size = t.size
  | [], _, _ => rfl
  | _ :: _, [], _ => rfl
  | p :: ps, v :: vs, t => by
    show (upd ps vs (t.setIfInBounds p v)).size = _
    rw [upd_size ps vs, Array.size_setIfInBounds]
theorem upd_rel {E : Env} : ∀ (ps : List Tmp) (xs : List AV) (vs : List Value) (ts : List (Nat × AV)) (t : Array Value), (ps.all fun p => Nat.blt p t.size) = true → Rels E xs vs → (∀ i, Rel E (lkT ts i) (t.getD i undef)) → ∀ i, Rel E (lkT (updT ps xs ts) i) ((upd ps vs t).getD i undef)
  | [], [], _, _, _, _, _, h, i => h i
  | [], _ :: _, _, _, _, _, _, h, i => h i
  | _ :: _, [], _, _, _, _, hv, h, i => by
    rw [show _ = [] from hv]
    exact h i
  | p :: ps, x :: xs, _, ts, t, hp, hv, h, i => by
    obtain ⟨u, us, rfl, h1, h2⟩ := hv
    rw [List.all_cons, Bool.and_eq_true] at hp
    refine upd_rel ps xs us ((p, x) :: ts) (t.setIfInBounds p u) (by simpa using hp.2) h2 (fun j => ?_) i
    have hlt : p < t.size := by simpa [Nat.blt_eq] using hp.1
    simp only [lkT, Array.getD_eq_getD_getElem?, Array.getElem?_setIfInBounds]
    by_cases e : p = j
    · subst e; simp [hlt]; exact h1
    · simp only [e, if_false]
      have := h j
      rwa [Array.getD_eq_getD_getElem?] at this
theorem ts_rel {E : Env} {g : Nat → Value} : ∀ {ts : List (Nat × AV)}, Rels E (ts.map (·.2)) (ts.map fun p => g p.1) → ∀ i, Rel E (lkT ts i) (g i)
  | [], _, _ => trivial
  | (j, x) :: l, h, i => by
    obtain ⟨u, us, e, h1, h2⟩ := h
    simp only [List.map_cons, List.cons.injEq] at e
    obtain ⟨rfl, rfl⟩ := e
    simp only [lkT]
    split
    · rename_i e; subst e; exact h1
    · exact ts_rel h2 i
theorem ts_of {E : Env} {g : Nat → Value} {t : List (Nat × AV)} (h : ∀ i, Rel E (lkT t i) (g i)) : ∀ {ts : List (Nat × AV)}, chkT t ts → Rels E (ts.map (·.2)) (ts.map fun p => g p.1)
  | [], _ => rfl
  | (j, x) :: l, hc => ⟨_, _, rfl, hc.1 ▸ h j, ts_of h hc.2⟩
theorem loop_turn {C : Cx} {E : Env} {h : List (Nat × HS)} {w : World} {k : Nat} {ps : Array Tmp} {asg body : Code} {nt : Nat} {ts : List (Nat × AV)} {q : Nat} {l : Nat} (hO : EOk C E h w) (hk : lkH h k = .live (.loop ps asg body nt ts q)) (hl : E.φ k = some (.func (.yield l) #[] #[])) :
    ∃ fn, ∃ tmps : Array Value, ∃ D, w.heap[l]? = some (.loop { state := qS q, pending := qP q, fn := fn, tmps := tmps, params := ps, assign := asg, body := body, defers := D }) ∧ tmps.size = nt ∧ Rels E (ts.map (·.2)) (ts.map fun p => tmps.getD p.1 undef) ∧
      (∀ q', EOk C E ((k, .live (.loop ps asg body nt ts q')) :: h) (w.putObj l (.loop { state := qS q', pending := qP q', fn := fn, tmps := tmps, params := ps, assign := asg, body := body, defers := D }))) ∧
      ∀ o, EOk C E ((k, .live (.obj o)) :: h) (w.putObj l o) := by
  have hs := hO.hs k
  rw [hk] at hs
  obtain ⟨v, hv, ⟨l', fn, tm, D, e, hb, hn, hr⟩, _⟩ := hs
  rw [hl] at hv
  cases hv
  cases e
  have hlt := some_lt hb
  refine ⟨fn, tm, D, hb, hn, hr, fun q' => ?_, fun o => ?_⟩
  · exact hO.write hk hl rfl (fun i hi => World.putObj_heap_other hi) (by simp [World.putObj]) rfl rfl rfl ⟨l, fn, tm, D, rfl, World.putObj_heap_same hlt, hn, hr⟩
  · exact hO.write hk hl rfl (fun i hi => World.putObj_heap_other hi) (by simp [World.putObj]) rfl rfl rfl ⟨l, rfl, World.putObj_heap_same hlt⟩
def qOf : Exit → Option Nat
  | .normal => some 0
  | .ret => some 2
  | .exit i => some (i + 3)
  | _ => none
def YQ (ps : Array Tmp) (asg body : Code) (nt : Nat) (ts : List (Nat × AV)) (np : Nat) (ret : AV) (post : List (Nat × HS)) (e : Exit) (s : St) : Prop :=
  ∃ q, qOf e = some q ∧ lkH s.h 0 = .live (.loop ps asg body nt ts 1) ∧ RetE np ((0, .live (.loop ps asg body nt ts q)) :: s.h) (.data (.lit (.bool (Nat.beq q 0)))) ret post
theorem y_w {ps : Array Tmp} {asg body : Code} {nt np : Nat} {ts T : List (Nat × AV)} {args : List AV} {pre pre0 post : List (Nat × HS)} {ret : AV} {q : Nat} (hq : Nat.beq q 0 = true) (hpre : pre = (0, .live (.loop ps asg body nt ts q)) :: pre0) (hnp : ∀ k, np ≤ k → kept pre k = false) (hal : args.length = ps.size) (hps : (ps.toList.all fun p => Nat.blt p nt) = true)
    (hT : updT ps.toList args ts = T)
    (h : WC P K nt np asg ⟨T, (0, .live (.loop ps asg body nt ts 0)) :: pre0⟩ (thenQ (fun s1 => lkH s1.h 0 = .live (.loop ps asg body nt ts 0) ∧ WC P K nt np body ⟨s1.t, (0, .live (.loop ps asg body nt ts 1)) :: s1.h⟩ (YQ ps asg body nt ts np ret post)) (fun _ _ => False))) : YOk P K args pre ret post := by
  obtain rfl := Nat.eq_of_beq_eq_true hq
  subst hpre hT
  intro C E vs l hK hF hφ hhd hO hA hl
  let C' : Cx := { C with nt := nt, df := [] }
  have up : ∀ {E' : Env} {h' : List (Nat × HS)} {w' : World}, EOk C E' h' w' → EOk C' E' h' w' := fun k => ⟨k.f0, k.hd, k.fz, k.fn, fun i => by
    have := k.hs i
    cases hs : lkH _ i <;> rw [hs] at this <;> exact this, k.inj, ⟨k.w.os, k.w.tape, k.w.output, k.w.size, k.w.block⟩, k.g⟩
  have dn : ∀ {E' : Env} {h' : List (Nat × HS)} {w' : World}, EOk C' E' h' w' → EOk C E' h' w' := fun k => ⟨k.f0, k.hd, k.fz, k.fn, fun i => by
    have := k.hs i
    cases hs : lkH _ i <;> rw [hs] at this <;> exact this, k.inj, ⟨k.w.os, k.w.tape, k.w.output, k.w.size, k.w.block⟩, k.g⟩
  have hn : ∀ k, np ≤ k → C'.hd k = none := fun k hk => hhd k (hnp k hk)
  have hk0 : lkH ((0, HS.live (.loop ps asg body nt ts 0)) :: pre0) 0 = .live (.loop ps asg body nt ts 0) := rfl
  obtain ⟨fn, tm, D, hb, hsz, hr, _, _⟩ := loop_turn hO hk0 hl
  have hd0 : C'.hd 0 = some (.func (.yield l) #[] #[]) := hφ 0 _ hl
  have hvl := hA.length
  refine ⟨fn, upd ps.toList vs tm, asg, body, ?_, roundIn_of_wpIn trivial ?_⟩
  · have := run_yield (P := P) (args := vs.toArray) hb (by simp [hvl, hal])
    rw [this]
    congr 2
    simp only [upd, ← Array.foldl_toList, Array.toList_zip]
  have hsat : Sat C' ⟨updT ps.toList args ts, (0, .live (.loop ps asg body nt ts 0)) :: pre0⟩ { tmps := upd ps.toList vs tm, defers := [] } C.w0 :=
    ⟨rfl, (upd_size _ _ _).trans hsz, E, up hO, upd_rel ps.toList args vs ts tm (by rw [hsz]; exact hps) hA (ts_rel (g := fun i => tm.getD i undef) hr)⟩
  refine wpIn_mono (h C' hK rfl hn (some l) _ _ hsat) ?_
  rintro e a1 w1 ⟨hno, s1, hq, hs1⟩
  cases e with
  | normal =>
    obtain ⟨hk1, hw⟩ := hq
    obtain ⟨hdf1, hsz1, E1, hO1, hR1⟩ := hs1
    have hl1 : E1.φ 0 = some (.func (.yield l) #[] #[]) := hO1.hd 0 _ hd0
    obtain ⟨fn1, tm1, D1, hb1, hn1, hr1, ht1, _⟩ := loop_turn hO1 hk1 hl1
    refine ⟨_, run_beginRound hb1 rfl, wpIn_mono (hw C' hK rfl hn (some l) a1 _ ⟨hdf1, hsz1, E1, ht1 1, hR1⟩) ?_⟩
    rintro e a3 w3 ⟨_, s3, ⟨q, hqe, hk3, hret⟩, hs3⟩
    obtain ⟨hdf3, hsz3, E3, hO3, hR3⟩ := hs3
    have hl3 : E3.φ 0 = some (.func (.yield l) #[] #[]) := hO3.hd 0 _ hd0
    obtain ⟨fn3, tm3, D3, hb3, hn3, hr3, ht3, _⟩ := loop_turn hO3 hk3 hl3
    have fin : ∀ b : Bool, b = Nat.beq q 0 → ∃ v E', Ending.returned (Value.bool b) = .returned v ∧ Rel E' ret v ∧ EOk C E' post (w3.putObj l (.loop { state := qS q, pending := qP q, fn := fn3, tmps := tm3, params := ps, assign := asg, body := body, defers := D3 })) := by
      rintro b rfl
      obtain ⟨E4, h4, h5⟩ := hret C' E3 _ (.bool (Nat.beq q 0)) hn (ht3 q) ⟨rfl, rfl⟩
      exact ⟨_, E4, rfl, h5, dn h4⟩
    cases e with
    | normal =>
      cases hqe
      exact ⟨_, _, run_endRound none hb3, fin true rfl⟩
    | ret =>
      cases hqe
      exact ⟨_, _, run_endRound (some .ret) hb3, fin false rfl⟩
    | exit i =>
      cases hqe
      exact ⟨_, _, run_endRound (some (.exit i)) hb3, fin false rfl⟩
    | _ => cases hqe
  | _ => exact absurd hq id
def Marks (C : Cx) (E : Env) (h : List (Nat × HS)) (w : World) (ds : List Deferred) : Prop :=
  ds = [] ∨ ∃ D, ds = [{ target := .collected D, args := #[] }] ∧ w.heap[D]? = some (.deferred (some [])) ∧ C.w0.heap.size ≤ D ∧ E.F D = none ∧ ∀ k o v, lkH h k = .live o → E.φ k = some v → ¬ oblk w o v D
structure SatZ (C : Cx) (s : St) (a : Act) (w : World) : Prop where
  sz : a.tmps.size = C.nt
  ex : ∃ E, EOk C E s.h w ∧ (∀ t, Rel E (lkT s.t t) (a.tmps.getD t undef)) ∧ Marks C E s.h w a.defers
def WZ (P : Program) (K : GL) (nt np : Nat) (c : Code) (s : St) (Q : Exit → St → Prop) : Prop :=
  ∀ C : Cx, C.gl = K → C.nt = nt → C.df = [] → (∀ k, np ≤ k → C.hd k = none) → ∀ (a : Act) (w : World), Sat C s a w → c.wpIn (FR none) 0 P (fun e a w => e ≠ .outgrown ∧ ∃ s', Q e s' ∧ SatZ C s' a w) a w
theorem Sat.z {C : Cx} {s : St} {a : Act} {w : World} (h : Sat C s a w) (hd : C.df = []) : SatZ C s a w := by
  obtain ⟨hdf, hsz, E, hO, hR⟩ := h
  exact ⟨hsz, E, hO, hR, .inl (hdf.trans hd)⟩
theorem wz_seq {nt np : Nat} {x y : Code} {s : St} {Q : Exit → St → Prop} (h : WC P K nt np x s (thenQ (fun s' => WZ P K nt np y s' Q) Q)) : WZ P K nt np (.seq x y) s Q := by
  intro C h1 h2 hd h3 a w hs
  refine wpIn_seq (wpIn_mono (h C h1 h2 h3 none a w hs) ?_)
  rintro e a' w' ⟨ho, s', hq, k⟩
  cases e with
  | normal => exact hq C h1 h2 hd h3 a' w' k
  | _ => exact ⟨ho, s', hq, k.z hd⟩
theorem EOk.forget {C : Cx} {E : Env} {h : List (Nat × HS)} {w : World} (hO : EOk C E h w) (k : Nat) : EOk C E ((k, .dead) :: h) w := by
  have key : ∀ {i o}, lkH ((k, HS.dead) :: h) i = .live o → lkH h i = .live o := by
    intro i o e
    by_cases hi : i = k
    · subst hi; rw [lkH_cons_self] at e; cases e
    · rwa [lkH_cons_ne _ _ hi] at e
  refine ⟨hO.f0, hO.hd, hO.fz, hO.fn, fun i => ?_, fun i j oi oj hi hj b li lj => hO.inj i j oi oj hi hj b (key li) (key lj), hO.w, hO.g⟩
  by_cases hi : i = k
  · subst hi; rw [lkH_cons_self]; trivial
  · rw [lkH_cons_ne _ _ hi]; exact hO.hs i
def Cx.at (C : Cx) (E : Env) (h : List (Nat × HS)) (w : World) (ds : List Deferred) : Cx :=
  { C with w0 := w, F0 := E.F, own := fun b => ∃ k o v, lkH h k = .live o ∧ E.φ k = some v ∧ oblk w o v b, df := ds }
theorem EOk.fresh {C : Cx} {E : Env} {h : List (Nat × HS)} {w : World} (hO : EOk C E h w) (ds : List Deferred) : EOk (C.at E h w ds) E h w := by
  refine ⟨FH.le_refl _, hO.hd, hO.fz, fun b o e => .inl e, fun i => ?_, hO.inj, ⟨rfl, rfl, rfl, Nat.le_refl _, fun _ _ _ => rfl⟩, hO.g⟩
  have := hO.hs i
  cases hs : lkH h i with
  | fresh => rw [hs] at this; exact this
  | dead => trivial
  | live o =>
    rw [hs] at this
    obtain ⟨v, e, ho, hn⟩ := this
    exact ⟨v, e, ho, fun b hb => ⟨(hn b hb).1, .inl ⟨i, o, v, hs, e, hb⟩⟩⟩
theorem EOk.back {C : Cx} {E E2 : Env} {h h2 : List (Nat × HS)} {w w2 : World} {ds : List Deferred} (hO : EOk C E h w) (k : EOk (C.at E h w ds) E2 h2 w2) : EOk C E2 h2 w2 := by
  have own : ∀ {b}, (C.at E h w ds).own b → C.own b ∨ C.w0.heap.size ≤ b := by
    rintro b ⟨i, o, v, hs, e, hb⟩
    have := hO.hs i
    rw [hs] at this
    obtain ⟨v', e', _, hn⟩ := this
    rw [e] at e'
    cases e'
    exact (hn b hb).2
  refine ⟨FH.le_trans hO.f0 k.f0, k.hd, k.fz, fun b o e => ?_, fun i => ?_, k.inj, ⟨k.w.os.trans hO.w.os, k.w.tape.trans hO.w.tape, k.w.output.trans hO.w.output, Nat.le_trans hO.w.size k.w.size, fun b hb ho => (k.w.block b (Nat.lt_of_lt_of_le hb hO.w.size) (fun e => ?_)).trans (hO.w.block b hb ho)⟩, k.g⟩
  · rcases k.fn b o e with h1 | h1 | h1
    · exact hO.fn b o h1
    · exact .inr (.inl (Nat.le_trans hO.w.size h1))
    · exact .inr ((own h1).symm)
  · have := k.hs i
    cases hs : lkH h2 i with
    | fresh => rw [hs] at this; exact this
    | dead => trivial
    | live o =>
      rw [hs] at this
      obtain ⟨v, e, ho, hn⟩ := this
      refine ⟨v, e, ho, fun b hb => ⟨(hn b hb).1, ?_⟩⟩
      rcases (hn b hb).2 with h1 | h1
      · exact own h1
      · exact .inr (Nat.le_trans hO.w.size h1)
  · rcases own e with h1 | h1
    · exact ho h1
    · omega
def WB (P : Program) (K : GL) (nt np : Nat) (B Z : Code) (s : St) (Q : Exit → St → Prop) : Prop :=
  ∀ C : Cx, C.gl = K → C.nt = nt → C.df = [] → (∀ k, np ≤ k → C.hd k = none) → ∀ (a : Act) (w : World), Sat C s a w →
    B.wpIn (FR none) 0 P (Exit.then (Z.wpIn (FR none) 0 P (fun e a w => e ≠ .outgrown ∧ ∃ s', Q e s' ∧ SatZ C s' a w)) (fun e a w => e ≠ .outgrown ∧ ∃ s', Q e s' ∧ SatZ C s' a w)) a w
theorem wz_pre {nt np : Nat} {R B Z : Code} {s : St} {Q : Exit → St → Prop} (h : WC P K nt np R s (thenQ (fun s' => WB P K nt np B Z s' Q) Q)) : WZ P K nt np (.seq (.seq R B) Z) s Q := by
  intro C h1 h2 hd h3 a w hs
  refine wpIn_seq (wpIn_seq (wpIn_mono (h C h1 h2 h3 none a w hs) ?_))
  rintro e a' w' ⟨ho, s', hq, k⟩
  cases e with
  | normal => exact hq C h1 h2 hd h3 a' w' k
  | _ => exact ⟨ho, s', hq, k.z hd⟩
theorem wb_range {nt np : Nat} {id kL kD : Nat} {i : Tmp} {ps : Array Tmp} {asg body Z : Code} {t ts : List (Nat × AV)} {h : List (Nat × HS)} {Q : Exit → St → Prop} {gf : FuncId} {cap args : List AV} {ids : List Nat} {pre post : List (Nat × HS)} {ret : AV} {q : Nat}
    (hc : FnOk P K gf args pre ret post) (he : Ent1 P gf) (hk : CallOk (kL :: ids) args pre ret post) (hg : lkT t i = .fn (.func gf) [] cap) (ha : renAs (rOf (kL :: ids)) args = .via kL yR :: cap)
    (hL : lkH h kL = .fresh) (hD : lkH h kD = .fresh) (hne : kL ≠ kD) (hts : chkT t ts) (hpre : chkH ((kL, .live (.loop ps asg body nt ts 0)) :: (kD, .live (.obj (.deferred (some [])))) :: h) (renH (rOf (kL :: ids)) pre))
    (hpost : lkH (renH (rOf (kL :: ids)) post ++ (kL, .live (.loop ps asg body nt ts 0)) :: (kD, .live (.obj (.deferred (some [])))) :: h) kL = .live (.loop ps asg body nt ts q))
    (hpD : lkH (renH (rOf (kL :: ids)) post ++ (kL, .live (.loop ps asg body nt ts 0)) :: (kD, .live (.obj (.deferred (some [])))) :: h) kD = .live (.obj (.deferred (some []))))
    (hq : (q = 0 ∧ WC P K nt np Z ⟨t, (kD, .dead) :: (kL, .dead) :: renH (rOf (kL :: ids)) post ++ (kL, .live (.loop ps asg body nt ts 0)) :: (kD, .live (.obj (.deferred (some [])))) :: h⟩ Q) ∨ (q = 2 ∧ Q .ret ⟨t, (kD, .dead) :: (kL, .dead) :: renH (rOf (kL :: ids)) post ++ (kL, .live (.loop ps asg body nt ts 0)) :: (kD, .live (.obj (.deferred (some [])))) :: h⟩)) :
    WB P K nt np (.block id (.rangeFunc (.tmp i) ps asg body)) Z ⟨t, h⟩ Q := by
  intro C h1 h2 hd h3 a w hs
  obtain ⟨hdf, hsz, E, hO, hR'⟩ := hs
  have hgv := hR' i
  rw [hg] at hgv
  obtain ⟨fs, cs, hfv, hfs, hcs⟩ := hgv
  rw [show fs = [] from hfs] at hfv
  refine wpIn_block (wpIn_rangeFunc ?_)
  intro fn _
  obtain ⟨rec, hrec⟩ : ∃ rec : Loop, rec = { state := .ready, pending := none, fn, tmps := a.tmps, params := ps, assign := asg, body, defers := w.heap.size } := ⟨_, rfl⟩
  -- the two new blocks
  obtain ⟨hle1, hO1⟩ := hO.new hD (.deferred (some [])) (.obj (.deferred (some []))) (.pointer (some ⟨w.heap.size, 0, none⟩)) rfl ⟨w.heap.size, rfl, heap_alloc_last _ _⟩
  have hL' : lkH ((kD, HS.live (.obj (.deferred (some [])))) :: h) kL = .fresh := by rw [lkH_cons_ne _ _ hne]; exact hL
  have hsize : (w.alloc (.deferred (some []))).heap.size = w.heap.size + 1 := by simp
  obtain ⟨hle2, hO2⟩ := hO1.new hL' (.loop rec) (.loop ps asg body nt ts 0) (.func (.yield (w.heap.size + 1)) #[] #[]) (by rw [hsize]; rfl) (by
    refine ⟨w.heap.size + 1, fn, a.tmps, w.heap.size, rfl, ?_, hsz.trans h2, ts_of (g := fun i => a.tmps.getD i undef) (fun j => Rel.mono (Env.le_trans hle1 (Env.with_le _ ?_)) (hR' j)) hts⟩
    · have := heap_alloc_last (w.alloc (.deferred (some []))) (.loop rec)
      rw [hsize] at this
      rw [this, hrec]
      rfl
    · have := hO1.hs kL
      rw [hL'] at this
      exact this)
  have hle := Env.le_trans hle1 hle2
  obtain ⟨E2, hE2⟩ : ∃ E2, E2 = ((E.with kD (.pointer (some ⟨w.heap.size, 0, none⟩))).with kL (.func (.yield (w.heap.size + 1)) #[] #[])) := ⟨_, rfl⟩
  rw [← hE2] at hO2 hle
  have hφL : E2.φ kL = some (.func (.yield (w.heap.size + 1)) #[] #[]) := by rw [hE2]; exact Env.with_self _ _ _
  have hφD : E2.φ kD = some (.pointer (some ⟨w.heap.size, 0, none⟩)) := by rw [hE2, Env.with_ne _ _ (Ne.symm hne)]; exact Env.with_self _ _ _
  obtain ⟨W, hW⟩ : ∃ W, W = (w.alloc (.deferred (some []))).alloc (.loop rec) := ⟨_, rfl⟩
  rw [← hW] at hO2
  refine ⟨w.heap.size + 1, [{ target := .collected w.heap.size, args := #[] }], W, { target := .fn (.func gf) cs.toArray, args := #[.func (.yield (w.heap.size + 1)) #[] #[]] }, W, gf, (.func (.yield (w.heap.size + 1)) #[] #[] :: cs).toArray, W, ?_, ?_, fun _ _ => trivial, ?_, fun e => Bool.noConfusion (show false = true from e), ?_⟩
  · rw [hW, hrec]; exact run_enterLoop_outer _ _ _ _ _
  · simp only [resolve, Act.eval, hfv]
    simp [go_sem]
  · have := he.run (#[.func (.yield (w.heap.size + 1)) #[] #[]] ++ cs.toArray) W
    simp only [invoke]
    have e1 : (#[.func (.yield (w.heap.size + 1)) #[] #[]] ++ cs.toArray : Array Value) = (.func (.yield (w.heap.size + 1)) #[] #[] :: cs).toArray := by apply Array.ext'; simp
    rw [e1] at this ⊢
    exact this
  · have hargs : Rels E2 (renAs (rOf (kL :: ids)) args) (.func (.yield (w.heap.size + 1)) #[] #[] :: cs) := by
      rw [ha]
      exact ⟨_, _, rfl, ⟨_, hφL, rfl, rfl⟩, Rels.mono hle hcs⟩
    refine callsIn_FR ((call_sat hc hk h1 hO2 hargs hpre).mono ?_)
    rintro e w2 ⟨v, E3, rfl, hle3, _, hO3⟩
    obtain ⟨fn3, tm3, D3, hb3, hn3, hr3, _, ht3⟩ := loop_turn hO3 hpost (hle3.2 _ _ hφL)
    have hqb : qS q ≠ .busy := by
      rcases hq with ⟨rfl, _⟩ | ⟨rfl, _⟩ <;> simp [qS]
    obtain ⟨w3, hw3⟩ : ∃ w3, w3 = w2.putObj (w.heap.size + 1) (.loop { state := .exhausted, pending := qP q, fn := fn3, tmps := tm3, params := ps, assign := asg, body := body, defers := D3 }) := ⟨_, rfl⟩
    refine ⟨qP q, w3, by rw [hw3]; exact run_endLoop hb3 hqb, ?_⟩
    have hO4 := ((ht3 (.loop { state := .exhausted, pending := qP q, fn := fn3, tmps := tm3, params := ps, assign := asg, body := body, defers := D3 })).forget kL)
    rw [← hw3] at hO4
    have hO5 : EOk C E3 ((kL, .dead) :: renH (rOf (kL :: ids)) post ++ (kL, .live (.loop ps asg body nt ts 0)) :: (kD, .live (.obj (.deferred (some [])))) :: h) w3 := EOk_seq (fun k => by
      by_cases hk : k = kL
      · subst hk; simp only [List.cons_append, lkH_cons_self]
      · simp only [List.cons_append, lkH_cons_ne _ _ hk]) hO4
    have hpD' : lkH ((kL, HS.dead) :: renH (rOf (kL :: ids)) post ++ (kL, .live (.loop ps asg body nt ts 0)) :: (kD, .live (.obj (.deferred (some [])))) :: h) kD = .live (.obj (.deferred (some []))) := by
      rw [List.cons_append, lkH_cons_ne _ _ (Ne.symm hne)]; exact hpD
    have hO6 := hO5.forget kD
    have hDs := hO5.hs kD
    rw [hpD'] at hDs
    obtain ⟨vD, hvD, ⟨bD, hbD, hheap⟩, hnD⟩ := hDs
    rw [hle3.2 _ _ hφD] at hvD
    cases hvD
    cases hbD
    obtain ⟨hFD, hown⟩ := hnD w.heap.size rfl
    have hDsz : C.w0.heap.size ≤ w.heap.size := hO.w.size
    have hno : ∀ k o v, lkH ((kD, HS.dead) :: (kL, .dead) :: renH (rOf (kL :: ids)) post ++ (kL, .live (.loop ps asg body nt ts 0)) :: (kD, .live (.obj (.deferred (some [])))) :: h) k = .live o → E3.φ k = some v → ¬ oblk w3 o v w.heap.size := by
      intro k o v hk' hv hb
      have hkk : k ≠ kD := by
        rintro rfl
        rw [List.cons_append, lkH_cons_self] at hk'
        cases hk'
      rw [List.cons_append, lkH_cons_ne _ _ hkk] at hk'
      exact hkk (hO5.inj k kD o _ v _ w.heap.size hk' hpD' hv (hle3.2 _ _ hφD) hb rfl)
    have hS : ∀ t', Rel E3 (lkT t t') (a.tmps.getD t' undef) := fun t' => Rel.mono (Env.le_trans hle hle3) (hR' t')
    rcases hq with ⟨rfl, hZ⟩ | ⟨rfl, hQ⟩
    · skip
      let C2 := C.at E3 ((kD, .dead) :: (kL, .dead) :: renH (rOf (kL :: ids)) post ++ (kL, .live (.loop ps asg body nt ts 0)) :: (kD, .live (.obj (.deferred (some [])))) :: h) w3 [{ target := .collected w.heap.size, args := #[] }]
      have hlt3 : w.heap.size < w3.heap.size := some_lt hheap
      show (Exit.inBlock id (Exit.then _ _)) .normal _ w3
      refine wpIn_mono (hZ C2 h1 h2 h3 none _ w3 ⟨by show _ ++ a.defers = _; rw [hdf, hd]; rfl, hsz, E3, hO6.fresh _, hS⟩) ?_
      rintro e a4 w4 ⟨hno', s4, hq4, ⟨hdf4, hsz4, E4, hO7, hR4⟩⟩
      refine ⟨hno', s4, hq4, hsz4, E4, EOk.back hO6 hO7, hR4, .inr ⟨w.heap.size, hdf4, ?_, hDsz, ?_, ?_⟩⟩
      · refine (hO7.w.block w.heap.size hlt3 ?_).trans hheap
        rintro ⟨k, o, v, e1, e2, e3⟩
        exact hno k o v e1 e2 e3
      · cases hF4 : E4.F w.heap.size with
        | none => rfl
        | some o4 =>
          rcases hO7.fn _ _ hF4 with h5 | h5 | ⟨k, o, v, e1, e2, e3⟩
          · rw [show C2.F0 = E3.F from rfl, hFD] at h5
            cases h5
          · have : w3.heap.size ≤ w.heap.size := h5
            omega
          · exact absurd e3 (hno k o v e1 e2)
      · intro k o v hk4 hv4 hb4
        have := hO7.hs k
        rw [hk4] at this
        obtain ⟨v', e', _, hn'⟩ := this
        rw [hv4] at e'
        cases e'
        rcases (hn' _ hb4).2 with ⟨k, o, v, e1, e2, e3⟩ | h5
        · exact hno k o v e1 e2 e3
        · have : w3.heap.size ≤ w.heap.size := h5
          omega
    · show Code.wpIn _ _ _ _ _ _ _
      refine wpIn_ret ?_
      show _ ≠ _ ∧ _
      exact ⟨by simp, _, hQ, hsz, E3, hO6, hS, .inr ⟨w.heap.size, by show _ ++ a.defers = _; rw [hdf, hd]; rfl, hheap, hDsz, hFD, hno⟩⟩
theorem EOk.other {C : Cx} {E : Env} {h : List (Nat × HS)} {w : World} (hO : EOk C E h w) {D : Nat} (o : Obj) (hz : C.w0.heap.size ≤ D) (hF : E.F D = none) (hh : ∀ k o v, lkH h k = .live o → E.φ k = some v → ¬ oblk w o v D) : EOk C E h (w.putObj D o) := by
  have hsm : ∀ {i : Nat} {oi : AO} {hi : Value}, lkH h i = .live oi → E.φ i = some hi → (∀ b, oblk w oi hi b → (w.putObj D o).heap[b]? = w.heap[b]?) ∧ ∀ b, oblk (w.putObj D o) oi hi b ↔ oblk w oi hi b := fun {i} {oi} {hi} li ei => by
    have := hO.hs i
    rw [li] at this
    obtain ⟨v, e, ho, _⟩ := this
    rw [ei] at e
    cases e
    have h1 : ∀ b, oblk w oi hi b → (w.putObj D o).heap[b]? = w.heap[b]? := fun b hb => World.putObj_heap_other (by intro hbD; exact hh i oi hi li ei (hbD ▸ hb))
    exact ⟨h1, oblk_world h1 ho⟩
  refine ⟨hO.f0, hO.hd, fun b ob e => (World.putObj_heap_other (by rintro rfl; rw [hF] at e; cases e)).trans (hO.fz b ob e), hO.fn, fun k => ?_, fun i j oi oj hi hj b li lj ei ej bi bj => hO.inj i j oi oj hi hj b li lj ei ej (((hsm li ei).2 b).1 bi) (((hsm lj ej).2 b).1 bj), ⟨hO.w.os, hO.w.tape, hO.w.output, by simpa [World.putObj] using hO.w.size, fun b hb ho => (World.putObj_heap_other (by omega)).trans (hO.w.block b hb ho)⟩, hO.g⟩
  have := hO.hs k
  cases hs : lkH h k with
  | fresh => rw [hs] at this; exact this
  | dead => trivial
  | live o =>
    rw [hs] at this
    obtain ⟨v, e, ho, hn⟩ := this
    exact ⟨v, e, ho.world (hsm hs e).1, fun b hb => hn b (((hsm hs e).2 b).1 hb)⟩
theorem fn_z {f : FuncId} {fn : Func} {c : Code} {nt np : Nat} {args : List AV} {pre : List (Nat × HS)} {ret : AV} {post : List (Nat × HS)} (hf : P.funcs[f]? = some fn) (hb : fn.body = some c) (hnt : fn.ntmps = nt) (hl : args.length ≤ nt)
    (hnp : ∀ k, np ≤ k → kept pre k = false) (h : WZ P K nt np c ⟨args0 0 args, pre⟩ (RQ P fn np ret post)) : FnOk P K f args pre ret post := by
  intro C E vs hK hF hφ hhd hO hA
  let C' : Cx := { C with nt := nt, df := [] }
  have up : ∀ {E' : Env} {h' : List (Nat × HS)} {w' : World}, EOk C E' h' w' → EOk C' E' h' w' := fun k => ⟨k.f0, k.hd, k.fz, k.fn, fun i => by
    have := k.hs i
    cases hs : lkH _ i <;> rw [hs] at this <;> exact this, k.inj, ⟨k.w.os, k.w.tape, k.w.output, k.w.size, k.w.block⟩, k.g⟩
  have dn : ∀ {E' : Env} {h' : List (Nat × HS)} {w' : World}, EOk C' E' h' w' → EOk C E' h' w' := fun k => ⟨k.f0, k.hd, k.fz, k.fn, fun i => by
    have := k.hs i
    cases hs : lkH _ i <;> rw [hs] at this <;> exact this, k.inj, ⟨k.w.os, k.w.tape, k.w.output, k.w.size, k.w.block⟩, k.g⟩
  have hvl := hA.length
  refine calls_FR (n := 0) (callsIn_of_wp_marks (F := FR none) hf hb trivial ?_)
  have hn : ∀ k, np ≤ k → C'.hd k = none := fun k hk => hhd k (hnp k hk)
  have hsat : Sat C' ⟨args0 0 args, pre⟩ { tmps := vs.toArray ++ Array.replicate (fn.ntmps - vs.toArray.size) undef, defers := [] } C.w0 := by
    refine ⟨rfl, by simp [hnt, hvl, C']; omega, E, up hO, ?_⟩
    refine args0_rel 0 (fun t => (vs.toArray ++ Array.replicate (fn.ntmps - vs.toArray.size) undef).getD t undef) hA (fun j v e => ?_)
    have hj : j < vs.length := (List.getElem?_eq_some_iff.1 e).1
    simp only [Nat.zero_add, Array.getD_eq_getD_getElem?]
    rw [Array.getElem?_append_left (by simpa using hj)]
    simp [e]
  refine wpIn_mono (h C' hK rfl rfl hn _ _ hsat) ?_
  rintro e a' w' ⟨_, s', ⟨he, xs, hxs, hret⟩, hs'⟩
  obtain ⟨hsz, E', hO', hR', hM⟩ := hs'
  have key : ∀ w', EOk C' E' s'.h w' → LeavesInM (FR none) 0 P fn a'.tmps (fun e w' => ∃ v E', e = .returned v ∧ Rel E' ret v ∧ EOk C E' post w') [] .returning w' := by
    intro w' hO'
    obtain ⟨us, hus, hxr⟩ := RVs_run hO' hR' hxs
    have hmap : (fn.results.mapM (rvSem a'.tmps)).run P w' = .ok us.toArray w' := by
      rw [Array.mapM_eq_mapM_toList]
      simp [hus]
    have hres : ∃ v, (results fn a'.tmps).run P w' = .ok v w' ∧ Rel E' (retOf xs) v := by
      rw [results_eq, Sem.run_bind, hmap]
      simp only [Result.andThen_ok, Sem.run_pure]
      refine ⟨_, rfl, ?_⟩
      match xs, us, hxr with
      | [], _, hx => rw [show _ = [] from hx]; exact ⟨[], rfl, rfl⟩
      | [x], _, hx =>
        obtain ⟨u, us', rfl, hu, he'⟩ := hx
        rw [show us' = [] from he']
        exact hu
      | x :: y :: r, _, hx =>
        obtain ⟨u, us', rfl, hu, hx'⟩ := hx
        obtain ⟨u2, us2, rfl, hu2, hx2⟩ := hx'
        exact ⟨u :: u2 :: us2, by simp, u, _, rfl, hu, u2, _, rfl, hu2, hx2⟩
    obtain ⟨v, hv, hvr⟩ := hres
    obtain ⟨E2, hE, hvr2⟩ := hret C' E' w' v hn hO' hvr
    exact ⟨v, hv, v, _, rfl, hvr2, dn hE⟩
  have all : LeavesInM (FR none) 0 P fn a'.tmps (fun e w' => ∃ v E', e = .returned v ∧ Rel E' ret v ∧ EOk C E' post w') a'.defers .returning w' := by
    rcases hM with hM | ⟨D, hM, hD, hs, hF, hh⟩
    · rw [hM]
      exact key w' hO'
    · rw [hM]
      exact ⟨by simp, .inl ⟨D, _, rfl, run_takeDeferred hD, key _ (hO'.other _ hs hF hh)⟩⟩
  rcases he with rfl | rfl
  · exact all
  · exact all
def eTT (t : List (Nat × AV)) : List (Nat × AV) → Prop
  | [] => True
  | (i, x) :: l => lk t i = some x ∧ eTT t l
theorem eTT_chk {t : List (Nat × AV)} : ∀ {l : List (Nat × AV)}, eTT t l → chkT t l
  | [], _ => trivial
  | (_, _) :: _, h => ⟨lk_lk h.1, eTT_chk h.2⟩
section
variable {nt np : Nat} {ops : Array Oper} {rest : List Oper} {t : List (Nat × AV)} {h : List (Nat × HS)} {Q : Exit → St → Prop} {d : Tmp} {ty : TypeId} {pos : String} {after : Array Edge}
theorem ly {ids : List Nat} {args vs : List AV} {ret ret' : AV} {pre pre0 post pre' post' : List (Nat × HS)} {x : Operand} {xs : Array Operand} {ats : Array TypeId} {ps : Array Tmp} {asg body : Code} {n q k0 : Nat} {ts : List (Nat × AV)} (hc : YOk P K args pre ret post)
    (h0 : pre = (0, .live (.loop ps asg body n ts q)) :: pre0) (hx : rd t x = some (.via k0 yR)) (hk : rOf ids 0 = k0) (hv : rds t xs.toList = some vs) (ha : renAs (rOf ids) args = vs)
    (hpre : renH (rOf ids) pre = pre') (hpost : renH (rOf ids) post = post') (hret : renA (rOf ids) ret = ret') (hh : hH h pre') (nd : ids.Nodup) (kp : pre.map (·.1) = List.range ids.length) (kq : post.map (·.1) = List.range ids.length)
    (oa : okAs (kept pre) args = true) (op : okHs (kept pre) pre = true) (oq : okHs (kept post) post = true) (or_ : okA (kept post) ret = true) (hd : Nat.blt d nt = true) (k : WL P K nt np ops rest ⟨(d, ret') :: t, post' ++ h⟩ Q) :
    WL P K nt np ops (⟨some d, .call { callee := .value x, args := xs, argTypes := ats }, ty, pos, after, none⟩ :: rest) ⟨t, h⟩ Q := by
  subst hpre hpost hret hk
  have hi : 0 < ids.length := by
    cases ids with
    | nil => rw [h0] at kp; simp at kp
    | cons a l => simp
  exact wl_y hc (callOk_l nd kp kq oa op oq or_) (by rw [h0]; rfl) hi (rd_c hx).1 ha (rds_c hv).1 (chkT_ap2 (rd_c hx).2 (rds_c hv).2) (hH_chk hh) (show d < nt by simpa [Nat.blt_eq] using hd) k
theorem w_range {id kL kD : Nat} {i : Tmp} {ps : Array Tmp} {asg body Z : Code} {ts : List (Nat × AV)} {gf : FuncId} {cap args : List AV} {ids : List Nat} {pre post pre' post' : List (Nat × HS)} {ret : AV} {q : Nat}
    (hc : FnOk P K gf args pre ret post) (he : Ent1 P gf) (hg : lk t i = some (.fn (.func gf) [] cap)) (ha : renAs (rOf (kL :: ids)) args = .via kL yR :: cap) (hpre : renH (rOf (kL :: ids)) pre = pre') (hpost : renH (rOf (kL :: ids)) post = post')
    (hL : hp h kL = none) (hD : hp h kD = none) (hne : Nat.beq kL kD = false) (hts : eTT t ts) (hh : hH ((kL, .live (.loop ps asg body nt ts 0)) :: (kD, .live (.obj (.deferred (some [])))) :: h) pre')
    (nd : (kL :: ids).Nodup) (kp : pre.map (·.1) = List.range (kL :: ids).length) (kq : post.map (·.1) = List.range (kL :: ids).length) (oa : okAs (kept pre) args = true) (op : okHs (kept pre) pre = true) (oq : okHs (kept post) post = true) (or_ : okA (kept post) ret = true)
    (hp1 : hp (post' ++ (kL, .live (.loop ps asg body nt ts 0)) :: (kD, .live (.obj (.deferred (some [])))) :: h) kL = some (.live (.loop ps asg body nt ts q)))
    (hp2 : hp (post' ++ (kL, .live (.loop ps asg body nt ts 0)) :: (kD, .live (.obj (.deferred (some [])))) :: h) kD = some (.live (.obj (.deferred (some [])))))
    (hq : (q = 0 ∧ WC P K nt np Z ⟨t, (kD, .dead) :: (kL, .dead) :: post' ++ (kL, .live (.loop ps asg body nt ts 0)) :: (kD, .live (.obj (.deferred (some [])))) :: h⟩ Q) ∨ (q = 2 ∧ Q .ret ⟨t, (kD, .dead) :: (kL, .dead) :: post' ++ (kL, .live (.loop ps asg body nt ts 0)) :: (kD, .live (.obj (.deferred (some [])))) :: h⟩)) :
    WB P K nt np (.block id (.rangeFunc (.tmp i) ps asg body)) Z ⟨t, h⟩ Q := by
  subst hpre hpost
  exact wb_range hc he (callOk_l nd kp kq oa op oq or_) (lk_lk hg) ha (hp_no hL) (hp_no hD) (fun e => by rw [e] at hne; simp at hne) (eTT_chk hts) (hH_chk hh) (hp_lk hp1) (hp_lk hp2) hq
theorem yfin {ps : Array Tmp} {asg body : Code} {ts : List (Nat × AV)} {ret : AV} {post : List (Nat × HS)} {e : Exit} (q : Nat) (hq : qOf e = some q) (hl : hp h 0 = some (.live (.loop ps asg body nt ts 1))) (hr : RetE np ((0, .live (.loop ps asg body nt ts q)) :: h) (.data (.lit (.bool (Nat.beq q 0)))) ret post) : YQ ps asg body nt ts np ret post e ⟨t, h⟩ := ⟨q, hq, hp_lk hl, hr⟩
end
def cL : Code → Code
  | .seq a _ => a
  | c => c
def cR : Code → Code
  | .seq _ b => b
  | c => c
def cB : Code → Code
  | .block _ c => c
  | c => c
def cA : Code → Code
  | .rangeFunc _ _ a _ => a
  | c => c
def cD : Code → Code
  | .rangeFunc _ _ _ b => b
  | c => c
end Go.Proofs.YtgmpgoafokdcbaaGreatDoor.Sx
