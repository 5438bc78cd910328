/- Part 8 of the small logic: regions whose order is open. -/
import Derived.Test.YtgmpgoafokdcbaaGreatDoorSxg
import Derived.KernelRfl
set_option linter.unusedVariables false
namespace Go.Proofs.YtgmpgoafokdcbaaGreatDoor.Sx
open Go Go.RowKit
variable {P : Program} {K : GL}
structure AD where
  rT : List (Nat × AV)
  rH : List (Nat × HS)
  x : AV
  wH : List (Nat × HS)
def GAct (P : Program) (K : GL) (ops : Array Oper) (o : Oper) (A : AD) : Prop :=
  ∀ (C : Cx) (s : St) (a : Act) (w : World), C.gl = K → chkT s.t A.rT → chkH s.h A.rH → inT o.dst C.nt → (∀ p ∈ A.rT, p.1 < C.nt) → Sat C s a w →
    if Region.wanted o (yielded ops a.tmps) then o.wp P a w (fun a' w' => Sat C ⟨putT o.dst A.x s.t, A.wH ++ s.h⟩ a' w') (fun _ _ _ => False) else Sat C ⟨putT o.dst A.x s.t, A.wH ++ s.h⟩ (a.put o.dst undef) w
def lastW {β : Type} (W : Nat → Option β) (b : Nat → Bool) (base : β) : Nat → β
  | 0 => base
  | n + 1 => if b n then (W n).getD (lastW W b base n) else lastW W b base n
theorem lastW_agree {β : Type} {W : Nat → Option β} {b b' : Nat → Bool} {base : β} : ∀ {n : Nat}, (∀ j, j < n → (W j).isSome = true → b j = b' j) → lastW W b base n = lastW W b' base n
  | 0, _ => rfl
  | n + 1, h => by
    have ih := lastW_agree (n := n) (base := base) (fun j hj => h j (by omega))
    simp only [lastW]
    cases hw : W n with
    | none => simp [ih]
    | some v =>
      have := h n (by omega) (by simp [hw])
      rw [this, ih]
theorem lastW_last {β : Type} {W : Nat → Option β} {b : Nat → Bool} {base v : β} {i : Nat} (hv : W i = some v) (hb : b i = true) : ∀ {n : Nat}, i < n → (∀ j, i < j → j < n → b j = true → W j = none) → lastW W b base n = v
  | 0, h, _ => by omega
  | n + 1, h, hl => by
    simp only [lastW]
    by_cases e : i = n
    · subst e; simp [hb, hv]
    · have ih := lastW_last (base := base) hv hb (n := n) (by omega) (fun j h1 h2 => hl j h1 (by omega))
      by_cases hbn : b n = true
      · rw [if_pos hbn, hl n (by omega) (by omega) hbn]; simpa using ih
      · rw [if_neg hbn]; exact ih
def WT (l : List (Option Tmp × AD)) (t : Nat) (i : Nat) : Option AV := (l[i]?).bind fun p => if p.1 = some t then some p.2.x else none
def WH (l : List (Option Tmp × AD)) (k : Nat) (i : Nat) : Option HS := (l[i]?).bind fun p => if (p.2.wH.map (·.1)).contains k then some (lkH p.2.wH k) else none
def stOf (b : Nat → Bool) (l : List (Option Tmp × AD)) (s : St) : Nat → St
  | 0 => s
  | n + 1 => match b n, l[n]? with
    | true, some p => ⟨putT p.1 p.2.x (stOf b l s n).t, p.2.wH ++ (stOf b l s n).h⟩
    | _, _ => stOf b l s n
theorem lkT_putT (d : Option Tmp) (x : AV) (t : List (Nat × AV)) (i : Nat) : lkT (putT d x t) i = if d = some i then x else lkT t i := by
  cases d with
  | none => simp [putT]
  | some j => simp [putT, lkT]
theorem lkH_app (l m : List (Nat × HS)) (k : Nat) : lkH (l ++ m) k = if (l.map (·.1)).contains k then lkH l k else lkH m k := by
  induction l with
  | nil => simp [lkH]
  | cons p l ih =>
    obtain ⟨i, x⟩ := p
    simp only [List.cons_append, lkH, List.map_cons, List.contains_cons]
    by_cases e : i = k
    · simp [e]
    · have : (k == i) = false := by simp [Ne.symm e]
      simp only [if_neg e, this, Bool.false_or]
      exact ih
theorem stOf_T (b : Nat → Bool) (l : List (Option Tmp × AD)) (s : St) (t : Nat) : ∀ n, lkT (stOf b l s n).t t = lastW (WT l t) b (lkT s.t t) n
  | 0 => rfl
  | n + 1 => by
    have ih := stOf_T b l s t n
    simp only [stOf, lastW]
    cases hb : b n with
    | false => simpa using ih
    | true =>
      cases hl : l[n]? with
      | none => simp [WT, hl, ih]
      | some p =>
        simp only [WT, hl, Option.bind_some, if_true, lkT_putT]
        split <;> simp [ih]
theorem stOf_H (b : Nat → Bool) (l : List (Option Tmp × AD)) (s : St) (k : Nat) : ∀ n, lkH (stOf b l s n).h k = lastW (WH l k) b (lkH s.h k) n
  | 0 => rfl
  | n + 1 => by
    have ih := stOf_H b l s k n
    simp only [stOf, lastW]
    cases hb : b n with
    | false => simpa using ih
    | true =>
      cases hl : l[n]? with
      | none => simp [WH, hl, ih]
      | some p =>
        simp only [WH, hl, Option.bind_some, if_true, lkH_app]
        split <;> simp [ih]
theorem Sat.ext {C : Cx} {s s' : St} {a : Act} {w : World} (hT : ∀ t, lkT s'.t t = lkT s.t t) (hH : ∀ k, lkH s'.h k = lkH s.h k) (h : Sat C s a w) : Sat C s' a w := by
  obtain ⟨hdf, hsz, E, hO, hR⟩ := h
  refine ⟨hdf, hsz, E, ⟨hO.f0, hO.hd, hO.fz, hO.fn, fun k => hH k ▸ hO.hs k, fun i j oi oj hi hj b li lj => hO.inj i j oi oj hi hj b (hH i ▸ li) (hH j ▸ lj), hO.w, hO.g⟩, fun t => hT t ▸ hR t⟩
def preds (l : List Oper) (j : Nat) : List Nat := match l[j]? with
  | some o => (o.after.toList.filter (fun e => Region.binds .any e)).map (·.on)
  | none => []
def maskOf (B : List Nat) : List Nat → Nat
  | [] => 0
  | e :: l => (2 ^ e ||| B.getD e 0) ||| maskOf B l
def masksOk (l : List Oper) (B : List Nat) : Bool := (List.range l.length).all fun j => (preds l j).all (fun e => decide (e < j)) && (B.getD j 0 == maskOf B (preds l j))
def touchT (A : AD) (t : Nat) : Bool := (A.rT.map (·.1)).contains t
def meet (d : Option Tmp) (A : AD) (d' : Option Tmp) (A' : AD) : Bool :=   -- what the first writes, the second reads or writes
  (match d with | some t => touchT A' t || (d' == some t) | none => false) || (A.wH.map (·.1)).any fun k => (A'.rH.map (·.1)).contains k || (A'.wH.map (·.1)).contains k
def pairsOk (l : List (Option Tmp × AD)) (B : List Nat) : Bool := (List.range l.length).all fun j => (List.range j).all fun i => match l[i]?, l[j]? with
  | some p, some q => (B.getD j 0).testBit i || !(meet p.1 p.2 q.1 q.2 || meet q.1 q.2 p.1 p.2)
  | _, _ => true
def drawOk (nt : Nat) (l : List Oper) (acts : List AD) (B : List Nat) : Bool :=
  masksOk l B && pairsOk ((l.map (·.dst)).zip acts) B && acts.all fun A => A.rT.all fun p => decide (p.1 < nt)
theorem maskOf_bit {B : List Nat} {i : Nat} : ∀ {l : List Nat}, (maskOf B l).testBit i = true → ∃ e ∈ l, e = i ∨ (B.getD e 0).testBit i = true
  | [], h => by simp [maskOf] at h
  | e :: l, h => by
    simp only [maskOf, Nat.testBit_or, Bool.or_eq_true, Nat.testBit_two_pow] at h
    rcases h with (h | h) | h
    · exact ⟨e, by simp, .inl (by simpa using h)⟩
    · exact ⟨e, by simp, .inr h⟩
    · obtain ⟨e', he, hh⟩ := maskOf_bit h
      exact ⟨e', by simp [he], hh⟩
def Closed (l : List Oper) (b : Nat → Bool) : Prop := ∀ j, b j = true → ∀ e ∈ preds l j, b e = true
theorem before_done {l : List Oper} {B : List Nat} (hm : masksOk l B = true) {b : Nat → Bool} (hc : Closed l b) : ∀ (m j : Nat), j ≤ m → (∀ e ∈ preds l j, b e = true) → j < l.length → ∀ i, (B.getD j 0).testBit i = true → b i = true := by
  intro m
  induction m with
  | zero =>
    intro j hj hp hl i hi
    obtain rfl : j = 0 := by omega
    simp only [masksOk, List.all_eq_true, List.mem_range, Bool.and_eq_true, beq_iff_eq, decide_eq_true_eq] at hm
    have h := hm 0 hl
    rw [h.2] at hi
    obtain ⟨e, he, _⟩ := maskOf_bit hi
    have := h.1 e he
    omega
  | succ m ih =>
    intro j hj hp hl i hi
    have hm' := hm
    simp only [masksOk, List.all_eq_true, List.mem_range, Bool.and_eq_true, beq_iff_eq, decide_eq_true_eq] at hm'
    have h := hm' j hl
    rw [h.2] at hi
    obtain ⟨e, he, hh⟩ := maskOf_bit hi
    have hlt := h.1 e he
    rcases hh with rfl | hh
    · exact hp _ he
    · exact ih e (by omega) (hc e (hp e he)) (by omega) i hh
theorem chkT_at {t : List (Nat × AV)} : ∀ {r : List (Nat × AV)}, chkT t r → ∀ p ∈ r, lkT t p.1 = p.2
  | [], _, p, hp => by simp at hp
  | (i, x) :: l, h, p, hp => by
    rcases List.mem_cons.1 hp with rfl | hp
    · exact h.1
    · exact chkT_at h.2 p hp
theorem chkT_mk {t : List (Nat × AV)} : ∀ {r : List (Nat × AV)}, (∀ p ∈ r, lkT t p.1 = p.2) → chkT t r
  | [], _ => trivial
  | (i, x) :: l, h => ⟨h (i, x) (by simp), chkT_mk (fun p hp => h p (by simp [hp]))⟩
theorem chkH_at {t : List (Nat × HS)} : ∀ {r : List (Nat × HS)}, chkH t r → ∀ p ∈ r, lkH t p.1 = p.2
  | [], _, p, hp => by simp at hp
  | (i, x) :: l, h, p, hp => by
    rcases List.mem_cons.1 hp with rfl | hp
    · exact h.1
    · exact chkH_at h.2 p hp
theorem chkH_mk {t : List (Nat × HS)} : ∀ {r : List (Nat × HS)}, (∀ p ∈ r, lkH t p.1 = p.2) → chkH t r
  | [], _ => trivial
  | (i, x) :: l, h => ⟨h (i, x) (by simp), chkH_mk (fun p hp => h p (by simp [hp]))⟩
def Run (P : Program) (K : GL) (nt : Nat) (ops : Array Oper) : List Oper → List AD → St → St → Prop
  | [], [], s, sn => s = sn
  | o :: l, A :: acts, s, sn => GAct P K ops o A ∧ chkT s.t A.rT ∧ chkH s.h A.rH ∧ inT o.dst nt ∧ Run P K nt ops l acts ⟨putT o.dst A.x s.t, A.wH ++ s.h⟩ sn
  | _, _, _, _ => False
theorem Run.length {nt : Nat} {ops : Array Oper} : ∀ {l : List Oper} {acts : List AD} {s sn : St}, Run P K nt ops l acts s sn → acts.length = l.length
  | [], [], _, _, _ => rfl
  | _ :: _, _ :: _, _, _, h => by simp [Run.length h.2.2.2.2]
  | [], _ :: _, _, _, h => absurd h id
  | _ :: _, [], _, _, h => absurd h id
theorem Run.at_ {nt : Nat} {ops : Array Oper} (full : List (Option Tmp × AD)) (s0 : St) : ∀ {l : List Oper} {acts : List AD} {s sn : St} (n : Nat), Run P K nt ops l acts s sn → (∀ j, ((l.map (·.dst)).zip acts)[j]? = full[n + j]?) → s = stOf (fun _ => true) full s0 n →
    sn = stOf (fun _ => true) full s0 (n + l.length) ∧ ∀ i o A, l[i]? = some o → acts[i]? = some A → GAct P K ops o A ∧ inT o.dst nt ∧ chkT (stOf (fun _ => true) full s0 (n + i)).t A.rT ∧ chkH (stOf (fun _ => true) full s0 (n + i)).h A.rH
  | [], [], s, sn, n, h, _, hs => by
    refine ⟨?_, fun i o A e => by simp at e⟩
    rw [← show s = sn from h]
    exact hs
  | o :: l, A :: acts, s, sn, n, h, hf, hs => by
    obtain ⟨h1, h2, h3, h4, h5⟩ := h
    have hn : full[n]? = some (o.dst, A) := by have := hf 0; simpa using this.symm
    have hs' : (⟨putT o.dst A.x s.t, A.wH ++ s.h⟩ : St) = stOf (fun _ => true) full s0 (n + 1) := by
      simp only [stOf, hn, hs]
    obtain ⟨q1, q2⟩ := Run.at_ full s0 (n + 1) h5 (fun j => by have := hf (j + 1); simp only [List.map_cons, List.zip_cons_cons, List.getElem?_cons_succ] at this; rw [this]; congr 1; omega) hs'
    refine ⟨by rw [q1]; congr 1; simp; omega, fun i o' A' e1 e2 => ?_⟩
    cases i with
    | zero =>
      simp at e1 e2
      subst e1
      subst e2
      exact ⟨h1, h4, hs ▸ h2, hs ▸ h3⟩
    | succ i =>
      have := q2 i o' A' (by simpa using e1) (by simpa using e2)
      rwa [show n + 1 + i = n + (i + 1) by omega] at this
  | [], _ :: _, _, _, _, h, _, _ => absurd h id
  | _ :: _, [], _, _, _, h, _, _ => absurd h id
def bOf (listed : Array Bool) (j : Nat) : Bool := listed.getD j false
theorem bOf_set {listed : Array Bool} {i : Nat} (hi : i < listed.size) (j : Nat) : bOf (listed.setIfInBounds i true) j = if j = i then true else bOf listed j := by
  simp only [bOf, Array.getD_eq_getD_getElem?, Array.getElem?_setIfInBounds]
  by_cases h : i = j
  · subst h; simp [hi]
  · simp [h, Ne.symm h]
theorem pairs_ord {full : List (Option Tmp × AD)} {B : List Nat} (h : pairsOk full B = true) {i j : Nat} {p q : Option Tmp × AD} (hij : i < j) (hi : full[i]? = some p) (hj : full[j]? = some q) (hm : meet p.1 p.2 q.1 q.2 = true ∨ meet q.1 q.2 p.1 p.2 = true) : (B.getD j 0).testBit i = true := by
  simp only [pairsOk, List.all_eq_true, List.mem_range] at h
  have hl : j < full.length := (List.getElem?_eq_some_iff.1 hj).1
  have := h j hl i hij
  rw [hi, hj] at this
  simp only [Bool.or_eq_true, Bool.not_eq_true', Bool.or_eq_false_iff] at this
  rcases this with h1 | h1
  · exact h1
  · rcases hm with h2 | h2
    · rw [h1.1] at h2; cases h2
    · rw [h1.2] at h2; cases h2
theorem mem_preds {l : List Oper} {j e : Nat} {o : Oper} (ho : l[j]? = some o) : e ∈ preds l j ↔ ∃ d ∈ o.after, Region.binds .any d = true ∧ d.on = e := by
  simp only [preds, ho, List.mem_map, List.mem_filter, Array.mem_toList_iff]
  constructor
  · rintro ⟨d, ⟨h1, h2⟩, h3⟩; exact ⟨d, h1, h2, h3⟩
  · rintro ⟨d, h1, h2, h3⟩; exact ⟨d, ⟨h1, h2⟩, h3⟩
theorem draw_any {nt np : Nat} {l : List Oper} {acts : List AD} {B : List Nat} {s0 sn : St} {Q : Exit → St → Prop} (hrun : Run P K nt l.toArray l acts s0 sn) (hok : drawOk nt l acts B = true) (hQ : Q .normal sn) {C : Cx} (hK : C.gl = K) (hnt : C.nt = nt) :
    ∀ (fuel : Nat) (listed : Array Bool) (a : Act) (w : World), listed.size = l.length → Closed l (bOf listed) → ((List.range l.length).filter fun j => !bOf listed j).length ≤ fuel → Sat C (stOf (bOf listed) ((l.map (·.dst)).zip acts) s0 l.length) a w →
      wpAny P .any l.toArray (PQ C Q) fuel listed a w := by
  have hlen := hrun.length
  let full := (l.map (·.dst)).zip acts
  have hfl : full.length = l.length := by simp [full, hlen]
  have hok' := hok
  simp only [drawOk, Bool.and_eq_true] at hok'
  obtain ⟨⟨hmask, hpair⟩, hnts⟩ := hok'
  obtain ⟨hsn, hat⟩ := Run.at_ full s0 0 hrun (fun j => by rw [Nat.zero_add]) rfl
  simp only [Nat.zero_add] at hsn hat
  have getF : ∀ {i : Nat} {o : Oper} {A : AD}, l[i]? = some o → acts[i]? = some A → full[i]? = some (o.dst, A) := fun e1 e2 => by simp [full, List.getElem?_zip_eq_some, e1, e2]
  have hall : ∀ {listed : Array Bool}, Region.ready .any l.toArray listed = [] → listed.size = l.length → ∀ j, j < l.length → bOf listed j = true := by
    intro listed hr hsz
    suffices H : ∀ m j, j ≤ m → j < l.length → bOf listed j = true from fun j hj => H j j (Nat.le_refl _) hj
    intro m
    induction m with
    | zero =>
      intro j hj hjl
      obtain rfl : j = 0 := by omega
      cases hb : bOf listed 0 with
      | true => rfl
      | false =>
        exfalso
        have : (0 : Nat) ∈ Region.ready .any l.toArray listed := by
          rw [mem_ready]
          refine ⟨?_, l[0], by simp, fun e he hbi => ?_⟩
          · simp only [bOf, Array.getD_eq_getD_getElem?, Array.getElem?_eq_getElem (show 0 < listed.size by omega), Option.getD_some] at hb ⊢
            exact hb
          · exfalso
            simp only [masksOk, List.all_eq_true, List.mem_range, Bool.and_eq_true, decide_eq_true_eq] at hmask
            have := (hmask 0 hjl).1 e.on ((mem_preds (by simp)).2 ⟨e, he, hbi, rfl⟩)
            omega
        rw [hr] at this
        cases this
    | succ m ih =>
      intro j hj hjl
      cases hb : bOf listed j with
      | true => rfl
      | false =>
        exfalso
        have : j ∈ Region.ready .any l.toArray listed := by
          rw [mem_ready]
          refine ⟨?_, l[j], by simp, fun e he hbi => ?_⟩
          · simp only [bOf, Array.getD_eq_getD_getElem?, Array.getElem?_eq_getElem (show j < listed.size by omega), Option.getD_some] at hb ⊢
            exact hb
          · simp only [masksOk, List.all_eq_true, List.mem_range, Bool.and_eq_true, decide_eq_true_eq] at hmask
            have := (hmask j hjl).1 e.on ((mem_preds (by simp)).2 ⟨e, he, hbi, rfl⟩)
            exact ih e.on (by omega) (by omega)
        rw [hr] at this
        cases this
  have hend : ∀ {listed : Array Bool} {a : Act} {w : World}, (∀ j, j < l.length → bOf listed j = true) → Sat C (stOf (bOf listed) full s0 l.length) a w → PQ C Q .normal a w := by
    intro listed a w hb hs
    refine ⟨by simp, sn, hQ, hs.ext (fun t => ?_) (fun k => ?_)⟩
    · rw [hsn, stOf_T, stOf_T]
      exact lastW_agree (fun j hj _ => (hb j hj).symm)
    · rw [hsn, stOf_H, stOf_H]
      exact lastW_agree (fun j hj _ => (hb j hj).symm)
  intro fuel
  induction fuel with
  | zero =>
    intro listed a w hsz hcl hcnt hs
    have hb : ∀ j, j < l.length → bOf listed j = true := fun j hj => by
      have : ((List.range l.length).filter fun j => !bOf listed j) = [] := List.eq_nil_of_length_eq_zero (by omega)
      rw [List.filter_eq_nil_iff] at this
      simpa using this j (List.mem_range.2 hj)
    refine ⟨?_, hend hb hs⟩
    cases hr : Region.ready .any l.toArray listed with
    | nil => rfl
    | cons i r =>
      exfalso
      have hi : i ∈ Region.ready .any l.toArray listed := by rw [hr]; simp
      obtain ⟨h0, o, ho, _⟩ := mem_ready.1 hi
      have hil : i < l.length := by simpa using (Array.getElem?_eq_some_iff.1 ho).1
      have := hb i hil
      simp only [bOf, Array.getD_eq_getD_getElem?, Array.getElem?_eq_getElem (show i < listed.size by omega), Option.getD_some] at this h0
      rw [this] at h0
      cases h0
  | succ fuel ih =>
    intro listed a w hsz hcl hcnt hs
    refine ⟨fun hr => hend (hall hr hsz) hs, fun i hi => ?_⟩
    obtain ⟨h0, o, ho, hpre⟩ := mem_ready.1 hi
    have ho' : l[i]? = some o := by simpa using ho
    have hil : i < l.length := (List.getElem?_eq_some_iff.1 ho').1
    obtain ⟨A, hA⟩ : ∃ A, acts[i]? = some A := ⟨acts[i]'(by omega), by simp [List.getElem?_eq_getElem (show i < acts.length by omega)]⟩
    obtain ⟨hg, hd, hcT, hcH⟩ := hat i o A ho' hA
    have hbi : bOf listed i = false := by
      simp only [bOf, Array.getD_eq_getD_getElem?, Array.getElem?_eq_getElem (show i < listed.size by omega), Option.getD_some] at h0 ⊢
      exact h0
    have hpi : ∀ e ∈ preds l i, bOf listed e = true := fun e he => by
      obtain ⟨d, hd1, hd2, rfl⟩ := (mem_preds ho').1 he
      exact hpre d hd1 hd2
    have hbef : ∀ k, (B.getD i 0).testBit k = true → bOf listed k = true := fun k hk => before_done hmask hcl i i (Nat.le_refl _) hpi hil k hk
    have haft : ∀ j, j < l.length → bOf listed j = true → (B.getD j 0).testBit i = false := fun j hj hbj => by
      cases hh : (B.getD j 0).testBit i with
      | false => rfl
      | true =>
        have := before_done hmask hcl j j (Nat.le_refl _) (hcl j hbj) hj i hh
        rw [hbi] at this
        cases this
    -- who writes what this one reads or writes
    have key : ∀ j q, j ≠ i → full[j]? = some q → (meet q.1 q.2 o.dst A = true ∨ meet o.dst A q.1 q.2 = true) → bOf listed j = decide (j < i) := by
      intro j q hne hq hm
      have hjl : j < l.length := by rw [← hfl]; exact (List.getElem?_eq_some_iff.1 hq).1
      rcases Nat.lt_or_gt_of_ne hne with h1 | h1
      · rw [hbef j (pairs_ord hpair h1 hq (getF ho' hA) hm)]
        simp [h1]
      · have := pairs_ord hpair h1 (getF ho' hA) hq hm.symm
        cases hbj : bOf listed j with
        | false => simp; omega
        | true => rw [haft j hjl hbj] at this; cases this
    have readT : ∀ t, touchT A t = true → lkT (stOf (bOf listed) full s0 l.length).t t = lkT (stOf (fun _ => true) full s0 i).t t := by
      intro t ht
      rw [stOf_T, stOf_T]
      have e1 : lastW (WT full t) (bOf listed) (lkT s0.t t) l.length = lastW (WT full t) (fun j => decide (j < i)) (lkT s0.t t) l.length := by
        refine lastW_agree (fun j hj hw => ?_)
        by_cases hji : j = i
        · subst hji; simp [hbi]
        · cases hq : full[j]? with
          | none => simp [WT, hq] at hw
          | some q =>
            refine key j q hji hq (.inl ?_)
            simp only [WT, hq, Option.bind_some] at hw
            have hq1 : q.1 = some t := by
              by_cases h : q.1 = some t
              · exact h
              · rw [if_neg h] at hw; cases hw
            simp [meet, hq1, ht]
      have e2 : ∀ n, i ≤ n → n ≤ l.length → lastW (WT full t) (fun j => decide (j < i)) (lkT s0.t t) n = lastW (WT full t) (fun _ => true) (lkT s0.t t) i := by
        intro n hn hn2
        induction n with
        | zero => obtain rfl : i = 0 := by omega
                  rfl
        | succ n ihn =>
          by_cases h : i = n + 1
          · subst h
            exact lastW_agree (fun j hj _ => by simp [hj])
          · simp only [lastW]
            rw [if_neg (by simp; omega)]
            exact ihn (by omega) (by omega)
      rw [e1, e2 _ (by omega) (Nat.le_refl _)]
    have readH : ∀ k, (A.rH.map (·.1)).contains k = true → lkH (stOf (bOf listed) full s0 l.length).h k = lkH (stOf (fun _ => true) full s0 i).h k := by
      intro k hk
      rw [stOf_H, stOf_H]
      have e1 : lastW (WH full k) (bOf listed) (lkH s0.h k) l.length = lastW (WH full k) (fun j => decide (j < i)) (lkH s0.h k) l.length := by
        refine lastW_agree (fun j hj hw => ?_)
        by_cases hji : j = i
        · subst hji; simp [hbi]
        · cases hq : full[j]? with
          | none => simp [WH, hq] at hw
          | some q =>
            refine key j q hji hq (.inl ?_)
            simp only [WH, hq, Option.bind_some] at hw
            have hq1 : (q.2.wH.map (·.1)).contains k = true := by
              by_cases h : (q.2.wH.map (·.1)).contains k = true
              · exact h
              · rw [if_neg h] at hw; cases hw
            simp only [meet, Bool.or_eq_true, List.any_eq_true]
            exact .inr ⟨k, by simpa using hq1, .inl hk⟩
      have e2 : ∀ n, i ≤ n → n ≤ l.length → lastW (WH full k) (fun j => decide (j < i)) (lkH s0.h k) n = lastW (WH full k) (fun _ => true) (lkH s0.h k) i := by
        intro n hn hn2
        induction n with
        | zero => obtain rfl : i = 0 := by omega
                  rfl
        | succ n ihn =>
          by_cases h : i = n + 1
          · subst h
            exact lastW_agree (fun j hj _ => by simp [hj])
          · simp only [lastW]
            rw [if_neg (by simp; omega)]
            exact ihn (by omega) (by omega)
      rw [e1, e2 _ (by omega) (Nat.le_refl _)]
    have cT : chkT (stOf (bOf listed) full s0 l.length).t A.rT := chkT_mk (fun p hp => by
      rw [readT p.1 (by simp only [touchT, List.contains_iff_mem]; exact List.mem_map.2 ⟨p, hp, rfl⟩)]
      exact chkT_at hcT p hp)
    have cH : chkH (stOf (bOf listed) full s0 l.length).h A.rH := chkH_mk (fun p hp => by
      rw [readH p.1 (by simp only [List.contains_iff_mem]; exact List.mem_map.2 ⟨p, hp, rfl⟩)]
      exact chkH_at hcH p hp)
    have hAnt : ∀ p ∈ A.rT, p.1 < C.nt := by
      simp only [List.all_eq_true, decide_eq_true_eq] at hnts
      rw [hnt]
      exact hnts A (List.mem_of_getElem? hA)
    -- behind it
    have bset : ∀ j, bOf (listed.setIfInBounds i true) j = if j = i then true else bOf listed j := bOf_set (by omega)
    have wT : ∀ t, lkT (stOf (bOf (listed.setIfInBounds i true)) full s0 l.length).t t = lkT (putT o.dst A.x (stOf (bOf listed) full s0 l.length).t) t := by
      intro t
      rw [lkT_putT, stOf_T]
      by_cases ht : o.dst = some t
      · rw [if_pos ht]
        refine lastW_last (i := i) (by simp [WT, getF ho' hA, ht]) (by rw [bset]; simp) hil (fun j h1 h2 hb => ?_)
        cases hw : WT full t j with
        | none => rfl
        | some v =>
          exfalso
          cases hq : full[j]? with
          | none => simp [WT, hq] at hw
          | some q =>
            have hq1 : q.1 = some t := by
              simp only [WT, hq, Option.bind_some] at hw
              by_cases h : q.1 = some t
              · exact h
              · rw [if_neg h] at hw; cases hw
            have hk := key j q (by omega) hq (.inl (by simp [meet, hq1, ht]))
            rw [bset, if_neg (by omega)] at hb
            rw [hb] at hk
            simp at hk
            omega
      · rw [if_neg ht, stOf_T]
        refine lastW_agree (fun j hj hw => ?_)
        rw [bset]
        split
        · rename_i h
          subst h
          simp [WT, getF ho' hA, ht] at hw
        · rfl
    have wHh : ∀ k, lkH (stOf (bOf (listed.setIfInBounds i true)) full s0 l.length).h k = lkH (A.wH ++ (stOf (bOf listed) full s0 l.length).h) k := by
      intro k
      rw [lkH_app, stOf_H]
      by_cases ht : (A.wH.map (·.1)).contains k = true
      · rw [if_pos ht]
        refine lastW_last (i := i) (by simp only [WH, getF ho' hA, Option.bind_some]; rw [if_pos ht]) (by rw [bset]; simp) hil (fun j h1 h2 hb => ?_)
        cases hw : WH full k j with
        | none => rfl
        | some v =>
          exfalso
          cases hq : full[j]? with
          | none => simp [WH, hq] at hw
          | some q =>
            have hq1 : (q.2.wH.map (·.1)).contains k = true := by
              simp only [WH, hq, Option.bind_some] at hw
              by_cases h : (q.2.wH.map (·.1)).contains k = true
              · exact h
              · rw [if_neg h] at hw; cases hw
            have hk := key j q (by omega) hq (.inl (by
              simp only [meet, Bool.or_eq_true, List.any_eq_true]
              exact .inr ⟨k, by simpa using hq1, .inr ht⟩))
            rw [bset, if_neg (by omega)] at hb
            rw [hb] at hk
            simp at hk
            omega
      · rw [if_neg ht, stOf_H]
        refine lastW_agree (fun j hj hw => ?_)
        rw [bset]
        split
        · rename_i h
          subst h
          simp only [WH, getF ho' hA, Option.bind_some] at hw
          rw [if_neg ht] at hw
          cases hw
        · rfl
    have next : ∀ a' w', Sat C ⟨putT o.dst A.x (stOf (bOf listed) full s0 l.length).t, A.wH ++ (stOf (bOf listed) full s0 l.length).h⟩ a' w' → wpAny P .any l.toArray (PQ C Q) fuel (listed.setIfInBounds i true) a' w' := by
      intro a' w' hs'
      refine ih _ a' w' (by simp [hsz]) (fun j hj e he => ?_) ?_ (hs'.ext wT wHh)
      · rw [bset] at hj ⊢
        split
        · rfl
        · by_cases hji : j = i
          · subst hji; exact hpi e he
          · rw [if_neg hji] at hj; exact hcl j hj e he
      · have : ((List.range l.length).filter fun j => !bOf (listed.setIfInBounds i true) j).length < ((List.range l.length).filter fun j => !bOf listed j).length := by
          have hsub : ((List.range l.length).filter fun j => !bOf (listed.setIfInBounds i true) j) = (((List.range l.length).filter fun j => !bOf listed j).filter fun j => !(j == i)) := by
            rw [List.filter_filter]
            congr 1
            funext j
            rw [bset]
            by_cases h : j = i <;> simp [h]
          rw [hsub]
          exact List.length_filter_lt_length_iff_exists.2 ⟨i, by simp [hil, hbi], by simp⟩
        omega
    have hga := hg C _ a w hK cT cH (hnt ▸ hd) hAnt hs
    unfold wpOp
    simp only [ho]
    split
    · rename_i hw
      rw [if_pos hw] at hga
      exact .inl (Oper.wp_mono (fun a' w' h => next a' w' h) (Oper.upon_no hga))
    · rename_i hw
      rw [if_neg hw] at hga
      exact next _ _ hga
def WD (P : Program) (K : GL) (nt : Nat) (B : List Nat) (full : List Oper) (pre : List AD) (rest : List Oper) (s : St) (Q : Exit → St → Prop) : Prop :=
  ∃ acts sn, Run P K nt full.toArray rest acts s sn ∧ drawOk nt full (pre ++ acts) B = true ∧ Q .normal sn
section
variable {nt np : Nat} {s : St} {Q : Exit → St → Prop} {B : List Nat} {full : List Oper}
theorem wc_draw {id : Nat} (B : List Nat) (hm : P.follows .mixedOrders = true) (hnd : noDefer full = true) (h : WD P K nt B full [] full s Q) : WC P K nt np (.region id full.toArray true) s Q := by
  obtain ⟨acts, sn, hrun, hok, hq⟩ := h
  intro C h1 h2 h3 r a w hs
  refine wpIn_region_any hm (any_in PQ.noOut hnd _ _ ?_)
  have hs' : Sat C s a { w with drawn := w.drawn + 1 } := by
    obtain ⟨hdf, hsz, E, hO, hR⟩ := hs
    refine ⟨hdf, hsz, E, ⟨hO.f0, hO.hd, hO.fz, hO.fn, fun k => ?_, fun i j oi oj hi hj b li lj ei ej bi bj => hO.inj i j oi oj hi hj b li lj ei ej ((oblk_heap (w := w) (w' := { w with drawn := w.drawn + 1 }) rfl).1 bi) ((oblk_heap (w := w) (w' := { w with drawn := w.drawn + 1 }) rfl).1 bj), ⟨hO.w.os, hO.w.tape, hO.w.output, hO.w.size, hO.w.block⟩, hO.g⟩, hR⟩
    have := hO.hs k
    cases hk : lkH s.h k with
    | fresh => rw [hk] at this; exact this
    | dead => trivial
    | live o =>
      rw [hk] at this
      obtain ⟨v, e, ho, hn⟩ := this
      exact ⟨v, e, ORel.world (w := w) (w' := { w with drawn := w.drawn + 1 }) (fun _ _ => rfl) ho, fun b hb => hn b ((oblk_heap (w := w) (w' := { w with drawn := w.drawn + 1 }) rfl).1 hb)⟩
  have hb : ∀ j, bOf (Array.replicate full.length false) j = false := by
    intro j
    simp only [bOf, Array.getD_eq_getD_getElem?, Array.getElem?_replicate]
    split <;> rfl
  have := draw_any (np := np) hrun (by simpa using hok) hq h1 h2 full.length (Array.replicate full.length false) a { w with drawn := w.drawn + 1 } (by simp) (fun j hj => by rw [hb] at hj; cases hj) (Nat.le_trans (List.length_filter_le _ _) (by simp)) (hs'.ext (fun t => by
      rw [stOf_T]
      have : ∀ n, lastW (WT ((full.map (·.dst)).zip acts) t) (bOf (Array.replicate full.length false)) (lkT s.t t) n = lkT s.t t := by
        intro n
        induction n with
        | zero => rfl
        | succ n ih => simp only [lastW, hb]; simpa using ih
      exact this _) (fun k => by
      rw [stOf_H]
      have : ∀ n, lastW (WH ((full.map (·.dst)).zip acts) k) (bOf (Array.replicate full.length false)) (lkH s.h k) n = lkH s.h k := by
        intro n
        induction n with
        | zero => rfl
        | succ n ih => simp only [lastW, hb]; simpa using ih
      exact this _))
  simpa using this
theorem wd_nil {pre : List AD} (h : Q .normal s) (hok : drawOk nt full pre B = true) : WD P K nt B full pre [] s Q := ⟨[], s, rfl, by simpa using hok, h⟩
theorem wd_cons {pre : List AD} {o : Oper} {rest : List Oper} (A : AD) (hg : GAct P K full.toArray o A) (hT : chkT s.t A.rT) (hH : chkH s.h A.rH) (hd : inT o.dst nt) (h : WD P K nt B full (pre ++ [A]) rest ⟨putT o.dst A.x s.t, A.wH ++ s.h⟩ Q) : WD P K nt B full pre (o :: rest) s Q := by
  obtain ⟨acts, sn, hrun, hok, hq⟩ := h
  exact ⟨A :: acts, sn, ⟨hg, hT, hH, hd, hrun⟩, by simpa using hok, hq⟩
theorem wd_step {pre : List AD} {o : Oper} {rest : List Oper} {rT : List (Nat × AV)} {rH : List (Nat × HS)} {x : AV} {wH : List (Nat × HS)} (ho : LAct P K o rT rH x wH) (hT : chkT s.t rT) (hH : chkH s.h rH) (hd : inT o.dst nt)
    (h : WD P K nt B full (pre ++ [⟨rT, rH, x, wH⟩]) rest ⟨putT o.dst x s.t, wH ++ s.h⟩ Q) (hg : o.guard = none) : WD P K nt B full pre (o :: rest) s Q :=
  wd_cons ⟨rT, rH, x, wH⟩ (fun C s' a w h1 h2 h3 h4 _ h5 => by rw [if_pos (by simp [Region.wanted, hg])]; exact ho C s' a w h1 h2 h3 h4 h5) hT hH hd h
def Strip (c : Bool) (y x : AV) : Prop := y = x ∨ ∃ b, y = .when b x ∧ (c = true → b = true)
def Strips (c : Bool) : List (Nat × AV) → List (Nat × AV) → Prop
  | [], [] => True
  | (i, y) :: l, (j, x) :: m => i = j ∧ Strip c y x ∧ Strips c l m
  | _, _ => False
theorem Strip.down {E : Env} {c : Bool} {y x : AV} {v : Value} (h : Strip c y x) (hc : c = true) (k : Rel E y v) : Rel E x v := by
  rcases h with rfl | ⟨b, rfl, hb⟩
  · exact k
  · exact k.1 (hb hc)
theorem Strip.up {E : Env} {c : Bool} {y x : AV} {v : Value} (h : Strip c y x) (hc : c = true) (k : Rel E x v) : Rel E y v := by
  rcases h with rfl | ⟨b, rfl, hb⟩
  · exact k
  · exact ⟨fun _ => k, fun e => by rw [hb hc] at e; cases e⟩
theorem Strips.mem {c : Bool} : ∀ {l m : List (Nat × AV)}, Strips c l m → ∀ i x, (i, x) ∈ m → ∃ y, (i, y) ∈ l ∧ Strip c y x
  | [], [], _, _, _, h => by simp at h
  | (i', y) :: l, (j, x') :: m, h, i, x, hm => by
    obtain ⟨rfl, h2, h3⟩ := h
    rcases List.mem_cons.1 hm with e | hm
    · cases e
      exact ⟨y, by simp, h2⟩
    · obtain ⟨y', hy, hs⟩ := Strips.mem h3 i x hm
      exact ⟨y', by simp [hy], hs⟩
  | [], _ :: _, h, _, _, _ => absurd h id
  | _ :: _, [], h, _, _, _ => absurd h id
theorem lkT_app_mem (i : Nat) (t : List (Nat × AV)) : ∀ m : List (Nat × AV), (∃ x, (i, x) ∈ m ∧ lkT (m ++ t) i = x) ∨ lkT (m ++ t) i = lkT t i
  | [] => .inr rfl
  | (j, x) :: m => by
    show (∃ y, _ ∧ (if j = i then x else lkT (m ++ t) i) = y) ∨ (if j = i then x else lkT (m ++ t) i) = _
    by_cases e : j = i
    · subst e
      exact .inl ⟨x, by simp, by simp⟩
    · rw [if_neg e]
      rcases lkT_app_mem i t m with ⟨y, hy, h⟩ | h
      · exact .inl ⟨y, by simp [hy], h⟩
      · exact .inr h
theorem lkT_mem_app {i : Nat} {x : AV} {t : List (Nat × AV)} : ∀ {m : List (Nat × AV)}, (∃ y, (i, y) ∈ m) → lkT m i = x → lkT (m ++ t) i = x
  | [], ⟨y, h⟩, _ => by simp at h
  | (j, z) :: m, ⟨y, h⟩, e => by
    show (if j = i then z else lkT (m ++ t) i) = x
    have e' : (if j = i then z else lkT m i) = x := e
    by_cases hji : j = i
    · rw [if_pos hji] at e' ⊢; exact e'
    · rw [if_neg hji] at e' ⊢
      refine lkT_mem_app ⟨y, ?_⟩ e'
      rcases List.mem_cons.1 h with h | h
      · cases h; exact absurd rfl hji
      · exact h
inductive Grd : AV → Bool → Bool → Prop
  | plain (e : Bool) : Grd (.data (.lit (.bool e))) true e
  | under (c e : Bool) : Grd (.when c (.data (.lit (.bool e)))) c e
theorem GAct.when {ops : Array Oper} {o : Oper} {j d : Nat} {want c e : Bool} {gx : AV} {rS rT : List (Nat × AV)} {rH : List (Nat × HS)} {x : AV} (hgd : Grd gx c e) (hg : o.guard = some (j, want)) (hj : (ops[j]?).bind (·.dst) = some d)
    (ho : (c && (e == want)) = true → LAct P K o rT rH x []) (hs : Strips (c && (e == want)) rS rT) (hcons : chkT rT rT) : GAct P K ops o ⟨(d, gx) :: rS, rH, .when (c && (e == want)) x, []⟩ := by
  intro C s a w hK hT hH hd hn hsat
  have hdn : d < C.nt := hn (d, gx) List.mem_cons_self
  have hgx := hT.1
  obtain ⟨hdf, hsz, E, hO, hR⟩ := hsat
  have hlt : d < a.tmps.size := by omega
  have hget : a.tmps[d]? = some (a.tmps.getD d undef) := by
    rw [Array.getD_eq_getD_getElem?, Array.getElem?_eq_getElem hlt]; rfl
  have hw : Region.wanted o (yielded ops a.tmps) = (c && (e == want)) := by
    have hr := hR d
    rw [hgx] at hr
    have hy : yielded ops a.tmps j = match a.tmps.getD d undef with | .bool b => some b | _ => none := by
      unfold yielded
      rw [hj]
      show (match a.tmps[d]? with | some (.bool b) => some b | _ => none) = _
      rw [hget]
      cases a.tmps.getD d undef <;> rfl
    simp only [Region.wanted, hg, hy]
    cases hgd with
    | plain =>
      rw [lit_eq hr]
      cases e <;> cases want <;> rfl
    | under =>
      cases c with
      | true =>
        rw [lit_eq (hr.1 rfl)]
        cases e <;> cases want <;> rfl
      | false =>
        rw [hr.2 rfl]
        rfl
  rw [hw]
  cases hc : (c && (e == want)) with
  | false =>
    rw [if_neg (by simp)]
    rw [hc] at hs
    refine Sat.put hdf hsz hR (Env.le_refl E) hO hd ⟨fun e => by simp at e, fun _ => rfl⟩
  | true =>
    rw [if_pos rfl]
    have hsl : ∀ i x, (i, x) ∈ rT → Strip true (lkT s.t i) x := by
      intro i x hm
      obtain ⟨y, hy, hst⟩ := Strips.mem hs i x hm
      rw [chkT_at hT.2 (i, y) hy]
      rw [hc] at hst
      exact hst
    have hR' : ∀ i, Rel E (lkT (rT ++ s.t) i) (a.tmps.getD i undef) := by
      intro i
      rcases lkT_app_mem i s.t rT with ⟨x, hx, e1⟩ | e1
      · rw [e1]; exact (hsl i x hx).down rfl (hR i)
      · rw [e1]; exact hR i
    have hcT : chkT (rT ++ s.t) rT := chkT_mk (fun p hp => lkT_mem_app ⟨p.2, hp⟩ (chkT_at hcons p hp))
    refine Oper.wp_mono ?_ (ho hc C ⟨rT ++ s.t, s.h⟩ a w hK hcT hH hd ⟨hdf, hsz, E, hO, hR'⟩)
    intro a' w' hs'
    obtain ⟨hdf', hsz', E', hO', hRR⟩ := hs'
    refine ⟨hdf', hsz', E', hO', fun i => ?_⟩
    have hi := hRR i
    rw [lkT_putT] at hi ⊢
    by_cases hdi : o.dst = some i
    · rw [if_pos hdi] at hi ⊢
      exact ⟨fun _ => hi, fun e => by simp at e⟩
    · rw [if_neg hdi] at hi ⊢
      rcases lkT_app_mem i s.t rT with ⟨x, hx, e1⟩ | e1
      · rw [e1] at hi
        exact (hsl i x hx).up rfl hi
      · rw [e1] at hi; exact hi
theorem wd_when {pre : List AD} {o : Oper} {rest : List Oper} {j d : Nat} {want c e : Bool} {gx : AV} {rS rT : List (Nat × AV)} {rH : List (Nat × HS)} {x : AV} (hgx : lkT s.t d = gx) (hgd : Grd gx c e) (hg : o.guard = some (j, want)) (hj : ((full.toArray)[j]?).bind (·.dst) = some d)
    (ho : (c && (e == want)) = true → LAct P K o rT rH x []) (hT : chkT s.t rS) (hs : Strips (c && (e == want)) rS rT) (hcons : chkT rT rT) (hH : chkH s.h rH) (hd : inT o.dst nt)
    (h : WD P K nt B full (pre ++ [⟨(d, gx) :: rS, rH, .when (c && (e == want)) x, []⟩]) rest ⟨putT o.dst (.when (c && (e == want)) x) s.t, s.h⟩ Q) : WD P K nt B full pre (o :: rest) s Q :=
  wd_cons _ (GAct.when hgd hg hj ho hs hcons) ⟨hgx, hT⟩ hH hd h
theorem wl_g {ops : Array Oper} {o : Oper} {rest : List Oper} (A : AD) (ho : GAct P K ops o A) (hn : ∀ p ∈ A.rT, p.1 < nt) (hT : chkT s.t A.rT) (hH : chkH s.h A.rH) (hd : inT o.dst nt) (h : WL P K nt np ops rest ⟨putT o.dst A.x s.t, A.wH ++ s.h⟩ Q) : WL P K nt np ops (o :: rest) s Q := by
  intro hnd C h1 h2 h3 r a w hs
  have hg := ho C s a w h1 hT hH (h2 ▸ hd) (h2 ▸ hn) hs
  refine wpListIn_step fun K' hK' => ?_
  split
  · rename_i hw
    rw [if_pos hw] at hg
    exact oper_in (noDefer_mem hnd (by simp)) (Oper.wp_mono (fun a' w' hs' => hK' a' w' (h (noDefer_tl hnd) C h1 h2 h3 r a' w' hs')) (Oper.upon_no hg))
  · rename_i hw
    rw [if_neg hw] at hg
    exact ⟨fun _ _ => trivial, hK' _ _ (h (noDefer_tl hnd) C h1 h2 h3 r _ _ hg)⟩
theorem wl_when {ops : Array Oper} {o : Oper} {rest : List Oper} {j d : Nat} {want c e : Bool} {gx : AV} {rS rT : List (Nat × AV)} {rH : List (Nat × HS)} {x : AV} (hgx : lkT s.t d = gx) (hgd : Grd gx c e) (hg : o.guard = some (j, want)) (hj : (ops[j]?).bind (·.dst) = some d)
    (ho : (c && (e == want)) = true → LAct P K o rT rH x []) (hT : chkT s.t rS) (hs : Strips (c && (e == want)) rS rT) (hcons : chkT rT rT) (hn : ((d, gx) :: rS).all (fun p => decide (p.1 < nt)) = true) (hH : chkH s.h rH) (hd : inT o.dst nt)
    (h : WL P K nt np ops rest ⟨putT o.dst (.when (c && (e == want)) x) s.t, s.h⟩ Q) : WL P K nt np ops (o :: rest) s Q :=
  wl_g _ (GAct.when hgd hg hj ho hs hcons) (fun p hp => by
    have := List.all_eq_true.1 hn p hp
    simpa using this) ⟨hgx, hT⟩ hH hd h
end
end Go.Proofs.YtgmpgoafokdcbaaGreatDoor.Sx
