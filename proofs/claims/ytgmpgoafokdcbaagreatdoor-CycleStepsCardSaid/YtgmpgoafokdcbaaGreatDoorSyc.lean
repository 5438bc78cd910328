/- The walk's words, part 3: own rows that nobody writes any more; results of several values; own rows lent to a function of data. -/
import Derived.Test.YtgmpgoafokdcbaaGreatDoorSyb
set_option linter.unusedVariables false
namespace Go.Proofs.YtgmpgoafokdcbaaGreatDoor.Sx
open Go Go.RowKit
variable {P : Program} {K : GL}
def Wl (ks : List (Nat × Nat)) : List AV → List AV → Prop
  | [], [] => True
  | y :: ys, x :: xs => Wk ks y x ∧ Wl ks ys xs
  | _, _ => False
theorem Wl.rel {ks : List (Nat × Nat)} {E E' : Env} (hp : Pulls (rK ks) (pK ks) E E') : ∀ {ys xs : List AV} {vs : List Value}, Wl ks ys xs → Rels E ys vs → Rels E' xs vs
  | [], [], _, _, k => k
  | y :: ys, x :: xs, _, h, k => by
    obtain ⟨u, us, rfl, h1, h2⟩ := k
    exact ⟨u, us, rfl, h.1.rel hp h1, Wl.rel hp h.2 h2⟩
  | [], _ :: _, _, h, _ => absurd h id
  | _ :: _, [], _, h, _ => absurd h id
theorem re2 {np : Nat} {h post : List (Nat × HS)} {ys xs : List AV} (ks : List (Nat × Nat)) (hx : Wl ks ys xs) (hk : okK np ks = true) (hh : eS' ks h ks post) : RetE np h (.tup ys) (.tup xs) post := by
  intro C E w v hn hO hv
  obtain ⟨E', hp, hO'⟩ := hO.ren ks hn hk hh
  obtain ⟨vs, e, hr⟩ := hv
  exact ⟨E', hO', vs, e, hx.rel hp hr⟩
theorem EOk.frow {C : Cx} {E : Env} {h : List (Nat × HS)} {w : World} {k sz : Nat} {α : Type} {f : α → List D} {l : List α} {e : TypeId} (hO : EOk C E h w) (hk : lkH h k = oR e sz f l) (hf : ∀ x ∈ l, (f x).length = sz) :
    ∃ E', Env.le E E' ∧ EOk C E' ((k, .dead) :: h) w ∧ ∀ v, E.φ k = some v → (D.list sz (l.map f)).p E'.F v := by
  have hs := hO.hs k
  rw [hk] at hs
  obtain ⟨v, hv, ⟨vs, ho, hr, h1⟩, hb⟩ := hs
  have drop : ∀ {E' : Env}, E'.φ = E.φ → FH.le E.F E'.F → (∀ b o, E'.F b = some o → w.heap[b]? = some o ∧ (C.F0 b = some o ∨ C.w0.heap.size ≤ b ∨ C.own b)) → (∀ i o x b, i ≠ k → lkH h i = .live o → E.φ i = some x → oblk w o x b → E'.F b = none) → EOk C E' ((k, .dead) :: h) w := by
    intro E' eφ eF hz hn
    have hle : Env.le E E' := ⟨eF, fun i x e => by rw [eφ]; exact e⟩
    refine ⟨FH.le_trans hO.f0 eF, fun i x e => by rw [eφ]; exact hO.hd i x e, fun b o e => (hz b o e).1, fun b o e => (hz b o e).2, fun i => ?_, ?_, hO.w, fun i ds e => cellsAt_le eF (hO.g i ds e)⟩
    · by_cases hi : i = k
      · subst hi; rw [lkH_cons_self]; trivial
      · rw [lkH_cons_ne _ _ hi]
        have := hO.hs i
        cases hl : lkH h i with
        | fresh => rw [hl] at this; show E'.φ i = none; rw [eφ]; exact this
        | dead => trivial
        | live o =>
          rw [hl] at this
          obtain ⟨x, hx, hor, hbb⟩ := this
          exact ⟨x, by rw [eφ]; exact hx, hor.mono hle, fun b hb' => ⟨hn i o x b hi hl hx hb', (hbb b hb').2⟩⟩
    · intro i j oi oj hi hj b li lj ei ej bi bj
      have ne : ∀ {i oi}, lkH ((k, .dead) :: h) i = .live oi → lkH h i = .live oi := by
        intro i oi li
        by_cases hi : i = k
        · subst hi; rw [lkH_cons_self] at li; cases li
        · rwa [lkH_cons_ne _ _ hi] at li
      rw [eφ] at ei ej
      exact hO.inj i j oi oj hi hj b (ne li) (ne lj) ei ej bi bj
  rcases ho.2 with ⟨rfl, hn⟩ | ⟨g, cap, cur, rfl, _, hw, hc1, hc2, hc3, hc4⟩
  · have hl0 : l = [] := List.length_eq_zero_iff.1 hn
    subst hl0
    refine ⟨E, Env.le_refl E, drop rfl (FH.le_refl _) (fun b o e => ⟨hO.fz b o e, hO.fn b o e⟩) (fun i o x b hi hl hx hb' => ?_), fun u hu => ?_⟩
    · have := hO.hs i
      rw [hl] at this
      obtain ⟨x', hx', _, hbb⟩ := this
      rw [hx] at hx'; cases hx'
      exact (hbb b hb').1
    · rw [hv] at hu; cases hu
      exact ⟨none, 0, rfl, Nat.le_refl _, by simp [maxLen], fun hn => absurd rfl hn⟩
  · have hFb : E.F g = none := (hb g rfl).1
    have hown := (hb g rfl).2
    refine ⟨E.frz g (.cells cur e (0, 0)), E.frz_le _ hFb, drop rfl (E.frz_le _ hFb).1 (fun b o hbo => ?_) (fun i o x b hi hl hx hb' => ?_), fun u hu => ?_⟩
    · simp only [Env.frz] at hbo
      split at hbo
      · rename_i hbg
        cases hbo
        subst hbg
        exact ⟨hw, by rcases hown with h2 | h2; exact .inr (.inr h2); exact .inr (.inl h2)⟩
      · exact ⟨hO.fz b o hbo, hO.fn b o hbo⟩
    · have := hO.hs i
      rw [hl] at this
      obtain ⟨x', hx', _, hbb⟩ := this
      rw [hx] at hx'; cases hx'
      have hne : b ≠ g := by
        rintro rfl
        exact hi (hO.inj i k _ _ x _ b hl hk hx hv hb' rfl)
      simp only [Env.frz, if_neg hne]
      exact (hbb b hb').1
    · rw [hv] at hu; cases hu
      refine ⟨some ⟨g, 0, none⟩, cap, by rw [List.length_map], by rw [List.length_map]; exact hc1, by rw [List.length_map]; exact Nat.le_trans hc1 hc2, fun _ => ⟨_, rfl, fun i c hc => ?_⟩⟩
      rw [List.getElem?_map] at hc
      obtain ⟨x, hx, rfl⟩ := Option.map_eq_some_iff.1 hc
      refine ⟨hf x (List.mem_of_getElem? hx), fun j d hj => ?_⟩
      have hfl : (l.flatMap f)[i * sz + j]? = some d := by
        have := flatten_get (cs := l.map f) (sz := sz) (i := i) (c := f x) (j := j) (d := d) (fun c hc' => by
          obtain ⟨y, hy, rfl⟩ := List.mem_map.1 hc'
          exact hf y hy) (by rw [List.getElem?_map, hx]; rfl) hj
        rwa [← List.flatMap_def] at this
      obtain ⟨u, hu', hd⟩ := rels_datas hr _ _ hfl
      refine ⟨u, ?_, d.mono (E.frz_le _ hFb).1 hd⟩
      have hadd : ∀ n, (⟨g, 0, none⟩ : Addr).add n = ⟨g, n, none⟩ := by
        intro n; unfold Addr.add; split <;> simp_all
      rw [add_add, hadd]
      unfold fcell
      simp only [Env.frz, if_true]
      rw [← hc4, List.getElem?_take] at hu'
      split at hu'
      · simpa using hu'
      · cases hu'
section
variable {np nt : Nat} {t : List (Nat × AV)} {h : List (Nat × HS)} {k sz d : Nat} {α : Type} {f : α → List D} {l : List α} {e : TypeId}
theorem fz (hx : lk t d = some (.row k)) (hh : hp h k = some (oR e sz f l)) (hf : ∀ x, (f x).length = sz) : Ent np ⟨t, h⟩ ⟨(d, aL sz f l) :: t, (k, .dead) :: h⟩ := by
  intro C hn a w hs
  obtain ⟨hdf, hsz, E, hO, hR⟩ := hs
  obtain ⟨E', hle, hO', hl⟩ := hO.frow (hp_lk hh) (fun x _ => hf x)
  refine ⟨hdf, hsz, E', hO', fun i => ?_⟩
  simp only [lkT]
  split
  · rename_i e
    subst e
    have := hR d
    rw [lk_lk hx] at this
    exact hl _ this.1
  · exact Rel.mono hle (hR i)
theorem fzc {j i : Nat} {ct : TypeId} {cs : List AV} (hb : hp h j = some (oC ct cs)) (hx : cs[i]? = some (.row k)) (hh : hp h k = some (oR e sz f l)) (hj : Nat.beq j k = false) (hf : ∀ x, (f x).length = sz) : Ent np ⟨t, h⟩ ⟨t, (j, oC ct (cs.set i (aL sz f l))) :: (k, .dead) :: h⟩ := by
  intro C hn a w hs
  obtain ⟨hdf, hsz, E, hO, hR⟩ := hs
  obtain ⟨E', hle, hO', hl⟩ := hO.frow (hp_lk hh) (fun x _ => hf x)
  have hjk : j ≠ k := fun e => by rw [e] at hj; simp at hj
  refine ⟨hdf, hsz, E', ?_, fun i => Rel.mono hle (hR i)⟩
  have hlj : lkH ((k, .dead) :: h) j = oC ct cs := by rw [lkH_cons_ne _ _ hjk]; exact hp_lk hb
  have hs := hO'.hs j
  rw [hlj] at hs
  obtain ⟨v, hv, ho, hbb⟩ := hs
  obtain ⟨b, vs, rfl, hw, hr, h1⟩ := ho
  have hor : ORel E' w (.cells ct (cs.set i (aL sz f l))) (.pointer (some ⟨b, 0, none⟩)) := by
    refine ⟨b, vs, rfl, hw, ?_, h1⟩
    obtain ⟨u, hu, hru⟩ := hr.get hx
    have hset : vs.set i u = vs := by
      apply List.ext_getElem?
      intro j
      rw [List.getElem?_set]
      split
      · rename_i e0
        subst e0
        obtain ⟨hlt, he⟩ := List.getElem?_eq_some_iff.1 hu
        simp [hlt, ← he]
      · rfl
    have hkφ : E.φ k = some u := by
      have hs0 := hO.hs k
      rw [hp_lk hh] at hs0
      obtain ⟨v0, hv0, _⟩ := hs0
      have := hle.2 k v0 hv0
      rw [hru.1] at this
      rw [this]; exact hv0
    have := hr.set i (x := aL sz f l) (v := u) (hl u hkφ)
    rwa [hset] at this
  refine ⟨hO'.f0, hO'.hd, hO'.fz, hO'.fn, fun q => ?_, ?_, hO'.w, hO'.g⟩
  · by_cases hq : q = j
    · subst hq; rw [lkH_cons_self]; exact ⟨_, hv, hor, fun b hb => hbb b hb⟩
    · rw [lkH_cons_ne _ _ hq]; exact hO'.hs q
  · intro q q' oi oj hi hj' b' li lj ei ej bi bj
    have key : ∀ {q oi}, lkH ((j, oC ct (cs.set i (aL sz f l))) :: (k, .dead) :: h) q = .live oi → ∃ o', lkH ((k, .dead) :: h) q = .live o' ∧ ∀ v b, oblk w oi v b → oblk w o' v b := by
      intro q oi li
      by_cases hq : q = j
      · subst hq; rw [lkH_cons_self] at li; cases li; exact ⟨_, hlj, fun v b h => h⟩
      · rw [lkH_cons_ne _ _ hq] at li; exact ⟨_, li, fun v b h => h⟩
    obtain ⟨o1, l1, m1⟩ := key li
    obtain ⟨o2, l2, m2⟩ := key lj
    exact hO'.inj q q' o1 o2 hi hj' b' l1 l2 ei ej (m1 _ _ bi) (m2 _ _ bj)
theorem nr (k : Nat) (hx : lk t d = some aNil) (hf : hp h k = none) (hk : Nat.ble np k = true) : Ent np ⟨t, h⟩ ⟨(d, .row k) :: t, (k, oR e sz f ([] : List α)) :: h⟩ := by
  intro C hn a w hs
  obtain ⟨hdf, hsz, E, hO, hR⟩ := hs
  have hd := hR d
  rw [lk_lk hx] at hd
  obtain ⟨hle, hO'⟩ := hO.adopt (hp_no hf) e sz
  refine ⟨hdf, hsz, E.with k (.slice none 0 0), hO', fun i => ?_⟩
  simp only [lkT]
  split
  · rename_i e0
    subst e0
    rw [hd.1]
    exact ⟨Env.with_self _ _ _, none, 0, 0, rfl⟩
  · exact Rel.mono hle (hR i)
end
def Lit (x : AV) : Prop := ∀ (E E' : Env) (v : Value), Rel E x v → Rel E' x v
def Lend (k : Nat) (a : AV) : List AV → List AV → Prop
  | [], [] => True
  | v :: vs, u :: us => (v = u ∧ okA (fun _ => false) u = true ∨ v = .row k ∧ u = a) ∧ Lend k a vs us
  | _, _ => False
theorem ld0 {k : Nat} {a : AV} : Lend k a [] [] := trivial
theorem ld1 {k : Nat} {a : AV} {vs us : List AV} (h : Lend k a vs us) : Lend k a (.row k :: vs) (a :: us) := ⟨.inr ⟨rfl, rfl⟩, h⟩
theorem ld2 {k : Nat} {a u : AV} {vs us : List AV} (o : okA (fun _ => false) u = true) (h : Lend k a vs us) : Lend k a (u :: vs) (u :: us) := ⟨.inl ⟨rfl, o⟩, h⟩
theorem Lend.rels {E E' : Env} {k : Nat} {a : AV} (hle : Env.le E E') (ha : ∀ v, E.φ k = some v → Rel E' a v) (ho : okA (fun _ => false) a = true) : ∀ {vs us : List AV} {xs : List Value}, Lend k a vs us → Rels E vs xs → Rels E' us xs ∧ okAs (fun _ => false) us = true
  | [], [], _, _, h => ⟨h, rfl⟩
  | v :: vs, u :: us, _, h, hr => by
    obtain ⟨x, xs, rfl, h1, h2⟩ := hr
    obtain ⟨r1, r2⟩ := Lend.rels hle ha ho h.2 h2
    have key : Rel E' u x ∧ okA (fun _ => false) u = true := by
      rcases h.1 with ⟨rfl, o⟩ | ⟨rfl, rfl⟩
      · exact ⟨Rel.mono hle h1, o⟩
      · exact ⟨ha x h1.1, ho⟩
    refine ⟨⟨x, xs, rfl, key.1, r1⟩, ?_⟩
    show (okA (fun _ => false) u && okAs (fun _ => false) us) = true
    rw [key.2, r2]; rfl
  | [], _ :: _, _, h, _ => absurd h id
  | _ :: _, [], _, h, _ => absurd h id
theorem lend_call {f : FuncId} {args : List AV} {ret : AV} (hc : FnOk P K f args [] ret []) (hl : Lit ret) {C : Cx} {E E' : Env} {h : List (Nat × HS)} {w : World} {vs : List Value} (g : Nat → Prop) (hK : C.gl = K) (hO : EOk C E h w) (hle : Env.le E E') (eφ : E'.φ = E.φ) (hz : ∀ b o, E'.F b = some o → w.heap[b]? = some o)
    (hg : ∀ b o, E'.F b = some o → E.F b = some o ∨ (g b ∧ E.F b = none)) (hn : ∀ b, g b → E.F b = none) (hv : Rels E' args vs) (ho : okAs (fun _ => false) args = true) :
    Calls P f vs.toArray w fun e w' => ∃ v E3, e = .returned v ∧ Env.le E E3 ∧ Rel E3 ret v ∧ EOk C E3 h w' := by
  classical
  let Cl : Cx := { w0 := w, F0 := E'.F, own := fun _ => False, nt := 0, hd := fun _ => none, gl := K }
  have hl0 : EOk Cl ⟨E'.F, fun _ => none⟩ [] w := ⟨FH.le_refl _, (fun k v e => by cases e), hz, fun b o e => .inl e, fun k => rfl, (fun i j oi oj hi hj b li => by cases li), ⟨rfl, rfl, rfl, Nat.le_refl _, fun _ _ _ => rfl⟩, fun i ds e => cellsAt_le hle.1 (hO.g i ds (hK ▸ e))⟩
  refine (hc Cl ⟨E'.F, fun _ => none⟩ vs rfl rfl (fun _ _ e => by cases e) (fun _ _ => rfl) hl0 (Rels.noφ (F := E'.F) (φ := E'.φ) ho hv)).mono ?_
  rintro e w' ⟨v, E1, rfl, hr, h1⟩
  let E3 : Env := ⟨fun b => if g b then none else E1.F b, E.φ⟩
  have hF : ∀ b o, E.F b = some o → E1.F b = some o := fun b o e => h1.f0 b o (hle.1 b o e)
  have hle3 : Env.le E E3 := ⟨fun b o e => by
    show (if g b then none else E1.F b) = some o
    rw [if_neg (fun hgb => by rw [hn b hgb] at e; cases e)]
    exact hF b o e, fun k x e => e⟩
  have hsm : ∀ {i : Nat} {oi : AO} {hi : Value}, lkH h i = .live oi → E.φ i = some hi → (∀ b, oblk w oi hi b → w'.heap[b]? = w.heap[b]?) ∧ ∀ b, oblk w' oi hi b ↔ oblk w oi hi b := fun {i} {oi} {hi} li ei => by
    have := hO.hs i
    rw [li] at this
    obtain ⟨v, e, ho, _⟩ := this
    rw [ei] at e
    cases e
    have h2 : ∀ b, oblk w oi hi b → w'.heap[b]? = w.heap[b]? := fun b hb => h1.w.block b (ho.lt b hb) id
    exact ⟨h2, oblk_world h2 ho⟩
  refine ⟨v, E3, rfl, hle3, hl _ _ _ hr, FH.le_trans hO.f0 hle3.1, hO.hd, fun b o e => ?_, fun b o e => ?_, fun i => ?_, fun i j oi oj hi hj b li lj ei ej bi bj => hO.inj i j oi oj hi hj b li lj ei ej (((hsm li ei).2 b).1 bi) (((hsm lj ej).2 b).1 bj), ?_, fun i ds e => cellsAt_le hle3.1 (hO.g i ds e)⟩
  · have e' : (if g b then none else E1.F b) = some o := e
    split at e'
    · cases e'
    · exact h1.fz b o e'
  · have e' : (if g b then none else E1.F b) = some o := e
    split at e'
    · cases e'
    · rename_i hgb
      rcases h1.fn b o e' with h2 | h2 | h2
      · rcases hg b o h2 with h3 | h3
        · exact hO.fn b o h3
        · exact absurd h3.1 hgb
      · exact .inr (.inl (Nat.le_trans hO.w.size h2))
      · exact absurd h2 id
  · have := hO.hs i
    cases hs : lkH h i with
    | fresh => rw [hs] at this; exact this
    | dead => trivial
    | live o =>
      rw [hs] at this
      obtain ⟨x, hx, hor, hbb⟩ := this
      obtain ⟨hs1, hs2⟩ := hsm hs hx
      refine ⟨x, hx, (hor.world hs1).mono hle3, fun b hb' => ?_⟩
      have hb := (hs2 b).1 hb'
      refine ⟨?_, (hbb b hb).2⟩
      show (if g b then none else E1.F b) = none
      split
      · rfl
      · rename_i hgb
        cases hF1 : E1.F b with
        | none => rfl
        | some ob =>
          exfalso
          rcases h1.fn b ob hF1 with h2 | h2 | h2
          · rcases hg b ob h2 with h3 | h3
            · rw [(hbb b hb).1] at h3; cases h3
            · exact hgb h3.1
          · have h2' : w.heap.size ≤ b := h2
            have := hor.lt b hb
            omega
          · exact h2
  · have hw := h1.w
    refine ⟨hw.os.trans hO.w.os, hw.tape.trans hO.w.tape, hw.output.trans hO.w.output, Nat.le_trans hO.w.size hw.size, fun b hb hno => ?_⟩
    exact (hw.block b (Nat.lt_of_lt_of_le hb hO.w.size) id).trans (hO.w.block b hb hno)
section
variable {dst : Option Tmp} {ty : TypeId} {pos : String} {after : Array Edge} {g : Option (Nat × Bool)} {t : List (Nat × AV)} {h : List (Nat × HS)}
theorem p_cb {α : Type} {f : FuncId} {args us : List AV} {ret : AV} {xs : Array Operand} {ats : Array TypeId} {k sz : Nat} {e : TypeId} {fe : α → List D} {l : List α} (hc : FnOk P K f args [] ret []) (he : Ent1 P f) (ha : rds t xs.toList = some us) (hh : hp h k = some (oR e sz fe l)) (hb : Lend k (aL sz fe l) us args) (hl : Lit ret) (hf : ∀ x, (fe x).length = sz) :
    SA P K t h ⟨dst, .call { callee := .value (.func f), args := xs, argTypes := ats }, ty, pos, after, g⟩ (rdOs xs.toList us) [(k, oR e sz fe l)] ret [] := by
  refine ⟨?_, (rds_c ha).2, hp_lk hh, trivial⟩
  intro C s a w hK hT hH hd hsat
  obtain ⟨hdf, hsz, E, hO, hR⟩ := hsat
  have hx := rdOs_rel (relT_of hR hT) (rds_c ha).1
  have hk := hH.1
  have hcall : Calls P f (xs.toList.map a.eval).toArray w fun e w' => ∃ v E3, e = .returned v ∧ Env.le E E3 ∧ Rel E3 ret v ∧ EOk C E3 s.h w' := by
    obtain ⟨E', hle, hO', hlist⟩ := hO.frow hk (fun x _ => hf x)
    have hs := hO.hs k
    rw [hk] at hs
    obtain ⟨v, hv, ⟨vs, ho, hr, h1⟩, hbk⟩ := hs
    rcases ho.2 with ⟨rfl, hn⟩ | ⟨g0, cap, cur, rfl, _, hw, hc1, hc2, hc3, hc4⟩
    · have hl0 : l = [] := List.length_eq_zero_iff.1 hn
      subst hl0
      obtain ⟨r1, r2⟩ := hb.rels (Env.le_refl E) (fun u hu => by
        rw [hv] at hu; cases hu
        exact ⟨none, 0, rfl, Nat.le_refl _, by simp [maxLen], fun hn => absurd rfl hn⟩) rfl hx
      exact lend_call hc hl (fun _ => False) hK hO (Env.le_refl E) rfl hO.fz (fun b o e => .inl e) (fun b e => e.elim) r1 r2
    · have hFb : E.F g0 = none := (hbk g0 rfl).1
      have hlen : ∀ u, E.φ k = some u → (D.list sz (l.map fe)).p (E.frz g0 (.cells cur e (0, 0))).F u := by
        intro u hu
        rw [hv] at hu; cases hu
        refine ⟨some ⟨g0, 0, none⟩, cap, by rw [List.length_map], by rw [List.length_map]; exact hc1, by rw [List.length_map]; exact Nat.le_trans hc1 hc2, fun _ => ⟨_, rfl, fun i c hc => ?_⟩⟩
        rw [List.getElem?_map] at hc
        obtain ⟨x, hx, rfl⟩ := Option.map_eq_some_iff.1 hc
        refine ⟨hf x, fun j d hj => ?_⟩
        have hfl : (l.flatMap fe)[i * sz + j]? = some d := by
          have := flatten_get (cs := l.map fe) (sz := sz) (i := i) (c := fe x) (j := j) (d := d) (fun c hc' => by
            obtain ⟨y, hy, rfl⟩ := List.mem_map.1 hc'
            exact hf y) (by rw [List.getElem?_map, hx]; rfl) hj
          rwa [← List.flatMap_def] at this
        obtain ⟨u, hu', hd⟩ := rels_datas hr _ _ hfl
        refine ⟨u, ?_, d.mono (E.frz_le _ hFb).1 hd⟩
        have hadd : ∀ n, (⟨g0, 0, none⟩ : Addr).add n = ⟨g0, n, none⟩ := by
          intro n; unfold Addr.add; split <;> simp_all
        rw [add_add, hadd]
        unfold fcell
        simp only [Env.frz, if_true]
        rw [← hc4, List.getElem?_take] at hu'
        split at hu'
        · simpa using hu'
        · cases hu'
      obtain ⟨r1, r2⟩ := hb.rels (E.frz_le (.cells cur e (0, 0)) hFb) (a := aL sz fe l) (fun u hu => hlen u hu) rfl hx
      refine lend_call hc hl (fun b => b = g0) hK hO (E.frz_le _ hFb) rfl (fun b o hbo => ?_) (fun b o hbo => ?_) (fun b hb' => by rw [hb']; exact hFb) r1 r2
      · simp only [Env.frz] at hbo
        split at hbo
        · rename_i hbg
          cases hbo
          subst hbg
          exact hw
        · exact hO.fz b o hbo
      · simp only [Env.frz] at hbo
        split at hbo
        · rename_i hbg
          subst hbg
          exact .inr ⟨rfl, hFb⟩
        · exact .inl hbo
  unfold Oper.wp
  have hex : (execOp a.eval ⟨dst, .call { callee := .value (.func f), args := xs, argTypes := ats }, ty, pos, after, g⟩).run P w = .ok (.enter f (xs.toList.map a.eval).toArray) w := by
    simp only [execOp, resolve, Act.eval, Deferred.ofValue, Sem.run_bind, Sem.run_pure, Result.andThen_ok, invoke]
    have := he.run (#[] ++ xs.map a.eval ++ #[]) w
    have e1 : (#[] ++ xs.map a.eval ++ #[] : Array Value) = (xs.toList.map a.eval).toArray := by apply Array.ext'; simp
    rw [e1] at this ⊢
    exact this
  rw [hex, Oper.upon_enter]
  refine hcall.mono ?_
  rintro e w' ⟨v, E', rfl, hle, hr, hO'⟩
  exact Sat.put hdf hsz hR hle hO' hd hr
theorem lit_d {x : Value} : Lit (.data (.lit x)) := fun _ _ _ h => h
theorem nrc {np : Nat} {α : Type} {f : α → List D} {j i sz : Nat} {ct e : TypeId} {cs : List AV} (k : Nat) (hb : hp h j = some (oC ct cs)) (hx : cs[i]? = some aNil) (hf : hp h k = none) : Ent np ⟨t, h⟩ ⟨t, (j, oC ct (cs.set i (.row k))) :: (k, oR e sz f ([] : List α)) :: h⟩ := by
  intro C hn a w hs
  obtain ⟨hdf, hsz, E, hO, hR⟩ := hs
  obtain ⟨hle, hO'⟩ := hO.adopt (hp_no hf) e sz
  have hjk : j ≠ k := by rintro rfl; rw [hb] at hf; cases hf
  refine ⟨hdf, hsz, E.with k (.slice none 0 0), ?_, fun i => Rel.mono hle (hR i)⟩
  have hlj : lkH ((k, .live (.row e sz 0 [])) :: h) j = oC ct cs := by rw [lkH_cons_ne _ _ hjk]; exact hp_lk hb
  have hs := hO'.hs j
  rw [hlj] at hs
  obtain ⟨v, hv, ⟨b, vs, rfl, hw, hr, h1⟩, hbb⟩ := hs
  have hor : ORel (E.with k (.slice none 0 0)) w (.cells ct (cs.set i (.row k))) (.pointer (some ⟨b, 0, none⟩)) := by
    refine ⟨b, vs, rfl, hw, ?_, h1⟩
    obtain ⟨u, hu, hru⟩ := hr.get hx
    have hset : vs.set i u = vs := by
      apply List.ext_getElem?
      intro j
      rw [List.getElem?_set]
      split
      · rename_i e0
        subst e0
        obtain ⟨hlt, he⟩ := List.getElem?_eq_some_iff.1 hu
        simp [hlt, ← he]
      · rfl
    have := hr.set i (x := .row k) (v := u) (by
      rw [hru.1]
      exact ⟨Env.with_self _ _ _, none, 0, 0, rfl⟩)
    rwa [hset] at this
  refine ⟨hO'.f0, hO'.hd, hO'.fz, hO'.fn, fun q => ?_, ?_, hO'.w, hO'.g⟩
  · by_cases hq : q = j
    · subst hq; rw [lkH_cons_self]; exact ⟨_, hv, hor, fun b hb => hbb b hb⟩
    · rw [lkH_cons_ne _ _ hq]; exact hO'.hs q
  · intro q q' oi oj hi hj' b' li lj ei ej bi bj
    have key : ∀ {q oi}, lkH ((j, oC ct (cs.set i (.row k))) :: (k, .live (.row e sz 0 [])) :: h) q = .live oi → ∃ o', lkH ((k, .live (.row e sz 0 [])) :: h) q = .live o' ∧ ∀ v b, oblk w oi v b → oblk w o' v b := by
      intro q oi li
      by_cases hq : q = j
      · subst hq; rw [lkH_cons_self] at li; cases li; exact ⟨_, hlj, fun v b h => h⟩
      · rw [lkH_cons_ne _ _ hq] at li; exact ⟨_, li, fun v b h => h⟩
    obtain ⟨o1, l1, m1⟩ := key li
    obtain ⟨o2, l2, m2⟩ := key lj
    exact hO'.inj q q' o1 o2 hi hj' b' l1 l2 ei ej (m1 _ _ bi) (m2 _ _ bj)
end
theorem wl_ent {nt np : Nat} {ops : Array Oper} {l : List Oper} {s s' : St} {Q : Exit → St → Prop} (h : Ent np s s') (k : WL P K nt np ops l s' Q) : WL P K nt np ops l s Q := fun hnd C h1 h2 h3 r a w hs => k hnd C h1 h2 h3 r a w (h C h3 a w hs)
theorem bt {c : Bool} {α : Type} {o : Option α} {d r : α} (hc : c = true) (h : (bif c then o else some d) = some r) : o = some r := by rw [hc] at h; exact h
theorem bi {c b : Bool} (hc : c = true) (h : (!c || b) = true) : b = true := by rw [hc] at h; exact h
theorem p_ixX {α : Type} {f : α → List D} {l : List α} {r : α} {cs : List D} {u e : TypeId} {sz : Nat} {x i : Operand} {n : Int} {dst : Option Tmp} {ty : TypeId} {pos : String} {after : Array Edge} {g : Option (Nat × Bool)} {t : List (Nat × AV)} {h : List (Nat × HS)} (hf : f r = cs) (ht : P.underlying u = some (.slice e)) (he : ∀ w, (sizeOf e).run P w = .ok sz w) (hx : rd t x = some (aL sz f l)) (hi : rd t i = some (aN .i64 n)) (hr : ix l n = some r) :
    SA P K t h ⟨dst, .indexAddr u x i, ty, pos, after, g⟩ (rdO x (aL sz f l) ++ rdO i (aN .i64 n)) [] (aP cs) [] := hf ▸ p_ixL ht he hx hi hr
def D.full (sz : Nat) (xs : List (List D)) : D := ⟨fun F v => (D.list sz xs).p F v ∧ ∃ A, v = .slice A xs.length xs.length, fun h k => ⟨(D.list sz xs).mono h k.1, k.2⟩, fun k => (D.list sz xs).one k.1⟩
end Go.Proofs.YtgmpgoafokdcbaaGreatDoor.Sx
