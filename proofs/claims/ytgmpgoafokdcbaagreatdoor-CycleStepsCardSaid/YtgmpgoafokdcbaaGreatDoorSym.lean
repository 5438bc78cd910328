/- Own trees: slices whose cells may be slices of their own. -/
import Derived.Test.YtgmpgoafokdcbaaGreatDoorSyl
set_option linter.unusedVariables false
set_option linter.unusedSectionVars false
set_option linter.unusedSimpArgs false
namespace Go.Proofs.YtgmpgoafokdcbaaGreatDoor.Sx
open Go Go.RowKit
variable {P : Program} {K : GL}
theorem foots_app (w : World) : ∀ (a b : List TC) (vs : List Value), foots w (a ++ b) vs = foots w a vs ++ foots w b (vs.drop a.length)
  | [], b, vs => by simp [foots]
  | x :: a, b, vs => by
    simp only [List.cons_append, foots, List.append_assoc]
    rw [foots_app w a b vs.tail]
    simp
theorem foots_avs (w : World) : ∀ (xs : List AV) (vs : List Value), foots w (xs.map .av) vs = []
  | [], _ => rfl
  | x :: xs, vs => by simp only [List.map_cons, foots, foot]; rw [foots_avs w xs]; rfl
theorem TRels.app {E : Env} {w : World} : ∀ {a b : List TC} {vs us : List Value}, TRels E w a vs → TRels E w b us → TRels E w (a ++ b) (vs ++ us)
  | [], _, _, _, h, k => by rw [show _ = [] from h]; exact k
  | _ :: _, _, _, _, ⟨u, us', e, h1, h2⟩, k => by subst e; exact ⟨u, _, rfl, h1, TRels.app h2 k⟩
theorem TRels.get {E : Env} {w : World} : ∀ {cs : List TC} {vs : List Value} {p : Nat} {c : TC}, TRels E w cs vs → cs[p]? = some c → ∃ u, vs[p]? = some u ∧ TRel E w c u
  | [], _, p, _, _, e => by simp at e
  | c :: cs, _, 0, _, ⟨u, us, e1, h1, h2⟩, e => by
    subst e1
    cases (Option.some.inj e : c = _)
    exact ⟨u, rfl, h1⟩
  | c :: cs, _, p + 1, _, ⟨u, us, e1, h1, h2⟩, e => by
    subst e1
    obtain ⟨x, hx, hr⟩ := TRels.get h2 (p := p) (by simpa using e)
    exact ⟨x, by simpa using hx, hr⟩
theorem TRels.take {E : Env} {w : World} : ∀ {cs : List TC} {vs : List Value} (n : Nat), TRels E w cs vs → TRels E w (cs.take n) (vs.take n)
  | _, _, 0, _ => by simp [TRels]
  | [], _, n + 1, h => by rw [show _ = [] from h]; simp [TRels]
  | c :: cs, _, n + 1, ⟨u, us, e1, h1, h2⟩ => by subst e1; exact ⟨u, _, rfl, h1, TRels.take n h2⟩
theorem TRels.drop {E : Env} {w : World} : ∀ {cs : List TC} {vs : List Value} (n : Nat), TRels E w cs vs → TRels E w (cs.drop n) (vs.drop n)
  | _, _, 0, h => h
  | [], _, n + 1, h => by rw [show _ = [] from h]; simp [TRels]
  | c :: cs, _, n + 1, ⟨u, us, e1, h1, h2⟩ => by subst e1; exact TRels.drop n h2
theorem TRels.set {E : Env} {w : World} : ∀ {cs : List TC} {vs : List Value} {p : Nat} {c : TC} {u : Value}, TRels E w cs vs → vs[p]? = some u → TRel E w c u → TRels E w (cs.set p c) vs
  | [], _, _, _, _, h, _, _ => h
  | c0 :: cs, _, 0, c, u, ⟨u0, us, e1, h1, h2⟩, e, hr => by
    subst e1
    have e2 : u0 = u := Option.some.inj e
    subst e2
    exact ⟨_, us, rfl, hr, h2⟩
  | c0 :: cs, _, p + 1, c, u, ⟨u0, us, e1, h1, h2⟩, e, hr => by
    subst e1
    exact ⟨u0, us, rfl, h1, TRels.set h2 (by simpa using e) hr⟩
theorem TRels.avs {E : Env} {w : World} : ∀ {xs : List AV} {vs : List Value}, Rels E xs vs → TRels E w (xs.map .av) vs
  | [], _, h => h
  | _ :: _, _, ⟨u, us, e, h1, h2⟩ => ⟨u, us, e, h1, TRels.avs h2⟩
theorem TRels.ofavs {E : Env} {w : World} : ∀ {xs : List AV} {vs : List Value}, TRels E w (xs.map .av) vs → Rels E xs vs
  | [], _, h => h
  | _ :: _, _, ⟨u, us, e, h1, h2⟩ => ⟨u, us, e, h1, TRels.ofavs h2⟩
theorem foots_set (w : World) : ∀ {cs : List TC} {vs : List Value} {p : Nat} {c : TC} {u : Value}, cs[p]? = some c → vs[p]? = some u → ∃ A B, foots w cs vs = A ++ foot w c u ++ B ∧ ∀ c', foots w (cs.set p c') vs = A ++ foot w c' u ++ B
  | [], _, _, _, _, h, _ => by simp at h
  | c0 :: cs, [], _, _, _, _, k => by simp at k
  | c0 :: cs, v :: vs, 0, c, u, h, k => by
    cases (Option.some.inj h : c0 = c)
    cases (Option.some.inj k : v = u)
    exact ⟨[], foots w cs vs, by simp [foots], fun c' => by simp [foots]⟩
  | c0 :: cs, v :: vs, p + 1, c, u, h, k => by
    obtain ⟨A, B, h1, h2⟩ := foots_set w (cs := cs) (vs := vs) (p := p) (c := c) (u := u) (by simpa using h) (by simpa using k)
    refine ⟨foot w c0 v ++ A, B, ?_, fun c' => ?_⟩
    · simp only [foots, List.tail_cons]; rw [h1]; simp
    · simp only [List.set_cons_succ, foots, List.tail_cons]; rw [h2]; simp
def weak : TC → AV
  | .av x => x
  | .own _ _ _ _ => .any
theorem TRels.weak {E : Env} {w : World} : ∀ {cs : List TC} {vs : List Value}, TRels E w cs vs → Rels E (cs.map weak) vs
  | [], _, h => h
  | .av _ :: _, _, ⟨u, us, e, h1, h2⟩ => ⟨u, us, e, h1, TRels.weak h2⟩
  | .own _ _ _ _ :: _, _, ⟨u, us, e, h1, h2⟩ => ⟨u, us, e, trivial, TRels.weak h2⟩
theorem PV.tree {o : Oper} {rT : List (Nat × AV)} {k sz n : Nat} {t : TypeId} {cs : List TC} {r : AV} (h : PV P K o rT [(k, .live (.row t sz n (cs.map weak)))] r) : PV P K o rT [(k, .live (.tree t sz n cs))] r := by
  intro E a w h1 h2 h3 h4
  refine h E a w h1 h2 h3 ⟨?_, trivial⟩
  obtain ⟨v, hv, ⟨vs, ho, hr, hone⟩, _⟩ := h4.1
  exact ⟨v, hv, vs, ho, hr.weak, hone⟩
theorem EOk.set {C : Cx} {E : Env} {h : List (Nat × HS)} {w : World} (hO : EOk C E h w) {k : Nat} {o o' : AO} (hk : lkH h k = .live o) (hr : ∀ v, E.φ k = some v → ORel E w o v → ORel E w o' v) (hq : ∀ v b, E.φ k = some v → ORel E w o v → oblk w o' v b → oblk w o v b) : EOk C E ((k, .live o') :: h) w := by
  have hs := hO.hs k
  rw [hk] at hs
  obtain ⟨v, hv, ho, hbb⟩ := hs
  refine ⟨hO.f0, hO.hd, hO.fz, hO.fn, fun q => ?_, ?_, hO.w, hO.g⟩
  · by_cases hqk : q = k
    · subst hqk; rw [lkH_cons_self]; exact ⟨v, hv, hr v hv ho, fun b hb => hbb b (hq v b hv ho hb)⟩
    · rw [lkH_cons_ne _ _ hqk]; exact hO.hs q
  · intro q q' oi oj hi hj b li lj ei ej bi bj
    have key : ∀ {q oi hi}, lkH ((k, HS.live o') :: h) q = .live oi → E.φ q = some hi → ∃ o1, lkH h q = .live o1 ∧ ∀ b, oblk w oi hi b → oblk w o1 hi b := by
      intro q oi hi li ei
      by_cases hqk : q = k
      · subst hqk
        rw [lkH_cons_self] at li
        cases li
        rw [hv] at ei
        cases ei
        exact ⟨o, hk, fun b => hq v b hv ho⟩
      · rw [lkH_cons_ne _ _ hqk] at li; exact ⟨_, li, fun b h => h⟩
    obtain ⟨o1, l1, m1⟩ := key li ei
    obtain ⟨o2, l2, m2⟩ := key lj ej
    exact hO.inj q q' o1 o2 hi hj b l1 l2 ei ej (m1 _ bi) (m2 _ bj)
theorem Ent.set {np : Nat} {t : List (Nat × AV)} {h : List (Nat × HS)} {k : Nat} {o o' : AO} (hk : hp h k = some (.live o)) (hr : ∀ E w v, ORel E w o v → ORel E w o' v) (hq : ∀ E w v b, ORel E w o v → oblk w o' v b → oblk w o v b) : Ent np ⟨t, h⟩ ⟨t, (k, .live o') :: h⟩ := by
  intro C hn a w hs
  obtain ⟨hdf, hsz, E, hO, hR⟩ := hs
  exact ⟨hdf, hsz, E, hO.set (hp_lk hk) (fun v _ => hr E w v) (fun v b _ => hq E w v b), hR⟩
theorem Ent.eq {np : Nat} {t : List (Nat × AV)} {h : List (Nat × HS)} {k : Nat} {o o' : HS} (hk : hp h k = some o) (e : o = o') : Ent np ⟨t, h⟩ ⟨t, (k, o') :: h⟩ := by
  subst e
  intro C hn a w hs
  refine Sat.ext (s := ⟨t, h⟩) (s' := ⟨t, (k, o) :: h⟩) (fun _ => rfl) (fun i => ?_) hs
  by_cases hi : i = k
  · subst hi; exact (lkH_cons_self _ _ _).trans (hp_lk hk).symm
  · exact lkH_cons_ne _ _ hi
inductive SubT : AO → TC → Prop
  | row {t : TypeId} {sz n : Nat} {cs : List AV} : SubT (.row t sz n cs) (.own t sz n (cs.map .av))
  | tree {t : TypeId} {sz n : Nat} {cs : List TC} : SubT (.tree t sz n cs) (.own t sz n cs)
theorem SubT.to {o : AO} {c : TC} (h : SubT o c) {E : Env} {w : World} {v : Value} (k : ORel E w o v) : TRel E w c v ∧ (foot w c v).Nodup ∧ ∀ b, b ∈ foot w c v ↔ oblk w o v b := by
  cases h with
  | row =>
    obtain ⟨vs, ho, hr, h1⟩ := k
    refine ⟨⟨vs, ho, TRels.avs hr, h1⟩, ?_, fun b => ?_⟩
    · simp only [foot, foots_avs, List.append_nil]
      cases hblk v <;> simp
    · simp [foot, foots_avs, oblk, eq_comm]
  | tree => exact ⟨k.1, k.2, fun b => Iff.rfl⟩
theorem SubT.of {o : AO} {c : TC} (h : SubT o c) {E : Env} {w : World} {v : Value} (k : TRel E w c v) (hn : (foot w c v).Nodup) : ORel E w o v ∧ ∀ b, oblk w o v b ↔ b ∈ foot w c v := by
  cases h with
  | row =>
    obtain ⟨vs, ho, hr, h1⟩ := k
    exact ⟨⟨vs, ho, TRels.ofavs hr, h1⟩, fun b => by simp [foot, foots_avs, oblk, eq_comm]⟩
  | tree => exact ⟨⟨k, hn⟩, fun b => Iff.rfl⟩
theorem SubT.slice {o : AO} {c : TC} (h : SubT o c) {E : Env} {w : World} {v : Value} (k : TRel E w c v) : ∃ A n m, v = .slice A n m := by
  cases h <;> (obtain ⟨vs, ho, _⟩ := k; rcases ho.2 with ⟨e, _⟩ | ⟨g, cap, cur, e, _⟩ <;> exact ⟨_, _, _, e⟩)
theorem own_vs {E : Env} {w : World} {t : TypeId} {sz n : Nat} {cs : List TC} {v : Value} (h : ORel E w (.tree t sz n cs) v) : ∃ vs, w.ownsRow 0 t sz v n vs ∧ TRels E w cs vs ∧ (∀ u ∈ vs, u.oneCell' = true) ∧ ((hblk v).toList ++ foots w cs vs).Nodup ∧ foots w cs (cellsW w v) = foots w cs vs := by
  obtain ⟨⟨vs, ho, hr, h1⟩, h2⟩ := h
  have e := foots_cells ho hr
  simp only [foot] at h2
  rw [e] at h2
  exact ⟨vs, ho, hr, h1, h2, e⟩
theorem own_mk {E : Env} {w : World} {t : TypeId} {sz n : Nat} {cs : List TC} {v : Value} {vs : List Value} (ho : w.ownsRow 0 t sz v n vs) (hr : TRels E w cs vs) (h1 : ∀ u ∈ vs, u.oneCell' = true) (hn : ((hblk v).toList ++ foots w cs vs).Nodup) : ORel E w (.tree t sz n cs) v ∧ ∀ b, oblk w (.tree t sz n cs) v b ↔ b ∈ (hblk v).toList ++ foots w cs vs := by
  have e := foots_cells ho hr
  refine ⟨⟨⟨vs, ho, hr, h1⟩, ?_⟩, fun b => ?_⟩
  · simp only [foot]; rw [e]; exact hn
  · simp only [oblk, foot]; rw [e]
theorem own_blk {E : Env} {w : World} {t : TypeId} {sz n : Nat} {cs : List TC} {v : Value} {vs : List Value} (ho : w.ownsRow 0 t sz v n vs) (hr : TRels E w cs vs) (b : Nat) : oblk w (.tree t sz n cs) v b ↔ b ∈ (hblk v).toList ++ foots w cs vs := by
  simp only [oblk, foot]; rw [foots_cells ho hr]
theorem EOk.focus {C : Cx} {E : Env} {h : List (Nat × HS)} {w : World} (hO : EOk C E h w) {k k' p sz n : Nat} {t : TypeId} {cs : List TC} {c : TC} {o' : AO} (hk : lkH h k = .live (.tree t sz n cs)) (hk' : lkH h k' = .fresh) (hp : cs[p]? = some c) (hs : SubT o' c) :
    ∃ u, Env.le E (E.with k' u) ∧ EOk C (E.with k' u) ((k, .live (.tree t sz n (cs.set p (.av (.row k'))))) :: (k', .live o') :: h) w := by
  have hkk : k' ≠ k := fun e => by rw [e, hk] at hk'; cases hk'
  have hh := hO.hs k
  rw [hk] at hh
  obtain ⟨v, hv, hor, hbb⟩ := hh
  obtain ⟨vs, ho, hr, h1, hn, he⟩ := own_vs hor
  obtain ⟨u, hu, hru⟩ := hr.get hp
  have hφ' : E.φ k' = none := by
    have := hO.hs k'
    rw [hk'] at this
    exact this
  have hle := Env.with_le u hφ'
  obtain ⟨A, B, hA, hset⟩ := foots_set w hp hu
  rw [hA] at hn
  have hnu : (foot w c u).Nodup := (List.nodup_append.1 (List.nodup_append.1 (List.nodup_append.1 hn).2.1).1).2.1
  obtain ⟨ho1, ho2⟩ := hs.of hru hnu
  have hsub : ∀ b, oblk w o' u b → oblk w (.tree t sz n cs) v b := fun b hb => by
    rw [own_blk ho hr, hA]
    have := (ho2 b).1 hb
    simp only [List.mem_append]
    exact .inr (.inl (.inr this))
  have hn2 : ((hblk v).toList ++ foots w (cs.set p (.av (.row k'))) vs).Nodup := by
    rw [hset]
    simp only [foot, List.append_nil]
    refine hn.sublist ?_
    refine List.Sublist.append (List.Sublist.refl _) ?_
    exact List.Sublist.append (List.sublist_append_left _ _) (List.Sublist.refl _)
  have hr2 : TRels (E.with k' u) w (cs.set p (.av (.row k'))) vs := TRels.set (TRels.mono hle hr) hu ⟨Env.with_self _ _ _, hs.slice hru⟩
  obtain ⟨hor2, hbl2⟩ := own_mk ho hr2 h1 hn2
  have hsub2 : ∀ b, oblk w (.tree t sz n (cs.set p (.av (.row k')))) v b → oblk w (.tree t sz n cs) v b := fun b hb => by
    rw [own_blk ho hr, hA]
    have := (hbl2 b).1 hb
    rw [hset] at this
    simp only [foot, List.append_nil, List.mem_append] at this ⊢
    rcases this with h1 | h1 | h1
    · exact .inl h1
    · exact .inr (.inl (.inl h1))
    · exact .inr (.inr h1)
  have hdis : ∀ b, oblk w o' u b → ¬ oblk w (.tree t sz n (cs.set p (.av (.row k')))) v b := fun b hb hb2 => by
    have h3 := (ho2 b).1 hb
    have := (hbl2 b).1 hb2
    rw [hset] at this
    simp only [foot, List.append_nil, List.mem_append] at this
    have n1 := List.nodup_append.1 hn
    have n2 := List.nodup_append.1 n1.2.1
    have n3 := List.nodup_append.1 n2.1
    rcases this with h4 | h4 | h4
    · exact n1.2.2 b h4 b (by simp [h3]) rfl
    · exact n3.2.2 b h4 b h3 rfl
    · exact n2.2.2 b (by simp [h3]) b h4 rfl
  refine ⟨u, hle, hO.f0, fun i x e => hle.2 i x (hO.hd i x e), hO.fz, hO.fn, fun i => ?_, ?_, hO.w, hO.g⟩
  · by_cases hi : i = k
    · subst hi
      rw [lkH_cons_self]
      exact ⟨v, (Env.with_ne E u (Ne.symm hkk)).trans hv, hor2, fun b hb => hbb b (hsub2 b hb)⟩
    · rw [lkH_cons_ne _ _ hi]
      by_cases hi' : i = k'
      · subst hi'
        rw [lkH_cons_self]
        exact ⟨u, Env.with_self _ _ _, ho1.mono hle, fun b hb => hbb b (hsub b hb)⟩
      · rw [lkH_cons_ne _ _ hi']
        have := hO.hs i
        cases hl : lkH h i with
        | fresh => rw [hl] at this; exact (Env.with_ne E u hi').trans this
        | dead => trivial
        | live oi =>
          rw [hl] at this
          obtain ⟨x, hx, hox, hbx⟩ := this
          exact ⟨x, (Env.with_ne E u hi').trans hx, hox.mono hle, hbx⟩
  · -- whose block: its old owner
    have key : ∀ {i oi hi b}, lkH ((k, HS.live (.tree t sz n (cs.set p (.av (.row k'))))) :: (k', .live o') :: h) i = .live oi → (E.with k' u).φ i = some hi → oblk w oi hi b →
        (i = k ∧ oi = .tree t sz n (cs.set p (.av (.row k'))) ∧ hi = v) ∨ (i = k' ∧ oi = o' ∧ hi = u) ∨ (i ≠ k ∧ i ≠ k' ∧ lkH h i = .live oi ∧ E.φ i = some hi) := by
      intro i oi hi b li ei bi
      by_cases h1 : i = k
      · subst h1
        rw [lkH_cons_self] at li
        cases li
        rw [Env.with_ne E u (Ne.symm hkk), hv] at ei
        cases ei
        exact .inl ⟨rfl, rfl, rfl⟩
      · rw [lkH_cons_ne _ _ h1] at li
        by_cases h2 : i = k'
        · subst h2
          rw [lkH_cons_self] at li
          cases li
          rw [Env.with_self] at ei
          cases ei
          exact .inr (.inl ⟨rfl, rfl, rfl⟩)
        · rw [lkH_cons_ne _ _ h2] at li
          rw [Env.with_ne E u h2] at ei
          exact .inr (.inr ⟨h1, h2, li, ei⟩)
    intro i j oi oj hi hj b li lj ei ej bi bj
    rcases key li ei bi with ⟨rfl, rfl, rfl⟩ | ⟨rfl, rfl, rfl⟩ | ⟨i1, i2, i3, i4⟩ <;> rcases key lj ej bj with ⟨rfl, rfl, rfl⟩ | ⟨rfl, rfl, rfl⟩ | ⟨j1, j2, j3, j4⟩
    · rfl
    · exact absurd bi (hdis b bj)
    · exact absurd (hO.inj _ _ _ _ _ _ _ j3 hk j4 hv bj (hsub2 b bi)) j1
    · exact absurd bj (hdis b bi)
    · rfl
    · exact absurd (hO.inj _ _ _ _ _ _ _ j3 hk j4 hv bj (hsub b bi)) j1
    · exact absurd (hO.inj _ _ _ _ _ _ _ i3 hk i4 hv bi (hsub2 b bj)) i1
    · exact absurd (hO.inj _ _ _ _ _ _ _ i3 hk i4 hv bi (hsub b bj)) i1
    · exact hO.inj _ _ _ _ _ _ _ i3 j3 i4 j4 bi bj
theorem EOk.absorb {C : Cx} {E : Env} {h : List (Nat × HS)} {w : World} (hO : EOk C E h w) {k k' p sz n : Nat} {t : TypeId} {cs : List TC} {c : TC} {o' : AO} (hk : lkH h k = .live (.tree t sz n cs)) (hk' : lkH h k' = .live o') (hkk : k ≠ k') (hp : cs[p]? = some (.av (.row k'))) (hs : SubT o' c) :
    EOk C E ((k, .live (.tree t sz n (cs.set p c))) :: (k', .dead) :: h) w := by
  have hh := hO.hs k
  rw [hk] at hh
  obtain ⟨v, hv, hor, hbb⟩ := hh
  obtain ⟨vs, ho, hr, h1, hn, he⟩ := own_vs hor
  obtain ⟨u, hu, hru⟩ := hr.get hp
  have hh' := hO.hs k'
  rw [hk'] at hh'
  obtain ⟨v', hv', hor', hbb'⟩ := hh'
  have hvu : v' = u := by
    have := hru.1
    rw [hv'] at this
    exact Option.some.inj this
  subst hvu
  obtain ⟨A, B, hA, hset⟩ := foots_set w hp hu
  simp only [foot, List.append_nil] at hA
  rw [hA] at hn
  obtain ⟨ht1, ht2, ht3⟩ := hs.to hor'
  have hold : ∀ b, b ∈ (hblk v).toList ++ (A ++ B) → oblk w (.tree t sz n cs) v b := fun b hb => by rw [own_blk ho hr, hA]; exact hb
  have hdis : ∀ b, b ∈ (hblk v).toList ++ (A ++ B) → b ∈ foot w c v' → False := fun b hb hb2 => hkk (hO.inj _ _ _ _ _ _ _ hk hk' hv hv' (hold b hb) ((ht3 b).1 hb2))
  have hn2 : ((hblk v).toList ++ foots w (cs.set p c) vs).Nodup := by
    rw [hset]
    have n1 := List.nodup_append.1 hn
    have n2 := List.nodup_append.1 n1.2.1
    refine List.nodup_append.2 ⟨n1.1, List.nodup_append.2 ⟨List.nodup_append.2 ⟨n2.1, ht2, fun a ha b hb e => ?_⟩, n2.2.1, fun a ha b hb e => ?_⟩, fun a ha b hb e => ?_⟩
    · subst e; exact hdis a (by simp [ha]) hb
    · subst e
      rcases List.mem_append.1 ha with h3 | h3
      · exact n2.2.2 a h3 a hb rfl
      · exact hdis a (by simp [hb]) h3
    · subst e
      simp only [List.mem_append] at hb
      rcases hb with (h3 | h3) | h3
      · exact n1.2.2 a ha a (by simp [h3]) rfl
      · exact hdis a (by simp only [List.mem_append]; exact .inl ha) h3
      · exact n1.2.2 a ha a (by simp [h3]) rfl
  have hr2 : TRels E w (cs.set p c) vs := TRels.set hr hu ht1
  obtain ⟨hor2, hbl2⟩ := own_mk ho hr2 h1 hn2
  have hnew : ∀ b, oblk w (.tree t sz n (cs.set p c)) v b → oblk w (.tree t sz n cs) v b ∨ oblk w o' v' b := fun b hb => by
    have := (hbl2 b).1 hb
    rw [hset] at this
    simp only [List.mem_append] at this
    rcases this with h3 | (h3 | h3) | h3
    · exact .inl (hold b (by simp only [List.mem_append]; exact .inl h3))
    · exact .inl (hold b (by simp [h3]))
    · exact .inr ((ht3 b).1 h3)
    · exact .inl (hold b (by simp [h3]))
  refine ⟨hO.f0, hO.hd, hO.fz, hO.fn, fun i => ?_, ?_, hO.w, hO.g⟩
  · by_cases hi : i = k
    · subst hi
      rw [lkH_cons_self]
      exact ⟨v, hv, hor2, fun b hb => (hnew b hb).elim (hbb b) (hbb' b)⟩
    · rw [lkH_cons_ne _ _ hi]
      by_cases hi' : i = k'
      · subst hi'; rw [lkH_cons_self]; trivial
      · rw [lkH_cons_ne _ _ hi']; exact hO.hs i
  · have key : ∀ {i oi hi b}, lkH ((k, HS.live (.tree t sz n (cs.set p c))) :: (k', .dead) :: h) i = .live oi → E.φ i = some hi → oblk w oi hi b →
        (i = k ∧ oi = .tree t sz n (cs.set p c) ∧ hi = v) ∨ (i ≠ k ∧ i ≠ k' ∧ lkH h i = .live oi) := by
      intro i oi hi b li ei bi
      by_cases h1 : i = k
      · subst h1
        rw [lkH_cons_self] at li
        cases li
        rw [hv] at ei
        cases ei
        exact .inl ⟨rfl, rfl, rfl⟩
      · rw [lkH_cons_ne _ _ h1] at li
        by_cases h2 : i = k'
        · subst h2; rw [lkH_cons_self] at li; cases li
        · rw [lkH_cons_ne _ _ h2] at li
          exact .inr ⟨h1, h2, li⟩
    have other : ∀ {j oj hj b}, j ≠ k → j ≠ k' → lkH h j = .live oj → E.φ j = some hj → oblk w oj hj b → oblk w (.tree t sz n (cs.set p c)) v b → False := by
      intro j oj hj b j1 j2 j3 j4 bj bi
      rcases hnew b bi with h3 | h3
      · exact j1 (hO.inj _ _ _ _ _ _ _ j3 hk j4 hv bj h3)
      · exact j2 (hO.inj _ _ _ _ _ _ _ j3 hk' j4 hv' bj h3)
    intro i j oi oj hi hj b li lj ei ej bi bj
    rcases key li ei bi with ⟨rfl, rfl, rfl⟩ | ⟨i1, i2, i3⟩ <;> rcases key lj ej bj with ⟨rfl, rfl, rfl⟩ | ⟨j1, j2, j3⟩
    · rfl
    · exact (other j1 j2 j3 ej bj bi).elim
    · exact (other i1 i2 i3 ei bi bj).elim
    · exact hO.inj _ _ _ _ _ _ _ i3 j3 ei ej bi bj
end Go.Proofs.YtgmpgoafokdcbaaGreatDoor.Sx
