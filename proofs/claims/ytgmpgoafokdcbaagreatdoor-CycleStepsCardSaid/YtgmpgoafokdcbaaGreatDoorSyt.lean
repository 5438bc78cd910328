/- From a reading of an argument to data of its type; and back, where the call has changed nothing. -/
import Derived.Test.YtgmpgoafokdcbaaGreatDoorSyq
import Derived.ChangeArms
import Derived.ChangeStays
import Derived.ChangeOld
import Derived.WideShapes
set_option linter.unusedVariables false
set_option linter.unusedSectionVars false
set_option linter.unusedSimpArgs false
namespace Go.Proofs.YtgmpgoafokdcbaaGreatDoor.Sx
open Go Go.RowKit
variable {H : Type} {enc : TypeId × Value → H} {P : Program} {W : World}
/-- cells that are as told -/
def Cel (F : FH) : List Value → List D → Prop
  | [], [] => True
  | v :: vs, d :: ds => d.p F v ∧ Cel F vs ds
  | _, _ => False
theorem Cel.app {F : FH} : ∀ {a b : List Value} {x y : List D}, Cel F a x → Cel F b y → Cel F (a ++ b) (x ++ y)
  | [], _, [], _, _, h => h
  | _ :: _, _, _ :: _, _, h, k => ⟨h.1, Cel.app h.2 k⟩
  | [], _, _ :: _, _, h, _ => h.elim
  | _ :: _, _, [], _, h, _ => h.elim
theorem Cel.one {F : FH} {v : Value} {d : D} (h : d.p F v) : Cel F [v] [d] := ⟨h, trivial⟩
theorem Cel.len {F : FH} : ∀ {a : List Value} {x : List D}, Cel F a x → a.length = x.length
  | [], [], _ => rfl
  | _ :: _, _ :: _, h => by simp [Cel.len h.2]
  | [], _ :: _, h => h.elim
  | _ :: _, [], h => h.elim
theorem Cel.get {F : FH} : ∀ {a : List Value} {x : List D}, Cel F a x → ∀ (j : Nat) (d : D), x[j]? = some d → ∃ u, a[j]? = some u ∧ d.p F u
  | [], [], _, j, d, e => by simp at e
  | v :: _, d0 :: _, h, 0, d, e => by cases e; exact ⟨v, rfl, h.1⟩
  | _ :: _, _ :: _, h, j + 1, d, e => Cel.get h.2 j d e
  | [], _ :: _, h, _, _, _ => h.elim
  | _ :: _, [], h, _, _, _ => h.elim
theorem Cel.rels {F : FH} : ∀ {a : List Value} {x : List D}, Cel F a x → Rels ⟨F, fun _ => none⟩ (x.map .data) a ∧ ∀ u ∈ a, u.oneCell' = true
  | [], [], _ => ⟨rfl, fun u hu => by cases hu⟩
  | v :: _, d :: _, h => by
    obtain ⟨h1, h2⟩ := Cel.rels h.2
    refine ⟨⟨v, _, rfl, h.1, h1⟩, fun u hu => ?_⟩
    rcases List.mem_cons.mp hu with rfl | hu
    · exact d.one h.1
    · exact h2 u hu
  | [], _ :: _, h => h.elim
  | _ :: _, [], h => h.elim
/-- a reading at some fuel gives data -/
def Dec (enc : TypeId × Value → H) (P : Program) (W : World) (n : Nat) (t : TypeId) {α : Type} (f : α → List D) (G : α → Prop) : Prop :=
  ∀ (cs : List Value) (x : DataW H × List MemPlace), DataW.trod enc P W 0 (fun _ => true) true n t cs = some x → ∃ a, Cel (allF W) cs (f a) ∧ G a
theorem Dec.mono {n : Nat} {t : TypeId} {α : Type} {f : α → List D} {G G' : α → Prop} (h : Dec enc P W n t f G) (k : ∀ a, G a → G' a) : Dec enc P W n t f G' := fun cs x hx => by
  obtain ⟨a, h1, h2⟩ := h cs x hx; exact ⟨a, h1, k a h2⟩
theorem dec_int {n : Nat} {t : TypeId} {k : IntKind} (ht : P.underlying t = some (.int k)) : Dec enc P W n t (eN k) (fun a => k.min ≤ a ∧ a ≤ k.max) := by
  intro cs x h
  obtain ⟨m, rfl, _, hw⟩ := DataW.trod_int ht h
  refine ⟨m, Cel.one ⟨rfl, rfl⟩, ?_⟩
  simpa [Lit.wf] using hw
theorem dec_bool {n : Nat} {t : TypeId} (ht : P.underlying t = some .bool) : Dec enc P W n t eT (fun _ => True) := by
  intro cs x h
  obtain ⟨b, rfl, _⟩ := DataW.trod_bool ht h
  exact ⟨b, Cel.one ⟨rfl, rfl⟩, trivial⟩
theorem dec_string {n : Nat} {t : TypeId} (ht : P.underlying t = some .string) : Dec enc P W n t eS (fun s => s.size ≤ maxLen) := by
  intro cs x h
  obtain ⟨s, rfl, _, hs⟩ := DataW.trod_string ht h
  exact ⟨s, Cel.one ⟨rfl, rfl⟩, hs⟩
theorem choose_list {α : Type} {Q : Nat → α → Prop} : ∀ n : Nat, (∀ i, i < n → ∃ a, Q i a) → ∃ l : List α, l.length = n ∧ ∀ i a, l[i]? = some a → Q i a
  | 0, _ => ⟨[], rfl, fun i a e => by simp at e⟩
  | n + 1, h => by
    obtain ⟨l, h1, h2⟩ := choose_list n (fun i hi => h i (by omega))
    obtain ⟨a, ha⟩ := h n (by omega)
    refine ⟨l ++ [a], by simp [h1], fun i b e => ?_⟩
    by_cases hi : i < n
    · rw [List.getElem?_append_left (by omega)] at e; exact h2 i b e
    · rw [List.getElem?_append_right (by omega)] at e
      have : i - l.length = 0 := by
        by_cases h0 : i - l.length = 0
        · exact h0
        · rw [List.getElem?_eq_none (by simp; omega)] at e; cases e
      rw [this] at e; cases e
      have : i = n := by omega
      subst this; exact ha
theorem cells_get {w : World} {a : Addr} : ∀ {n : Nat} {cs : List Value}, w.cells? 0 a n = some cs → cs.length = n ∧ ∀ (j : Nat) (u : Value), cs[j]? = some u → w.cell? (a.add j) = some u := by
  intro n cs h
  unfold World.cells? at h
  rw [if_pos (Nat.zero_le _)] at h
  have hl : cs.length = n := by simpa using Lib.mapM_length h
  refine ⟨hl, fun j u hu => ?_⟩
  have hj : j < n := by
    rw [← hl]; exact (List.getElem?_eq_some_iff.mp hu).1
  obtain ⟨b, hb, hg⟩ := Lib.mapM_at h j j (by simp [hj])
  rw [hb] at hu; cases hu; exact hg
theorem fcell_all {a : Addr} {u : Value} (h : W.cell? a = some u) : fcell (allF W) a = some u := h
theorem dec_slice {n : Nat} {t e : TypeId} {α : Type} {f : α → List D} {G : α → Prop} (ht : P.underlying t = some (.slice e)) (sz : Nat) (hsz : P.cellsOf e = sz) (hf : ∀ a, (f a).length = sz)
    (he : ∀ m, m < n → Dec enc P W m e f G) : Dec enc P W n t (fun l : List α => [D.list sz (l.map f)]) (fun l => l.length ≤ maxLen ∧ ∀ a ∈ l, G a) := by
  intro cs x h
  rcases DataW.trod_slice ht h with ⟨rfl, _⟩ | ⟨a, len, cap, elems, rest, m, rfl, rfl, _, _, h2, h3, h4, h5, _⟩
  · exact ⟨[], Cel.one ⟨none, 0, rfl, by simp, by simp, fun h => absurd rfl h⟩, by simp, fun a ha => by cases ha⟩
  · have : ∀ i, i < len → ∃ b : α, (∃ cs, W.cells? 0 (a.add (i * sz)) sz = some cs ∧ Cel (allF W) cs (f b)) ∧ G b := by
      intro i hi
      have h6 := h5 i hi
      rw [hsz, List.getElem?_eq_getElem (by omega)] at h6
      obtain ⟨cs, hc, hd⟩ := Option.bind_eq_some_iff.mp h6
      obtain ⟨b, hb, hG⟩ := he m (Nat.lt_succ_self m) cs _ hd
      exact ⟨b, ⟨cs, hc, hb⟩, hG⟩
    obtain ⟨l, hl, hQ⟩ := choose_list len this
    refine ⟨l, Cel.one ⟨some a, cap, by simp [hl], by simp [hl, h2], by simp only [List.length_map]; omega, fun _ => ⟨a, rfl, ?_⟩⟩, by omega, ?_⟩
    · intro i y hy
      rw [List.getElem?_map] at hy
      obtain ⟨b, hb, rfl⟩ := Option.map_eq_some_iff.1 hy
      obtain ⟨⟨cs, hc, hC⟩, _⟩ := hQ i b hb
      refine ⟨hf b, fun j d hj => ?_⟩
      obtain ⟨u, hu, hd⟩ := hC.get j d hj
      exact ⟨u, fcell_all ((cells_get hc).2 j u hu), hd⟩
    · intro b hb
      obtain ⟨i, hi, e⟩ := List.mem_iff_getElem.mp hb
      exact (hQ i b (by rw [List.getElem?_eq_getElem hi, e])).2
/-- the fields of a struct, one after the other -/
def Fl (enc : TypeId × Value → H) (P : Program) (W : World) (n : Nat) : List TypeId → List Value → Prop
  | [], cs => cs = []
  | t :: ts, cs => ∃ a b x, cs = a ++ b ∧ DataW.trod enc P W 0 (fun _ => true) true n t a = some x ∧ Fl enc P W n ts b
theorem fields_fl {n : Nat} {cs : List Value} : ∀ (l : List Field) (off : Nat) (b : List Value), b = cs.drop off →
    (∀ (i : Nat) (f : Field), l[i]? = some f → ∃ x, DataW.trod enc P W 0 (fun _ => true) true n f.type ((cs.drop f.offset).take (P.cellsOf f.type)) = some x) →
    (∀ (i : Nat) (f : Field), l[i]? = some f → f.offset = off + ((l.take i).map fun g => P.cellsOf g.type).sum) → cs.length = off + (l.map fun g => P.cellsOf g.type).sum → Fl enc P W n (l.map (·.type)) b
  | [], off, b, hb, _, _, hl => by
    subst hb
    show cs.drop off = []
    rw [List.drop_eq_nil_iff]; simp at hl; omega
  | f :: l, off, b, hb, hr, ho, hl => by
    subst hb
    obtain ⟨x, hx⟩ := hr 0 f rfl
    have h0 : f.offset = off := by simpa using ho 0 f rfl
    rw [h0] at hx
    refine ⟨_, (cs.drop off).drop (P.cellsOf f.type), x, (List.take_append_drop _ _).symm, hx, ?_⟩
    refine fields_fl l (off + P.cellsOf f.type) _ (by rw [List.drop_drop]) (fun i g hg => hr (i + 1) g hg) (fun i g hg => ?_) (by simp only [List.map_cons, List.sum_cons] at hl; omega)
    have := ho (i + 1) g hg
    simp only [List.take_succ_cons, List.map_cons, List.sum_cons] at this
    omega
/-- where the fields lie: a look by the kernel -/
def flat (P : Program) (t : TypeId) (fs : List Field) : Bool :=
  (P.cellsOf t == (fs.map fun g => P.cellsOf g.type).sum) && (List.range fs.length).all fun i => match fs[i]? with | some f => f.offset == ((fs.take i).map fun g => P.cellsOf g.type).sum | none => true
theorem struct_fl {n : Nat} {t : TypeId} {fs : Array Field} {cs : List Value} {x : DataW H × List MemPlace} (ht : P.underlying t = some (.struct fs)) (hfl : flat P t fs.toList = true)
    (h : DataW.trod enc P W 0 (fun _ => true) true n t cs = some x) : ∃ m, n = m + 1 ∧ Fl enc P W m (fs.toList.map (·.type)) cs := by
  obtain ⟨xs, m, rfl, _, hl, hlen, hg⟩ := DataW.trod_struct ht h
  simp only [flat, Bool.and_eq_true, beq_iff_eq, List.all_eq_true, List.mem_range] at hfl
  refine ⟨m, rfl, fields_fl (cs := cs) fs.toList 0 cs (by simp) (fun i f hf => ?_) (fun i f hf => ?_) (by rw [hl, hfl.1]; simp)⟩
  · have hf' : fs[i]? = some f := by simpa using hf
    have hi : i < fs.size := by
      rcases Array.getElem?_eq_some_iff.mp hf' with ⟨h, _⟩; exact h
    rw [hg i f hf']
    exact ⟨xs[i]'(by omega), List.getElem?_eq_getElem _⟩
  · have hi : i < fs.toList.length := (List.getElem?_eq_some_iff.mp hf).1
    have := hfl.2 i hi
    rw [hf] at this
    simpa using this
/-! ### arguments -/
theorem rel_agg {t : TypeId} {fs : Array Field} {v : Value} {d : DataW H} {p : List MemPlace} {r : Reach} {b0 : Nat} {α : Type} {f : α → List D} {G : α → Prop} (ht : P.underlying t = some (.struct fs)) (hval : Value.okWide P W r b0 t v)
    (hd : DataW.Trod enc P W 0 (fun _ => true) true t v d p) (hD : ∀ n, Dec enc P W n t f G) : ∃ a, Rel ⟨allF W, fun _ => none⟩ (aA (f a)) v ∧ G a := by
  have : ∃ cs, v = .agg cs := by
    simp only [Value.okWide, ht] at hval
    obtain ⟨cs, e, _⟩ := hval; exact ⟨cs, e⟩
  obtain ⟨cs, rfl⟩ := this
  obtain ⟨n, hn⟩ := hd
  obtain ⟨a, hC, hG⟩ := hD n _ _ hn
  have hC' : Cel (allF W) cs.toList (f a) := hC
  obtain ⟨h1, h2⟩ := hC'.rels
  exact ⟨a, ⟨cs.toList, by simp, h1, h2⟩, hG⟩
theorem rel_slice {t e : TypeId} {v : Value} {d : DataW H} {p : List MemPlace} {r : Reach} {b0 : Nat} {α : Type} {f : α → List D} {sz : Nat} {G : List α → Prop} (ht : P.underlying t = some (.slice e)) (hval : Value.okWide P W r b0 t v)
    (hd : DataW.Trod enc P W 0 (fun _ => true) true t v d p) (hD : ∀ n, Dec enc P W n t (fun l : List α => [D.list sz (l.map f)]) G) : ∃ l : List α, Rel ⟨allF W, fun _ => none⟩ (aL sz f l) v ∧ G l := by
  obtain ⟨A, len, cap, rfl⟩ := WideShapes.okWide_slice ht hval
  obtain ⟨n, hn⟩ := hd
  obtain ⟨l, hC, hG⟩ := hD n _ _ hn
  have hC' : Cel (allF W) [.slice A len cap] [D.list sz (l.map f)] := hC
  exact ⟨l, hC'.1, hG⟩
/-! ### back -/
theorem trodAll_back {ts : List TypeId} {vs : List Value} {ds : List (DataW H)} {ps : List MemPlace} {W' : World} {T : TypeId → Prop} (K : Kids P T) (hsz : ∀ {t e : TypeId}, T t → P.underlying t = some (.slice e) → 0 < P.cellsOf e)
    (hT : ∀ t ∈ ts, T t) (h : DataW.TrodAll enc P W 0 (fun _ => true) true ts vs ds ps) (hx : W.Extends W') : DataW.TrodAll enc P W' 0 (fun b => decide (b < W.heap.size)) true ts vs ds ps := by
  induction ts generalizing vs ds ps with
  | nil =>
    cases vs <;> cases ds <;> first | exact h | exact h.elim
  | cons t ts ih =>
    cases vs with
    | nil => cases ds <;> exact h.elim
    | cons v vs =>
      cases ds with
      | nil => exact h.elim
      | cons d ds =>
        obtain ⟨p, q, ⟨fuel, h1⟩, h2, e⟩ := h
        have hlt := DataW.trod_lt fuel t _ _ h1
        refine ⟨p, q, ⟨fuel, ?_⟩, ih (fun t ht => hT t (List.mem_cons_of_mem _ ht)) h2, e⟩
        refine DataW.trod_stays K hsz (fun h => by cases h) (hT t (List.mem_cons_self ..)) h1 (fun r hr => ?_) (fun r hr => ?_)
        · have := hlt r hr
          cases r with
          | cell b off => exact cell_of (fun b hb => hx.block b hb) ⟨b, off, none⟩ this
          | map b => exact hx.block b this
        · exact decide_eq_true (hlt r hr)
end Go.Proofs.YtgmpgoafokdcbaaGreatDoor.Sx
