/- Plain specs: reads, Touch. -/
import Derived.Test.YtgmpgoafokdcbaaGreatDoorPpk
set_option linter.unusedVariables false
set_option linter.unusedSimpArgs false
namespace Go.Proofs.YtgmpgoafokdcbaaGreatDoor.Sx
open Go Go.RowKit
section
open Classical
theorem mget_vals {κ ν : Type} [BEq κ] {Q : ν → Prop} : ∀ (m : List (κ × ν)), (∀ p ∈ m, Q p.2) → ∀ k v, mGet m k = some v → Q v
  | [], _, k, v, h => by cases h
  | (a, b) :: l, hm, k, v, h => by
    simp only [mGet] at h
    cases hb : (k == a) with
    | true => rw [hb, cond_true] at h; cases h; exact hm _ (List.mem_cons_self ..)
    | false => rw [hb, cond_false] at h; exact mget_vals l (fun p hp => hm p (List.mem_cons_of_mem _ hp)) k v h
theorem mset_vals {κ ν : Type} [BEq κ] {Q : ν → Prop} : ∀ (m : List (κ × ν)) (k : κ) (v : ν), (∀ p ∈ m, Q p.2) → Q v → ∀ p ∈ mSet m k v, Q p.2
  | [], k, v, _, hv, p, hp => by
    simp only [mSet, List.mem_singleton] at hp; subst hp; exact hv
  | (a, b) :: l, k, v, hm, hv, p, hp => by
    simp only [mSet] at hp
    cases hb : (k == a) with
    | true =>
      rw [hb, cond_true] at hp
      rcases List.mem_cons.mp hp with rfl | h
      · exact hv
      · exact hm p (List.mem_cons_of_mem _ h)
    | false =>
      rw [hb, cond_false] at hp
      rcases List.mem_cons.mp hp with rfl | h
      · exact hm _ (List.mem_cons_self ..)
      · exact mset_vals l k v (fun p hp => hm p (List.mem_cons_of_mem _ hp)) hv p h
/-- a map of names to registers -/
def RegMap (M : Machine) (m : List (ByteArray × Int)) : Prop := ∀ p ∈ m, 0 ≤ p.2 ∧ p.2 < M.Regs.length
theorem place_at {M : Machine} {c : core_Core} (hc : CoreP M c) {a : Int} (h0 : 0 ≤ a) (h1 : a < M.Regs.length) : ∃ p, ix c.places a = some p ∧ PlaceP M a.toNat p := by
  obtain ⟨p, e, e'⟩ := ix_lt (l := c.places) h0 (by rw [hc.len]; exact h1)
  exact ⟨p, e, hc.place _ p e'⟩
theorem pmask_ok {M : Machine} (hm : MachP M) {i : Nat} {p : core_Place} (h : PlaceP M i p) : core_Place_Mask p = some (sShl .u64 (maskP p.Width) p.Low) := by
  obtain ⟨r, hr, hL, hW, _⟩ := h.reg
  have hR := hm.1.2.1.2 i r hr
  have : 0 ≤ p.Low := by
    rw [hL]
    rcases hR.2.2 with h | ⟨_, _, root, _, _, _, _, h, _⟩
    · have := h.2; omega
    · exact h
  unfold core_Place_Mask
  rw [MaskP_eq, Option.bind_some, show decide (0 ≤ p.Low) = true by simp [this], asr_t]
theorem regmap_set {M : Machine} {m : List (ByteArray × Int)} (h : RegMap M m) (k : ByteArray) {a : Int} (h0 : 0 ≤ a ∧ a < M.Regs.length) : RegMap M (mSet m k a) :=
  mset_vals (Q := fun a => 0 ≤ a ∧ a < (M.Regs.length : Int)) m k a h h0
/-- what reads leaves as it is -/
structure RdP (M : Machine) (m : List (ByteArray × Int)) (wr : List Int) (r : (List (ByteArray × Int)) × Bool × Bool × Bool × Bool × Bool × (List Int) × (List Int)) (stores jumps traps : Bool) : Prop where
  map : r.1 = m
  stores : r.2.2.1 = stores
  jumps : r.2.2.2.1 = jumps
  traps : r.2.2.2.2.1 = traps
  len : r.2.2.2.2.2.2.1.length = (topsP M).length
  wr : r.2.2.2.2.2.2.2 = wr
theorem reads_ok {M : Machine} (hm : MachP M) {c : core_Core} (hc : CoreP M c) (m : List (ByteArray × Int)) (hM : RegMap M m) (js : List ByteArray) (hj : js.length ≤ 1000) (wr : List Int) :
    ∀ (f : Nat) (t : Term) (rd : List Int) (b1 b2 b3 b4 b5 : Bool), rankTerm t ≤ f → GoodT t → rd.length = (topsP M).length →
    Ok (core_Core_reads f c t m js rd wr b1 b2 b3 b4 b5) (fun r => RdP M m wr r b2 b3 b4) := by
  intro f
  induction f with
  | zero => intro t _ _ _ _ _ _ h; have := rk_pos t; omega
  | succ f ih =>
    intro t rd b1 b2 b3 b4 b5 h hg hrd
    obtain ⟨h1, h2⟩ := good_sub hg
    show Ok (core_Core_reads_f (core_Core_reads f) c t m js rd wr b1 b2 b3 b4 b5) _
    simp only [core_Core_reads_f, jn]
    have key : ∀ (b1 b5 : Bool) (rd : List Int), rd.length = (topsP M).length → Ok (core_Core_reads_k1 c t m js wr (core_Core_reads f) (b1, b2, b3, b4, b5, rd)) (fun r => RdP M m wr r b2 b3 b4) := by
      intro b1 b5 rd hrd
      simp only [core_Core_reads_k1]
      refine ok_lp t.Sub (fun n s => s.1 = (n : Int) ∧ RdP M m wr s.2 b2 b3 b4) ⟨rfl, rfl, rfl, rfl, rfl, hrd, rfl⟩ ?_ ?_
      · rintro n x ⟨v, m', c1, c2, c3, c4, c5, rd', wr'⟩ rec hx ⟨h3, h4, h5, h6, h7, h8, h9⟩ hr
        simp only at h3 h4 h5 h6 h7 h8 h9; subst h3 h4 h5 h6 h7 h9
        have hn := lt_len hx
        simp only [core_Core_reads_b2]
        rw [if_in hx, ix_some hx, Option.bind_some]
        refine ok_b (ih x rd' c1 c2 c3 c4 c5 (by have := rk_sub (List.mem_of_getElem? hx); omega) (h2 n x hx) h8) ?_
        intro r hP
        rw [w64_nat (by omega)]
        exact hr _ ⟨rfl, hP⟩
      · rintro ⟨v, m', c1, c2, c3, c4, c5, rd', wr'⟩ rec ⟨h3, hP⟩
        simp only at h3; subst h3
        simp only [core_Core_reads_b2]
        rw [if_out]
        exact ok_s hP
    have k3 : ∀ rd : List Int, rd.length = (topsP M).length → Ok (core_Core_reads_k3 t js b1 b2 b3 b4 b5 (core_Core_reads_k1 c t m js wr (core_Core_reads f)) rd) (fun r => RdP M m wr r b2 b3 b4) := by
      intro rd hrd
      simp only [core_Core_reads_k3]
      refine ok_b (Q := fun _ => True) ?_ fun r _ => ok_if (fun _ => key _ _ _ hrd) (fun _ => key _ _ _ hrd)
      refine ok_if (fun _ => ?_) (fun _ => ok_s trivial)
      rw [Contains_s _ _ (by omega)]; exact ok_s trivial
    cases (t.Kind == 2) with
    | true =>
      rw [cond_true]
      cases hmg : mGet m t.Name with
      | none => exact k3 rd hrd
      | some a =>
        simp only [Option.isSome_some, cond_true, Option.getD_some]
        have ha := mget_vals (Q := fun a => 0 ≤ a ∧ a < (M.Regs.length : Int)) m hM t.Name a hmg
        obtain ⟨p, ep, hp⟩ := place_at hc ha.1 ha.2
        obtain ⟨r, _, _, _, r1, r2, _⟩ := hp.reg
        rw [ep, Option.bind_some]
        obtain ⟨x, ex, _⟩ := ix_lt (l := rd) r1 (by rw [hrd]; exact r2)
        rw [ex, Option.bind_some, pmask_ok hm hp, Option.bind_some, Option.bind_some]
        exact k3 _ (by rw [List.length_set]; exact hrd)
    | false =>
      rw [cond_false]
      cases (t.Kind == 24) with
      | true => exact key _ _ _ hrd
      | false => exact key _ _ _ hrd
/-! ### Touch -/
structure TouchP (M : Machine) (t : Touch) : Prop where
  reads : t.Reads.length = (topsP M).length
  writes : t.Writes.length = (topsP M).length
theorem Touch_ok {M : Machine} (hg : GoodM M) (hs : SmallM M) (hm : MachP M) {c : core_Core} (hc : CoreP M c) {op : MachOp} {s : MachInstr} (hf : FitOp M op s) :
    Ok (core_Core_Touch c op) (TouchP M) := by
  have hrl := roots_len hs
  have hRl := hs.regs
  have hI := hs.instr s (List.mem_of_getElem? hf.instr)
  have hI1 := hI.1; have hI2 := hI.2.1
  have hix : ix M.Instrs op.Instr = some s := by
    have e : op.Instr = ((op.Instr.toNat : Nat) : Int) := by have := hf.pos; omega
    rw [e, ix_nat]; exact hf.instr
  have hSP := (hm.2 _ s hf.instr).2
  unfold core_Core_Touch
  rw [hc.roots, mkOk_t (by omega) (by omega) (by omega), asr_t, asr_t]
  simp only [jn]
  obtain ⟨cm, cr, cl, cp⟩ := hc
  obtain ⟨M', R, pl⟩ := c
  simp only at cm cr cl cp; subst cm cr
  have hc' : CoreP M' ⟨M', ((topsP M').length : Int), pl⟩ := ⟨rfl, rfl, cl, cp⟩
  -- the effects
  have hk2 : ∀ (m : List (ByteArray × Int)) (js : List ByteArray), RegMap M' m → js.length ≤ 1000 → Ok (core_Core_Touch_k2 ⟨M', ((topsP M').length : Int), pl⟩ op (m, js)) (TouchP M') := by
    intro m js hM hj
    simp only [core_Core_Touch_k2, jn]
    rw [hix, Option.bind_some]
    refine ok_lp s.Effects (fun n r => r.1 = js ∧ r.2.1 = (n : Int) ∧ r.2.2.1.length = (topsP M').length ∧ r.2.2.2.1.length = (topsP M').length ∧ r.2.2.2.2.2.2.2.2.2 = m) ?_ ?_ ?_
    · exact ⟨rfl, rfl, by simp, by simp, rfl⟩
    · rintro n x ⟨js', v, rd, wr, b1, b2, b3, b4, b5, m'⟩ rec hx ⟨h1, h2, h3, h4, h5⟩ hr
      simp only at h1 h2 h3 h4 h5; subst h1 h2 h5
      have hn := lt_len hx
      have hE := hSP.2.2.1 n x hx
      have hG := hg.instr s (List.mem_of_getElem? hf.instr) x (List.mem_of_getElem? hx)
      simp only [core_Core_Touch_b4, jn]
      rw [if_in hx, ix_some hx, Option.bind_some]
      have k6 : ∀ (wr : List Int) (b1 b2 b3 b4 b5 : Bool), wr.length = (topsP M').length → Ok (core_Core_Touch_k6 ⟨M', ((topsP M').length : Int), pl⟩ js' rd m' (core_Core_Touch_k5 js' (n : Int) rec) x (wr, b1, b2, b3, b4, b5)) (TouchP M') := by
        intro wr b1 b2 b3 b4 b5 hwr
        simp only [core_Core_Touch_k6]
        refine ok_lp [x.Addr, x.Value, x.Cond] (fun k r => r.1 = (k : Int) ∧ r.2.1.length = (topsP M').length ∧ r.2.2.1.length = (topsP M').length ∧ r.2.2.2.2.2.2.2.2 = m') ?_ ?_ ?_
        · exact ⟨rfl, h3, hwr, rfl⟩
        · rintro k t ⟨v, rd, wr, c1, c2, c3, c4, c5, m''⟩ rec' hx' ⟨g1, g2, g3, g4⟩ hr'
          simp only at g1 g2 g3 g4; subst g1 g4
          have hk := lt_len hx'
          simp only [List.length_cons, List.length_nil] at hk
          have hGt : GoodT t := by
            have := List.mem_of_getElem? hx'
            simp only [List.mem_cons, List.not_mem_nil, or_false] at this
            rcases this with rfl | rfl | rfl
            · exact hG.1
            · exact hG.2.1
            · exact hG.2.2
          simp only [core_Core_Touch_b7]
          rw [if_in hx', ix_some hx', Option.bind_some]
          refine ok_b (reads_ok hm hc' m'' hM js' hj wr (rankTerm t) t rd c1 c2 c3 c4 c5 (Nat.le_refl _) hGt g2) ?_
          intro r hP
          rw [w64_nat (by omega)]
          refine hr' _ ⟨rfl, hP.len, ?_, hP.map⟩
          have := hP.wr
          simp only [this]; exact g3
        · rintro ⟨v, rd, wr, c1, c2, c3, c4, c5, m''⟩ rec' ⟨g1, g2, g3, g4⟩
          simp only at g1 g2 g3 g4; subst g1 g4
          simp only [core_Core_Touch_b7]
          rw [if_out]
          simp only [core_Core_Touch_k5]
          rw [w64_nat (by omega)]
          exact hr _ ⟨rfl, rfl, g2, g3, rfl⟩
      by_cases k1 : x.Kind = 1
      · rw [show (x.Kind == 1) = true by simp [k1], cond_true]
        have hT : ∃ a, core_Target x op = some a ∧ 0 ≤ a ∧ a < (M'.Regs.length : Int) := by
          unfold core_Target
          rcases hE.2.2 with ⟨_, _, h | h⟩ | h | h | h
          · refine ⟨x.Reg, ?_, h.2.1, h.2.2.1⟩
            rw [show decide (0 ≤ x.Operand) = false by simp [h.1], cond_false]
          · obtain ⟨_, o1, o2, o, ho, hk, _⟩ := h
            rw [show decide (0 ≤ x.Operand) = true by simp [o1], cond_true]
            obtain ⟨a, ea, ea'⟩ := ix_lt (l := op.Args) o1 (by rw [hf.args]; exact o2)
            rw [ea]
            exact ⟨a, rfl, hf.regs _ o a ho ea' hk⟩
          · have := h.1; clear h; omega
          · have := h.1; clear h; omega
          · have := h.1; clear h; omega
        obtain ⟨a, ea, a0, a1⟩ := hT
        obtain ⟨p, ep, hp⟩ := place_at hc' a0 a1
        obtain ⟨r, _, _, _, r1, r2, _⟩ := hp.reg
        rw [ea, Option.bind_some, ep, Option.bind_some]
        obtain ⟨y, ey, _⟩ := ix_lt (l := wr) r1 (by rw [h4]; exact r2)
        rw [ey, Option.bind_some, pmask_ok hm hp, Option.bind_some, Option.bind_some]
        exact k6 _ _ _ _ _ _ (by rw [List.length_set]; exact h4)
      · rw [show (x.Kind == 1) = false by simp [k1], cond_false]
        cases (x.Kind == 2) with
        | true => exact k6 _ _ _ _ _ _ h4
        | false =>
          cases (x.Kind == 3) with
          | true => exact k6 _ _ _ _ _ _ h4
          | false =>
            cases (x.Kind == 4) with
            | true => exact k6 _ _ _ _ _ _ h4
            | false => exact k6 _ _ _ _ _ _ h4
    · rintro ⟨js', v, rd, wr, b1, b2, b3, b4, b5, m'⟩ rec ⟨h1, h2, h3, h4, h5⟩
      simp only at h1 h2 h3 h4 h5; subst h1 h2 h5
      simp only [core_Core_Touch_b4]
      rw [if_out]
      exact ok_s ⟨h3, h4⟩
  -- the operands
  have hk1 : ∀ m : List (ByteArray × Int), RegMap M' m → Ok (core_Core_Touch_k1 ⟨M', ((topsP M').length : Int), pl⟩ op m) (TouchP M') := by
    intro m hM
    simp only [core_Core_Touch_k1, jn]
    rw [hix, Option.bind_some]
    refine ok_lp s.Operands (fun n r => r.1 = (n : Int) ∧ RegMap M' r.2.1 ∧ r.2.2.length ≤ n) ⟨rfl, hM, Nat.le_refl _⟩ ?_ ?_
    · rintro n o ⟨v, m, js⟩ rec hx ⟨h1, h2, h3⟩ hr
      simp only at h1 h2 h3; subst h1
      have hn := lt_len hx
      simp only [core_Core_Touch_b8, jn, core_Core_Touch_k9]
      rw [if_in hx, ix_some hx, Option.bind_some, w64_nat (by omega)]
      by_cases k1 : o.Kind = 1
      · rw [show (o.Kind == 1) = true by simp [k1], cond_true]
        have hA : op.Args[n]? = some (op.Args[n]'(by rw [hf.args]; exact hn)) := List.getElem?_eq_getElem _
        rw [ix_some hA, Option.bind_some]
        exact hr _ ⟨rfl, regmap_set h2 _ (hf.regs n o _ hx hA k1), by simp only; omega⟩
      · rw [show (o.Kind == 1) = false by simp [k1], cond_false]
        cases (o.Kind == 4) with
        | true =>
          rw [cond_true, roomy_t (by simp only [List.length_singleton]; omega) (by omega), asr_t]
          exact hr _ ⟨rfl, h2, by simp only [List.length_append, List.length_singleton]; omega⟩
        | false => exact hr _ ⟨rfl, h2, by simp only; omega⟩
    · rintro ⟨v, m, js⟩ rec ⟨h1, h2, h3⟩
      simp only at h1 h2 h3; subst h1
      simp only [core_Core_Touch_b8]
      rw [if_out]
      exact hk2 m js h2 (by omega)
  -- the registers
  refine ok_lp M'.Regs (fun n r => r.1 = (n : Int) ∧ RegMap M' r.2) ⟨rfl, fun p hp => by cases hp⟩ ?_ ?_
  · rintro n r ⟨v, m⟩ rec hx ⟨h1, h2⟩ hr
    simp only at h1 h2; subst h1
    have hn := lt_len hx
    have := (hm.1.2.1.2 n r hx).1.1.2.1
    have e : decide ((⟨#[114, 46]⟩ : ByteArray).size + r.Name.size ≤ 9223372036854775807) = true := by
      have : (⟨#[114, 46]⟩ : ByteArray).size = 2 := rfl
      simp only [this, decide_eq_true_eq]; omega
    simp only [core_Core_Touch_b10]
    rw [if_in hx, ix_some hx, Option.bind_some, e, asr_t, w64_nat (by omega)]
    exact hr _ ⟨rfl, regmap_set h2 _ ⟨by omega, by omega⟩⟩
  · rintro ⟨v, m⟩ rec ⟨h1, h2⟩
    simp only at h1 h2; subst h1
    simp only [core_Core_Touch_b10]
    rw [if_out]
    exact hk1 m h2
end
end Go.Proofs.YtgmpgoafokdcbaaGreatDoor.Sx
