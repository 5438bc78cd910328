/- Plain specs: Begin. -/
import Derived.Test.YtgmpgoafokdcbaaGreatDoorPpn
set_option linter.unusedVariables false
set_option linter.unusedSimpArgs false
namespace Go.Proofs.YtgmpgoafokdcbaaGreatDoor.Sx
open Go Go.RowKit
section
open Classical
structure PipeP (M : Machine) (B : Int) (p : Pipe) : Prop where
  at_ : 0 ≤ p.At ∧ p.At ≤ B
  mem : 0 ≤ p.Mem ∧ p.Mem ≤ B
  regsLen : p.Regs.length = (topsP M).length
  regs : ∀ x ∈ p.Regs, 0 ≤ x ∧ x ≤ B
  unitsLen : p.Units.length = M.Units.length
  units : ∀ (i : Nat) (u : MachUnit) (l : List Int), M.Units[i]? = some u → p.Units[i]? = some l → (l.length : Int) = u.Count ∧ (∀ x ∈ l, 0 ≤ x ∧ x ≤ B) ∧ SortedTo l l.length
theorem pipe_valid {M : Machine} {B : Int} {p : Pipe} (h : PipeP M B p) (hB : B ≤ 1099511627776) : ValidP M p :=
  ⟨by have := h.at_; omega, by have := h.mem; omega, h.regsLen, fun x hx => by have := h.regs x hx; omega, h.unitsLen,
   fun i u l hu hl => ⟨(h.units i u l hu hl).1, fun x hx => by have := (h.units i u l hu hl).2.1 x hx; omega, (h.units i u l hu hl).2.2⟩⟩
theorem valid_pipe {M : Machine} {p : Pipe} (h : ValidP M p) : PipeP M 1099511627791 p :=
  ⟨by have := h.at_; omega, h.mem, h.regsLen, h.regs, h.unitsLen, h.units⟩
theorem pipe_lens {M : Machine} (hs : SmallM M) (hm : MachP M) {B : Int} {p : Pipe} (h : PipeP M B p) : p.Regs.length ≤ 64 ∧ p.Units.length ≤ 8 ∧ ∀ l ∈ p.Units, l.length ≤ 4 := by
  have := roots_len hs
  have := hs.units
  refine ⟨by rw [h.regsLen]; omega, by rw [h.unitsLen]; omega, fun l hl => ?_⟩
  obtain ⟨i, hi, e⟩ := List.mem_iff_getElem.mp hl
  have hU : M.Units[i]? = some (M.Units[i]'(by rw [← h.unitsLen]; exact hi)) := List.getElem?_eq_getElem _
  have h1 := (h.units i _ l hU (by rw [List.getElem?_eq_getElem hi, e])).1
  have h2 := (hm.1.2.2.2.2 i _ hU).2
  omega
theorem mem_set_or {α : Type} {l : List α} {i : Nat} {a x : α} (h : x ∈ l.set i a) : x ∈ l ∨ x = a := List.mem_or_eq_of_mem_set h
structure BeginP (M : Machine) (B : Int) (p : Pipe) (r : Int × Pipe) : Prop where
  lo : p.At ≤ r.1
  hi : r.1 ≤ B + 1
  at_ : r.2.At = r.1
  pipe : PipeP M (B + 16) r.2
theorem Begin_ok {M : Machine} (hg : GoodM M) (hs : SmallM M) (hm : MachP M) {c : core_Core} (hc : CoreP M c) {op : MachOp} {s : MachInstr} (hf : FitOp M op s) {B : Int} (hB : B ≤ 1099511627800) {p : Pipe} (hp : PipeP M B p) :
    Ok (core_Core_Begin c p op) (BeginP M B p) := by
  have hrl := roots_len hs
  have hul := hs.units
  obtain ⟨pl1, pl2, pl3⟩ := pipe_lens hs hm hp
  have hix : ix M.Instrs op.Instr = some s := by
    have e : op.Instr = ((op.Instr.toNat : Nat) : Int) := by have := hf.pos; omega
    rw [e, ix_nat]; exact hf.instr
  have hSP := (hm.2 _ s hf.instr).2.2.2.2
  obtain ⟨_, _, ⟨u0, u1⟩, ⟨bz0, bz1⟩, ⟨la0, la1⟩, _⟩ := hSP
  have hat := hp.at_; have hmem := hp.mem
  unfold core_Core_Begin
  rw [show c.Machine = M from hc.machine, hix, Option.bind_some]
  obtain ⟨t, et, ht⟩ := Touch_ok hg hs hm hc hf
  rw [et, Option.bind_some]
  obtain ⟨ul, eu, eu'⟩ := ix_lt (l := p.Units) u0 (by rw [hp.unitsLen]; exact u1)
  rw [eu, Option.bind_some]
  obtain ⟨un, en, en'⟩ := ix_lt (l := M.Units) u0 u1
  obtain ⟨q1, q2, q3⟩ := hp.units _ un ul en' eu'
  have hcnt := (hm.1.2.2.2.2 _ un en').2
  have hl0 : 0 < ul.length := by omega
  have hx0 : ix ul 0 = some (ul.getD 0 0) := ix_getD (l := ul) (n := 0) hl0
  have hx0m : ul.getD 0 0 ∈ ul := by
    rw [List.getD_eq_getElem?_getD, List.getElem?_eq_getElem hl0]; exact List.getElem_mem hl0
  have hx0b := q2 _ hx0m
  rw [hx0, Option.bind_some]
  simp only [jn]
  -- after the start
  have h3 : ∀ st : Int, p.At ≤ st → 0 ≤ st → st ≤ B + 1 → Ok (core_Core_Begin_k3 p s t st) (BeginP M B p) := by
    intro st a0 a1 a2
    simp only [core_Core_Begin_k3, jn]
    rw [TwinPipe_eq p (by omega) (by omega) (fun l hl => by have := pl3 l hl; omega), Option.bind_some]
    simp only
    rw [eu, Option.bind_some, hx0, Option.bind_some]
    have hw1 : w64 (st + s.Busy) = st + s.Busy := w64_id (by omega) (by omega)
    have hw2 : w64 (st + s.Latency) = st + s.Latency := w64_id (by omega) (by omega)
    simp only [hw1]
    have hlen : (ul.set (0 : Int).toNat (st + s.Busy)).length = ul.length := List.length_set ..
    obtain ⟨so, es, so1, so2, so3⟩ := Sort_ok (ul.set (0 : Int).toNat (st + s.Busy)) (by rw [hlen]; have := pl3 ul (List.mem_of_getElem? eu'); omega)
    rw [es, Option.bind_some]
    rw [hlen] at so1 so3
    have so4 : ∀ x ∈ so, 0 ≤ x ∧ x ≤ B + 16 := by
      intro x hx
      rcases mem_set_or (so2.mem_iff.mp hx) with h | h
      · have := q2 x h; omega
      · omega
    refine ok_lp p.Regs (fun n r => r.1 = (n : Int) ∧ r.2.length = (topsP M).length ∧ ∀ x ∈ r.2, 0 ≤ x ∧ x ≤ B + 16) ?_ ?_ ?_
    · exact ⟨rfl, hp.regsLen, fun x hx => by have := hp.regs x hx; omega⟩
    · rintro n x ⟨v, rg⟩ rec hx ⟨g1, g2, g3⟩ hr
      simp only at g1 g2 g3; subst g1
      have hn := lt_len hx
      simp only [core_Core_Begin_b6, jn, core_Core_Begin_k7]
      obtain ⟨w, ew, _⟩ := ix_lt (l := t.Writes) (i := (n : Int)) (by omega) (by rw [ht.writes, ← hp.regsLen]; omega)
      rw [if_in hx, ew, Option.bind_some, w64_nat (by omega)]
      refine ok_if ?_ ?_
      · intro _
        obtain ⟨y, ey, _⟩ := ix_lt (l := rg) (i := (n : Int)) (by omega) (by rw [g2, ← hp.regsLen]; omega)
        rw [ey, Option.bind_some, hw2]
        refine hr _ ⟨rfl, by simp only [List.length_set]; exact g2, fun x hx => ?_⟩
        rcases mem_set_or hx with h | h
        · exact g3 x h
        · omega
      · intro _
        exact hr _ ⟨rfl, g2, g3⟩
    · rintro ⟨v, rg⟩ rec ⟨g1, g2, g3⟩
      simp only at g1 g2 g3; subst g1
      simp only [core_Core_Begin_b6]
      rw [if_out]
      have fin : ∀ (j : Bool) (mm : Int), 0 ≤ mm → mm ≤ B + 16 → BeginP M B p (st, Pipe.mk st j (p.Units.set s.Unit.toNat so) rg mm) := by
        intro j mm m0 m1
        refine ⟨a0, a2, rfl, ⟨by simp only; omega, by simp only; omega, g2, g3, by simp only [List.length_set]; exact hp.unitsLen, ?_⟩⟩
        intro i u l hu hl
        simp only [List.getElem?_set] at hl
        by_cases e : s.Unit.toNat = i
        · subst e
          have hlt : s.Unit.toNat < p.Units.length := by rw [hp.unitsLen]; omega
          rw [if_pos rfl, if_pos hlt] at hl
          rw [en'] at hu
          cases hl; cases hu
          exact ⟨by rw [so1]; exact q1, so4, by rw [so1]; exact so3⟩
        · rw [if_neg e] at hl
          have := hp.units i u l hu hl
          exact ⟨this.1, fun x hx => by have := this.2.1 x hx; omega, this.2.2⟩
      simp only [core_Core_Begin_k4, core_Core_Begin_k5, jn]
      rw [hw2]
      refine ok_if (fun _ => ok_s (fin _ _ (by omega) (by omega))) (fun _ => ok_s (fin _ _ (by omega) (by omega)))
  have h2 : ∀ st : Int, p.At ≤ st → 0 ≤ st → st ≤ B + 1 → Ok (core_Core_Begin_k2 p s t st) (BeginP M B p) := by
    intro st a0 a1 a2
    simp only [core_Core_Begin_k2, jn]
    exact ok_if (fun _ => h3 _ (by omega) (by omega) (by omega)) (fun _ => h3 _ a0 a1 a2)
  have h1 : ∀ st : Int, p.At ≤ st → 0 ≤ st → st ≤ B + 1 → Ok (core_Core_Begin_k1 p s t st) (BeginP M B p) := by
    intro st a0 a1 a2
    simp only [core_Core_Begin_k1, jn]
    refine ok_lp p.Regs (fun n r => r.2 = (n : Int) ∧ p.At ≤ r.1 ∧ 0 ≤ r.1 ∧ r.1 ≤ B + 1) ⟨rfl, a0, a1, a2⟩ ?_ ?_
    · rintro n x ⟨st', v⟩ rec hx ⟨g1, g2, g3, g4⟩ hr
      simp only at g1 g2 g3 g4; subst g1
      have hn := lt_len hx
      have hxb := hp.regs x (List.mem_of_getElem? hx)
      simp only [core_Core_Begin_b8, jn, core_Core_Begin_k9]
      obtain ⟨w, ew, _⟩ := ix_lt (l := t.Writes) (i := (n : Int)) (by omega) (by rw [ht.writes, ← hp.regsLen]; omega)
      obtain ⟨w', ew', _⟩ := ix_lt (l := t.Reads) (i := (n : Int)) (by omega) (by rw [ht.reads, ← hp.regsLen]; omega)
      rw [if_in hx, ix_some hx, Option.bind_some, ew', Option.bind_some, ew, Option.bind_some, w64_nat (by omega)]
      exact ok_if (fun _ => hr _ ⟨rfl, by simp only; omega, by simp only; omega, by simp only; omega⟩) (fun _ => hr _ ⟨rfl, g2, g3, g4⟩)
    · rintro ⟨st', v⟩ rec ⟨g1, g2, g3, g4⟩
      simp only at g1 g2 g3 g4; subst g1
      simp only [core_Core_Begin_b8]
      rw [if_out]
      exact h2 _ g2 g3 g4
  have hw : w64 (p.At + 1) = p.At + 1 := w64_id (by omega) (by omega)
  rw [hw]
  exact ok_if (fun _ => h1 _ (by omega) (by omega) (by omega)) (fun _ => h1 _ (by omega) (by omega) (by omega))
theorem newPipe_ok {M : Machine} (hs : SmallM M) (hm : MachP M) : PipeP M 0 (newPipe M) := by
  refine ⟨by simp [newPipe], by simp [newPipe], by simp [newPipe], ?_, by simp [newPipe], ?_⟩
  · intro x hx
    simp only [newPipe] at hx
    have := List.eq_of_mem_replicate hx
    omega
  · intro i u l hu hl
    simp only [newPipe, List.getElem?_map, hu, Option.map_some] at hl
    cases hl
    have := (hm.1.2.2.2.2 i u hu).2
    refine ⟨by rw [List.length_replicate]; omega, fun x hx => by have := List.eq_of_mem_replicate hx; omega, ?_⟩
    intro a b h1 h2
    have e : ∀ k, (List.replicate u.Count.toNat (0 : Int)).getD k 0 = 0 := by
      intro k
      rw [List.getD_eq_getElem?_getD, List.getElem?_replicate]
      by_cases h : k < u.Count.toNat <;> simp [h]
    rw [e, e]; exact Int.le_refl 0
end
end Go.Proofs.YtgmpgoafokdcbaaGreatDoor.Sx
