/- Plain specs: the bounds (Great) end. -/
import Derived.Test.YtgmpgoafokdcbaaGreatDoorPpo
set_option linter.unusedVariables false
set_option linter.unusedSimpArgs false
namespace Go.Proofs.YtgmpgoafokdcbaaGreatDoor.Sx
open Go Go.RowKit
abbrev Tt {α : Type} : α → Prop := fun _ => True
theorem count_ok : ∀ (f : Nat) (t : Term) (a b : Int), rankTerm t ≤ f → GoodT t → Ok (retargetref02_count f t a b) Tt := by
  intro f
  induction f with
  | zero => intro t _ _ h; have := rk_pos t; omega
  | succ f ih =>
    intro t a b h hg
    obtain ⟨h1, h2⟩ := good_sub hg
    show Ok (retargetref02_count_f (retargetref02_count f) t a b) _
    simp only [retargetref02_count_f, jn]
    refine ok_if (fun _ => ok_s trivial) fun _ => ?_
    refine ok_lp t.Sub (fun n s => s.2 = (n : Int)) rfl ?_ ?_
    · rintro n x ⟨m, v⟩ rec hx h3 hr
      simp only at h3; subst h3
      have hn := lt_len hx
      simp only [retargetref02_count_b2]
      rw [show decide ((n : Int) < (t.Sub.length : Int)) = true by simp [hn], Bool.true_and, ix_some hx]
      refine ok_if (fun _ => ?_) (fun _ => ok_s trivial)
      rw [Option.bind_some, w64_nat (by omega)]
      refine ok_b (ih x _ _ (by have := rk_sub (List.mem_of_getElem? hx); omega) (h2 n x hx)) fun r _ => ?_
      exact ok_if (fun _ => ok_s trivial) (fun _ => hr _ rfl)
    · rintro ⟨m, v⟩ rec h3
      simp only at h3; subst h3
      simp only [retargetref02_count_b2]
      rw [show decide ((t.Sub.length : Int) < (t.Sub.length : Int)) = false by simp, Bool.false_and]
      exact ok_s trivial
theorem long_ok : ∀ (f : Nat) (t : Term), rankTerm t ≤ f → GoodT t → Ok (retargetref02_long f t) Tt := by
  intro f
  induction f with
  | zero => intro t h; have := rk_pos t; omega
  | succ f ih =>
    intro t h hg
    obtain ⟨h1, h2⟩ := good_sub hg
    show Ok (retargetref02_long_f (retargetref02_long f) t) _
    simp only [retargetref02_long_f, jn]
    refine ok_lp t.Sub (fun n s => s = (n : Int)) rfl ?_ ?_
    · rintro n x v rec hx rfl hr
      have hn := lt_len hx
      simp only [retargetref02_long_b2]
      rw [if_in hx, ix_some hx, Option.bind_some, w64_nat (by omega)]
      refine ok_b (ih x (by have := rk_sub (List.mem_of_getElem? hx); omega) (h2 n x hx)) fun r _ => ?_
      exact ok_if (fun _ => ok_s trivial) (fun _ => hr _ rfl)
    · rintro v rec rfl
      simp only [retargetref02_long_b2]
      rw [if_out]
      exact ok_s trivial
theorem rSize_ok : ∀ (f : Nat) (t : Term), rankTerm t ≤ f → GoodT t → Ok (retargetref02_Size f t) Tt := by
  intro f
  induction f with
  | zero => intro t h; have := rk_pos t; omega
  | succ f ih =>
    intro t h hg
    obtain ⟨h1, h2⟩ := good_sub hg
    show Ok (retargetref02_Size_f (retargetref02_Size f) t) _
    simp only [retargetref02_Size_f, jn]
    refine ok_lp t.Sub (fun n s => s.2 = (n : Int)) rfl ?_ ?_
    · rintro n x ⟨m, v⟩ rec hx h3 hr
      simp only at h3; subst h3
      have hn := lt_len hx
      simp only [retargetref02_Size_b2]
      rw [if_in hx, ix_some hx, Option.bind_some, w64_nat (by omega)]
      exact ok_b (ih x (by have := rk_sub (List.mem_of_getElem? hx); omega) (h2 n x hx)) fun r _ => hr _ rfl
    · rintro ⟨m, v⟩ rec h3
      simp only at h3; subst h3
      simp only [retargetref02_Size_b2]
      rw [if_out]
      exact ok_s trivial
theorem ok_gd {α : Type} [Inhabited α] {c : Bool} {o : Option α} (h : Ok o Tt) : Ok (bif c then o else some default) Tt := ok_if (fun _ => h) (fun _ => ok_s trivial)
theorem tGreat_ok (t : Term) (h : GoodT t) : Ok (retargetref02_Great t) Tt := by
  unfold retargetref02_Great
  exact ok_b (count_ok _ t _ _ (Nat.le_refl _) h) fun _ _ => ok_b (ok_gd (long_ok _ t (Nat.le_refl _) h)) fun _ _ => ok_s trivial
theorem ix_Ok {α : Type} {l : List α} {n : Nat} {x : α} (h : l[n]? = some x) : Ok (ix l (n : Int)) (fun y => y = x) := ⟨x, ix_some h, rfl⟩
theorem Nodes_ok {M : Machine} (hg : GoodM M) : Ok (retargetref08_Nodes M) Tt := by
  have hI := hg.instrs
  unfold retargetref08_Nodes
  simp only [jn]
  refine ok_lp M.Instrs (fun n s => s.2 = (n : Int)) rfl ?_ ?_
  · rintro n s ⟨m, v⟩ rec hx h3 hr
    simp only at h3; subst h3
    have hn := lt_len hx
    have hE := hg.effs s (List.mem_of_getElem? hx)
    simp only [retargetref08_Nodes_b2, jn]
    rw [if_in hx, ix_some hx]
    simp only [Option.getD_some]
    refine ok_lp s.Effects (fun k q => q.2 = (k : Int)) rfl ?_ ?_
    · rintro k x ⟨m, v⟩ rec' hx' h3 hr'
      simp only at h3; subst h3
      have hk := lt_len hx'
      obtain ⟨g1, g2, g3⟩ := hg.instr s (List.mem_of_getElem? hx) x (List.mem_of_getElem? hx')
      simp only [retargetref08_Nodes_b4]
      rw [ix_some hx, Option.bind_some, if_in hx', Option.bind_some, ix_some hx', Option.bind_some, w64_nat (by omega)]
      exact ok_b (rSize_ok _ _ (Nat.le_refl _) g1) fun _ _ => ok_b (rSize_ok _ _ (Nat.le_refl _) g2) fun _ _ => ok_b (rSize_ok _ _ (Nat.le_refl _) g3) fun _ _ => hr' _ rfl
    · rintro ⟨m, v⟩ rec' h3
      simp only at h3; subst h3
      simp only [retargetref08_Nodes_b4]
      rw [ix_some hx, Option.bind_some, if_out]
      simp only [retargetref08_Nodes_k3]
      rw [w64_nat (by omega)]
      exact hr _ rfl
  · rintro ⟨m, v⟩ rec h3
    simp only at h3; subst h3
    simp only [retargetref08_Nodes_b2]
    rw [if_out]
    exact ok_s trivial
theorem Great_ok {M : Machine} (hg : GoodM M) : Ok (retargetref08_Great M) Tt := by
  have hI := hg.instrs; have hB := hg.banks
  unfold retargetref08_Great
  refine ok_if (fun _ => ok_s trivial) fun _ => ?_
  simp only [jn]
  refine ok_lp M.Banks (fun n s => s = (n : Int)) rfl ?_ ?_
  · rintro n b v rec hx rfl hr
    have hn := lt_len hx
    simp only [retargetref08_Great_b8]
    rw [if_in hx, ix_some hx, Option.bind_some, w64_nat (by omega)]
    exact ok_b (ok_gd (ok_s trivial)) fun _ _ => ok_if (fun _ => ok_s trivial) (fun _ => hr _ rfl)
  · rintro v rec rfl
    simp only [retargetref08_Great_b8]
    rw [if_out]
    simp only [retargetref08_Great_k1, jn]
    refine ok_lp M.Instrs (fun n s => s = (n : Int)) rfl ?_ ?_
    · rintro n s v rec hx rfl hr
      have hn := lt_len hx
      have hE := hg.effs s (List.mem_of_getElem? hx)
      have hO := hg.opnds s (List.mem_of_getElem? hx)
      simp only [retargetref08_Great_b3, jn]
      rw [if_in hx, ix_some hx, Option.bind_some]
      refine ok_if (fun _ => ok_s trivial) fun _ => ?_
      refine ok_lp s.Operands (fun n s => s = (n : Int)) rfl ?_ ?_
      · rintro k o v rec' hx' rfl hr'
        have hk := lt_len hx'
        simp only [retargetref08_Great_b7]
        rw [if_in hx', ix_some hx', Option.bind_some, w64_nat (by omega)]
        exact ok_b (ok_gd (ok_s trivial)) fun _ _ => ok_if (fun _ => ok_s trivial) (fun _ => hr' _ rfl)
      · rintro v rec' rfl
        simp only [retargetref08_Great_b7]
        rw [if_out]
        simp only [retargetref08_Great_k5]
        refine ok_lp s.Effects (fun n s => s = (n : Int)) rfl ?_ ?_
        · rintro k x v rec' hx' rfl hr'
          have hk := lt_len hx'
          obtain ⟨g1, g2, g3⟩ := hg.instr s (List.mem_of_getElem? hx) x (List.mem_of_getElem? hx')
          simp only [retargetref08_Great_b6]
          rw [if_in hx', ix_some hx', Option.bind_some, w64_nat (by omega)]
          refine ok_b (tGreat_ok _ g1) fun _ _ => ok_b (Q := fun y => y = x ∨ y = default) (ok_if (fun _ => ok_s (.inl rfl)) (fun _ => ok_s (.inr rfl))) fun y hy => ?_
          have hd : GoodE default := by
            have : GoodT default := by rw [GoodT, allT_X]; exact ⟨⟨by show 0 ≤ _; omega, by show (0 : Int) ≤ 0; omega, by show (0 : Int) ≤ 255; omega, by show 0 ≤ _; omega⟩, fun x hx => by cases hx⟩
            exact ⟨this, this, this⟩
          have hy' : GoodE y := by
            rcases hy with rfl | rfl
            · exact ⟨g1, g2, g3⟩
            · exact hd
          refine ok_b (ok_gd (tGreat_ok _ hy'.2.1)) fun _ _ => ok_b (Q := fun y => y = x ∨ y = default) (ok_if (fun _ => ok_s (.inl rfl)) (fun _ => ok_s (.inr rfl))) fun z hz => ?_
          have hz' : GoodE z := by
            rcases hz with rfl | rfl
            · exact ⟨g1, g2, g3⟩
            · exact hd
          exact ok_b (ok_gd (tGreat_ok _ hz'.2.2)) fun _ _ => ok_if (fun _ => ok_s trivial) (fun _ => hr' _ rfl)
        · rintro v rec' rfl
          simp only [retargetref08_Great_b6]
          rw [if_out]
          simp only [retargetref08_Great_k4]
          rw [w64_nat (by omega)]
          exact hr _ rfl
    · rintro v rec rfl
      simp only [retargetref08_Great_b3]
      rw [if_out]
      simp only [retargetref08_Great_k2]
      exact ok_b (Nodes_ok hg) fun _ _ => ok_s trivial
theorem GreatOps_ok (l : List MachOp) (hl : l.length ≤ 9223372036854775807) : Ok (retargetref15_GreatOps l) Tt := by
  unfold retargetref15_GreatOps
  refine ok_if (fun _ => ok_s trivial) fun _ => ?_
  simp only [jn]
  refine ok_lp l (fun n s => s = (n : Int)) rfl ?_ ?_
  · rintro n o v rec hx rfl hr
    have hn := lt_len hx
    simp only [retargetref15_GreatOps_b2]
    rw [if_in hx, ix_some hx, Option.bind_some, w64_nat (by omega)]
    exact ok_if (fun _ => ok_s trivial) (fun _ => hr _ rfl)
  · rintro v rec rfl
    simp only [retargetref15_GreatOps_b2]
    rw [if_out]; exact ok_s trivial
theorem great_ok {M : Machine} (hg : GoodM M) (l : List MachOp) (hl : l.length ≤ 9223372036854775807) : Ok (retargetlaw16_great M l) Tt := by
  unfold retargetlaw16_great
  exact ok_b (Great_ok hg) fun _ _ => ok_b (ok_gd (GreatOps_ok l hl)) fun _ _ => ok_s trivial
end Go.Proofs.YtgmpgoafokdcbaaGreatDoor.Sx
