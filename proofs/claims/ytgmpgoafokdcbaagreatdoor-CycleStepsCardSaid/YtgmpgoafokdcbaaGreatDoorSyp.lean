/- Further operations: bytes to a string. -/
import Derived.Test.YtgmpgoafokdcbaaGreatDoorSyo
import Derived.Laws.BytesArg
set_option linter.unusedVariables false
set_option linter.unusedSectionVars false
set_option linter.unusedSimpArgs false
namespace Go.Proofs.YtgmpgoafokdcbaaGreatDoor.Sx
open Go Go.RowKit
variable {P : Program} {K : GL}
theorem FnOk.sub {f : FuncId} {args us : List AV} {pre post : List (Nat × HS)} {ret : AV} (hc : FnOk P K f args pre ret post) (hs : Subs us args) : FnOk P K f us pre ret post := fun C E vs a b c d e k => hc C E vs a b c d e (hs.rels k)
theorem rna {r : Nat → Nat} {cs : List D} : renA r (.agg (cs.map .data)) = .agg (cs.map .data) := by simp only [renA, renAs_data]
theorem SA.sub {t : List (Nat × AV)} {h : List (Nat × HS)} {o : Oper} {rT : List (Nat × AV)} {rH wH : List (Nat × HS)} {x y : AV} (a : SA P K t h o rT rH x wH) (hs : Sub x y) : SA P K t h o rT rH y wH := by
  refine ⟨fun C s ac w hK hT hH hd hsat => ?_, a.t, a.h⟩
  refine Oper.wp_mono (fun a' w' ⟨hdf, hsz, E, hO, hR⟩ => ⟨hdf, hsz, E, hO, fun i => ?_⟩) (a.act C s ac w hK hT hH hd hsat)
  have := hR i
  cases hdst : o.dst with
  | none => rw [hdst] at this; exact this
  | some d =>
    rw [hdst] at this
    simp only [putT, lkT] at this ⊢
    split
    · rename_i e; rw [if_pos e] at this; exact hs _ _ this
    · rename_i e; rw [if_neg e] at this; exact this
theorem c_cf {nt np : Nat} {s : St} {Q : Exit → St → Prop} {x y : Code} (k : WC P K nt np y s Q) : WC P K nt np (.cond (.const (.bool false)) x y) s Q := fun C h1 h2 h3 r a w hs => wpIn_cond_split (t := false) rfl (fun e => by cases e) (fun _ => k C h1 h2 h3 r a w hs)
section
variable {dst : Option Tmp} {ty : TypeId} {pos : String} {after : Array Edge} {g : Option (Nat × Bool)} {t : List (Nat × AV)} {h : List (Nat × HS)}
theorem pv_max3 {x y z : Operand} {ats : Array TypeId} {k : IntKind} {p q r : Int} (hx : OV x (aN k p)) (hy : OV y (aN k q)) (hz : OV z (aN k r)) :
    PV P K ⟨dst, .call { callee := .builtin .max, args := #[x, y, z], argTypes := ats }, ty, pos, after, g⟩ (rdO x (aN k p) ++ (rdO y (aN k q) ++ rdO z (aN k r))) [] (aN k (max (max p q) r)) := by
  intro E a w _ _ hT _
  have hT' := relT_append.1 hT
  have hT2 := relT_append.1 hT'.2
  have e1 := lit_eq (rdO_rel hT'.1 hx)
  have e2 := lit_eq (rdO_rel hT2.1 hy)
  have e3 := lit_eq (rdO_rel hT2.2 hz)
  have m2 : ∀ a b : Int, (if b > a then b else a) = max a b := fun a b => by
    rw [Int.max_def]; split <;> split <;> omega
  refine ⟨.int k (max (max p q) r), ?_, rfl, rfl⟩
  simp [execOp, resolve, invoke, builtin, Builtin.max_, Builtin.max2, e1, e2, e3, m2]
theorem p_max3 {x y z : Operand} {ats : Array TypeId} {k : IntKind} {p q r : Int} (hx : rd t x = some (aN k p)) (hy : rd t y = some (aN k q)) (hz : rd t z = some (aN k r)) : SA P K t h ⟨dst, .call { callee := .builtin .max, args := #[x, y, z], argTypes := ats }, ty, pos, after, g⟩ (rdO x (aN k p) ++ (rdO y (aN k q) ++ rdO z (aN k r))) [] (aN k (max (max p q) r)) [] :=
  ⟨(pv_max3 (rd_c hx).1 (rd_c hy).1 (rd_c hz).1).lact, chkT_ap2 (rd_c hx).2 (chkT_ap2 (rd_c hy).2 (rd_c hz).2), trivial⟩
def bStr (l : List Int) : ByteArray := ⟨(l.map fun n => UInt8.ofNat n.toNat).toArray⟩
theorem run_cvb {s d e : TypeId} {w : World} {ad : Addr} {n cap : Nat} {l : List Int} (hs : P.underlying s = some (.slice e)) (he : P.underlying e = some (.int .u8)) (hd : P.underlying d = some .string) (hn : l.length = n)
    (hc : ∀ (j : Nat) (u : Value), (l.map (Value.int .u8))[j]? = some u → w.cell? (ad.add j) = some u) : (convert s d (.slice (some ad) n cap)).run P w = .ok (.string (bStr l)) w := by
  have hl : (loadCells ad n).run P w = .ok (l.map (Value.int .u8)).toArray w := by
    have := run_loadCells_list (P := P) w ad (l.map (Value.int .u8)) hc
    simpa [hn] using this
  rw [run_convert_bytes_string w s d e _ n cap hs he hd, run_bytesToString w _ n cap l hl, foldl_push_bytes]
  simp [bStr, ByteArray.empty, ByteArray.emptyWithCapacity]
  rfl
theorem p_cvB {s d e : TypeId} {x : Operand} {l : List Int} (hs : P.underlying s = some (.slice e)) (he : P.underlying e = some (.int .u8)) (hd : P.underlying d = some .string) (hx : rd t x = some (aL 1 (eN .u8) l)) :
    SA P K t h ⟨dst, .convert s d x, ty, pos, after, g⟩ (rdO x (aL 1 (eN .u8) l)) [] (aS (bStr l)) [] := .pv1 hx fun a => by
  intro E a w hfz _ hT _
  obtain ⟨A, cap, ev, h1, h2, hr⟩ := rdO_rel hT (rd_c hx).1
  refine ⟨.string (bStr l), ?_, rfl, rfl⟩
  have key : (convert s d (.slice A (l.map (eN .u8)).length cap)).run P w = .ok (.string (bStr l)) w := by
    cases l with
    | nil =>
      cases A with
      | none => exact run_convert_bytes_nil w s e hs he 0 cap d hd
      | some ad => exact run_cvb hs he hd rfl (fun j u hj => by simp at hj)
    | cons n l =>
      obtain ⟨ad, rfl, hra⟩ := hr (by simp)
      refine run_cvb hs he hd (by simp) (fun j u hj => ?_)
      rw [List.getElem?_map] at hj
      obtain ⟨m, hm, rfl⟩ := Option.map_eq_some_iff.1 hj
      obtain ⟨hlen, hcs⟩ := hra j (eN .u8 m) (by rw [List.getElem?_map, hm]; rfl)
      obtain ⟨u, hu, hd'⟩ := hcs 0 _ rfl
      rw [add_add, Nat.mul_one, Nat.add_zero] at hu
      rw [fcell_world hfz hu, hd'.1]
  simp only [execOp, ev, Sem.run_bind, key, Result.andThen_ok, Sem.run_pure]
end
end Go.Proofs.YtgmpgoafokdcbaaGreatDoor.Sx
