/- Plain functions and their proofs, part 3: what the functions of the given program compute; printed by a program of this repo (dxmake.py). -/
import Derived.Test.YtgmpgoafokdcbaaGreatDoorO1
import Derived.Test.YtgmpgoafokdcbaaGreatDoorProg
set_option linter.unusedVariables false
set_option linter.unusedSimpArgs false
set_option maxRecDepth 100000
set_option maxHeartbeats 4000000
namespace Go.Proofs.YtgmpgoafokdcbaaGreatDoor.Sx
open Go Go.RowKit
def cycle_Legal_k2 : Bool → Option (Bool × Int)
  | v12 =>
    some (v12, 0)
def cycle_Legal_k4 (v14 : Int) (rec3 : Bool × Int → Option (Bool × Int)) : Bool → Option (Bool × Int)
  | v16 =>
    rec3 ((v16, w64 (v14 + 1)))
def cycle_Legal_k5 (r1 : core_Core) (k2 : Bool → Option (Bool × Int)) (k4 : Bool → Option (Bool × Int)) (r17 : MachOp) : Bool × Int → Option (Bool × Int)
  | (v19, v20) =>
    (ix r1.Machine.Instrs r17.Instr).bind fun r21 =>
    (ix r1.Machine.Units r21.Unit).bind fun r23 =>
    bif decide (r23.Count < v20) then k2 false else k4 v19
def cycle_Legal_k7 (v29 : Int) (rec6 : Bool × Int × Int → Option (Bool × Int)) : Bool × Int → Option (Bool × Int)
  | (v31, v32) =>
    rec6 ((v31, v32, w64 (v29 + 1)))
def cycle_Legal_b6 (x1 : List MachOp) (x2 : List Int) (r1 : core_Core) (v11 : List Touch) (k2 : Bool → Option (Bool × Int)) (v14 : Int) (r17 : MachOp) (k5 : Bool × Int → Option (Bool × Int)) (rec6 : Bool × Int × Int → Option (Bool × Int)) : Bool × Int × Int → Option (Bool × Int)
  | (v27, v28, v29) =>
    bif decide (v29 < (((lSub x1 0 v14).length : Int))) then
      jn (cycle_Legal_k7 v29 rec6) fun k7 =>
      (ix (lSub x1 0 v14) v29).bind fun r33 =>
      (ix r1.Machine.Instrs r33.Instr).bind fun r35 =>
      (bif (true && ((v29 == (w64 (v14 - 1))) == true)) then ix v11 v29 else some default).bind fun r37 =>
      (bif (true && (((v29 == (w64 (v14 - 1))) && r37.Jumps) == true)) then ix x2 v14 else some default).bind fun r39 =>
      (bif (true && (((v29 == (w64 (v14 - 1))) && r37.Jumps) == true)) then ix x2 v29 else some default).bind fun r41 =>
      (bif (true && ((((v29 == (w64 (v14 - 1))) && r37.Jumps) && (r39 == r41)) == false)) then ix v11 v29 else some default).bind fun r43 =>
      (bif (true && ((((v29 == (w64 (v14 - 1))) && r37.Jumps) && (r39 == r41)) == false)) then ix v11 v14 else some default).bind fun r45 =>
      (bif (true && ((((v29 == (w64 (v14 - 1))) && r37.Jumps) && (r39 == r41)) == false)) then core_Waits r43 r45 else some default).bind fun r47 =>
      (bif ((true && ((((v29 == (w64 (v14 - 1))) && r37.Jumps) && (r39 == r41)) == false)) && (r47 == true)) then ix x2 v14 else some default).bind fun r49 =>
      (bif ((true && ((((v29 == (w64 (v14 - 1))) && r37.Jumps) && (r39 == r41)) == false)) && (r47 == true)) then ix x2 v29 else some default).bind fun r51 =>
      bif (((v29 == (w64 (v14 - 1))) && r37.Jumps) && (r39 == r41)) || (r47 && (decide (r49 < (w64 (r51 + r35.Latency))))) then
        k2 false
      else
        (ix r1.Machine.Instrs r17.Instr).bind fun r54 =>
        (bif (true && ((r35.Unit == r54.Unit) == true)) then ix x2 v29 else some default).bind fun r56 =>
        (bif (true && ((r35.Unit == r54.Unit) == true)) then ix x2 v14 else some default).bind fun r58 =>
        bif (r35.Unit == r54.Unit) && (decide (r58 < (w64 (r56 + r35.Busy)))) then k7 ((v27, w64 (v28 + 1))) else k7 (v27, v28)
    else
      k5 (v27, v28)
def cycle_Legal_b3 (x1 : List MachOp) (x2 : List Int) (r1 : core_Core) (v11 : List Touch) (k2 : Bool → Option (Bool × Int)) (rec3 : Bool × Int → Option (Bool × Int)) : Bool × Int → Option (Bool × Int)
  | (v13, v14) =>
    bif decide (v14 < (x1.length : Int)) then
      jn (cycle_Legal_k4 v14 rec3) fun k4 =>
      (ix x1 v14).bind fun r17 =>
      jn (cycle_Legal_k5 r1 k2 k4 r17) fun k5 =>
      asr (subOk 0 v14 x1.length) <|
      lp (cycle_Legal_b6 x1 x2 r1 v11 k2 v14 r17 k5) ((lSub x1 0 v14).length + 1) (v13, 1, 0)
    else
      k2 v13
def cycle_Legal_k1 (x1 : List MachOp) (x2 : List Int) (r1 : core_Core) : (List Touch) → Option (Bool × Int)
  | v11 =>
    jn cycle_Legal_k2 fun k2 =>
    lp (cycle_Legal_b3 x1 x2 r1 v11 k2) (x1.length + 1) (true, 0)
def cycle_Legal_b8 (x1 : List MachOp) (r1 : core_Core) (k1 : (List Touch) → Option (Bool × Int)) (rec8 : Int × (List Touch) → Option (Bool × Int)) : Int × (List Touch) → Option (Bool × Int)
  | (v61, v62) =>
    bif decide (v61 < (x1.length : Int)) then
      (ix x1 v61).bind fun r64 =>
      (core_Core_Touch r1 r64).bind fun r66 =>
      (ix v62 v61).bind fun r68 =>
      rec8 ((w64 (v61 + 1), v62.set v61.toNat r66))
    else
      k1 v62
def cycle_Legal (x0 : Machine) (x1 : List MachOp) (x2 : List Int) : Option (Bool × Int) :=
  (cycle_list x0 x1).bind fun r1 =>
  cs2 r1 (fun r1 =>
    bif r1 != 0 then
      some (false, r1)
    else none) fun r1 =>
    bif (x2.length : Int) != (x1.length : Int) then
      some (false, 2)
    else
      (cycle_all_int x2).bind fun r5 =>
      (bif (true && ((!r5) == false)) then slices_IsSorted_int_int x2 else some default).bind fun r7 =>
      bif (!r5) || (!r7) then
        some (false, 0)
      else
        asr (mkOk (x1.length : Int) 56) <|
        jn (cycle_Legal_k1 x1 x2 r1) fun k1 =>
        lp (cycle_Legal_b8 x1 r1 k1) (x1.length + 1) ((0, List.replicate (x1.length : Int).toNat (Touch.mk ([] : List Int) ([] : List Int) false false false false false)))
theorem cycle_Legal_ok {x0 : Machine} {x1 : List MachOp} {x2 : List Int} {R : Bool × Int} (H : cycle_Legal x0 x1 x2 = some R) : FnOk Tryz.prog K0 15 [(aA (encMachine x0)), (aL 2 encMachOp x1), (aL 1 (eN .i64) x2)] [] (.tup [(aT R.1), (aN .i64 R.2)]) [] := by
  refine fn_w (nt := 185) (np := 0) Tryz.func15 z z (by simp) (np_of2 z) <| ?_
  unfold cycle_Legal at H
  refine sgr z <| lh (p_bx 0 z q z) z <| la z z <| la z z <| ne <| wc_scope <| sgr z <| l (p_ldB (ds := (encMachine x0).map .data) ty_27 z z z z) z <| lm z z <| ?_
  obtain ⟨r1, e2, H⟩ := ob H
  rcases r1 with r1 | r1
  · replace H := csl H
    refine l (p_c (cycle_list_okL e2) ent_32 z z z) z <| lm z z <| l (p_ex z z) z <| l (p_ex z z) z <| la z z <| la z z <| ne <| wc_seq <| wc_block <| sgr z <| lm z z <| l (p_neq z z) z <| la z z <| ne <| ?_
    rcases cn H with ⟨b3, H⟩ | ⟨b3, H⟩
    · refine c_t z b3 ?_
      refine sgr z <| lm z z <| la z z <| la z z <| ne <| wc_ret <| ?_
      refine e_br (e_tr (e_sr ?_))
      obtain rfl := sm H
      exact fin (Or.inr z) (rs1 (rv z) (rs1 (rv z) rs0)) (re2 [] ⟨.dat, ⟨.dat, q⟩⟩ z h0)
    cases H
  replace H := csr H
  refine l (p_c (cycle_list_okR e2) ent_32 z z z) z <| lm z z <| l (p_ex z z) z <| l (p_ex z z) z <| la z z <| la z z <| ne <| wc_seq <| wc_block <| sgr z <| lm z z <| l (p_neq z z) z <| la z z <| ne <| c_f z z <| sgr z <| lm z z <| l (p_lenL Tryz.underlying29 z) z <| lm z z <| l (p_lenL Tryz.underlying46 z) z <| l (p_neq z z) z <| la z z <| ne <| ?_
  rcases cn H with ⟨b4, H⟩ | ⟨b4, H⟩
  · refine c_t z b4 ?_
    refine sgr z <| la z z <| la z z <| ne <| wc_ret <| ?_
    refine e_br (e_tr (e_sr ?_))
    obtain rfl := sm H
    exact fin (Or.inr z) (rs1 (rv z) (rs1 (rv z) rs0)) (re2 [] ⟨.dat, ⟨.dat, q⟩⟩ z h0)
  refine c_f z b4 <| wc_skip <| ?_
  refine e_bn (e_n ?_)
  refine wc_seq <| sgr z <| lm z z <| ?_
  obtain ⟨r5, e6, H⟩ := ob H
  refine l (p_c (cycle_all_int_ok e6) ent_34 z z z) z <| l (p_not z) z <| lm z z <| lw z (Grd.plain _) z [2] z (s1 strip_same s0) (fun hw => p_mv z) ⟨z, q⟩ (by exact q) z z <| ?_
  obtain ⟨r7, e8, H⟩ := ob H
  refine lw z (Grd.plain _) z [40] z (s1 (strip_when id) s0) (fun hw => p_c (slices_IsSorted_int_int_ok (bt hw e8)) ent_36 z z z) ⟨z, q⟩ (by exact q) z z <| lw z (Grd.plain _) z [41] z (s1 (strip_when id) s0) (fun hw => p_not z) ⟨z, q⟩ (by exact q) z z <| l (p_pkO z z q (strip_when (wf))) z <| ne <| ?_
  rcases cn H with ⟨b9, H⟩ | ⟨b9, H⟩
  · refine c_t z b9 ?_
    refine sgr z <| la z z <| la z z <| ne <| wc_ret <| ?_
    refine e_tr (e_sr ?_)
    obtain rfl := sm H
    exact fin (Or.inr z) (rs1 (rv z) (rs1 (rv z) rs0)) (re2 [] ⟨.dat, ⟨.dat, q⟩⟩ z h0)
  refine c_f z b9 <| se <| sgr z <| lm z z <| l (p_lenL Tryz.underlying46 z) z <| ?_
  obtain ⟨e10, H⟩ := as_ H
  refine lh (p_mk (f := encTouch) (z0 := (Touch.mk ([] : List Int) ([] : List Int) false false false false false)) 1 Tryz.underlying82 el_85 zr_85 (zdn (zdn (zdl z (zdl z (zdl z (zdl z (zdl z zd0))))))) z z e10 z) z <| la z z <| ne <| ?_
  refine w_jn1 H (fun v11 => ⟨[(1, (aL 2 encMachOp x1)), (2, (aL 1 (eN .i64) x2)), (8, (aP ((enccore_Core r1).drop 0))), (10, (.row 1))], [(1, (oR 85 7 encTouch v11))]⟩) ?_ ?_
  · intro v11 H
    rw [cycle_Legal_k1] at H
    refine sgr z <| la z z <| ne <| wc_seq <| wc_label <| e_n <| ?_
    refine w_jn1 H (fun v12 => ⟨[(13, (aT v12))], []⟩) ?_ ?_
    · intro v12 H
      rw [cycle_Legal_k2] at H
      refine sgr z <| lm z z <| la z z <| la z z <| ne <| wc_ret <| e_sr <| ?_
      obtain rfl := sm H
      exact fin (Or.inr z) (rs1 (rv z) (rs1 (rv z) rs0)) (re2 [] ⟨.dat, ⟨.dat, q⟩⟩ z h0)
    intro H
    refine sgr z <| lm z z <| l (p_lenL Tryz.underlying46 z) z <| lm z z <| ne <| wc_block <| w_lp2 H (fun v13 v14 => ⟨[(1, (aL 2 encMachOp x1)), (2, (aL 1 (eN .i64) x2)), (8, (aP ((enccore_Core r1).drop 0))), (10, (.row 1)), (13, (aT v13)), (61, (aL 2 encMachOp x1)), (62, (aN .i64 (x1.length : Int))), (63, (aN .i64 v14))], [(1, (oR 85 7 encTouch v11))]⟩) (en [(1, 1)] (wd z (wd z (wd z (ws z z z (wd z (wd z (wd z (wd z w0)))))))) z (hr z h0)) <| ?_
    intro n3 v13 v14 H
    rw [cycle_Legal_b3] at H
    refine sgr z <| l (p_lss z z) z <| ne <| wc_seq <| ?_
    rcases cn H with ⟨b15, H⟩ | ⟨b15, H⟩
    · refine c_t z b15 ?_
      refine se <| ?_
      refine w_jn1 H (fun v16 => ⟨[(1, (aL 2 encMachOp x1)), (2, (aL 1 (eN .i64) x2)), (8, (aP ((enccore_Core r1).drop 0))), (10, (.row 1)), (13, (aT v16)), (61, (aL 2 encMachOp x1)), (62, (aN .i64 (x1.length : Int))), (63, (aN .i64 v14))], [(1, (oR 85 7 encTouch v11))]⟩) ?_ ?_
      · intro v16 H
        rw [cycle_Legal_k4] at H
        refine wc_region z <| l (p_add z z) z <| lm z z <| ne <| ?_
        exact ⟨v16, w64 (v14 + 1), H, en [(1, 1)] (wd z (wd z (wd z (ws z z z (wd z (wd z (wd z (wd z w0)))))))) z (hr z h0)⟩
      intro H
      refine wc_block <| sgr z <| lm z z <| ?_
      obtain ⟨r17, e18, H⟩ := ob H
      refine l (p_ixL Tryz.underlying46 ty_31.size z z e18) z <| l (p_ldA (ds := encMachOp r17) ty_31 z z z) z <| lh (p_al 6 zr_31 z) z <| la z z <| l0h (p_stA (ds := (encMachOp r17).map .data) ty_31 z z z z z z) <| ne <| sgr z <| la z z <| ne <| ?_
      refine w_jn2 H (fun v19 v20 => ⟨[(1, (aL 2 encMachOp x1)), (2, (aL 1 (eN .i64) x2)), (8, (aP ((enccore_Core r1).drop 0))), (10, (.row 1)), (13, (aT v19)), (15, (.ptr 6 0)), (16, (aN .i64 v20)), (61, (aL 2 encMachOp x1)), (62, (aN .i64 (x1.length : Int))), (63, (aN .i64 v14))], [(1, (oR 85 7 encTouch v11)), (6, (oD 31 (encMachOp r17)))]⟩) ?_ ?_
      · intro v19 v20 H
        rw [cycle_Legal_k5] at H
        refine wc_seq <| wc_draw [0, 0, 2, 6, 14, 30, 0, 64, 192, 448, 960, 0, 2048, 8128, 16320, 32704, 65534, 131070, 262142, 524287] mixed z <| dm z z <| dm z z <| dr (p_nlP z) z <| dr (p_fdP fld_89_0 z) z <| dr (p_fdP fld_27_5 z) z <| dr (p_ldP ty_24 z z) z <| dm z z <| dr (p_nlP z) z <| dr (p_fdP fld_89_0 z) z <| dr (p_fdP fld_27_6 z) z <| dr (p_ldP ty_25 z z) z <| dr (p_fd fld_31_0 z) z <| dr (p_ld ty_3 z z z) z <| ?_
        obtain ⟨r21, e22, H⟩ := ob H
        refine dr (p_ixL Tryz.underlying25 ty_61.size z z e22) z <| dr (p_fdP fld_61_5 z) z <| dr (p_ldP ty_3 z z) z <| ?_
        obtain ⟨r23, e24, H⟩ := ob H
        refine dr (p_ixL Tryz.underlying24 ty_92.size z z e24) z <| dr (p_fdP fld_92_1 z) z <| dr (p_ldP ty_3 z z) z <| dr (p_gtr z z) z <| ?_
        refine wd_nil ?_ (by kernel_rfl)
        refine e_n <| ?_
        rcases cn H with ⟨b25, H⟩ | ⟨b25, H⟩
        · refine c_t z b25 ?_
          refine sgr z <| la z z <| ne <| wc_exit <| ?_
          refine e_p z (e_te (e_te (e_h (e_n ?_))))
          exact ⟨false, H, en [] (wd z w0) z h0⟩
        refine c_f z b25 <| wc_skip <| ?_
        refine e_bn (e_n ?_)
        exact ⟨v19, H, en [(1, 1)] (wd z (wd z (wd z (ws z z z (wd z (wd z (wd z (wd z w0)))))))) z (hr z h0)⟩
      intro H
      refine sgr z <| lm z z <| lm z z <| ?_
      obtain ⟨e26, H⟩ := as_ H
      refine l (p_slL Tryz.underlying46 ty_31.size z .no (.yes z) e26) z <| l (p_lenL Tryz.underlying46 z) z <| lm z z <| ne <| wc_block <| w_lp3 H (fun v27 v28 v29 => ⟨[(1, (aL 2 encMachOp x1)), (2, (aL 1 (eN .i64) x2)), (8, (aP ((enccore_Core r1).drop 0))), (10, (.row 1)), (13, (aT v27)), (14, (aN .i64 v14)), (15, (.ptr 6 0)), (16, (aN .i64 v28)), (61, (aL 2 encMachOp x1)), (62, (aN .i64 (x1.length : Int))), (63, (aN .i64 v14)), (70, (aL 2 encMachOp (lSub x1 0 v14))), (71, (aN .i64 (((lSub x1 0 v14).length : Int)))), (72, (aN .i64 v29))], [(1, (oR 85 7 encTouch v11)), (6, (oD 31 (encMachOp r17)))]⟩) (en [(1, 1), (6, 6)] (wd z (wd z (wd z (ws z z z (wd z (wd z (ws z z z (wd z (wd z (wd z (wd z (wd z (wd z (wd z w0)))))))))))))) z (hr z (hc z h0))) <| ?_
      intro n6 v27 v28 v29 H
      rw [cycle_Legal_b6] at H
      refine sgr z <| l (p_lss z z) z <| ne <| wc_seq <| ?_
      rcases cn H with ⟨b30, H⟩ | ⟨b30, H⟩
      · refine c_t z b30 ?_
        refine se <| ?_
        refine w_jn2 H (fun v31 v32 => ⟨[(1, (aL 2 encMachOp x1)), (2, (aL 1 (eN .i64) x2)), (8, (aP ((enccore_Core r1).drop 0))), (10, (.row 1)), (13, (aT v31)), (14, (aN .i64 v14)), (15, (.ptr 6 0)), (16, (aN .i64 v32)), (61, (aL 2 encMachOp x1)), (62, (aN .i64 (x1.length : Int))), (63, (aN .i64 v14)), (70, (aL 2 encMachOp (lSub x1 0 v14))), (71, (aN .i64 (((lSub x1 0 v14).length : Int)))), (72, (aN .i64 v29))], [(1, (oR 85 7 encTouch v11)), (6, (oD 31 (encMachOp r17)))]⟩) ?_ ?_
        · intro v31 v32 H
          rw [cycle_Legal_k7] at H
          refine wc_region z <| l (p_add z z) z <| lm z z <| ne <| ?_
          exact ⟨v31, v32, w64 (v29 + 1), H, en [(1, 1), (6, 6)] (wd z (wd z (wd z (ws z z z (wd z (wd z (ws z z z (wd z (wd z (wd z (wd z (wd z (wd z (wd z w0)))))))))))))) z (hr z (hc z h0))⟩
        intro H
        refine wc_block <| sgr z <| lm z z <| ?_
        obtain ⟨r33, e34, H⟩ := ob H
        refine l (p_ixL Tryz.underlying46 ty_31.size z z e34) z <| l (p_ldA (ds := encMachOp r33) ty_31 z z z) z <| lh (p_al 9 zr_31 z) z <| la z z <| l0h (p_stA (ds := (encMachOp r33).map .data) ty_31 z z z z z z) <| ne <| wc_seq <| wc_draw [0, 1, 3, 7, 15, 0, 32, 127, 255, 0, 1023] mixed z <| dm z z <| dr (p_nlP z) z <| dr (p_fdP fld_89_0 z) z <| dr (p_fdP fld_27_6 z) z <| dr (p_ldP ty_25 z z) z <| dr (p_fd fld_31_0 z) z <| dr (p_ld ty_3 z z z) z <| ?_
        obtain ⟨r35, e36, H⟩ := ob H
        refine dr (p_ixL Tryz.underlying25 ty_61.size z z e36) z <| dr (p_ldA (ds := encMachInstr r35) ty_61 z z z) z <| drh (p_al 10 zr_61 z) z <| dr0h (p_stA (ds := (encMachInstr r35).map .data) ty_61 z z z z z z) <| ?_
        refine wd_nil ?_ (by kernel_rfl)
        refine e_n <| wc_seq <| wc_seq <| wc_draw [0, 0, 2, 7, 15, 31, 31, 127, 255, 511, 1023, 2047, 4095, 4095, 16383, 32767, 4095, 4095, 200703, 462847, 1048575, 2097151, 4194303, 8388607, 8388607, 33554431, 67108863, 8388607, 8388607, 411041791, 947912703, 2147483647, 4294967295, 8589934591, 8589934591, 34359738367, 68719476735, 8589934591, 8589934591, 420906795007, 970662608895, 8589934591, 2207613190143, 8667244003327, 17592186044415, 35184372088831, 70368744177663] mixed z <| dm z z <| dm z z <| dr (p_sub z z) z <| dr (p_eql z z) z <| dm z z <| dw z (Grd.plain _) z [10] z (s1 strip_same s0) (fun hw => p_mv z) ⟨z, q⟩ (by exact q) z <| dw z (Grd.plain _) z [17] z (s1 strip_same s0) (fun hw => p_mv z) ⟨z, q⟩ (by exact q) z <| ?_
        obtain ⟨r37, e38, H⟩ := ob H
        refine dw z (Grd.plain _) z [91, 92] z (s1 (strip_when id) (s1 (strip_when id) s0)) (fun hw => p_ixR Tryz.underlying82 ty_85.size z z z (bt hw e38)) ⟨z, ⟨z, q⟩⟩ (by exact ⟨z, q⟩) z <| dw z (Grd.plain _) z [93] z (s1 (strip_when id) s0) (fun hw => p_fdR fld_85_4 z) ⟨z, q⟩ (by exact q) z <| dw z (Grd.plain _) z [94] z (s1 (strip_when id) s0) (fun hw => p_ldR (n := v29) (j := 4) (sz := 7) (k := 1) (r := r37) (f := encTouch) (fun _ => z) ty_4 z z (bt hw e38) z) ⟨z, q⟩ (by exact ⟨z, q⟩) z <| dr (p_pkA z z q (strip_when (wt))) z <| dm z z <| dw z (Grd.plain _) z [2] z (s1 strip_same s0) (fun hw => p_mv z) ⟨z, q⟩ (by exact q) z <| dw z (Grd.plain _) z [14] z (s1 strip_same s0) (fun hw => p_mv z) ⟨z, q⟩ (by exact q) z <| ?_
        obtain ⟨r39, e40, H⟩ := ob H
        refine dw z (Grd.plain _) z [98, 99] z (s1 (strip_when id) (s1 (strip_when id) s0)) (fun hw => p_ixL Tryz.underlying29 ty_3.size z z (bt hw e40)) ⟨z, ⟨z, q⟩⟩ (by exact q) z <| dw z (Grd.plain _) z [100] z (s1 (strip_when id) s0) (fun hw => p_ldP ty_3 z z) ⟨z, q⟩ (by exact q) z <| dw z (Grd.plain _) z [2] z (s1 strip_same s0) (fun hw => p_mv z) ⟨z, q⟩ (by exact q) z <| dw z (Grd.plain _) z [17] z (s1 strip_same s0) (fun hw => p_mv z) ⟨z, q⟩ (by exact q) z <| ?_
        obtain ⟨r41, e42, H⟩ := ob H
        refine dw z (Grd.plain _) z [102, 103] z (s1 (strip_when id) (s1 (strip_when id) s0)) (fun hw => p_ixL Tryz.underlying29 ty_3.size z z (bt hw e42)) ⟨z, ⟨z, q⟩⟩ (by exact q) z <| dw z (Grd.plain _) z [104] z (s1 (strip_when id) s0) (fun hw => p_ldP ty_3 z z) ⟨z, q⟩ (by exact q) z <| dw z (Grd.plain _) z [101, 105] z (s1 (strip_when id) (s1 (strip_when id) s0)) (fun hw => p_eql z z) ⟨z, ⟨z, q⟩⟩ (by exact q) z <| dr (p_pkA z z q (strip_when (wt))) z <| dm z z <| dw z (Grd.plain _) z [10] z (s1 strip_same s0) (fun hw => p_mv z) ⟨z, q⟩ (by exact q) z <| dw z (Grd.plain _) z [17] z (s1 strip_same s0) (fun hw => p_mv z) ⟨z, q⟩ (by exact q) z <| ?_
        obtain ⟨r43, e44, H⟩ := ob H
        refine dw z (Grd.plain _) z [109, 110] z (s1 (strip_when id) (s1 (strip_when id) s0)) (fun hw => p_ixR Tryz.underlying82 ty_85.size z z z (bt hw e44)) ⟨z, ⟨z, q⟩⟩ (by exact ⟨z, q⟩) z <| dw z (Grd.plain _) z [111] z (s1 (strip_when id) s0) (fun hw => p_ldRA (ds := encTouch r43) (n := v29) (j := 0) (sz := 7) (k := 1) (r := r43) (f := encTouch) (fun _ => z) ty_85 z z (bt hw e44) z z) ⟨z, q⟩ (by exact ⟨z, q⟩) z <| dw z (Grd.plain _) z [10] z (s1 strip_same s0) (fun hw => p_mv z) ⟨z, q⟩ (by exact q) z <| dw z (Grd.plain _) z [14] z (s1 strip_same s0) (fun hw => p_mv z) ⟨z, q⟩ (by exact q) z <| ?_
        obtain ⟨r45, e46, H⟩ := ob H
        refine dw z (Grd.plain _) z [113, 114] z (s1 (strip_when id) (s1 (strip_when id) s0)) (fun hw => p_ixR Tryz.underlying82 ty_85.size z z z (bt hw e46)) ⟨z, ⟨z, q⟩⟩ (by exact ⟨z, q⟩) z <| dw z (Grd.plain _) z [115] z (s1 (strip_when id) s0) (fun hw => p_ldRA (ds := encTouch r45) (n := v14) (j := 0) (sz := 7) (k := 1) (r := r45) (f := encTouch) (fun _ => z) ty_85 z z (bt hw e46) z z) ⟨z, q⟩ (by exact ⟨z, q⟩) z <| ?_
        obtain ⟨r47, e48, H⟩ := ob H
        refine dw z (Grd.plain _) z [112, 116] z (s1 (strip_when id) (s1 (strip_when id) s0)) (fun hw => p_c (core_Waits_ok (bt hw e48)) ent_38 z z z) ⟨z, ⟨z, q⟩⟩ (by exact q) z <| dw z (Grd.plain _) z [117] z (s1 (strip_when id) s0) (fun hw => p_mv z) ⟨z, q⟩ (by exact q) z <| dw z (Grd.under _ _) z [2] z (s1 strip_same s0) (fun hw => p_mv z) ⟨z, q⟩ (by exact q) z <| dw z (Grd.under _ _) z [14] z (s1 strip_same s0) (fun hw => p_mv z) ⟨z, q⟩ (by exact q) z <| ?_
        obtain ⟨r49, e50, H⟩ := ob H
        refine dw z (Grd.under _ _) z [119, 120] z (s1 (strip_when id) (s1 (strip_when id) s0)) (fun hw => p_ixL Tryz.underlying29 ty_3.size z z (bt hw e50)) ⟨z, ⟨z, q⟩⟩ (by exact q) z <| dw z (Grd.under _ _) z [121] z (s1 (strip_when id) s0) (fun hw => p_ldP ty_3 z z) ⟨z, q⟩ (by exact q) z <| dw z (Grd.under _ _) z [2] z (s1 strip_same s0) (fun hw => p_mv z) ⟨z, q⟩ (by exact q) z <| dw z (Grd.under _ _) z [17] z (s1 strip_same s0) (fun hw => p_mv z) ⟨z, q⟩ (by exact q) z <| ?_
        obtain ⟨r51, e52, H⟩ := ob H
        refine dw z (Grd.under _ _) z [123, 124] z (s1 (strip_when id) (s1 (strip_when id) s0)) (fun hw => p_ixL Tryz.underlying29 ty_3.size z z (bt hw e52)) ⟨z, ⟨z, q⟩⟩ (by exact q) z <| dw z (Grd.under _ _) z [125] z (s1 (strip_when id) s0) (fun hw => p_ldP ty_3 z z) ⟨z, q⟩ (by exact q) z <| dw z (Grd.under _ _) z [19] z (s1 strip_same s0) (fun hw => p_fd fld_61_7 z) ⟨z, q⟩ (by exact q) z <| dw z (Grd.under _ _) z [127] z (s1 (strip_when id) s0) (fun hw => p_ld ty_3 z z z) ⟨z, q⟩ (by exact ⟨z, q⟩) z <| dw z (Grd.under _ _) z [126, 128] z (s1 (strip_when id) (s1 (strip_when id) s0)) (fun hw => p_add z z) ⟨z, ⟨z, q⟩⟩ (by exact q) z <| dw z (Grd.under _ _) z [122, 129] z (s1 (strip_when id) (s1 (strip_when id) s0)) (fun hw => p_lss z z) ⟨z, ⟨z, q⟩⟩ (by exact q) z <| dw z (Grd.plain _) z [118, 130] z (s1 (strip_when id) (s1 strip_same s0)) (fun hw => p_pkA z z q (strip_when (wtc hw))) ⟨z, ⟨z, q⟩⟩ (by exact q) z <| dr (p_pkO z z q (strip_when (wf))) z <| ?_
        refine wd_nil ?_ (by kernel_rfl)
        refine e_n <| ?_
        rcases cn H with ⟨b53, H⟩ | ⟨b53, H⟩
        · refine c_t z b53 ?_
          refine sgr z <| la z z <| ne <| wc_exit <| ?_
          refine e_te (e_p z (e_te (e_te (e_p z (e_te (e_p z (e_te (e_te (e_h (e_n ?_))))))))))
          exact ⟨false, H, en [] (wd z w0) z h0⟩
        refine c_f z b53 <| se <| wc_seq <| wc_draw [0, 1, 0, 4, 12, 28, 60, 0, 128, 508, 1020, 2044, 4095, 8191, 16383, 16383, 65535, 131071, 16383, 278527, 1048575, 16383, 16383, 6307839, 14696447, 33554431, 67108863] mixed z <| dr (p_fd fld_61_5 z) z <| dr (p_ld ty_3 z z z) z <| dm z z <| dr (p_nlP z) z <| dr (p_fdP fld_89_0 z) z <| dr (p_fdP fld_27_6 z) z <| dr (p_ldP ty_25 z z) z <| dr (p_fd fld_31_0 z) z <| dr (p_ld ty_3 z z z) z <| ?_
        obtain ⟨r54, e55, H⟩ := ob H
        refine dr (p_ixL Tryz.underlying25 ty_61.size z z e55) z <| dr (p_fdP fld_61_5 z) z <| dr (p_ldP ty_3 z z) z <| dr (p_eql z z) z <| dm z z <| dw z (Grd.plain _) z [2] z (s1 strip_same s0) (fun hw => p_mv z) ⟨z, q⟩ (by exact q) z <| dw z (Grd.plain _) z [17] z (s1 strip_same s0) (fun hw => p_mv z) ⟨z, q⟩ (by exact q) z <| ?_
        obtain ⟨r56, e57, H⟩ := ob H
        refine dw z (Grd.plain _) z [147, 148] z (s1 (strip_when id) (s1 (strip_when id) s0)) (fun hw => p_ixL Tryz.underlying29 ty_3.size z z (bt hw e57)) ⟨z, ⟨z, q⟩⟩ (by exact q) z <| dw z (Grd.plain _) z [149] z (s1 (strip_when id) s0) (fun hw => p_ldP ty_3 z z) ⟨z, q⟩ (by exact q) z <| dw z (Grd.plain _) z [19] z (s1 strip_same s0) (fun hw => p_fd fld_61_6 z) ⟨z, q⟩ (by exact q) z <| dw z (Grd.plain _) z [151] z (s1 (strip_when id) s0) (fun hw => p_ld ty_3 z z z) ⟨z, q⟩ (by exact ⟨z, q⟩) z <| dw z (Grd.plain _) z [150, 152] z (s1 (strip_when id) (s1 (strip_when id) s0)) (fun hw => p_add z z) ⟨z, ⟨z, q⟩⟩ (by exact q) z <| dw z (Grd.plain _) z [2] z (s1 strip_same s0) (fun hw => p_mv z) ⟨z, q⟩ (by exact q) z <| dw z (Grd.plain _) z [14] z (s1 strip_same s0) (fun hw => p_mv z) ⟨z, q⟩ (by exact q) z <| ?_
        obtain ⟨r58, e59, H⟩ := ob H
        refine dw z (Grd.plain _) z [154, 155] z (s1 (strip_when id) (s1 (strip_when id) s0)) (fun hw => p_ixL Tryz.underlying29 ty_3.size z z (bt hw e59)) ⟨z, ⟨z, q⟩⟩ (by exact q) z <| dw z (Grd.plain _) z [156] z (s1 (strip_when id) s0) (fun hw => p_ldP ty_3 z z) ⟨z, q⟩ (by exact q) z <| dw z (Grd.plain _) z [153, 157] z (s1 (strip_when id) (s1 (strip_when id) s0)) (fun hw => p_gtr z z) ⟨z, ⟨z, q⟩⟩ (by exact q) z <| dr (p_pkA z z q (strip_when (wt))) z <| ?_
        refine wd_nil ?_ (by kernel_rfl)
        refine e_n <| ?_
        rcases cn H with ⟨b60, H⟩ | ⟨b60, H⟩
        · refine c_t z b60 ?_
          refine wc_region z <| lm z z <| l (p_add z z) z <| la z z <| wl_nil <| ?_
          refine e_bn (e_n ?_)
          exact ⟨v27, w64 (v28 + 1), H, en [(1, 1), (6, 6)] (wd z (wd z (wd z (ws z z z (wd z (wd z (ws z z z (wd z (wd z (wd z (wd z (wd z (wd z (wd z w0)))))))))))))) z (hr z (hc z h0))⟩
        refine c_f z b60 <| wc_skip <| ?_
        refine e_bn (e_n ?_)
        exact ⟨v27, v28, H, en [(1, 1), (6, 6)] (wd z (wd z (wd z (ws z z z (wd z (wd z (ws z z z (wd z (wd z (wd z (wd z (wd z (wd z (wd z w0)))))))))))))) z (hr z (hc z h0))⟩
      refine c_f z b30 <| wc_exit <| ?_
      refine e_te (e_te (e_h (e_n ?_)))
      exact ⟨v27, v28, H, en [(1, 1), (6, 6)] (wd z (wd z (wd z (ws z z z (wd z (ws z z z (wd z (wd z (wd z (wd z w0)))))))))) z (hr z (hc z h0))⟩
    refine c_f z b15 <| wc_exit <| ?_
    refine e_te (e_te (e_h (e_n ?_)))
    exact ⟨v13, H, en [] (wd z w0) z h0⟩
  intro H
  refine sgr z <| lm z z <| l (p_lenL Tryz.underlying46 z) z <| lm z z <| ne <| wc_block <| w_lp2 H (fun v61 v62 => ⟨[(1, (aL 2 encMachOp x1)), (2, (aL 1 (eN .i64) x2)), (8, (aP ((enccore_Core r1).drop 0))), (10, (.row 1)), (47, (aL 2 encMachOp x1)), (48, (aN .i64 (x1.length : Int))), (49, (aN .i64 v61))], [(1, (oR 85 7 encTouch v62))]⟩) (en [(1, 1)] (wd z (wd z (wd z (ws z z z (wd z (wd z (wd z w0))))))) z (hr z h0)) <| ?_
  intro n8 v61 v62 H
  rw [cycle_Legal_b8] at H
  refine sgr z <| l (p_lss z z) z <| ne <| wc_seq <| ?_
  rcases cn H with ⟨b63, H⟩ | ⟨b63, H⟩
  · refine c_t z b63 ?_
    refine se <| wc_seq <| wc_block <| sgr z <| lm z z <| ?_
    obtain ⟨r64, e65, H⟩ := ob H
    refine l (p_ixL Tryz.underlying46 ty_31.size z z e65) z <| l (p_ldA (ds := encMachOp r64) ty_31 z z z) z <| lh (p_al 3 zr_31 z) z <| la z z <| l0h (p_stA (ds := (encMachOp r64).map .data) ty_31 z z z z z z) <| ne <| wc_region z <| lm z z <| lm z z <| lm z z <| l (p_ldB (ds := (encMachOp r64).map .data) ty_31 z z z z) z <| ?_
    obtain ⟨r66, e67, H⟩ := ob H
    refine l (p_c (core_Core_Touch_ok e67) ent_37 z z z) z <| ?_
    obtain ⟨r68, e69, H⟩ := ob H
    refine l (p_ixR Tryz.underlying82 ty_85.size z z z e69) z <| l0h (p_stR (sz := 7) (n := v61) (j := 0) (r := r68) (f := encTouch) (ds := encTouch r66) (r' := r66) (fun _ => z) ty_85 (.inl z) z z z e69 q z z z z) <| wl_nil <| ?_
    refine e_bn (e_n ?_)
    refine wc_region z <| l (p_add z z) z <| lm z z <| ne <| ?_
    exact ⟨w64 (v61 + 1), v62.set v61.toNat r66, H, en [(1, 1)] (wd z (wd z (wd z (ws z z z (wd z (wd z (wd z w0))))))) z (hr z h0)⟩
  refine c_f z b63 <| wc_exit <| ?_
  refine e_te (e_te (e_h (e_n ?_)))
  exact ⟨v62, H, en [(1, 1)] (wd z (wd z (wd z (ws z z z w0)))) z (hr z h0)⟩

def retargetref16_SameInts_k1 : Unit → Option Bool
  | () =>
    some true
def retargetref16_SameInts_b2 (x0 : List Int) (x1 : List Int) (k1 : Unit → Option Bool) (rec2 : Int → Option Bool) : Int → Option Bool
  | v2 =>
    bif decide (v2 < (x0.length : Int)) then
      (ix x0 v2).bind fun r4 =>
      (ix x1 v2).bind fun r6 =>
      bif r4 != r6 then some false else rec2 (w64 (v2 + 1))
    else
      k1 ()
def retargetref16_SameInts (x0 : List Int) (x1 : List Int) : Option Bool :=
  bif (x0.length : Int) != (x1.length : Int) then
    some false
  else
    jn retargetref16_SameInts_k1 fun k1 =>
    lp (retargetref16_SameInts_b2 x0 x1 k1) (x0.length + 1) 0
theorem retargetref16_SameInts_ok {x0 : List Int} {x1 : List Int} {R : Bool} (H : retargetref16_SameInts x0 x1 = some R) : FnOk Tryz.prog K0 17 [(aL 1 (eN .i64) x0), (aL 1 (eN .i64) x1)] [] (aT R) [] := by
  refine fn_w (nt := 26) (np := 0) Tryz.func17 z z (by simp) (np_of2 z) <| ?_
  unfold retargetref16_SameInts at H
  refine sgr z <| la z z <| ne <| wc_seq <| sgr z <| lm z z <| l (p_lenL Tryz.underlying29 z) z <| lm z z <| l (p_lenL Tryz.underlying29 z) z <| l (p_neq z z) z <| ne <| ?_
  rcases cn H with ⟨b1, H⟩ | ⟨b1, H⟩
  · refine c_t z b1 ?_
    refine sgr z <| la z z <| ne <| wc_ret <| e_tr <| ?_
    obtain rfl := sm H
    exact fin (Or.inr z) (rs1 (rv z) rs0) (re [] (.dat) z h0)
  refine c_f z b1 <| se <| ?_
  refine w_jn0 H (⟨[], []⟩) ?_ ?_
  · intro H
    rw [retargetref16_SameInts_k1] at H
    refine sgr z <| la z z <| ne <| wc_ret <| ?_
    obtain rfl := sm H
    exact fin (Or.inr z) (rs1 (rv z) rs0) (re [] (.dat) z h0)
  intro H
  refine sgr z <| la z z <| ne <| wc_block <| w_lp1 H (fun v2 => ⟨[(0, (aL 1 (eN .i64) x0)), (1, (aL 1 (eN .i64) x1)), (5, (aN .i64 v2))], []⟩) (en [] (wd z (wd z (wd z w0))) z h0) <| ?_
  intro n2 v2 H
  rw [retargetref16_SameInts_b2] at H
  refine wc_seq <| sgr z <| lm z z <| lm z z <| l (p_lenL Tryz.underlying29 z) z <| l (p_lss z z) z <| ne <| ?_
  rcases cn H with ⟨b3, H⟩ | ⟨b3, H⟩
  · refine c_t z b3 ?_
    refine se <| wc_seq <| wc_block <| wc_seq <| wc_draw [0, 0, 3, 7, 0, 0, 48, 112, 255] mixed z <| dm z z <| dm z z <| ?_
    obtain ⟨r4, e5, H⟩ := ob H
    refine dr (p_ixL Tryz.underlying29 ty_3.size z z e5) z <| dr (p_ldP ty_3 z z) z <| dm z z <| dm z z <| ?_
    obtain ⟨r6, e7, H⟩ := ob H
    refine dr (p_ixL Tryz.underlying29 ty_3.size z z e7) z <| dr (p_ldP ty_3 z z) z <| dr (p_neq z z) z <| ?_
    refine wd_nil ?_ (by kernel_rfl)
    refine e_n <| ?_
    rcases cn H with ⟨b8, H⟩ | ⟨b8, H⟩
    · refine c_t z b8 ?_
      refine sgr z <| la z z <| ne <| wc_ret <| ?_
      refine e_br (e_tr (e_tr (e_br (e_tr ?_))))
      obtain rfl := sm H
      exact fin (Or.inr z) (rs1 (rv z) rs0) (re [] (.dat) z h0)
    refine c_f z b8 <| wc_skip <| ?_
    refine e_bn (e_n ?_)
    refine wc_region z <| lm z z <| l (p_add z z) z <| la z z <| ne <| ?_
    exact ⟨w64 (v2 + 1), H, en [] (wd z (wd z (wd z w0))) z h0⟩
  refine c_f z b3 <| wc_exit <| ?_
  refine e_te (e_te (e_h (e_n ?_)))
  exact ⟨H, en [] w0 z h0⟩

def retargetlaw16_alive : Option Bool :=
  (api_Given 0).bind fun r1 =>
  (retargetlaw16_named r1 (⟨#[109, 117, 108]⟩ : ByteArray) [1, 2, 3]).bind fun r3 =>
  (retargetlaw16_named r1 (⟨#[97, 100, 100]⟩ : ByteArray) [4, 1, 1]).bind fun r5 =>
  (retargetlaw16_named r1 (⟨#[97, 100, 100, 105]⟩ : ByteArray) [5, 6, 1]).bind fun r7 =>
  (cycle_Starts r1 [r3, r5, r7]).bind fun r9 =>
  (ix [r3, r5, r7] 0).bind fun r11 =>
  (ix [r3, r5, r7] 2).bind fun r13 =>
  (cycle_Starts r1 [r11, r13]).bind fun r15 =>
  asr (subOk 0 1 [r3, r5, r7].length) <|
  (cycle_Length r1 (lSub [r3, r5, r7] 0 1)).bind fun r18 =>
  (cycle_Length r1 [r3, r5, r7]).bind fun r20 =>
  (cycle_Legal r1 [r3, r5, r7] [0, 4, 5]).bind fun r22 =>
  (cycle_Legal r1 [r3, r5, r7] [0, 4, 4]).bind fun r24 =>
  (bif (true && (((((((r9.2 == 0) && (r15.2 == 0)) && (r18.2 == 0)) && (r20.2 == 0)) && (r22.2 == 0)) && (r24.2 == 0)) == true)) then retargetref16_SameInts r9.1 [0, 4, 5] else some default).bind fun r26 =>
  (bif (true && ((((((((r9.2 == 0) && (r15.2 == 0)) && (r18.2 == 0)) && (r20.2 == 0)) && (r22.2 == 0)) && (r24.2 == 0)) && r26) == true)) then retargetref16_SameInts r15.1 [0, 0] else some default).bind fun r28 =>
  some ((((((((((((r9.2 == 0) && (r15.2 == 0)) && (r18.2 == 0)) && (r20.2 == 0)) && (r22.2 == 0)) && (r24.2 == 0)) && r26) && r28) && (r18.1 == 4)) && (r20.1 == 6)) && r22.1) && (!r24.1))
theorem retargetlaw16_alive_ok {R : Bool} (H : retargetlaw16_alive = some R) : FnOk Tryz.prog K0 18 [] [] (aT R) [] := by
  refine fn_w (nt := 118) (np := 0) Tryz.func18 z z (by simp) (np_of2 z) <| ?_
  unfold retargetlaw16_alive at H
  refine sgr z <| la z z <| ne <| sgr z <| ?_
  obtain ⟨r1, e2, H⟩ := ob H
  refine l (p_c (api_Given_ok e2) ent_8 z z z) z <| lh (p_al 0 zr_27 z) z <| l0h (p_stA (ds := (encMachine r1).map .data) ty_27 z z z z z z) <| ne <| wc_seq <| wc_draw [0, 0, 3, 0, 0, 31, 0, 0, 255, 511, 1023] mixed z <| dr (p_ldB (ds := (encMachine r1).map .data) ty_27 z z z z) z <| dr (p_bs (f := (eN .i64)) [.const (Value.int IntKind.i64 1), .const (Value.int IntKind.i64 2), .const (Value.int IntKind.i64 3)] [1, 2, 3] Tryz.underlying29 ty_3.size zr_3 z z z z (el1 (.one _) z (el1 (.one _) z (el1 (.one _) z el0))) z) z <| ?_
  obtain ⟨r3, e4, H⟩ := ob H
  refine dr (p_c (retargetlaw16_named_ok e4) ent_12 z z z) z <| dr (p_ldB (ds := (encMachine r1).map .data) ty_27 z z z z) z <| dr (p_bs (f := (eN .i64)) [.const (Value.int IntKind.i64 4), .const (Value.int IntKind.i64 1), .const (Value.int IntKind.i64 1)] [4, 1, 1] Tryz.underlying29 ty_3.size zr_3 z z z z (el1 (.one _) z (el1 (.one _) z (el1 (.one _) z el0))) z) z <| ?_
  obtain ⟨r5, e6, H⟩ := ob H
  refine dr (p_c (retargetlaw16_named_ok e6) ent_12 z z z) z <| dr (p_ldB (ds := (encMachine r1).map .data) ty_27 z z z z) z <| dr (p_bs (f := (eN .i64)) [.const (Value.int IntKind.i64 5), .const (Value.int IntKind.i64 6), .const (Value.int IntKind.i64 1)] [5, 6, 1] Tryz.underlying29 ty_3.size zr_3 z z z z (el1 (.one _) z (el1 (.one _) z (el1 (.one _) z el0))) z) z <| ?_
  obtain ⟨r7, e8, H⟩ := ob H
  refine dr (p_c (retargetlaw16_named_ok e8) ent_12 z z z) z <| dr (p_bs (f := encMachOp) [.tmp 18, .tmp 21, .tmp 24] [r3, r5, r7] Tryz.underlying46 ty_31.size zr_31 z z z z (el1 (.agg _) z (el1 (.agg _) z (el1 (.agg _) z el0))) z) z <| da z z <| ?_
  refine wd_nil ?_ (by kernel_rfl)
  refine e_n <| sgr z <| l (p_ldB (ds := (encMachine r1).map .data) ty_27 z z z z) z <| lm z z <| ?_
  obtain ⟨r9, e10, H⟩ := ob H
  refine l (p_c (cycle_Starts_ok e10) ent_14 z z z) z <| lm z z <| l (p_ex z z) z <| l (p_ex z z) z <| la z z <| la z z <| ne <| wc_seq <| wc_draw [0, 0, 2, 6, 0, 16, 48, 126, 255, 511, 1023, 1023, 2047, 8191] mixed z <| dr (p_ldB (ds := (encMachine r1).map .data) ty_27 z z z z) z <| dm z z <| ?_
  obtain ⟨r11, e12, H⟩ := ob H
  refine dr (p_ixL Tryz.underlying46 ty_31.size z z e12) z <| dr (p_ldA (ds := encMachOp r11) ty_31 z z z) z <| dm z z <| ?_
  obtain ⟨r13, e14, H⟩ := ob H
  refine dr (p_ixL Tryz.underlying46 ty_31.size z z e14) z <| dr (p_ldA (ds := encMachOp r13) ty_31 z z z) z <| dr (p_bs (f := encMachOp) [.tmp 36, .tmp 39] [r11, r13] Tryz.underlying46 ty_31.size zr_31 z z z z (el1 (.agg _) z (el1 (.agg _) z el0)) z) z <| ?_
  obtain ⟨r15, e16, H⟩ := ob H
  refine dr (p_c (cycle_Starts_ok e16) ent_14 z z z) z <| dm z z <| dr (p_ex z z) z <| dr (p_ex z z) z <| da z z <| da z z <| ?_
  refine wd_nil ?_ (by kernel_rfl)
  refine e_n <| wc_seq <| wc_draw [0, 0, 2, 7, 15, 31, 31, 63, 255] mixed z <| dr (p_ldB (ds := (encMachine r1).map .data) ty_27 z z z z) z <| dm z z <| ?_
  obtain ⟨e17, H⟩ := as_ H
  refine dr (p_slL Tryz.underlying46 ty_31.size z .no (.yes z) e17) z <| ?_
  obtain ⟨r18, e19, H⟩ := ob H
  refine dr (p_c (cycle_Length_ok e19) ent_16 z z z) z <| dm z z <| dr (p_ex z z) z <| dr (p_ex z z) z <| da z z <| da z z <| ?_
  refine wd_nil ?_ (by kernel_rfl)
  refine e_n <| sgr z <| l (p_ldB (ds := (encMachine r1).map .data) ty_27 z z z z) z <| lm z z <| ?_
  obtain ⟨r20, e21, H⟩ := ob H
  refine l (p_c (cycle_Length_ok e21) ent_16 z z z) z <| lm z z <| l (p_ex z z) z <| l (p_ex z z) z <| la z z <| la z z <| ne <| sgr z <| l (p_ldB (ds := (encMachine r1).map .data) ty_27 z z z z) z <| lm z z <| l (p_bs (f := (eN .i64)) [.const (Value.int IntKind.i64 0), .const (Value.int IntKind.i64 4), .const (Value.int IntKind.i64 5)] [0, 4, 5] Tryz.underlying29 ty_3.size zr_3 z z z z (el1 (.one _) z (el1 (.one _) z (el1 (.one _) z el0))) z) z <| ?_
  obtain ⟨r22, e23, H⟩ := ob H
  refine l (p_c (cycle_Legal_ok e23) ent_15 z z z) z <| lm z z <| l (p_ex z z) z <| l (p_ex z z) z <| la z z <| la z z <| ne <| sgr z <| l (p_ldB (ds := (encMachine r1).map .data) ty_27 z z z z) z <| lm z z <| l (p_bs (f := (eN .i64)) [.const (Value.int IntKind.i64 0), .const (Value.int IntKind.i64 4), .const (Value.int IntKind.i64 4)] [0, 4, 4] Tryz.underlying29 ty_3.size zr_3 z z z z (el1 (.one _) z (el1 (.one _) z (el1 (.one _) z el0))) z) z <| ?_
  obtain ⟨r24, e25, H⟩ := ob H
  refine l (p_c (cycle_Legal_ok e25) ent_15 z z z) z <| lm z z <| l (p_ex z z) z <| l (p_ex z z) z <| la z z <| la z z <| ne <| sgr z <| lm z z <| l (p_eql z z) z <| lm z z <| lw z (Grd.plain _) z [6] z (s1 strip_same s0) (fun hw => p_mv z) ⟨z, q⟩ (by exact q) z z <| lw z (Grd.plain _) z [74] z (s1 (strip_when id) s0) (fun hw => p_eql z z) ⟨z, q⟩ (by exact q) z z <| l (p_pkA z z q (strip_when (wt))) z <| lm z z <| lw z (Grd.plain _) z [8] z (s1 strip_same s0) (fun hw => p_mv z) ⟨z, q⟩ (by exact q) z z <| lw z (Grd.plain _) z [78] z (s1 (strip_when id) s0) (fun hw => p_eql z z) ⟨z, q⟩ (by exact q) z z <| l (p_pkA z z q (strip_when (wt))) z <| lm z z <| lw z (Grd.plain _) z [10] z (s1 strip_same s0) (fun hw => p_mv z) ⟨z, q⟩ (by exact q) z z <| lw z (Grd.plain _) z [82] z (s1 (strip_when id) s0) (fun hw => p_eql z z) ⟨z, q⟩ (by exact q) z z <| l (p_pkA z z q (strip_when (wt))) z <| lm z z <| lw z (Grd.plain _) z [12] z (s1 strip_same s0) (fun hw => p_mv z) ⟨z, q⟩ (by exact q) z z <| lw z (Grd.plain _) z [86] z (s1 (strip_when id) s0) (fun hw => p_eql z z) ⟨z, q⟩ (by exact q) z z <| l (p_pkA z z q (strip_when (wt))) z <| lm z z <| lw z (Grd.plain _) z [14] z (s1 strip_same s0) (fun hw => p_mv z) ⟨z, q⟩ (by exact q) z z <| lw z (Grd.plain _) z [90] z (s1 (strip_when id) s0) (fun hw => p_eql z z) ⟨z, q⟩ (by exact q) z z <| l (p_pkA z z q (strip_when (wt))) z <| lm z z <| lw z (Grd.plain _) z [3] z (s1 strip_same s0) (fun hw => p_mv z) ⟨z, q⟩ (by exact q) z z <| lw z (Grd.plain _) z [] z s0 (fun hw => p_bs (f := (eN .i64)) [.const (Value.int IntKind.i64 0), .const (Value.int IntKind.i64 4), .const (Value.int IntKind.i64 5)] [0, 4, 5] Tryz.underlying29 ty_3.size zr_3 z z z z (el1 (.one _) z (el1 (.one _) z (el1 (.one _) z el0))) z) q (by exact q) z z <| ?_
  obtain ⟨r26, e27, H⟩ := ob H
  refine lw z (Grd.plain _) z [94, 95] z (s1 (strip_when id) (s1 (strip_when id) s0)) (fun hw => p_c (retargetref16_SameInts_ok (bt hw e27)) ent_17 z z z) ⟨z, ⟨z, q⟩⟩ (by exact q) z z <| l (p_pkA z z q (strip_when (wt))) z <| lm z z <| lw z (Grd.plain _) z [5] z (s1 strip_same s0) (fun hw => p_mv z) ⟨z, q⟩ (by exact q) z z <| lw z (Grd.plain _) z [] z s0 (fun hw => p_bs (f := (eN .i64)) [.const (Value.int IntKind.i64 0), .const (Value.int IntKind.i64 0)] [0, 0] Tryz.underlying29 ty_3.size zr_3 z z z z (el1 (.one _) z (el1 (.one _) z el0)) z) q (by exact q) z z <| ?_
  obtain ⟨r28, e29, H⟩ := ob H
  refine lw z (Grd.plain _) z [99, 100] z (s1 (strip_when id) (s1 (strip_when id) s0)) (fun hw => p_c (retargetref16_SameInts_ok (bt hw e29)) ent_17 z z z) ⟨z, ⟨z, q⟩⟩ (by exact q) z z <| l (p_pkA z z q (strip_when (wt))) z <| lm z z <| lw z (Grd.plain _) z [7] z (s1 strip_same s0) (fun hw => p_mv z) ⟨z, q⟩ (by exact q) z z <| lw z (Grd.plain _) z [104] z (s1 (strip_when id) s0) (fun hw => p_eql z z) ⟨z, q⟩ (by exact q) z z <| l (p_pkA z z q (strip_when (wt))) z <| lm z z <| lw z (Grd.plain _) z [9] z (s1 strip_same s0) (fun hw => p_mv z) ⟨z, q⟩ (by exact q) z z <| lw z (Grd.plain _) z [108] z (s1 (strip_when id) s0) (fun hw => p_eql z z) ⟨z, q⟩ (by exact q) z z <| l (p_pkA z z q (strip_when (wt))) z <| lm z z <| lw z (Grd.plain _) z [11] z (s1 strip_same s0) (fun hw => p_mv z) ⟨z, q⟩ (by exact q) z z <| l (p_pkA z z q (strip_when (wt))) z <| lm z z <| lw z (Grd.plain _) z [13] z (s1 strip_same s0) (fun hw => p_mv z) ⟨z, q⟩ (by exact q) z z <| lw z (Grd.plain _) z [115] z (s1 (strip_when id) s0) (fun hw => p_not z) ⟨z, q⟩ (by exact q) z z <| l (p_pkA z z q (strip_when (wt))) z <| la z z <| ne <| wc_ret <| ?_
  obtain rfl := sm H
  exact fin (Or.inr z) (rs1 (rv z) rs0) (re [] (.dat) z h0)

def retargetref02_count_k1 : Int → Option (Int × Bool)
  | v2 =>
    some (v2, true)
def retargetref02_count_b2 (x0 : Term) (x1 : Int) (x2 : Int) (self : Term → Int → Int → Option (Int × Bool)) (k1 : Int → Option (Int × Bool)) (rec2 : Int × Int → Option (Int × Bool)) : Int × Int → Option (Int × Bool)
  | (v3, v4) =>
    bif (decide (v4 < (x0.Sub.length : Int))) && (decide (v3 ≤ x1)) then
      (ix x0.Sub v4).bind fun r6 =>
      (self r6 (w64 (x1 - v3)) (w64 (x2 - 1))).bind fun r8 =>
      bif !r8.2 then some (v3, false) else rec2 ((w64 (v3 + r8.1), w64 (v4 + 1)))
    else
      k1 v3
def retargetref02_count_f (self : Term → Int → Int → Option (Int × Bool)) (x0 : Term) (x1 : Int) (x2 : Int) : Option (Int × Bool) :=
  bif x2 == 0 then
    some (1, false)
  else
    jn retargetref02_count_k1 fun k1 =>
    lp (retargetref02_count_b2 x0 x1 x2 self k1) (x0.Sub.length + 1) (1, 0)
def retargetref02_count : Nat → Term → Int → Int → Option (Int × Bool)
  | 0 => fun _ _ _ => none
  | n + 1 => retargetref02_count_f (retargetref02_count n)
theorem retargetref02_count_ok {n : Nat} : ∀ {x0 : Term} {x1 : Int} {x2 : Int} {R : Int × Bool}, retargetref02_count n x0 x1 x2 = some R → FnOk Tryz.prog K0 100 [(aA (encTermX x0)), (aN .i64 x1), (aN .i64 x2)] [] (.tup [(aN .i64 R.1), (aT R.2)]) [] := by
  induction n with
  | zero => intro x0 x1 x2 R H; cases H
  | succ n ih =>
    intro x0 x1 x2 R H
    refine fn_w (nt := 47) (np := 0) Tryz.func100 z z (by simp) (np_of2 z) <| ?_
    have H : retargetref02_count_f (retargetref02_count n) x0 x1 x2 = some R := H
    unfold retargetref02_count_f at H
    refine sgr z <| lh (p_bx 0 z q z) z <| la z z <| la z z <| ne <| wc_seq <| sgr z <| lm z z <| l (p_eql z z) z <| ne <| ?_
    rcases cn H with ⟨b1, H⟩ | ⟨b1, H⟩
    · refine c_t z b1 ?_
      refine sgr z <| la z z <| la z z <| ne <| wc_ret <| e_tr <| ?_
      obtain rfl := sm H
      exact fin (Or.inr z) (rs1 (rv z) (rs1 (rv z) rs0)) (re2 [] ⟨.dat, ⟨.dat, q⟩⟩ z h0)
    refine c_f z b1 <| se <| sgr z <| la z z <| ne <| ?_
    refine w_jn1 H (fun v2 => ⟨[(8, (aN .i64 v2))], []⟩) ?_ ?_
    · intro v2 H
      rw [retargetref02_count_k1] at H
      refine sgr z <| lm z z <| la z z <| la z z <| ne <| wc_ret <| ?_
      obtain rfl := sm H
      exact fin (Or.inr z) (rs1 (rv z) (rs1 (rv z) rs0)) (re2 [] ⟨.dat, ⟨.dat, q⟩⟩ z h0)
    intro H
    refine sgr z <| la z z <| ne <| wc_block <| w_lp2 H (fun v3 v4 => ⟨[(1, (aN .i64 x1)), (2, (aN .i64 x2)), (3, (.ptr 0 0)), (8, (aN .i64 v3)), (9, (aN .i64 v4))], [(0, (oD 114 (encTermX x0)))]⟩) (en [(0, 0)] (wd z (wd z (ws z z z (wd z (wd z w0))))) z (hc z h0)) <| ?_
    intro n2 v3 v4 H
    rw [retargetref02_count_b2] at H
    refine wc_seq <| sgr z <| lm z z <| l (p_fd fld_114_5 z) z <| l (p_ld ty_112 z z z) z <| l (p_lenL Tryz.underlying112 z) z <| l (p_lss z z) z <| lm z z <| lw z (Grd.plain _) z [8] z (s1 strip_same s0) (fun hw => p_mv z) ⟨z, q⟩ (by exact q) z z <| lw z (Grd.plain _) z [1] z (s1 strip_same s0) (fun hw => p_mv z) ⟨z, q⟩ (by exact q) z z <| lw z (Grd.plain _) z [20, 21] z (s1 (strip_when id) (s1 (strip_when id) s0)) (fun hw => p_leq z z) ⟨z, ⟨z, q⟩⟩ (by exact q) z z <| l (p_pkA z z q (strip_when (wt))) z <| ne <| ?_
    rcases cn H with ⟨b5, H⟩ | ⟨b5, H⟩
    · refine c_t z b5 ?_
      refine se <| wc_seq <| wc_block <| sgr z <| l (p_fd fld_114_5 z) z <| l (p_ld ty_112 z z z) z <| lm z z <| ?_
      obtain ⟨r6, e7, H⟩ := ob H
      refine l (p_ixX (encTerm_X _) Tryz.underlying112 ty_114.size z z e7) z <| l (p_ldA (ds := encTermX r6) ty_114 z z z) z <| lm z z <| lm z z <| l (p_sub z z) z <| lm z z <| l (p_sub z z) z <| ?_
      obtain ⟨r8, e9, H⟩ := ob H
      refine l (p_c (ih e9) ent_100 z z z) z <| lm z z <| l (p_ex z z) z <| l (p_ex z z) z <| la z z <| la z z <| ne <| wc_seq <| sgr z <| lm z z <| l (p_not z) z <| ne <| ?_
      rcases cn H with ⟨b10, H⟩ | ⟨b10, H⟩
      · refine c_t z b10 ?_
        refine sgr z <| lm z z <| la z z <| la z z <| ne <| wc_ret <| ?_
        refine e_tr (e_br (e_tr (e_tr (e_br (e_tr ?_)))))
        obtain rfl := sm H
        exact fin (Or.inr z) (rs1 (rv z) (rs1 (rv z) rs0)) (re2 [] ⟨.dat, ⟨.dat, q⟩⟩ z h0)
      refine c_f z b10 <| se <| wc_region z <| lm z z <| lm z z <| l (p_add z z) z <| la z z <| wl_nil <| ?_
      refine e_bn (e_n ?_)
      refine wc_region z <| lm z z <| l (p_add z z) z <| la z z <| ne <| ?_
      exact ⟨w64 (v3 + r8.1), w64 (v4 + 1), H, en [(0, 0)] (wd z (wd z (ws z z z (wd z (wd z w0))))) z (hc z h0)⟩
    refine c_f z b5 <| wc_exit <| ?_
    refine e_te (e_te (e_h (e_n ?_)))
    exact ⟨v3, H, en [] (wd z w0) z h0⟩

def retargetref02_long_k1 (x0 : Term) : Unit → Option Bool
  | () =>
    some (decide (200 < (x0.Name.size : Int)))
def retargetref02_long_b2 (x0 : Term) (self : Term → Option Bool) (k1 : Unit → Option Bool) (rec2 : Int → Option Bool) : Int → Option Bool
  | v1 =>
    bif decide (v1 < (x0.Sub.length : Int)) then
      (ix x0.Sub v1).bind fun r3 =>
      (self r3).bind fun r5 =>
      bif r5 then some true else rec2 (w64 (v1 + 1))
    else
      k1 ()
def retargetref02_long_f (self : Term → Option Bool) (x0 : Term) : Option Bool :=
  jn (retargetref02_long_k1 x0) fun k1 =>
  lp (retargetref02_long_b2 x0 self k1) (x0.Sub.length + 1) 0
def retargetref02_long : Nat → Term → Option Bool
  | 0 => fun _ => none
  | n + 1 => retargetref02_long_f (retargetref02_long n)
theorem retargetref02_long_ok {n : Nat} : ∀ {x0 : Term} {R : Bool}, retargetref02_long n x0 = some R → FnOk Tryz.prog K0 101 [(aA (encTermX x0))] [] (aT R) [] := by
  induction n with
  | zero => intro x0 R H; cases H
  | succ n ih =>
    intro x0 R H
    refine fn_w (nt := 21) (np := 0) Tryz.func101 z z (by simp) (np_of2 z) <| ?_
    have H : retargetref02_long_f (retargetref02_long n) x0 = some R := H
    unfold retargetref02_long_f at H
    refine sgr z <| lh (p_bx 0 z q z) z <| la z z <| ne <| ?_
    refine w_jn0 H (⟨[(1, (.ptr 0 0))], [(0, (oD 114 (encTermX x0)))]⟩) ?_ ?_
    · intro H
      rw [retargetref02_long_k1] at H
      refine sgr z <| l (p_fd fld_114_3 z) z <| l (p_ld ty_9 z z z) z <| l (p_lenS Tryz.underlying9 z) z <| l (p_gtr z z) z <| la z z <| ne <| wc_ret <| ?_
      obtain rfl := sm H
      exact fin (Or.inr z) (rs1 (rv z) rs0) (re [] (.dat) z h0)
    intro H
    refine sgr z <| la z z <| ne <| wc_block <| w_lp1 H (fun v1 => ⟨[(1, (.ptr 0 0)), (3, (aN .i64 v1))], [(0, (oD 114 (encTermX x0)))]⟩) (en [(0, 0)] (ws z z z (wd z w0)) z (hc z h0)) <| ?_
    intro n2 v1 H
    rw [retargetref02_long_b2] at H
    refine wc_seq <| sgr z <| lm z z <| l (p_fd fld_114_5 z) z <| l (p_ld ty_112 z z z) z <| l (p_lenL Tryz.underlying112 z) z <| l (p_lss z z) z <| ne <| ?_
    rcases cn H with ⟨b2, H⟩ | ⟨b2, H⟩
    · refine c_t z b2 ?_
      refine se <| wc_seq <| wc_block <| sgr z <| l (p_fd fld_114_5 z) z <| l (p_ld ty_112 z z z) z <| lm z z <| ?_
      obtain ⟨r3, e4, H⟩ := ob H
      refine l (p_ixX (encTerm_X _) Tryz.underlying112 ty_114.size z z e4) z <| l (p_ldA (ds := encTermX r3) ty_114 z z z) z <| ?_
      obtain ⟨r5, e6, H⟩ := ob H
      refine l (p_c (ih e6) ent_101 z z z) z <| ne <| ?_
      rcases cn H with ⟨b7, H⟩ | ⟨b7, H⟩
      · refine c_t z b7 ?_
        refine sgr z <| la z z <| ne <| wc_ret <| ?_
        refine e_br (e_tr (e_tr (e_br (e_tr ?_))))
        obtain rfl := sm H
        exact fin (Or.inr z) (rs1 (rv z) rs0) (re [] (.dat) z h0)
      refine c_f z b7 <| wc_skip <| ?_
      refine e_bn (e_n ?_)
      refine wc_region z <| lm z z <| l (p_add z z) z <| la z z <| ne <| ?_
      exact ⟨w64 (v1 + 1), H, en [(0, 0)] (ws z z z (wd z w0)) z (hc z h0)⟩
    refine c_f z b2 <| wc_exit <| ?_
    refine e_te (e_te (e_h (e_n ?_)))
    exact ⟨H, en [(0, 0)] (ws z z z w0) z (hc z h0)⟩

def retargetref02_Great (x0 : Term) : Option Bool :=
  (retargetref02_count (rankTerm x0) x0 500 80).bind fun r1 =>
  (bif (true && (((!r1.2) || (decide (500 < r1.1))) == false)) then retargetref02_long (rankTerm x0) x0 else some default).bind fun r3 =>
  some (((!r1.2) || (decide (500 < r1.1))) || r3)
theorem retargetref02_Great_ok {x0 : Term} {R : Bool} (H : retargetref02_Great x0 = some R) : FnOk Tryz.prog K0 75 [(aA (encTermX x0))] [] (aT R) [] := by
  refine fn_w (nt := 20) (np := 0) Tryz.func75 z z (by simp) (np_of2 z) <| ?_
  unfold retargetref02_Great at H
  refine sgr z <| lh (p_bx 0 z q z) z <| la z z <| ne <| sgr z <| l (p_ldB (ds := (encTermX x0).map .data) ty_114 z z z z) z <| ?_
  obtain ⟨r1, e2, H⟩ := ob H
  refine l (p_c (retargetref02_count_ok e2) ent_100 z z z) z <| lm z z <| l (p_ex z z) z <| l (p_ex z z) z <| la z z <| la z z <| ne <| sgr z <| lm z z <| l (p_not z) z <| lm z z <| lw z (Grd.plain _) z [3] z (s1 strip_same s0) (fun hw => p_mv z) ⟨z, q⟩ (by exact q) z z <| lw z (Grd.plain _) z [13] z (s1 (strip_when id) s0) (fun hw => p_gtr z z) ⟨z, q⟩ (by exact q) z z <| l (p_pkO z z q (strip_when (wf))) z <| lm z z <| lw z (Grd.plain _) z [1] z (s1 strip_same s0) (fun hw => p_ldB (ds := (encTermX x0).map .data) ty_114 z z z z) ⟨z, q⟩ (by exact ⟨z, q⟩) z z <| ?_
  obtain ⟨r3, e4, H⟩ := ob H
  refine lw z (Grd.plain _) z [17] z (s1 (strip_when id) s0) (fun hw => p_c (retargetref02_long_ok (bt hw e4)) ent_101 z z z) ⟨z, q⟩ (by exact q) z z <| l (p_pkO z z q (strip_when (wf))) z <| la z z <| ne <| wc_ret <| ?_
  obtain rfl := sm H
  exact fin (Or.inr z) (rs1 (rv z) rs0) (re [] (.dat) z h0)

def retargetref02_Size_k1 : Int → Option Int
  | v1 =>
    some v1
def retargetref02_Size_b2 (x0 : Term) (self : Term → Option Int) (k1 : Int → Option Int) (rec2 : Int × Int → Option Int) : Int × Int → Option Int
  | (v2, v3) =>
    bif decide (v3 < (x0.Sub.length : Int)) then
      (ix x0.Sub v3).bind fun r5 =>
      (self r5).bind fun r7 =>
      rec2 ((w64 (v2 + r7), w64 (v3 + 1)))
    else
      k1 v2
def retargetref02_Size_f (self : Term → Option Int) (x0 : Term) : Option Int :=
  jn retargetref02_Size_k1 fun k1 =>
  lp (retargetref02_Size_b2 x0 self k1) (x0.Sub.length + 1) (1, 0)
def retargetref02_Size : Nat → Term → Option Int
  | 0 => fun _ => none
  | n + 1 => retargetref02_Size_f (retargetref02_Size n)
theorem retargetref02_Size_ok {n : Nat} : ∀ {x0 : Term} {R : Int}, retargetref02_Size n x0 = some R → FnOk Tryz.prog K0 102 [(aA (encTermX x0))] [] (aN .i64 R) [] := by
  induction n with
  | zero => intro x0 R H; cases H
  | succ n ih =>
    intro x0 R H
    refine fn_w (nt := 21) (np := 0) Tryz.func102 z z (by simp) (np_of2 z) <| ?_
    have H : retargetref02_Size_f (retargetref02_Size n) x0 = some R := H
    unfold retargetref02_Size_f at H
    refine sgr z <| lh (p_bx 0 z q z) z <| la z z <| ne <| sgr z <| la z z <| ne <| ?_
    refine w_jn1 H (fun v1 => ⟨[(3, (aN .i64 v1))], []⟩) ?_ ?_
    · intro v1 H
      rw [retargetref02_Size_k1] at H
      refine sgr z <| lm z z <| la z z <| ne <| wc_ret <| ?_
      obtain rfl := sm H
      exact fin (Or.inr z) (rs1 (rv z) rs0) (re [] (.dat) z h0)
    intro H
    refine sgr z <| la z z <| ne <| wc_block <| w_lp2 H (fun v2 v3 => ⟨[(1, (.ptr 0 0)), (3, (aN .i64 v2)), (4, (aN .i64 v3))], [(0, (oD 114 (encTermX x0)))]⟩) (en [(0, 0)] (ws z z z (wd z (wd z w0))) z (hc z h0)) <| ?_
    intro n2 v2 v3 H
    rw [retargetref02_Size_b2] at H
    refine wc_seq <| sgr z <| lm z z <| l (p_fd fld_114_5 z) z <| l (p_ld ty_112 z z z) z <| l (p_lenL Tryz.underlying112 z) z <| l (p_lss z z) z <| ne <| ?_
    rcases cn H with ⟨b4, H⟩ | ⟨b4, H⟩
    · refine c_t z b4 ?_
      refine se <| wc_seq <| wc_block <| wc_region z <| lm z z <| l (p_fd fld_114_5 z) z <| l (p_ld ty_112 z z z) z <| lm z z <| ?_
      obtain ⟨r5, e6, H⟩ := ob H
      refine l (p_ixX (encTerm_X _) Tryz.underlying112 ty_114.size z z e6) z <| l (p_ldA (ds := encTermX r5) ty_114 z z z) z <| ?_
      obtain ⟨r7, e8, H⟩ := ob H
      refine l (p_c (ih e8) ent_102 z z z) z <| l (p_add z z) z <| la z z <| wl_nil <| ?_
      refine e_bn (e_n ?_)
      refine wc_region z <| lm z z <| l (p_add z z) z <| la z z <| ne <| ?_
      exact ⟨w64 (v2 + r7), w64 (v3 + 1), H, en [(0, 0)] (ws z z z (wd z (wd z w0))) z (hc z h0)⟩
    refine c_f z b4 <| wc_exit <| ?_
    refine e_te (e_te (e_h (e_n ?_)))
    exact ⟨v2, H, en [] (wd z w0) z h0⟩

def retargetref08_Nodes_k1 : Int → Option Int
  | v1 =>
    some v1
def retargetref08_Nodes_k3 (v3 : Int) (rec2 : Int × Int → Option Int) : Int → Option Int
  | v5 =>
    rec2 ((v5, w64 (v3 + 1)))
def retargetref08_Nodes_b4 (x0 : Machine) (v3 : Int) (k3 : Int → Option Int) (rec4 : Int × Int → Option Int) : Int × Int → Option Int
  | (v6, v7) =>
    (ix x0.Instrs v3).bind fun r8 =>
    bif decide (v7 < (r8.Effects.length : Int)) then
      (ix x0.Instrs v3).bind fun r11 =>
      (ix r11.Effects v7).bind fun r13 =>
      (retargetref02_Size (rankTerm r13.Addr) r13.Addr).bind fun r15 =>
      (retargetref02_Size (rankTerm r13.Value) r13.Value).bind fun r17 =>
      (retargetref02_Size (rankTerm r13.Cond) r13.Cond).bind fun r19 =>
      rec4 ((w64 (v6 + (w64 ((w64 (r15 + r17)) + r19))), w64 (v7 + 1)))
    else
      k3 v6
def retargetref08_Nodes_b2 (x0 : Machine) (k1 : Int → Option Int) (rec2 : Int × Int → Option Int) : Int × Int → Option Int
  | (v2, v3) =>
    bif decide (v3 < (x0.Instrs.length : Int)) then
      jn (retargetref08_Nodes_k3 v3 rec2) fun k3 =>
      lp (retargetref08_Nodes_b4 x0 v3 k3) (((((ix x0.Instrs v3).getD default)).Effects).length + 1) (v2, 0)
    else
      k1 v2
def retargetref08_Nodes (x0 : Machine) : Option Int :=
  jn retargetref08_Nodes_k1 fun k1 =>
  lp (retargetref08_Nodes_b2 x0 k1) (x0.Instrs.length + 1) (0, 0)
theorem retargetref08_Nodes_ok {x0 : Machine} {R : Int} (H : retargetref08_Nodes x0 = some R) : FnOk Tryz.prog K0 76 [(aA (encMachine x0))] [] (aN .i64 R) [] := by
  refine fn_w (nt := 48) (np := 0) Tryz.func76 z z (by simp) (np_of2 z) <| ?_
  unfold retargetref08_Nodes at H
  refine sgr z <| lh (p_bx 0 z q z) z <| la z z <| ne <| sgr z <| la z z <| ne <| ?_
  refine w_jn1 H (fun v1 => ⟨[(3, (aN .i64 v1))], []⟩) ?_ ?_
  · intro v1 H
    rw [retargetref08_Nodes_k1] at H
    refine sgr z <| lm z z <| la z z <| ne <| wc_ret <| ?_
    obtain rfl := sm H
    exact fin (Or.inr z) (rs1 (rv z) rs0) (re [] (.dat) z h0)
  intro H
  refine sgr z <| la z z <| ne <| wc_block <| w_lp2 H (fun v2 v3 => ⟨[(1, (.ptr 0 0)), (3, (aN .i64 v2)), (4, (aN .i64 v3))], [(0, (oD 27 (encMachine x0)))]⟩) (en [(0, 0)] (ws z z z (wd z (wd z w0))) z (hc z h0)) <| ?_
  intro n2 v2 v3 H
  rw [retargetref08_Nodes_b2] at H
  refine wc_seq <| sgr z <| lm z z <| l (p_fd fld_27_6 z) z <| l (p_ld ty_25 z z z) z <| l (p_lenL Tryz.underlying25 z) z <| l (p_lss z z) z <| ne <| ?_
  rcases cn H with ⟨b4, H⟩ | ⟨b4, H⟩
  · refine c_t z b4 ?_
    refine se <| ?_
    refine w_jn1 H (fun v5 => ⟨[(1, (.ptr 0 0)), (3, (aN .i64 v5)), (4, (aN .i64 v3))], [(0, (oD 27 (encMachine x0)))]⟩) ?_ ?_
    · intro v5 H
      rw [retargetref08_Nodes_k3] at H
      refine wc_region z <| lm z z <| l (p_add z z) z <| la z z <| ne <| ?_
      exact ⟨v5, w64 (v3 + 1), H, en [(0, 0)] (ws z z z (wd z (wd z w0))) z (hc z h0)⟩
    intro H
    refine wc_block <| sgr z <| la z z <| ne <| wc_block <| w_lp2 H (fun v6 v7 => ⟨[(1, (.ptr 0 0)), (3, (aN .i64 v6)), (4, (aN .i64 v3)), (5, (aN .i64 v7))], [(0, (oD 27 (encMachine x0)))]⟩) (en [(0, 0)] (ws z z z (wd z (wd z (wd z w0)))) z (hc z h0)) <| ?_
    intro n4 v6 v7 H
    rw [retargetref08_Nodes_b4] at H
    refine wc_seq <| sgr z <| lm z z <| l (p_fd fld_27_6 z) z <| l (p_ld ty_25 z z z) z <| lm z z <| ?_
    obtain ⟨r8, e9, H⟩ := ob H
    refine l (p_ixL Tryz.underlying25 ty_61.size z z e9) z <| l (p_fdP fld_61_4 z) z <| l (p_ldP ty_59 z z) z <| l (p_lenL Tryz.underlying59 z) z <| l (p_lss z z) z <| ne <| ?_
    rcases cn H with ⟨b10, H⟩ | ⟨b10, H⟩
    · refine c_t z b10 ?_
      refine se <| wc_seq <| wc_block <| sgr z <| l (p_fd fld_27_6 z) z <| l (p_ld ty_25 z z z) z <| lm z z <| ?_
      obtain ⟨r11, e12, H⟩ := ob H
      refine l (p_ixL Tryz.underlying25 ty_61.size z z e12) z <| l (p_fdP fld_61_4 z) z <| l (p_ldP ty_59 z z) z <| lm z z <| ?_
      obtain ⟨r13, e14, H⟩ := ob H
      refine l (p_ixL Tryz.underlying59 ty_118.size z z e14) z <| l (p_ldA (ds := encMachEffect r13) ty_118 z z z) z <| lh (p_al 3 zr_118 z) z <| l0h (p_stA (ds := (encMachEffect r13).map .data) ty_118 z z z z z z) <| ne <| wc_draw [0, 0, 2, 6, 0, 16, 62, 126, 0, 256, 894, 2046, 4095, 8191] mixed z <| dm z z <| dr (p_fd fld_118_3 z) z <| dr (p_ldB (ds := (encTermX r13.Addr).map .data) ty_114 z z z z) z <| ?_
      obtain ⟨r15, e16, H⟩ := ob H
      refine dr (p_c (retargetref02_Size_ok e16) ent_102 z z z) z <| dr (p_fd fld_118_4 z) z <| dr (p_ldB (ds := (encTermX r13.Value).map .data) ty_114 z z z z) z <| ?_
      obtain ⟨r17, e18, H⟩ := ob H
      refine dr (p_c (retargetref02_Size_ok e18) ent_102 z z z) z <| dr (p_add z z) z <| dr (p_fd fld_118_5 z) z <| dr (p_ldB (ds := (encTermX r13.Cond).map .data) ty_114 z z z z) z <| ?_
      obtain ⟨r19, e20, H⟩ := ob H
      refine dr (p_c (retargetref02_Size_ok e20) ent_102 z z z) z <| dr (p_add z z) z <| dr (p_add z z) z <| da z z <| ?_
      refine wd_nil ?_ (by kernel_rfl)
      refine e_bn (e_n ?_)
      refine wc_region z <| lm z z <| l (p_add z z) z <| la z z <| ne <| ?_
      exact ⟨w64 (v6 + (w64 ((w64 (r15 + r17)) + r19))), w64 (v7 + 1), H, en [(0, 0)] (ws z z z (wd z (wd z (wd z w0)))) z (hc z h0)⟩
    refine c_f z b10 <| wc_exit <| ?_
    refine e_te (e_te (e_h (e_bn (e_n ?_))))
    exact ⟨v6, H, en [(0, 0)] (ws z z z (wd z (wd z w0))) z (hc z h0)⟩
  refine c_f z b4 <| wc_exit <| ?_
  refine e_te (e_te (e_h (e_n ?_)))
  exact ⟨v2, H, en [] (wd z w0) z h0⟩

def retargetref08_Great_k2 (x0 : Machine) : Unit → Option Bool
  | () =>
    (retargetref08_Nodes x0).bind fun r2 =>
    some (decide (1500 < r2))
def retargetref08_Great_k4 (v4 : Int) (rec3 : Int → Option Bool) : Unit → Option Bool
  | () =>
    rec3 (w64 (v4 + 1))
def retargetref08_Great_b6 (k4 : Unit → Option Bool) (r6 : MachInstr) (rec6 : Int → Option Bool) : Int → Option Bool
  | v9 =>
    bif decide (v9 < (r6.Effects.length : Int)) then
      (ix r6.Effects v9).bind fun r11 =>
      (retargetref02_Great r11.Addr).bind fun r13 =>
      (bif (true && (r13 == false)) then ix r6.Effects v9 else some default).bind fun r15 =>
      (bif (true && (r13 == false)) then retargetref02_Great r15.Value else some default).bind fun r17 =>
      (bif (true && ((r13 || r17) == false)) then ix r6.Effects v9 else some default).bind fun r19 =>
      (bif (true && ((r13 || r17) == false)) then retargetref02_Great r19.Cond else some default).bind fun r21 =>
      bif (r13 || r17) || r21 then some true else rec6 (w64 (v9 + 1))
    else
      k4 ()
def retargetref08_Great_k5 (k4 : Unit → Option Bool) (r6 : MachInstr) : Unit → Option Bool
  | () =>
    lp (retargetref08_Great_b6 k4 r6) (r6.Effects.length + 1) 0
def retargetref08_Great_b7 (r6 : MachInstr) (k5 : Unit → Option Bool) (rec7 : Int → Option Bool) : Int → Option Bool
  | v24 =>
    bif decide (v24 < (r6.Operands.length : Int)) then
      (ix r6.Operands v24).bind fun r26 =>
      (bif (true && ((decide (14 < (r26.Pieces.length : Int))) == false)) then ix r6.Operands v24 else some default).bind fun r28 =>
      bif (decide (14 < (r26.Pieces.length : Int))) || (decide (100 < (r28.Name.size : Int))) then some true else rec7 (w64 (v24 + 1))
    else
      k5 ()
def retargetref08_Great_b3 (x0 : Machine) (k2 : Unit → Option Bool) (rec3 : Int → Option Bool) : Int → Option Bool
  | v4 =>
    bif decide (v4 < (x0.Instrs.length : Int)) then
      jn (retargetref08_Great_k4 v4 rec3) fun k4 =>
      (ix x0.Instrs v4).bind fun r6 =>
      bif ((decide (14 < (r6.Operands.length : Int))) || (decide (14 < (r6.Effects.length : Int)))) || (decide (100 < (r6.Name.size : Int))) then
        some true
      else
        jn (retargetref08_Great_k5 k4 r6) fun k5 =>
        lp (retargetref08_Great_b7 r6 k5) (r6.Operands.length + 1) 0
    else
      k2 ()
def retargetref08_Great_k1 (x0 : Machine) : Unit → Option Bool
  | () =>
    jn (retargetref08_Great_k2 x0) fun k2 =>
    lp (retargetref08_Great_b3 x0 k2) (x0.Instrs.length + 1) 0
def retargetref08_Great_b8 (x0 : Machine) (k1 : Unit → Option Bool) (rec8 : Int → Option Bool) : Int → Option Bool
  | v31 =>
    bif decide (v31 < (x0.Banks.length : Int)) then
      (ix x0.Banks v31).bind fun r33 =>
      (bif (true && ((decide (74 < (r33.Regs.length : Int))) == false)) then ix x0.Banks v31 else some default).bind fun r35 =>
      bif (decide (74 < (r33.Regs.length : Int))) || (decide (100 < (r35.Name.size : Int))) then some true else rec8 (w64 (v31 + 1))
    else
      k1 ()
def retargetref08_Great (x0 : Machine) : Option Bool :=
  bif ((((decide (100 < (x0.Name.size : Int))) || (decide (74 < (x0.Regs.length : Int)))) || (decide (26 < (x0.Banks.length : Int)))) || (decide (18 < (x0.Units.length : Int)))) || (decide (74 < (x0.Instrs.length : Int))) then
    some true
  else
    jn (retargetref08_Great_k1 x0) fun k1 =>
    lp (retargetref08_Great_b8 x0 k1) (x0.Banks.length + 1) 0
theorem retargetref08_Great_ok {x0 : Machine} {R : Bool} (H : retargetref08_Great x0 = some R) : FnOk Tryz.prog K0 39 [(aA (encMachine x0))] [] (aT R) [] := by
  refine fn_w (nt := 149) (np := 0) Tryz.func39 z z (by simp) (np_of2 z) <| ?_
  unfold retargetref08_Great at H
  refine sgr z <| lh (p_bx 0 z q z) z <| la z z <| ne <| wc_seq <| sgr z <| l (p_fd fld_27_0 z) z <| l (p_ld ty_9 z z z) z <| l (p_lenS Tryz.underlying9 z) z <| l (p_gtr z z) z <| lm z z <| lw z (Grd.plain _) z [1] z (s1 strip_same s0) (fun hw => p_fd fld_27_3 z) ⟨z, q⟩ (by exact q) z z <| lw z (Grd.plain _) z [13] z (s1 (strip_when id) s0) (fun hw => p_ld ty_22 z z z) ⟨z, q⟩ (by exact ⟨z, q⟩) z z <| lw z (Grd.plain _) z [14] z (s1 (strip_when id) s0) (fun hw => p_lenL Tryz.underlying22 z) ⟨z, q⟩ (by exact q) z z <| lw z (Grd.plain _) z [15] z (s1 (strip_when id) s0) (fun hw => p_gtr z z) ⟨z, q⟩ (by exact q) z z <| l (p_pkO z z q (strip_when (wf))) z <| lm z z <| lw z (Grd.plain _) z [1] z (s1 strip_same s0) (fun hw => p_fd fld_27_4 z) ⟨z, q⟩ (by exact q) z z <| lw z (Grd.plain _) z [19] z (s1 (strip_when id) s0) (fun hw => p_ld ty_23 z z z) ⟨z, q⟩ (by exact ⟨z, q⟩) z z <| lw z (Grd.plain _) z [20] z (s1 (strip_when id) s0) (fun hw => p_lenL Tryz.underlying23 z) ⟨z, q⟩ (by exact q) z z <| lw z (Grd.plain _) z [21] z (s1 (strip_when id) s0) (fun hw => p_gtr z z) ⟨z, q⟩ (by exact q) z z <| l (p_pkO z z q (strip_when (wf))) z <| lm z z <| lw z (Grd.plain _) z [1] z (s1 strip_same s0) (fun hw => p_fd fld_27_5 z) ⟨z, q⟩ (by exact q) z z <| lw z (Grd.plain _) z [25] z (s1 (strip_when id) s0) (fun hw => p_ld ty_24 z z z) ⟨z, q⟩ (by exact ⟨z, q⟩) z z <| lw z (Grd.plain _) z [26] z (s1 (strip_when id) s0) (fun hw => p_lenL Tryz.underlying24 z) ⟨z, q⟩ (by exact q) z z <| lw z (Grd.plain _) z [27] z (s1 (strip_when id) s0) (fun hw => p_gtr z z) ⟨z, q⟩ (by exact q) z z <| l (p_pkO z z q (strip_when (wf))) z <| lm z z <| lw z (Grd.plain _) z [1] z (s1 strip_same s0) (fun hw => p_fd fld_27_6 z) ⟨z, q⟩ (by exact q) z z <| lw z (Grd.plain _) z [31] z (s1 (strip_when id) s0) (fun hw => p_ld ty_25 z z z) ⟨z, q⟩ (by exact ⟨z, q⟩) z z <| lw z (Grd.plain _) z [32] z (s1 (strip_when id) s0) (fun hw => p_lenL Tryz.underlying25 z) ⟨z, q⟩ (by exact q) z z <| lw z (Grd.plain _) z [33] z (s1 (strip_when id) s0) (fun hw => p_gtr z z) ⟨z, q⟩ (by exact q) z z <| l (p_pkO z z q (strip_when (wf))) z <| ne <| ?_
  rcases cn H with ⟨b1, H⟩ | ⟨b1, H⟩
  · refine c_t z b1 ?_
    refine sgr z <| la z z <| ne <| wc_ret <| e_tr <| ?_
    obtain rfl := sm H
    exact fin (Or.inr z) (rs1 (rv z) rs0) (re [] (.dat) z h0)
  refine c_f z b1 <| se <| ?_
  refine w_jn0 H (⟨[(1, (.ptr 0 0))], [(0, (oD 27 (encMachine x0)))]⟩) ?_ ?_
  · intro H
    rw [retargetref08_Great_k1] at H
    refine w_jn0 H (⟨[(1, (.ptr 0 0))], [(0, (oD 27 (encMachine x0)))]⟩) ?_ ?_
    · intro H
      rw [retargetref08_Great_k2] at H
      refine sgr z <| l (p_ldB (ds := (encMachine x0).map .data) ty_27 z z z z) z <| ?_
      obtain ⟨r2, e3, H⟩ := ob H
      refine l (p_c (retargetref08_Nodes_ok e3) ent_76 z z z) z <| l (p_gtr z z) z <| la z z <| ne <| wc_ret <| ?_
      obtain rfl := sm H
      exact fin (Or.inr z) (rs1 (rv z) rs0) (re [] (.dat) z h0)
    intro H
    refine sgr z <| la z z <| ne <| wc_block <| w_lp1 H (fun v4 => ⟨[(1, (.ptr 0 0)), (4, (aN .i64 v4))], [(0, (oD 27 (encMachine x0)))]⟩) (en [(0, 0)] (ws z z z (wd z w0)) z (hc z h0)) <| ?_
    intro n3 v4 H
    rw [retargetref08_Great_b3] at H
    refine wc_seq <| sgr z <| lm z z <| l (p_fd fld_27_6 z) z <| l (p_ld ty_25 z z z) z <| l (p_lenL Tryz.underlying25 z) z <| l (p_lss z z) z <| ne <| ?_
    rcases cn H with ⟨b5, H⟩ | ⟨b5, H⟩
    · refine c_t z b5 ?_
      refine se <| ?_
      refine w_jn0 H (⟨[(1, (.ptr 0 0)), (4, (aN .i64 v4))], [(0, (oD 27 (encMachine x0)))]⟩) ?_ ?_
      · intro H
        rw [retargetref08_Great_k4] at H
        refine wc_region z <| lm z z <| l (p_add z z) z <| la z z <| ne <| ?_
        exact ⟨w64 (v4 + 1), H, en [(0, 0)] (ws z z z (wd z w0)) z (hc z h0)⟩
      intro H
      refine wc_block <| sgr z <| l (p_fd fld_27_6 z) z <| l (p_ld ty_25 z z z) z <| lm z z <| ?_
      obtain ⟨r6, e7, H⟩ := ob H
      refine l (p_ixL Tryz.underlying25 ty_61.size z z e7) z <| l (p_ldA (ds := encMachInstr r6) ty_61 z z z) z <| lh (p_al 2 zr_61 z) z <| l0h (p_stA (ds := (encMachInstr r6).map .data) ty_61 z z z z z z) <| ne <| wc_seq <| sgr z <| l (p_fd fld_61_3 z) z <| l (p_ld ty_58 z z z) z <| l (p_lenL Tryz.underlying58 z) z <| l (p_gtr z z) z <| lm z z <| lw z (Grd.plain _) z [5] z (s1 strip_same s0) (fun hw => p_fd fld_61_4 z) ⟨z, q⟩ (by exact q) z z <| lw z (Grd.plain _) z [78] z (s1 (strip_when id) s0) (fun hw => p_ld ty_59 z z z) ⟨z, q⟩ (by exact ⟨z, q⟩) z z <| lw z (Grd.plain _) z [79] z (s1 (strip_when id) s0) (fun hw => p_lenL Tryz.underlying59 z) ⟨z, q⟩ (by exact q) z z <| lw z (Grd.plain _) z [80] z (s1 (strip_when id) s0) (fun hw => p_gtr z z) ⟨z, q⟩ (by exact q) z z <| l (p_pkO z z q (strip_when (wf))) z <| lm z z <| lw z (Grd.plain _) z [5] z (s1 strip_same s0) (fun hw => p_fd fld_61_0 z) ⟨z, q⟩ (by exact q) z z <| lw z (Grd.plain _) z [84] z (s1 (strip_when id) s0) (fun hw => p_ld ty_9 z z z) ⟨z, q⟩ (by exact ⟨z, q⟩) z z <| lw z (Grd.plain _) z [85] z (s1 (strip_when id) s0) (fun hw => p_lenS Tryz.underlying9 z) ⟨z, q⟩ (by exact q) z z <| lw z (Grd.plain _) z [86] z (s1 (strip_when id) s0) (fun hw => p_gtr z z) ⟨z, q⟩ (by exact q) z z <| l (p_pkO z z q (strip_when (wf))) z <| ne <| ?_
      rcases cn H with ⟨b8, H⟩ | ⟨b8, H⟩
      · refine c_t z b8 ?_
        refine sgr z <| la z z <| ne <| wc_ret <| ?_
        refine e_tr (e_br (e_tr (e_tr (e_br (e_tr ?_)))))
        obtain rfl := sm H
        exact fin (Or.inr z) (rs1 (rv z) rs0) (re [] (.dat) z h0)
      refine c_f z b8 <| se <| ?_
      refine w_jn0 H (⟨[(1, (.ptr 0 0)), (4, (aN .i64 v4)), (5, (.ptr 2 0))], [(0, (oD 27 (encMachine x0))), (2, (oD 61 (encMachInstr r6)))]⟩) ?_ ?_
      · intro H
        rw [retargetref08_Great_k5] at H
        refine sgr z <| la z z <| ne <| wc_block <| w_lp1 H (fun v9 => ⟨[(1, (.ptr 0 0)), (4, (aN .i64 v4)), (5, (.ptr 2 0)), (7, (aN .i64 v9))], [(0, (oD 27 (encMachine x0))), (2, (oD 61 (encMachInstr r6)))]⟩) (en [(0, 0), (2, 2)] (ws z z z (wd z (ws z z z (wd z w0)))) z (hc z (hc z h0))) <| ?_
        intro n6 v9 H
        rw [retargetref08_Great_b6] at H
        refine wc_seq <| sgr z <| lm z z <| l (p_fd fld_61_4 z) z <| l (p_ld ty_59 z z z) z <| l (p_lenL Tryz.underlying59 z) z <| l (p_lss z z) z <| ne <| ?_
        rcases cn H with ⟨b10, H⟩ | ⟨b10, H⟩
        · refine c_t z b10 ?_
          refine se <| wc_seq <| wc_block <| sgr z <| l (p_fd fld_61_4 z) z <| l (p_ld ty_59 z z z) z <| lm z z <| ?_
          obtain ⟨r11, e12, H⟩ := ob H
          refine l (p_ixL Tryz.underlying59 ty_118.size z z e12) z <| l (p_fdP fld_118_3 z) z <| l (p_ldA (ds := encTermX r11.Addr) ty_114 z z z) z <| ?_
          obtain ⟨r13, e14, H⟩ := ob H
          refine l (p_c (retargetref02_Great_ok e14) ent_75 z z z) z <| lm z z <| lw z (Grd.plain _) z [5] z (s1 strip_same s0) (fun hw => p_fd fld_61_4 z) ⟨z, q⟩ (by exact q) z z <| lw z (Grd.plain _) z [129] z (s1 (strip_when id) s0) (fun hw => p_ld ty_59 z z z) ⟨z, q⟩ (by exact ⟨z, q⟩) z z <| lw z (Grd.plain _) z [7] z (s1 strip_same s0) (fun hw => p_mv z) ⟨z, q⟩ (by exact q) z z <| ?_
          obtain ⟨r15, e16, H⟩ := ob H
          refine lw z (Grd.plain _) z [130, 131] z (s1 (strip_when id) (s1 (strip_when id) s0)) (fun hw => p_ixL Tryz.underlying59 ty_118.size z z (bt hw e16)) ⟨z, ⟨z, q⟩⟩ (by exact q) z z <| lw z (Grd.plain _) z [132] z (s1 (strip_when id) s0) (fun hw => p_fdP fld_118_4 z) ⟨z, q⟩ (by exact q) z z <| lw z (Grd.plain _) z [133] z (s1 (strip_when id) s0) (fun hw => p_ldA (ds := encTermX r15.Value) ty_114 z z z) ⟨z, q⟩ (by exact q) z z <| ?_
          obtain ⟨r17, e18, H⟩ := ob H
          refine lw z (Grd.plain _) z [134] z (s1 (strip_when id) s0) (fun hw => p_c (retargetref02_Great_ok (bt hw e18)) ent_75 z z z) ⟨z, q⟩ (by exact q) z z <| l (p_pkO z z q (strip_when (wf))) z <| lm z z <| lw z (Grd.plain _) z [5] z (s1 strip_same s0) (fun hw => p_fd fld_61_4 z) ⟨z, q⟩ (by exact q) z z <| lw z (Grd.plain _) z [138] z (s1 (strip_when id) s0) (fun hw => p_ld ty_59 z z z) ⟨z, q⟩ (by exact ⟨z, q⟩) z z <| lw z (Grd.plain _) z [7] z (s1 strip_same s0) (fun hw => p_mv z) ⟨z, q⟩ (by exact q) z z <| ?_
          obtain ⟨r19, e20, H⟩ := ob H
          refine lw z (Grd.plain _) z [139, 140] z (s1 (strip_when id) (s1 (strip_when id) s0)) (fun hw => p_ixL Tryz.underlying59 ty_118.size z z (bt hw e20)) ⟨z, ⟨z, q⟩⟩ (by exact q) z z <| lw z (Grd.plain _) z [141] z (s1 (strip_when id) s0) (fun hw => p_fdP fld_118_5 z) ⟨z, q⟩ (by exact q) z z <| lw z (Grd.plain _) z [142] z (s1 (strip_when id) s0) (fun hw => p_ldA (ds := encTermX r19.Cond) ty_114 z z z) ⟨z, q⟩ (by exact q) z z <| ?_
          obtain ⟨r21, e22, H⟩ := ob H
          refine lw z (Grd.plain _) z [143] z (s1 (strip_when id) s0) (fun hw => p_c (retargetref02_Great_ok (bt hw e22)) ent_75 z z z) ⟨z, q⟩ (by exact q) z z <| l (p_pkO z z q (strip_when (wf))) z <| ne <| ?_
          rcases cn H with ⟨b23, H⟩ | ⟨b23, H⟩
          · refine c_t z b23 ?_
            refine sgr z <| la z z <| ne <| wc_ret <| ?_
            refine e_br (e_tr (e_tr (e_br (e_br (e_tr (e_tr (e_br (e_tr ?_))))))))
            obtain rfl := sm H
            exact fin (Or.inr z) (rs1 (rv z) rs0) (re [] (.dat) z h0)
          refine c_f z b23 <| wc_skip <| ?_
          refine e_bn (e_n ?_)
          refine wc_region z <| lm z z <| l (p_add z z) z <| la z z <| ne <| ?_
          exact ⟨w64 (v9 + 1), H, en [(0, 0), (2, 2)] (ws z z z (wd z (ws z z z (wd z w0)))) z (hc z (hc z h0))⟩
        refine c_f z b10 <| wc_exit <| ?_
        refine e_te (e_te (e_h (e_bn (e_n ?_))))
        exact ⟨H, en [(0, 0)] (ws z z z (wd z w0)) z (hc z h0)⟩
      intro H
      refine sgr z <| la z z <| ne <| wc_block <| w_lp1 H (fun v24 => ⟨[(1, (.ptr 0 0)), (4, (aN .i64 v4)), (5, (.ptr 2 0)), (6, (aN .i64 v24))], [(0, (oD 27 (encMachine x0))), (2, (oD 61 (encMachInstr r6)))]⟩) (en [(0, 0), (2, 2)] (ws z z z (wd z (ws z z z (wd z w0)))) z (hc z (hc z h0))) <| ?_
      intro n7 v24 H
      rw [retargetref08_Great_b7] at H
      refine wc_seq <| sgr z <| lm z z <| l (p_fd fld_61_3 z) z <| l (p_ld ty_58 z z z) z <| l (p_lenL Tryz.underlying58 z) z <| l (p_lss z z) z <| ne <| ?_
      rcases cn H with ⟨b25, H⟩ | ⟨b25, H⟩
      · refine c_t z b25 ?_
        refine se <| wc_seq <| wc_block <| sgr z <| l (p_fd fld_61_3 z) z <| l (p_ld ty_58 z z z) z <| lm z z <| ?_
        obtain ⟨r26, e27, H⟩ := ob H
        refine l (p_ixL Tryz.underlying58 ty_107.size z z e27) z <| l (p_fdP fld_107_4 z) z <| l (p_ldP ty_105 z z) z <| l (p_lenL Tryz.underlying105 z) z <| l (p_gtr z z) z <| lm z z <| lw z (Grd.plain _) z [5] z (s1 strip_same s0) (fun hw => p_fd fld_61_3 z) ⟨z, q⟩ (by exact q) z z <| lw z (Grd.plain _) z [105] z (s1 (strip_when id) s0) (fun hw => p_ld ty_58 z z z) ⟨z, q⟩ (by exact ⟨z, q⟩) z z <| lw z (Grd.plain _) z [6] z (s1 strip_same s0) (fun hw => p_mv z) ⟨z, q⟩ (by exact q) z z <| ?_
        obtain ⟨r28, e29, H⟩ := ob H
        refine lw z (Grd.plain _) z [106, 107] z (s1 (strip_when id) (s1 (strip_when id) s0)) (fun hw => p_ixL Tryz.underlying58 ty_107.size z z (bt hw e29)) ⟨z, ⟨z, q⟩⟩ (by exact q) z z <| lw z (Grd.plain _) z [108] z (s1 (strip_when id) s0) (fun hw => p_fdP fld_107_0 z) ⟨z, q⟩ (by exact q) z z <| lw z (Grd.plain _) z [109] z (s1 (strip_when id) s0) (fun hw => p_ldP ty_9 z z) ⟨z, q⟩ (by exact q) z z <| lw z (Grd.plain _) z [110] z (s1 (strip_when id) s0) (fun hw => p_lenS Tryz.underlying9 z) ⟨z, q⟩ (by exact q) z z <| lw z (Grd.plain _) z [111] z (s1 (strip_when id) s0) (fun hw => p_gtr z z) ⟨z, q⟩ (by exact q) z z <| l (p_pkO z z q (strip_when (wf))) z <| ne <| ?_
        rcases cn H with ⟨b30, H⟩ | ⟨b30, H⟩
        · refine c_t z b30 ?_
          refine sgr z <| la z z <| ne <| wc_ret <| ?_
          refine e_br (e_tr (e_tr (e_br (e_tr (e_br (e_tr (e_tr (e_br (e_tr ?_)))))))))
          obtain rfl := sm H
          exact fin (Or.inr z) (rs1 (rv z) rs0) (re [] (.dat) z h0)
        refine c_f z b30 <| wc_skip <| ?_
        refine e_bn (e_n ?_)
        refine wc_region z <| lm z z <| l (p_add z z) z <| la z z <| ne <| ?_
        exact ⟨w64 (v24 + 1), H, en [(0, 0), (2, 2)] (ws z z z (wd z (ws z z z (wd z w0)))) z (hc z (hc z h0))⟩
      refine c_f z b25 <| wc_exit <| ?_
      refine e_te (e_te (e_h (e_n ?_)))
      exact ⟨H, en [(0, 0), (2, 2)] (ws z z z (wd z (ws z z z w0))) z (hc z (hc z h0))⟩
    refine c_f z b5 <| wc_exit <| ?_
    refine e_te (e_te (e_h (e_n ?_)))
    exact ⟨H, en [(0, 0)] (ws z z z w0) z (hc z h0)⟩
  intro H
  refine sgr z <| la z z <| ne <| wc_block <| w_lp1 H (fun v31 => ⟨[(1, (.ptr 0 0)), (3, (aN .i64 v31))], [(0, (oD 27 (encMachine x0)))]⟩) (en [(0, 0)] (ws z z z (wd z w0)) z (hc z h0)) <| ?_
  intro n8 v31 H
  rw [retargetref08_Great_b8] at H
  refine wc_seq <| sgr z <| lm z z <| l (p_fd fld_27_4 z) z <| l (p_ld ty_23 z z z) z <| l (p_lenL Tryz.underlying23 z) z <| l (p_lss z z) z <| ne <| ?_
  rcases cn H with ⟨b32, H⟩ | ⟨b32, H⟩
  · refine c_t z b32 ?_
    refine se <| wc_seq <| wc_block <| sgr z <| l (p_fd fld_27_4 z) z <| l (p_ld ty_23 z z z) z <| lm z z <| ?_
    obtain ⟨r33, e34, H⟩ := ob H
    refine l (p_ixL Tryz.underlying23 ty_97.size z z e34) z <| l (p_fdP fld_97_1 z) z <| l (p_ldP ty_29 z z) z <| l (p_lenL Tryz.underlying29 z) z <| l (p_gtr z z) z <| lm z z <| lw z (Grd.plain _) z [1] z (s1 strip_same s0) (fun hw => p_fd fld_27_4 z) ⟨z, q⟩ (by exact q) z z <| lw z (Grd.plain _) z [52] z (s1 (strip_when id) s0) (fun hw => p_ld ty_23 z z z) ⟨z, q⟩ (by exact ⟨z, q⟩) z z <| lw z (Grd.plain _) z [3] z (s1 strip_same s0) (fun hw => p_mv z) ⟨z, q⟩ (by exact q) z z <| ?_
    obtain ⟨r35, e36, H⟩ := ob H
    refine lw z (Grd.plain _) z [53, 54] z (s1 (strip_when id) (s1 (strip_when id) s0)) (fun hw => p_ixL Tryz.underlying23 ty_97.size z z (bt hw e36)) ⟨z, ⟨z, q⟩⟩ (by exact q) z z <| lw z (Grd.plain _) z [55] z (s1 (strip_when id) s0) (fun hw => p_fdP fld_97_0 z) ⟨z, q⟩ (by exact q) z z <| lw z (Grd.plain _) z [56] z (s1 (strip_when id) s0) (fun hw => p_ldP ty_9 z z) ⟨z, q⟩ (by exact q) z z <| lw z (Grd.plain _) z [57] z (s1 (strip_when id) s0) (fun hw => p_lenS Tryz.underlying9 z) ⟨z, q⟩ (by exact q) z z <| lw z (Grd.plain _) z [58] z (s1 (strip_when id) s0) (fun hw => p_gtr z z) ⟨z, q⟩ (by exact q) z z <| l (p_pkO z z q (strip_when (wf))) z <| ne <| ?_
    rcases cn H with ⟨b37, H⟩ | ⟨b37, H⟩
    · refine c_t z b37 ?_
      refine sgr z <| la z z <| ne <| wc_ret <| ?_
      refine e_br (e_tr (e_tr (e_br (e_tr ?_))))
      obtain rfl := sm H
      exact fin (Or.inr z) (rs1 (rv z) rs0) (re [] (.dat) z h0)
    refine c_f z b37 <| wc_skip <| ?_
    refine e_bn (e_n ?_)
    refine wc_region z <| lm z z <| l (p_add z z) z <| la z z <| ne <| ?_
    exact ⟨w64 (v31 + 1), H, en [(0, 0)] (ws z z z (wd z w0)) z (hc z h0)⟩
  refine c_f z b32 <| wc_exit <| ?_
  refine e_te (e_te (e_h (e_n ?_)))
  exact ⟨H, en [(0, 0)] (ws z z z w0) z (hc z h0)⟩

def retargetref15_GreatOps_k1 : Unit → Option Bool
  | () =>
    some false
def retargetref15_GreatOps_b2 (x0 : List MachOp) (k1 : Unit → Option Bool) (rec2 : Int → Option Bool) : Int → Option Bool
  | v2 =>
    bif decide (v2 < (x0.length : Int)) then
      (ix x0 v2).bind fun r4 =>
      bif decide (10 < (r4.Args.length : Int)) then some true else rec2 (w64 (v2 + 1))
    else
      k1 ()
def retargetref15_GreatOps (x0 : List MachOp) : Option Bool :=
  bif decide (70 < (x0.length : Int)) then
    some true
  else
    jn retargetref15_GreatOps_k1 fun k1 =>
    lp (retargetref15_GreatOps_b2 x0 k1) (x0.length + 1) 0
theorem retargetref15_GreatOps_ok {x0 : List MachOp} {R : Bool} (H : retargetref15_GreatOps x0 = some R) : FnOk Tryz.prog K0 40 [(aL 2 encMachOp x0)] [] (aT R) [] := by
  refine fn_w (nt := 20) (np := 0) Tryz.func40 z z (by simp) (np_of2 z) <| ?_
  unfold retargetref15_GreatOps at H
  refine sgr z <| la z z <| ne <| wc_seq <| sgr z <| lm z z <| l (p_lenL Tryz.underlying46 z) z <| l (p_gtr z z) z <| ne <| ?_
  rcases cn H with ⟨b1, H⟩ | ⟨b1, H⟩
  · refine c_t z b1 ?_
    refine sgr z <| la z z <| ne <| wc_ret <| e_tr <| ?_
    obtain rfl := sm H
    exact fin (Or.inr z) (rs1 (rv z) rs0) (re [] (.dat) z h0)
  refine c_f z b1 <| se <| ?_
  refine w_jn0 H (⟨[], []⟩) ?_ ?_
  · intro H
    rw [retargetref15_GreatOps_k1] at H
    refine sgr z <| la z z <| ne <| wc_ret <| ?_
    obtain rfl := sm H
    exact fin (Or.inr z) (rs1 (rv z) rs0) (re [] (.dat) z h0)
  intro H
  refine sgr z <| la z z <| ne <| wc_block <| w_lp1 H (fun v2 => ⟨[(0, (aL 2 encMachOp x0)), (3, (aN .i64 v2))], []⟩) (en [] (wd z (wd z w0)) z h0) <| ?_
  intro n2 v2 H
  rw [retargetref15_GreatOps_b2] at H
  refine wc_seq <| sgr z <| lm z z <| lm z z <| l (p_lenL Tryz.underlying46 z) z <| l (p_lss z z) z <| ne <| ?_
  rcases cn H with ⟨b3, H⟩ | ⟨b3, H⟩
  · refine c_t z b3 ?_
    refine se <| wc_seq <| wc_block <| sgr z <| lm z z <| lm z z <| ?_
    obtain ⟨r4, e5, H⟩ := ob H
    refine l (p_ixL Tryz.underlying46 ty_31.size z z e5) z <| l (p_fdP fld_31_1 z) z <| l (p_ldP ty_29 z z) z <| l (p_lenL Tryz.underlying29 z) z <| l (p_gtr z z) z <| ne <| ?_
    rcases cn H with ⟨b6, H⟩ | ⟨b6, H⟩
    · refine c_t z b6 ?_
      refine sgr z <| la z z <| ne <| wc_ret <| ?_
      refine e_br (e_tr (e_tr (e_br (e_tr ?_))))
      obtain rfl := sm H
      exact fin (Or.inr z) (rs1 (rv z) rs0) (re [] (.dat) z h0)
    refine c_f z b6 <| wc_skip <| ?_
    refine e_bn (e_n ?_)
    refine wc_region z <| lm z z <| l (p_add z z) z <| la z z <| ne <| ?_
    exact ⟨w64 (v2 + 1), H, en [] (wd z (wd z w0)) z h0⟩
  refine c_f z b3 <| wc_exit <| ?_
  refine e_te (e_te (e_h (e_n ?_)))
  exact ⟨H, en [] w0 z h0⟩

def retargetlaw16_great (x0 : Machine) (x1 : List MachOp) : Option Bool :=
  (retargetref08_Great x0).bind fun r1 =>
  (bif (true && (r1 == false)) then retargetref15_GreatOps x1 else some default).bind fun r3 =>
  some (r1 || r3)
theorem retargetlaw16_great_ok {x0 : Machine} {x1 : List MachOp} {R : Bool} (H : retargetlaw16_great x0 x1 = some R) : FnOk Tryz.prog K0 19 [(aA (encMachine x0)), (aL 2 encMachOp x1)] [] (aT R) [] := by
  refine fn_w (nt := 11) (np := 0) Tryz.func19 z z (by simp) (np_of2 z) <| ?_
  unfold retargetlaw16_great at H
  refine sgr z <| lh (p_bx 0 z q z) z <| la z z <| ne <| sgr z <| l (p_ldB (ds := (encMachine x0).map .data) ty_27 z z z z) z <| ?_
  obtain ⟨r1, e2, H⟩ := ob H
  refine l (p_c (retargetref08_Great_ok e2) ent_39 z z z) z <| lm z z <| lw z (Grd.plain _) z [1] z (s1 strip_same s0) (fun hw => p_mv z) ⟨z, q⟩ (by exact q) z z <| ?_
  obtain ⟨r3, e4, H⟩ := ob H
  refine lw z (Grd.plain _) z [8] z (s1 (strip_when id) s0) (fun hw => p_c (retargetref15_GreatOps_ok (bt hw e4)) ent_40 z z z) ⟨z, q⟩ (by exact q) z z <| l (p_pkO z z q (strip_when (wf))) z <| la z z <| ne <| wc_ret <| ?_
  obtain rfl := sm H
  exact fin (Or.inr z) (rs1 (rv z) rs0) (re [] (.dat) z h0)

def cycle_New (x0 : Machine) : Option (Pipe × Int) :=
  (core_New x0).bind fun r1 =>
  cs2 r1 (fun r1 =>
    bif r1 != 0 then
      some (((Pipe.mk 0 false (([] : List (List Int))) ([] : List Int) 0), r1))
    else none) fun r1 =>
    (core_Core_Pipe r1).bind fun r4 =>
    some (r4, 0)
theorem cycle_New_ok {x0 : Machine} {R : Pipe × Int} (H : cycle_New x0 = some R) : FnOk Tryz.prog K0 9 [(aA (encMachine x0))] [] (.tup [(aA (encPipe R.1)), (aN .i64 R.2)]) [] := by
  refine fn_w (nt := 17) (np := 0) Tryz.func9 z z (by simp) (np_of2 z) <| ?_
  unfold cycle_New at H
  refine sgr z <| lh (p_bx 0 z q z) z <| lh (p_al 1 zr_34 z) z <| la z z <| ne <| sgr z <| l (p_ldB (ds := (encMachine x0).map .data) ty_27 z z z z) z <| ?_
  obtain ⟨r1, e2, H⟩ := ob H
  rcases r1 with r1 | r1
  · replace H := csl H
    refine l (p_c (core_New_okL e2) ent_26 z z z) z <| lm z z <| l (p_ex z z) z <| l (p_ex z z) z <| la z z <| la z z <| ne <| wc_seq <| sgr z <| lm z z <| l (p_neq z z) z <| ne <| ?_
    rcases cn H with ⟨b3, H⟩ | ⟨b3, H⟩
    · refine c_t z b3 ?_
      refine sgr z <| l (p_bd (cs := [(aN .i64 0), (aT false), aNil, aNil, (aN .i64 0)]) pl_34 zr_34 z q z) z <| lm z z <| l0h (p_stA (ds := [(aN .i64 0), (aT false), aNil, aNil, (aN .i64 0)]) ty_34 z z z z z z) <| la z z <| ne <| wc_ret <| e_tr <| ?_
      obtain rfl := sm H
      exact fin (Or.inr z) (rs1 (rva (ds := [(aN .i64 0), (aT false), aNil, aNil, (aN .i64 0)]) ty_34 z z z z) (rs1 (rv z) rs0)) (re2 [] ⟨.sub (sg ⟨sr, ⟨sr, ⟨sn, ⟨sn, ⟨sr, q⟩⟩⟩⟩⟩) z, ⟨.dat, q⟩⟩ z h0)
    cases H
  replace H := csr H
  refine l (p_c (core_New_okR e2) ent_26 z z z) z <| lm z z <| l (p_ex z z) z <| l (p_ex z z) z <| la z z <| la z z <| ne <| wc_seq <| sgr z <| lm z z <| l (p_neq z z) z <| ne <| c_f z z <| se <| sgr z <| lm z z <| ?_
  obtain ⟨r4, e5, H⟩ := ob H
  refine l (p_c (core_Core_Pipe_ok e5) ent_27 z z z) z <| l0h (p_stA (ds := (encPipe r4).map .data) ty_34 z z z z z z) <| la z z <| ne <| wc_ret <| ?_
  obtain rfl := sm H
  exact fin (Or.inr z) (rs1 (rva (ds := (encPipe r4).map .data) ty_34 z z z z) (rs1 (rv z) rs0)) (re2 [] ⟨.adat, ⟨.dat, q⟩⟩ z h0)

def cycle_valid_1 (x0 : Int) : Option Bool :=
  some ((decide (0 ≤ x0)) && (decide (x0 ≤ 1099511627791)))
theorem cycle_valid_1_ok {x0 : Int} {R : Bool} (H : cycle_valid_1 x0 = some R) : FnOk Tryz.prog K0 62 [(aN .i64 x0)] [] (aT R) [] := by
  refine fn_w (nt := 9) (np := 0) Tryz.func62 z z (by simp) (np_of2 z) <| ?_
  unfold cycle_valid_1 at H
  refine sgr z <| la z z <| ne <| sgr z <| lm z z <| l (p_geq z z) z <| lm z z <| lw z (Grd.plain _) z [0] z (s1 strip_same s0) (fun hw => p_mv z) ⟨z, q⟩ (by exact q) z z <| lw z (Grd.plain _) z [6] z (s1 (strip_when id) s0) (fun hw => p_leq z z) ⟨z, q⟩ (by exact q) z z <| l (p_pkA z z q (strip_when (wt))) z <| la z z <| ne <| wc_ret <| ?_
  obtain rfl := sm H
  exact fin (Or.inr z) (rs1 (rv z) rs0) (re [] (.dat) z h0)

def cycle_all_int_2_k1 : Unit → Option Bool
  | () =>
    some true
def cycle_all_int_2_b2 (x0 : List Int) (k1 : Unit → Option Bool) (rec2 : Int → Option Bool) : Int → Option Bool
  | v1 =>
    bif decide (v1 < (x0.length : Int)) then
      (ix x0 v1).bind fun r3 =>
      (cycle_valid_1 r3).bind fun r5 =>
      bif !r5 then some false else rec2 (w64 (v1 + 1))
    else
      k1 ()
def cycle_all_int_2 (x0 : List Int) : Option Bool :=
  jn cycle_all_int_2_k1 fun k1 =>
  lp (cycle_all_int_2_b2 x0 k1) (x0.length + 1) 0
theorem cycle_all_int_2_ok {x0 : List Int} {R : Bool} (H : cycle_all_int_2 x0 = some R) : FnOk Tryz.prog K0 34 [(aL 1 (eN .i64) x0), (.fn (.func 62) [] [])] [] (aT R) [] := by
  refine fn_w (nt := 18) (np := 0) Tryz.func34 z z (by simp) (np_of2 z) <| ?_
  unfold cycle_all_int_2 at H
  refine sgr z <| la z z <| ne <| ?_
  refine w_jn0 H (⟨[], []⟩) ?_ ?_
  · intro H
    rw [cycle_all_int_2_k1] at H
    refine sgr z <| la z z <| ne <| wc_ret <| ?_
    obtain rfl := sm H
    exact fin (Or.inr z) (rs1 (rv z) rs0) (re [] (.dat) z h0)
  intro H
  refine sgr z <| lm z z <| l (p_lenL Tryz.underlying29 z) z <| lm z z <| ne <| wc_block <| w_lp1 H (fun v1 => ⟨[(1, (.fn (.func 62) [] [])), (7, (aL 1 (eN .i64) x0)), (8, (aN .i64 (x0.length : Int))), (9, (aN .i64 v1))], []⟩) (en [] (ws z z z (wd z (wd z (wd z w0)))) z h0) <| ?_
  intro n2 v1 H
  rw [cycle_all_int_2_b2] at H
  refine sgr z <| l (p_lss z z) z <| ne <| wc_seq <| ?_
  rcases cn H with ⟨b2, H⟩ | ⟨b2, H⟩
  · refine c_t z b2 ?_
    refine se <| wc_seq <| wc_block <| sgr z <| ?_
    obtain ⟨r3, e4, H⟩ := ob H
    refine l (p_ixL Tryz.underlying29 ty_3.size z z e4) z <| l (p_ldP ty_3 z z) z <| la z z <| ne <| sgr z <| lm z z <| lm z z <| ?_
    obtain ⟨r5, e6, H⟩ := ob H
    refine l (p_cw (ids := []) (cycle_valid_1_ok e6) ent_62 z z z rn rn z q List.nodup_nil z z z on on z) z <| l (p_not z) z <| ne <| ?_
    rcases cn H with ⟨b7, H⟩ | ⟨b7, H⟩
    · refine c_t z b7 ?_
      refine sgr z <| la z z <| ne <| wc_ret <| ?_
      refine e_br (e_tr (e_tr (e_br (e_tr ?_))))
      obtain rfl := sm H
      exact fin (Or.inr z) (rs1 (rv z) rs0) (re [] (.dat) z h0)
    refine c_f z b7 <| wc_skip <| ?_
    refine e_bn (e_n ?_)
    refine wc_region z <| l (p_add z z) z <| lm z z <| ne <| ?_
    exact ⟨w64 (v1 + 1), H, en [] (ws z z z (wd z (wd z (wd z w0)))) z h0⟩
  refine c_f z b2 <| wc_exit <| ?_
  refine e_te (e_te (e_h (e_n ?_)))
  exact ⟨H, en [] w0 z h0⟩

def cycle_valid_k1 : Unit → Option Bool
  | () =>
    some true
def cycle_valid_b2 (x0 : core_Core) (x1 : Pipe) (k1 : Unit → Option Bool) (rec2 : Int → Option Bool) : Int → Option Bool
  | v6 =>
    bif decide (v6 < (x1.Units.length : Int)) then
      (ix x1.Units v6).bind fun r8 =>
      (ix x0.Machine.Units v6).bind fun r10 =>
      (bif (true && (((r8.length : Int) != r10.Count) == false)) then cycle_all_int_2 r8 else some default).bind fun r12 =>
      (bif (true && ((((r8.length : Int) != r10.Count) || (!r12)) == false)) then slices_IsSorted_int_int r8 else some default).bind fun r14 =>
      bif (((r8.length : Int) != r10.Count) || (!r12)) || (!r14) then some false else rec2 (w64 (v6 + 1))
    else
      k1 ()
def cycle_valid (x0 : core_Core) (x1 : Pipe) : Option Bool :=
  (bif (true && (((decide (x1.At < 0)) || (decide (1099511627776 < x1.At))) == false)) then cycle_valid_1 x1.Mem else some default).bind fun r1 =>
  (bif (true && (((((decide (x1.At < 0)) || (decide (1099511627776 < x1.At))) || (!r1)) || ((x1.Regs.length : Int) != x0.Roots)) == false)) then cycle_all_int_2 x1.Regs else some default).bind fun r3 =>
  bif (((((decide (x1.At < 0)) || (decide (1099511627776 < x1.At))) || (!r1)) || ((x1.Regs.length : Int) != x0.Roots)) || (!r3)) || ((x1.Units.length : Int) != (x0.Machine.Units.length : Int)) then
    some false
  else
    jn cycle_valid_k1 fun k1 =>
    lp (cycle_valid_b2 x0 x1 k1) (x1.Units.length + 1) 0
theorem cycle_valid_ok {x0 : core_Core} {x1 : Pipe} {R : Bool} (H : cycle_valid x0 x1 = some R) : FnOk Tryz.prog K0 28 [(aP ((enccore_Core x0).drop 0)), (aA (encPipe x1))] [] (aT R) [] := by
  refine fn_w (nt := 84) (np := 0) Tryz.func28 z z (by simp) (np_of2 z) <| ?_
  unfold cycle_valid at H
  refine sgr z <| lh (p_bx 0 z q z) z <| la z z <| ne <| sgr z <| la z z <| ne <| wc_seq <| wc_seq <| wc_draw [0, 1, 3, 7, 15, 31, 63, 127, 255, 511, 511, 1535, 4095, 8191, 16383, 32767, 65535, 131071, 262143, 65535, 589823, 1638399, 3735551, 8388607, 16777215, 33554431, 67108863, 134217727, 67108863, 536870911, 1073741823, 2147483647, 4294967295, 8589934591, 17179869183, 34359738367, 8589934591, 77309411327, 214748364799, 489626271743, 1039382085631, 2138893713407, 4398046511103, 8796093022207] mixed z <| dr (p_fd fld_34_0 z) z <| dr (p_ld ty_3 z z z) z <| dr (p_lss z z) z <| dm z z <| dw z (Grd.plain _) z [3] z (s1 strip_same s0) (fun hw => p_fd fld_34_0 z) ⟨z, q⟩ (by exact q) z <| dw z (Grd.plain _) z [12] z (s1 (strip_when id) s0) (fun hw => p_ld ty_3 z z z) ⟨z, q⟩ (by exact ⟨z, q⟩) z <| dw z (Grd.plain _) z [13] z (s1 (strip_when id) s0) (fun hw => p_gtr z z) ⟨z, q⟩ (by exact q) z <| dr (p_pkO z z q (strip_when (wf))) z <| dm z z <| dw z (Grd.plain _) z [5] z (s1 strip_same s0) (fun hw => p_mv z) ⟨z, q⟩ (by exact q) z <| dw z (Grd.plain _) z [3] z (s1 strip_same s0) (fun hw => p_fd fld_34_4 z) ⟨z, q⟩ (by exact q) z <| dw z (Grd.plain _) z [18] z (s1 (strip_when id) s0) (fun hw => p_ld ty_3 z z z) ⟨z, q⟩ (by exact ⟨z, q⟩) z <| ?_
  obtain ⟨r1, e2, H⟩ := ob H
  refine dw z (Grd.plain _) z [17, 19] z (s1 (strip_when id) (s1 (strip_when id) s0)) (fun hw => p_cw (vs := [(aN .i64 x1.Mem)]) (ids := []) (cycle_valid_1_ok (bt hw e2)) ent_62 z z z rn rn z q List.nodup_nil z z z on on z) ⟨z, ⟨z, q⟩⟩ (by exact q) z <| dw z (Grd.plain _) z [20] z (s1 (strip_when id) s0) (fun hw => p_not z) ⟨z, q⟩ (by exact q) z <| dr (p_pkO z z q (strip_when (wf))) z <| dm z z <| dw z (Grd.plain _) z [3] z (s1 strip_same s0) (fun hw => p_fd fld_34_3 z) ⟨z, q⟩ (by exact q) z <| dw z (Grd.plain _) z [24] z (s1 (strip_when id) s0) (fun hw => p_ld ty_29 z z z) ⟨z, q⟩ (by exact ⟨z, q⟩) z <| dw z (Grd.plain _) z [25] z (s1 (strip_when id) s0) (fun hw => p_lenL Tryz.underlying29 z) ⟨z, q⟩ (by exact q) z <| dw z (Grd.plain _) z [0] z (s1 strip_same s0) (fun hw => p_mv z) ⟨z, q⟩ (by exact q) z <| dw z (Grd.plain _) z [27] z (s1 (strip_when id) s0) (fun hw => p_nlP z) ⟨z, q⟩ (by exact q) z <| dw z (Grd.plain _) z [28] z (s1 (strip_when id) s0) (fun hw => p_fdP fld_89_1 z) ⟨z, q⟩ (by exact q) z <| dw z (Grd.plain _) z [29] z (s1 (strip_when id) s0) (fun hw => p_ldP ty_3 z z) ⟨z, q⟩ (by exact q) z <| dw z (Grd.plain _) z [26, 30] z (s1 (strip_when id) (s1 (strip_when id) s0)) (fun hw => p_neq z z) ⟨z, ⟨z, q⟩⟩ (by exact q) z <| dr (p_pkO z z q (strip_when (wf))) z <| dm z z <| dw z (Grd.plain _) z [3] z (s1 strip_same s0) (fun hw => p_fd fld_34_3 z) ⟨z, q⟩ (by exact q) z <| dw z (Grd.plain _) z [34] z (s1 (strip_when id) s0) (fun hw => p_ld ty_29 z z z) ⟨z, q⟩ (by exact ⟨z, q⟩) z <| dw z (Grd.plain _) z [5] z (s1 strip_same s0) (fun hw => p_mv z) ⟨z, q⟩ (by exact q) z <| ?_
  obtain ⟨r3, e4, H⟩ := ob H
  refine dw z (Grd.plain _) z [35, 36] z (s1 (strip_when id) (s1 (strip_when id) s0)) (fun hw => p_c (cycle_all_int_2_ok (bt hw e4)) ent_34 z z z) ⟨z, ⟨z, q⟩⟩ (by exact q) z <| dw z (Grd.plain _) z [37] z (s1 (strip_when id) s0) (fun hw => p_not z) ⟨z, q⟩ (by exact q) z <| dr (p_pkO z z q (strip_when (wf))) z <| dm z z <| dw z (Grd.plain _) z [3] z (s1 strip_same s0) (fun hw => p_fd fld_34_2 z) ⟨z, q⟩ (by exact q) z <| dw z (Grd.plain _) z [41] z (s1 (strip_when id) s0) (fun hw => p_ld ty_32 z z z) ⟨z, q⟩ (by exact ⟨z, q⟩) z <| dw z (Grd.plain _) z [42] z (s1 (strip_when id) s0) (fun hw => p_lenL Tryz.underlying32 z) ⟨z, q⟩ (by exact q) z <| dw z (Grd.plain _) z [0] z (s1 strip_same s0) (fun hw => p_mv z) ⟨z, q⟩ (by exact q) z <| dw z (Grd.plain _) z [44] z (s1 (strip_when id) s0) (fun hw => p_nlP z) ⟨z, q⟩ (by exact q) z <| dw z (Grd.plain _) z [45] z (s1 (strip_when id) s0) (fun hw => p_fdP fld_89_0 z) ⟨z, q⟩ (by exact q) z <| dw z (Grd.plain _) z [46] z (s1 (strip_when id) s0) (fun hw => p_fdP fld_27_5 z) ⟨z, q⟩ (by exact q) z <| dw z (Grd.plain _) z [47] z (s1 (strip_when id) s0) (fun hw => p_ldP ty_24 z z) ⟨z, q⟩ (by exact q) z <| dw z (Grd.plain _) z [48] z (s1 (strip_when id) s0) (fun hw => p_lenL Tryz.underlying24 z) ⟨z, q⟩ (by exact q) z <| dw z (Grd.plain _) z [43, 49] z (s1 (strip_when id) (s1 (strip_when id) s0)) (fun hw => p_neq z z) ⟨z, ⟨z, q⟩⟩ (by exact q) z <| dr (p_pkO z z q (strip_when (wf))) z <| ?_
  refine wd_nil ?_ (by kernel_rfl)
  refine e_n <| ?_
  rcases cn H with ⟨b5, H⟩ | ⟨b5, H⟩
  · refine c_t z b5 ?_
    refine sgr z <| la z z <| ne <| wc_ret <| e_tr <| ?_
    obtain rfl := sm H
    exact fin (Or.inr z) (rs1 (rv z) rs0) (re [] (.dat) z h0)
  refine c_f z b5 <| se <| ?_
  refine w_jn0 H (⟨[], []⟩) ?_ ?_
  · intro H
    rw [cycle_valid_k1] at H
    refine sgr z <| la z z <| ne <| wc_ret <| ?_
    obtain rfl := sm H
    exact fin (Or.inr z) (rs1 (rv z) rs0) (re [] (.dat) z h0)
  intro H
  refine sgr z <| l (p_fd fld_34_2 z) z <| l (p_ld ty_32 z z z) z <| l (p_lenL Tryz.underlying32 z) z <| lm z z <| ne <| wc_block <| w_lp1 H (fun v6 => ⟨[(0, (aP ((enccore_Core x0).drop 0))), (5, (.fn (.func 62) [] [])), (53, (aL 1 (eL 1 (eN .i64)) x1.Units)), (54, (aN .i64 (x1.Units.length : Int))), (55, (aN .i64 v6))], []⟩) (en [] (wd z (ws z z z (wd z (wd z (wd z w0))))) z h0) <| ?_
  intro n2 v6 H
  rw [cycle_valid_b2] at H
  refine sgr z <| l (p_lss z z) z <| ne <| wc_seq <| ?_
  rcases cn H with ⟨b7, H⟩ | ⟨b7, H⟩
  · refine c_t z b7 ?_
    refine se <| wc_seq <| wc_block <| sgr z <| lm z z <| ?_
    obtain ⟨r8, e9, H⟩ := ob H
    refine l (p_ixL Tryz.underlying32 ty_29.size z z e9) z <| l (p_ldP ty_29 z z) z <| la z z <| la z z <| ne <| sgr z <| lm z z <| l (p_lenL Tryz.underlying29 z) z <| lm z z <| l (p_nlP z) z <| l (p_fdP fld_89_0 z) z <| l (p_fdP fld_27_5 z) z <| l (p_ldP ty_24 z z) z <| lm z z <| ?_
    obtain ⟨r10, e11, H⟩ := ob H
    refine l (p_ixL Tryz.underlying24 ty_92.size z z e11) z <| l (p_fdP fld_92_1 z) z <| l (p_ldP ty_3 z z) z <| l (p_neq z z) z <| lm z z <| lw z (Grd.plain _) z [7] z (s1 strip_same s0) (fun hw => p_mv z) ⟨z, q⟩ (by exact q) z z <| lw z (Grd.plain _) z [5] z (s1 strip_same s0) (fun hw => p_mv z) ⟨z, q⟩ (by exact q) z z <| ?_
    obtain ⟨r12, e13, H⟩ := ob H
    refine lw z (Grd.plain _) z [73, 74] z (s1 (strip_when id) (s1 (strip_when id) s0)) (fun hw => p_c (cycle_all_int_2_ok (bt hw e13)) ent_34 z z z) ⟨z, ⟨z, q⟩⟩ (by exact q) z z <| lw z (Grd.plain _) z [75] z (s1 (strip_when id) s0) (fun hw => p_not z) ⟨z, q⟩ (by exact q) z z <| l (p_pkO z z q (strip_when (wf))) z <| lm z z <| lw z (Grd.plain _) z [7] z (s1 strip_same s0) (fun hw => p_mv z) ⟨z, q⟩ (by exact q) z z <| ?_
    obtain ⟨r14, e15, H⟩ := ob H
    refine lw z (Grd.plain _) z [79] z (s1 (strip_when id) s0) (fun hw => p_c (slices_IsSorted_int_int_ok (bt hw e15)) ent_36 z z z) ⟨z, q⟩ (by exact q) z z <| lw z (Grd.plain _) z [80] z (s1 (strip_when id) s0) (fun hw => p_not z) ⟨z, q⟩ (by exact q) z z <| l (p_pkO z z q (strip_when (wf))) z <| ne <| ?_
    rcases cn H with ⟨b16, H⟩ | ⟨b16, H⟩
    · refine c_t z b16 ?_
      refine sgr z <| la z z <| ne <| wc_ret <| ?_
      refine e_br (e_tr (e_tr (e_br (e_tr ?_))))
      obtain rfl := sm H
      exact fin (Or.inr z) (rs1 (rv z) rs0) (re [] (.dat) z h0)
    refine c_f z b16 <| wc_skip <| ?_
    refine e_bn (e_n ?_)
    refine wc_region z <| l (p_add z z) z <| lm z z <| ne <| ?_
    exact ⟨w64 (v6 + 1), H, en [] (wd z (ws z z z (wd z (wd z (wd z w0))))) z h0⟩
  refine c_f z b7 <| wc_exit <| ?_
  refine e_te (e_te (e_h (e_n ?_)))
  exact ⟨H, en [] w0 z h0⟩

def cycle_Start (x0 : Machine) (x1 : Pipe) (x2 : MachOp) : Option (Int × Pipe × Int) :=
  (core_New x0).bind fun r1 =>
  cs2 r1 (fun r1 =>
    bif r1 != 0 then
      some ((0, (Pipe.mk 0 false (([] : List (List Int))) ([] : List Int) 0), r1))
    else none) fun r1 =>
    (cycle_valid r1 x1).bind fun r4 =>
    bif !r4 then
      some ((0, (Pipe.mk 0 false (([] : List (List Int))) ([] : List Int) 0), 8))
    else
      (machine_CheckOp x0 x2).bind fun r7 =>
      bif r7 != 0 then
        some ((0, (Pipe.mk 0 false (([] : List (List Int))) ([] : List Int) 0), r7))
      else
        (core_Core_Begin r1 x1 x2).bind fun r10 =>
        bif decide (1099511627776 < r10.1) then some ((0, (Pipe.mk 0 false (([] : List (List Int))) ([] : List Int) 0), 30)) else some (r10.1, r10.2, 0)
theorem cycle_Start_ok {x0 : Machine} {x1 : Pipe} {x2 : MachOp} {R : Int × Pipe × Int} (H : cycle_Start x0 x1 x2 = some R) : FnOk Tryz.prog K0 10 [(aA (encMachine x0)), (aA (encPipe x1)), (aA (encMachOp x2))] [] (.tup [(aN .i64 R.1), (aA (encPipe R.2.1)), (aN .i64 R.2.2)]) [] := by
  refine fn_w (nt := 46) (np := 0) Tryz.func10 z z (by simp) (np_of2 z) <| ?_
  unfold cycle_Start at H
  refine sgr z <| lh (p_bx 0 z q z) z <| lh (p_bx 1 z q z) z <| lh (p_bx 2 z q z) z <| la z z <| lh (p_al 3 zr_34 z) z <| la z z <| ne <| sgr z <| l (p_ldB (ds := (encMachine x0).map .data) ty_27 z z z z) z <| ?_
  obtain ⟨r1, e2, H⟩ := ob H
  rcases r1 with r1 | r1
  · replace H := csl H
    refine l (p_c (core_New_okL e2) ent_26 z z z) z <| lm z z <| l (p_ex z z) z <| l (p_ex z z) z <| la z z <| la z z <| ne <| wc_seq <| sgr z <| lm z z <| l (p_neq z z) z <| ne <| ?_
    rcases cn H with ⟨b3, H⟩ | ⟨b3, H⟩
    · refine c_t z b3 ?_
      refine sgr z <| l (p_bd (cs := [(aN .i64 0), (aT false), aNil, aNil, (aN .i64 0)]) pl_34 zr_34 z q z) z <| lm z z <| la z z <| l0h (p_stA (ds := [(aN .i64 0), (aT false), aNil, aNil, (aN .i64 0)]) ty_34 z z z z z z) <| la z z <| ne <| wc_ret <| e_tr <| ?_
      obtain rfl := sm H
      exact fin (Or.inr z) (rs1 (rv z) (rs1 (rva (ds := [(aN .i64 0), (aT false), aNil, aNil, (aN .i64 0)]) ty_34 z z z z) (rs1 (rv z) rs0))) (re2 [] ⟨.dat, ⟨.sub (sg ⟨sr, ⟨sr, ⟨sn, ⟨sn, ⟨sr, q⟩⟩⟩⟩⟩) z, ⟨.dat, q⟩⟩⟩ z h0)
    cases H
  replace H := csr H
  refine l (p_c (core_New_okR e2) ent_26 z z z) z <| lm z z <| l (p_ex z z) z <| l (p_ex z z) z <| la z z <| la z z <| ne <| wc_seq <| sgr z <| lm z z <| l (p_neq z z) z <| ne <| c_f z z <| se <| wc_seq <| sgr z <| lm z z <| l (p_ldB (ds := (encPipe x1).map .data) ty_34 z z z z) z <| ?_
  obtain ⟨r4, e5, H⟩ := ob H
  refine l (p_c (cycle_valid_ok e5) ent_28 z z z) z <| l (p_not z) z <| ne <| ?_
  rcases cn H with ⟨b6, H⟩ | ⟨b6, H⟩
  · refine c_t z b6 ?_
    refine sgr z <| l (p_bd (cs := [(aN .i64 0), (aT false), aNil, aNil, (aN .i64 0)]) pl_34 zr_34 z q z) z <| la z z <| l0h (p_stA (ds := [(aN .i64 0), (aT false), aNil, aNil, (aN .i64 0)]) ty_34 z z z z z z) <| la z z <| ne <| wc_ret <| e_tr <| ?_
    obtain rfl := sm H
    exact fin (Or.inr z) (rs1 (rv z) (rs1 (rva (ds := [(aN .i64 0), (aT false), aNil, aNil, (aN .i64 0)]) ty_34 z z z z) (rs1 (rv z) rs0))) (re2 [] ⟨.dat, ⟨.sub (sg ⟨sr, ⟨sr, ⟨sn, ⟨sn, ⟨sr, q⟩⟩⟩⟩⟩) z, ⟨.dat, q⟩⟩⟩ z h0)
  refine c_f z b6 <| se <| wc_seq <| sgr z <| l (p_ldB (ds := (encMachine x0).map .data) ty_27 z z z z) z <| l (p_ldB (ds := (encMachOp x2).map .data) ty_31 z z z z) z <| ?_
  obtain ⟨r7, e8, H⟩ := ob H
  refine l (p_c (machine_CheckOp_ok e8) ent_29 z z z) z <| la z z <| ne <| sgr z <| lm z z <| l (p_neq z z) z <| ne <| ?_
  rcases cn H with ⟨b9, H⟩ | ⟨b9, H⟩
  · refine c_t z b9 ?_
    refine sgr z <| l (p_bd (cs := [(aN .i64 0), (aT false), aNil, aNil, (aN .i64 0)]) pl_34 zr_34 z q z) z <| lm z z <| la z z <| l0h (p_stA (ds := [(aN .i64 0), (aT false), aNil, aNil, (aN .i64 0)]) ty_34 z z z z z z) <| la z z <| ne <| wc_ret <| e_tr <| ?_
    obtain rfl := sm H
    exact fin (Or.inr z) (rs1 (rv z) (rs1 (rva (ds := [(aN .i64 0), (aT false), aNil, aNil, (aN .i64 0)]) ty_34 z z z z) (rs1 (rv z) rs0))) (re2 [] ⟨.dat, ⟨.sub (sg ⟨sr, ⟨sr, ⟨sn, ⟨sn, ⟨sr, q⟩⟩⟩⟩⟩) z, ⟨.dat, q⟩⟩⟩ z h0)
  refine c_f z b9 <| se <| sgr z <| lm z z <| l (p_ldB (ds := (encPipe x1).map .data) ty_34 z z z z) z <| l (p_ldB (ds := (encMachOp x2).map .data) ty_31 z z z z) z <| ?_
  obtain ⟨r10, e11, H⟩ := ob H
  refine l (p_c (core_Core_Begin_ok e11) ent_30 z z z) z <| lm z z <| l (p_ex z z) z <| l (p_ex z z) z <| lh (p_al 4 zr_34 z) z <| la z z <| l0h (p_stA (ds := (encPipe r10.2).map .data) ty_34 z z z z z z) <| ne <| wc_seq <| sgr z <| lm z z <| l (p_gtr z z) z <| ne <| ?_
  rcases cn H with ⟨b12, H⟩ | ⟨b12, H⟩
  · refine c_t z b12 ?_
    refine sgr z <| l (p_bd (cs := [(aN .i64 0), (aT false), aNil, aNil, (aN .i64 0)]) pl_34 zr_34 z q z) z <| la z z <| l0h (p_stA (ds := [(aN .i64 0), (aT false), aNil, aNil, (aN .i64 0)]) ty_34 z z z z z z) <| la z z <| ne <| wc_ret <| e_tr <| ?_
    obtain rfl := sm H
    exact fin (Or.inr z) (rs1 (rv z) (rs1 (rva (ds := [(aN .i64 0), (aT false), aNil, aNil, (aN .i64 0)]) ty_34 z z z z) (rs1 (rv z) rs0))) (re2 [] ⟨.dat, ⟨.sub (sg ⟨sr, ⟨sr, ⟨sn, ⟨sn, ⟨sr, q⟩⟩⟩⟩⟩) z, ⟨.dat, q⟩⟩⟩ z h0)
  refine c_f z b12 <| se <| wc_seq <| wc_draw [0, 0, 1, 7, 15] mixed z <| dm z z <| dr (p_ldB (ds := (encPipe r10.2).map .data) ty_34 z z z z) z <| da z z <| dr0h (p_stA (ds := (encPipe r10.2).map .data) ty_34 z z z z z z) <| da z z <| ?_
  refine wd_nil ?_ (by kernel_rfl)
  refine e_n <| wc_ret <| ?_
  obtain rfl := sm H
  exact fin (Or.inr z) (rs1 (rv z) (rs1 (rva (ds := (encPipe r10.2).map .data) ty_34 z z z z) (rs1 (rv z) rs0))) (re2 [] ⟨.dat, ⟨.adat, ⟨.dat, q⟩⟩⟩ z h0)

def retargetlaw16_CycleSteps_k1 (r1 : Bool) (r8 : Int × Int) : Int → Option Bool
  | v14 =>
    some (r1 && (r8.1 == v14))
def retargetlaw16_CycleSteps_b2 (x0 : Machine) (x1 : List MachOp) (r6 : (List Int) × Int) (k1 : Int → Option Bool) (rec2 : Int × Int × Pipe → Option Bool) : Int × Int × Pipe → Option Bool
  | (v15, v16, v17) =>
    bif decide (v16 < (x1.length : Int)) then
      (ix x1 v16).bind fun r19 =>
      (cycle_Start x0 v17 r19).bind fun r21 =>
      (bif (true && ((r21.2.2 != 0) == false)) then ix r6.1 v16 else some default).bind fun r23 =>
      (bif (true && ((((r21.2.2 != 0) || (r21.1 != r23)) || (r21.2.1.At != r21.1)) == false)) then ix x1 v16 else some default).bind fun r25 =>
      (bif (true && (((((r21.2.2 != 0) || (r21.1 != r23)) || (r21.2.1.At != r21.1)) || (decide (r25.Instr < 0))) == false)) then ix x1 v16 else some default).bind fun r27 =>
      bif ((((r21.2.2 != 0) || (r21.1 != r23)) || (r21.2.1.At != r21.1)) || (decide (r25.Instr < 0))) || (decide ((x0.Instrs.length : Int) ≤ r27.Instr)) then
        some false
      else
        (ix x1 v16).bind fun r30 =>
        (ix x0.Instrs r30.Instr).bind fun r32 =>
        rec2 ((max v15 (max (w64 (r21.1 + r32.Busy)) (w64 (r21.1 + r32.Latency))), w64 (v16 + 1), r21.2.1))
    else
      k1 v15
def retargetlaw16_CycleSteps (x0 : Machine) (x1 : List MachOp) : Option Bool :=
  (retargetlaw16_alive).bind fun r1 =>
  (retargetlaw16_great x0 x1).bind fun r3 =>
  bif r3 || (!r1) then
    some r1
  else
    (cycle_Starts x0 x1).bind fun r6 =>
    (cycle_Length x0 x1).bind fun r8 =>
    (cycle_New x0).bind fun r10 =>
    bif (r6.2 != r8.2) || (r6.2 != 0) then
      some ((r1 && (r6.2 == r8.2)) && (r8.1 == 0))
    else
      bif (r10.2 != 0) || ((r6.1.length : Int) != (x1.length : Int)) then
        some false
      else
        jn (retargetlaw16_CycleSteps_k1 r1 r8) fun k1 =>
        lp (retargetlaw16_CycleSteps_b2 x0 x1 r6 k1) (x1.length + 1) (0, 0, r10.1)
theorem retargetlaw16_CycleSteps_ok {x0 : Machine} {x1 : List MachOp} {R : Bool} (H : retargetlaw16_CycleSteps x0 x1 = some R) : FnOk Tryz.prog K0 6 [(aA (encMachine x0)), (aL 2 encMachOp x1)] [] (aT R) [] := by
  refine fn_w (nt := 149) (np := 0) Tryz.func6 z z (by simp) (np_of2 z) <| ?_
  unfold retargetlaw16_CycleSteps at H
  refine sgr z <| lh (p_bx 0 z q z) z <| la z z <| ne <| sgr z <| ?_
  obtain ⟨r1, e2, H⟩ := ob H
  refine l (p_c (retargetlaw16_alive_ok e2) ent_18 z z z) z <| la z z <| ne <| wc_seq <| sgr z <| l (p_ldB (ds := (encMachine x0).map .data) ty_27 z z z z) z <| lm z z <| ?_
  obtain ⟨r3, e4, H⟩ := ob H
  refine l (p_c (retargetlaw16_great_ok e4) ent_19 z z z) z <| lm z z <| lw z (Grd.plain _) z [5] z (s1 strip_same s0) (fun hw => p_mv z) ⟨z, q⟩ (by exact q) z z <| lw z (Grd.plain _) z [23] z (s1 (strip_when id) s0) (fun hw => p_not z) ⟨z, q⟩ (by exact q) z z <| l (p_pkO z z q (strip_when (wf))) z <| ne <| ?_
  rcases cn H with ⟨b5, H⟩ | ⟨b5, H⟩
  · refine c_t z b5 ?_
    refine sgr z <| lm z z <| la z z <| ne <| wc_ret <| e_tr <| ?_
    obtain rfl := sm H
    exact fin (Or.inr z) (rs1 (rv z) rs0) (re [] (.dat) z h0)
  refine c_f z b5 <| se <| sgr z <| l (p_ldB (ds := (encMachine x0).map .data) ty_27 z z z z) z <| lm z z <| ?_
  obtain ⟨r6, e7, H⟩ := ob H
  refine l (p_c (cycle_Starts_ok e7) ent_14 z z z) z <| lm z z <| l (p_ex z z) z <| l (p_ex z z) z <| la z z <| la z z <| ne <| sgr z <| l (p_ldB (ds := (encMachine x0).map .data) ty_27 z z z z) z <| lm z z <| ?_
  obtain ⟨r8, e9, H⟩ := ob H
  refine l (p_c (cycle_Length_ok e9) ent_16 z z z) z <| lm z z <| l (p_ex z z) z <| l (p_ex z z) z <| la z z <| la z z <| ne <| sgr z <| l (p_ldB (ds := (encMachine x0).map .data) ty_27 z z z z) z <| ?_
  obtain ⟨r10, e11, H⟩ := ob H
  refine l (p_c (cycle_New_ok e11) ent_9 z z z) z <| lm z z <| l (p_ex z z) z <| l (p_ex z z) z <| lh (p_al 1 zr_34 z) z <| l0h (p_stA (ds := (encPipe r10.1).map .data) ty_34 z z z z z z) <| la z z <| ne <| wc_seq <| sgr z <| lm z z <| lm z z <| l (p_neq z z) z <| lm z z <| lw z (Grd.plain _) z [7] z (s1 strip_same s0) (fun hw => p_mv z) ⟨z, q⟩ (by exact q) z z <| lw z (Grd.plain _) z [48] z (s1 (strip_when id) s0) (fun hw => p_neq z z) ⟨z, q⟩ (by exact q) z z <| l (p_pkO z z q (strip_when (wf))) z <| ne <| ?_
  rcases cn H with ⟨b12, H⟩ | ⟨b12, H⟩
  · refine c_t z b12 ?_
    refine sgr z <| lm z z <| lm z z <| lw z (Grd.plain _) z [7] z (s1 strip_same s0) (fun hw => p_mv z) ⟨z, q⟩ (by exact q) z z <| lw z (Grd.plain _) z [9] z (s1 strip_same s0) (fun hw => p_mv z) ⟨z, q⟩ (by exact q) z z <| lw z (Grd.plain _) z [53, 54] z (s1 (strip_when id) (s1 (strip_when id) s0)) (fun hw => p_eql z z) ⟨z, ⟨z, q⟩⟩ (by exact q) z z <| l (p_pkA z z q (strip_when (wt))) z <| lm z z <| lw z (Grd.plain _) z [8] z (s1 strip_same s0) (fun hw => p_mv z) ⟨z, q⟩ (by exact q) z z <| lw z (Grd.plain _) z [58] z (s1 (strip_when id) s0) (fun hw => p_eql z z) ⟨z, q⟩ (by exact q) z z <| l (p_pkA z z q (strip_when (wt))) z <| la z z <| ne <| wc_ret <| e_tr <| ?_
    obtain rfl := sm H
    exact fin (Or.inr z) (rs1 (rv z) rs0) (re [] (.dat) z h0)
  refine c_f z b12 <| se <| wc_seq <| sgr z <| lm z z <| l (p_neq z z) z <| lm z z <| lw z (Grd.plain _) z [6] z (s1 strip_same s0) (fun hw => p_mv z) ⟨z, q⟩ (by exact q) z z <| lw z (Grd.plain _) z [64] z (s1 (strip_when id) s0) (fun hw => p_lenL Tryz.underlying29 z) ⟨z, q⟩ (by exact q) z z <| lw z (Grd.plain _) z [1] z (s1 strip_same s0) (fun hw => p_mv z) ⟨z, q⟩ (by exact q) z z <| lw z (Grd.plain _) z [66] z (s1 (strip_when id) s0) (fun hw => p_lenL Tryz.underlying46 z) ⟨z, q⟩ (by exact q) z z <| lw z (Grd.plain _) z [65, 67] z (s1 (strip_when id) (s1 (strip_when id) s0)) (fun hw => p_neq z z) ⟨z, ⟨z, q⟩⟩ (by exact q) z z <| l (p_pkO z z q (strip_when (wf))) z <| ne <| ?_
  rcases cn H with ⟨b13, H⟩ | ⟨b13, H⟩
  · refine c_t z b13 ?_
    refine sgr z <| la z z <| ne <| wc_ret <| e_tr <| ?_
    obtain rfl := sm H
    exact fin (Or.inr z) (rs1 (rv z) rs0) (re [] (.dat) z h0)
  refine c_f z b13 <| se <| sgr z <| la z z <| ne <| ?_
  refine w_jn1 H (fun v14 => ⟨[(5, (aT r1)), (8, (aN .i64 r8.1)), (12, (aN .i64 v14))], []⟩) ?_ ?_
  · intro v14 H
    rw [retargetlaw16_CycleSteps_k1] at H
    refine sgr z <| lm z z <| lm z z <| lw z (Grd.plain _) z [8] z (s1 strip_same s0) (fun hw => p_mv z) ⟨z, q⟩ (by exact q) z z <| lw z (Grd.plain _) z [12] z (s1 strip_same s0) (fun hw => p_mv z) ⟨z, q⟩ (by exact q) z z <| lw z (Grd.plain _) z [145, 146] z (s1 (strip_when id) (s1 (strip_when id) s0)) (fun hw => p_eql z z) ⟨z, ⟨z, q⟩⟩ (by exact q) z z <| l (p_pkA z z q (strip_when (wt))) z <| la z z <| ne <| wc_ret <| ?_
    obtain rfl := sm H
    exact fin (Or.inr z) (rs1 (rv z) rs0) (re [] (.dat) z h0)
  intro H
  refine sgr z <| la z z <| ne <| wc_block <| w_lp3 H (fun v15 v16 v17 => ⟨[(1, (aL 2 encMachOp x1)), (2, (.ptr 0 0)), (5, (aT r1)), (6, (aL 1 (eN .i64) r6.1)), (8, (aN .i64 r8.1)), (10, (.ptr 1 0)), (12, (aN .i64 v15)), (13, (aN .i64 v16))], [(0, (oD 27 (encMachine x0))), (1, (oD 34 (encPipe v17)))]⟩) (en [(0, 0), (1, 1)] (wd z (ws z z z (wd z (wd z (wd z (ws z z z (wd z (wd z w0)))))))) z (hc z (hc z h0))) <| ?_
  intro n2 v15 v16 v17 H
  rw [retargetlaw16_CycleSteps_b2] at H
  refine wc_seq <| sgr z <| lm z z <| lm z z <| l (p_lenL Tryz.underlying46 z) z <| l (p_lss z z) z <| ne <| ?_
  rcases cn H with ⟨b18, H⟩ | ⟨b18, H⟩
  · refine c_t z b18 ?_
    refine se <| wc_seq <| wc_block <| wc_seq <| wc_draw [0, 0, 0, 0, 12, 28, 63, 127, 255, 255, 255, 0, 2559, 7167, 16383] mixed z <| dr (p_ldB (ds := (encMachine x0).map .data) ty_27 z z z z) z <| dr (p_ldB (ds := (encPipe v17).map .data) ty_34 z z z z) z <| dm z z <| dm z z <| ?_
    obtain ⟨r19, e20, H⟩ := ob H
    refine dr (p_ixL Tryz.underlying46 ty_31.size z z e20) z <| dr (p_ldA (ds := encMachOp r19) ty_31 z z z) z <| ?_
    obtain ⟨r21, e22, H⟩ := ob H
    refine dr (p_c (cycle_Start_ok e22) ent_10 z z z) z <| dm z z <| dr (p_ex z z) z <| dr (p_ex z z) z <| dr (p_ex z z) z <| drh (p_al 4 zr_34 z) z <| da z z <| dr0h (p_stA (ds := (encPipe r21.2.1).map .data) ty_34 z z z z z z) <| da z z <| ?_
    refine wd_nil ?_ (by kernel_rfl)
    refine e_n <| wc_seq <| wc_seq <| wc_draw [0, 1, 3, 7, 7, 7, 55, 119, 255, 511, 1023, 2047, 4095, 2047, 16383, 32767, 65535, 131071, 131071, 524287, 1048575, 2097151, 4194303, 8388607, 16777215, 33554431, 33554431, 134217727, 268435455, 536870911, 33554431, 1107296255, 3254779903, 8589934591, 17179869183] mixed z <| dm z z <| dr (p_neq z z) z <| dm z z <| dw z (Grd.plain _) z [14] z (s1 strip_same s0) (fun hw => p_mv z) ⟨z, q⟩ (by exact q) z <| dw z (Grd.plain _) z [6] z (s1 strip_same s0) (fun hw => p_mv z) ⟨z, q⟩ (by exact q) z <| dw z (Grd.plain _) z [13] z (s1 strip_same s0) (fun hw => p_mv z) ⟨z, q⟩ (by exact q) z <| ?_
    obtain ⟨r23, e24, H⟩ := ob H
    refine dw z (Grd.plain _) z [91, 92] z (s1 (strip_when id) (s1 (strip_when id) s0)) (fun hw => p_ixL Tryz.underlying29 ty_3.size z z (bt hw e24)) ⟨z, ⟨z, q⟩⟩ (by exact q) z <| dw z (Grd.plain _) z [93] z (s1 (strip_when id) s0) (fun hw => p_ldP ty_3 z z) ⟨z, q⟩ (by exact q) z <| dw z (Grd.plain _) z [90, 94] z (s1 (strip_when id) (s1 (strip_when id) s0)) (fun hw => p_neq z z) ⟨z, ⟨z, q⟩⟩ (by exact q) z <| dr (p_pkO z z q (strip_when (wf))) z <| dm z z <| dw z (Grd.plain _) z [15] z (s1 strip_same s0) (fun hw => p_fd fld_34_0 z) ⟨z, q⟩ (by exact q) z <| dw z (Grd.plain _) z [98] z (s1 (strip_when id) s0) (fun hw => p_ld ty_3 z z z) ⟨z, q⟩ (by exact ⟨z, q⟩) z <| dw z (Grd.plain _) z [14] z (s1 strip_same s0) (fun hw => p_mv z) ⟨z, q⟩ (by exact q) z <| dw z (Grd.plain _) z [99, 100] z (s1 (strip_when id) (s1 (strip_when id) s0)) (fun hw => p_neq z z) ⟨z, ⟨z, q⟩⟩ (by exact q) z <| dr (p_pkO z z q (strip_when (wf))) z <| dm z z <| dw z (Grd.plain _) z [1] z (s1 strip_same s0) (fun hw => p_mv z) ⟨z, q⟩ (by exact q) z <| dw z (Grd.plain _) z [13] z (s1 strip_same s0) (fun hw => p_mv z) ⟨z, q⟩ (by exact q) z <| ?_
    obtain ⟨r25, e26, H⟩ := ob H
    refine dw z (Grd.plain _) z [104, 105] z (s1 (strip_when id) (s1 (strip_when id) s0)) (fun hw => p_ixL Tryz.underlying46 ty_31.size z z (bt hw e26)) ⟨z, ⟨z, q⟩⟩ (by exact q) z <| dw z (Grd.plain _) z [106] z (s1 (strip_when id) s0) (fun hw => p_fdP fld_31_0 z) ⟨z, q⟩ (by exact q) z <| dw z (Grd.plain _) z [107] z (s1 (strip_when id) s0) (fun hw => p_ldP ty_3 z z) ⟨z, q⟩ (by exact q) z <| dw z (Grd.plain _) z [108] z (s1 (strip_when id) s0) (fun hw => p_lss z z) ⟨z, q⟩ (by exact q) z <| dr (p_pkO z z q (strip_when (wf))) z <| dm z z <| dw z (Grd.plain _) z [1] z (s1 strip_same s0) (fun hw => p_mv z) ⟨z, q⟩ (by exact q) z <| dw z (Grd.plain _) z [13] z (s1 strip_same s0) (fun hw => p_mv z) ⟨z, q⟩ (by exact q) z <| ?_
    obtain ⟨r27, e28, H⟩ := ob H
    refine dw z (Grd.plain _) z [112, 113] z (s1 (strip_when id) (s1 (strip_when id) s0)) (fun hw => p_ixL Tryz.underlying46 ty_31.size z z (bt hw e28)) ⟨z, ⟨z, q⟩⟩ (by exact q) z <| dw z (Grd.plain _) z [114] z (s1 (strip_when id) s0) (fun hw => p_fdP fld_31_0 z) ⟨z, q⟩ (by exact q) z <| dw z (Grd.plain _) z [115] z (s1 (strip_when id) s0) (fun hw => p_ldP ty_3 z z) ⟨z, q⟩ (by exact q) z <| dw z (Grd.plain _) z [2] z (s1 strip_same s0) (fun hw => p_fd fld_27_6 z) ⟨z, q⟩ (by exact q) z <| dw z (Grd.plain _) z [117] z (s1 (strip_when id) s0) (fun hw => p_ld ty_25 z z z) ⟨z, q⟩ (by exact ⟨z, q⟩) z <| dw z (Grd.plain _) z [118] z (s1 (strip_when id) s0) (fun hw => p_lenL Tryz.underlying25 z) ⟨z, q⟩ (by exact q) z <| dw z (Grd.plain _) z [116, 119] z (s1 (strip_when id) (s1 (strip_when id) s0)) (fun hw => p_geq z z) ⟨z, ⟨z, q⟩⟩ (by exact q) z <| dr (p_pkO z z q (strip_when (wf))) z <| ?_
    refine wd_nil ?_ (by kernel_rfl)
    refine e_n <| ?_
    rcases cn H with ⟨b29, H⟩ | ⟨b29, H⟩
    · refine c_t z b29 ?_
      refine sgr z <| la z z <| ne <| wc_ret <| ?_
      refine e_tr (e_br (e_tr (e_tr (e_br (e_tr ?_)))))
      obtain rfl := sm H
      exact fin (Or.inr z) (rs1 (rv z) rs0) (re [] (.dat) z h0)
    refine c_f z b29 <| se <| wc_seq <| wc_draw [0, 1, 0, 0, 12, 28, 60, 127, 255, 0, 1023] mixed z <| dr (p_fd fld_27_6 z) z <| dr (p_ld ty_25 z z z) z <| dm z z <| dm z z <| ?_
    obtain ⟨r30, e31, H⟩ := ob H
    refine dr (p_ixL Tryz.underlying46 ty_31.size z z e31) z <| dr (p_fdP fld_31_0 z) z <| dr (p_ldP ty_3 z z) z <| ?_
    obtain ⟨r32, e33, H⟩ := ob H
    refine dr (p_ixL Tryz.underlying25 ty_61.size z z e33) z <| dr (p_ldA (ds := encMachInstr r32) ty_61 z z z) z <| drh (p_al 5 zr_61 z) z <| dr0h (p_stA (ds := (encMachInstr r32).map .data) ty_61 z z z z z z) <| ?_
    refine wd_nil ?_ (by kernel_rfl)
    refine e_n <| sgr z <| lm z z <| lm z z <| l (p_fd fld_61_6 z) z <| l (p_ld ty_3 z z z) z <| l (p_add z z) z <| lm z z <| l (p_fd fld_61_7 z) z <| l (p_ld ty_3 z z z) z <| l (p_add z z) z <| l (p_max z z) z <| l (p_max z z) z <| la z z <| ne <| wc_region z <| l (p_ldB (ds := (encPipe r21.2.1).map .data) ty_34 z z z z) z <| l0h (p_stA (ds := (encPipe r21.2.1).map .data) ty_34 z z z z z z) <| wl_nil <| ?_
    refine e_bn (e_n ?_)
    refine wc_region z <| lm z z <| l (p_add z z) z <| la z z <| ne <| ?_
    exact ⟨max v15 (max (w64 (r21.1 + r32.Busy)) (w64 (r21.1 + r32.Latency))), w64 (v16 + 1), r21.2.1, H, en [(0, 0), (1, 1)] (wd z (ws z z z (wd z (wd z (wd z (ws z z z (wd z (wd z w0)))))))) z (hc z (hc z h0))⟩
  refine c_f z b18 <| wc_exit <| ?_
  refine e_te (e_te (e_h (e_n ?_)))
  exact ⟨v15, H, en [] (wd z (wd z (wd z w0))) z h0⟩
end Go.Proofs.YtgmpgoafokdcbaaGreatDoor.Sx
