/- Plain functions and their proofs, part 2: what the functions of the given program compute; printed by a program of this repo (dxmake.py). -/
import Derived.Test.YtgmpgoafokdcbaaGreatDoorO0
import Derived.Test.YtgmpgoafokdcbaaGreatDoorProg
set_option linter.unusedVariables false
set_option linter.unusedSimpArgs false
set_option maxRecDepth 100000
set_option maxHeartbeats 4000000
namespace Go.Proofs.YtgmpgoafokdcbaaGreatDoor.Sx
open Go Go.RowKit
def term_widths (x0 : Term) (x1 : Int) : Option Bool :=
  (ix x0.Sub 0).bind fun r1 =>
  bif x1 == 1 then
    (slices_ContainsFunc_api_Term_api_Term x0.Sub x0.Width).bind fun r4 =>
    some (!r4)
  else
    bif x1 == 2 then
      (bif (true && ((x0.Width == 1) == true)) then ix x0.Sub 1 else some default).bind fun r7 =>
      some ((x0.Width == 1) && (r7.Width == r1.Width))
    else
      bif x1 == 3 then
        (bif (true && ((r1.Width == 1) == true)) then ix x0.Sub 1 else some default).bind fun r10 =>
        (bif (true && (((r1.Width == 1) && (r10.Width == x0.Width)) == true)) then ix x0.Sub 2 else some default).bind fun r12 =>
        some (((r1.Width == 1) && (r10.Width == x0.Width)) && (r12.Width == x0.Width))
      else
        bif x1 == 4 then
          (term_wide r1.Width).bind fun r15 =>
          (bif (true && (r15 == true)) then ix x0.Sub 1 else some default).bind fun r17 =>
          (bif (true && (r15 == true)) then term_wide r17.Width else some default).bind fun r19 =>
          (bif (true && ((r15 && r19) == true)) then ix x0.Sub 1 else some default).bind fun r21 =>
          some ((r15 && r19) && ((w64 (r1.Width + r21.Width)) == x0.Width))
        else
          bif x1 == 5 then
            (bif (true && ((decide (0 ≤ x0.Low)) == true)) then term_wide r1.Width else some default).bind fun r24 =>
            some ((((decide (0 ≤ x0.Low)) && r24) && (decide (x0.Width ≤ r1.Width))) && (decide (x0.Low ≤ (w64 (r1.Width - x0.Width)))))
          else
            bif x1 == 6 then
              some (decide (r1.Width ≤ x0.Width))
            else
              (term_loadable x0.Width).bind fun r27 =>
              some r27
theorem term_widths_ok {x0 : Term} {x1 : Int} {R : Bool} (H : term_widths x0 x1 = some R) : FnOk Tryz.prog K0 142 [(aA (encTermX x0)), (aN .i64 x1)] [] (aT R) [] := by
  refine fn_w (nt := 109) (np := 0) Tryz.func142 z z (by simp) (np_of2 z) <| ?_
  unfold term_widths at H
  refine sgr z <| lh (p_bx 0 z q z) z <| la z z <| ne <| sgr z <| l (p_fd fld_114_1 z) z <| l (p_ld ty_3 z z z) z <| lh (p_al 1 zr_3 z) z <| l0h (p_st ty_3 z z z q z z) <| ne <| sgr z <| l (p_fd fld_114_5 z) z <| l (p_ld ty_112 z z z) z <| ?_
  obtain ⟨r1, e2, H⟩ := ob H
  refine l (p_ixX (encTerm_X _) Tryz.underlying112 ty_114.size z z e2) z <| l (p_fdP fld_114_1 z) z <| l (p_ldP ty_3 z z) z <| la z z <| ne <| wc_seq <| sgr z <| lm z z <| ne <| wc_block <| sgr z <| l (p_eql z z) z <| la z z <| ne <| ?_
  rcases cn H with ⟨b3, H⟩ | ⟨b3, H⟩
  · refine c_t z b3 ?_
    refine sgr z <| l (p_fd fld_114_5 z) z <| l (p_ld ty_112 z z z) z <| l (p_mf z z) z <| ?_
    obtain ⟨r4, e5, H⟩ := ob H
    refine lh (p_ch (ids := [1]) (slices_ContainsFunc_api_Term_api_Term_ok e5) ent_144 z z (rc z z rn) (rc z z rn) z ⟨z, q⟩ (by decide) z z z (oc z on) (oc z on) z) z <| l (p_not z) z <| la z z <| ne <| wc_ret <| ?_
    refine e_br (e_tr ?_)
    obtain rfl := sm H
    exact fin (Or.inr z) (rs1 (rv z) rs0) (re [] (.dat) z h0)
  refine c_f z b3 <| sgr z <| l (p_eql z z) z <| la z z <| ne <| ?_
  rcases cn H with ⟨b6, H⟩ | ⟨b6, H⟩
  · refine c_t z b6 ?_
    refine sgr z <| l (p_ld ty_3 z z z) z <| l (p_eql z z) z <| lm z z <| lw z (Grd.plain _) z [2] z (s1 strip_same s0) (fun hw => p_fd fld_114_5 z) ⟨z, q⟩ (by exact q) z z <| lw z (Grd.plain _) z [27] z (s1 (strip_when id) s0) (fun hw => p_ld ty_112 z z z) ⟨z, q⟩ (by exact ⟨z, q⟩) z z <| ?_
    obtain ⟨r7, e8, H⟩ := ob H
    refine lw z (Grd.plain _) z [28] z (s1 (strip_when id) s0) (fun hw => p_ixX (encTerm_X _) Tryz.underlying112 ty_114.size z z (bt hw e8)) ⟨z, q⟩ (by exact q) z z <| lw z (Grd.plain _) z [29] z (s1 (strip_when id) s0) (fun hw => p_fdP fld_114_1 z) ⟨z, q⟩ (by exact q) z z <| lw z (Grd.plain _) z [30] z (s1 (strip_when id) s0) (fun hw => p_ldP ty_3 z z) ⟨z, q⟩ (by exact q) z z <| lw z (Grd.plain _) z [6] z (s1 strip_same s0) (fun hw => p_mv z) ⟨z, q⟩ (by exact q) z z <| lw z (Grd.plain _) z [31, 32] z (s1 (strip_when id) (s1 (strip_when id) s0)) (fun hw => p_eql z z) ⟨z, ⟨z, q⟩⟩ (by exact q) z z <| l (p_pkA z z q (strip_when (wt))) z <| la z z <| ne <| wc_ret <| ?_
    refine e_br (e_tr ?_)
    obtain rfl := sm H
    exact fin (Or.inr z) (rs1 (rv z) rs0) (re [] (.dat) z h0)
  refine c_f z b6 <| sgr z <| l (p_eql z z) z <| la z z <| ne <| ?_
  rcases cn H with ⟨b9, H⟩ | ⟨b9, H⟩
  · refine c_t z b9 ?_
    refine wc_seq <| wc_draw [0, 1, 3, 7, 15, 31, 63, 127, 7, 511, 1023, 2047, 4095, 8191, 16383, 32767, 65535, 4095, 262143, 524287, 1048575] mixed z <| dm z z <| dr (p_eql z z) z <| dm z z <| dw z (Grd.plain _) z [2] z (s1 strip_same s0) (fun hw => p_fd fld_114_5 z) ⟨z, q⟩ (by exact q) z <| dw z (Grd.plain _) z [40] z (s1 (strip_when id) s0) (fun hw => p_ld ty_112 z z z) ⟨z, q⟩ (by exact ⟨z, q⟩) z <| ?_
    obtain ⟨r10, e11, H⟩ := ob H
    refine dw z (Grd.plain _) z [41] z (s1 (strip_when id) s0) (fun hw => p_ixX (encTerm_X _) Tryz.underlying112 ty_114.size z z (bt hw e11)) ⟨z, q⟩ (by exact q) z <| dw z (Grd.plain _) z [42] z (s1 (strip_when id) s0) (fun hw => p_fdP fld_114_1 z) ⟨z, q⟩ (by exact q) z <| dw z (Grd.plain _) z [43] z (s1 (strip_when id) s0) (fun hw => p_ldP ty_3 z z) ⟨z, q⟩ (by exact q) z <| dw z (Grd.plain _) z [5] z (s1 strip_same s0) (fun hw => p_ld ty_3 z z z) ⟨z, q⟩ (by exact ⟨z, q⟩) z <| dw z (Grd.plain _) z [44, 45] z (s1 (strip_when id) (s1 (strip_when id) s0)) (fun hw => p_eql z z) ⟨z, ⟨z, q⟩⟩ (by exact q) z <| dr (p_pkA z z q (strip_when (wt))) z <| dm z z <| dw z (Grd.plain _) z [2] z (s1 strip_same s0) (fun hw => p_fd fld_114_5 z) ⟨z, q⟩ (by exact q) z <| dw z (Grd.plain _) z [49] z (s1 (strip_when id) s0) (fun hw => p_ld ty_112 z z z) ⟨z, q⟩ (by exact ⟨z, q⟩) z <| ?_
    obtain ⟨r12, e13, H⟩ := ob H
    refine dw z (Grd.plain _) z [50] z (s1 (strip_when id) s0) (fun hw => p_ixX (encTerm_X _) Tryz.underlying112 ty_114.size z z (bt hw e13)) ⟨z, q⟩ (by exact q) z <| dw z (Grd.plain _) z [51] z (s1 (strip_when id) s0) (fun hw => p_fdP fld_114_1 z) ⟨z, q⟩ (by exact q) z <| dw z (Grd.plain _) z [52] z (s1 (strip_when id) s0) (fun hw => p_ldP ty_3 z z) ⟨z, q⟩ (by exact q) z <| dw z (Grd.plain _) z [5] z (s1 strip_same s0) (fun hw => p_ld ty_3 z z z) ⟨z, q⟩ (by exact ⟨z, q⟩) z <| dw z (Grd.plain _) z [53, 54] z (s1 (strip_when id) (s1 (strip_when id) s0)) (fun hw => p_eql z z) ⟨z, ⟨z, q⟩⟩ (by exact q) z <| dr (p_pkA z z q (strip_when (wt))) z <| da z z <| ?_
    refine wd_nil ?_ (by kernel_rfl)
    refine e_n <| wc_ret <| ?_
    refine e_br (e_tr ?_)
    obtain rfl := sm H
    exact fin (Or.inr z) (rs1 (rv z) rs0) (re [] (.dat) z h0)
  refine c_f z b9 <| sgr z <| l (p_eql z z) z <| la z z <| ne <| ?_
  rcases cn H with ⟨b14, H⟩ | ⟨b14, H⟩
  · refine c_t z b14 ?_
    refine wc_seq <| wc_draw [0, 1, 3, 7, 15, 31, 63, 127, 255, 511, 1023, 2047, 2047, 6143, 14335, 30719, 63487, 131071, 2047, 524287, 1048575, 2097151] mixed z <| dm z z <| ?_
    obtain ⟨r15, e16, H⟩ := ob H
    refine dr (p_c (term_wide_ok e16) ent_138 z z z) z <| dm z z <| dw z (Grd.plain _) z [2] z (s1 strip_same s0) (fun hw => p_fd fld_114_5 z) ⟨z, q⟩ (by exact q) z <| dw z (Grd.plain _) z [62] z (s1 (strip_when id) s0) (fun hw => p_ld ty_112 z z z) ⟨z, q⟩ (by exact ⟨z, q⟩) z <| ?_
    obtain ⟨r17, e18, H⟩ := ob H
    refine dw z (Grd.plain _) z [63] z (s1 (strip_when id) s0) (fun hw => p_ixX (encTerm_X _) Tryz.underlying112 ty_114.size z z (bt hw e18)) ⟨z, q⟩ (by exact q) z <| dw z (Grd.plain _) z [64] z (s1 (strip_when id) s0) (fun hw => p_fdP fld_114_1 z) ⟨z, q⟩ (by exact q) z <| dw z (Grd.plain _) z [65] z (s1 (strip_when id) s0) (fun hw => p_ldP ty_3 z z) ⟨z, q⟩ (by exact q) z <| ?_
    obtain ⟨r19, e20, H⟩ := ob H
    refine dw z (Grd.plain _) z [66] z (s1 (strip_when id) s0) (fun hw => p_c (term_wide_ok (bt hw e20)) ent_138 z z z) ⟨z, q⟩ (by exact q) z <| dr (p_pkA z z q (strip_when (wt))) z <| dm z z <| dw z (Grd.plain _) z [6] z (s1 strip_same s0) (fun hw => p_mv z) ⟨z, q⟩ (by exact q) z <| dw z (Grd.plain _) z [2] z (s1 strip_same s0) (fun hw => p_fd fld_114_5 z) ⟨z, q⟩ (by exact q) z <| dw z (Grd.plain _) z [71] z (s1 (strip_when id) s0) (fun hw => p_ld ty_112 z z z) ⟨z, q⟩ (by exact ⟨z, q⟩) z <| ?_
    obtain ⟨r21, e22, H⟩ := ob H
    refine dw z (Grd.plain _) z [72] z (s1 (strip_when id) s0) (fun hw => p_ixX (encTerm_X _) Tryz.underlying112 ty_114.size z z (bt hw e22)) ⟨z, q⟩ (by exact q) z <| dw z (Grd.plain _) z [73] z (s1 (strip_when id) s0) (fun hw => p_fdP fld_114_1 z) ⟨z, q⟩ (by exact q) z <| dw z (Grd.plain _) z [74] z (s1 (strip_when id) s0) (fun hw => p_ldP ty_3 z z) ⟨z, q⟩ (by exact q) z <| dw z (Grd.plain _) z [70, 75] z (s1 (strip_when id) (s1 (strip_when id) s0)) (fun hw => p_add z z) ⟨z, ⟨z, q⟩⟩ (by exact q) z <| dw z (Grd.plain _) z [5] z (s1 strip_same s0) (fun hw => p_ld ty_3 z z z) ⟨z, q⟩ (by exact ⟨z, q⟩) z <| dw z (Grd.plain _) z [76, 77] z (s1 (strip_when id) (s1 (strip_when id) s0)) (fun hw => p_eql z z) ⟨z, ⟨z, q⟩⟩ (by exact q) z <| dr (p_pkA z z q (strip_when (wt))) z <| da z z <| ?_
    refine wd_nil ?_ (by kernel_rfl)
    refine e_n <| wc_ret <| ?_
    refine e_br (e_tr ?_)
    obtain rfl := sm H
    exact fin (Or.inr z) (rs1 (rv z) rs0) (re [] (.dat) z h0)
  refine c_f z b14 <| sgr z <| l (p_eql z z) z <| la z z <| ne <| ?_
  rcases cn H with ⟨b23, H⟩ | ⟨b23, H⟩
  · refine c_t z b23 ?_
    refine sgr z <| l (p_fd fld_114_4 z) z <| l (p_ld ty_3 z z z) z <| l (p_geq z z) z <| lm z z <| lw z (Grd.plain _) z [6] z (s1 strip_same s0) (fun hw => p_mv z) ⟨z, q⟩ (by exact q) z z <| ?_
    obtain ⟨r24, e25, H⟩ := ob H
    refine lw z (Grd.plain _) z [86] z (s1 (strip_when id) s0) (fun hw => p_c (term_wide_ok (bt hw e25)) ent_138 z z z) ⟨z, q⟩ (by exact q) z z <| l (p_pkA z z q (strip_when (wt))) z <| lm z z <| lw z (Grd.plain _) z [5] z (s1 strip_same s0) (fun hw => p_ld ty_3 z z z) ⟨z, q⟩ (by exact ⟨z, q⟩) z z <| lw z (Grd.plain _) z [6] z (s1 strip_same s0) (fun hw => p_mv z) ⟨z, q⟩ (by exact q) z z <| lw z (Grd.plain _) z [90, 91] z (s1 (strip_when id) (s1 (strip_when id) s0)) (fun hw => p_leq z z) ⟨z, ⟨z, q⟩⟩ (by exact q) z z <| l (p_pkA z z q (strip_when (wt))) z <| lm z z <| lw z (Grd.plain _) z [2] z (s1 strip_same s0) (fun hw => p_fd fld_114_4 z) ⟨z, q⟩ (by exact q) z z <| lw z (Grd.plain _) z [95] z (s1 (strip_when id) s0) (fun hw => p_ld ty_3 z z z) ⟨z, q⟩ (by exact ⟨z, q⟩) z z <| lw z (Grd.plain _) z [6] z (s1 strip_same s0) (fun hw => p_mv z) ⟨z, q⟩ (by exact q) z z <| lw z (Grd.plain _) z [5] z (s1 strip_same s0) (fun hw => p_ld ty_3 z z z) ⟨z, q⟩ (by exact ⟨z, q⟩) z z <| lw z (Grd.plain _) z [97, 98] z (s1 (strip_when id) (s1 (strip_when id) s0)) (fun hw => p_sub z z) ⟨z, ⟨z, q⟩⟩ (by exact q) z z <| lw z (Grd.plain _) z [96, 99] z (s1 (strip_when id) (s1 (strip_when id) s0)) (fun hw => p_leq z z) ⟨z, ⟨z, q⟩⟩ (by exact q) z z <| l (p_pkA z z q (strip_when (wt))) z <| la z z <| ne <| wc_ret <| ?_
    refine e_br (e_tr ?_)
    obtain rfl := sm H
    exact fin (Or.inr z) (rs1 (rv z) rs0) (re [] (.dat) z h0)
  refine c_f z b23 <| sgr z <| l (p_eql z z) z <| la z z <| ne <| ?_
  rcases cn H with ⟨b26, H⟩ | ⟨b26, H⟩
  · refine c_t z b26 ?_
    refine sgr z <| lm z z <| l (p_ld ty_3 z z z) z <| l (p_leq z z) z <| la z z <| ne <| wc_ret <| ?_
    refine e_br (e_tr ?_)
    obtain rfl := sm H
    exact fin (Or.inr z) (rs1 (rv z) rs0) (re [] (.dat) z h0)
  refine c_f z b26 <| wc_skip <| ?_
  refine e_bn (e_n ?_)
  refine sgr z <| l (p_ld ty_3 z z z) z <| ?_
  obtain ⟨r27, e28, H⟩ := ob H
  refine l (p_c (term_loadable_ok e28) ent_146 z z z) z <| la z z <| ne <| wc_ret <| ?_
  obtain rfl := sm H
  exact fin (Or.inr z) (rs1 (rv z) rs0) (re [] (.dat) z h0)

def term_node (x0 : Term) : Option Bool :=
  (term_wide x0.Width).bind fun r1 =>
  bif !r1 then
    some false
  else
    (term_shaped x0.Kind).bind fun r4 =>
    bif !r4.2 then
      (bif ((true && ((((x0.Sub.length : Int) == 0) && (x0.Low == 0)) == true)) && (((x0.Kind == 1) && (sEq x0.Name (⟨#[]⟩ : ByteArray))) == true)) then bits_Ok x0.Width x0.Bits else some default).bind fun r7 =>
      (bif (((true && ((((x0.Sub.length : Int) == 0) && (x0.Low == 0)) == true)) && ((((x0.Kind == 1) && (sEq x0.Name (⟨#[]⟩ : ByteArray))) && r7) == false)) && (((x0.Kind == 2) && (x0.Bits == 0)) == true)) then term_variable x0.Name else some default).bind fun r9 =>
      some ((((x0.Sub.length : Int) == 0) && (x0.Low == 0)) && ((((x0.Kind == 1) && (sEq x0.Name (⟨#[]⟩ : ByteArray))) && r7) || (((x0.Kind == 2) && (x0.Bits == 0)) && r9)))
    else
      (bif (true && (((((x0.Bits == 0) && (sEq x0.Name (⟨#[]⟩ : ByteArray))) && ((x0.Low == 0) || (r4.1.how == 5))) && ((x0.Sub.length : Int) == r4.1.parts)) == true)) then term_widths x0 r4.1.how else some default).bind fun r11 =>
      some (((((x0.Bits == 0) && (sEq x0.Name (⟨#[]⟩ : ByteArray))) && ((x0.Low == 0) || (r4.1.how == 5))) && ((x0.Sub.length : Int) == r4.1.parts)) && r11)
theorem term_node_ok {x0 : Term} {R : Bool} (H : term_node x0 = some R) : FnOk Tryz.prog K0 134 [(aA (encTermX x0))] [] (aT R) [] := by
  refine fn_w (nt := 92) (np := 0) Tryz.func134 z z (by simp) (np_of2 z) <| ?_
  unfold term_node at H
  refine sgr z <| lh (p_bx 0 z q z) z <| la z z <| ne <| wc_seq <| sgr z <| l (p_fd fld_114_1 z) z <| l (p_ld ty_3 z z z) z <| ?_
  obtain ⟨r1, e2, H⟩ := ob H
  refine l (p_c (term_wide_ok e2) ent_138 z z z) z <| l (p_not z) z <| ne <| ?_
  rcases cn H with ⟨b3, H⟩ | ⟨b3, H⟩
  · refine c_t z b3 ?_
    refine sgr z <| la z z <| ne <| wc_ret <| e_tr <| ?_
    obtain rfl := sm H
    exact fin (Or.inr z) (rs1 (rv z) rs0) (re [] (.dat) z h0)
  refine c_f z b3 <| se <| sgr z <| l (p_fd fld_114_0 z) z <| l (p_ld ty_5 z z z) z <| ?_
  obtain ⟨r4, e5, H⟩ := ob H
  refine l (p_c (term_shaped_ok e5) ent_139 z z z) z <| lm z z <| l (p_ex z z) z <| l (p_ex z z) z <| lh (p_al 1 zr_205 z) z <| l0h (p_stA (ds := (encterm_shape r4.1).map .data) ty_205 z z z z z z) <| la z z <| ne <| wc_seq <| sgr z <| lm z z <| l (p_not z) z <| ne <| ?_
  rcases cn H with ⟨b6, H⟩ | ⟨b6, H⟩
  · refine c_t z b6 ?_
    refine sgr z <| l (p_fd fld_114_5 z) z <| l (p_ld ty_112 z z z) z <| l (p_lenL Tryz.underlying112 z) z <| l (p_eql z z) z <| lm z z <| lw z (Grd.plain _) z [1] z (s1 strip_same s0) (fun hw => p_fd fld_114_4 z) ⟨z, q⟩ (by exact q) z z <| lw z (Grd.plain _) z [23] z (s1 (strip_when id) s0) (fun hw => p_ld ty_3 z z z) ⟨z, q⟩ (by exact ⟨z, q⟩) z z <| lw z (Grd.plain _) z [24] z (s1 (strip_when id) s0) (fun hw => p_eql z z) ⟨z, q⟩ (by exact q) z z <| l (p_pkA z z q (strip_when (wt))) z <| la z z <| ne <| sgr z <| lm z z <| lm z z <| lw z (Grd.plain _) z [1] z (s1 strip_same s0) (fun hw => p_fd fld_114_0 z) ⟨z, q⟩ (by exact q) z z <| lw z (Grd.plain _) z [29] z (s1 (strip_when id) s0) (fun hw => p_ld ty_5 z z z) ⟨z, q⟩ (by exact ⟨z, q⟩) z z <| lw z (Grd.plain _) z [30] z (s1 (strip_when id) s0) (fun hw => p_eql z z) ⟨z, q⟩ (by exact q) z z <| lw z (Grd.plain _) z [31] z (s1 (strip_when id) s0) (fun hw => p_mv z) ⟨z, q⟩ (by exact q) z z <| lw z (Grd.under _ _) z [1] z (s1 strip_same s0) (fun hw => p_fd fld_114_3 z) ⟨z, q⟩ (by exact q) z z <| lw z (Grd.under _ _) z [33] z (s1 (strip_when id) s0) (fun hw => p_ld ty_9 z z z) ⟨z, q⟩ (by exact ⟨z, q⟩) z z <| lw z (Grd.under _ _) z [34] z (s1 (strip_when id) s0) (fun hw => p_seq z z) ⟨z, q⟩ (by exact q) z z <| lw z (Grd.plain _) z [32, 35] z (s1 (strip_when id) (s1 strip_same s0)) (fun hw => p_pkA z z q (strip_when (wtc hw))) ⟨z, ⟨z, q⟩⟩ (by exact q) z z <| lw z (Grd.plain _) z [36] z (s1 (strip_when id) s0) (fun hw => p_mv z) ⟨z, q⟩ (by exact q) z z <| lw z (Grd.under _ _) z [1] z (s1 strip_same s0) (fun hw => p_fd fld_114_1 z) ⟨z, q⟩ (by exact q) z z <| lw z (Grd.under _ _) z [38] z (s1 (strip_when id) s0) (fun hw => p_ld ty_3 z z z) ⟨z, q⟩ (by exact ⟨z, q⟩) z z <| lw z (Grd.under _ _) z [1] z (s1 strip_same s0) (fun hw => p_fd fld_114_2 z) ⟨z, q⟩ (by exact q) z z <| lw z (Grd.under _ _) z [40] z (s1 (strip_when id) s0) (fun hw => p_ld ty_57 z z z) ⟨z, q⟩ (by exact ⟨z, q⟩) z z <| ?_
    obtain ⟨r7, e8, H⟩ := ob H
    refine lw z (Grd.under _ _) z [39, 41] z (s1 (strip_when id) (s1 (strip_when id) s0)) (fun hw => p_c (bits_Ok_ok (bt hw e8)) ent_140 z z z) ⟨z, ⟨z, q⟩⟩ (by exact q) z z <| lw z (Grd.plain _) z [37, 42] z (s1 (strip_when id) (s1 strip_same s0)) (fun hw => p_pkA z z q (strip_when (wtc hw))) ⟨z, ⟨z, q⟩⟩ (by exact q) z z <| lw z (Grd.plain _) z [43] z (s1 (strip_when id) s0) (fun hw => p_mv z) ⟨z, q⟩ (by exact q) z z <| lw z (Grd.under _ _) z [1] z (s1 strip_same s0) (fun hw => p_fd fld_114_0 z) ⟨z, q⟩ (by exact q) z z <| lw z (Grd.under _ _) z [45] z (s1 (strip_when id) s0) (fun hw => p_ld ty_5 z z z) ⟨z, q⟩ (by exact ⟨z, q⟩) z z <| lw z (Grd.under _ _) z [46] z (s1 (strip_when id) s0) (fun hw => p_eql z z) ⟨z, q⟩ (by exact q) z z <| lw z (Grd.under _ _) z [47] z (s1 (strip_when id) s0) (fun hw => p_mv z) ⟨z, q⟩ (by exact q) z z <| lw z (Grd.under _ _) z [1] z (s1 strip_same s0) (fun hw => p_fd fld_114_2 z) ⟨z, q⟩ (by exact q) z z <| lw z (Grd.under _ _) z [49] z (s1 (strip_when id) s0) (fun hw => p_ld ty_57 z z z) ⟨z, q⟩ (by exact ⟨z, q⟩) z z <| lw z (Grd.under _ _) z [50] z (s1 (strip_when id) s0) (fun hw => p_eql z z) ⟨z, q⟩ (by exact q) z z <| lw z (Grd.under _ _) z [48, 51] z (s1 (strip_when id) (s1 strip_same s0)) (fun hw => p_pkA z z q (strip_when (wtc hw))) ⟨z, ⟨z, q⟩⟩ (by exact q) z z <| lw z (Grd.under _ _) z [52] z (s1 (strip_when id) s0) (fun hw => p_mv z) ⟨z, q⟩ (by exact q) z z <| lw z (Grd.under _ _) z [1] z (s1 strip_same s0) (fun hw => p_fd fld_114_3 z) ⟨z, q⟩ (by exact q) z z <| lw z (Grd.under _ _) z [54] z (s1 (strip_when id) s0) (fun hw => p_ld ty_9 z z z) ⟨z, q⟩ (by exact ⟨z, q⟩) z z <| ?_
    obtain ⟨r9, e10, H⟩ := ob H
    refine lw z (Grd.under _ _) z [55] z (s1 (strip_when id) s0) (fun hw => p_c (term_variable_ok (bt hw e10)) ent_141 z z z) ⟨z, q⟩ (by exact q) z z <| lw z (Grd.under _ _) z [53, 56] z (s1 (strip_when id) (s1 strip_same s0)) (fun hw => p_pkA z z q (strip_when (wtc hw))) ⟨z, ⟨z, q⟩⟩ (by exact q) z z <| lw z (Grd.plain _) z [44, 57] z (s1 (strip_when id) (s1 strip_same s0)) (fun hw => p_pkO z z q (strip_when (wfc hw))) ⟨z, ⟨z, q⟩⟩ (by exact q) z z <| l (p_pkA z z q (strip_when (wt))) z <| la z z <| ne <| wc_ret <| e_tr <| ?_
    obtain rfl := sm H
    exact fin (Or.inr z) (rs1 (rv z) rs0) (re [] (.dat) z h0)
  refine c_f z b6 <| se <| sgr z <| l (p_fd fld_114_2 z) z <| l (p_ld ty_57 z z z) z <| l (p_eql z z) z <| lm z z <| lw z (Grd.plain _) z [1] z (s1 strip_same s0) (fun hw => p_fd fld_114_3 z) ⟨z, q⟩ (by exact q) z z <| lw z (Grd.plain _) z [64] z (s1 (strip_when id) s0) (fun hw => p_ld ty_9 z z z) ⟨z, q⟩ (by exact ⟨z, q⟩) z z <| lw z (Grd.plain _) z [65] z (s1 (strip_when id) s0) (fun hw => p_seq z z) ⟨z, q⟩ (by exact q) z z <| l (p_pkA z z q (strip_when (wt))) z <| lm z z <| lw z (Grd.plain _) z [1] z (s1 strip_same s0) (fun hw => p_fd fld_114_4 z) ⟨z, q⟩ (by exact q) z z <| lw z (Grd.plain _) z [69] z (s1 (strip_when id) s0) (fun hw => p_ld ty_3 z z z) ⟨z, q⟩ (by exact ⟨z, q⟩) z z <| lw z (Grd.plain _) z [70] z (s1 (strip_when id) s0) (fun hw => p_eql z z) ⟨z, q⟩ (by exact q) z z <| lw z (Grd.plain _) z [71] z (s1 (strip_when id) s0) (fun hw => p_mv z) ⟨z, q⟩ (by exact q) z z <| lw z (Grd.under _ _) z [3] z (s1 strip_same s0) (fun hw => p_fd fld_205_2 z) ⟨z, q⟩ (by exact q) z z <| lw z (Grd.under _ _) z [73] z (s1 (strip_when id) s0) (fun hw => p_ld ty_3 z z z) ⟨z, q⟩ (by exact ⟨z, q⟩) z z <| lw z (Grd.under _ _) z [74] z (s1 (strip_when id) s0) (fun hw => p_eql z z) ⟨z, q⟩ (by exact q) z z <| lw z (Grd.plain _) z [72, 75] z (s1 (strip_when id) (s1 strip_same s0)) (fun hw => p_pkO z z q (strip_when (wfc hw))) ⟨z, ⟨z, q⟩⟩ (by exact q) z z <| l (p_pkA z z q (strip_when (wt))) z <| lm z z <| lw z (Grd.plain _) z [1] z (s1 strip_same s0) (fun hw => p_fd fld_114_5 z) ⟨z, q⟩ (by exact q) z z <| lw z (Grd.plain _) z [79] z (s1 (strip_when id) s0) (fun hw => p_ld ty_112 z z z) ⟨z, q⟩ (by exact ⟨z, q⟩) z z <| lw z (Grd.plain _) z [80] z (s1 (strip_when id) s0) (fun hw => p_lenL Tryz.underlying112 z) ⟨z, q⟩ (by exact q) z z <| lw z (Grd.plain _) z [3] z (s1 strip_same s0) (fun hw => p_fd fld_205_1 z) ⟨z, q⟩ (by exact q) z z <| lw z (Grd.plain _) z [82] z (s1 (strip_when id) s0) (fun hw => p_ld ty_3 z z z) ⟨z, q⟩ (by exact ⟨z, q⟩) z z <| lw z (Grd.plain _) z [81, 83] z (s1 (strip_when id) (s1 (strip_when id) s0)) (fun hw => p_eql z z) ⟨z, ⟨z, q⟩⟩ (by exact q) z z <| l (p_pkA z z q (strip_when (wt))) z <| lm z z <| lw z (Grd.plain _) z [1] z (s1 strip_same s0) (fun hw => p_ldB (ds := (encTermX x0).map .data) ty_114 z z z z) ⟨z, q⟩ (by exact ⟨z, q⟩) z z <| lw z (Grd.plain _) z [3] z (s1 strip_same s0) (fun hw => p_fd fld_205_2 z) ⟨z, q⟩ (by exact q) z z <| lw z (Grd.plain _) z [88] z (s1 (strip_when id) s0) (fun hw => p_ld ty_3 z z z) ⟨z, q⟩ (by exact ⟨z, q⟩) z z <| ?_
  obtain ⟨r11, e12, H⟩ := ob H
  refine lw z (Grd.plain _) z [87, 89] z (s1 (strip_when id) (s1 (strip_when id) s0)) (fun hw => p_c (term_widths_ok (bt hw e12)) ent_142 z z z) ⟨z, ⟨z, q⟩⟩ (by exact q) z z <| l (p_pkA z z q (strip_when (wt))) z <| la z z <| ne <| wc_ret <| ?_
  obtain rfl := sm H
  exact fin (Or.inr z) (rs1 (rv z) rs0) (re [] (.dat) z h0)

def rg128_1_y (x0 : Nat) (x1 : Int) (x2 : Term) : Option (Nat × Int) := asr (Nat.beq x0 0) <|
  (term_node x2).bind fun r1 =>
  bif !r1 then some (2, 8) else some (0, x1)
theorem rg128_1_y_ok {x0 : Nat} {x1 : Int} {x2 : Term} {R : Nat × Int} (H : rg128_1_y x0 x1 x2 = some R) : YOk Tryz.prog K0 [(aA (encTermX x2))] [(0, (.live (.loop #[16] rg128_1_a rg128_1_d 27 [(2, (.ptr 1 0))] x0))), (1, (oC 35 [(aN .i64 x1)]))] (aT (Nat.beq R.1 0)) [(0, (.live (.loop #[16] rg128_1_a rg128_1_d 27 [(2, (.ptr 1 0))] R.1))), (1, (oC 35 [(aN .i64 R.2)]))] := by
  unfold rg128_1_y at H
  obtain ⟨hq, H⟩ := as_ H
  refine y_w (nt := 27) (np := 2) hq z (np_of2 z) z z z <| wc_region z <| lh (p_al 2 zr_114 z) z <| l0h (p_stA (ds := (encTermX x2).map .data) ty_114 z z z z z z) <| ne <| ?_
  refine ⟨hp_lk z, ?_⟩
  refine wc_block <| sgr z <| l (p_ldB (ds := (encTermX x2).map .data) ty_114 z z z z) z <| ?_
  obtain ⟨r1, e2, H⟩ := ob H
  refine l (p_c (term_node_ok e2) ent_134 z z z) z <| l (p_not z) z <| ne <| ?_
  rcases cn H with ⟨b3, H⟩ | ⟨b3, H⟩
  · refine c_t z b3 ?_
    refine sgr z <| l0h (p_st ty_35 z z z q z z) <| ne <| wc_ret <| e_br <| ?_
    obtain rfl := sm H
    exact yfin 2 z z (re [(0, 0), (1, 1)] .dat z (hs z z z (hs z z z h0)))
  refine c_f z b3 <| wc_skip <| e_bn <| ?_
  obtain rfl := sm H
  exact yfin 0 z z (re [(0, 0), (1, 1)] .dat z (hs z z z (hs z z z h0)))

def term_visit_2_k1 : Nat × Int → Option (Bool × Nat × Int)
  | (v4, v5) =>
    some (true, v4, v5)
def term_visit_2_b2 (x0 : Term) (self : Term → Nat → Int → Option (Bool × Nat × Int)) (k1 : Nat × Int → Option (Bool × Nat × Int)) (rec2 : Int × Nat × Int → Option (Bool × Nat × Int)) : Int × Nat × Int → Option (Bool × Nat × Int)
  | (v6, v7, v8) =>
    bif decide (v6 < (x0.Sub.length : Int)) then
      (ix x0.Sub v6).bind fun r10 =>
      (self r10 v7 v8).bind fun r12 =>
      bif !r12.1 then some (false, r12.2.1, r12.2.2) else rec2 ((w64 (v6 + 1), r12.2.1, r12.2.2))
    else
      k1 (v7, v8)
def term_visit_2_f (self : Term → Nat → Int → Option (Bool × Nat × Int)) (x0 : Term) (x1 : Nat) (x2 : Int) : Option (Bool × Nat × Int) :=
  (rg128_1_y x1 x2 x0).bind fun r1 =>
  bif !(Nat.beq r1.1 0) then
    some (false, r1.1, r1.2)
  else
    jn term_visit_2_k1 fun k1 =>
    lp (term_visit_2_b2 x0 self k1) (x0.Sub.length + 1) (0, r1.1, r1.2)
def term_visit_2 : Nat → Term → Nat → Int → Option (Bool × Nat × Int)
  | 0 => fun _ _ _ => none
  | n + 1 => term_visit_2_f (term_visit_2 n)
theorem term_visit_2_ok {n : Nat} : ∀ {x0 : Term} {x1 : Nat} {x2 : Int} {R : Bool × Nat × Int}, term_visit_2 n x0 x1 x2 = some R → FnOk Tryz.prog K0 137 [(aA (encTermX x0)), (.via 0 yR)] [(0, (.live (.loop #[16] rg128_1_a rg128_1_d 27 [(2, (.ptr 1 0))] x1))), (1, (oC 35 [(aN .i64 x2)]))] (aT R.1) [(0, (.live (.loop #[16] rg128_1_a rg128_1_d 27 [(2, (.ptr 1 0))] R.2.1))), (1, (oC 35 [(aN .i64 R.2.2)]))] := by
  induction n with
  | zero => intro x0 x1 x2 R H; cases H
  | succ n ih =>
    intro x0 x1 x2 R H
    refine fn_w (nt := 23) (np := 2) Tryz.func137 z z (by simp) (np_of2 z) <| ?_
    have H : term_visit_2_f (term_visit_2 n) x0 x1 x2 = some R := H
    unfold term_visit_2_f at H
    refine sgr z <| lh (p_bx 2 z q z) z <| la z z <| ne <| wc_seq <| sgr z <| lm z z <| l (p_ldB (ds := (encTermX x0).map .data) ty_114 z z z z) z <| ?_
    obtain ⟨r1, e2, H⟩ := ob H
    refine ly (ids := [0, 1]) (rg128_1_y_ok e2) z z z z z (rc z z (rc z z rn)) (rc z z (rc z z rn)) z ⟨z, ⟨z, q⟩⟩ (by decide) z z z (oc z (oc z on)) (oc z (oc z on)) z z <| l (p_not z) z <| ne <| ?_
    rcases cn H with ⟨b3, H⟩ | ⟨b3, H⟩
    · refine c_t z b3 ?_
      refine sgr z <| la z z <| ne <| wc_ret <| e_tr <| ?_
      obtain rfl := sm H
      exact fin (Or.inr z) (rs1 (rv z) rs0) (re [(0, 0), (1, 1)] (.dat) z (hs z z z (hs z z z h0)))
    refine c_f z b3 <| se <| ?_
    refine w_jn2 H (fun v4 v5 => ⟨[], [(0, (.live (.loop #[16] rg128_1_a rg128_1_d 27 [(2, (.ptr 1 0))] v4))), (1, (oC 35 [(aN .i64 v5)]))]⟩) ?_ ?_
    · intro v4 v5 H
      rw [term_visit_2_k1] at H
      refine sgr z <| la z z <| ne <| wc_ret <| ?_
      obtain rfl := sm H
      exact fin (Or.inr z) (rs1 (rv z) rs0) (re [(0, 0), (1, 1)] (.dat) z (hs z z z (hs z z z h0)))
    intro H
    refine sgr z <| l (p_fd fld_114_5 z) z <| l (p_ld ty_112 z z z) z <| l (p_lenL Tryz.underlying112 z) z <| lm z z <| ne <| wc_block <| w_lp3 H (fun v6 v7 v8 => ⟨[(1, (.via 0 yR)), (12, (aL 6 encTerm x0.Sub)), (13, (aN .i64 (x0.Sub.length : Int))), (14, (aN .i64 v6))], [(0, (.live (.loop #[16] rg128_1_a rg128_1_d 27 [(2, (.ptr 1 0))] v7))), (1, (oC 35 [(aN .i64 v8)]))]⟩) (en [(0, 0), (1, 1)] (ws z z z (wd z (wd z (wd z w0)))) z (hs z z z (hs z z z h0))) <| ?_
    intro n2 v6 v7 v8 H
    rw [term_visit_2_b2] at H
    refine sgr z <| l (p_lss z z) z <| ne <| wc_seq <| ?_
    rcases cn H with ⟨b9, H⟩ | ⟨b9, H⟩
    · refine c_t z b9 ?_
      refine se <| wc_seq <| wc_block <| sgr z <| ?_
      obtain ⟨r10, e11, H⟩ := ob H
      refine l (p_ixX (encTerm_X _) Tryz.underlying112 ty_114.size z z e11) z <| l (p_ldA (ds := encTermX r10) ty_114 z z z) z <| lh (p_al 4 zr_114 z) z <| l0h (p_stA (ds := (encTermX r10).map .data) ty_114 z z z z z z) <| ne <| sgr z <| l (p_ldB (ds := (encTermX r10).map .data) ty_114 z z z z) z <| lm z z <| ?_
      obtain ⟨r12, e13, H⟩ := ob H
      refine lh (p_ch (ids := [0, 1]) (ih e13) ent_137 z z (rc z z (rc z z rn)) (rc z z (rc z z rn)) z ⟨z, ⟨z, q⟩⟩ (by decide) z z z (oc z (oc z on)) (oc z (oc z on)) z) z <| l (p_not z) z <| ne <| ?_
      rcases cn H with ⟨b14, H⟩ | ⟨b14, H⟩
      · refine c_t z b14 ?_
        refine sgr z <| la z z <| ne <| wc_ret <| ?_
        refine e_br (e_tr (e_tr (e_br (e_tr ?_))))
        obtain rfl := sm H
        exact fin (Or.inr z) (rs1 (rv z) rs0) (re [(0, 0), (1, 1)] (.dat) z (hs z z z (hs z z z h0)))
      refine c_f z b14 <| wc_skip <| ?_
      refine e_bn (e_n ?_)
      refine wc_region z <| l (p_add z z) z <| lm z z <| ne <| ?_
      exact ⟨w64 (v6 + 1), r12.2.1, r12.2.2, H, en [(0, 0), (1, 1)] (ws z z z (wd z (wd z (wd z w0)))) z (hs z z z (hs z z z h0))⟩
    refine c_f z b9 <| wc_exit <| ?_
    refine e_te (e_te (e_h (e_n ?_)))
    exact ⟨v7, v8, H, en [(0, 0), (1, 1)] w0 z (hs z z z (hs z z z h0))⟩

def term_nodes_1_2 (x0 : Nat) (x1 : Int) (x2 : Term) : Option (Nat × Int) :=
  (term_visit_2 (rankTerm x2) x2 x0 x1).bind fun r1 =>
  some (r1.2.1, r1.2.2)
theorem term_nodes_1_2_ok {x0 : Nat} {x1 : Int} {x2 : Term} {R : Nat × Int} (H : term_nodes_1_2 x0 x1 x2 = some R) : FnOk Tryz.prog K0 136 [(.via 0 yR), (.ptr 2 0)] [(0, (.live (.loop #[16] rg128_1_a rg128_1_d 27 [(2, (.ptr 1 0))] x0))), (1, (oC 35 [(aN .i64 x1)])), (2, (oD 114 (encTermX x2)))] (.tup []) [(0, (.live (.loop #[16] rg128_1_a rg128_1_d 27 [(2, (.ptr 1 0))] R.1))), (1, (oC 35 [(aN .i64 R.2)])), (2, (oD 114 (encTermX x2)))] := by
  refine fn_w (nt := 6) (np := 3) Tryz.func136 z z (by simp) (np_of2 z) <| ?_
  unfold term_nodes_1_2 at H
  refine wc_region z <| l (p_ldB (ds := (encTermX x2).map .data) ty_114 z z z z) z <| lm z z <| ?_
  obtain ⟨r1, e2, H⟩ := ob H
  refine lh (p_ch (ids := [0, 1]) (term_visit_2_ok e2) ent_137 z z (rc z z (rc z z rn)) (rc z z (rc z z rn)) z ⟨z, ⟨z, q⟩⟩ (by decide) z z z (oc z (oc z on)) (oc z (oc z on)) z) z <| wl_nil <| ?_
  obtain rfl := sm H
  exact fin (Or.inl z) rs0 (re2 [(0, 0), (1, 1), (2, 2)] q z (hs z z z (hs z z z (hc z h0))))

noncomputable def rg135_2_a : Code := cA (cB (cR (cL (cR (cR ((Tryz.f135.body).getD .skip))))))
noncomputable def rg135_2_d : Code := cD (cB (cR (cL (cR (cR ((Tryz.f135.body).getD .skip))))))

def rg135_2_y (x0 : Nat) (x1 : Bool) (x2 : List (ByteArray × Int)) (x3 : Term) : Option (Nat × Bool × (List (ByteArray × Int))) := asr (Nat.beq x0 0) <|
  bif x3.Kind != 2 then some (0, x1, x2) else bif ((mGet x2 x3.Name).isSome) && (((mGet x2 x3.Name).getD 0) != x3.Width) then some (2, false, x2) else some (0, x1, mSet x2 x3.Name x3.Width)
theorem rg135_2_y_ok {x0 : Nat} {x1 : Bool} {x2 : List (ByteArray × Int)} {x3 : Term} {R : Nat × Bool × (List (ByteArray × Int))} (H : rg135_2_y x0 x1 x2 x3 = some R) : YOk Tryz.prog K0 [(aA (encTermX x3))] [(0, (.live (.loop #[11] rg135_2_a rg135_2_d 35 [(2, (.ptr 1 0)), (3, (.ptr 2 0)), (4, (.ptr 3 0))] x0))), (1, (oC 138 [(.data (.lit (.map none)))])), (2, (oC 4 [(aT x1)])), (3, (oC 138 [(.mp 4)])), (4, (oM Value.string (dN .i64) x2))] (aT (Nat.beq R.1 0)) [(0, (.live (.loop #[11] rg135_2_a rg135_2_d 35 [(2, (.ptr 1 0)), (3, (.ptr 2 0)), (4, (.ptr 3 0))] R.1))), (1, (oC 138 [(.data (.lit (.map none)))])), (2, (oC 4 [(aT R.2.1)])), (3, (oC 138 [(.mp 4)])), (4, (oM Value.string (dN .i64) R.2.2))] := by
  unfold rg135_2_y at H
  obtain ⟨hq, H⟩ := as_ H
  refine y_w (nt := 35) (np := 5) hq z (np_of2 z) z z z <| wc_region z <| lh (p_al 5 zr_114 z) z <| l0h (p_stA (ds := (encTermX x3).map .data) ty_114 z z z z z z) <| ne <| ?_
  refine ⟨hp_lk z, ?_⟩
  refine wc_block <| wc_seq <| sgr z <| l (p_fd fld_114_0 z) z <| l (p_ld ty_5 z z z) z <| l (p_neq z z) z <| ne <| ?_
  rcases cn H with ⟨b1, H⟩ | ⟨b1, H⟩
  · refine c_t z b1 ?_
    refine wc_exit <| ?_
    refine e_te (e_h ?_)
    obtain rfl := sm H
    exact yfin 0 z z (re [(0, 0), (1, 1), (2, 2), (3, 3), (4, 4)] .dat z (hs z z z (hs z z z (hs z z z (hs z z z (hs z rmm omm h0))))))
  refine c_f z b1 <| se <| wc_seq <| sgr z <| l (p_ld ty_138 z z z) z <| l (p_fd fld_114_3 z) z <| l (p_ld ty_9 z z z) z <| l (p_lko (z := 0) (vd := (dN .i64)) Tryz.underlying138 (keyS Tryz.underlying9) zv_3 z z z z z) z <| lm z z <| l (p_ex z z) z <| l (p_ex z z) z <| la z z <| la z z <| ne <| sgr z <| lm z z <| lm z z <| lw z (Grd.plain _) z [6] z (s1 strip_same s0) (fun hw => p_mv z) ⟨z, q⟩ (by exact q) z z <| lw z (Grd.plain _) z [5] z (s1 strip_same s0) (fun hw => p_fd fld_114_1 z) ⟨z, q⟩ (by exact q) z z <| lw z (Grd.plain _) z [25] z (s1 (strip_when id) s0) (fun hw => p_ld ty_3 z z z) ⟨z, q⟩ (by exact ⟨z, q⟩) z z <| lw z (Grd.plain _) z [24, 26] z (s1 (strip_when id) (s1 (strip_when id) s0)) (fun hw => p_neq z z) ⟨z, ⟨z, q⟩⟩ (by exact q) z z <| l (p_pkA z z q (strip_when (wt))) z <| ne <| ?_
  rcases cn H with ⟨b2, H⟩ | ⟨b2, H⟩
  · refine c_t z b2 ?_
    refine sgr z <| l0h (p_st ty_138 z z z q z z) <| l0h (p_st ty_4 z z z q z z) <| ne <| wc_ret <| ?_
    refine e_tr (e_br ?_)
    obtain rfl := sm H
    exact yfin 2 z z (re [(0, 0), (1, 1), (2, 2), (3, 3), (4, 4)] .dat z (hs z z z (hs z z z (hs z z z (hs z z z (hs z rmm omm h0))))))
  refine c_f z b2 <| se <| wc_region z <| l (p_ld ty_138 z z z) z <| l (p_fd fld_114_3 z) z <| l (p_ld ty_9 z z z) z <| l (p_fd fld_114_1 z) z <| l (p_ld ty_3 z z z) z <| l0h (p_mu (vd := (dN .i64)) (y0 := x3.Width) Tryz.underlying138 (keyS Tryz.underlying9) z z z z) <| wl_nil <| e_bn <| ?_
  obtain rfl := sm H
  exact yfin 0 z z (re [(0, 0), (1, 1), (2, 2), (3, 3), (4, 4)] .dat z (hs z z z (hs z z z (hs z z z (hs z z z (hs z rmm omm h0))))))

def term_visit_3_k1 : Nat × Bool × (List (ByteArray × Int)) → Option (Bool × Nat × Bool × (List (ByteArray × Int)))
  | (v4, v5, v6) =>
    some (true, v4, v5, v6)
def term_visit_3_b2 (x0 : Term) (self : Term → Nat → Bool → (List (ByteArray × Int)) → Option (Bool × Nat × Bool × (List (ByteArray × Int)))) (k1 : Nat × Bool × (List (ByteArray × Int)) → Option (Bool × Nat × Bool × (List (ByteArray × Int)))) (rec2 : Int × Nat × Bool × (List (ByteArray × Int)) → Option (Bool × Nat × Bool × (List (ByteArray × Int)))) : Int × Nat × Bool × (List (ByteArray × Int)) → Option (Bool × Nat × Bool × (List (ByteArray × Int)))
  | (v7, v8, v9, v10) =>
    bif decide (v7 < (x0.Sub.length : Int)) then
      (ix x0.Sub v7).bind fun r12 =>
      (self r12 v8 v9 v10).bind fun r14 =>
      bif !r14.1 then some (false, r14.2.1, r14.2.2.1, r14.2.2.2) else rec2 ((w64 (v7 + 1), r14.2.1, r14.2.2.1, r14.2.2.2))
    else
      k1 (v8, v9, v10)
def term_visit_3_f (self : Term → Nat → Bool → (List (ByteArray × Int)) → Option (Bool × Nat × Bool × (List (ByteArray × Int)))) (x0 : Term) (x1 : Nat) (x2 : Bool) (x3 : List (ByteArray × Int)) : Option (Bool × Nat × Bool × (List (ByteArray × Int))) :=
  (rg135_2_y x1 x2 x3 x0).bind fun r1 =>
  bif !(Nat.beq r1.1 0) then
    some (false, r1.1, r1.2.1, r1.2.2)
  else
    jn term_visit_3_k1 fun k1 =>
    lp (term_visit_3_b2 x0 self k1) (x0.Sub.length + 1) (0, r1.1, r1.2.1, r1.2.2)
def term_visit_3 : Nat → Term → Nat → Bool → (List (ByteArray × Int)) → Option (Bool × Nat × Bool × (List (ByteArray × Int)))
  | 0 => fun _ _ _ _ => none
  | n + 1 => term_visit_3_f (term_visit_3 n)
theorem term_visit_3_ok {n : Nat} : ∀ {x0 : Term} {x1 : Nat} {x2 : Bool} {x3 : List (ByteArray × Int)} {R : Bool × Nat × Bool × (List (ByteArray × Int))}, term_visit_3 n x0 x1 x2 x3 = some R → FnOk Tryz.prog K0 137 [(aA (encTermX x0)), (.via 0 yR)] [(0, (.live (.loop #[11] rg135_2_a rg135_2_d 35 [(2, (.ptr 1 0)), (3, (.ptr 2 0)), (4, (.ptr 3 0))] x1))), (1, (oC 138 [(.data (.lit (.map none)))])), (2, (oC 4 [(aT x2)])), (3, (oC 138 [(.mp 4)])), (4, (oM Value.string (dN .i64) x3))] (aT R.1) [(0, (.live (.loop #[11] rg135_2_a rg135_2_d 35 [(2, (.ptr 1 0)), (3, (.ptr 2 0)), (4, (.ptr 3 0))] R.2.1))), (1, (oC 138 [(.data (.lit (.map none)))])), (2, (oC 4 [(aT R.2.2.1)])), (3, (oC 138 [(.mp 4)])), (4, (oM Value.string (dN .i64) R.2.2.2))] := by
  induction n with
  | zero => intro x0 x1 x2 x3 R H; cases H
  | succ n ih =>
    intro x0 x1 x2 x3 R H
    refine fn_w (nt := 23) (np := 5) Tryz.func137 z z (by simp) (np_of2 z) <| ?_
    have H : term_visit_3_f (term_visit_3 n) x0 x1 x2 x3 = some R := H
    unfold term_visit_3_f at H
    refine sgr z <| lh (p_bx 5 z q z) z <| la z z <| ne <| wc_seq <| sgr z <| lm z z <| l (p_ldB (ds := (encTermX x0).map .data) ty_114 z z z z) z <| ?_
    obtain ⟨r1, e2, H⟩ := ob H
    refine ly (ids := [0, 1, 2, 3, 4]) (rg135_2_y_ok e2) z z z z z (rc z z (rc z z (rc z z (rc z z (rc z rmm rn))))) (rc z z (rc z z (rc z z (rc z z (rc z rmm rn))))) z ⟨z, ⟨z, ⟨z, ⟨z, ⟨z, q⟩⟩⟩⟩⟩ (by decide) z z z (oc z (oc z (oc z (oc z (oc omm on))))) (oc z (oc z (oc z (oc z (oc omm on))))) z z <| l (p_not z) z <| ne <| ?_
    rcases cn H with ⟨b3, H⟩ | ⟨b3, H⟩
    · refine c_t z b3 ?_
      refine sgr z <| la z z <| ne <| wc_ret <| e_tr <| ?_
      obtain rfl := sm H
      exact fin (Or.inr z) (rs1 (rv z) rs0) (re [(0, 0), (1, 1), (2, 2), (3, 3), (4, 4)] (.dat) z (hs z z z (hs z z z (hs z z z (hs z z z (hs z rmm omm h0))))))
    refine c_f z b3 <| se <| ?_
    refine w_jn3 H (fun v4 v5 v6 => ⟨[], [(0, (.live (.loop #[11] rg135_2_a rg135_2_d 35 [(2, (.ptr 1 0)), (3, (.ptr 2 0)), (4, (.ptr 3 0))] v4))), (1, (oC 138 [(.data (.lit (.map none)))])), (2, (oC 4 [(aT v5)])), (3, (oC 138 [(.mp 4)])), (4, (oM Value.string (dN .i64) v6))]⟩) ?_ ?_
    · intro v4 v5 v6 H
      rw [term_visit_3_k1] at H
      refine sgr z <| la z z <| ne <| wc_ret <| ?_
      obtain rfl := sm H
      exact fin (Or.inr z) (rs1 (rv z) rs0) (re [(0, 0), (1, 1), (2, 2), (3, 3), (4, 4)] (.dat) z (hs z z z (hs z z z (hs z z z (hs z z z (hs z rmm omm h0))))))
    intro H
    refine sgr z <| l (p_fd fld_114_5 z) z <| l (p_ld ty_112 z z z) z <| l (p_lenL Tryz.underlying112 z) z <| lm z z <| ne <| wc_block <| w_lp4 H (fun v7 v8 v9 v10 => ⟨[(1, (.via 0 yR)), (12, (aL 6 encTerm x0.Sub)), (13, (aN .i64 (x0.Sub.length : Int))), (14, (aN .i64 v7))], [(0, (.live (.loop #[11] rg135_2_a rg135_2_d 35 [(2, (.ptr 1 0)), (3, (.ptr 2 0)), (4, (.ptr 3 0))] v8))), (1, (oC 138 [(.data (.lit (.map none)))])), (2, (oC 4 [(aT v9)])), (3, (oC 138 [(.mp 4)])), (4, (oM Value.string (dN .i64) v10))]⟩) (en [(0, 0), (1, 1), (2, 2), (3, 3), (4, 4)] (ws z z z (wd z (wd z (wd z w0)))) z (hs z z z (hs z z z (hs z z z (hs z z z (hs z rmm omm h0)))))) <| ?_
    intro n2 v7 v8 v9 v10 H
    rw [term_visit_3_b2] at H
    refine sgr z <| l (p_lss z z) z <| ne <| wc_seq <| ?_
    rcases cn H with ⟨b11, H⟩ | ⟨b11, H⟩
    · refine c_t z b11 ?_
      refine se <| wc_seq <| wc_block <| sgr z <| ?_
      obtain ⟨r12, e13, H⟩ := ob H
      refine l (p_ixX (encTerm_X _) Tryz.underlying112 ty_114.size z z e13) z <| l (p_ldA (ds := encTermX r12) ty_114 z z z) z <| lh (p_al 7 zr_114 z) z <| l0h (p_stA (ds := (encTermX r12).map .data) ty_114 z z z z z z) <| ne <| sgr z <| l (p_ldB (ds := (encTermX r12).map .data) ty_114 z z z z) z <| lm z z <| ?_
      obtain ⟨r14, e15, H⟩ := ob H
      refine lh (p_ch (ids := [0, 1, 2, 3, 4]) (ih e15) ent_137 z z (rc z z (rc z z (rc z z (rc z z (rc z rmm rn))))) (rc z z (rc z z (rc z z (rc z z (rc z rmm rn))))) z ⟨z, ⟨z, ⟨z, ⟨z, ⟨z, q⟩⟩⟩⟩⟩ (by decide) z z z (oc z (oc z (oc z (oc z (oc omm on))))) (oc z (oc z (oc z (oc z (oc omm on))))) z) z <| l (p_not z) z <| ne <| ?_
      rcases cn H with ⟨b16, H⟩ | ⟨b16, H⟩
      · refine c_t z b16 ?_
        refine sgr z <| la z z <| ne <| wc_ret <| ?_
        refine e_br (e_tr (e_tr (e_br (e_tr ?_))))
        obtain rfl := sm H
        exact fin (Or.inr z) (rs1 (rv z) rs0) (re [(0, 0), (1, 1), (2, 2), (3, 3), (4, 4)] (.dat) z (hs z z z (hs z z z (hs z z z (hs z z z (hs z rmm omm h0))))))
      refine c_f z b16 <| wc_skip <| ?_
      refine e_bn (e_n ?_)
      refine wc_region z <| l (p_add z z) z <| lm z z <| ne <| ?_
      exact ⟨w64 (v7 + 1), r14.2.1, r14.2.2.1, r14.2.2.2, H, en [(0, 0), (1, 1), (2, 2), (3, 3), (4, 4)] (ws z z z (wd z (wd z (wd z w0)))) z (hs z z z (hs z z z (hs z z z (hs z z z (hs z rmm omm h0)))))⟩
    refine c_f z b11 <| wc_exit <| ?_
    refine e_te (e_te (e_h (e_n ?_)))
    exact ⟨v8, v9, v10, H, en [(0, 0), (1, 1), (2, 2), (3, 3), (4, 4)] w0 z (hs z z z (hs z z z (hs z z z (hs z z z (hs z rmm omm h0)))))⟩

def term_nodes_1_3 (x0 : Nat) (x1 : Bool) (x2 : List (ByteArray × Int)) (x3 : Term) : Option (Nat × Bool × (List (ByteArray × Int))) :=
  (term_visit_3 (rankTerm x3) x3 x0 x1 x2).bind fun r1 =>
  some (r1.2.1, r1.2.2.1, r1.2.2.2)
theorem term_nodes_1_3_ok {x0 : Nat} {x1 : Bool} {x2 : List (ByteArray × Int)} {x3 : Term} {R : Nat × Bool × (List (ByteArray × Int))} (H : term_nodes_1_3 x0 x1 x2 x3 = some R) : FnOk Tryz.prog K0 136 [(.via 0 yR), (.ptr 5 0)] [(0, (.live (.loop #[11] rg135_2_a rg135_2_d 35 [(2, (.ptr 1 0)), (3, (.ptr 2 0)), (4, (.ptr 3 0))] x0))), (1, (oC 138 [(.data (.lit (.map none)))])), (2, (oC 4 [(aT x1)])), (3, (oC 138 [(.mp 4)])), (4, (oM Value.string (dN .i64) x2)), (5, (oD 114 (encTermX x3)))] (.tup []) [(0, (.live (.loop #[11] rg135_2_a rg135_2_d 35 [(2, (.ptr 1 0)), (3, (.ptr 2 0)), (4, (.ptr 3 0))] R.1))), (1, (oC 138 [(.data (.lit (.map none)))])), (2, (oC 4 [(aT R.2.1)])), (3, (oC 138 [(.mp 4)])), (4, (oM Value.string (dN .i64) R.2.2)), (5, (oD 114 (encTermX x3)))] := by
  refine fn_w (nt := 6) (np := 6) Tryz.func136 z z (by simp) (np_of2 z) <| ?_
  unfold term_nodes_1_3 at H
  refine wc_region z <| l (p_ldB (ds := (encTermX x3).map .data) ty_114 z z z z) z <| lm z z <| ?_
  obtain ⟨r1, e2, H⟩ := ob H
  refine lh (p_ch (ids := [0, 1, 2, 3, 4]) (term_visit_3_ok e2) ent_137 z z (rc z z (rc z z (rc z z (rc z z (rc z rmm rn))))) (rc z z (rc z z (rc z z (rc z z (rc z rmm rn))))) z ⟨z, ⟨z, ⟨z, ⟨z, ⟨z, q⟩⟩⟩⟩⟩ (by decide) z z z (oc z (oc z (oc z (oc z (oc omm on))))) (oc z (oc z (oc z (oc z (oc omm on))))) z) z <| wl_nil <| ?_
  obtain rfl := sm H
  exact fin (Or.inl z) rs0 (re2 [(0, 0), (1, 1), (2, 2), (3, 3), (4, 4), (5, 5)] q z (hs z z z (hs z z z (hs z z z (hs z z z (hs z rmm omm (hc z h0)))))))

def term_variables (x0 : Term) : Option Bool :=
  (term_nodes x0).bind fun r1 =>
  (term_nodes_1_3 0 false (([] : List (ByteArray × Int))) r1).bind fun r3 =>
  bif Nat.beq r3.1 0 then
    some true
  else asr (Nat.beq r3.1 2) <|
    some r3.2.1
theorem term_variables_ok {x0 : Term} {R : Bool} (H : term_variables x0 = some R) : FnOk Tryz.prog K0 135 [(aA (encTermX x0))] [] (.tup [.any, (aT R)]) [] := by
  refine fn_z (nt := 35) (np := 0) Tryz.func135 z z (by simp) (np_of2 z) <| ?_
  unfold term_variables at H
  refine wz_seq <| wc_region z <| lh (p_bx 0 z q z) z <| lh (p_al 1 zr_138 z) z <| lh (p_al 2 zr_4 z) z <| ne <| wz_seq <| wc_region z <| lh (p_mm 3 (dN .i64) Value.string z) z <| lh (p_al 4 zr_138 z) z <| l0h (p_st ty_138 z z z q z z) <| ne <| wz_pre <| wc_region z <| l (p_ldB (ds := (encTermX x0).map .data) ty_114 z z z z) z <| ?_
  obtain ⟨r1, e2, H⟩ := ob H
  refine lh (p_ch (ids := [5]) (term_nodes_ok e2) ent_133 z z (rc z z rn) (rc z rdd rn) z ⟨z, q⟩ (by decide) z z z (oc z on) (oc od on) z) z <| ne <| ?_
  obtain ⟨r3, e4, H⟩ := ob H
  refine w_range (kL := 6) (kD := 7) (ids := [1, 2, 4, 3, 5]) (q := r3.1) (ts := [(2, (.ptr 1 0)), (3, (.ptr 2 0)), (4, (.ptr 4 0))]) (term_nodes_1_3_ok e4) ent_136 z z (rc z z (rc z z (rc z z (rc z z (rc z rmm (rc z rdd rn)))))) (rc z z (rc z z (rc z z (rc z z (rc z rmm (rc z rdd rn)))))) z z z ⟨z, ⟨z, ⟨z, q⟩⟩⟩ ⟨z, ⟨z, ⟨z, ⟨z, ⟨z, ⟨z, q⟩⟩⟩⟩⟩⟩ (by decide) z z z (oc z (oc z (oc z (oc z (oc omm (oc od on)))))) (oc z (oc z (oc z (oc z (oc omm (oc od on)))))) z z z <| ?_
  rcases cn H with ⟨b5, H⟩ | ⟨b5, H⟩
  · refine .inl ⟨Nat.eq_of_beq_eq_true b5, ?_⟩
    refine sgr z <| l (p_ld ty_138 z z z) z <| l0h (p_st ty_138 z z z q z z) <| l0h (p_st ty_4 z z z q z z) <| ne <| wc_ret <| ?_
    obtain rfl := sm H
    exact fin (Or.inr z) (rs1 (rvc ty_138 z z z) (rs1 (rvc ty_4 z z z) rs0)) (re2 [] ⟨.sub (fun _ _ _ => q) z, ⟨.dat, q⟩⟩ z h0)
  obtain ⟨b5, H⟩ := as_ H
  refine .inr ⟨Nat.eq_of_beq_eq_true b5, ?_⟩
  obtain rfl := sm H
  exact fin (Or.inr z) (rs1 (rvc ty_138 z z z) (rs1 (rvc ty_4 z z z) rs0)) (re2 [] ⟨.sub (fun _ _ _ => q) z, ⟨.dat, q⟩⟩ z h0)

def term_Check (x0 : Term) : Option Int :=
  (term_Size x0).bind fun r1 =>
  (bif (true && ((decide (400 < r1)) == false)) then term_Depth (rankTerm x0) x0 else some default).bind fun r3 =>
  bif (decide (400 < r1)) || (decide (60 < r3)) then
    some 4
  else
    (term_nodes x0).bind fun r6 =>
    (term_nodes_1_2 0 0 r6).bind fun r8 =>
    bif Nat.beq r8.1 0 then
      (term_variables x0).bind fun r11 =>
      bif !r11 then some 14 else some 0
    else asr (Nat.beq r8.1 2) <|
      some r8.2
theorem term_Check_ok {x0 : Term} {R : Int} (H : term_Check x0 = some R) : FnOk Tryz.prog K0 128 [(aA (encTermX x0))] [] (aN .i64 R) [] := by
  refine fn_z (nt := 27) (np := 0) Tryz.func128 z z (by simp) (np_of2 z) <| ?_
  unfold term_Check at H
  refine wz_seq <| wc_region z <| lh (p_bx 0 z q z) z <| lh (p_al 1 zr_35 z) z <| ne <| wz_seq <| sgr z <| l (p_ldB (ds := (encTermX x0).map .data) ty_114 z z z z) z <| ?_
  obtain ⟨r1, e2, H⟩ := ob H
  refine l (p_c (term_Size_ok e2) ent_131 z z z) z <| l (p_gtr z z) z <| lm z z <| lw z (Grd.plain _) z [1] z (s1 strip_same s0) (fun hw => p_ldB (ds := (encTermX x0).map .data) ty_114 z z z z) ⟨z, q⟩ (by exact ⟨z, q⟩) z z <| ?_
  obtain ⟨r3, e4, H⟩ := ob H
  refine lw z (Grd.plain _) z [10] z (s1 (strip_when id) s0) (fun hw => p_c (term_Depth_ok (bt hw e4)) ent_132 z z z) ⟨z, q⟩ (by exact q) z z <| lw z (Grd.plain _) z [11] z (s1 (strip_when id) s0) (fun hw => p_gtr z z) ⟨z, q⟩ (by exact q) z z <| l (p_pkO z z q (strip_when (wf))) z <| ne <| ?_
  rcases cn H with ⟨b5, H⟩ | ⟨b5, H⟩
  · refine c_t z b5 ?_
    refine sgr z <| l0h (p_st ty_35 z z z q z z) <| ne <| wc_ret <| e_tr <| ?_
    obtain rfl := sm H
    exact fin (Or.inr z) (rs1 (rvc ty_35 z z z) rs0) (re [] (.dat) z h0)
  refine c_f z b5 <| se <| wz_pre <| wc_region z <| l (p_ldB (ds := (encTermX x0).map .data) ty_114 z z z z) z <| ?_
  obtain ⟨r6, e7, H⟩ := ob H
  refine lh (p_ch (ids := [2]) (term_nodes_ok e7) ent_133 z z (rc z z rn) (rc z rdd rn) z ⟨z, q⟩ (by decide) z z z (oc z on) (oc od on) z) z <| ne <| ?_
  obtain ⟨r8, e9, H⟩ := ob H
  refine w_range (kL := 3) (kD := 4) (ids := [1, 2]) (q := r8.1) (ts := [(2, (.ptr 1 0))]) (term_nodes_1_2_ok e9) ent_136 z z (rc z z (rc z z (rc z rdd rn))) (rc z z (rc z z (rc z rdd rn))) z z z ⟨z, q⟩ ⟨z, ⟨z, ⟨z, q⟩⟩⟩ (by decide) z z z (oc z (oc z (oc od on))) (oc z (oc z (oc od on))) z z z <| ?_
  rcases cn H with ⟨b10, H⟩ | ⟨b10, H⟩
  · refine .inl ⟨Nat.eq_of_beq_eq_true b10, ?_⟩
    refine wc_seq <| sgr z <| l (p_ldB (ds := (encTermX x0).map .data) ty_114 z z z z) z <| ?_
    obtain ⟨r11, e12, H⟩ := ob H
    refine l (p_c (term_variables_ok e12) ent_135 z z z) z <| lm z z <| l (p_ex z z) z <| l (p_ex z z) z <| la z z <| la z z <| ne <| sgr z <| lm z z <| l (p_not z) z <| ne <| ?_
    rcases cn H with ⟨b13, H⟩ | ⟨b13, H⟩
    · refine c_t z b13 ?_
      refine sgr z <| l0h (p_st ty_35 z z z q z z) <| ne <| wc_ret <| e_tr <| ?_
      obtain rfl := sm H
      exact fin (Or.inr z) (rs1 (rvc ty_35 z z z) rs0) (re [] (.dat) z h0)
    refine c_f z b13 <| se <| sgr z <| l0h (p_st ty_35 z z z q z z) <| ne <| wc_ret <| ?_
    obtain rfl := sm H
    exact fin (Or.inr z) (rs1 (rvc ty_35 z z z) rs0) (re [] (.dat) z h0)
  obtain ⟨b10, H⟩ := as_ H
  refine .inr ⟨Nat.eq_of_beq_eq_true b10, ?_⟩
  obtain rfl := sm H
  exact fin (Or.inr z) (rs1 (rvc ty_35 z z z) rs0) (re [] (.dat) z h0)

def machine_checker_leaves_b2 (x2 : Term) (self : machine_checker → (List (ByteArray × Int)) → Term → Option (machine_checker × (List (ByteArray × Int)))) (rec2 : Int × machine_checker × (List (ByteArray × Int)) → Option (machine_checker × (List (ByteArray × Int)))) : Int × machine_checker × (List (ByteArray × Int)) → Option (machine_checker × (List (ByteArray × Int)))
  | (v2, v3, v4) =>
    bif decide (v2 < (x2.Sub.length : Int)) then
      (ix x2.Sub v2).bind fun r6 =>
      (self v3 v4 r6).bind fun r8 =>
      rec2 ((w64 (v2 + 1), r8.1, r8.2))
    else
      some (v3, v4)
def machine_checker_leaves_k1 (x1 : List (ByteArray × Int)) (x2 : Term) (self : machine_checker → (List (ByteArray × Int)) → Term → Option (machine_checker × (List (ByteArray × Int)))) : machine_checker → Option (machine_checker × (List (ByteArray × Int)))
  | v1 =>
    lp (machine_checker_leaves_b2 x2 self) (x2.Sub.length + 1) (0, v1, x1)
def machine_checker_leaves_f (self : machine_checker → (List (ByteArray × Int)) → Term → Option (machine_checker × (List (ByteArray × Int)))) (x0 : machine_checker) (x1 : List (ByteArray × Int)) (x2 : Term) : Option (machine_checker × (List (ByteArray × Int))) :=
  jn (machine_checker_leaves_k1 x1 x2 self) fun k1 =>
  bif x2.Kind == 2 then
    (machine_checker_must x0 [((mGet x1 x2.Name).getD 0) == x2.Width]).bind fun r11 =>
    k1 r11
  else
    bif x2.Kind == 24 then
      (ix x2.Sub 0).bind fun r14 =>
      (machine_checker_must x0 [r14.Width == x0.Machine.Address]).bind fun r16 =>
      k1 r16
    else
      k1 x0
def machine_checker_leaves : Nat → machine_checker → (List (ByteArray × Int)) → Term → Option (machine_checker × (List (ByteArray × Int)))
  | 0 => fun _ _ _ => none
  | n + 1 => machine_checker_leaves_f (machine_checker_leaves n)
theorem machine_checker_leaves_ok {n : Nat} : ∀ {x0 : machine_checker} {x1 : List (ByteArray × Int)} {x2 : Term} {R : machine_checker × (List (ByteArray × Int))}, machine_checker_leaves n x0 x1 x2 = some R → FnOk Tryz.prog K0 129 [(.ptr 0 0), (.mp 1), (aA (encTermX x2))] [(0, (oD 150 (encmachine_checker x0))), (1, (oM Value.string (dN .i64) x1))] (.tup []) [(0, (oD 150 (encmachine_checker R.1))), (1, (oM Value.string (dN .i64) R.2))] := by
  induction n with
  | zero => intro x0 x1 x2 R H; cases H
  | succ n ih =>
    intro x0 x1 x2 R H
    refine fn_w (nt := 50) (np := 2) Tryz.func129 z z (by simp) (np_of2 z) <| ?_
    have H : machine_checker_leaves_f (machine_checker_leaves n) x0 x1 x2 = some R := H
    unfold machine_checker_leaves_f at H
    refine sgr z <| lh (p_bx 2 z q z) z <| ne <| ?_
    refine w_jn1 H (fun v1 => ⟨[(0, (.ptr 0 0)), (1, (.mp 1)), (5, (.ptr 2 0))], [(0, (oD 150 (encmachine_checker v1))), (1, (oM Value.string (dN .i64) x1)), (2, (oD 114 (encTermX x2)))]⟩) ?_ ?_
    · intro v1 H
      rw [machine_checker_leaves_k1] at H
      refine sgr z <| l (p_fd fld_114_5 z) z <| l (p_ld ty_112 z z z) z <| l (p_lenL Tryz.underlying112 z) z <| lm z z <| ne <| wc_block <| w_lp3 H (fun v2 v3 v4 => ⟨[(0, (.ptr 0 0)), (1, (.mp 1)), (39, (aL 6 encTerm x2.Sub)), (40, (aN .i64 (x2.Sub.length : Int))), (41, (aN .i64 v2))], [(0, (oD 150 (encmachine_checker v3))), (1, (oM Value.string (dN .i64) v4))]⟩) (en [(0, 0), (1, 1)] (ws z z z (ws z z z (wd z (wd z (wd z w0))))) z (hc z (hs z rmm omm h0))) <| ?_
      intro n2 v2 v3 v4 H
      rw [machine_checker_leaves_b2] at H
      refine sgr z <| l (p_lss z z) z <| ne <| wc_seq <| ?_
      rcases cn H with ⟨b5, H⟩ | ⟨b5, H⟩
      · refine c_t z b5 ?_
        refine se <| wc_seq <| wc_block <| sgr z <| ?_
        obtain ⟨r6, e7, H⟩ := ob H
        refine l (p_ixX (encTerm_X _) Tryz.underlying112 ty_114.size z z e7) z <| l (p_ldA (ds := encTermX r6) ty_114 z z z) z <| lh (p_al 4 zr_114 z) z <| l0h (p_stA (ds := (encTermX r6).map .data) ty_114 z z z z z z) <| ne <| wc_region z <| lm z z <| lm z z <| l (p_ldB (ds := (encTermX r6).map .data) ty_114 z z z z) z <| ?_
        obtain ⟨r8, e9, H⟩ := ob H
        refine lh (p_ch (ids := [0, 1]) (ih e9) ent_129 z z (rc z rdd (rc z rmm rn)) (rc z rdd (rc z rmm rn)) z ⟨z, ⟨z, q⟩⟩ (by decide) z z z (oc od (oc omm on)) (oc od (oc omm on)) z) z <| wl_nil <| ?_
        refine e_bn (e_n ?_)
        refine wc_region z <| l (p_add z z) z <| lm z z <| ne <| ?_
        exact ⟨w64 (v2 + 1), r8.1, r8.2, H, en [(0, 0), (1, 1)] (ws z z z (ws z z z (wd z (wd z (wd z w0))))) z (hc z (hs z rmm omm h0))⟩
      refine c_f z b5 <| wc_exit <| ?_
      refine e_te (e_te (e_h ?_))
      obtain rfl := sm H
      exact fin (Or.inl z) rs0 (re2 [(0, 0), (1, 1)] q z (hc z (hs z rmm omm h0)))
    intro H
    refine sgr z <| l (p_fd fld_114_0 z) z <| l (p_ld ty_5 z z z) z <| ne <| wc_block <| sgr z <| l (p_eql z z) z <| la z z <| ne <| ?_
    rcases cn H with ⟨b10, H⟩ | ⟨b10, H⟩
    · refine c_t z b10 ?_
      refine wc_region z <| lm z z <| lm z z <| l (p_fd fld_114_3 z) z <| l (p_ld ty_9 z z z) z <| l (p_lk (z := 0) (vd := (dN .i64)) Tryz.underlying138 (keyS Tryz.underlying9) zv_3 z z z z z) z <| l (p_fd fld_114_1 z) z <| l (p_ld ty_3 z z z) z <| l (p_eql z z) z <| l (p_bs (f := eT) [.tmp 19] [((mGet x1 x2.Name).getD 0) == x2.Width] Tryz.underlying167 ty_4.size zr_4 z z z z (el1 (.one _) z el0) z) z <| ?_
      obtain ⟨r11, e12, H⟩ := ob H
      refine lh (p_ch (ids := [0]) (machine_checker_must_ok e12) ent_84 z z (rc z rdd rn) (rc z rdd rn) z ⟨z, q⟩ (by decide) z z z (oc od on) (oc od on) z) z <| wl_nil <| ?_
      refine e_bn (e_n ?_)
      exact ⟨r11, H, en [(0, 0), (1, 1), (2, 2)] (ws z z z (ws z z z (ws z z z w0))) z (hc z (hs z rmm omm (hc z h0)))⟩
    refine c_f z b10 <| sgr z <| l (p_eql z z) z <| la z z <| ne <| ?_
    rcases cn H with ⟨b13, H⟩ | ⟨b13, H⟩
    · refine c_t z b13 ?_
      refine wc_draw [0, 0, 2, 6, 14, 30, 0, 64, 192, 448, 960, 2046, 4094, 8191] mixed z <| dm z z <| dr (p_fd fld_114_5 z) z <| dr (p_ld ty_112 z z z) z <| ?_
      obtain ⟨r14, e15, H⟩ := ob H
      refine dr (p_ixX (encTerm_X _) Tryz.underlying112 ty_114.size z z e15) z <| dr (p_fdP fld_114_1 z) z <| dr (p_ldP ty_3 z z) z <| dm z z <| dr (p_nl z) z <| dr (p_fd fld_150_0 z) z <| dr (p_fd fld_27_2 z) z <| dr (p_ld ty_3 z z z) z <| dr (p_eql z z) z <| dr (p_bs (f := eT) [.tmp 35] [r14.Width == x0.Machine.Address] Tryz.underlying167 ty_4.size zr_4 z z z z (el1 (.one _) z el0) z) z <| ?_
      obtain ⟨r16, e17, H⟩ := ob H
      refine drh (p_ch (ids := [0]) (machine_checker_must_ok e17) ent_84 z z (rc z rdd rn) (rc z rdd rn) z ⟨z, q⟩ (by decide) z z z (oc od on) (oc od on) z) z <| ?_
      refine wd_nil ?_ (by kernel_rfl)
      refine e_bn (e_n ?_)
      exact ⟨r16, H, en [(0, 0), (1, 1), (2, 2)] (ws z z z (ws z z z (ws z z z w0))) z (hc z (hs z rmm omm (hc z h0)))⟩
    refine c_f z b13 <| wc_skip <| ?_
    refine e_bn (e_n ?_)
    exact ⟨x0, H, en [(0, 0), (1, 1), (2, 2)] (ws z z z (ws z z z (ws z z z w0))) z (hc z (hs z rmm omm (hc z h0)))⟩

def machine_checker_fits_b1 (x2 : List Term) (rec1 : Int × machine_checker × (List (ByteArray × Int)) → Option (machine_checker × (List (ByteArray × Int)))) : Int × machine_checker × (List (ByteArray × Int)) → Option (machine_checker × (List (ByteArray × Int)))
  | (v1, v2, v3) =>
    bif decide (v1 < (x2.length : Int)) then
      (ix x2 v1).bind fun r5 =>
      (term_Check r5).bind fun r7 =>
      (machine_checker_must v2 [r7 == 0]).bind fun r9 =>
      bif !r9.ok then
        some (r9, v3)
      else
        (machine_checker_leaves (rankTerm r5) r9 v3 r5).bind fun r12 =>
        rec1 ((w64 (v1 + 1), r12.1, r12.2))
    else
      some (v2, v3)
def machine_checker_fits (x0 : machine_checker) (x1 : List (ByteArray × Int)) (x2 : List Term) : Option (machine_checker × (List (ByteArray × Int))) :=
  lp (machine_checker_fits_b1 x2) (x2.length + 1) (0, x0, x1)
theorem machine_checker_fits_ok {x0 : machine_checker} {x1 : List (ByteArray × Int)} {x2 : List Term} {R : machine_checker × (List (ByteArray × Int))} (H : machine_checker_fits x0 x1 x2 = some R) : FnOk Tryz.prog K0 121 [(.ptr 0 0), (.mp 1), (aL 6 encTerm x2)] [(0, (oD 150 (encmachine_checker x0))), (1, (oM Value.string (dN .i64) x1))] (.tup []) [(0, (oD 150 (encmachine_checker R.1))), (1, (oM Value.string (dN .i64) R.2))] := by
  refine fn_w (nt := 30) (np := 2) Tryz.func121 z z (by simp) (np_of2 z) <| ?_
  unfold machine_checker_fits at H
  refine sgr z <| lm z z <| l (p_lenL Tryz.underlying112 z) z <| lm z z <| ne <| wc_block <| w_lp3 H (fun v1 v2 v3 => ⟨[(0, (.ptr 0 0)), (1, (.mp 1)), (8, (aL 6 encTerm x2)), (9, (aN .i64 (x2.length : Int))), (10, (aN .i64 v1))], [(0, (oD 150 (encmachine_checker v2))), (1, (oM Value.string (dN .i64) v3))]⟩) (en [(0, 0), (1, 1)] (ws z z z (ws z z z (wd z (wd z (wd z w0))))) z (hc z (hs z rmm omm h0))) <| ?_
  intro n1 v1 v2 v3 H
  rw [machine_checker_fits_b1] at H
  refine sgr z <| l (p_lss z z) z <| ne <| wc_seq <| ?_
  rcases cn H with ⟨b4, H⟩ | ⟨b4, H⟩
  · refine c_t z b4 ?_
    refine se <| wc_seq <| wc_block <| sgr z <| ?_
    obtain ⟨r5, e6, H⟩ := ob H
    refine l (p_ixX (encTerm_X _) Tryz.underlying112 ty_114.size z z e6) z <| l (p_ldA (ds := encTermX r5) ty_114 z z z) z <| lh (p_al 3 zr_114 z) z <| l0h (p_stA (ds := (encTermX r5).map .data) ty_114 z z z z z z) <| ne <| sgr z <| lm z z <| l (p_ldB (ds := (encTermX r5).map .data) ty_114 z z z z) z <| ?_
    obtain ⟨r7, e8, H⟩ := ob H
    refine l (p_c (term_Check_ok e8) ent_128 z z z) z <| l (p_eql z z) z <| l (p_bs (f := eT) [.tmp 17] [r7 == 0] Tryz.underlying167 ty_4.size zr_4 z z z z (el1 (.one _) z el0) z) z <| ?_
    obtain ⟨r9, e10, H⟩ := ob H
    refine lh (p_ch (ids := [0]) (machine_checker_must_ok e10) ent_84 z z (rc z rdd rn) (rc z rdd rn) z ⟨z, q⟩ (by decide) z z z (oc od on) (oc od on) z) z <| ne <| wc_seq <| sgr z <| lm z z <| l (p_nl z) z <| l (p_fd fld_150_1 z) z <| l (p_ld ty_4 z z z) z <| l (p_not z) z <| ne <| ?_
    rcases cn H with ⟨b11, H⟩ | ⟨b11, H⟩
    · refine c_t z b11 ?_
      refine wc_ret <| ?_
      refine e_tr (e_br (e_tr (e_tr (e_br ?_))))
      obtain rfl := sm H
      exact fin (Or.inr z) rs0 (re2 [(0, 0), (1, 1)] q z (hc z (hs z rmm omm h0)))
    refine c_f z b11 <| se <| wc_region z <| lm z z <| lm z z <| l (p_ldB (ds := (encTermX r5).map .data) ty_114 z z z z) z <| ?_
    obtain ⟨r12, e13, H⟩ := ob H
    refine lh (p_ch (ids := [0, 1]) (machine_checker_leaves_ok e13) ent_129 z z (rc z rdd (rc z rmm rn)) (rc z rdd (rc z rmm rn)) z ⟨z, ⟨z, q⟩⟩ (by decide) z z z (oc od (oc omm on)) (oc od (oc omm on)) z) z <| wl_nil <| ?_
    refine e_bn (e_n ?_)
    refine wc_region z <| l (p_add z z) z <| lm z z <| ne <| ?_
    exact ⟨w64 (v1 + 1), r12.1, r12.2, H, en [(0, 0), (1, 1)] (ws z z z (ws z z z (wd z (wd z (wd z w0))))) z (hc z (hs z rmm omm h0))⟩
  refine c_f z b4 <| wc_exit <| ?_
  refine e_te (e_te (e_h ?_))
  obtain rfl := sm H
  exact fin (Or.inl z) rs0 (re2 [(0, 0), (1, 1)] q z (hc z (hs z rmm omm h0)))

def machine_none_k1 : Unit → Option Bool
  | () =>
    some true
def machine_none_b2 (x0 : List Term) (k1 : Unit → Option Bool) (rec2 : Int → Option Bool) : Int → Option Bool
  | v1 =>
    bif decide (v1 < (x0.length : Int)) then
      (ix x0 v1).bind fun r3 =>
      bif (((((r3.Kind != 0) || (r3.Width != 0)) || (r3.Bits != 0)) || (!sEq r3.Name (⟨#[]⟩ : ByteArray))) || (r3.Low != 0)) || (decide (0 < (r3.Sub.length : Int))) then some false else rec2 (w64 (v1 + 1))
    else
      k1 ()
def machine_none (x0 : List Term) : Option Bool :=
  jn machine_none_k1 fun k1 =>
  lp (machine_none_b2 x0 k1) (x0.length + 1) 0
theorem machine_none_ok {x0 : List Term} {R : Bool} (H : machine_none x0 = some R) : FnOk Tryz.prog K0 122 [(aL 6 encTerm x0)] [] (aT R) [] := by
  refine fn_w (nt := 41) (np := 0) Tryz.func122 z z (by simp) (np_of2 z) <| ?_
  unfold machine_none at H
  refine sgr z <| la z z <| ne <| ?_
  refine w_jn0 H (⟨[], []⟩) ?_ ?_
  · intro H
    rw [machine_none_k1] at H
    refine sgr z <| la z z <| ne <| wc_ret <| ?_
    obtain rfl := sm H
    exact fin (Or.inr z) (rs1 (rv z) rs0) (re [] (.dat) z h0)
  intro H
  refine sgr z <| lm z z <| l (p_lenL Tryz.underlying112 z) z <| lm z z <| ne <| wc_block <| w_lp1 H (fun v1 => ⟨[(5, (aL 6 encTerm x0)), (6, (aN .i64 (x0.length : Int))), (7, (aN .i64 v1))], []⟩) (en [] (wd z (wd z (wd z w0))) z h0) <| ?_
  intro n2 v1 H
  rw [machine_none_b2] at H
  refine sgr z <| l (p_lss z z) z <| ne <| wc_seq <| ?_
  rcases cn H with ⟨b2, H⟩ | ⟨b2, H⟩
  · refine c_t z b2 ?_
    refine se <| wc_seq <| wc_block <| sgr z <| ?_
    obtain ⟨r3, e4, H⟩ := ob H
    refine l (p_ixX (encTerm_X _) Tryz.underlying112 ty_114.size z z e4) z <| l (p_ldA (ds := encTermX r3) ty_114 z z z) z <| lh (p_al 1 zr_114 z) z <| l0h (p_stA (ds := (encTermX r3).map .data) ty_114 z z z z z z) <| ne <| sgr z <| l (p_fd fld_114_0 z) z <| l (p_ld ty_5 z z z) z <| l (p_neq z z) z <| lm z z <| lw z (Grd.plain _) z [4] z (s1 strip_same s0) (fun hw => p_fd fld_114_1 z) ⟨z, q⟩ (by exact q) z z <| lw z (Grd.plain _) z [15] z (s1 (strip_when id) s0) (fun hw => p_ld ty_3 z z z) ⟨z, q⟩ (by exact ⟨z, q⟩) z z <| lw z (Grd.plain _) z [16] z (s1 (strip_when id) s0) (fun hw => p_neq z z) ⟨z, q⟩ (by exact q) z z <| l (p_pkO z z q (strip_when (wf))) z <| lm z z <| lw z (Grd.plain _) z [4] z (s1 strip_same s0) (fun hw => p_fd fld_114_2 z) ⟨z, q⟩ (by exact q) z z <| lw z (Grd.plain _) z [20] z (s1 (strip_when id) s0) (fun hw => p_ld ty_57 z z z) ⟨z, q⟩ (by exact ⟨z, q⟩) z z <| lw z (Grd.plain _) z [21] z (s1 (strip_when id) s0) (fun hw => p_neq z z) ⟨z, q⟩ (by exact q) z z <| l (p_pkO z z q (strip_when (wf))) z <| lm z z <| lw z (Grd.plain _) z [4] z (s1 strip_same s0) (fun hw => p_fd fld_114_3 z) ⟨z, q⟩ (by exact q) z z <| lw z (Grd.plain _) z [25] z (s1 (strip_when id) s0) (fun hw => p_ld ty_9 z z z) ⟨z, q⟩ (by exact ⟨z, q⟩) z z <| lw z (Grd.plain _) z [26] z (s1 (strip_when id) s0) (fun hw => p_sne z z) ⟨z, q⟩ (by exact q) z z <| l (p_pkO z z q (strip_when (wf))) z <| lm z z <| lw z (Grd.plain _) z [4] z (s1 strip_same s0) (fun hw => p_fd fld_114_4 z) ⟨z, q⟩ (by exact q) z z <| lw z (Grd.plain _) z [30] z (s1 (strip_when id) s0) (fun hw => p_ld ty_3 z z z) ⟨z, q⟩ (by exact ⟨z, q⟩) z z <| lw z (Grd.plain _) z [31] z (s1 (strip_when id) s0) (fun hw => p_neq z z) ⟨z, q⟩ (by exact q) z z <| l (p_pkO z z q (strip_when (wf))) z <| lm z z <| lw z (Grd.plain _) z [4] z (s1 strip_same s0) (fun hw => p_fd fld_114_5 z) ⟨z, q⟩ (by exact q) z z <| lw z (Grd.plain _) z [35] z (s1 (strip_when id) s0) (fun hw => p_ld ty_112 z z z) ⟨z, q⟩ (by exact ⟨z, q⟩) z z <| lw z (Grd.plain _) z [36] z (s1 (strip_when id) s0) (fun hw => p_lenL Tryz.underlying112 z) ⟨z, q⟩ (by exact q) z z <| lw z (Grd.plain _) z [37] z (s1 (strip_when id) s0) (fun hw => p_gtr z z) ⟨z, q⟩ (by exact q) z z <| l (p_pkO z z q (strip_when (wf))) z <| ne <| ?_
    rcases cn H with ⟨b5, H⟩ | ⟨b5, H⟩
    · refine c_t z b5 ?_
      refine sgr z <| la z z <| ne <| wc_ret <| ?_
      refine e_br (e_tr (e_tr (e_br (e_tr ?_))))
      obtain rfl := sm H
      exact fin (Or.inr z) (rs1 (rv z) rs0) (re [] (.dat) z h0)
    refine c_f z b5 <| wc_skip <| ?_
    refine e_bn (e_n ?_)
    refine wc_region z <| l (p_add z z) z <| lm z z <| ne <| ?_
    exact ⟨w64 (v1 + 1), H, en [] (wd z (wd z (wd z w0))) z h0⟩
  refine c_f z b2 <| wc_exit <| ?_
  refine e_te (e_te (e_h (e_n ?_)))
  exact ⟨H, en [] w0 z h0⟩

def machine_checker_effect_k1 (x1 : MachInstr) (x2 : MachEffect) (x3 : List (ByteArray × Int)) : machine_checker → Option (machine_checker × (List (ByteArray × Int)))
  | v1 =>
    (machine_checker_fits v1 x3 [x2.Value]).bind fun r2 =>
    bif x2.Kind == 1 then
      (machine_none [x2.Addr, x2.Cond]).bind fun r5 =>
      (machine_checker_must r2.1 [r5]).bind fun r7 =>
      (bif (true && ((x2.Operand == (-1)) == true)) then machine_within x2.Reg 0 (w64 ((r7.Machine.Regs.length : Int) - 1)) else some default).bind fun r9 =>
      bif (x2.Operand == (-1)) && r9 then
        (ix r7.Machine.Regs x2.Reg).bind fun r12 =>
        (machine_checker_must r7 [x2.Value.Width == r12.Width]).bind fun r14 =>
        some (r14, r2.2)
      else
        (bif (true && ((x2.Reg == 0) == true)) then machine_within x2.Operand 0 (w64 ((x1.Operands.length : Int) - 1)) else some default).bind fun r16 =>
        bif (x2.Reg == 0) && r16 then
          (ix x1.Operands x2.Operand).bind fun r19 =>
          (machine_wide r7.Machine r19).bind fun r21 =>
          (machine_checker_must r7 [r19.Kind == 1, x2.Value.Width == r21]).bind fun r23 =>
          some (r23, r2.2)
        else
          (machine_checker_must r7 [false]).bind fun r25 =>
          some (r25, r2.2)
    else
      bif x2.Kind == 2 then
        (machine_checker_fits r2.1 r2.2 [x2.Addr]).bind fun r28 =>
        (machine_none [x2.Cond]).bind fun r30 =>
        (slices_Contains_int_int [8, 16, 32, 64] x2.Value.Width).bind fun r32 =>
        (machine_checker_must r28.1 [r30, x2.Addr.Width == r28.1.Machine.Address, r32]).bind fun r34 =>
        some (r34, r28.2)
      else
        bif x2.Kind == 3 then
          (machine_none [x2.Addr]).bind fun r37 =>
          (machine_checker_must r2.1 [r37, x2.Value.Width == r2.1.Machine.Address]).bind fun r39 =>
          (machine_none [x2.Cond]).bind fun r41 =>
          bif !r41 then
            (machine_checker_fits r39 r2.2 [x2.Cond]).bind fun r44 =>
            (machine_checker_must r44.1 [x2.Cond.Width == 1]).bind fun r46 =>
            some (r46, r44.2)
          else
            some (r39, r2.2)
        else
          bif x2.Kind == 4 then
            (machine_none [x2.Addr, x2.Cond]).bind fun r49 =>
            (machine_checker_must r2.1 [r49]).bind fun r51 =>
            some (r51, r2.2)
          else
            (machine_checker_must r2.1 [false]).bind fun r53 =>
            some (r53, r2.2)
def machine_checker_effect (x0 : machine_checker) (x1 : MachInstr) (x2 : MachEffect) (x3 : List (ByteArray × Int)) : Option (machine_checker × (List (ByteArray × Int))) :=
  jn (machine_checker_effect_k1 x1 x2 x3) fun k1 =>
  bif x2.Kind != 1 then
    (machine_checker_must x0 [x2.Operand == 0, x2.Reg == 0]).bind fun r56 =>
    k1 r56
  else
    k1 x0
theorem machine_checker_effect_ok {x0 : machine_checker} {x1 : MachInstr} {x2 : MachEffect} {x3 : List (ByteArray × Int)} {R : machine_checker × (List (ByteArray × Int))} (H : machine_checker_effect x0 x1 x2 x3 = some R) : FnOk Tryz.prog K0 106 [(.ptr 0 0), (aA (encMachInstr x1)), (aA (encMachEffect x2)), (.mp 1)] [(0, (oD 150 (encmachine_checker x0))), (1, (oM Value.string (dN .i64) x3))] (.tup []) [(0, (oD 150 (encmachine_checker R.1))), (1, (oM Value.string (dN .i64) R.2))] := by
  refine fn_w (nt := 190) (np := 2) Tryz.func106 z z (by simp) (np_of2 z) <| ?_
  unfold machine_checker_effect at H
  refine sgr z <| lh (p_bx 2 z q z) z <| lh (p_bx 3 z q z) z <| ne <| ?_
  refine w_jn1 H (fun v1 => ⟨[(0, (.ptr 0 0)), (3, (.mp 1)), (5, (.ptr 2 0)), (6, (.ptr 3 0))], [(0, (oD 150 (encmachine_checker v1))), (1, (oM Value.string (dN .i64) x3)), (2, (oD 61 (encMachInstr x1))), (3, (oD 118 (encMachEffect x2)))]⟩) ?_ ?_
  · intro v1 H
    rw [machine_checker_effect_k1] at H
    refine sgr z <| lm z z <| lm z z <| l (p_fd fld_118_4 z) z <| l (p_ldB (ds := (encTermX x2.Value).map .data) ty_114 z z z z) z <| l (p_bs (f := encTerm) [.tmp 24] [x2.Value] Tryz.underlying112 ty_114.size zr_114 z z z z (el1X (encTerm_X _) (.agg _) z el0) z) z <| ?_
    obtain ⟨r2, e3, H⟩ := ob H
    refine lh (p_ch (ids := [0, 1]) (machine_checker_fits_ok e3) ent_121 z z (rc z rdd (rc z rmm rn)) (rc z rdd (rc z rmm rn)) z ⟨z, ⟨z, q⟩⟩ (by decide) z z z (oc od (oc omm on)) (oc od (oc omm on)) z) z <| ne <| sgr z <| l (p_fd fld_118_0 z) z <| l (p_ld ty_5 z z z) z <| ne <| wc_block <| sgr z <| l (p_eql z z) z <| la z z <| ne <| ?_
    rcases cn H with ⟨b4, H⟩ | ⟨b4, H⟩
    · refine c_t z b4 ?_
      refine sgr z <| lm z z <| l (p_fd fld_118_3 z) z <| l (p_ldB (ds := (encTermX x2.Addr).map .data) ty_114 z z z z) z <| l (p_fd fld_118_5 z) z <| l (p_ldB (ds := (encTermX x2.Cond).map .data) ty_114 z z z z) z <| l (p_bs (f := encTerm) [.tmp 36, .tmp 38] [x2.Addr, x2.Cond] Tryz.underlying112 ty_114.size zr_114 z z z z (el1X (encTerm_X _) (.agg _) z (el1X (encTerm_X _) (.agg _) z el0)) z) z <| ?_
      obtain ⟨r5, e6, H⟩ := ob H
      refine l (p_c (machine_none_ok e6) ent_122 z z z) z <| l (p_bs (f := eT) [.tmp 40] [r5] Tryz.underlying167 ty_4.size zr_4 z z z z (el1 (.one _) z el0) z) z <| ?_
      obtain ⟨r7, e8, H⟩ := ob H
      refine lh (p_ch (ids := [0]) (machine_checker_must_ok e8) ent_84 z z (rc z rdd rn) (rc z rdd rn) z ⟨z, q⟩ (by decide) z z z (oc od on) (oc od on) z) z <| ne <| wc_block <| wc_seq <| wc_draw [0, 1, 3, 7, 15, 31, 15, 79, 207, 463, 975, 1999, 4047, 8191, 16383, 32767] mixed z <| dr (p_fd fld_118_1 z) z <| dr (p_ld ty_3 z z z) z <| dr (p_eql z z) z <| dm z z <| dw z (Grd.plain _) z [6] z (s1 strip_same s0) (fun hw => p_fd fld_118_2 z) ⟨z, q⟩ (by exact q) z <| dw z (Grd.plain _) z [51] z (s1 (strip_when id) s0) (fun hw => p_ld ty_3 z z z) ⟨z, q⟩ (by exact ⟨z, q⟩) z <| dw z (Grd.plain _) z [0] z (s1 strip_same s0) (fun hw => p_mv z) ⟨z, q⟩ (by exact q) z <| dw z (Grd.plain _) z [53] z (s1 (strip_when id) s0) (fun hw => p_nl z) ⟨z, q⟩ (by exact q) z <| dw z (Grd.plain _) z [54] z (s1 (strip_when id) s0) (fun hw => p_fd fld_150_0 z) ⟨z, q⟩ (by exact q) z <| dw z (Grd.plain _) z [55] z (s1 (strip_when id) s0) (fun hw => p_fd fld_27_3 z) ⟨z, q⟩ (by exact q) z <| dw z (Grd.plain _) z [56] z (s1 (strip_when id) s0) (fun hw => p_ld ty_22 z z z) ⟨z, q⟩ (by exact ⟨z, q⟩) z <| dw z (Grd.plain _) z [57] z (s1 (strip_when id) s0) (fun hw => p_lenL Tryz.underlying22 z) ⟨z, q⟩ (by exact q) z <| dw z (Grd.plain _) z [58] z (s1 (strip_when id) s0) (fun hw => p_sub z z) ⟨z, q⟩ (by exact q) z <| ?_
      obtain ⟨r9, e10, H⟩ := ob H
      refine dw z (Grd.plain _) z [52, 59] z (s1 (strip_when id) (s1 (strip_when id) s0)) (fun hw => p_c (machine_within_ok (bt hw e10)) ent_64 z z z) ⟨z, ⟨z, q⟩⟩ (by exact q) z <| dr (p_pkA z z q (strip_when (wt))) z <| da z z <| ?_
      refine wd_nil ?_ (by kernel_rfl)
      refine e_n <| ?_
      rcases cn H with ⟨b11, H⟩ | ⟨b11, H⟩
      · refine c_t z b11 ?_
        refine wc_draw [0, 0, 2, 6, 0, 16, 48, 112, 240, 0, 512, 2032, 4080, 8176, 16382, 32766, 65535] mixed z <| dm z z <| dr (p_fd fld_118_4 z) z <| dr (p_fd fld_114_1 z) z <| dr (p_ld ty_3 z z z) z <| dm z z <| dr (p_nl z) z <| dr (p_fd fld_150_0 z) z <| dr (p_fd fld_27_3 z) z <| dr (p_ld ty_22 z z z) z <| dr (p_fd fld_118_2 z) z <| dr (p_ld ty_3 z z z) z <| ?_
        obtain ⟨r12, e13, H⟩ := ob H
        refine dr (p_ixL Tryz.underlying22 ty_100.size z z e13) z <| dr (p_fdP fld_100_1 z) z <| dr (p_ldP ty_3 z z) z <| dr (p_eql z z) z <| dr (p_bs (f := eT) [.tmp 76] [x2.Value.Width == r12.Width] Tryz.underlying167 ty_4.size zr_4 z z z z (el1 (.one _) z el0) z) z <| ?_
        obtain ⟨r14, e15, H⟩ := ob H
        refine drh (p_ch (ids := [0]) (machine_checker_must_ok e15) ent_84 z z (rc z rdd rn) (rc z rdd rn) z ⟨z, q⟩ (by decide) z z z (oc od on) (oc od on) z) z <| ?_
        refine wd_nil ?_ (by kernel_rfl)
        refine e_bn (e_bn ?_)
        obtain rfl := sm H
        exact fin (Or.inl z) rs0 (re2 [(0, 0), (1, 1)] q z (hc z (hs z rmm omm h0)))
      refine c_f z b11 <| sgr z <| l (p_fd fld_118_2 z) z <| l (p_ld ty_3 z z z) z <| l (p_eql z z) z <| lm z z <| lw z (Grd.plain _) z [6] z (s1 strip_same s0) (fun hw => p_fd fld_118_1 z) ⟨z, q⟩ (by exact q) z z <| lw z (Grd.plain _) z [84] z (s1 (strip_when id) s0) (fun hw => p_ld ty_3 z z z) ⟨z, q⟩ (by exact ⟨z, q⟩) z z <| lw z (Grd.plain _) z [5] z (s1 strip_same s0) (fun hw => p_fd fld_61_3 z) ⟨z, q⟩ (by exact q) z z <| lw z (Grd.plain _) z [86] z (s1 (strip_when id) s0) (fun hw => p_ld ty_58 z z z) ⟨z, q⟩ (by exact ⟨z, q⟩) z z <| lw z (Grd.plain _) z [87] z (s1 (strip_when id) s0) (fun hw => p_lenL Tryz.underlying58 z) ⟨z, q⟩ (by exact q) z z <| lw z (Grd.plain _) z [88] z (s1 (strip_when id) s0) (fun hw => p_sub z z) ⟨z, q⟩ (by exact q) z z <| ?_
      obtain ⟨r16, e17, H⟩ := ob H
      refine lw z (Grd.plain _) z [85, 89] z (s1 (strip_when id) (s1 (strip_when id) s0)) (fun hw => p_c (machine_within_ok (bt hw e17)) ent_64 z z z) ⟨z, ⟨z, q⟩⟩ (by exact q) z z <| l (p_pkA z z q (strip_when (wt))) z <| la z z <| ne <| ?_
      rcases cn H with ⟨b18, H⟩ | ⟨b18, H⟩
      · refine c_t z b18 ?_
        refine sgr z <| l (p_fd fld_61_3 z) z <| l (p_ld ty_58 z z z) z <| l (p_fd fld_118_1 z) z <| l (p_ld ty_3 z z z) z <| ?_
        obtain ⟨r19, e20, H⟩ := ob H
        refine l (p_ixL Tryz.underlying58 ty_107.size z z e20) z <| l (p_ldA (ds := encMachOperand r19) ty_107 z z z) z <| lh (p_al 4 zr_107 z) z <| l0h (p_stA (ds := (encMachOperand r19).map .data) ty_107 z z z z z z) <| ne <| wc_draw [0, 0, 2, 6, 0, 16, 48, 0, 128, 384, 896, 0, 3968, 8176, 16382, 32767] mixed z <| dm z z <| dr (p_fd fld_107_1 z) z <| dr (p_ld ty_5 z z z) z <| dr (p_eql z z) z <| dr (p_fd fld_118_4 z) z <| dr (p_fd fld_114_1 z) z <| dr (p_ld ty_3 z z z) z <| dm z z <| dr (p_nl z) z <| dr (p_fd fld_150_0 z) z <| dr (p_ldB (ds := (encMachine r7.Machine).map .data) ty_27 z z z z) z <| dr (p_ldB (ds := (encMachOperand r19).map .data) ty_107 z z z z) z <| ?_
        obtain ⟨r21, e22, H⟩ := ob H
        refine dr (p_c (machine_wide_ok e22) ent_120 z z z) z <| dr (p_eql z z) z <| dr (p_bs (f := eT) [.tmp 101, .tmp 111] [r19.Kind == 1, x2.Value.Width == r21] Tryz.underlying167 ty_4.size zr_4 z z z z (el1 (.one _) z (el1 (.one _) z el0)) z) z <| ?_
        obtain ⟨r23, e24, H⟩ := ob H
        refine drh (p_ch (ids := [0]) (machine_checker_must_ok e24) ent_84 z z (rc z rdd rn) (rc z rdd rn) z ⟨z, q⟩ (by decide) z z z (oc od on) (oc od on) z) z <| ?_
        refine wd_nil ?_ (by kernel_rfl)
        refine e_bn (e_bn ?_)
        obtain rfl := sm H
        exact fin (Or.inl z) rs0 (re2 [(0, 0), (1, 1)] q z (hc z (hs z rmm omm h0)))
      refine c_f z b18 <| wc_region z <| lm z z <| l (p_bs (f := eT) [.const (Value.bool false)] [false] Tryz.underlying167 ty_4.size zr_4 z z z z (el1 (.one _) z el0) z) z <| ?_
      obtain ⟨r25, e26, H⟩ := ob H
      refine lh (p_ch (ids := [0]) (machine_checker_must_ok e26) ent_84 z z (rc z rdd rn) (rc z rdd rn) z ⟨z, q⟩ (by decide) z z z (oc od on) (oc od on) z) z <| wl_nil <| ?_
      refine e_bn (e_bn ?_)
      obtain rfl := sm H
      exact fin (Or.inl z) rs0 (re2 [(0, 0), (1, 1)] q z (hc z (hs z rmm omm h0)))
    refine c_f z b4 <| sgr z <| l (p_eql z z) z <| la z z <| ne <| ?_
    rcases cn H with ⟨b27, H⟩ | ⟨b27, H⟩
    · refine c_t z b27 ?_
      refine sgr z <| lm z z <| lm z z <| l (p_fd fld_118_3 z) z <| l (p_ldB (ds := (encTermX x2.Addr).map .data) ty_114 z z z z) z <| l (p_bs (f := encTerm) [.tmp 119] [x2.Addr] Tryz.underlying112 ty_114.size zr_114 z z z z (el1X (encTerm_X _) (.agg _) z el0) z) z <| ?_
      obtain ⟨r28, e29, H⟩ := ob H
      refine lh (p_ch (ids := [0, 1]) (machine_checker_fits_ok e29) ent_121 z z (rc z rdd (rc z rmm rn)) (rc z rdd (rc z rmm rn)) z ⟨z, ⟨z, q⟩⟩ (by decide) z z z (oc od (oc omm on)) (oc od (oc omm on)) z) z <| ne <| wc_draw [0, 0, 2, 6, 14, 0, 32, 96, 0, 256, 768, 1792, 3840, 8160, 0, 0, 32768, 98304, 245790, 524286, 1048575] mixed z <| dm z z <| dr (p_fd fld_118_5 z) z <| dr (p_ldB (ds := (encTermX x2.Cond).map .data) ty_114 z z z z) z <| dr (p_bs (f := encTerm) [.tmp 124] [x2.Cond] Tryz.underlying112 ty_114.size zr_114 z z z z (el1X (encTerm_X _) (.agg _) z el0) z) z <| ?_
      obtain ⟨r30, e31, H⟩ := ob H
      refine dr (p_c (machine_none_ok e31) ent_122 z z z) z <| dr (p_fd fld_118_3 z) z <| dr (p_fd fld_114_1 z) z <| dr (p_ld ty_3 z z z) z <| dm z z <| dr (p_nl z) z <| dr (p_fd fld_150_0 z) z <| dr (p_fd fld_27_2 z) z <| dr (p_ld ty_3 z z z) z <| dr (p_eql z z) z <| dr (p_bs (f := (eN .i64)) [.const (Value.int IntKind.i64 8), .const (Value.int IntKind.i64 16), .const (Value.int IntKind.i64 32), .const (Value.int IntKind.i64 64)] [8, 16, 32, 64] Tryz.underlying29 ty_3.size zr_3 z z z z (el1 (.one _) z (el1 (.one _) z (el1 (.one _) z (el1 (.one _) z el0)))) z) z <| dr (p_fd fld_118_4 z) z <| dr (p_fd fld_114_1 z) z <| dr (p_ld ty_3 z z z) z <| ?_
      obtain ⟨r32, e33, H⟩ := ob H
      refine dr (p_c (slices_Contains_int_int_ok e33) ent_66 z z z) z <| dr (p_bs (f := eT) [.tmp 126, .tmp 135, .tmp 140] [r30, x2.Addr.Width == r28.1.Machine.Address, r32] Tryz.underlying167 ty_4.size zr_4 z z z z (el1 (.one _) z (el1 (.one _) z (el1 (.one _) z el0))) z) z <| ?_
      obtain ⟨r34, e35, H⟩ := ob H
      refine drh (p_ch (ids := [0]) (machine_checker_must_ok e35) ent_84 z z (rc z rdd rn) (rc z rdd rn) z ⟨z, q⟩ (by decide) z z z (oc od on) (oc od on) z) z <| ?_
      refine wd_nil ?_ (by kernel_rfl)
      refine e_bn <| ?_
      obtain rfl := sm H
      exact fin (Or.inl z) rs0 (re2 [(0, 0), (1, 1)] q z (hc z (hs z rmm omm h0)))
    refine c_f z b27 <| sgr z <| l (p_eql z z) z <| la z z <| ne <| ?_
    rcases cn H with ⟨b36, H⟩ | ⟨b36, H⟩
    · refine c_t z b36 ?_
      refine wc_seq <| wc_draw [0, 0, 2, 6, 14, 0, 32, 96, 0, 256, 768, 1792, 3840, 8160, 16382, 32767] mixed z <| dm z z <| dr (p_fd fld_118_3 z) z <| dr (p_ldB (ds := (encTermX x2.Addr).map .data) ty_114 z z z z) z <| dr (p_bs (f := encTerm) [.tmp 147] [x2.Addr] Tryz.underlying112 ty_114.size zr_114 z z z z (el1X (encTerm_X _) (.agg _) z el0) z) z <| ?_
      obtain ⟨r37, e38, H⟩ := ob H
      refine dr (p_c (machine_none_ok e38) ent_122 z z z) z <| dr (p_fd fld_118_4 z) z <| dr (p_fd fld_114_1 z) z <| dr (p_ld ty_3 z z z) z <| dm z z <| dr (p_nl z) z <| dr (p_fd fld_150_0 z) z <| dr (p_fd fld_27_2 z) z <| dr (p_ld ty_3 z z z) z <| dr (p_eql z z) z <| dr (p_bs (f := eT) [.tmp 149, .tmp 158] [r37, x2.Value.Width == r2.1.Machine.Address] Tryz.underlying167 ty_4.size zr_4 z z z z (el1 (.one _) z (el1 (.one _) z el0)) z) z <| ?_
      obtain ⟨r39, e40, H⟩ := ob H
      refine drh (p_ch (ids := [0]) (machine_checker_must_ok e40) ent_84 z z (rc z rdd rn) (rc z rdd rn) z ⟨z, q⟩ (by decide) z z z (oc od on) (oc od on) z) z <| ?_
      refine wd_nil ?_ (by kernel_rfl)
      refine e_n <| sgr z <| l (p_fd fld_118_5 z) z <| l (p_ldB (ds := (encTermX x2.Cond).map .data) ty_114 z z z z) z <| l (p_bs (f := encTerm) [.tmp 162] [x2.Cond] Tryz.underlying112 ty_114.size zr_114 z z z z (el1X (encTerm_X _) (.agg _) z el0) z) z <| ?_
      obtain ⟨r41, e42, H⟩ := ob H
      refine l (p_c (machine_none_ok e42) ent_122 z z z) z <| l (p_not z) z <| ne <| ?_
      rcases cn H with ⟨b43, H⟩ | ⟨b43, H⟩
      · refine c_t z b43 ?_
        refine sgr z <| lm z z <| lm z z <| l (p_fd fld_118_5 z) z <| l (p_ldB (ds := (encTermX x2.Cond).map .data) ty_114 z z z z) z <| l (p_bs (f := encTerm) [.tmp 169] [x2.Cond] Tryz.underlying112 ty_114.size zr_114 z z z z (el1X (encTerm_X _) (.agg _) z el0) z) z <| ?_
        obtain ⟨r44, e45, H⟩ := ob H
        refine lh (p_ch (ids := [0, 1]) (machine_checker_fits_ok e45) ent_121 z z (rc z rdd (rc z rmm rn)) (rc z rdd (rc z rmm rn)) z ⟨z, ⟨z, q⟩⟩ (by decide) z z z (oc od (oc omm on)) (oc od (oc omm on)) z) z <| ne <| wc_region z <| lm z z <| l (p_fd fld_118_5 z) z <| l (p_fd fld_114_1 z) z <| l (p_ld ty_3 z z z) z <| l (p_eql z z) z <| l (p_bs (f := eT) [.tmp 176] [x2.Cond.Width == 1] Tryz.underlying167 ty_4.size zr_4 z z z z (el1 (.one _) z el0) z) z <| ?_
        obtain ⟨r46, e47, H⟩ := ob H
        refine lh (p_ch (ids := [0]) (machine_checker_must_ok e47) ent_84 z z (rc z rdd rn) (rc z rdd rn) z ⟨z, q⟩ (by decide) z z z (oc od on) (oc od on) z) z <| wl_nil <| e_bn <| ?_
        obtain rfl := sm H
        exact fin (Or.inl z) rs0 (re2 [(0, 0), (1, 1)] q z (hc z (hs z rmm omm h0)))
      refine c_f z b43 <| wc_skip <| e_bn <| ?_
      obtain rfl := sm H
      exact fin (Or.inl z) rs0 (re2 [(0, 0), (1, 1)] q z (hc z (hs z rmm omm h0)))
    refine c_f z b36 <| sgr z <| l (p_eql z z) z <| la z z <| ne <| ?_
    rcases cn H with ⟨b48, H⟩ | ⟨b48, H⟩
    · refine c_t z b48 ?_
      refine wc_region z <| lm z z <| l (p_fd fld_118_3 z) z <| l (p_ldB (ds := (encTermX x2.Addr).map .data) ty_114 z z z z) z <| l (p_fd fld_118_5 z) z <| l (p_ldB (ds := (encTermX x2.Cond).map .data) ty_114 z z z z) z <| l (p_bs (f := encTerm) [.tmp 183, .tmp 185] [x2.Addr, x2.Cond] Tryz.underlying112 ty_114.size zr_114 z z z z (el1X (encTerm_X _) (.agg _) z (el1X (encTerm_X _) (.agg _) z el0)) z) z <| ?_
      obtain ⟨r49, e50, H⟩ := ob H
      refine l (p_c (machine_none_ok e50) ent_122 z z z) z <| l (p_bs (f := eT) [.tmp 187] [r49] Tryz.underlying167 ty_4.size zr_4 z z z z (el1 (.one _) z el0) z) z <| ?_
      obtain ⟨r51, e52, H⟩ := ob H
      refine lh (p_ch (ids := [0]) (machine_checker_must_ok e52) ent_84 z z (rc z rdd rn) (rc z rdd rn) z ⟨z, q⟩ (by decide) z z z (oc od on) (oc od on) z) z <| wl_nil <| e_bn <| ?_
      obtain rfl := sm H
      exact fin (Or.inl z) rs0 (re2 [(0, 0), (1, 1)] q z (hc z (hs z rmm omm h0)))
    refine c_f z b48 <| wc_region z <| lm z z <| l (p_bs (f := eT) [.const (Value.bool false)] [false] Tryz.underlying167 ty_4.size zr_4 z z z z (el1 (.one _) z el0) z) z <| ?_
    obtain ⟨r53, e54, H⟩ := ob H
    refine lh (p_ch (ids := [0]) (machine_checker_must_ok e54) ent_84 z z (rc z rdd rn) (rc z rdd rn) z ⟨z, q⟩ (by decide) z z z (oc od on) (oc od on) z) z <| wl_nil <| e_bn <| ?_
    obtain rfl := sm H
    exact fin (Or.inl z) rs0 (re2 [(0, 0), (1, 1)] q z (hc z (hs z rmm omm h0)))
  intro H
  refine sgr z <| l (p_fd fld_118_0 z) z <| l (p_ld ty_5 z z z) z <| l (p_neq z z) z <| ne <| ?_
  rcases cn H with ⟨b55, H⟩ | ⟨b55, H⟩
  · refine c_t z b55 ?_
    refine wc_region z <| lm z z <| l (p_fd fld_118_1 z) z <| l (p_ld ty_3 z z z) z <| l (p_eql z z) z <| l (p_fd fld_118_2 z) z <| l (p_ld ty_3 z z z) z <| l (p_eql z z) z <| l (p_bs (f := eT) [.tmp 15, .tmp 18] [x2.Operand == 0, x2.Reg == 0] Tryz.underlying167 ty_4.size zr_4 z z z z (el1 (.one _) z (el1 (.one _) z el0)) z) z <| ?_
    obtain ⟨r56, e57, H⟩ := ob H
    refine lh (p_ch (ids := [0]) (machine_checker_must_ok e57) ent_84 z z (rc z rdd rn) (rc z rdd rn) z ⟨z, q⟩ (by decide) z z z (oc od on) (oc od on) z) z <| ne <| ?_
    exact ⟨r56, H, en [(0, 0), (1, 1), (2, 2), (3, 3)] (ws z z z (ws z z z (ws z z z (ws z z z w0)))) z (hc z (hs z rmm omm (hc z (hc z h0))))⟩
  refine c_f z b55 <| se <| ?_
  exact ⟨x0, H, en [(0, 0), (1, 1), (2, 2), (3, 3)] (ws z z z (ws z z z (ws z z z (ws z z z w0)))) z (hc z (hs z rmm omm (hc z (hc z h0))))⟩

def machine_checker_instr_k2 (x1 : MachInstr) : machine_checker × (List (Int × Int)) → Option machine_checker
  | (v9, v10) =>
    (machine_within x1.Unit 0 (w64 ((v9.Machine.Units.length : Int) - 1))).bind fun r11 =>
    (machine_within x1.Busy 1 15).bind fun r13 =>
    (machine_within x1.Latency 1 15).bind fun r15 =>
    (machine_within x1.Slots 0 2).bind fun r17 =>
    (machine_checker_must v9 [decide (((mGet v10 3).getD 0) ≤ 1), (((mGet v10 4).getD 0) == 0) || ((x1.Effects.length : Int) == 1), r11, r13, r15, r17, (x1.Slots == 0) || (((mGet v10 3).getD 0) == 1)]).bind fun r19 =>
    some r19
def machine_checker_instr_b3 (x1 : MachInstr) (k2 : machine_checker × (List (Int × Int)) → Option machine_checker) (rec3 : Int × machine_checker × (List (ByteArray × Int)) × (List (Int × Int)) → Option machine_checker) : Int × machine_checker × (List (ByteArray × Int)) × (List (Int × Int)) → Option machine_checker
  | (v21, v22, v23, v24) =>
    bif decide (v21 < (x1.Effects.length : Int)) then
      (ix x1.Effects v21).bind fun r26 =>
      (machine_checker_effect v22 x1 r26 v23).bind fun r28 =>
      rec3 ((w64 (v21 + 1), r28.1, r28.2, mSet v24 r26.Kind (w64 (((mGet v24 r26.Kind).getD 0) + 1))))
    else
      k2 (v22, v24)
def machine_checker_instr_k1 (x1 : MachInstr) : machine_checker → Option machine_checker
  | v5 =>
    bif !v5.ok then
      some v5
    else
      (machine_checker_variables v5 x1).bind fun r7 =>
      jn (machine_checker_instr_k2 x1) fun k2 =>
      lp (machine_checker_instr_b3 x1 k2) (x1.Effects.length + 1) ((0, v5, r7, ([] : List (Int × Int))))
def machine_checker_instr_b4 (x1 : MachInstr) (k1 : machine_checker → Option machine_checker) (rec4 : Int × Int × machine_checker × (List ByteArray) → Option machine_checker) : Int × Int × machine_checker × (List ByteArray) → Option machine_checker
  | (v30, v31, v32, v33) =>
    bif decide (v31 < (x1.Operands.length : Int)) then
      (ix x1.Operands v31).bind fun r35 =>
      (machine_names_fresh v33 r35.Name).bind fun r37 =>
      (machine_checker_must v32 [r37.1]).bind fun r39 =>
      (machine_checker_operand r39 x1 v31).bind fun r41 =>
      (machine_checker_must r41.2 [(bAnd .u64 v30 r41.1) == 0]).bind fun r43 =>
      rec4 ((bOr .u64 v30 r41.1, w64 (v31 + 1), r43, r37.2))
    else
      k1 v32
def machine_checker_instr (x0 : machine_checker) (x1 : MachInstr) : Option machine_checker :=
  (bits_Mask (w64 (8 * x0.Machine.Word))).bind fun r1 =>
  (machine_checker_must x0 [(bAndNot .u64 x1.Mask r1) == 0, (bAndNot .u64 x1.Match x1.Mask) == 0]).bind fun r3 =>
  jn (machine_checker_instr_k1 x1) fun k1 =>
  lp (machine_checker_instr_b4 x1 k1) (x1.Operands.length + 1) ((x1.Mask, 0, r3, [(⟨#[112, 99]⟩ : ByteArray)]))
theorem machine_checker_instr_ok {x0 : machine_checker} {x1 : MachInstr} {R : machine_checker} (H : machine_checker_instr x0 x1 = some R) : FnOk Tryz.prog K0 90 [(.ptr 0 0), (aA (encMachInstr x1))] [(0, (oD 150 (encmachine_checker x0)))] (.tup []) [(0, (oD 150 (encmachine_checker R)))] := by
  refine fn_w (nt := 136) (np := 1) Tryz.func90 z z (by simp) (np_of2 z) <| ?_
  unfold machine_checker_instr at H
  refine sgr z <| lh (p_bx 1 z q z) z <| ne <| wc_seq <| wc_draw [0, 0, 2, 0, 8, 24, 56, 120, 248, 504, 1022, 2046, 0, 4096, 0, 16384, 61440, 126976, 262142, 524287] mixed z <| dm z z <| dr (p_fd fld_61_1 z) z <| dr (p_ld ty_57 z z z) z <| dm z z <| dr (p_nl z) z <| dr (p_fd fld_150_0 z) z <| dr (p_fd fld_27_1 z) z <| dr (p_ld ty_3 z z z) z <| dr (p_mul z z) z <| ?_
  obtain ⟨r1, e2, H⟩ := ob H
  refine dr (p_c (bits_Mask_ok e2) ent_98 z z z) z <| dr (p_andNot z z) z <| dr (p_eql z z) z <| dr (p_fd fld_61_2 z) z <| dr (p_ld ty_57 z z z) z <| dr (p_fd fld_61_1 z) z <| dr (p_ld ty_57 z z z) z <| dr (p_andNot z z) z <| dr (p_eql z z) z <| dr (p_bs (f := eT) [.tmp 25, .tmp 31] [(bAndNot .u64 x1.Mask r1) == 0, (bAndNot .u64 x1.Match x1.Mask) == 0] Tryz.underlying167 ty_4.size zr_4 z z z z (el1 (.one _) z (el1 (.one _) z el0)) z) z <| ?_
  obtain ⟨r3, e4, H⟩ := ob H
  refine drh (p_ch (ids := [0]) (machine_checker_must_ok e4) ent_84 z z (rc z rdd rn) (rc z rdd rn) z ⟨z, q⟩ (by decide) z z z (oc od on) (oc od on) z) z <| ?_
  refine wd_nil ?_ (by kernel_rfl)
  refine e_n <| sgr z <| lh (p_bsO (f := eS) 2 [.const (Value.string {data := #[112, 99]})] [(⟨#[112, 99]⟩ : ByteArray)] Tryz.underlying98 ty_9.size zr_9 z z z z (cs1 q z cs0) z z z z) z <| l (p_bd (cs := [(.row 2)]) pl_154 zr_154 z ⟨q, q⟩ z) z <| lh (p_al 3 zr_154 z) z <| wl_ent (nrc (j := 3) (i := 0) (f := eS) (sz := 1) (e := 9) 4 z z z) <| l0h (p_stA (ds := [(.row 2)]) ty_154 z z z z z z) <| ne <| sgr z <| l (p_fd fld_61_1 z) z <| l (p_ld ty_57 z z z) z <| la z z <| ne <| ?_
  refine w_jn1 H (fun v5 => ⟨[(0, (.ptr 0 0)), (3, (.ptr 1 0))], [(0, (oD 150 (encmachine_checker v5))), (1, (oD 61 (encMachInstr x1)))]⟩) ?_ ?_
  · intro v5 H
    rw [machine_checker_instr_k1] at H
    refine wc_seq <| sgr z <| lm z z <| l (p_nl z) z <| l (p_fd fld_150_1 z) z <| l (p_ld ty_4 z z z) z <| l (p_not z) z <| ne <| ?_
    rcases cn H with ⟨b6, H⟩ | ⟨b6, H⟩
    · refine c_t z b6 ?_
      refine wc_ret <| e_tr <| ?_
      obtain rfl := sm H
      exact fin (Or.inr z) rs0 (re2 [(0, 0)] q z (hc z h0))
    refine c_f z b6 <| se <| sgr z <| lm z z <| l (p_ldB (ds := (encMachInstr x1).map .data) ty_61 z z z z) z <| ?_
    obtain ⟨r7, e8, H⟩ := ob H
    refine lh (p_ch (ids := [0, 7]) (machine_checker_variables_ok e8) ent_105 z z (rc z rdd (rc z z rn)) (rc z rdd (rc z rmm rn)) z ⟨z, ⟨z, q⟩⟩ (by decide) z z z (oc od (oc z on)) (oc od (oc omm on)) z) z <| la z z <| ne <| sgr z <| lh (p_mm 8 (dN .i64) (Value.int .u8) z) z <| la z z <| ne <| ?_
    refine w_jn2 H (fun v9 v10 => ⟨[(0, (.ptr 0 0)), (3, (.ptr 1 0)), (10, (.mp 8))], [(0, (oD 150 (encmachine_checker v9))), (1, (oD 61 (encMachInstr x1))), (8, (oM (Value.int .u8) (dN .i64) v10))]⟩) ?_ ?_
    · intro v9 v10 H
      rw [machine_checker_instr_k2] at H
      refine sgr z <| lm z z <| l (p_lk (z := 0) (vd := (dN .i64)) Tryz.underlying171 (keyN Tryz.underlying5) zv_3 z z z z z) z <| la z z <| ne <| wc_draw [0, 0, 2, 0, 8, 24, 56, 120, 248, 504, 1016, 2040, 0, 4096, 0, 16384, 49152, 114688, 245760, 507904, 1032192, 2093176, 0, 4194304, 16773240, 0, 33554432, 134213752, 0, 268435456, 1073737848, 0, 2147483648, 6442450944, 17179865208, 34359734392, 68719472760, 137438949496, 274877906942, 549755813887] mixed z <| dm z z <| dm z z <| dr (p_leq z z) z <| dm z z <| dr (p_lk (z := 0) (vd := (dN .i64)) Tryz.underlying171 (keyN Tryz.underlying5) zv_3 z z z z z) z <| dr (p_eql z z) z <| dm z z <| dw z (Grd.plain _) z [3] z (s1 strip_same s0) (fun hw => p_fd fld_61_4 z) ⟨z, q⟩ (by exact q) z <| dw z (Grd.plain _) z [103] z (s1 (strip_when id) s0) (fun hw => p_ld ty_59 z z z) ⟨z, q⟩ (by exact ⟨z, q⟩) z <| dw z (Grd.plain _) z [104] z (s1 (strip_when id) s0) (fun hw => p_lenL Tryz.underlying59 z) ⟨z, q⟩ (by exact q) z <| dw z (Grd.plain _) z [105] z (s1 (strip_when id) s0) (fun hw => p_eql z z) ⟨z, q⟩ (by exact q) z <| dr (p_pkO z z q (strip_when (wf))) z <| dr (p_fd fld_61_5 z) z <| dr (p_ld ty_3 z z z) z <| dm z z <| dr (p_nl z) z <| dr (p_fd fld_150_0 z) z <| dr (p_fd fld_27_5 z) z <| dr (p_ld ty_24 z z z) z <| dr (p_lenL Tryz.underlying24 z) z <| dr (p_sub z z) z <| ?_
      obtain ⟨r11, e12, H⟩ := ob H
      refine dr (p_c (machine_within_ok e12) ent_64 z z z) z <| dr (p_fd fld_61_6 z) z <| dr (p_ld ty_3 z z z) z <| ?_
      obtain ⟨r13, e14, H⟩ := ob H
      refine dr (p_c (machine_within_ok e14) ent_64 z z z) z <| dr (p_fd fld_61_7 z) z <| dr (p_ld ty_3 z z z) z <| ?_
      obtain ⟨r15, e16, H⟩ := ob H
      refine dr (p_c (machine_within_ok e16) ent_64 z z z) z <| dr (p_fd fld_61_8 z) z <| dr (p_ld ty_3 z z z) z <| ?_
      obtain ⟨r17, e18, H⟩ := ob H
      refine dr (p_c (machine_within_ok e18) ent_64 z z z) z <| dr (p_fd fld_61_8 z) z <| dr (p_ld ty_3 z z z) z <| dr (p_eql z z) z <| dm z z <| dw z (Grd.plain _) z [13] z (s1 strip_same s0) (fun hw => p_mv z) ⟨z, q⟩ (by exact q) z <| dw z (Grd.plain _) z [131] z (s1 (strip_when id) s0) (fun hw => p_eql z z) ⟨z, q⟩ (by exact q) z <| dr (p_pkO z z q (strip_when (wf))) z <| dr (p_bs (f := eT) [.tmp 98, .tmp 107, .tmp 117, .tmp 120, .tmp 123, .tmp 126, .tmp 133] [decide (((mGet v10 3).getD 0) ≤ 1), (((mGet v10 4).getD 0) == 0) || ((x1.Effects.length : Int) == 1), r11, r13, r15, r17, (x1.Slots == 0) || (((mGet v10 3).getD 0) == 1)] Tryz.underlying167 ty_4.size zr_4 z z z z (el1 (.one _) z (el1 (.one _) z (el1 (.one _) z (el1 (.one _) z (el1 (.one _) z (el1 (.one _) z (el1 (.one _) z el0))))))) z) z <| ?_
      obtain ⟨r19, e20, H⟩ := ob H
      refine drh (p_ch (ids := [0]) (machine_checker_must_ok e20) ent_84 z z (rc z rdd rn) (rc z rdd rn) z ⟨z, q⟩ (by decide) z z z (oc od on) (oc od on) z) z <| ?_
      refine wd_nil ?_ (by kernel_rfl)
      obtain rfl := sm H
      exact fin (Or.inl z) rs0 (re2 [(0, 0)] q z (hc z h0))
    intro H
    refine sgr z <| l (p_fd fld_61_4 z) z <| l (p_ld ty_59 z z z) z <| l (p_lenL Tryz.underlying59 z) z <| lm z z <| ne <| wc_block <| w_lp4 H (fun v21 v22 v23 v24 => ⟨[(0, (.ptr 0 0)), (3, (.ptr 1 0)), (9, (.mp 7)), (10, (.mp 8)), (77, (aL 21 encMachEffect x1.Effects)), (78, (aN .i64 (x1.Effects.length : Int))), (79, (aN .i64 v21))], [(0, (oD 150 (encmachine_checker v22))), (1, (oD 61 (encMachInstr x1))), (7, (oM Value.string (dN .i64) v23)), (8, (oM (Value.int .u8) (dN .i64) v24))]⟩) (en [(0, 0), (1, 1), (7, 7), (8, 8)] (ws z z z (ws z z z (ws z z z (ws z z z (wd z (wd z (wd z w0))))))) z (hc z (hc z (hs z rmm omm (hs z rmm omm h0))))) <| ?_
    intro n3 v21 v22 v23 v24 H
    rw [machine_checker_instr_b3] at H
    refine sgr z <| l (p_lss z z) z <| ne <| wc_seq <| ?_
    rcases cn H with ⟨b25, H⟩ | ⟨b25, H⟩
    · refine c_t z b25 ?_
      refine se <| wc_seq <| wc_block <| sgr z <| ?_
      obtain ⟨r26, e27, H⟩ := ob H
      refine l (p_ixL Tryz.underlying59 ty_118.size z z e27) z <| l (p_ldA (ds := encMachEffect r26) ty_118 z z z) z <| lh (p_al 10 zr_118 z) z <| l0h (p_stA (ds := (encMachEffect r26).map .data) ty_118 z z z z z z) <| ne <| sgr z <| lm z z <| l (p_ldB (ds := (encMachInstr x1).map .data) ty_61 z z z z) z <| l (p_ldB (ds := (encMachEffect r26).map .data) ty_118 z z z z) z <| lm z z <| ?_
      obtain ⟨r28, e29, H⟩ := ob H
      refine lh (p_ch (ids := [0, 7]) (machine_checker_effect_ok e29) ent_106 z z (rc z rdd (rc z rmm rn)) (rc z rdd (rc z rmm rn)) z ⟨z, ⟨z, q⟩⟩ (by decide) z z z (oc od (oc omm on)) (oc od (oc omm on)) z) z <| ne <| wc_region z <| lm z z <| l (p_fd fld_118_0 z) z <| l (p_ld ty_5 z z z) z <| l (p_lk (z := 0) (vd := (dN .i64)) Tryz.underlying171 (keyN Tryz.underlying5) zv_3 z z z z z) z <| l (p_add z z) z <| l0h (p_mu (vd := (dN .i64)) (y0 := w64 (((mGet v24 r26.Kind).getD 0) + 1)) Tryz.underlying171 (keyN Tryz.underlying5) z z z z) <| wl_nil <| ?_
      refine e_bn (e_n ?_)
      refine wc_region z <| l (p_add z z) z <| lm z z <| ne <| ?_
      exact ⟨w64 (v21 + 1), r28.1, r28.2, mSet v24 r26.Kind (w64 (((mGet v24 r26.Kind).getD 0) + 1)), H, en [(0, 0), (1, 1), (7, 7), (8, 8)] (ws z z z (ws z z z (ws z z z (ws z z z (wd z (wd z (wd z w0))))))) z (hc z (hc z (hs z rmm omm (hs z rmm omm h0))))⟩
    refine c_f z b25 <| wc_exit <| ?_
    refine e_te (e_te (e_h (e_n ?_)))
    exact ⟨v22, v24, H, en [(0, 0), (1, 1), (8, 8)] (ws z z z (ws z z z (ws z z z w0))) z (hc z (hc z (hs z rmm omm h0)))⟩
  intro H
  refine sgr z <| l (p_fd fld_61_3 z) z <| l (p_ld ty_58 z z z) z <| l (p_lenL Tryz.underlying58 z) z <| lm z z <| ne <| wc_block <| w_lp4 H (fun v30 v31 v32 v33 => ⟨[(0, (.ptr 0 0)), (3, (.ptr 1 0)), (4, (.ptr 3 0)), (5, (aN .u64 v30)), (39, (aL 6 encMachOperand x1.Operands)), (40, (aN .i64 (x1.Operands.length : Int))), (41, (aN .i64 v31))], [(0, (oD 150 (encmachine_checker v32))), (1, (oD 61 (encMachInstr x1))), (2, (oR 9 1 eS v33)), (3, (oC 154 [(.row 2)]))]⟩) (en [(0, 0), (1, 1), (2, 2), (3, 3)] (ws z z z (ws z z z (ws z z z (wd z (wd z (wd z (wd z w0))))))) z (hc z (hc z (hr z (hs z z z h0))))) <| ?_
  intro n4 v30 v31 v32 v33 H
  rw [machine_checker_instr_b4] at H
  refine sgr z <| l (p_lss z z) z <| ne <| wc_seq <| ?_
  rcases cn H with ⟨b34, H⟩ | ⟨b34, H⟩
  · refine c_t z b34 ?_
    refine se <| wc_seq <| wc_block <| sgr z <| lm z z <| ?_
    obtain ⟨r35, e36, H⟩ := ob H
    refine l (p_ixL Tryz.underlying58 ty_107.size z z e36) z <| l (p_ldA (ds := encMachOperand r35) ty_107 z z z) z <| lh (p_al 7 zr_107 z) z <| la z z <| l0h (p_stA (ds := (encMachOperand r35).map .data) ty_107 z z z z z z) <| ne <| sgr z <| lm z z <| l (p_fd fld_107_0 z) z <| l (p_ld ty_9 z z z) z <| ?_
    obtain ⟨r37, e38, H⟩ := ob H
    refine lh (p_ch (ids := [3, 2, 8]) (machine_names_fresh_ok e38) ent_89 z z (rc z z (rc z rm (rc z z rn))) (rc z z (rc z z (rc z rm rn))) z ⟨z, ⟨z, ⟨z, q⟩⟩⟩ (by decide) z z z (oc z (oc om (oc z on))) (oc z (oc z (oc om on))) z) z <| l (p_bs (f := eT) [.tmp 49] [r37.1] Tryz.underlying167 ty_4.size zr_4 z z z z (el1 (.one _) z el0) z) z <| ?_
    obtain ⟨r39, e40, H⟩ := ob H
    refine lh (p_ch (ids := [0]) (machine_checker_must_ok e40) ent_84 z z (rc z rdd rn) (rc z rdd rn) z ⟨z, q⟩ (by decide) z z z (oc od on) (oc od on) z) z <| ne <| sgr z <| lm z z <| l (p_ldB (ds := (encMachInstr x1).map .data) ty_61 z z z z) z <| lm z z <| ?_
    obtain ⟨r41, e42, H⟩ := ob H
    refine lh (p_ch (ids := [0]) (machine_checker_operand_ok e42) ent_104 z z (rc z rdd rn) (rc z rdd rn) z ⟨z, q⟩ (by decide) z z z (oc od on) (oc od on) z) z <| la z z <| ne <| sgr z <| lm z z <| lm z z <| lm z z <| l (p_and z z) z <| l (p_eql z z) z <| l (p_bs (f := eT) [.tmp 60] [(bAnd .u64 v30 r41.1) == 0] Tryz.underlying167 ty_4.size zr_4 z z z z (el1 (.one _) z el0) z) z <| ?_
    obtain ⟨r43, e44, H⟩ := ob H
    refine lh (p_ch (ids := [0]) (machine_checker_must_ok e44) ent_84 z z (rc z rdd rn) (rc z rdd rn) z ⟨z, q⟩ (by decide) z z z (oc od on) (oc od on) z) z <| ne <| wc_region z <| lm z z <| lm z z <| l (p_or z z) z <| la z z <| wl_nil <| ?_
    refine e_bn (e_n ?_)
    refine wc_region z <| l (p_add z z) z <| lm z z <| ne <| ?_
    exact ⟨bOr .u64 v30 r41.1, w64 (v31 + 1), r43, r37.2, H, en [(0, 0), (1, 1), (8, 2), (3, 3)] (ws z z z (ws z z z (ws z z z (wd z (wd z (wd z (wd z w0))))))) z (hc z (hc z (hr z (hs z z z h0))))⟩
  refine c_f z b34 <| wc_exit <| ?_
  refine e_te (e_te (e_h (e_n ?_)))
  exact ⟨v32, H, en [(0, 0), (1, 1)] (ws z z z (ws z z z w0)) z (hc z (hc z h0))⟩

def machine_Check_k1 : machine_checker → Option Int
  | v16 =>
    bif !v16.ok then some 8 else some 0
def machine_Check_b2 (x0 : Machine) (k1 : machine_checker → Option Int) (rec2 : Int × machine_checker × (List ByteArray) → Option Int) : Int × machine_checker × (List ByteArray) → Option Int
  | (v18, v19, v20) =>
    bif decide (v18 < (x0.Instrs.length : Int)) then
      (ix x0.Instrs v18).bind fun r22 =>
      bif !v19.ok then
        k1 v19
      else
        (machine_names_fresh v20 r22.Name).bind fun r25 =>
        (machine_checker_must v19 [r25.1]).bind fun r27 =>
        (machine_checker_instr r27 r22).bind fun r29 =>
        rec2 ((w64 (v18 + 1), r29, r25.2))
    else
      k1 v19
def machine_Check (x0 : Machine) : Option Int :=
  (machine_small x0).bind fun r1 =>
  bif !r1 then
    some 4
  else
    (bits_Name x0.Name).bind fun r4 =>
    (machine_within x0.Word 1 4).bind fun r6 =>
    (machine_checker_must (machine_checker.mk x0 true) [r4, r6, (x0.Address == 16) || (x0.Address == 32)]).bind fun r8 =>
    (machine_checker_regs r8).bind fun r10 =>
    (machine_checker_banks r10).bind fun r12 =>
    (machine_checker_units r12).bind fun r14 =>
    jn machine_Check_k1 fun k1 =>
    lp (machine_Check_b2 x0 k1) (x0.Instrs.length + 1) ((0, r14, ([] : List ByteArray)))
theorem machine_Check_ok {x0 : Machine} {R : Int} (H : machine_Check x0 = some R) : FnOk Tryz.prog K0 63 [(aA (encMachine x0))] [] (aN .i64 R) [] := by
  refine fn_w (nt := 63) (np := 0) Tryz.func63 z z (by simp) (np_of2 z) <| ?_
  unfold machine_Check at H
  refine sgr z <| lh (p_bx 0 z q z) z <| la z z <| ne <| wc_seq <| sgr z <| l (p_ldB (ds := (encMachine x0).map .data) ty_27 z z z z) z <| ?_
  obtain ⟨r1, e2, H⟩ := ob H
  refine l (p_c (machine_small_ok e2) ent_83 z z z) z <| l (p_not z) z <| ne <| ?_
  rcases cn H with ⟨b3, H⟩ | ⟨b3, H⟩
  · refine c_t z b3 ?_
    refine sgr z <| la z z <| ne <| wc_ret <| e_tr <| ?_
    obtain rfl := sm H
    exact fin (Or.inr z) (rs1 (rv z) rs0) (re [] (.dat) z h0)
  refine c_f z b3 <| se <| sgr z <| l (p_ldB (ds := (encMachine x0).map .data) ty_27 z z z z) z <| l (p_bd (cs := (encmachine_checker (machine_checker.mk x0 true)).map .data) pl_150 zr_150 z ⟨q, ⟨q, q⟩⟩ z) z <| lh (p_bx 1 z q z) z <| la z z <| ne <| wc_seq <| wc_draw [0, 0, 2, 6, 0, 16, 62, 0, 128, 384, 1022, 2046, 4094, 8190, 16382, 32766, 65535] mixed z <| dm z z <| dr (p_fd fld_27_0 z) z <| dr (p_ld ty_9 z z z) z <| ?_
  obtain ⟨r4, e5, H⟩ := ob H
  refine dr (p_c (bits_Name_ok e5) ent_85 z z z) z <| dr (p_fd fld_27_1 z) z <| dr (p_ld ty_3 z z z) z <| ?_
  obtain ⟨r6, e7, H⟩ := ob H
  refine dr (p_c (machine_within_ok e7) ent_64 z z z) z <| dr (p_fd fld_27_2 z) z <| dr (p_ld ty_3 z z z) z <| dr (p_eql z z) z <| dm z z <| dw z (Grd.plain _) z [1] z (s1 strip_same s0) (fun hw => p_fd fld_27_2 z) ⟨z, q⟩ (by exact q) z <| dw z (Grd.plain _) z [24] z (s1 (strip_when id) s0) (fun hw => p_ld ty_3 z z z) ⟨z, q⟩ (by exact ⟨z, q⟩) z <| dw z (Grd.plain _) z [25] z (s1 (strip_when id) s0) (fun hw => p_eql z z) ⟨z, q⟩ (by exact q) z <| dr (p_pkO z z q (strip_when (wf))) z <| dr (p_bs (f := eT) [.tmp 16, .tmp 19, .tmp 27] [r4, r6, (x0.Address == 16) || (x0.Address == 32)] Tryz.underlying167 ty_4.size zr_4 z z z z (el1 (.one _) z (el1 (.one _) z (el1 (.one _) z el0))) z) z <| ?_
  obtain ⟨r8, e9, H⟩ := ob H
  refine drh (p_ch (ids := [1]) (machine_checker_must_ok e9) ent_84 z z (rc z rdd rn) (rc z rdd rn) z ⟨z, q⟩ (by decide) z z z (oc od on) (oc od on) z) z <| ?_
  refine wd_nil ?_ (by kernel_rfl)
  refine e_n <| sgr z <| lm z z <| ?_
  obtain ⟨r10, e11, H⟩ := ob H
  refine lh (p_ch (ids := [1]) (machine_checker_regs_ok e11) ent_86 z z (rc z rdd rn) (rc z rdd rn) z ⟨z, q⟩ (by decide) z z z (oc od on) (oc od on) z) z <| ne <| sgr z <| lm z z <| ?_
  obtain ⟨r12, e13, H⟩ := ob H
  refine lh (p_ch (ids := [1]) (machine_checker_banks_ok e13) ent_87 z z (rc z rdd rn) (rc z rdd rn) z ⟨z, q⟩ (by decide) z z z (oc od on) (oc od on) z) z <| ne <| sgr z <| lm z z <| ?_
  obtain ⟨r14, e15, H⟩ := ob H
  refine lh (p_ch (ids := [1]) (machine_checker_units_ok e15) ent_88 z z (rc z rdd rn) (rc z rdd rn) z ⟨z, q⟩ (by decide) z z z (oc od on) (oc od on) z) z <| ne <| sgr z <| lh (p_al 2 zr_154 z) z <| wl_ent (nrc (j := 2) (i := 0) (f := eS) (sz := 1) (e := 9) 3 z z z) <| ne <| ?_
  refine w_jn1 H (fun v16 => ⟨[(3, (.ptr 1 0))], [(1, (oD 150 (encmachine_checker v16)))]⟩) ?_ ?_
  · intro v16 H
    rw [machine_Check_k1] at H
    refine wc_seq <| sgr z <| lm z z <| l (p_nl z) z <| l (p_fd fld_150_1 z) z <| l (p_ld ty_4 z z z) z <| l (p_not z) z <| ne <| ?_
    rcases cn H with ⟨b17, H⟩ | ⟨b17, H⟩
    · refine c_t z b17 ?_
      refine sgr z <| la z z <| ne <| wc_ret <| e_tr <| ?_
      obtain rfl := sm H
      exact fin (Or.inr z) (rs1 (rv z) rs0) (re [] (.dat) z h0)
    refine c_f z b17 <| se <| sgr z <| la z z <| ne <| wc_ret <| ?_
    obtain rfl := sm H
    exact fin (Or.inr z) (rs1 (rv z) rs0) (re [] (.dat) z h0)
  intro H
  refine sgr z <| l (p_fd fld_27_6 z) z <| l (p_ld ty_25 z z z) z <| l (p_lenL Tryz.underlying25 z) z <| lm z z <| ne <| wc_block <| w_lp3 H (fun v18 v19 v20 => ⟨[(3, (.ptr 1 0)), (4, (.ptr 2 0)), (37, (aL 9 encMachInstr x0.Instrs)), (38, (aN .i64 (x0.Instrs.length : Int))), (39, (aN .i64 v18))], [(1, (oD 150 (encmachine_checker v19))), (2, (oC 154 [(.row 3)])), (3, (oR 9 1 eS v20))]⟩) (en [(1, 1), (2, 2), (3, 3)] (ws z z z (ws z z z (wd z (wd z (wd z w0))))) z (hc z (hs z z z (hr z h0)))) <| ?_
  intro n2 v18 v19 v20 H
  rw [machine_Check_b2] at H
  refine sgr z <| l (p_lss z z) z <| ne <| wc_seq <| ?_
  rcases cn H with ⟨b21, H⟩ | ⟨b21, H⟩
  · refine c_t z b21 ?_
    refine se <| wc_seq <| wc_block <| sgr z <| ?_
    obtain ⟨r22, e23, H⟩ := ob H
    refine l (p_ixL Tryz.underlying25 ty_61.size z z e23) z <| l (p_ldA (ds := encMachInstr r22) ty_61 z z z) z <| lh (p_al 6 zr_61 z) z <| l0h (p_stA (ds := (encMachInstr r22).map .data) ty_61 z z z z z z) <| ne <| wc_seq <| sgr z <| lm z z <| l (p_nl z) z <| l (p_fd fld_150_1 z) z <| l (p_ld ty_4 z z z) z <| l (p_not z) z <| ne <| ?_
    rcases cn H with ⟨b24, H⟩ | ⟨b24, H⟩
    · refine c_t z b24 ?_
      refine wc_exit <| ?_
      refine e_te (e_p z (e_te (e_te (e_h (e_n ?_)))))
      exact ⟨v19, H, en [(1, 1)] (ws z z z w0) z (hc z h0)⟩
    refine c_f z b24 <| se <| sgr z <| lm z z <| l (p_fd fld_61_0 z) z <| l (p_ld ty_9 z z z) z <| ?_
    obtain ⟨r25, e26, H⟩ := ob H
    refine lh (p_ch (ids := [2, 3, 7]) (machine_names_fresh_ok e26) ent_89 z z (rc z z (rc z rm (rc z z rn))) (rc z z (rc z z (rc z rm rn))) z ⟨z, ⟨z, ⟨z, q⟩⟩⟩ (by decide) z z z (oc z (oc om (oc z on))) (oc z (oc z (oc om on))) z) z <| l (p_bs (f := eT) [.tmp 51] [r25.1] Tryz.underlying167 ty_4.size zr_4 z z z z (el1 (.one _) z el0) z) z <| ?_
    obtain ⟨r27, e28, H⟩ := ob H
    refine lh (p_ch (ids := [1]) (machine_checker_must_ok e28) ent_84 z z (rc z rdd rn) (rc z rdd rn) z ⟨z, q⟩ (by decide) z z z (oc od on) (oc od on) z) z <| ne <| wc_region z <| lm z z <| l (p_ldB (ds := (encMachInstr r22).map .data) ty_61 z z z z) z <| ?_
    obtain ⟨r29, e30, H⟩ := ob H
    refine lh (p_ch (ids := [1]) (machine_checker_instr_ok e30) ent_90 z z (rc z rdd rn) (rc z rdd rn) z ⟨z, q⟩ (by decide) z z z (oc od on) (oc od on) z) z <| wl_nil <| ?_
    refine e_bn (e_n ?_)
    refine wc_region z <| l (p_add z z) z <| lm z z <| ne <| ?_
    exact ⟨w64 (v18 + 1), r29, r25.2, H, en [(1, 1), (2, 2), (7, 3)] (ws z z z (ws z z z (wd z (wd z (wd z w0))))) z (hc z (hs z z z (hr z h0)))⟩
  refine c_f z b21 <| wc_exit <| ?_
  refine e_te (e_te (e_h (e_n ?_)))
  exact ⟨v19, H, en [(1, 1)] (ws z z z w0) z (hc z h0)⟩

def machine_Instruction_1 (x0 : MachInstr) (x1 : ByteArray) : Option Bool :=
  some (sEq x0.Name x1)
theorem machine_Instruction_1_ok {x0 : MachInstr} {x1 : ByteArray} {R : Bool} (H : machine_Instruction_1 x0 x1 = some R) : FnOk Tryz.prog K0 70 [(aA (encMachInstr x0)), (.ptr 0 0)] [(0, (oC 9 [(aS x1)]))] (aT R) [(0, (oC 9 [(aS x1)]))] := by
  refine fn_w (nt := 8) (np := 1) Tryz.func70 z z (by simp) (np_of2 z) <| ?_
  unfold machine_Instruction_1 at H
  refine sgr z <| lh (p_bx 1 z q z) z <| la z z <| ne <| sgr z <| l (p_fd fld_61_0 z) z <| l (p_ld ty_9 z z z) z <| l (p_ld ty_9 z z z) z <| l (p_seq z z) z <| la z z <| ne <| wc_ret <| ?_
  obtain rfl := sm H
  exact fin (Or.inr z) (rs1 (rv z) rs0) (re [(0, 0)] (.dat) z (hs z z z h0))

def slices_IndexFunc_api_MachInstr_api_MachInstr_k1 : Unit → Option Int
  | () =>
    some (-1)
def slices_IndexFunc_api_MachInstr_api_MachInstr_b2 (x0 : List MachInstr) (x1 : ByteArray) (k1 : Unit → Option Int) (rec2 : Int → Option Int) : Int → Option Int
  | v1 =>
    bif decide (v1 < (x0.length : Int)) then
      (ix x0 v1).bind fun r3 =>
      (machine_Instruction_1 r3 x1).bind fun r5 =>
      bif r5 then some v1 else rec2 (w64 (v1 + 1))
    else
      k1 ()
def slices_IndexFunc_api_MachInstr_api_MachInstr (x0 : List MachInstr) (x1 : ByteArray) : Option Int :=
  jn slices_IndexFunc_api_MachInstr_api_MachInstr_k1 fun k1 =>
  lp (slices_IndexFunc_api_MachInstr_api_MachInstr_b2 x0 x1 k1) (x0.length + 1) 0
theorem slices_IndexFunc_api_MachInstr_api_MachInstr_ok {x0 : List MachInstr} {x1 : ByteArray} {R : Int} (H : slices_IndexFunc_api_MachInstr_api_MachInstr x0 x1 = some R) : FnOk Tryz.prog K0 96 [(aL 9 encMachInstr x0), (.fn (.func 70) [] [(.ptr 0 0)])] [(0, (oC 9 [(aS x1)]))] (aN .i64 R) [(0, (oC 9 [(aS x1)]))] := by
  refine fn_w (nt := 19) (np := 1) Tryz.func96 z z (by simp) (np_of2 z) <| ?_
  unfold slices_IndexFunc_api_MachInstr_api_MachInstr at H
  refine sgr z <| la z z <| ne <| ?_
  refine w_jn0 H (⟨[], [(0, (oC 9 [(aS x1)]))]⟩) ?_ ?_
  · intro H
    rw [slices_IndexFunc_api_MachInstr_api_MachInstr_k1] at H
    refine sgr z <| la z z <| ne <| wc_ret <| ?_
    obtain rfl := sm H
    exact fin (Or.inr z) (rs1 (rv z) rs0) (re [(0, 0)] (.dat) z (hs z z z h0))
  intro H
  refine sgr z <| lm z z <| l (p_lenL Tryz.underlying25 z) z <| lm z z <| ne <| wc_block <| w_lp1 H (fun v1 => ⟨[(0, (aL 9 encMachInstr x0)), (1, (.fn (.func 70) [] [(.ptr 0 0)])), (7, (aN .i64 (x0.length : Int))), (8, (aN .i64 v1))], [(0, (oC 9 [(aS x1)]))]⟩) (en [(0, 0)] (wd z (ws z z z (wd z (wd z w0)))) z (hs z z z h0)) <| ?_
  intro n2 v1 H
  rw [slices_IndexFunc_api_MachInstr_api_MachInstr_b2] at H
  refine sgr z <| l (p_lss z z) z <| ne <| wc_seq <| ?_
  rcases cn H with ⟨b2, H⟩ | ⟨b2, H⟩
  · refine c_t z b2 ?_
    refine se <| wc_seq <| wc_block <| sgr z <| lm z z <| la z z <| ne <| sgr z <| lm z z <| lm z z <| lm z z <| ?_
    obtain ⟨r3, e4, H⟩ := ob H
    refine l (p_ixL Tryz.underlying25 ty_61.size z z e4) z <| l (p_ldA (ds := encMachInstr r3) ty_61 z z z) z <| ?_
    obtain ⟨r5, e6, H⟩ := ob H
    refine lh (p_cw (ids := [0]) (machine_Instruction_1_ok e6) ent_70 z z z (rc z z rn) (rc z z rn) z ⟨z, q⟩ (by decide) z z z (oc z on) (oc z on) z) z <| ne <| ?_
    rcases cn H with ⟨b7, H⟩ | ⟨b7, H⟩
    · refine c_t z b7 ?_
      refine sgr z <| lm z z <| la z z <| ne <| wc_ret <| ?_
      refine e_br (e_tr (e_tr (e_br (e_tr ?_))))
      obtain rfl := sm H
      exact fin (Or.inr z) (rs1 (rv z) rs0) (re [(0, 0)] (.dat) z (hs z z z h0))
    refine c_f z b7 <| wc_skip <| ?_
    refine e_bn (e_n ?_)
    refine wc_region z <| l (p_add z z) z <| lm z z <| ne <| ?_
    exact ⟨w64 (v1 + 1), H, en [(0, 0)] (wd z (ws z z z (wd z (wd z w0)))) z (hs z z z h0)⟩
  refine c_f z b2 <| wc_exit <| ?_
  refine e_te (e_te (e_h (e_n ?_)))
  exact ⟨H, en [(0, 0)] w0 z (hs z z z h0)⟩

def machine_find_api_MachInstr (x0 : Machine) (x1 : List MachInstr) (x2 : ByteArray) : Option (Int × Int) :=
  (machine_Check x0).bind fun r1 =>
  bif r1 != 0 then
    some (0, r1)
  else
    (slices_IndexFunc_api_MachInstr_api_MachInstr x1 x2).bind fun r4 =>
    bif decide (r4 < 0) then some (0, 6) else some (r4, 0)
theorem machine_find_api_MachInstr_ok {x0 : Machine} {x1 : List MachInstr} {x2 : ByteArray} {R : Int × Int} (H : machine_find_api_MachInstr x0 x1 x2 = some R) : FnOk Tryz.prog K0 69 [(aA (encMachine x0)), (aL 9 encMachInstr x1), (.fn (.func 70) [] [(.ptr 0 0)])] [(0, (oC 9 [(aS x2)]))] (.tup [(aN .i64 R.1), (aN .i64 R.2)]) [(0, (oC 9 [(aS x2)]))] := by
  refine fn_w (nt := 21) (np := 1) Tryz.func69 z z (by simp) (np_of2 z) <| ?_
  unfold machine_find_api_MachInstr at H
  refine sgr z <| lh (p_bx 1 z q z) z <| la z z <| la z z <| ne <| wc_seq <| sgr z <| l (p_ldB (ds := (encMachine x0).map .data) ty_27 z z z z) z <| ?_
  obtain ⟨r1, e2, H⟩ := ob H
  refine l (p_c (machine_Check_ok e2) ent_63 z z z) z <| la z z <| ne <| sgr z <| lm z z <| l (p_neq z z) z <| ne <| ?_
  rcases cn H with ⟨b3, H⟩ | ⟨b3, H⟩
  · refine c_t z b3 ?_
    refine sgr z <| lm z z <| la z z <| la z z <| ne <| wc_ret <| e_tr <| ?_
    obtain rfl := sm H
    exact fin (Or.inr z) (rs1 (rv z) (rs1 (rv z) rs0)) (re2 [(0, 0)] ⟨.dat, ⟨.dat, q⟩⟩ z (hs z z z h0))
  refine c_f z b3 <| se <| sgr z <| lm z z <| lm z z <| ?_
  obtain ⟨r4, e5, H⟩ := ob H
  refine lh (p_ch (ids := [0]) (slices_IndexFunc_api_MachInstr_api_MachInstr_ok e5) ent_96 z z (rc z z rn) (rc z z rn) z ⟨z, q⟩ (by decide) z z z (oc z on) (oc z on) z) z <| la z z <| ne <| wc_seq <| sgr z <| lm z z <| l (p_lss z z) z <| ne <| ?_
  rcases cn H with ⟨b6, H⟩ | ⟨b6, H⟩
  · refine c_t z b6 ?_
    refine sgr z <| la z z <| la z z <| ne <| wc_ret <| e_tr <| ?_
    obtain rfl := sm H
    exact fin (Or.inr z) (rs1 (rv z) (rs1 (rv z) rs0)) (re2 [(0, 0)] ⟨.dat, ⟨.dat, q⟩⟩ z (hs z z z h0))
  refine c_f z b6 <| se <| sgr z <| lm z z <| la z z <| la z z <| ne <| wc_ret <| ?_
  obtain rfl := sm H
  exact fin (Or.inr z) (rs1 (rv z) (rs1 (rv z) rs0)) (re2 [(0, 0)] ⟨.dat, ⟨.dat, q⟩⟩ z (hs z z z h0))

def machine_Instruction (x0 : Machine) (x1 : ByteArray) : Option (Int × Int) :=
  (machine_find_api_MachInstr x0 x0.Instrs x1).bind fun r1 =>
  some (r1.1, r1.2)
theorem machine_Instruction_ok {x0 : Machine} {x1 : ByteArray} {R : Int × Int} (H : machine_Instruction x0 x1 = some R) : FnOk Tryz.prog K0 31 [(aA (encMachine x0)), (aS x1)] [] (.tup [(aN .i64 R.1), (aN .i64 R.2)]) [] := by
  refine fn_w (nt := 13) (np := 0) Tryz.func31 z z (by simp) (np_of2 z) <| ?_
  unfold machine_Instruction at H
  refine sgr z <| lh (p_bx 0 z q z) z <| lh (p_bx 1 z q z) z <| la z z <| la z z <| ne <| sgr z <| l (p_ldB (ds := (encMachine x0).map .data) ty_27 z z z z) z <| l (p_fd fld_27_6 z) z <| l (p_ld ty_25 z z z) z <| l (p_mf z z) z <| ?_
  obtain ⟨r1, e2, H⟩ := ob H
  refine lh (p_ch (ids := [1]) (machine_find_api_MachInstr_ok e2) ent_69 z z (rc z z rn) (rc z z rn) z ⟨z, q⟩ (by decide) z z z (oc z on) (oc z on) z) z <| l (p_ex z z) z <| l (p_ex z z) z <| la z z <| la z z <| ne <| wc_ret <| ?_
  obtain rfl := sm H
  exact fin (Or.inr z) (rs1 (rv z) (rs1 (rv z) rs0)) (re2 [] ⟨.dat, ⟨.dat, q⟩⟩ z h0)

def retargetlaw16_named (x0 : Machine) (x1 : ByteArray) (x2 : List Int) : Option MachOp :=
  (machine_Instruction x0 x1).bind fun r1 =>
  some (MachOp.mk r1.1 x2)
theorem retargetlaw16_named_ok {x0 : Machine} {x1 : ByteArray} {x2 : List Int} {R : MachOp} (H : retargetlaw16_named x0 x1 x2 = some R) : FnOk Tryz.prog K0 12 [(aA (encMachine x0)), (aS x1), (aL 1 (eN .i64) x2)] [] (aA (encMachOp R)) [] := by
  refine fn_w (nt := 18) (np := 0) Tryz.func12 z z (by simp) (np_of2 z) <| ?_
  unfold retargetlaw16_named at H
  refine sgr z <| lh (p_bx 0 z q z) z <| lh (p_al 1 zr_31 z) z <| ne <| sgr z <| l (p_ldB (ds := (encMachine x0).map .data) ty_27 z z z z) z <| lm z z <| ?_
  obtain ⟨r1, e2, H⟩ := ob H
  refine l (p_c (machine_Instruction_ok e2) ent_31 z z z) z <| lm z z <| l (p_ex z z) z <| l (p_ex z z) z <| la z z <| la z z <| ne <| sgr z <| lm z z <| lm z z <| l (p_bd (cs := (encMachOp (MachOp.mk r1.1 x2)).map .data) pl_31 zr_31 z ⟨q, ⟨q, q⟩⟩ z) z <| l0h (p_stA (ds := (encMachOp (MachOp.mk r1.1 x2)).map .data) ty_31 z z z z z z) <| ne <| wc_ret <| ?_
  obtain rfl := sm H
  exact fin (Or.inr z) (rs1 (rva (ds := (encMachOp (MachOp.mk r1.1 x2)).map .data) ty_31 z z z z) rs0) (re [] (.adat) z h0)

def machine_tops_k1 : (List Int) → Option (List Int)
  | v1 =>
    some v1
def machine_tops_k3 (v2 : Int) (rec2 : Int × (List Int) → Option (List Int)) : (List Int) → Option (List Int)
  | v5 =>
    rec2 ((w64 (v2 + 1), v5))
def machine_tops_b2 (x0 : Machine) (k1 : (List Int) → Option (List Int)) (rec2 : Int × (List Int) → Option (List Int)) : Int × (List Int) → Option (List Int)
  | (v2, v3) =>
    bif decide (v2 < (x0.Regs.length : Int)) then
      jn (machine_tops_k3 v2 rec2) fun k3 =>
      (ix x0.Regs v2).bind fun r6 =>
      bif r6.Of == (-1) then
        asr (roomy (v3.length + [v2].length) 8) <|
        k3 (v3 ++ [v2])
      else
        k3 v3
    else
      k1 v3
def machine_tops (x0 : Machine) : Option (List Int) :=
  jn machine_tops_k1 fun k1 =>
  lp (machine_tops_b2 x0 k1) (x0.Regs.length + 1) ((0, ([] : List Int)))
theorem machine_tops_ok {x0 : Machine} {R : (List Int)} (H : machine_tops x0 = some R) : FnOk Tryz.prog K0 81 [(aA (encMachine x0))] [] (aL 1 (eN .i64) R) [] := by
  refine fn_w (nt := 23) (np := 0) Tryz.func81 z z (by simp) (np_of2 z) <| ?_
  unfold machine_tops at H
  refine sgr z <| lh (p_bx 0 z q z) z <| la z z <| ne <| sgr z <| la z z <| ne <| ?_
  refine w_jn1 H (fun v1 => ⟨[(3, (.row 5))], [(5, (oR 3 1 (eN .i64) v1))]⟩) ?_ ?_
  · intro v1 H
    rw [machine_tops_k1] at H
    refine sgr z <| lm z z <| la z z <| ne <| wc_ent (fz (d := 2) z z (fun _ => z)) <| wc_ret <| ?_
    obtain rfl := sm H
    exact fin (Or.inr z) (rs1 (rv z) rs0) (re [] (.dat) z h0)
  intro H
  refine sgr z <| l (p_fd fld_27_3 z) z <| l (p_ld ty_22 z z z) z <| l (p_lenL Tryz.underlying22 z) z <| lm z z <| ne <| wc_block <| w_lp2 H (fun v2 v3 => ⟨[(3, (.row 5)), (7, (aL 4 encMachReg x0.Regs)), (8, (aN .i64 (x0.Regs.length : Int))), (9, (aN .i64 v2))], [(5, (oR 3 1 (eN .i64) v3))]⟩) (Ent.trans (nr (d := 3) (f := (eN .i64)) (sz := 1) (e := 3) 1 z z z) (en [(1, 5)] (ws z z z (wd z (wd z (wd z w0)))) z (hr z h0))) <| ?_
  intro n2 v2 v3 H
  rw [machine_tops_b2] at H
  refine sgr z <| l (p_lss z z) z <| ne <| wc_seq <| ?_
  rcases cn H with ⟨b4, H⟩ | ⟨b4, H⟩
  · refine c_t z b4 ?_
    refine se <| ?_
    refine w_jn1 H (fun v5 => ⟨[(3, (.row 7)), (7, (aL 4 encMachReg x0.Regs)), (8, (aN .i64 (x0.Regs.length : Int))), (9, (aN .i64 v2))], [(7, (oR 3 1 (eN .i64) v5))]⟩) ?_ ?_
    · intro v5 H
      rw [machine_tops_k3] at H
      refine wc_region z <| l (p_add z z) z <| lm z z <| ne <| ?_
      exact ⟨w64 (v2 + 1), v5, H, en [(7, 5)] (ws z z z (wd z (wd z (wd z w0)))) z (hr z h0)⟩
    intro H
    refine wc_block <| sgr z <| lm z z <| ?_
    obtain ⟨r6, e7, H⟩ := ob H
    refine l (p_ixL Tryz.underlying22 ty_100.size z z e7) z <| l (p_ldA (ds := encMachReg r6) ty_100 z z z) z <| lh (p_al 6 zr_100 z) z <| la z z <| l0h (p_stA (ds := (encMachReg r6).map .data) ty_100 z z z z z z) <| ne <| sgr z <| l (p_fd fld_100_2 z) z <| l (p_ld ty_3 z z z) z <| l (p_eql z z) z <| ne <| ?_
    rcases cn H with ⟨b8, H⟩ | ⟨b8, H⟩
    · refine c_t z b8 ?_
      refine wc_region z <| lm z z <| lm z z <| l (p_bs (f := (eN .i64)) [.tmp 18] [v2] Tryz.underlying29 ty_3.size zr_3 z z z z (el1 (.one _) z el0) z) z <| ?_
      obtain ⟨e9, H⟩ := as_ H
      refine lh (p_apA 7 Tryz.underlying29 el_3 z z z z e9) z <| la z z <| wl_nil <| ?_
      refine e_bn (e_n ?_)
      exact ⟨v3 ++ [v2], H, en [(7, 7)] (ws z z z (wd z (wd z (wd z w0)))) z (hr z h0)⟩
    refine c_f z b8 <| wc_skip <| ?_
    refine e_bn (e_n ?_)
    exact ⟨v3, H, en [(5, 7)] (ws z z z (wd z (wd z (wd z w0)))) z (hr z h0)⟩
  refine c_f z b4 <| wc_exit <| ?_
  refine e_te (e_te (e_h (e_n ?_)))
  exact ⟨v3, H, en [(5, 5)] (ws z z z w0) z (hr z h0)⟩

def machine_Roots (x0 : Machine) : Option ((List Int) × Int) :=
  (machine_Check x0).bind fun r1 =>
  bif r1 != 0 then
    some ((([] : List Int), r1))
  else
    (machine_tops x0).bind fun r4 =>
    some (r4, 0)
theorem machine_Roots_ok {x0 : Machine} {R : (List Int) × Int} (H : machine_Roots x0 = some R) : FnOk Tryz.prog K0 60 [(aA (encMachine x0))] [] (.tup [(aL 1 (eN .i64) R.1), (aN .i64 R.2)]) [] := by
  refine fn_w (nt := 12) (np := 0) Tryz.func60 z z (by simp) (np_of2 z) <| ?_
  unfold machine_Roots at H
  refine sgr z <| lh (p_bx 0 z q z) z <| la z z <| la z z <| ne <| wc_seq <| sgr z <| l (p_ldB (ds := (encMachine x0).map .data) ty_27 z z z z) z <| ?_
  obtain ⟨r1, e2, H⟩ := ob H
  refine l (p_c (machine_Check_ok e2) ent_63 z z z) z <| la z z <| ne <| sgr z <| lm z z <| l (p_neq z z) z <| ne <| ?_
  rcases cn H with ⟨b3, H⟩ | ⟨b3, H⟩
  · refine c_t z b3 ?_
    refine sgr z <| lm z z <| la z z <| la z z <| ne <| wc_ret <| e_tr <| ?_
    obtain rfl := sm H
    exact fin (Or.inr z) (rs1 (rv z) (rs1 (rv z) rs0)) (re2 [] ⟨.nil, ⟨.dat, q⟩⟩ z h0)
  refine c_f z b3 <| se <| sgr z <| l (p_ldB (ds := (encMachine x0).map .data) ty_27 z z z z) z <| ?_
  obtain ⟨r4, e5, H⟩ := ob H
  refine l (p_c (machine_tops_ok e5) ent_81 z z z) z <| la z z <| la z z <| ne <| wc_ret <| ?_
  obtain rfl := sm H
  exact fin (Or.inr z) (rs1 (rv z) (rs1 (rv z) rs0)) (re2 [] ⟨.dat, ⟨.dat, q⟩⟩ z h0)

def cmp_isNaN_int (x0 : Int) : Option Bool :=
  some (x0 != x0)
theorem cmp_isNaN_int_ok {x0 : Int} {R : Bool} (H : cmp_isNaN_int x0 = some R) : FnOk Tryz.prog K0 97 [(aN .i64 x0)] [] (aT R) [] := by
  refine fn_w (nt := 6) (np := 0) Tryz.func97 z z (by simp) (np_of2 z) <| ?_
  unfold cmp_isNaN_int at H
  refine sgr z <| la z z <| ne <| sgr z <| lm z z <| lm z z <| l (p_neq z z) z <| la z z <| ne <| wc_ret <| ?_
  obtain rfl := sm H
  exact fin (Or.inr z) (rs1 (rv z) rs0) (re [] (.dat) z h0)

def cmp_Less_int (x0 : Int) (x1 : Int) : Option Bool :=
  (cmp_isNaN_int x0).bind fun r1 =>
  (bif (true && (r1 == true)) then cmp_isNaN_int x1 else some default).bind fun r3 =>
  some ((r1 && (!r3)) || (decide (x0 < x1)))
theorem cmp_Less_int_ok {x0 : Int} {x1 : Int} {R : Bool} (H : cmp_Less_int x0 x1 = some R) : FnOk Tryz.prog K0 71 [(aN .i64 x0), (aN .i64 x1)] [] (aT R) [] := by
  refine fn_w (nt := 17) (np := 0) Tryz.func71 z z (by simp) (np_of2 z) <| ?_
  unfold cmp_Less_int at H
  refine sgr z <| la z z <| ne <| sgr z <| lm z z <| ?_
  obtain ⟨r1, e2, H⟩ := ob H
  refine l (p_c (cmp_isNaN_int_ok e2) ent_97 z z z) z <| lm z z <| lw z (Grd.plain _) z [1] z (s1 strip_same s0) (fun hw => p_mv z) ⟨z, q⟩ (by exact q) z z <| ?_
  obtain ⟨r3, e4, H⟩ := ob H
  refine lw z (Grd.plain _) z [8] z (s1 (strip_when id) s0) (fun hw => p_c (cmp_isNaN_int_ok (bt hw e4)) ent_97 z z z) ⟨z, q⟩ (by exact q) z z <| lw z (Grd.plain _) z [9] z (s1 (strip_when id) s0) (fun hw => p_not z) ⟨z, q⟩ (by exact q) z z <| l (p_pkA z z q (strip_when (wt))) z <| lm z z <| lw z (Grd.plain _) z [0] z (s1 strip_same s0) (fun hw => p_mv z) ⟨z, q⟩ (by exact q) z z <| lw z (Grd.plain _) z [1] z (s1 strip_same s0) (fun hw => p_mv z) ⟨z, q⟩ (by exact q) z z <| lw z (Grd.plain _) z [13, 14] z (s1 (strip_when id) (s1 (strip_when id) s0)) (fun hw => p_lss z z) ⟨z, ⟨z, q⟩⟩ (by exact q) z z <| l (p_pkO z z q (strip_when (wf))) z <| la z z <| ne <| wc_ret <| ?_
  obtain rfl := sm H
  exact fin (Or.inr z) (rs1 (rv z) rs0) (re [] (.dat) z h0)

def slices_isNaN_int (x0 : Int) : Option Bool :=
  some (x0 != x0)
theorem slices_isNaN_int_ok {x0 : Int} {R : Bool} (H : slices_isNaN_int x0 = some R) : FnOk Tryz.prog K0 82 [(aN .i64 x0)] [] (aT R) [] := by
  refine fn_w (nt := 6) (np := 0) Tryz.func82 z z (by simp) (np_of2 z) <| ?_
  unfold slices_isNaN_int at H
  refine sgr z <| la z z <| ne <| sgr z <| lm z z <| lm z z <| l (p_neq z z) z <| la z z <| ne <| wc_ret <| ?_
  obtain rfl := sm H
  exact fin (Or.inr z) (rs1 (rv z) rs0) (re [] (.dat) z h0)

def slices_BinarySearch_int_int_k1 (x0 : List Int) (x1 : Int) : Int → Option (Int × Bool)
  | v1 =>
    (bif (true && ((decide (v1 < (x0.length : Int))) == true)) then ix x0 v1 else some default).bind fun r2 =>
    (bif ((true && ((decide (v1 < (x0.length : Int))) == true)) && ((r2 == x1) == false)) then ix x0 v1 else some default).bind fun r4 =>
    (bif ((true && ((decide (v1 < (x0.length : Int))) == true)) && ((r2 == x1) == false)) then slices_isNaN_int r4 else some default).bind fun r6 =>
    (bif (((true && ((decide (v1 < (x0.length : Int))) == true)) && ((r2 == x1) == false)) && (r6 == true)) then slices_isNaN_int x1 else some default).bind fun r8 =>
    some ((v1, (decide (v1 < (x0.length : Int))) && ((r2 == x1) || (r6 && r8))))
def slices_BinarySearch_int_int_b2 (x0 : List Int) (x1 : Int) (k1 : Int → Option (Int × Bool)) (rec2 : Int × Int → Option (Int × Bool)) : Int × Int → Option (Int × Bool)
  | (v10, v11) =>
    bif decide (v10 < v11) then
      (ix x0 (w64 (sShr .u64 (IntKind.wrap .u64 (w64 (v10 + v11))) 1))).bind fun r13 =>
      (cmp_Less_int r13 x1).bind fun r15 =>
      bif r15 then rec2 ((w64 ((w64 (sShr .u64 (IntKind.wrap .u64 (w64 (v10 + v11))) 1)) + 1), v11)) else rec2 ((v10, w64 (sShr .u64 (IntKind.wrap .u64 (w64 (v10 + v11))) 1)))
    else
      k1 v10
def slices_BinarySearch_int_int (x0 : List Int) (x1 : Int) : Option (Int × Bool) :=
  jn (slices_BinarySearch_int_int_k1 x0 x1) fun k1 =>
  lp (slices_BinarySearch_int_int_b2 x0 x1 k1) (x0.length + 1) ((0, (x0.length : Int)))
theorem slices_BinarySearch_int_int_ok {x0 : List Int} {x1 : Int} {R : Int × Bool} (H : slices_BinarySearch_int_int x0 x1 = some R) : FnOk Tryz.prog K0 61 [(aL 1 (eN .i64) x0), (aN .i64 x1)] [] (.tup [(aN .i64 R.1), (aT R.2)]) [] := by
  refine fn_w (nt := 54) (np := 0) Tryz.func61 z z (by simp) (np_of2 z) <| ?_
  unfold slices_BinarySearch_int_int at H
  refine sgr z <| la z z <| la z z <| ne <| sgr z <| lm z z <| l (p_lenL Tryz.underlying29 z) z <| la z z <| ne <| sgr z <| lm z z <| la z z <| la z z <| ne <| ?_
  refine w_jn1 H (fun v1 => ⟨[(0, (aL 1 (eN .i64) x0)), (1, (aN .i64 x1)), (6, (aN .i64 (x0.length : Int))), (7, (aN .i64 v1))], []⟩) ?_ ?_
  · intro v1 H
    rw [slices_BinarySearch_int_int_k1] at H
    refine sgr z <| lm z z <| lm z z <| lm z z <| l (p_lss z z) z <| lm z z <| lw z (Grd.plain _) z [0] z (s1 strip_same s0) (fun hw => p_mv z) ⟨z, q⟩ (by exact q) z z <| lw z (Grd.plain _) z [7] z (s1 strip_same s0) (fun hw => p_mv z) ⟨z, q⟩ (by exact q) z z <| ?_
    obtain ⟨r2, e3, H⟩ := ob H
    refine lw z (Grd.plain _) z [36, 37] z (s1 (strip_when id) (s1 (strip_when id) s0)) (fun hw => p_ixL Tryz.underlying29 ty_3.size z z (bt hw e3)) ⟨z, ⟨z, q⟩⟩ (by exact q) z z <| lw z (Grd.plain _) z [38] z (s1 (strip_when id) s0) (fun hw => p_ldP ty_3 z z) ⟨z, q⟩ (by exact q) z z <| lw z (Grd.plain _) z [1] z (s1 strip_same s0) (fun hw => p_mv z) ⟨z, q⟩ (by exact q) z z <| lw z (Grd.plain _) z [39, 40] z (s1 (strip_when id) (s1 (strip_when id) s0)) (fun hw => p_eql z z) ⟨z, ⟨z, q⟩⟩ (by exact q) z z <| lw z (Grd.plain _) z [41] z (s1 (strip_when id) s0) (fun hw => p_mv z) ⟨z, q⟩ (by exact q) z z <| lw z (Grd.under _ _) z [0] z (s1 strip_same s0) (fun hw => p_mv z) ⟨z, q⟩ (by exact q) z z <| lw z (Grd.under _ _) z [7] z (s1 strip_same s0) (fun hw => p_mv z) ⟨z, q⟩ (by exact q) z z <| ?_
    obtain ⟨r4, e5, H⟩ := ob H
    refine lw z (Grd.under _ _) z [43, 44] z (s1 (strip_when id) (s1 (strip_when id) s0)) (fun hw => p_ixL Tryz.underlying29 ty_3.size z z (bt hw e5)) ⟨z, ⟨z, q⟩⟩ (by exact q) z z <| lw z (Grd.under _ _) z [45] z (s1 (strip_when id) s0) (fun hw => p_ldP ty_3 z z) ⟨z, q⟩ (by exact q) z z <| ?_
    obtain ⟨r6, e7, H⟩ := ob H
    refine lw z (Grd.under _ _) z [46] z (s1 (strip_when id) s0) (fun hw => p_c (slices_isNaN_int_ok (bt hw e7)) ent_82 z z z) ⟨z, q⟩ (by exact q) z z <| lw z (Grd.under _ _) z [47] z (s1 (strip_when id) s0) (fun hw => p_mv z) ⟨z, q⟩ (by exact q) z z <| lw z (Grd.under _ _) z [1] z (s1 strip_same s0) (fun hw => p_mv z) ⟨z, q⟩ (by exact q) z z <| ?_
    obtain ⟨r8, e9, H⟩ := ob H
    refine lw z (Grd.under _ _) z [49] z (s1 (strip_when id) s0) (fun hw => p_c (slices_isNaN_int_ok (bt hw e9)) ent_82 z z z) ⟨z, q⟩ (by exact q) z z <| lw z (Grd.under _ _) z [48, 50] z (s1 (strip_when id) (s1 strip_same s0)) (fun hw => p_pkA z z q (strip_when (wtc hw))) ⟨z, ⟨z, q⟩⟩ (by exact q) z z <| lw z (Grd.plain _) z [42, 51] z (s1 (strip_when id) (s1 strip_same s0)) (fun hw => p_pkO z z q (strip_when (wfc hw))) ⟨z, ⟨z, q⟩⟩ (by exact q) z z <| l (p_pkA z z q (strip_when (wt))) z <| la z z <| la z z <| ne <| wc_ret <| ?_
    obtain rfl := sm H
    exact fin (Or.inr z) (rs1 (rv z) (rs1 (rv z) rs0)) (re2 [] ⟨.dat, ⟨.dat, q⟩⟩ z h0)
  intro H
  refine wc_block <| w_lp2 H (fun v10 v11 => ⟨[(0, (aL 1 (eN .i64) x0)), (1, (aN .i64 x1)), (6, (aN .i64 (x0.length : Int))), (7, (aN .i64 v10)), (8, (aN .i64 v11))], []⟩) (en [] (wd z (wd z (wd z (wd z (wd z w0))))) z h0) <| ?_
  intro n2 v10 v11 H
  rw [slices_BinarySearch_int_int_b2] at H
  refine wc_seq <| sgr z <| lm z z <| lm z z <| l (p_lss z z) z <| ne <| ?_
  rcases cn H with ⟨b12, H⟩ | ⟨b12, H⟩
  · refine c_t z b12 ?_
    refine se <| wc_block <| sgr z <| lm z z <| lm z z <| l (p_add z z) z <| l (p_cv Tryz.underlying3 Tryz.underlying54 z) z <| l (p_shr z z z) z <| l (p_cv Tryz.underlying54 Tryz.underlying3 z) z <| la z z <| ne <| sgr z <| lm z z <| lm z z <| ?_
    obtain ⟨r13, e14, H⟩ := ob H
    refine l (p_ixL Tryz.underlying29 ty_3.size z z e14) z <| l (p_ldP ty_3 z z) z <| lm z z <| ?_
    obtain ⟨r15, e16, H⟩ := ob H
    refine l (p_c (cmp_Less_int_ok e16) ent_71 z z z) z <| ne <| ?_
    rcases cn H with ⟨b17, H⟩ | ⟨b17, H⟩
    · refine c_t z b17 ?_
      refine wc_region z <| lm z z <| l (p_add z z) z <| la z z <| wl_nil <| ?_
      refine e_bn (e_n ?_)
      exact ⟨w64 ((w64 (sShr .u64 (IntKind.wrap .u64 (w64 (v10 + v11))) 1)) + 1), v11, H, en [] (wd z (wd z (wd z (wd z (wd z w0))))) z h0⟩
    refine c_f z b17 <| wc_region z <| lm z z <| la z z <| wl_nil <| ?_
    refine e_bn (e_n ?_)
    exact ⟨v10, w64 (sShr .u64 (IntKind.wrap .u64 (w64 (v10 + v11))) 1), H, en [] (wd z (wd z (wd z (wd z (wd z w0))))) z h0⟩
  refine c_f z b12 <| wc_exit <| ?_
  refine e_te (e_te (e_h (e_n ?_)))
  exact ⟨v10, H, en [] (wd z (wd z (wd z (wd z w0)))) z h0⟩

def core_New_k1 : ByteArray × Int × Int × (List MachReg) × (List MachBank) × (List MachUnit) × (List MachInstr) × Int × (List core_Place) → Option (Int ⊕ core_Core)
  | (v4, v5, v6, v7, v8, v9, v10, v11, v12) =>
    some ((.inr ((core_Core.mk (Machine.mk v4 v5 v6 v7 v8 v9 v10) v11 v12))))
def core_New_k3 (v13 : Int) (rec2 : Int × ByteArray × Int × Int × (List MachReg) × (List MachBank) × (List MachUnit) × (List MachInstr) × Int × (List core_Place) → Option (Int ⊕ core_Core)) : ByteArray × Int × Int × (List MachReg) × (List MachBank) × (List MachUnit) × (List MachInstr) × Int × (List core_Place) → Option (Int ⊕ core_Core)
  | (v24, v25, v26, v27, v28, v29, v30, v31, v32) =>
    rec2 ((w64 (v13 + 1), v24, v25, v26, v27, v28, v29, v30, v31, v32))
def core_New_k4 (r1 : (List Int) × Int) (v14 : ByteArray) (v15 : Int) (v16 : Int) (v17 : List MachReg) (v18 : List MachBank) (v19 : List MachUnit) (v20 : List MachInstr) (v21 : Int) (v22 : List core_Place) (k3 : ByteArray × Int × Int × (List MachReg) × (List MachBank) × (List MachUnit) × (List MachInstr) × Int × (List core_Place) → Option (Int ⊕ core_Core)) (r33 : MachReg) : Int → Option (Int ⊕ core_Core)
  | v35 =>
    (slices_BinarySearch_int_int r1.1 v35).bind fun r36 =>
    asr (roomy (v22.length + [(core_Place.mk r36.1 r33.Low r33.Width)].length) 24) <|
    k3 ((v14, v15, v16, v17, v18, v19, v20, v21, v22 ++ [(core_Place.mk r36.1 r33.Low r33.Width)]))
def core_New_b2 (x0 : Machine) (r1 : (List Int) × Int) (k1 : ByteArray × Int × Int × (List MachReg) × (List MachBank) × (List MachUnit) × (List MachInstr) × Int × (List core_Place) → Option (Int ⊕ core_Core)) (rec2 : Int × ByteArray × Int × Int × (List MachReg) × (List MachBank) × (List MachUnit) × (List MachInstr) × Int × (List core_Place) → Option (Int ⊕ core_Core)) : Int × ByteArray × Int × Int × (List MachReg) × (List MachBank) × (List MachUnit) × (List MachInstr) × Int × (List core_Place) → Option (Int ⊕ core_Core)
  | (v13, v14, v15, v16, v17, v18, v19, v20, v21, v22) =>
    bif decide (v13 < (x0.Regs.length : Int)) then
      jn (core_New_k3 v13 rec2) fun k3 =>
      (ix x0.Regs v13).bind fun r33 =>
      jn (core_New_k4 r1 v14 v15 v16 v17 v18 v19 v20 v21 v22 k3 r33) fun k4 =>
      bif decide (0 ≤ r33.Of) then k4 r33.Of else k4 v13
    else
      k1 (v14, v15, v16, v17, v18, v19, v20, v21, v22)
def core_New (x0 : Machine) : Option (Int ⊕ core_Core) :=
  (machine_Roots x0).bind fun r1 =>
  bif r1.2 != 0 then
    some (.inl r1.2)
  else
    jn core_New_k1 fun k1 =>
    lp (core_New_b2 x0 r1 k1) (x0.Regs.length + 1) ((0, x0.Name, x0.Word, x0.Address, x0.Regs, x0.Banks, x0.Units, x0.Instrs, (r1.1.length : Int), ([] : List core_Place)))
theorem core_New_ok {x0 : Machine} {R : Int ⊕ core_Core} (H : core_New x0 = some R) : FnOk Tryz.prog K0 26 [(aA (encMachine x0))] [] (Sum.elim (fun r => (.tup [(.data (.lit (.pointer none))), (aN .i64 r)])) (fun r => (.tup [(aP ((enccore_Core r).drop 0)), (aN .i64 0)])) R) [] := by
  refine fn_w (nt := 60) (np := 0) Tryz.func26 z z (by simp) (np_of2 z) <| ?_
  unfold core_New at H
  refine sgr z <| lh (p_bx 0 z q z) z <| la z z <| la z z <| ne <| sgr z <| l (p_ldB (ds := (encMachine x0).map .data) ty_27 z z z z) z <| ?_
  obtain ⟨r1, e2, H⟩ := ob H
  refine l (p_c (machine_Roots_ok e2) ent_60 z z z) z <| lm z z <| l (p_ex z z) z <| l (p_ex z z) z <| la z z <| la z z <| ne <| wc_seq <| sgr z <| lm z z <| l (p_neq z z) z <| ne <| ?_
  rcases cn H with ⟨b3, H⟩ | ⟨b3, H⟩
  · refine c_t z b3 ?_
    refine sgr z <| lm z z <| la z z <| la z z <| ne <| wc_ret <| e_tr <| ?_
    obtain rfl := sm H
    exact fin (Or.inr z) (rs1 (rv z) (rs1 (rv z) rs0)) (re2 [] ⟨.dat, ⟨.dat, q⟩⟩ z h0)
  refine c_f z b3 <| se <| sgr z <| l (p_ldB (ds := (encMachine x0).map .data) ty_27 z z z z) z <| lm z z <| l (p_lenL Tryz.underlying29 z) z <| l (p_bd (cs := [(aS x0.Name), (aN .i64 x0.Word), (aN .i64 x0.Address), (aL 4 encMachReg x0.Regs), (aL 2 encMachBank x0.Banks), (aL 2 encMachUnit x0.Units), (aL 9 encMachInstr x0.Instrs), (aN .i64 (r1.1.length : Int)), aNil]) pl_89 zr_89 z ⟨q, ⟨q, q⟩⟩ z) z <| lh (p_bx 1 z q z) z <| wl_ent (nrc (j := 1) (i := 8) (f := enccore_Place) (sz := 3) (e := 129) 2 z z z) <| la z z <| ne <| ?_
  refine w_jn9 H (fun v4 v5 v6 v7 v8 v9 v10 v11 v12 => ⟨[(6, (.ptr 1 0))], [(1, (oC 89 [(aS v4), (aN .i64 v5), (aN .i64 v6), (aL 4 encMachReg v7), (aL 2 encMachBank v8), (aL 2 encMachUnit v9), (aL 9 encMachInstr v10), (aN .i64 v11), (.row 2)])), (2, (oR 129 3 enccore_Place v12))]⟩) ?_ ?_
  · intro v4 v5 v6 v7 v8 v9 v10 v11 v12 H
    rw [core_New_k1] at H
    refine sgr z <| lm z z <| la z z <| la z z <| ne <| wc_ent (fzc (j := 1) (i := 8) z z z z (fun _ => z)) <| wc_ent (fzb (d := 2) (cs := enccore_Core ((core_Core.mk (Machine.mk v4 v5 v6 v7 v8 v9 v10) v11 v12))) z z) <| wc_ret <| ?_
    obtain rfl := sm H
    exact fin (Or.inr z) (rs1 (rv z) (rs1 (rv z) rs0)) (re2 [] ⟨.dat, ⟨.dat, q⟩⟩ z h0)
  intro H
  refine sgr z <| l (p_fd fld_27_3 z) z <| l (p_ld ty_22 z z z) z <| l (p_lenL Tryz.underlying22 z) z <| lm z z <| ne <| wc_block <| w_lp10 H (fun v13 v14 v15 v16 v17 v18 v19 v20 v21 v22 => ⟨[(4, (aL 1 (eN .i64) r1.1)), (6, (.ptr 1 0)), (25, (aL 4 encMachReg x0.Regs)), (26, (aN .i64 (x0.Regs.length : Int))), (27, (aN .i64 v13))], [(1, (oC 89 [(aS v14), (aN .i64 v15), (aN .i64 v16), (aL 4 encMachReg v17), (aL 2 encMachBank v18), (aL 2 encMachUnit v19), (aL 9 encMachInstr v20), (aN .i64 v21), (.row 2)])), (2, (oR 129 3 enccore_Place v22))]⟩) (en [(1, 1), (2, 2)] (wd z (ws z z z (wd z (wd z (wd z w0))))) z (hs z z z (hr z h0))) <| ?_
  intro n2 v13 v14 v15 v16 v17 v18 v19 v20 v21 v22 H
  rw [core_New_b2] at H
  refine sgr z <| l (p_lss z z) z <| ne <| wc_seq <| ?_
  rcases cn H with ⟨b23, H⟩ | ⟨b23, H⟩
  · refine c_t z b23 ?_
    refine se <| ?_
    refine w_jn9 H (fun v24 v25 v26 v27 v28 v29 v30 v31 v32 => ⟨[(4, (aL 1 (eN .i64) r1.1)), (6, (.ptr 1 0)), (25, (aL 4 encMachReg x0.Regs)), (26, (aN .i64 (x0.Regs.length : Int))), (27, (aN .i64 v13))], [(1, (oC 89 [(aS v24), (aN .i64 v25), (aN .i64 v26), (aL 4 encMachReg v27), (aL 2 encMachBank v28), (aL 2 encMachUnit v29), (aL 9 encMachInstr v30), (aN .i64 v31), (.row 6)])), (6, (oR 129 3 enccore_Place v32))]⟩) ?_ ?_
    · intro v24 v25 v26 v27 v28 v29 v30 v31 v32 H
      rw [core_New_k3] at H
      refine wc_region z <| l (p_add z z) z <| lm z z <| ne <| ?_
      exact ⟨w64 (v13 + 1), v24, v25, v26, v27, v28, v29, v30, v31, v32, H, en [(1, 1), (6, 2)] (wd z (ws z z z (wd z (wd z (wd z w0))))) z (hs z z z (hr z h0))⟩
    intro H
    refine wc_block <| sgr z <| lm z z <| ?_
    obtain ⟨r33, e34, H⟩ := ob H
    refine l (p_ixL Tryz.underlying22 ty_100.size z z e34) z <| l (p_ldA (ds := encMachReg r33) ty_100 z z z) z <| lh (p_al 5 zr_100 z) z <| la z z <| l0h (p_stA (ds := (encMachReg r33).map .data) ty_100 z z z z z z) <| ne <| ?_
    refine w_jn1 H (fun v35 => ⟨[(4, (aL 1 (eN .i64) r1.1)), (6, (.ptr 1 0)), (7, (aN .i64 v35)), (8, (.ptr 5 0)), (25, (aL 4 encMachReg x0.Regs)), (26, (aN .i64 (x0.Regs.length : Int))), (27, (aN .i64 v13))], [(1, (oC 89 [(aS v14), (aN .i64 v15), (aN .i64 v16), (aL 4 encMachReg v17), (aL 2 encMachBank v18), (aL 2 encMachUnit v19), (aL 9 encMachInstr v20), (aN .i64 v21), (.row 2)])), (2, (oR 129 3 enccore_Place v22)), (5, (oD 100 (encMachReg r33)))]⟩) ?_ ?_
    · intro v35 H
      rw [core_New_k4] at H
      refine sgr z <| lm z z <| lm z z <| ?_
      obtain ⟨r36, e37, H⟩ := ob H
      refine l (p_c (slices_BinarySearch_int_int_ok e37) ent_61 z z z) z <| lm z z <| l (p_ex z z) z <| l (p_ex z z) z <| la z z <| la z z <| ne <| wc_draw [0, 0, 2, 6, 14, 0, 0, 64, 0, 256, 992, 2016, 4094, 8191, 16383, 32767] mixed z <| dm z z <| dm z z <| dr (p_nl z) z <| dr (p_fd fld_89_2 z) z <| dr (p_ld ty_87 z z z) z <| dm z z <| dr (p_fd fld_100_3 z) z <| dr (p_ld ty_3 z z z) z <| dr (p_fd fld_100_1 z) z <| dr (p_ld ty_3 z z z) z <| dr (p_bd (cs := (enccore_Place (core_Place.mk r36.1 r33.Low r33.Width)).map .data) pl_129 zr_129 z ⟨q, ⟨q, ⟨q, q⟩⟩⟩ z) z <| dr (p_bs (f := enccore_Place) [.tmp 53] [(core_Place.mk r36.1 r33.Low r33.Width)] Tryz.underlying87 ty_129.size zr_129 z z z z (el1 (.agg _) z el0) z) z <| ?_
      obtain ⟨e38, H⟩ := as_ H
      refine drh (p_apA 6 Tryz.underlying87 el_129 z z z z e38) z <| dr (p_nl z) z <| dr (p_fd fld_89_2 z) z <| dr0h (p_st ty_87 z z z q z z) <| ?_
      refine wd_nil ?_ (by kernel_rfl)
      refine e_bn (e_n ?_)
      exact ⟨v14, v15, v16, v17, v18, v19, v20, v21, v22 ++ [(core_Place.mk r36.1 r33.Low r33.Width)], H, en [(1, 1), (6, 6)] (wd z (ws z z z (wd z (wd z (wd z w0))))) z (hs z z z (hr z h0))⟩
    intro H
    refine sgr z <| l (p_fd fld_100_2 z) z <| l (p_ld ty_3 z z z) z <| l (p_geq z z) z <| ne <| ?_
    rcases cn H with ⟨b39, H⟩ | ⟨b39, H⟩
    · refine c_t z b39 ?_
      refine wc_region z <| l (p_fd fld_100_2 z) z <| l (p_ld ty_3 z z z) z <| la z z <| ne <| ?_
      exact ⟨r33.Of, H, en [(1, 1), (2, 2), (5, 5)] (wd z (ws z z z (wd z (ws z z z (wd z (wd z (wd z w0))))))) z (hs z z z (hr z (hc z h0)))⟩
    refine c_f z b39 <| se <| ?_
    exact ⟨v13, H, en [(1, 1), (2, 2), (5, 5)] (wd z (ws z z z (wd z (ws z z z (wd z (wd z (wd z w0))))))) z (hs z z z (hr z (hc z h0)))⟩
  refine c_f z b23 <| wc_exit <| ?_
  refine e_te (e_te (e_h (e_n ?_)))
  exact ⟨v14, v15, v16, v17, v18, v19, v20, v21, v22, H, en [(1, 1), (2, 2)] (ws z z z w0) z (hs z z z (hr z h0))⟩
theorem core_New_okL {x0 : Machine} {r : Int} (H : core_New x0 = some (.inl r)) : FnOk Tryz.prog K0 26 [(aA (encMachine x0))] [] (.tup [(.data (.lit (.pointer none))), (aN .i64 r)]) [] := core_New_ok H
theorem core_New_okR {x0 : Machine} {r : core_Core} (H : core_New x0 = some (.inr r)) : FnOk Tryz.prog K0 26 [(aA (encMachine x0))] [] (.tup [(aP ((enccore_Core r).drop 0)), (aN .i64 0)]) [] := core_New_ok H

def machine_ranged (x0 : MachOperand) (x1 : Int) : Option Bool :=
  asr (decide (0 ≤ x0.Scale)) <|
  asr ((sShl .i64 1 x0.Scale) != 0) <|
  bif (Int.tmod x1 (sShl .i64 1 x0.Scale)) != 0 then
    some false
  else
    asr ((sShl .i64 1 x0.Scale) != 0) <|
    (machine_field x0).bind fun r5 =>
    bif x0.Kind == 3 then
      asr (decide (0 ≤ r5)) <|
      (machine_within (w64 (Int.tdiv x1 (sShl .i64 1 x0.Scale))) 0 (w64 ((sShl .i64 1 r5) - 1))).bind fun r9 =>
      some r9
    else
      asr (decide (0 ≤ w64 (r5 - 1))) <|
      asr (decide (0 ≤ w64 (r5 - 1))) <|
      (machine_within (w64 (Int.tdiv x1 (sShl .i64 1 x0.Scale))) (sShl .i64 (-1) (w64 (r5 - 1))) (w64 ((sShl .i64 1 (w64 (r5 - 1))) - 1))).bind fun r13 =>
      some r13
theorem machine_ranged_ok {x0 : MachOperand} {x1 : Int} {R : Bool} (H : machine_ranged x0 x1 = some R) : FnOk Tryz.prog K0 65 [(aA (encMachOperand x0)), (aN .i64 x1)] [] (aT R) [] := by
  refine fn_w (nt := 36) (np := 0) Tryz.func65 z z (by simp) (np_of2 z) <| ?_
  unfold machine_ranged at H
  refine sgr z <| lh (p_bx 0 z q z) z <| la z z <| ne <| sgr z <| l (p_fd fld_107_3 z) z <| l (p_ld ty_3 z z z) z <| ?_
  obtain ⟨e1, H⟩ := as_ H
  refine l (p_shl z z e1) z <| la z z <| ne <| wc_seq <| sgr z <| lm z z <| lm z z <| ?_
  obtain ⟨e2, H⟩ := as_ H
  refine l (p_rem z z e2) z <| l (p_neq z z) z <| ne <| ?_
  rcases cn H with ⟨b3, H⟩ | ⟨b3, H⟩
  · refine c_t z b3 ?_
    refine sgr z <| la z z <| ne <| wc_ret <| e_tr <| ?_
    obtain rfl := sm H
    exact fin (Or.inr z) (rs1 (rv z) rs0) (re [] (.dat) z h0)
  refine c_f z b3 <| se <| sgr z <| lm z z <| lm z z <| ?_
  obtain ⟨e4, H⟩ := as_ H
  refine l (p_quo z z e4) z <| la z z <| ne <| sgr z <| l (p_ldB (ds := (encMachOperand x0).map .data) ty_107 z z z z) z <| ?_
  obtain ⟨r5, e6, H⟩ := ob H
  refine l (p_c (machine_field_ok e6) ent_91 z z z) z <| la z z <| ne <| sgr z <| l (p_fd fld_107_1 z) z <| l (p_ld ty_5 z z z) z <| l (p_eql z z) z <| ne <| ?_
  rcases cn H with ⟨b7, H⟩ | ⟨b7, H⟩
  · refine c_t z b7 ?_
    refine sgr z <| lm z z <| lm z z <| ?_
    obtain ⟨e8, H⟩ := as_ H
    refine l (p_shl z z e8) z <| l (p_sub z z) z <| ?_
    obtain ⟨r9, e10, H⟩ := ob H
    refine l (p_c (machine_within_ok e10) ent_64 z z z) z <| la z z <| ne <| wc_ret <| ?_
    obtain rfl := sm H
    exact fin (Or.inr z) (rs1 (rv z) rs0) (re [] (.dat) z h0)
  refine c_f z b7 <| wc_seq <| wc_draw [0, 0, 2, 6, 0, 16, 48, 112, 255, 511] mixed z <| dm z z <| dm z z <| dr (p_sub z z) z <| ?_
  obtain ⟨e11, H⟩ := as_ H
  refine dr (p_shl z z e11) z <| dm z z <| dr (p_sub z z) z <| ?_
  obtain ⟨e12, H⟩ := as_ H
  refine dr (p_shl z z e12) z <| dr (p_sub z z) z <| ?_
  obtain ⟨r13, e14, H⟩ := ob H
  refine dr (p_c (machine_within_ok e14) ent_64 z z z) z <| da z z <| ?_
  refine wd_nil ?_ (by kernel_rfl)
  refine e_n <| wc_ret <| ?_
  obtain rfl := sm H
  exact fin (Or.inr z) (rs1 (rv z) rs0) (re [] (.dat) z h0)

def machine_CheckOp_k1 : Unit → Option Int
  | () =>
    some 0
def machine_CheckOp_k3 (v10 : Int) (rec2 : Int → Option Int) : Unit → Option Int
  | () =>
    rec2 (w64 (v10 + 1))
def machine_CheckOp_b2 (x0 : Machine) (x1 : MachOp) (r7 : MachInstr) (k1 : Unit → Option Int) (rec2 : Int → Option Int) : Int → Option Int
  | v10 =>
    bif decide (v10 < (r7.Operands.length : Int)) then
      jn (machine_CheckOp_k3 v10 rec2) fun k3 =>
      (ix r7.Operands v10).bind fun r12 =>
      (ix x1.Args v10).bind fun r14 =>
      bif r12.Kind != 1 then
        (machine_ranged r12 r14).bind fun r17 =>
        bif !r17 then some 24 else k3 ()
      else
        (ix x0.Banks r12.Bank).bind fun r20 =>
        (slices_Contains_int_int r20.Regs r14).bind fun r22 =>
        bif !r22 then
          some 16
        else
          (bif (true && ((decide (0 ≤ r12.Tied)) == true)) then ix x1.Args r12.Tied else some default).bind fun r25 =>
          bif (decide (0 ≤ r12.Tied)) && (r25 != r14) then some 40 else k3 ()
    else
      k1 ()
def machine_CheckOp (x0 : Machine) (x1 : MachOp) : Option Int :=
  (machine_Check x0).bind fun r1 =>
  bif r1 != 0 then
    some r1
  else
    (machine_within x1.Instr 0 (w64 ((x0.Instrs.length : Int) - 1))).bind fun r4 =>
    bif !r4 then
      some 6
    else
      (ix x0.Instrs x1.Instr).bind fun r7 =>
      bif (x1.Args.length : Int) != (r7.Operands.length : Int) then
        some 2
      else
        jn machine_CheckOp_k1 fun k1 =>
        lp (machine_CheckOp_b2 x0 x1 r7 k1) (r7.Operands.length + 1) 0
theorem machine_CheckOp_ok {x0 : Machine} {x1 : MachOp} {R : Int} (H : machine_CheckOp x0 x1 = some R) : FnOk Tryz.prog K0 29 [(aA (encMachine x0)), (aA (encMachOp x1))] [] (aN .i64 R) [] := by
  refine fn_w (nt := 80) (np := 0) Tryz.func29 z z (by simp) (np_of2 z) <| ?_
  unfold machine_CheckOp at H
  refine sgr z <| lh (p_bx 0 z q z) z <| lh (p_bx 1 z q z) z <| la z z <| ne <| wc_seq <| sgr z <| l (p_ldB (ds := (encMachine x0).map .data) ty_27 z z z z) z <| ?_
  obtain ⟨r1, e2, H⟩ := ob H
  refine l (p_c (machine_Check_ok e2) ent_63 z z z) z <| la z z <| ne <| sgr z <| lm z z <| l (p_neq z z) z <| ne <| ?_
  rcases cn H with ⟨b3, H⟩ | ⟨b3, H⟩
  · refine c_t z b3 ?_
    refine sgr z <| lm z z <| la z z <| ne <| wc_ret <| e_tr <| ?_
    obtain rfl := sm H
    exact fin (Or.inr z) (rs1 (rv z) rs0) (re [] (.dat) z h0)
  refine c_f z b3 <| se <| wc_seq <| sgr z <| l (p_fd fld_31_0 z) z <| l (p_ld ty_3 z z z) z <| l (p_fd fld_27_6 z) z <| l (p_ld ty_25 z z z) z <| l (p_lenL Tryz.underlying25 z) z <| l (p_sub z z) z <| ?_
  obtain ⟨r4, e5, H⟩ := ob H
  refine l (p_c (machine_within_ok e5) ent_64 z z z) z <| l (p_not z) z <| ne <| ?_
  rcases cn H with ⟨b6, H⟩ | ⟨b6, H⟩
  · refine c_t z b6 ?_
    refine sgr z <| la z z <| ne <| wc_ret <| e_tr <| ?_
    obtain rfl := sm H
    exact fin (Or.inr z) (rs1 (rv z) rs0) (re [] (.dat) z h0)
  refine c_f z b6 <| se <| sgr z <| l (p_fd fld_27_6 z) z <| l (p_ld ty_25 z z z) z <| l (p_fd fld_31_0 z) z <| l (p_ld ty_3 z z z) z <| ?_
  obtain ⟨r7, e8, H⟩ := ob H
  refine l (p_ixL Tryz.underlying25 ty_61.size z z e8) z <| l (p_ldA (ds := encMachInstr r7) ty_61 z z z) z <| lh (p_al 2 zr_61 z) z <| l0h (p_stA (ds := (encMachInstr r7).map .data) ty_61 z z z z z z) <| ne <| wc_seq <| sgr z <| l (p_fd fld_31_1 z) z <| l (p_ld ty_29 z z z) z <| l (p_lenL Tryz.underlying29 z) z <| l (p_fd fld_61_3 z) z <| l (p_ld ty_58 z z z) z <| l (p_lenL Tryz.underlying58 z) z <| l (p_neq z z) z <| ne <| ?_
  rcases cn H with ⟨b9, H⟩ | ⟨b9, H⟩
  · refine c_t z b9 ?_
    refine sgr z <| la z z <| ne <| wc_ret <| e_tr <| ?_
    obtain rfl := sm H
    exact fin (Or.inr z) (rs1 (rv z) rs0) (re [] (.dat) z h0)
  refine c_f z b9 <| se <| ?_
  refine w_jn0 H (⟨[], []⟩) ?_ ?_
  · intro H
    rw [machine_CheckOp_k1] at H
    refine sgr z <| la z z <| ne <| wc_ret <| ?_
    obtain rfl := sm H
    exact fin (Or.inr z) (rs1 (rv z) rs0) (re [] (.dat) z h0)
  intro H
  refine sgr z <| l (p_fd fld_61_3 z) z <| l (p_ld ty_58 z z z) z <| l (p_lenL Tryz.underlying58 z) z <| lm z z <| ne <| wc_block <| w_lp1 H (fun v10 => ⟨[(2, (.ptr 0 0)), (3, (.ptr 1 0)), (37, (aL 6 encMachOperand r7.Operands)), (38, (aN .i64 (r7.Operands.length : Int))), (39, (aN .i64 v10))], [(0, (oD 27 (encMachine x0))), (1, (oD 31 (encMachOp x1)))]⟩) (en [(0, 0), (1, 1)] (ws z z z (ws z z z (wd z (wd z (wd z w0))))) z (hc z (hc z h0))) <| ?_
  intro n2 v10 H
  rw [machine_CheckOp_b2] at H
  refine sgr z <| l (p_lss z z) z <| ne <| wc_seq <| ?_
  rcases cn H with ⟨b11, H⟩ | ⟨b11, H⟩
  · refine c_t z b11 ?_
    refine se <| ?_
    refine w_jn0 H (⟨[(2, (.ptr 0 0)), (3, (.ptr 1 0)), (37, (aL 6 encMachOperand r7.Operands)), (38, (aN .i64 (r7.Operands.length : Int))), (39, (aN .i64 v10))], [(0, (oD 27 (encMachine x0))), (1, (oD 31 (encMachOp x1)))]⟩) ?_ ?_
    · intro H
      rw [machine_CheckOp_k3] at H
      refine wc_region z <| l (p_add z z) z <| lm z z <| ne <| ?_
      exact ⟨w64 (v10 + 1), H, en [(0, 0), (1, 1)] (ws z z z (ws z z z (wd z (wd z (wd z w0))))) z (hc z (hc z h0))⟩
    intro H
    refine wc_block <| sgr z <| lm z z <| ?_
    obtain ⟨r12, e13, H⟩ := ob H
    refine l (p_ixL Tryz.underlying58 ty_107.size z z e13) z <| l (p_ldA (ds := encMachOperand r12) ty_107 z z z) z <| lh (p_al 4 zr_107 z) z <| la z z <| l0h (p_stA (ds := (encMachOperand r12).map .data) ty_107 z z z z z z) <| ne <| sgr z <| l (p_fd fld_31_1 z) z <| l (p_ld ty_29 z z z) z <| lm z z <| ?_
    obtain ⟨r14, e15, H⟩ := ob H
    refine l (p_ixL Tryz.underlying29 ty_3.size z z e15) z <| l (p_ldP ty_3 z z) z <| la z z <| ne <| wc_seq <| sgr z <| l (p_fd fld_107_1 z) z <| l (p_ld ty_5 z z z) z <| l (p_neq z z) z <| ne <| ?_
    rcases cn H with ⟨b16, H⟩ | ⟨b16, H⟩
    · refine c_t z b16 ?_
      refine wc_seq <| sgr z <| l (p_ldB (ds := (encMachOperand r12).map .data) ty_107 z z z z) z <| lm z z <| ?_
      obtain ⟨r17, e18, H⟩ := ob H
      refine l (p_c (machine_ranged_ok e18) ent_65 z z z) z <| l (p_not z) z <| ne <| ?_
      rcases cn H with ⟨b19, H⟩ | ⟨b19, H⟩
      · refine c_t z b19 ?_
        refine sgr z <| la z z <| ne <| wc_ret <| ?_
        refine e_tr (e_tr (e_br (e_tr (e_tr (e_br (e_tr ?_))))))
        obtain rfl := sm H
        exact fin (Or.inr z) (rs1 (rv z) rs0) (re [] (.dat) z h0)
      refine c_f z b19 <| se <| wc_exit <| ?_
      refine e_te (e_h (e_n ?_))
      exact ⟨H, en [(0, 0), (1, 1)] (ws z z z (ws z z z (wd z (wd z (wd z w0))))) z (hc z (hc z h0))⟩
    refine c_f z b16 <| se <| wc_seq <| sgr z <| l (p_fd fld_27_4 z) z <| l (p_ld ty_23 z z z) z <| l (p_fd fld_107_2 z) z <| l (p_ld ty_3 z z z) z <| ?_
    obtain ⟨r20, e21, H⟩ := ob H
    refine l (p_ixL Tryz.underlying23 ty_97.size z z e21) z <| l (p_fdP fld_97_1 z) z <| l (p_ldP ty_29 z z) z <| lm z z <| ?_
    obtain ⟨r22, e23, H⟩ := ob H
    refine l (p_c (slices_Contains_int_int_ok e23) ent_66 z z z) z <| l (p_not z) z <| ne <| ?_
    rcases cn H with ⟨b24, H⟩ | ⟨b24, H⟩
    · refine c_t z b24 ?_
      refine sgr z <| la z z <| ne <| wc_ret <| ?_
      refine e_tr (e_br (e_tr (e_tr (e_br (e_tr ?_)))))
      obtain rfl := sm H
      exact fin (Or.inr z) (rs1 (rv z) rs0) (re [] (.dat) z h0)
    refine c_f z b24 <| se <| sgr z <| l (p_fd fld_107_5 z) z <| l (p_ld ty_3 z z z) z <| l (p_geq z z) z <| lm z z <| lw z (Grd.plain _) z [3] z (s1 strip_same s0) (fun hw => p_fd fld_31_1 z) ⟨z, q⟩ (by exact q) z z <| lw z (Grd.plain _) z [70] z (s1 (strip_when id) s0) (fun hw => p_ld ty_29 z z z) ⟨z, q⟩ (by exact ⟨z, q⟩) z z <| lw z (Grd.plain _) z [8] z (s1 strip_same s0) (fun hw => p_fd fld_107_5 z) ⟨z, q⟩ (by exact q) z z <| lw z (Grd.plain _) z [72] z (s1 (strip_when id) s0) (fun hw => p_ld ty_3 z z z) ⟨z, q⟩ (by exact ⟨z, q⟩) z z <| ?_
    obtain ⟨r25, e26, H⟩ := ob H
    refine lw z (Grd.plain _) z [71, 73] z (s1 (strip_when id) (s1 (strip_when id) s0)) (fun hw => p_ixL Tryz.underlying29 ty_3.size z z (bt hw e26)) ⟨z, ⟨z, q⟩⟩ (by exact q) z z <| lw z (Grd.plain _) z [74] z (s1 (strip_when id) s0) (fun hw => p_ldP ty_3 z z) ⟨z, q⟩ (by exact q) z z <| lw z (Grd.plain _) z [9] z (s1 strip_same s0) (fun hw => p_mv z) ⟨z, q⟩ (by exact q) z z <| lw z (Grd.plain _) z [75, 76] z (s1 (strip_when id) (s1 (strip_when id) s0)) (fun hw => p_neq z z) ⟨z, ⟨z, q⟩⟩ (by exact q) z z <| l (p_pkA z z q (strip_when (wt))) z <| ne <| ?_
    rcases cn H with ⟨b27, H⟩ | ⟨b27, H⟩
    · refine c_t z b27 ?_
      refine sgr z <| la z z <| ne <| wc_ret <| ?_
      refine e_br (e_tr (e_tr (e_br (e_tr ?_))))
      obtain rfl := sm H
      exact fin (Or.inr z) (rs1 (rv z) rs0) (re [] (.dat) z h0)
    refine c_f z b27 <| wc_skip <| ?_
    refine e_bn (e_n ?_)
    exact ⟨H, en [(0, 0), (1, 1)] (ws z z z (ws z z z (wd z (wd z (wd z w0))))) z (hc z (hc z h0))⟩
  refine c_f z b11 <| wc_exit <| ?_
  refine e_te (e_te (e_h (e_n ?_)))
  exact ⟨H, en [] w0 z h0⟩

def cycle_list_k1 (r1 : core_Core) : Unit → Option (Int ⊕ core_Core)
  | () =>
    some (.inr r1)
def cycle_list_b2 (x0 : Machine) (x1 : List MachOp) (k1 : Unit → Option (Int ⊕ core_Core)) (rec2 : Int → Option (Int ⊕ core_Core)) : Int → Option (Int ⊕ core_Core)
  | v5 =>
    bif decide (v5 < (x1.length : Int)) then
      (ix x1 v5).bind fun r7 =>
      (machine_CheckOp x0 r7).bind fun r9 =>
      bif r9 != 0 then some (.inl r9) else rec2 (w64 (v5 + 1))
    else
      k1 ()
def cycle_list (x0 : Machine) (x1 : List MachOp) : Option (Int ⊕ core_Core) :=
  (core_New x0).bind fun r1 =>
  cs2 r1 (fun r1 =>
    bif r1 != 0 then
      some (.inl r1)
    else none) fun r1 =>
    bif decide (64 < (x1.length : Int)) then
      some (.inl 4)
    else
      jn (cycle_list_k1 r1) fun k1 =>
      lp (cycle_list_b2 x0 x1 k1) (x1.length + 1) 0
theorem cycle_list_ok {x0 : Machine} {x1 : List MachOp} {R : Int ⊕ core_Core} (H : cycle_list x0 x1 = some R) : FnOk Tryz.prog K0 32 [(aA (encMachine x0)), (aL 2 encMachOp x1)] [] (Sum.elim (fun r => (.tup [(.data (.lit (.pointer none))), (aN .i64 r)])) (fun r => (.tup [(aP ((enccore_Core r).drop 0)), (aN .i64 0)])) R) [] := by
  refine fn_w (nt := 35) (np := 0) Tryz.func32 z z (by simp) (np_of2 z) <| ?_
  unfold cycle_list at H
  refine sgr z <| lh (p_bx 0 z q z) z <| la z z <| la z z <| ne <| sgr z <| l (p_ldB (ds := (encMachine x0).map .data) ty_27 z z z z) z <| ?_
  obtain ⟨r1, e2, H⟩ := ob H
  rcases r1 with r1 | r1
  · replace H := csl H
    refine l (p_c (core_New_okL e2) ent_26 z z z) z <| lm z z <| l (p_ex z z) z <| l (p_ex z z) z <| la z z <| la z z <| ne <| wc_seq <| sgr z <| lm z z <| l (p_neq z z) z <| ne <| ?_
    rcases cn H with ⟨b3, H⟩ | ⟨b3, H⟩
    · refine c_t z b3 ?_
      refine sgr z <| lm z z <| la z z <| la z z <| ne <| wc_ret <| e_tr <| ?_
      obtain rfl := sm H
      exact fin (Or.inr z) (rs1 (rv z) (rs1 (rv z) rs0)) (re2 [] ⟨.dat, ⟨.dat, q⟩⟩ z h0)
    cases H
  replace H := csr H
  refine l (p_c (core_New_okR e2) ent_26 z z z) z <| lm z z <| l (p_ex z z) z <| l (p_ex z z) z <| la z z <| la z z <| ne <| wc_seq <| sgr z <| lm z z <| l (p_neq z z) z <| ne <| c_f z z <| se <| wc_seq <| sgr z <| lm z z <| l (p_lenL Tryz.underlying46 z) z <| l (p_gtr z z) z <| ne <| ?_
  rcases cn H with ⟨b4, H⟩ | ⟨b4, H⟩
  · refine c_t z b4 ?_
    refine sgr z <| la z z <| la z z <| ne <| wc_ret <| e_tr <| ?_
    obtain rfl := sm H
    exact fin (Or.inr z) (rs1 (rv z) (rs1 (rv z) rs0)) (re2 [] ⟨.dat, ⟨.dat, q⟩⟩ z h0)
  refine c_f z b4 <| se <| ?_
  refine w_jn0 H (⟨[(6, (aP ((enccore_Core r1).drop 0)))], []⟩) ?_ ?_
  · intro H
    rw [cycle_list_k1] at H
    refine sgr z <| lm z z <| la z z <| la z z <| ne <| wc_ret <| ?_
    obtain rfl := sm H
    exact fin (Or.inr z) (rs1 (rv z) (rs1 (rv z) rs0)) (re2 [] ⟨.dat, ⟨.dat, q⟩⟩ z h0)
  intro H
  refine sgr z <| lm z z <| l (p_lenL Tryz.underlying46 z) z <| lm z z <| ne <| wc_block <| w_lp1 H (fun v5 => ⟨[(2, (.ptr 0 0)), (6, (aP ((enccore_Core r1).drop 0))), (21, (aL 2 encMachOp x1)), (22, (aN .i64 (x1.length : Int))), (23, (aN .i64 v5))], [(0, (oD 27 (encMachine x0)))]⟩) (en [(0, 0)] (ws z z z (wd z (wd z (wd z (wd z w0))))) z (hc z h0)) <| ?_
  intro n2 v5 H
  rw [cycle_list_b2] at H
  refine sgr z <| l (p_lss z z) z <| ne <| wc_seq <| ?_
  rcases cn H with ⟨b6, H⟩ | ⟨b6, H⟩
  · refine c_t z b6 ?_
    refine se <| wc_seq <| wc_block <| sgr z <| ?_
    obtain ⟨r7, e8, H⟩ := ob H
    refine l (p_ixL Tryz.underlying46 ty_31.size z z e8) z <| l (p_ldA (ds := encMachOp r7) ty_31 z z z) z <| lh (p_al 2 zr_31 z) z <| l0h (p_stA (ds := (encMachOp r7).map .data) ty_31 z z z z z z) <| ne <| sgr z <| l (p_ldB (ds := (encMachine x0).map .data) ty_27 z z z z) z <| l (p_ldB (ds := (encMachOp r7).map .data) ty_31 z z z z) z <| ?_
    obtain ⟨r9, e10, H⟩ := ob H
    refine l (p_c (machine_CheckOp_ok e10) ent_29 z z z) z <| la z z <| ne <| sgr z <| lm z z <| l (p_neq z z) z <| ne <| ?_
    rcases cn H with ⟨b11, H⟩ | ⟨b11, H⟩
    · refine c_t z b11 ?_
      refine sgr z <| lm z z <| la z z <| la z z <| ne <| wc_ret <| ?_
      refine e_br (e_tr (e_tr (e_br (e_tr ?_))))
      obtain rfl := sm H
      exact fin (Or.inr z) (rs1 (rv z) (rs1 (rv z) rs0)) (re2 [] ⟨.dat, ⟨.dat, q⟩⟩ z h0)
    refine c_f z b11 <| wc_skip <| ?_
    refine e_bn (e_n ?_)
    refine wc_region z <| l (p_add z z) z <| lm z z <| ne <| ?_
    exact ⟨w64 (v5 + 1), H, en [(0, 0)] (ws z z z (wd z (wd z (wd z (wd z w0))))) z (hc z h0)⟩
  refine c_f z b6 <| wc_exit <| ?_
  refine e_te (e_te (e_h (e_n ?_)))
  exact ⟨H, en [] (wd z w0) z h0⟩
theorem cycle_list_okL {x0 : Machine} {x1 : List MachOp} {r : Int} (H : cycle_list x0 x1 = some (.inl r)) : FnOk Tryz.prog K0 32 [(aA (encMachine x0)), (aL 2 encMachOp x1)] [] (.tup [(.data (.lit (.pointer none))), (aN .i64 r)]) [] := cycle_list_ok H
theorem cycle_list_okR {x0 : Machine} {x1 : List MachOp} {r : core_Core} (H : cycle_list x0 x1 = some (.inr r)) : FnOk Tryz.prog K0 32 [(aA (encMachine x0)), (aL 2 encMachOp x1)] [] (.tup [(aP ((enccore_Core r).drop 0)), (aN .i64 0)]) [] := cycle_list_ok H

def core_Core_Pipe_k1 : Int × Bool × (List Int) × Int × (List (List Int)) → Option Pipe
  | (v2, v3, v4, v5, v6) =>
    some (Pipe.mk v2 v3 v6 v4 v5)
def core_Core_Pipe_b2 (x0 : core_Core) (k1 : Int × Bool × (List Int) × Int × (List (List Int)) → Option Pipe) (rec2 : Int × Int × Bool × (List Int) × Int × (List (List Int)) → Option Pipe) : Int × Int × Bool × (List Int) × Int × (List (List Int)) → Option Pipe
  | (v7, v8, v9, v10, v11, v12) =>
    bif decide (v7 < (x0.Machine.Units.length : Int)) then
      (ix x0.Machine.Units v7).bind fun r14 =>
      asr (mkOk r14.Count 8) <|
      asr (roomy (v12.length + [List.replicate r14.Count.toNat 0].length) 24) <|
      rec2 ((w64 (v7 + 1), v8, v9, v10, v11, v12 ++ [List.replicate r14.Count.toNat 0]))
    else
      k1 (v8, v9, v10, v11, v12)
def core_Core_Pipe (x0 : core_Core) : Option Pipe :=
  asr (mkOk x0.Roots 8) <|
  jn core_Core_Pipe_k1 fun k1 =>
  lp (core_Core_Pipe_b2 x0 k1) (x0.Machine.Units.length + 1) ((0, 0, false, List.replicate x0.Roots.toNat 0, 0, ([] : List (List Int))))
theorem core_Core_Pipe_ok {x0 : core_Core} {R : Pipe} (H : core_Core_Pipe x0 = some R) : FnOk Tryz.prog K0 27 [(aP ((enccore_Core x0).drop 0))] [] (aA (encPipe R)) [] := by
  refine fn_w (nt := 32) (np := 0) Tryz.func27 z z (by simp) (np_of2 z) <| ?_
  unfold core_Core_Pipe at H
  refine sgr z <| lh (p_al 0 zr_34 z) z <| ne <| sgr z <| lm z z <| l (p_nlP z) z <| l (p_fdP fld_89_1 z) z <| l (p_ldP ty_3 z z) z <| ?_
  obtain ⟨e1, H⟩ := as_ H
  refine lh (p_mk (f := (eN .i64)) (z0 := 0) 1 Tryz.underlying29 el_3 zr_3 (zdl z zd0) z z e1 z) z <| wl_ent (fz (d := 10) z z (fun _ => z)) <| l (p_bd (cs := [(aN .i64 0), (aT false), aNil, (aL 1 (eN .i64) (List.replicate x0.Roots.toNat 0)), (aN .i64 0)]) pl_34 zr_34 z ⟨q, q⟩ z) z <| lh (p_al 2 zr_34 z) z <| l0h (p_stA (ds := [(aN .i64 0), (aT false), aNil, (aL 1 (eN .i64) (List.replicate x0.Roots.toNat 0)), (aN .i64 0)]) ty_34 z z z z z z) <| ne <| ?_
  refine w_jn5 H (fun v2 v3 v4 v5 v6 => ⟨[(2, (.ptr 0 0)), (3, (.ptr 2 0))], [(0, (oC 34 [(aN .i64 0), (aT false), aNil, aNil, (aN .i64 0)])), (2, (oC 34 [(aN .i64 v2), (aT v3), (.row 7), (aL 1 (eN .i64) v4), (aN .i64 v5)])), (7, (oR 29 1 (eL 1 (eN .i64)) v6))]⟩) ?_ ?_
  · intro v2 v3 v4 v5 v6 H
    rw [core_Core_Pipe_k1] at H
    refine sgr z <| wl_ent (fzc (j := 2) (i := 2) z z z z (fun _ => z)) <| l (p_ldB (ds := (encPipe (Pipe.mk v2 v3 v6 v4 v5)).map .data) ty_34 z z z z) z <| l0h (p_stA (ds := (encPipe (Pipe.mk v2 v3 v6 v4 v5)).map .data) ty_34 z z z z z z) <| ne <| wc_ret <| ?_
    obtain rfl := sm H
    exact fin (Or.inr z) (rs1 (rva (ds := (encPipe (Pipe.mk v2 v3 v6 v4 v5)).map .data) ty_34 z z z z) rs0) (re [] (.adat) z h0)
  intro H
  refine sgr z <| lm z z <| l (p_nlP z) z <| l (p_fdP fld_89_0 z) z <| l (p_fdP fld_27_5 z) z <| l (p_ldP ty_24 z z) z <| l (p_lenL Tryz.underlying24 z) z <| lm z z <| ne <| wc_block <| w_lp6 H (fun v7 v8 v9 v10 v11 v12 => ⟨[(2, (.ptr 0 0)), (3, (.ptr 2 0)), (16, (aL 2 encMachUnit x0.Machine.Units)), (17, (aN .i64 (x0.Machine.Units.length : Int))), (18, (aN .i64 v7))], [(0, (oC 34 [(aN .i64 0), (aT false), aNil, aNil, (aN .i64 0)])), (2, (oC 34 [(aN .i64 v8), (aT v9), (.row 7), (aL 1 (eN .i64) v10), (aN .i64 v11)])), (7, (oR 29 1 (eL 1 (eN .i64)) v12))]⟩) (Ent.trans (nrc (j := 2) (i := 2) (f := (eL 1 (eN .i64))) (sz := 1) (e := 29) 3 z z z) (en [(0, 0), (2, 2), (3, 7)] (ws z z z (ws z z z (wd z (wd z (wd z w0))))) z (hs z z z (hs z z z (hr z h0))))) <| ?_
  intro n2 v7 v8 v9 v10 v11 v12 H
  rw [core_Core_Pipe_b2] at H
  refine sgr z <| l (p_lss z z) z <| ne <| wc_seq <| ?_
  rcases cn H with ⟨b13, H⟩ | ⟨b13, H⟩
  · refine c_t z b13 ?_
    refine se <| wc_seq <| wc_block <| sgr z <| ?_
    obtain ⟨r14, e15, H⟩ := ob H
    refine l (p_ixL Tryz.underlying24 ty_92.size z z e15) z <| l (p_ldA (ds := encMachUnit r14) ty_92 z z z) z <| lh (p_al 8 zr_92 z) z <| l0h (p_stA (ds := (encMachUnit r14).map .data) ty_92 z z z z z z) <| ne <| wc_draw [0, 1, 0, 4, 12, 28, 63, 127, 255] mixed z <| dr (p_fd fld_34_2 z) z <| dr (p_ld ty_32 z z z) z <| dr (p_fd fld_92_1 z) z <| dr (p_ld ty_3 z z z) z <| ?_
    obtain ⟨e16, H⟩ := as_ H
    refine drh ((p_mk (f := (eN .i64)) (z0 := 0) 9 Tryz.underlying29 el_3 zr_3 (zdl z zd0) z z e16 z).frz (fun _ => z)) z <| dr (p_bs (f := (eL 1 (eN .i64))) [.tmp 26] [List.replicate r14.Count.toNat 0] Tryz.underlying32 ty_29.size zr_29 z z z z (el1 (.one _) z el0) z) z <| ?_
    obtain ⟨e17, H⟩ := as_ H
    refine drh (p_apA 10 Tryz.underlying32 el_29 z z z z e17) z <| dr (p_fd fld_34_2 z) z <| dr0h (p_st ty_32 z z z q z z) <| ?_
    refine wd_nil ?_ (by kernel_rfl)
    refine e_bn (e_n ?_)
    refine wc_region z <| l (p_add z z) z <| lm z z <| ne <| ?_
    exact ⟨w64 (v7 + 1), v8, v9, v10, v11, v12 ++ [List.replicate r14.Count.toNat 0], H, en [(0, 0), (2, 2), (10, 7)] (ws z z z (ws z z z (wd z (wd z (wd z w0))))) z (hs z z z (hs z z z (hr z h0)))⟩
  refine c_f z b13 <| wc_exit <| ?_
  refine e_te (e_te (e_h (e_n ?_)))
  exact ⟨v8, v9, v10, v11, v12, H, en [(0, 0), (2, 2), (7, 7)] (ws z z z (ws z z z w0)) z (hs z z z (hs z z z (hr z h0)))⟩

def core_Target (x0 : MachEffect) (x1 : MachOp) : Option Int :=
  bif decide (0 ≤ x0.Operand) then
    (ix x1.Args x0.Operand).bind fun r2 =>
    some r2
  else
    some x0.Reg
theorem core_Target_ok {x0 : MachEffect} {x1 : MachOp} {R : Int} (H : core_Target x0 x1 = some R) : FnOk Tryz.prog K0 72 [(aA (encMachEffect x0)), (aA (encMachOp x1))] [] (aN .i64 R) [] := by
  refine fn_w (nt := 16) (np := 0) Tryz.func72 z z (by simp) (np_of2 z) <| ?_
  unfold core_Target at H
  refine sgr z <| lh (p_bx 0 z q z) z <| lh (p_bx 1 z q z) z <| la z z <| ne <| wc_seq <| sgr z <| l (p_fd fld_118_1 z) z <| l (p_ld ty_3 z z z) z <| l (p_geq z z) z <| ne <| ?_
  rcases cn H with ⟨b1, H⟩ | ⟨b1, H⟩
  · refine c_t z b1 ?_
    refine sgr z <| l (p_fd fld_31_1 z) z <| l (p_ld ty_29 z z z) z <| l (p_fd fld_118_1 z) z <| l (p_ld ty_3 z z z) z <| ?_
    obtain ⟨r2, e3, H⟩ := ob H
    refine l (p_ixL Tryz.underlying29 ty_3.size z z e3) z <| l (p_ldP ty_3 z z) z <| la z z <| ne <| wc_ret <| e_tr <| ?_
    obtain rfl := sm H
    exact fin (Or.inr z) (rs1 (rv z) rs0) (re [] (.dat) z h0)
  refine c_f z b1 <| se <| sgr z <| l (p_fd fld_118_2 z) z <| l (p_ld ty_3 z z z) z <| la z z <| ne <| wc_ret <| ?_
  obtain rfl := sm H
  exact fin (Or.inr z) (rs1 (rv z) rs0) (re [] (.dat) z h0)

def core_Place_Mask (x0 : core_Place) : Option Int :=
  (bits_Mask x0.Width).bind fun r1 =>
  asr (decide (0 ≤ x0.Low)) <|
  some (sShl .u64 r1 x0.Low)
theorem core_Place_Mask_ok {x0 : core_Place} {R : Int} (H : core_Place_Mask x0 = some R) : FnOk Tryz.prog K0 73 [(aA (enccore_Place x0))] [] (aN .u64 R) [] := by
  refine fn_w (nt := 9) (np := 0) Tryz.func73 z z (by simp) (np_of2 z) <| ?_
  unfold core_Place_Mask at H
  refine sgr z <| lh (p_bx 0 z q z) z <| la z z <| ne <| wc_seq <| wc_draw [0, 1, 3, 0, 8, 31, 63] mixed z <| dr (p_fd fld_129_2 z) z <| dr (p_ld ty_3 z z z) z <| ?_
  obtain ⟨r1, e2, H⟩ := ob H
  refine dr (p_c (bits_Mask_ok e2) ent_98 z z z) z <| dr (p_fd fld_129_1 z) z <| dr (p_ld ty_3 z z z) z <| ?_
  obtain ⟨e3, H⟩ := as_ H
  refine dr (p_shl z z e3) z <| da z z <| ?_
  refine wd_nil ?_ (by kernel_rfl)
  refine e_n <| wc_ret <| ?_
  obtain rfl := sm H
  exact fin (Or.inr z) (rs1 (rv z) rs0) (re [] (.dat) z h0)

def core_Core_reads_b2 (x0 : core_Core) (x1 : Term) (x3 : List ByteArray) (self : core_Core → Term → (List (ByteArray × Int)) → (List ByteArray) → (List Int) → (List Int) → Bool → Bool → Bool → Bool → Bool → Option ((List (ByteArray × Int)) × Bool × Bool × Bool × Bool × Bool × (List Int) × (List Int))) (rec2 : Int × (List (ByteArray × Int)) × Bool × Bool × Bool × Bool × Bool × (List Int) × (List Int) → Option ((List (ByteArray × Int)) × Bool × Bool × Bool × Bool × Bool × (List Int) × (List Int))) : Int × (List (ByteArray × Int)) × Bool × Bool × Bool × Bool × Bool × (List Int) × (List Int) → Option ((List (ByteArray × Int)) × Bool × Bool × Bool × Bool × Bool × (List Int) × (List Int))
  | (v7, v8, v9, v10, v11, v12, v13, v14, v15) =>
    bif decide (v7 < (x1.Sub.length : Int)) then
      (ix x1.Sub v7).bind fun r17 =>
      (self x0 r17 v8 x3 v14 v15 v9 v10 v11 v12 v13).bind fun r19 =>
      rec2 ((w64 (v7 + 1), r19.1, r19.2.1, r19.2.2.1, r19.2.2.2.1, r19.2.2.2.2.1, r19.2.2.2.2.2.1, r19.2.2.2.2.2.2.1, r19.2.2.2.2.2.2.2))
    else
      some (v8, v9, v10, v11, v12, v13, v14, v15)
def core_Core_reads_k1 (x0 : core_Core) (x1 : Term) (x2 : List (ByteArray × Int)) (x3 : List ByteArray) (x5 : List Int) (self : core_Core → Term → (List (ByteArray × Int)) → (List ByteArray) → (List Int) → (List Int) → Bool → Bool → Bool → Bool → Bool → Option ((List (ByteArray × Int)) × Bool × Bool × Bool × Bool × Bool × (List Int) × (List Int))) : Bool × Bool × Bool × Bool × Bool × (List Int) → Option ((List (ByteArray × Int)) × Bool × Bool × Bool × Bool × Bool × (List Int) × (List Int))
  | (v1, v2, v3, v4, v5, v6) =>
    lp (core_Core_reads_b2 x0 x1 x3 self) (x1.Sub.length + 1) (0, x2, v1, v2, v3, v4, v5, v6, x5)
def core_Core_reads_k3 (x1 : Term) (x3 : List ByteArray) (x6 : Bool) (x7 : Bool) (x8 : Bool) (x9 : Bool) (x10 : Bool) (k1 : Bool × Bool × Bool × Bool × Bool × (List Int) → Option ((List (ByteArray × Int)) × Bool × Bool × Bool × Bool × Bool × (List Int) × (List Int))) : (List Int) → Option ((List (ByteArray × Int)) × Bool × Bool × Bool × Bool × Bool × (List Int) × (List Int))
  | v22 =>
    (bif (true && ((sEq x1.Name (⟨#[112, 99]⟩ : ByteArray)) == false)) then slices_Contains_string_string x3 x1.Name else some default).bind fun r23 =>
    bif (sEq x1.Name (⟨#[112, 99]⟩ : ByteArray)) || r23 then k1 (x6, x7, x8, x9, true, v22) else k1 (x6, x7, x8, x9, x10, v22)
def core_Core_reads_f (self : core_Core → Term → (List (ByteArray × Int)) → (List ByteArray) → (List Int) → (List Int) → Bool → Bool → Bool → Bool → Bool → Option ((List (ByteArray × Int)) × Bool × Bool × Bool × Bool × Bool × (List Int) × (List Int))) (x0 : core_Core) (x1 : Term) (x2 : List (ByteArray × Int)) (x3 : List ByteArray) (x4 : List Int) (x5 : List Int) (x6 : Bool) (x7 : Bool) (x8 : Bool) (x9 : Bool) (x10 : Bool) : Option ((List (ByteArray × Int)) × Bool × Bool × Bool × Bool × Bool × (List Int) × (List Int)) :=
  jn (core_Core_reads_k1 x0 x1 x2 x3 x5 self) fun k1 =>
  bif x1.Kind == 2 then
    jn (core_Core_reads_k3 x1 x3 x6 x7 x8 x9 x10 k1) fun k3 =>
    bif (mGet x2 x1.Name).isSome then
      (ix x0.places ((mGet x2 x1.Name).getD 0)).bind fun r27 =>
      (ix x4 r27.Root).bind fun r29 =>
      (core_Place_Mask r27).bind fun r31 =>
      (ix x4 r27.Root).bind fun r33 =>
      k3 (x4.set r27.Root.toNat (bOr .u64 r29 r31))
    else
      k3 x4
  else
    bif x1.Kind == 24 then k1 (true, x7, x8, x9, x10, x4) else k1 (x6, x7, x8, x9, x10, x4)
def core_Core_reads : Nat → core_Core → Term → (List (ByteArray × Int)) → (List ByteArray) → (List Int) → (List Int) → Bool → Bool → Bool → Bool → Bool → Option ((List (ByteArray × Int)) × Bool × Bool × Bool × Bool × Bool × (List Int) × (List Int))
  | 0 => fun _ _ _ _ _ _ _ _ _ _ _ => none
  | n + 1 => core_Core_reads_f (core_Core_reads n)
theorem core_Core_reads_ok {n : Nat} : ∀ {x0 : core_Core} {x1 : Term} {x2 : List (ByteArray × Int)} {x3 : List ByteArray} {x4 : List Int} {x5 : List Int} {x6 : Bool} {x7 : Bool} {x8 : Bool} {x9 : Bool} {x10 : Bool} {R : (List (ByteArray × Int)) × Bool × Bool × Bool × Bool × Bool × (List Int) × (List Int)}, core_Core_reads n x0 x1 x2 x3 x4 x5 x6 x7 x8 x9 x10 = some R → FnOk Tryz.prog K0 74 [(aP ((enccore_Core x0).drop 0)), (aA (encTermX x1)), (.mp 0), (aL 1 eS x3), (.ptr 1 0)] [(0, (oM Value.string (dN .i64) x2)), (1, (oC 85 [(.row 2), (.row 3), (aT x6), (aT x7), (aT x8), (aT x9), (aT x10)])), (2, (oR 57 1 (eN .u64) x4)), (3, (oR 57 1 (eN .u64) x5))] (.tup []) [(0, (oM Value.string (dN .i64) R.1)), (1, (oC 85 [(.row 2), (.row 3), (aT R.2.1), (aT R.2.2.1), (aT R.2.2.2.1), (aT R.2.2.2.2.1), (aT R.2.2.2.2.2.1)])), (2, (oR 57 1 (eN .u64) R.2.2.2.2.2.2.1)), (3, (oR 57 1 (eN .u64) R.2.2.2.2.2.2.2))] := by
  induction n with
  | zero => intro x0 x1 x2 x3 x4 x5 x6 x7 x8 x9 x10 R H; cases H
  | succ n ih =>
    intro x0 x1 x2 x3 x4 x5 x6 x7 x8 x9 x10 R H
    refine fn_w (nt := 77) (np := 4) Tryz.func74 z z (by simp) (np_of2 z) <| ?_
    have H : core_Core_reads_f (core_Core_reads n) x0 x1 x2 x3 x4 x5 x6 x7 x8 x9 x10 = some R := H
    unfold core_Core_reads_f at H
    refine sgr z <| lh (p_bx 4 z q z) z <| ne <| ?_
    refine w_jn6 H (fun v1 v2 v3 v4 v5 v6 => ⟨[(0, (aP ((enccore_Core x0).drop 0))), (2, (.mp 0)), (3, (aL 1 eS x3)), (4, (.ptr 1 0)), (6, (.ptr 4 0))], [(0, (oM Value.string (dN .i64) x2)), (1, (oC 85 [(.row 2), (.row 3), (aT v1), (aT v2), (aT v3), (aT v4), (aT v5)])), (2, (oR 57 1 (eN .u64) v6)), (3, (oR 57 1 (eN .u64) x5)), (4, (oD 114 (encTermX x1)))]⟩) ?_ ?_
    · intro v1 v2 v3 v4 v5 v6 H
      rw [core_Core_reads_k1] at H
      refine sgr z <| l (p_fd fld_114_5 z) z <| l (p_ld ty_112 z z z) z <| l (p_lenL Tryz.underlying112 z) z <| lm z z <| ne <| wc_block <| w_lp9 H (fun v7 v8 v9 v10 v11 v12 v13 v14 v15 => ⟨[(0, (aP ((enccore_Core x0).drop 0))), (2, (.mp 0)), (3, (aL 1 eS x3)), (4, (.ptr 1 0)), (64, (aL 6 encTerm x1.Sub)), (65, (aN .i64 (x1.Sub.length : Int))), (66, (aN .i64 v7))], [(0, (oM Value.string (dN .i64) v8)), (1, (oC 85 [(.row 2), (.row 3), (aT v9), (aT v10), (aT v11), (aT v12), (aT v13)])), (2, (oR 57 1 (eN .u64) v14)), (3, (oR 57 1 (eN .u64) v15))]⟩) (en [(0, 0), (1, 1), (2, 2), (3, 3)] (wd z (ws z z z (wd z (ws z z z (wd z (wd z (wd z w0))))))) z (hs z rmm omm (hs z z z (hr z (hr z h0))))) <| ?_
      intro n2 v7 v8 v9 v10 v11 v12 v13 v14 v15 H
      rw [core_Core_reads_b2] at H
      refine sgr z <| l (p_lss z z) z <| ne <| wc_seq <| ?_
      rcases cn H with ⟨b16, H⟩ | ⟨b16, H⟩
      · refine c_t z b16 ?_
        refine se <| wc_seq <| wc_block <| sgr z <| ?_
        obtain ⟨r17, e18, H⟩ := ob H
        refine l (p_ixX (encTerm_X _) Tryz.underlying112 ty_114.size z z e18) z <| l (p_ldA (ds := encTermX r17) ty_114 z z z) z <| lh (p_al 7 zr_114 z) z <| l0h (p_stA (ds := (encTermX r17).map .data) ty_114 z z z z z z) <| ne <| wc_region z <| lm z z <| l (p_ldB (ds := (encTermX r17).map .data) ty_114 z z z z) z <| lm z z <| lm z z <| lm z z <| ?_
        obtain ⟨r19, e20, H⟩ := ob H
        refine lh (p_ch (ids := [0, 1, 2, 3]) (ih e20) ent_74 z z (rc z rmm (rc z z (rc z rm (rc z rm rn)))) (rc z rmm (rc z z (rc z rm (rc z rm rn)))) z ⟨z, ⟨z, ⟨z, ⟨z, q⟩⟩⟩⟩ (by decide) z z z (oc omm (oc z (oc om (oc om on)))) (oc omm (oc z (oc om (oc om on)))) z) z <| wl_nil <| ?_
        refine e_bn (e_n ?_)
        refine wc_region z <| l (p_add z z) z <| lm z z <| ne <| ?_
        exact ⟨w64 (v7 + 1), r19.1, r19.2.1, r19.2.2.1, r19.2.2.2.1, r19.2.2.2.2.1, r19.2.2.2.2.2.1, r19.2.2.2.2.2.2.1, r19.2.2.2.2.2.2.2, H, en [(0, 0), (1, 1), (2, 2), (3, 3)] (wd z (ws z z z (wd z (ws z z z (wd z (wd z (wd z w0))))))) z (hs z rmm omm (hs z z z (hr z (hr z h0))))⟩
      refine c_f z b16 <| wc_exit <| ?_
      refine e_te (e_te (e_h ?_))
      obtain rfl := sm H
      exact fin (Or.inl z) rs0 (re2 [(0, 0), (1, 1), (2, 2), (3, 3)] q z (hs z rmm omm (hs z z z (hr z (hr z h0)))))
    intro H
    refine sgr z <| l (p_fd fld_114_0 z) z <| l (p_ld ty_5 z z z) z <| ne <| wc_block <| sgr z <| l (p_eql z z) z <| la z z <| ne <| ?_
    rcases cn H with ⟨b21, H⟩ | ⟨b21, H⟩
    · refine c_t z b21 ?_
      refine w_jn1 H (fun v22 => ⟨[(0, (aP ((enccore_Core x0).drop 0))), (2, (.mp 0)), (3, (aL 1 eS x3)), (4, (.ptr 1 0)), (6, (.ptr 4 0))], [(0, (oM Value.string (dN .i64) x2)), (1, (oC 85 [(.row 2), (.row 3), (aT x6), (aT x7), (aT x8), (aT x9), (aT x10)])), (2, (oR 57 1 (eN .u64) v22)), (3, (oR 57 1 (eN .u64) x5)), (4, (oD 114 (encTermX x1)))]⟩) ?_ ?_
      · intro v22 H
        rw [core_Core_reads_k3] at H
        refine sgr z <| l (p_fd fld_114_3 z) z <| l (p_ld ty_9 z z z) z <| l (p_seq z z) z <| lm z z <| lw z (Grd.plain _) z [3] z (s1 strip_same s0) (fun hw => p_mv z) ⟨z, q⟩ (by exact q) z z <| lw z (Grd.plain _) z [6] z (s1 strip_same s0) (fun hw => p_fd fld_114_3 z) ⟨z, q⟩ (by exact q) z z <| lw z (Grd.plain _) z [51] z (s1 (strip_when id) s0) (fun hw => p_ld ty_9 z z z) ⟨z, q⟩ (by exact ⟨z, q⟩) z z <| ?_
        obtain ⟨r23, e24, H⟩ := ob H
        refine lw z (Grd.plain _) z [50, 52] z (s1 (strip_when id) (s1 (strip_when id) s0)) (fun hw => p_c (slices_Contains_string_string_ok (bt hw e24)) ent_99 z z z) ⟨z, ⟨z, q⟩⟩ (by exact q) z z <| l (p_pkO z z q (strip_when (wf))) z <| ne <| ?_
        rcases cn H with ⟨b25, H⟩ | ⟨b25, H⟩
        · refine c_t z b25 ?_
          refine wc_region z <| lm z z <| l (p_nl z) z <| l (p_fd fld_85_6 z) z <| l0h (p_st ty_4 z z z q z z) <| wl_nil <| ?_
          refine e_bn (e_n ?_)
          exact ⟨x6, x7, x8, x9, true, v22, H, en [(0, 0), (1, 1), (2, 2), (3, 3), (4, 4)] (wd z (ws z z z (wd z (ws z z z (ws z z z w0))))) z (hs z rmm omm (hs z z z (hr z (hr z (hc z h0)))))⟩
        refine c_f z b25 <| wc_skip <| ?_
        refine e_bn (e_n ?_)
        exact ⟨x6, x7, x8, x9, x10, v22, H, en [(0, 0), (1, 1), (2, 2), (3, 3), (4, 4)] (wd z (ws z z z (wd z (ws z z z (ws z z z w0))))) z (hs z rmm omm (hs z z z (hr z (hr z (hc z h0)))))⟩
      intro H
      refine sgr z <| lm z z <| l (p_fd fld_114_3 z) z <| l (p_ld ty_9 z z z) z <| l (p_lko (z := 0) (vd := (dN .i64)) Tryz.underlying138 (keyS Tryz.underlying9) zv_3 z z z z z) z <| lm z z <| l (p_ex z z) z <| l (p_ex z z) z <| la z z <| la z z <| ne <| sgr z <| lm z z <| ne <| ?_
      rcases cn H with ⟨b26, H⟩ | ⟨b26, H⟩
      · refine c_t z b26 ?_
        refine sgr z <| lm z z <| l (p_nlP z) z <| l (p_fdP fld_89_2 z) z <| l (p_ldP ty_87 z z) z <| lm z z <| ?_
        obtain ⟨r27, e28, H⟩ := ob H
        refine l (p_ixL Tryz.underlying87 ty_129.size z z e28) z <| l (p_ldA (ds := enccore_Place r27) ty_129 z z z) z <| lh (p_al 5 zr_129 z) z <| l0h (p_stA (ds := (enccore_Place r27).map .data) ty_129 z z z z z z) <| ne <| wc_draw [0, 1, 3, 7, 0, 16, 63, 127, 0, 256, 1023, 2047, 4095] mixed z <| dm z z <| dr (p_nl z) z <| dr (p_fd fld_85_0 z) z <| dr (p_ld ty_83 z z z) z <| dr (p_fd fld_129_0 z) z <| dr (p_ld ty_3 z z z) z <| ?_
        obtain ⟨r29, e30, H⟩ := ob H
        refine dr (p_ixR Tryz.underlying83 ty_57.size z z z e30) z <| dr (p_ldR (n := r27.Root) (j := 0) (sz := 1) (k := 2) (r := r29) (f := (eN .u64)) (fun _ => z) ty_57 z z e30 z) z <| dr (p_ldB (ds := (enccore_Place r27).map .data) ty_129 z z z z) z <| ?_
        obtain ⟨r31, e32, H⟩ := ob H
        refine dr (p_c (core_Place_Mask_ok e32) ent_73 z z z) z <| dr (p_or z z) z <| ?_
        obtain ⟨r33, e34, H⟩ := ob H
        refine dr (p_ixR Tryz.underlying83 ty_57.size z z z e34) z <| dr0h (p_stR (sz := 1) (n := r27.Root) (j := 0) (r := r33) (f := (eN .u64)) (ds := [.lit (.int .u64 (bOr .u64 r29 r31))]) (r' := bOr .u64 r29 r31) (fun _ => z) ty_57 (.inr z) z z z e34 q z z z z) <| ?_
        refine wd_nil ?_ (by kernel_rfl)
        refine e_n <| ?_
        exact ⟨x4.set r27.Root.toNat (bOr .u64 r29 r31), H, en [(0, 0), (1, 1), (2, 2), (3, 3), (4, 4)] (wd z (ws z z z (wd z (ws z z z (ws z z z w0))))) z (hs z rmm omm (hs z z z (hr z (hr z (hc z h0)))))⟩
      refine c_f z b26 <| se <| ?_
      exact ⟨x4, H, en [(0, 0), (1, 1), (2, 2), (3, 3), (4, 4)] (wd z (ws z z z (wd z (ws z z z (ws z z z w0))))) z (hs z rmm omm (hs z z z (hr z (hr z (hc z h0)))))⟩
    refine c_f z b21 <| sgr z <| l (p_eql z z) z <| la z z <| ne <| ?_
    rcases cn H with ⟨b35, H⟩ | ⟨b35, H⟩
    · refine c_t z b35 ?_
      refine wc_region z <| lm z z <| l (p_nl z) z <| l (p_fd fld_85_2 z) z <| l0h (p_st ty_4 z z z q z z) <| wl_nil <| ?_
      refine e_bn (e_n ?_)
      exact ⟨true, x7, x8, x9, x10, x4, H, en [(0, 0), (1, 1), (2, 2), (3, 3), (4, 4)] (wd z (ws z z z (wd z (ws z z z (ws z z z w0))))) z (hs z rmm omm (hs z z z (hr z (hr z (hc z h0)))))⟩
    refine c_f z b35 <| wc_skip <| ?_
    refine e_bn (e_n ?_)
    exact ⟨x6, x7, x8, x9, x10, x4, H, en [(0, 0), (1, 1), (2, 2), (3, 3), (4, 4)] (wd z (ws z z z (wd z (ws z z z (ws z z z w0))))) z (hs z rmm omm (hs z z z (hr z (hr z (hc z h0)))))⟩

def core_Core_Touch_k3 : (List Int) × (List Int) × Bool × Bool × Bool × Bool × Bool → Option Touch
  | (v6, v7, v8, v9, v10, v11, v12) =>
    some (Touch.mk v6 v7 v8 v9 v10 v11 v12)
def core_Core_Touch_k5 (v15 : List ByteArray) (v16 : Int) (rec4 : (List ByteArray) × Int × (List Int) × (List Int) × Bool × Bool × Bool × Bool × Bool × (List (ByteArray × Int)) → Option Touch) : (List Int) × (List Int) × Bool × Bool × Bool × Bool × Bool × (List (ByteArray × Int)) → Option Touch
  | (v26, v27, v28, v29, v30, v31, v32, v33) =>
    rec4 ((v15, w64 (v16 + 1), v26, v27, v28, v29, v30, v31, v32, v33))
def core_Core_Touch_b7 (x0 : core_Core) (v15 : List ByteArray) (k5 : (List Int) × (List Int) × Bool × Bool × Bool × Bool × Bool × (List (ByteArray × Int)) → Option Touch) (r34 : MachEffect) (rec7 : Int × (List Int) × (List Int) × Bool × Bool × Bool × Bool × Bool × (List (ByteArray × Int)) → Option Touch) : Int × (List Int) × (List Int) × Bool × Bool × Bool × Bool × Bool × (List (ByteArray × Int)) → Option Touch
  | (v42, v43, v44, v45, v46, v47, v48, v49, v50) =>
    bif decide (v42 < ([r34.Addr, r34.Value, r34.Cond].length : Int)) then
      (ix [r34.Addr, r34.Value, r34.Cond] v42).bind fun r52 =>
      (core_Core_reads (rankTerm r52) x0 r52 v50 v15 v43 v44 v45 v46 v47 v48 v49).bind fun r54 =>
      rec7 ((w64 (v42 + 1), r54.2.2.2.2.2.2.1, r54.2.2.2.2.2.2.2, r54.2.1, r54.2.2.1, r54.2.2.2.1, r54.2.2.2.2.1, r54.2.2.2.2.2.1, r54.1))
    else
      k5 (v43, v44, v45, v46, v47, v48, v49, v50)
def core_Core_Touch_k6 (x0 : core_Core) (v15 : List ByteArray) (v17 : List Int) (v24 : List (ByteArray × Int)) (k5 : (List Int) × (List Int) × Bool × Bool × Bool × Bool × Bool × (List (ByteArray × Int)) → Option Touch) (r34 : MachEffect) : (List Int) × Bool × Bool × Bool × Bool × Bool → Option Touch
  | (v36, v37, v38, v39, v40, v41) =>
    lp (core_Core_Touch_b7 x0 v15 k5 r34) ([r34.Addr, r34.Value, r34.Cond].length + 1) (0, v17, v36, v37, v38, v39, v40, v41, v24)
def core_Core_Touch_b4 (x0 : core_Core) (x1 : MachOp) (k3 : (List Int) × (List Int) × Bool × Bool × Bool × Bool × Bool → Option Touch) (r13 : MachInstr) (rec4 : (List ByteArray) × Int × (List Int) × (List Int) × Bool × Bool × Bool × Bool × Bool × (List (ByteArray × Int)) → Option Touch) : (List ByteArray) × Int × (List Int) × (List Int) × Bool × Bool × Bool × Bool × Bool × (List (ByteArray × Int)) → Option Touch
  | (v15, v16, v17, v18, v19, v20, v21, v22, v23, v24) =>
    bif decide (v16 < (r13.Effects.length : Int)) then
      jn (core_Core_Touch_k5 v15 v16 rec4) fun k5 =>
      (ix r13.Effects v16).bind fun r34 =>
      jn (core_Core_Touch_k6 x0 v15 v17 v24 k5 r34) fun k6 =>
      bif r34.Kind == 1 then
        (core_Target r34 x1).bind fun r57 =>
        (ix x0.places r57).bind fun r59 =>
        (ix v18 r59.Root).bind fun r61 =>
        (core_Place_Mask r59).bind fun r63 =>
        (ix v18 r59.Root).bind fun r65 =>
        k6 ((v18.set r59.Root.toNat (bOr .u64 r61 r63), v19, v20, v21, v22, v23))
      else
        bif r34.Kind == 2 then k6 (v18, v19, true, v21, v22, v23) else bif r34.Kind == 3 then k6 (v18, v19, v20, true, v22, v23) else bif r34.Kind == 4 then k6 (v18, v19, v20, v21, true, v23) else k6 (v18, v19, v20, v21, v22, v23)
    else
      k3 (v17, v18, v19, v20, v21, v22, v23)
def core_Core_Touch_k2 (x0 : core_Core) (x1 : MachOp) : (List (ByteArray × Int)) × (List ByteArray) → Option Touch
  | (v4, v5) =>
    jn core_Core_Touch_k3 fun k3 =>
    (ix x0.Machine.Instrs x1.Instr).bind fun r13 =>
    lp (core_Core_Touch_b4 x0 x1 k3 r13) (r13.Effects.length + 1) (v5, 0, List.replicate x0.Roots.toNat 0, List.replicate x0.Roots.toNat 0, false, false, false, false, false, v4)
def core_Core_Touch_k9 (v72 : Int) (rec8 : Int × (List (ByteArray × Int)) × (List ByteArray) → Option Touch) : (List (ByteArray × Int)) × (List ByteArray) → Option Touch
  | (v76, v77) =>
    rec8 ((w64 (v72 + 1), v76, v77))
def core_Core_Touch_b8 (x1 : MachOp) (k2 : (List (ByteArray × Int)) × (List ByteArray) → Option Touch) (r70 : MachInstr) (rec8 : Int × (List (ByteArray × Int)) × (List ByteArray) → Option Touch) : Int × (List (ByteArray × Int)) × (List ByteArray) → Option Touch
  | (v72, v73, v74) =>
    bif decide (v72 < (r70.Operands.length : Int)) then
      jn (core_Core_Touch_k9 v72 rec8) fun k9 =>
      (ix r70.Operands v72).bind fun r78 =>
      bif r78.Kind == 1 then
        (ix x1.Args v72).bind fun r81 =>
        k9 (mSet v73 r78.Name r81, v74)
      else
        bif r78.Kind == 4 then
          asr (roomy (v74.length + [r78.Name].length) 16) <|
          k9 (v73, v74 ++ [r78.Name])
        else
          k9 (v73, v74)
    else
      k2 (v73, v74)
def core_Core_Touch_k1 (x0 : core_Core) (x1 : MachOp) : (List (ByteArray × Int)) → Option Touch
  | v3 =>
    jn (core_Core_Touch_k2 x0 x1) fun k2 =>
    (ix x0.Machine.Instrs x1.Instr).bind fun r70 =>
    lp (core_Core_Touch_b8 x1 k2 r70) (r70.Operands.length + 1) ((0, v3, ([] : List ByteArray)))
def core_Core_Touch_b10 (x0 : core_Core) (k1 : (List (ByteArray × Int)) → Option Touch) (rec10 : Int × (List (ByteArray × Int)) → Option Touch) : Int × (List (ByteArray × Int)) → Option Touch
  | (v85, v86) =>
    bif decide (v85 < (x0.Machine.Regs.length : Int)) then
      (ix x0.Machine.Regs v85).bind fun r88 =>
      asr (decide ((⟨#[114, 46]⟩ : ByteArray).size + r88.Name.size ≤ 9223372036854775807)) <|
      rec10 ((w64 (v85 + 1), mSet v86 ((⟨#[114, 46]⟩ : ByteArray) ++ r88.Name) v85))
    else
      k1 v86
def core_Core_Touch (x0 : core_Core) (x1 : MachOp) : Option Touch :=
  asr (mkOk x0.Roots 8) <|
  asr (mkOk x0.Roots 8) <|
  jn (core_Core_Touch_k1 x0 x1) fun k1 =>
  lp (core_Core_Touch_b10 x0 k1) (x0.Machine.Regs.length + 1) ((0, ([] : List (ByteArray × Int))))
theorem core_Core_Touch_ok {x0 : core_Core} {x1 : MachOp} {R : Touch} (H : core_Core_Touch x0 x1 = some R) : FnOk Tryz.prog K0 37 [(aP ((enccore_Core x0).drop 0)), (aA (encMachOp x1))] [] (aA (encTouch R)) [] := by
  refine fn_w (nt := 149) (np := 0) Tryz.func37 z z (by simp) (np_of2 z) <| ?_
  unfold core_Core_Touch at H
  refine sgr z <| lh (p_bx 0 z q z) z <| lh (p_al 1 zr_85 z) z <| ne <| wc_seq <| wc_draw [0, 1, 3, 7, 15, 0, 32, 96, 224, 480, 1023, 0, 4095] mixed z <| dm z z <| dr (p_nlP z) z <| dr (p_fdP fld_89_1 z) z <| dr (p_ldP ty_3 z z) z <| ?_
  obtain ⟨e1, H⟩ := as_ H
  refine drh (p_mk (f := (eN .u64)) (z0 := 0) 2 Tryz.underlying83 el_57 zr_57 (zdl z zd0) z z e1 z) z <| dm z z <| dr (p_nlP z) z <| dr (p_fdP fld_89_1 z) z <| dr (p_ldP ty_3 z z) z <| ?_
  obtain ⟨e2, H⟩ := as_ H
  refine drh (p_mk (f := (eN .u64)) (z0 := 0) 3 Tryz.underlying83 el_57 zr_57 (zdl z zd0) z z e2 z) z <| dr (p_bd (cs := [(.row 2), (.row 3), (aT false), (aT false), (aT false), (aT false), (aT false)]) pl_85 zr_85 z ⟨q, ⟨q, q⟩⟩ z) z <| drh (p_al 4 zr_85 z) z <| dr0h (p_stA (ds := [(.row 2), (.row 3), (aT false), (aT false), (aT false), (aT false), (aT false)]) ty_85 z z z z z z) <| ?_
  refine wd_nil ?_ (by kernel_rfl)
  refine e_n <| sgr z <| lh (p_mm 5 (dN .i64) Value.string z) z <| la z z <| ne <| ?_
  refine w_jn1 H (fun v3 => ⟨[(0, (aP ((enccore_Core x0).drop 0))), (3, (.ptr 0 0)), (4, (.ptr 1 0)), (5, (.ptr 4 0)), (6, (.mp 5))], [(0, (oD 31 (encMachOp x1))), (1, (oC 85 [aNil, aNil, (aT false), (aT false), (aT false), (aT false), (aT false)])), (2, (oR 57 1 (eN .u64) (List.replicate x0.Roots.toNat 0))), (3, (oR 57 1 (eN .u64) (List.replicate x0.Roots.toNat 0))), (4, (oC 85 [(.row 2), (.row 3), (aT false), (aT false), (aT false), (aT false), (aT false)])), (5, (oM Value.string (dN .i64) v3))]⟩) ?_ ?_
  · intro v3 H
    rw [core_Core_Touch_k1] at H
    refine sgr z <| la z z <| ne <| ?_
    refine w_jn2 H (fun v4 v5 => ⟨[(0, (aP ((enccore_Core x0).drop 0))), (3, (.ptr 0 0)), (4, (.ptr 1 0)), (5, (.ptr 4 0)), (6, (.mp 5)), (9, (.row 11))], [(0, (oD 31 (encMachOp x1))), (1, (oC 85 [aNil, aNil, (aT false), (aT false), (aT false), (aT false), (aT false)])), (2, (oR 57 1 (eN .u64) (List.replicate x0.Roots.toNat 0))), (3, (oR 57 1 (eN .u64) (List.replicate x0.Roots.toNat 0))), (4, (oC 85 [(.row 2), (.row 3), (aT false), (aT false), (aT false), (aT false), (aT false)])), (5, (oM Value.string (dN .i64) v4)), (11, (oR 9 1 eS v5))]⟩) ?_ ?_
    · intro v4 v5 H
      rw [core_Core_Touch_k2] at H
      refine w_jn7 H (fun v6 v7 v8 v9 v10 v11 v12 => ⟨[(4, (.ptr 1 0)), (5, (.ptr 4 0))], [(1, (oC 85 [aNil, aNil, (aT false), (aT false), (aT false), (aT false), (aT false)])), (2, (oR 57 1 (eN .u64) v6)), (3, (oR 57 1 (eN .u64) v7)), (4, (oC 85 [(.row 2), (.row 3), (aT v8), (aT v9), (aT v10), (aT v11), (aT v12)]))]⟩) ?_ ?_
      · intro v6 v7 v8 v9 v10 v11 v12 H
        rw [core_Core_Touch_k3] at H
        refine sgr z <| l (p_ldB (ds := [(.row 2), (.row 3), (aT v8), (aT v9), (aT v10), (aT v11), (aT v12)]) ty_85 z z z z) z <| l0h (p_stA (ds := [(.row 2), (.row 3), (aT v8), (aT v9), (aT v10), (aT v11), (aT v12)]) ty_85 z z z z z z) <| ne <| wc_ent (fzc (j := 1) (i := 0) z z z z (fun _ => z)) <| wc_ent (fzc (j := 1) (i := 1) z z z z (fun _ => z)) <| wc_ret <| ?_
        obtain rfl := sm H
        exact fin (Or.inr z) (rs1 (rva (ds := (encTouch (Touch.mk v6 v7 v8 v9 v10 v11 v12)).map .data) ty_85 z z z z) rs0) (re [] (.adat) z h0)
      intro H
      refine wc_seq <| wc_draw [0, 1, 3, 7, 15, 0, 32, 127, 255, 511, 1023, 0] mixed z <| dm z z <| dr (p_nlP z) z <| dr (p_fdP fld_89_0 z) z <| dr (p_fdP fld_27_6 z) z <| dr (p_ldP ty_25 z z) z <| dr (p_fd fld_31_0 z) z <| dr (p_ld ty_3 z z z) z <| ?_
      obtain ⟨r13, e14, H⟩ := ob H
      refine dr (p_ixL Tryz.underlying25 ty_61.size z z e14) z <| dr (p_fdP fld_61_4 z) z <| dr (p_ldP ty_59 z z) z <| dr (p_lenL Tryz.underlying59 z) z <| dm z z <| ?_
      refine wd_nil ?_ (by kernel_rfl)
      refine e_n <| wc_block <| w_lp10 H (fun v15 v16 v17 v18 v19 v20 v21 v22 v23 v24 => ⟨[(0, (aP ((enccore_Core x0).drop 0))), (3, (.ptr 0 0)), (4, (.ptr 1 0)), (5, (.ptr 4 0)), (6, (.mp 5)), (9, (aL 1 eS v15)), (91, (aL 21 encMachEffect r13.Effects)), (92, (aN .i64 (r13.Effects.length : Int))), (93, (aN .i64 v16))], [(0, (oD 31 (encMachOp x1))), (1, (oC 85 [aNil, aNil, (aT false), (aT false), (aT false), (aT false), (aT false)])), (2, (oR 57 1 (eN .u64) v17)), (3, (oR 57 1 (eN .u64) v18)), (4, (oC 85 [(.row 2), (.row 3), (aT v19), (aT v20), (aT v21), (aT v22), (aT v23)])), (5, (oM Value.string (dN .i64) v24))]⟩) (Ent.trans (fz (d := 9) z z (fun _ => z)) (en [(0, 0), (1, 1), (2, 2), (3, 3), (4, 4), (5, 5)] (wd z (ws z z z (ws z z z (ws z z z (ws z z z (wd z (wd z (wd z (wd z w0))))))))) z (hc z (hs z z z (hr z (hr z (hs z z z (hs z rmm omm h0)))))))) <| ?_
      intro n4 v15 v16 v17 v18 v19 v20 v21 v22 v23 v24 H
      rw [core_Core_Touch_b4] at H
      refine sgr z <| l (p_lss z z) z <| ne <| wc_seq <| ?_
      rcases cn H with ⟨b25, H⟩ | ⟨b25, H⟩
      · refine c_t z b25 ?_
        refine se <| ?_
        refine w_jn8 H (fun v26 v27 v28 v29 v30 v31 v32 v33 => ⟨[(0, (aP ((enccore_Core x0).drop 0))), (3, (.ptr 0 0)), (4, (.ptr 1 0)), (5, (.ptr 4 0)), (6, (.mp 5)), (9, (aL 1 eS v15)), (91, (aL 21 encMachEffect r13.Effects)), (92, (aN .i64 (r13.Effects.length : Int))), (93, (aN .i64 v16))], [(0, (oD 31 (encMachOp x1))), (1, (oC 85 [aNil, aNil, (aT false), (aT false), (aT false), (aT false), (aT false)])), (2, (oR 57 1 (eN .u64) v26)), (3, (oR 57 1 (eN .u64) v27)), (4, (oC 85 [(.row 2), (.row 3), (aT v28), (aT v29), (aT v30), (aT v31), (aT v32)])), (5, (oM Value.string (dN .i64) v33))]⟩) ?_ ?_
        · intro v26 v27 v28 v29 v30 v31 v32 v33 H
          rw [core_Core_Touch_k5] at H
          refine wc_region z <| l (p_add z z) z <| lm z z <| ne <| ?_
          exact ⟨v15, w64 (v16 + 1), v26, v27, v28, v29, v30, v31, v32, v33, H, en [(0, 0), (1, 1), (2, 2), (3, 3), (4, 4), (5, 5)] (wd z (ws z z z (ws z z z (ws z z z (ws z z z (wd z (wd z (wd z (wd z w0))))))))) z (hc z (hs z z z (hr z (hr z (hs z z z (hs z rmm omm h0))))))⟩
        intro H
        refine wc_block <| sgr z <| ?_
        obtain ⟨r34, e35, H⟩ := ob H
        refine l (p_ixL Tryz.underlying59 ty_118.size z z e35) z <| l (p_ldA (ds := encMachEffect r34) ty_118 z z z) z <| lh (p_al 15 zr_118 z) z <| l0h (p_stA (ds := (encMachEffect r34).map .data) ty_118 z z z z z z) <| ne <| ?_
        refine w_jn6 H (fun v36 v37 v38 v39 v40 v41 => ⟨[(0, (aP ((enccore_Core x0).drop 0))), (3, (.ptr 0 0)), (4, (.ptr 1 0)), (5, (.ptr 4 0)), (6, (.mp 5)), (9, (aL 1 eS v15)), (13, (.ptr 15 0)), (91, (aL 21 encMachEffect r13.Effects)), (92, (aN .i64 (r13.Effects.length : Int))), (93, (aN .i64 v16))], [(0, (oD 31 (encMachOp x1))), (1, (oC 85 [aNil, aNil, (aT false), (aT false), (aT false), (aT false), (aT false)])), (2, (oR 57 1 (eN .u64) v17)), (3, (oR 57 1 (eN .u64) v36)), (4, (oC 85 [(.row 2), (.row 3), (aT v37), (aT v38), (aT v39), (aT v40), (aT v41)])), (5, (oM Value.string (dN .i64) v24)), (15, (oD 118 (encMachEffect r34)))]⟩) ?_ ?_
        · intro v36 v37 v38 v39 v40 v41 H
          rw [core_Core_Touch_k6] at H
          refine sgr z <| l (p_fd fld_118_3 z) z <| l (p_ldB (ds := (encTermX r34.Addr).map .data) ty_114 z z z z) z <| l (p_fd fld_118_4 z) z <| l (p_ldB (ds := (encTermX r34.Value).map .data) ty_114 z z z z) z <| l (p_fd fld_118_5 z) z <| l (p_ldB (ds := (encTermX r34.Cond).map .data) ty_114 z z z z) z <| l (p_bs (f := encTerm) [.tmp 130, .tmp 132, .tmp 134] [r34.Addr, r34.Value, r34.Cond] Tryz.underlying112 ty_114.size zr_114 z z z z (el1X (encTerm_X _) (.agg _) z (el1X (encTerm_X _) (.agg _) z (el1X (encTerm_X _) (.agg _) z el0))) z) z <| l (p_lenL Tryz.underlying112 z) z <| lm z z <| ne <| wc_block <| w_lp9 H (fun v42 v43 v44 v45 v46 v47 v48 v49 v50 => ⟨[(0, (aP ((enccore_Core x0).drop 0))), (3, (.ptr 0 0)), (4, (.ptr 1 0)), (5, (.ptr 4 0)), (6, (.mp 5)), (9, (aL 1 eS v15)), (91, (aL 21 encMachEffect r13.Effects)), (92, (aN .i64 (r13.Effects.length : Int))), (93, (aN .i64 v16)), (135, (aL 6 encTerm [r34.Addr, r34.Value, r34.Cond])), (136, (aN .i64 ([r34.Addr, r34.Value, r34.Cond].length : Int))), (137, (aN .i64 v42))], [(0, (oD 31 (encMachOp x1))), (1, (oC 85 [aNil, aNil, (aT false), (aT false), (aT false), (aT false), (aT false)])), (2, (oR 57 1 (eN .u64) v43)), (3, (oR 57 1 (eN .u64) v44)), (4, (oC 85 [(.row 2), (.row 3), (aT v45), (aT v46), (aT v47), (aT v48), (aT v49)])), (5, (oM Value.string (dN .i64) v50))]⟩) (en [(0, 0), (1, 1), (2, 2), (3, 3), (4, 4), (5, 5)] (wd z (ws z z z (ws z z z (ws z z z (ws z z z (wd z (wd z (wd z (wd z (wd z (wd z (wd z w0)))))))))))) z (hc z (hs z z z (hr z (hr z (hs z z z (hs z rmm omm h0))))))) <| ?_
          intro n7 v42 v43 v44 v45 v46 v47 v48 v49 v50 H
          rw [core_Core_Touch_b7] at H
          refine sgr z <| l (p_lss z z) z <| ne <| wc_seq <| ?_
          rcases cn H with ⟨b51, H⟩ | ⟨b51, H⟩
          · refine c_t z b51 ?_
            refine se <| wc_seq <| wc_block <| sgr z <| ?_
            obtain ⟨r52, e53, H⟩ := ob H
            refine l (p_ixX (encTerm_X _) Tryz.underlying112 ty_114.size z z e53) z <| l (p_ldA (ds := encTermX r52) ty_114 z z z) z <| lh (p_al 18 zr_114 z) z <| l0h (p_stA (ds := (encTermX r52).map .data) ty_114 z z z z z z) <| ne <| wc_region z <| lm z z <| l (p_ldB (ds := (encTermX r52).map .data) ty_114 z z z z) z <| lm z z <| lm z z <| ?_
            obtain ⟨r54, e55, H⟩ := ob H
            refine lh (p_ch (ids := [5, 4, 2, 3]) (core_Core_reads_ok e55) ent_74 z z (rc z rmm (rc z z (rc z rm (rc z rm rn)))) (rc z rmm (rc z z (rc z rm (rc z rm rn)))) z ⟨z, ⟨z, ⟨z, ⟨z, q⟩⟩⟩⟩ (by decide) z z z (oc omm (oc z (oc om (oc om on)))) (oc omm (oc z (oc om (oc om on)))) z) z <| wl_nil <| ?_
            refine e_bn (e_n ?_)
            refine wc_region z <| l (p_add z z) z <| lm z z <| ne <| ?_
            exact ⟨w64 (v42 + 1), r54.2.2.2.2.2.2.1, r54.2.2.2.2.2.2.2, r54.2.1, r54.2.2.1, r54.2.2.2.1, r54.2.2.2.2.1, r54.2.2.2.2.2.1, r54.1, H, en [(0, 0), (1, 1), (2, 2), (3, 3), (4, 4), (5, 5)] (wd z (ws z z z (ws z z z (ws z z z (ws z z z (wd z (wd z (wd z (wd z (wd z (wd z (wd z w0)))))))))))) z (hc z (hs z z z (hr z (hr z (hs z z z (hs z rmm omm h0))))))⟩
          refine c_f z b51 <| wc_exit <| ?_
          refine e_te (e_te (e_h (e_bn (e_n ?_))))
          exact ⟨v43, v44, v45, v46, v47, v48, v49, v50, H, en [(0, 0), (1, 1), (2, 2), (3, 3), (4, 4), (5, 5)] (wd z (ws z z z (ws z z z (ws z z z (ws z z z (wd z (wd z (wd z (wd z w0))))))))) z (hc z (hs z z z (hr z (hr z (hs z z z (hs z rmm omm h0))))))⟩
        intro H
        refine sgr z <| l (p_fd fld_118_0 z) z <| l (p_ld ty_5 z z z) z <| ne <| wc_block <| sgr z <| l (p_eql z z) z <| la z z <| ne <| ?_
        rcases cn H with ⟨b56, H⟩ | ⟨b56, H⟩
        · refine c_t z b56 ?_
          refine wc_seq <| wc_draw [0, 1, 3, 7, 0, 0, 48, 127, 255, 0, 1023] mixed z <| dm z z <| dr (p_nlP z) z <| dr (p_fdP fld_89_2 z) z <| dr (p_ldP ty_87 z z) z <| dr (p_ldB (ds := (encMachEffect r34).map .data) ty_118 z z z z) z <| dr (p_ldB (ds := (encMachOp x1).map .data) ty_31 z z z z) z <| ?_
          obtain ⟨r57, e58, H⟩ := ob H
          refine dr (p_c (core_Target_ok e58) ent_72 z z z) z <| ?_
          obtain ⟨r59, e60, H⟩ := ob H
          refine dr (p_ixL Tryz.underlying87 ty_129.size z z e60) z <| dr (p_ldA (ds := enccore_Place r59) ty_129 z z z) z <| drh (p_al 16 zr_129 z) z <| dr0h (p_stA (ds := (enccore_Place r59).map .data) ty_129 z z z z z z) <| ?_
          refine wd_nil ?_ (by kernel_rfl)
          refine e_n <| wc_draw [0, 1, 0, 4, 15, 31, 0, 64, 255, 511, 1023] mixed z <| dr (p_fd fld_85_1 z) z <| dr (p_ld ty_83 z z z) z <| dr (p_fd fld_129_0 z) z <| dr (p_ld ty_3 z z z) z <| ?_
          obtain ⟨r61, e62, H⟩ := ob H
          refine dr (p_ixR Tryz.underlying83 ty_57.size z z z e62) z <| dr (p_ldR (n := r59.Root) (j := 0) (sz := 1) (k := 3) (r := r61) (f := (eN .u64)) (fun _ => z) ty_57 z z e62 z) z <| dr (p_ldB (ds := (enccore_Place r59).map .data) ty_129 z z z z) z <| ?_
          obtain ⟨r63, e64, H⟩ := ob H
          refine dr (p_c (core_Place_Mask_ok e64) ent_73 z z z) z <| dr (p_or z z) z <| ?_
          obtain ⟨r65, e66, H⟩ := ob H
          refine dr (p_ixR Tryz.underlying83 ty_57.size z z z e66) z <| dr0h (p_stR (sz := 1) (n := r59.Root) (j := 0) (r := r65) (f := (eN .u64)) (ds := [.lit (.int .u64 (bOr .u64 r61 r63))]) (r' := bOr .u64 r61 r63) (fun _ => z) ty_57 (.inr z) z z z e66 q z z z z) <| ?_
          refine wd_nil ?_ (by kernel_rfl)
          refine e_bn (e_n ?_)
          exact ⟨v18.set r59.Root.toNat (bOr .u64 r61 r63), v19, v20, v21, v22, v23, H, en [(0, 0), (1, 1), (2, 2), (3, 3), (4, 4), (5, 5), (15, 15)] (wd z (ws z z z (ws z z z (ws z z z (ws z z z (wd z (ws z z z (wd z (wd z (wd z w0)))))))))) z (hc z (hs z z z (hr z (hr z (hs z z z (hs z rmm omm (hc z h0)))))))⟩
        refine c_f z b56 <| sgr z <| l (p_eql z z) z <| la z z <| ne <| ?_
        rcases cn H with ⟨b67, H⟩ | ⟨b67, H⟩
        · refine c_t z b67 ?_
          refine wc_region z <| l (p_fd fld_85_3 z) z <| l0h (p_st ty_4 z z z q z z) <| wl_nil <| ?_
          refine e_bn (e_n ?_)
          exact ⟨v18, v19, true, v21, v22, v23, H, en [(0, 0), (1, 1), (2, 2), (3, 3), (4, 4), (5, 5), (15, 15)] (wd z (ws z z z (ws z z z (ws z z z (ws z z z (wd z (ws z z z (wd z (wd z (wd z w0)))))))))) z (hc z (hs z z z (hr z (hr z (hs z z z (hs z rmm omm (hc z h0)))))))⟩
        refine c_f z b67 <| sgr z <| l (p_eql z z) z <| la z z <| ne <| ?_
        rcases cn H with ⟨b68, H⟩ | ⟨b68, H⟩
        · refine c_t z b68 ?_
          refine wc_region z <| l (p_fd fld_85_4 z) z <| l0h (p_st ty_4 z z z q z z) <| wl_nil <| ?_
          refine e_bn (e_n ?_)
          exact ⟨v18, v19, v20, true, v22, v23, H, en [(0, 0), (1, 1), (2, 2), (3, 3), (4, 4), (5, 5), (15, 15)] (wd z (ws z z z (ws z z z (ws z z z (ws z z z (wd z (ws z z z (wd z (wd z (wd z w0)))))))))) z (hc z (hs z z z (hr z (hr z (hs z z z (hs z rmm omm (hc z h0)))))))⟩
        refine c_f z b68 <| sgr z <| l (p_eql z z) z <| la z z <| ne <| ?_
        rcases cn H with ⟨b69, H⟩ | ⟨b69, H⟩
        · refine c_t z b69 ?_
          refine wc_region z <| l (p_fd fld_85_5 z) z <| l0h (p_st ty_4 z z z q z z) <| wl_nil <| ?_
          refine e_bn (e_n ?_)
          exact ⟨v18, v19, v20, v21, true, v23, H, en [(0, 0), (1, 1), (2, 2), (3, 3), (4, 4), (5, 5), (15, 15)] (wd z (ws z z z (ws z z z (ws z z z (ws z z z (wd z (ws z z z (wd z (wd z (wd z w0)))))))))) z (hc z (hs z z z (hr z (hr z (hs z z z (hs z rmm omm (hc z h0)))))))⟩
        refine c_f z b69 <| wc_skip <| ?_
        refine e_bn (e_n ?_)
        exact ⟨v18, v19, v20, v21, v22, v23, H, en [(0, 0), (1, 1), (2, 2), (3, 3), (4, 4), (5, 5), (15, 15)] (wd z (ws z z z (ws z z z (ws z z z (ws z z z (wd z (ws z z z (wd z (wd z (wd z w0)))))))))) z (hc z (hs z z z (hr z (hr z (hs z z z (hs z rmm omm (hc z h0)))))))⟩
      refine c_f z b25 <| wc_exit <| ?_
      refine e_te (e_te (e_h (e_n ?_)))
      exact ⟨v17, v18, v19, v20, v21, v22, v23, H, en [(1, 1), (2, 2), (3, 3), (4, 4)] (ws z z z (ws z z z w0)) z (hs z z z (hr z (hr z (hs z z z h0))))⟩
    intro H
    refine wc_seq <| wc_draw [0, 1, 3, 7, 15, 0, 32, 127, 255, 511, 1023, 0] mixed z <| dm z z <| dr (p_nlP z) z <| dr (p_fdP fld_89_0 z) z <| dr (p_fdP fld_27_6 z) z <| dr (p_ldP ty_25 z z) z <| dr (p_fd fld_31_0 z) z <| dr (p_ld ty_3 z z z) z <| ?_
    obtain ⟨r70, e71, H⟩ := ob H
    refine dr (p_ixL Tryz.underlying25 ty_61.size z z e71) z <| dr (p_fdP fld_61_3 z) z <| dr (p_ldP ty_58 z z) z <| dr (p_lenL Tryz.underlying58 z) z <| dm z z <| ?_
    refine wd_nil ?_ (by kernel_rfl)
    refine e_n <| wc_block <| w_lp3 H (fun v72 v73 v74 => ⟨[(0, (aP ((enccore_Core x0).drop 0))), (3, (.ptr 0 0)), (4, (.ptr 1 0)), (5, (.ptr 4 0)), (6, (.mp 5)), (9, (.row 11)), (55, (aL 6 encMachOperand r70.Operands)), (56, (aN .i64 (r70.Operands.length : Int))), (57, (aN .i64 v72))], [(0, (oD 31 (encMachOp x1))), (1, (oC 85 [aNil, aNil, (aT false), (aT false), (aT false), (aT false), (aT false)])), (2, (oR 57 1 (eN .u64) (List.replicate x0.Roots.toNat 0))), (3, (oR 57 1 (eN .u64) (List.replicate x0.Roots.toNat 0))), (4, (oC 85 [(.row 2), (.row 3), (aT false), (aT false), (aT false), (aT false), (aT false)])), (5, (oM Value.string (dN .i64) v73)), (11, (oR 9 1 eS v74))]⟩) (Ent.trans (nr (d := 9) (f := eS) (sz := 1) (e := 9) 7 z z z) (en [(0, 0), (1, 1), (2, 2), (3, 3), (4, 4), (5, 5), (7, 11)] (wd z (ws z z z (ws z z z (ws z z z (ws z z z (ws z z z (wd z (wd z (wd z w0))))))))) z (hc z (hs z z z (hr z (hr z (hs z z z (hs z rmm omm (hr z h0))))))))) <| ?_
    intro n8 v72 v73 v74 H
    rw [core_Core_Touch_b8] at H
    refine sgr z <| l (p_lss z z) z <| ne <| wc_seq <| ?_
    rcases cn H with ⟨b75, H⟩ | ⟨b75, H⟩
    · refine c_t z b75 ?_
      refine se <| ?_
      refine w_jn2 H (fun v76 v77 => ⟨[(0, (aP ((enccore_Core x0).drop 0))), (3, (.ptr 0 0)), (4, (.ptr 1 0)), (5, (.ptr 4 0)), (6, (.mp 5)), (9, (.row 11)), (55, (aL 6 encMachOperand r70.Operands)), (56, (aN .i64 (r70.Operands.length : Int))), (57, (aN .i64 v72))], [(0, (oD 31 (encMachOp x1))), (1, (oC 85 [aNil, aNil, (aT false), (aT false), (aT false), (aT false), (aT false)])), (2, (oR 57 1 (eN .u64) (List.replicate x0.Roots.toNat 0))), (3, (oR 57 1 (eN .u64) (List.replicate x0.Roots.toNat 0))), (4, (oC 85 [(.row 2), (.row 3), (aT false), (aT false), (aT false), (aT false), (aT false)])), (5, (oM Value.string (dN .i64) v76)), (11, (oR 9 1 eS v77))]⟩) ?_ ?_
      · intro v76 v77 H
        rw [core_Core_Touch_k9] at H
        refine wc_region z <| l (p_add z z) z <| lm z z <| ne <| ?_
        exact ⟨w64 (v72 + 1), v76, v77, H, en [(0, 0), (1, 1), (2, 2), (3, 3), (4, 4), (5, 5), (11, 11)] (wd z (ws z z z (ws z z z (ws z z z (ws z z z (ws z z z (wd z (wd z (wd z w0))))))))) z (hc z (hs z z z (hr z (hr z (hs z z z (hs z rmm omm (hr z h0)))))))⟩
      intro H
      refine wc_block <| sgr z <| lm z z <| ?_
      obtain ⟨r78, e79, H⟩ := ob H
      refine l (p_ixL Tryz.underlying58 ty_107.size z z e79) z <| l (p_ldA (ds := encMachOperand r78) ty_107 z z z) z <| lh (p_al 12 zr_107 z) z <| la z z <| l0h (p_stA (ds := (encMachOperand r78).map .data) ty_107 z z z z z z) <| ne <| sgr z <| l (p_fd fld_107_1 z) z <| l (p_ld ty_5 z z z) z <| ne <| wc_block <| sgr z <| l (p_eql z z) z <| la z z <| ne <| ?_
      rcases cn H with ⟨b80, H⟩ | ⟨b80, H⟩
      · refine c_t z b80 ?_
        refine wc_draw [0, 0, 2, 0, 8, 0, 56, 120, 255] mixed z <| dm z z <| dr (p_fd fld_107_0 z) z <| dr (p_ld ty_9 z z z) z <| dr (p_fd fld_31_1 z) z <| dr (p_ld ty_29 z z z) z <| dm z z <| ?_
        obtain ⟨r81, e82, H⟩ := ob H
        refine dr (p_ixL Tryz.underlying29 ty_3.size z z e82) z <| dr (p_ldP ty_3 z z) z <| dr0h (p_mu (vd := (dN .i64)) (y0 := r81) Tryz.underlying138 (keyS Tryz.underlying9) z z z z) <| ?_
        refine wd_nil ?_ (by kernel_rfl)
        refine e_bn (e_bn (e_n ?_))
        exact ⟨mSet v73 r78.Name r81, v74, H, en [(0, 0), (1, 1), (2, 2), (3, 3), (4, 4), (5, 5), (11, 11)] (wd z (ws z z z (ws z z z (ws z z z (ws z z z (ws z z z (wd z (wd z (wd z w0))))))))) z (hc z (hs z z z (hr z (hr z (hs z z z (hs z rmm omm (hr z h0)))))))⟩
      refine c_f z b80 <| sgr z <| l (p_eql z z) z <| la z z <| ne <| ?_
      rcases cn H with ⟨b83, H⟩ | ⟨b83, H⟩
      · refine c_t z b83 ?_
        refine wc_region z <| lm z z <| l (p_fd fld_107_0 z) z <| l (p_ld ty_9 z z z) z <| l (p_bs (f := eS) [.tmp 78] [r78.Name] Tryz.underlying98 ty_9.size zr_9 z z z z (el1 (.one _) z el0) z) z <| ?_
        obtain ⟨e84, H⟩ := as_ H
        refine lh (p_apA 13 Tryz.underlying98 el_9 z z z z e84) z <| la z z <| wl_nil <| ?_
        refine e_bn (e_bn (e_n ?_))
        exact ⟨v73, v74 ++ [r78.Name], H, en [(0, 0), (1, 1), (2, 2), (3, 3), (4, 4), (5, 5), (13, 11)] (wd z (ws z z z (ws z z z (ws z z z (ws z z z (ws z z z (wd z (wd z (wd z w0))))))))) z (hc z (hs z z z (hr z (hr z (hs z z z (hs z rmm omm (hr z h0)))))))⟩
      refine c_f z b83 <| wc_skip <| ?_
      refine e_bn (e_bn (e_n ?_))
      exact ⟨v73, v74, H, en [(0, 0), (1, 1), (2, 2), (3, 3), (4, 4), (5, 5), (11, 11)] (wd z (ws z z z (ws z z z (ws z z z (ws z z z (ws z z z (wd z (wd z (wd z w0))))))))) z (hc z (hs z z z (hr z (hr z (hs z z z (hs z rmm omm (hr z h0)))))))⟩
    refine c_f z b75 <| wc_exit <| ?_
    refine e_te (e_te (e_h (e_n ?_)))
    exact ⟨v73, v74, H, en [(0, 0), (1, 1), (2, 2), (3, 3), (4, 4), (5, 5), (11, 11)] (wd z (ws z z z (ws z z z (ws z z z (ws z z z (ws z z z w0)))))) z (hc z (hs z z z (hr z (hr z (hs z z z (hs z rmm omm (hr z h0)))))))⟩
  intro H
  refine sgr z <| lm z z <| l (p_nlP z) z <| l (p_fdP fld_89_0 z) z <| l (p_fdP fld_27_3 z) z <| l (p_ldP ty_22 z z) z <| l (p_lenL Tryz.underlying22 z) z <| lm z z <| ne <| wc_block <| w_lp2 H (fun v85 v86 => ⟨[(0, (aP ((enccore_Core x0).drop 0))), (3, (.ptr 0 0)), (4, (.ptr 1 0)), (5, (.ptr 4 0)), (6, (.mp 5)), (33, (aL 4 encMachReg x0.Machine.Regs)), (34, (aN .i64 (x0.Machine.Regs.length : Int))), (35, (aN .i64 v85))], [(0, (oD 31 (encMachOp x1))), (1, (oC 85 [aNil, aNil, (aT false), (aT false), (aT false), (aT false), (aT false)])), (2, (oR 57 1 (eN .u64) (List.replicate x0.Roots.toNat 0))), (3, (oR 57 1 (eN .u64) (List.replicate x0.Roots.toNat 0))), (4, (oC 85 [(.row 2), (.row 3), (aT false), (aT false), (aT false), (aT false), (aT false)])), (5, (oM Value.string (dN .i64) v86))]⟩) (en [(0, 0), (1, 1), (2, 2), (3, 3), (4, 4), (5, 5)] (wd z (ws z z z (ws z z z (ws z z z (ws z z z (wd z (wd z (wd z w0)))))))) z (hc z (hs z z z (hr z (hr z (hs z z z (hs z rmm omm h0))))))) <| ?_
  intro n10 v85 v86 H
  rw [core_Core_Touch_b10] at H
  refine sgr z <| l (p_lss z z) z <| ne <| wc_seq <| ?_
  rcases cn H with ⟨b87, H⟩ | ⟨b87, H⟩
  · refine c_t z b87 ?_
    refine se <| wc_seq <| wc_block <| sgr z <| lm z z <| ?_
    obtain ⟨r88, e89, H⟩ := ob H
    refine l (p_ixL Tryz.underlying22 ty_100.size z z e89) z <| l (p_ldA (ds := encMachReg r88) ty_100 z z z) z <| lh (p_al 7 zr_100 z) z <| la z z <| l0h (p_stA (ds := (encMachReg r88).map .data) ty_100 z z z z z z) <| ne <| wc_region z <| lm z z <| l (p_fd fld_100_0 z) z <| l (p_ld ty_9 z z z) z <| ?_
    obtain ⟨e90, H⟩ := as_ H
    refine l (p_sad z z e90) z <| lm z z <| l0h (p_mu (vd := (dN .i64)) (y0 := v85) Tryz.underlying138 (keyS Tryz.underlying9) z z z z) <| wl_nil <| ?_
    refine e_bn (e_n ?_)
    refine wc_region z <| l (p_add z z) z <| lm z z <| ne <| ?_
    exact ⟨w64 (v85 + 1), mSet v86 ((⟨#[114, 46]⟩ : ByteArray) ++ r88.Name) v85, H, en [(0, 0), (1, 1), (2, 2), (3, 3), (4, 4), (5, 5)] (wd z (ws z z z (ws z z z (ws z z z (ws z z z (wd z (wd z (wd z w0)))))))) z (hc z (hs z z z (hr z (hr z (hs z z z (hs z rmm omm h0))))))⟩
  refine c_f z b87 <| wc_exit <| ?_
  refine e_te (e_te (e_h (e_n ?_)))
  exact ⟨v86, H, en [(0, 0), (1, 1), (2, 2), (3, 3), (4, 4), (5, 5)] (wd z (ws z z z (ws z z z (ws z z z (ws z z z w0))))) z (hc z (hs z z z (hr z (hr z (hs z z z (hs z rmm omm h0))))))⟩

def slices_Clone_int_int (x0 : List Int) : Option (List Int) :=
  asr (roomy (([] : List Int).length + x0.length) 8) <|
  some (([] : List Int) ++ x0)
theorem slices_Clone_int_int_ok {x0 : List Int} {R : (List Int)} (H : slices_Clone_int_int x0 = some R) : FnOk Tryz.prog K0 93 [(aL 1 (eN .i64) x0)] [(0, .fresh)] (.row 0) [(0, (oR 3 1 (eN .i64) R))] := by
  refine fn_w (nt := 8) (np := 0) Tryz.func93 z z (by simp) (np_of2 z) <| ?_
  unfold slices_Clone_int_int at H
  refine sgr z <| la z z <| ne <| wc_seq <| sgr z <| lm z z <| l (p_nq Tryz.underlying29 z z) z <| ne <| ?_
  refine c_any z (fun hm => ?_) ?_
  · subst hm
    obtain ⟨_, H⟩ := as_ H
    refine sgr z <| la z z <| ne <| wc_ent (nr (d := 2) (f := (eN .i64)) (sz := 1) (e := 3) 1 z z z) <| wc_ret <| e_tr <| ?_
    obtain rfl := sm H
    exact fin (Or.inr z) (rs1 (rv z) rs0) (re [(1, 0)] (.same z z) z (hr z h0))
  refine se <| sgr z <| lh (p_bsO (f := (eN .i64)) 1 [] ([] : List Int) Tryz.underlying29 ty_3.size zr_3 z z z z cs0 z z z z) z <| lm z z <| ?_
  obtain ⟨e1, H⟩ := as_ H
  refine lh (p_apA 2 Tryz.underlying29 el_3 z z z z e1) z <| la z z <| ne <| wc_ret <| ?_
  obtain rfl := sm H
  exact fin (Or.inr z) (rs1 (rv z) rs0) (re [(2, 0)] (.same z z) z (hr z h0))

def core_TwinPipe_k1 (x0 : Pipe) (r1 : (List Int)) : (List (List Int)) → Option (Int × Bool × (List (List Int)) × (List Int) × Int)
  | v3 =>
    some (x0.At, x0.Jumps, v3, r1, x0.Mem)
def core_TwinPipe_b2 (x0 : Pipe) (k1 : (List (List Int)) → Option (Int × Bool × (List (List Int)) × (List Int) × Int)) (rec2 : Int × (List (List Int)) → Option (Int × Bool × (List (List Int)) × (List Int) × Int)) : Int × (List (List Int)) → Option (Int × Bool × (List (List Int)) × (List Int) × Int)
  | (v4, v5) =>
    bif decide (v4 < (x0.Units.length : Int)) then
      (ix x0.Units v4).bind fun r7 =>
      (slices_Clone_int_int r7).bind fun r9 =>
      asr (roomy (v5.length + 1) 24) <|
      rec2 ((w64 (v4 + 1), v5 ++ [r9]))
    else
      k1 v5
def core_TwinPipe (x0 : Pipe) : Option (Int × Bool × (List (List Int)) × (List Int) × Int) :=
  (slices_Clone_int_int x0.Regs).bind fun r1 =>
  jn (core_TwinPipe_k1 x0 r1) fun k1 =>
  lp (core_TwinPipe_b2 x0 k1) (x0.Units.length + 1) ((0, ([] : List (List Int))))
theorem core_TwinPipe_ok {x0 : Pipe} {R : Int × Bool × (List (List Int)) × (List Int) × Int} (H : core_TwinPipe x0 = some R) : FnOk Tryz.prog K0 67 [(aA (encPipe x0))] [(0, .fresh), (1, .fresh)] (.agg [(aN .i64 R.1), (aT R.2.1), (.row 0), (.row 1), (aN .i64 R.2.2.2.2)]) [(0, (oT 29 1 (tL 3 1 (eN .i64)) R.2.2.1)), (1, (oR 3 1 (eN .i64) R.2.2.2.1))] := by
  refine fn_w (nt := 26) (np := 0) Tryz.func67 z z (by simp) (np_of2 z) <| ?_
  unfold core_TwinPipe at H
  refine sgr z <| lh (p_bx 2 z q z) z <| lh (p_al 3 zr_34 z) z <| ne <| sgr z <| l (p_fd fld_34_3 z) z <| l (p_ld ty_29 z z z) z <| ?_
  obtain ⟨r1, e2, H⟩ := ob H
  refine lh (p_ch (ids := [4]) (slices_Clone_int_int_ok e2) ent_93 z z (rc z z rn) (rc z rm rn) z ⟨z, q⟩ (by decide) z z z (oc z on) (oc om on) z) z <| l (p_fd fld_34_3 z) z <| l0h (p_st ty_29 z z z q z z) <| ne <| sgr z <| la z z <| ne <| ?_
  refine w_jn1 H (fun v3 => ⟨[(1, (.ptr 2 0)), (2, (.ptr 3 0)), (3, (.row 9))], [(2, (oC 34 [(aN .i64 x0.At), (aT x0.Jumps), (aL 1 (eL 1 (eN .i64)) x0.Units), (.row 4), (aN .i64 x0.Mem)])), (3, (oC 34 [(aN .i64 0), (aT false), aNil, aNil, (aN .i64 0)])), (4, (oR 3 1 (eN .i64) r1)), (9, (oT 29 1 (tL 3 1 (eN .i64)) v3))]⟩) ?_ ?_
  · intro v3 H
    rw [core_TwinPipe_k1] at H
    refine sgr z <| lm z z <| l (p_fd fld_34_2 z) z <| l0h (p_st ty_32 z z z q z z) <| ne <| sgr z <| l (p_ldB (ds := [(aN .i64 x0.At), (aT x0.Jumps), (.row 9), (.row 4), (aN .i64 x0.Mem)]) ty_34 z z z z) z <| l0h (p_stA (ds := [(aN .i64 x0.At), (aT x0.Jumps), (.row 9), (.row 4), (aN .i64 x0.Mem)]) ty_34 z z z z z z) <| ne <| wc_ret <| ?_
    obtain rfl := sm H
    exact fin (Or.inr z) (rs1 (rva (ds := [(aN .i64 x0.At), (aT x0.Jumps), (.row 9), (.row 4), (aN .i64 x0.Mem)]) ty_34 z z z z) rs0) (re [(9, 0), (4, 1)] (.same z z) z (ht (Tame.flat tmL _) z (hr z h0)))
  intro H
  refine sgr z <| l (p_fd fld_34_2 z) z <| l (p_ld ty_32 z z z) z <| l (p_lenL Tryz.underlying32 z) z <| lm z z <| ne <| wc_block <| w_lp2 H (fun v4 v5 => ⟨[(1, (.ptr 2 0)), (2, (.ptr 3 0)), (3, (.row 9)), (11, (aL 1 (eL 1 (eN .i64)) x0.Units)), (12, (aN .i64 (x0.Units.length : Int))), (13, (aN .i64 v4))], [(2, (oC 34 [(aN .i64 x0.At), (aT x0.Jumps), (aL 1 (eL 1 (eN .i64)) x0.Units), (.row 4), (aN .i64 x0.Mem)])), (3, (oC 34 [(aN .i64 0), (aT false), aNil, aNil, (aN .i64 0)])), (4, (oR 3 1 (eN .i64) r1)), (9, (oT 29 1 (tL 3 1 (eN .i64)) v5))]⟩) (Ent.trans (nrt (d := 3) (f := (tL 3 1 (eN .i64))) (sz := 1) (e := 29) 5 z z) (en [(2, 2), (3, 3), (4, 4), (5, 9)] (ws z z z (ws z z z (ws z z z (wd z (wd z (wd z w0)))))) z (hs z z z (hs z z z (hr z (ht (Tame.flat tmL _) z h0)))))) <| ?_
  intro n2 v4 v5 H
  rw [core_TwinPipe_b2] at H
  refine sgr z <| l (p_lss z z) z <| ne <| wc_seq <| ?_
  rcases cn H with ⟨b6, H⟩ | ⟨b6, H⟩
  · refine c_t z b6 ?_
    refine se <| wc_seq <| wc_block <| sgr z <| ?_
    obtain ⟨r7, e8, H⟩ := ob H
    refine l (p_ixL Tryz.underlying32 ty_29.size z z e8) z <| l (p_ldP ty_29 z z) z <| la z z <| ne <| wc_region z <| lm z z <| lm z z <| ?_
    obtain ⟨r9, e10, H⟩ := ob H
    refine lh (p_ch (ids := [10]) (slices_Clone_int_int_ok e10) ent_93 z z (rc z z rn) (rc z rm rn) z ⟨z, q⟩ (by decide) z z z (oc z on) (oc om on) z) z <| lh (p_bsW (cs := [(.row 10)]) 11 [.tmp 19] Tryz.underlying32 ty_29.size zr_29 z z z z (cs1 q z cs0) z z z) z <| ?_
    obtain ⟨e11, H⟩ := as_ H
    refine lh (p_apT 12 Tryz.underlying32 el_29 z z z z z z z e11) z <| la z z <| wl_nil <| ?_
    refine e_bn (e_n ?_)
    refine wc_region z <| l (p_add z z) z <| lm z z <| ne <| ?_
    exact ⟨w64 (v4 + 1), v5 ++ [r9], H, Ent.trans (absb (k := 12) 10 0 z z z .row z) (Ent.trans (cla (k := 12) (r' := r9) z z) (en [(2, 2), (3, 3), (4, 4), (12, 9)] (ws z z z (ws z z z (ws z z z (wd z (wd z (wd z w0)))))) z (hs z z z (hs z z z (hr z (ht (Tame.flat tmL _) z h0))))))⟩
  refine c_f z b6 <| wc_exit <| ?_
  refine e_te (e_te (e_h (e_n ?_)))
  exact ⟨v5, H, en [(2, 2), (3, 3), (4, 4), (9, 9)] (ws z z z (ws z z z (ws z z z w0))) z (hs z z z (hs z z z (hr z (ht (Tame.flat tmL _) z h0))))⟩

def math_bits_Len64_k3 : Int × Int → Option Int
  | (v5, v6) =>
    (sIx (⟨#[0, 1, 2, 2, 3, 3, 3, 3, 4, 4, 4, 4, 4, 4, 4, 4, 5, 5, 5, 5, 5, 5, 5, 5, 5, 5, 5, 5, 5, 5, 5, 5, 6, 6, 6, 6, 6, 6, 6, 6, 6, 6, 6, 6, 6, 6, 6, 6, 6, 6, 6, 6, 6, 6, 6, 6, 6, 6, 6, 6, 6, 6, 6, 6, 7, 7, 7, 7, 7, 7, 7, 7, 7, 7, 7, 7, 7, 7, 7, 7, 7, 7, 7, 7, 7, 7, 7, 7, 7, 7, 7, 7, 7, 7, 7, 7, 7, 7, 7, 7, 7, 7, 7, 7, 7, 7, 7, 7, 7, 7, 7, 7, 7, 7, 7, 7, 7, 7, 7, 7, 7, 7, 7, 7, 7, 7, 7, 7, 8, 8, 8, 8, 8, 8, 8, 8, 8, 8, 8, 8, 8, 8, 8, 8, 8, 8, 8, 8, 8, 8, 8, 8, 8, 8, 8, 8, 8, 8, 8, 8, 8, 8, 8, 8, 8, 8, 8, 8, 8, 8, 8, 8, 8, 8, 8, 8, 8, 8, 8, 8, 8, 8, 8, 8, 8, 8, 8, 8, 8, 8, 8, 8, 8, 8, 8, 8, 8, 8, 8, 8, 8, 8, 8, 8, 8, 8, 8, 8, 8, 8, 8, 8, 8, 8, 8, 8, 8, 8, 8, 8, 8, 8, 8, 8, 8, 8, 8, 8, 8, 8, 8, 8, 8, 8, 8, 8, 8, 8, 8, 8, 8, 8, 8, 8, 8, 8, 8, 8, 8, 8, 8, 8, 8, 8, 8, 8]⟩ : ByteArray) (IntKind.wrap .u8 v5)).bind fun r7 =>
    some (w64 (v6 + (w64 r7)))
def math_bits_Len64_k2 : Int × Int → Option Int
  | (v3, v4) =>
    jn math_bits_Len64_k3 fun k3 =>
    bif decide (256 ≤ v3) then k3 ((sShr .u64 v3 8, w64 (v4 + 8))) else k3 (v3, v4)
def math_bits_Len64_k1 : Int × Int → Option Int
  | (v1, v2) =>
    jn math_bits_Len64_k2 fun k2 =>
    bif decide (65536 ≤ v1) then k2 ((sShr .u64 v1 16, w64 (v2 + 16))) else k2 (v1, v2)
def math_bits_Len64 (x0 : Int) : Option Int :=
  jn math_bits_Len64_k1 fun k1 =>
  bif decide (4294967296 ≤ x0) then k1 (sShr .u64 x0 32, 32) else k1 (x0, 0)
theorem math_bits_Len64_ok {x0 : Int} {R : Int} (H : math_bits_Len64 x0 = some R) : FnOk Tryz.prog K0 116 [(aN .u64 x0)] [] (aN .i64 R) [] := by
  refine fn_w (nt := 25) (np := 0) Tryz.func116 z z (by simp) (np_of2 z) <| ?_
  unfold math_bits_Len64 at H
  refine sgr z <| la z z <| ne <| ?_
  refine w_jn2 H (fun v1 v2 => ⟨[(0, (aN .u64 v1)), (2, (aN .i64 v2))], []⟩) ?_ ?_
  · intro v1 v2 H
    rw [math_bits_Len64_k1] at H
    refine w_jn2 H (fun v3 v4 => ⟨[(0, (aN .u64 v3)), (2, (aN .i64 v4))], []⟩) ?_ ?_
    · intro v3 v4 H
      rw [math_bits_Len64_k2] at H
      refine w_jn2 H (fun v5 v6 => ⟨[(0, (aN .u64 v5)), (2, (aN .i64 v6))], []⟩) ?_ ?_
      · intro v5 v6 H
        rw [math_bits_Len64_k3] at H
        refine sgr z <| lm z z <| lm z z <| l (p_cv Tryz.underlying57 Tryz.underlying5 z) z <| ?_
        obtain ⟨r7, e8, H⟩ := ob H
        refine l (p_ixS Tryz.underlying9 z z e8) z <| l (p_cv Tryz.underlying5 Tryz.underlying3 z) z <| l (p_add z z) z <| la z z <| ne <| wc_ret <| ?_
        obtain rfl := sm H
        exact fin (Or.inr z) (rs1 (rv z) rs0) (re [] (.dat) z h0)
      intro H
      refine sgr z <| lm z z <| l (p_geq z z) z <| ne <| ?_
      rcases cn H with ⟨b9, H⟩ | ⟨b9, H⟩
      · refine c_t z b9 ?_
        refine sgr z <| lm z z <| l (p_shr z z z) z <| la z z <| ne <| wc_region z <| lm z z <| l (p_add z z) z <| la z z <| ne <| ?_
        exact ⟨sShr .u64 v3 8, w64 (v4 + 8), H, en [] (wd z (wd z w0)) z h0⟩
      refine c_f z b9 <| se <| ?_
      exact ⟨v3, v4, H, en [] (wd z (wd z w0)) z h0⟩
    intro H
    refine sgr z <| lm z z <| l (p_geq z z) z <| ne <| ?_
    rcases cn H with ⟨b10, H⟩ | ⟨b10, H⟩
    · refine c_t z b10 ?_
      refine sgr z <| lm z z <| l (p_shr z z z) z <| la z z <| ne <| wc_region z <| lm z z <| l (p_add z z) z <| la z z <| ne <| ?_
      exact ⟨sShr .u64 v1 16, w64 (v2 + 16), H, en [] (wd z (wd z w0)) z h0⟩
    refine c_f z b10 <| se <| ?_
    exact ⟨v1, v2, H, en [] (wd z (wd z w0)) z h0⟩
  intro H
  refine sgr z <| lm z z <| l (p_geq z z) z <| ne <| ?_
  rcases cn H with ⟨b11, H⟩ | ⟨b11, H⟩
  · refine c_t z b11 ?_
    refine sgr z <| lm z z <| l (p_shr z z z) z <| la z z <| ne <| wc_region z <| la z z <| ne <| ?_
    exact ⟨sShr .u64 x0 32, 32, H, en [] (wd z (wd z w0)) z h0⟩
  refine c_f z b11 <| se <| ?_
  exact ⟨x0, 0, H, en [] (wd z (wd z w0)) z h0⟩

def math_bits_Len (x0 : Int) : Option Int :=
  (math_bits_Len64 x0).bind fun r1 =>
  some r1
theorem math_bits_Len_ok {x0 : Int} {R : Int} (H : math_bits_Len x0 = some R) : FnOk Tryz.prog K0 95 [(aN .u64 x0)] [] (aN .i64 R) [] := by
  refine fn_w (nt := 8) (np := 0) Tryz.func95 z z (by simp) (np_of2 z) <| ?_
  unfold math_bits_Len at H
  refine sgr z <| la z z <| ne <| wc_seq <| c_cf <| se <| sgr z <| lm z z <| ?_
  obtain ⟨r1, e2, H⟩ := ob H
  refine l (p_c (math_bits_Len64_ok e2) ent_116 z z z) z <| la z z <| ne <| wc_ret <| ?_
  obtain rfl := sm H
  exact fin (Or.inr z) (rs1 (rv z) rs0) (re [] (.dat) z h0)

def slices_insertionSortOrdered_int_k2 (v1 : Int) (rec1 : Int × (List Int) → Option (List Int)) : (List Int) → Option (List Int)
  | v4 =>
    rec1 ((w64 (v1 + 1), v4))
def slices_insertionSortOrdered_int_b3 (x1 : Int) (k2 : (List Int) → Option (List Int)) (rec3 : Int × (List Int) → Option (List Int)) : Int × (List Int) → Option (List Int)
  | (v5, v6) =>
    (bif (true && ((decide (x1 < v5)) == true)) then ix v6 v5 else some default).bind fun r7 =>
    (bif (true && ((decide (x1 < v5)) == true)) then ix v6 (w64 (v5 - 1)) else some default).bind fun r9 =>
    (bif (true && ((decide (x1 < v5)) == true)) then cmp_Less_int r7 r9 else some default).bind fun r11 =>
    bif (decide (x1 < v5)) && r11 then
      (ix v6 (w64 (v5 - 1))).bind fun r14 =>
      (ix v6 v5).bind fun r16 =>
      (ix v6 v5).bind fun r18 =>
      (ix (v6.set v5.toNat r14) (w64 (v5 - 1))).bind fun r20 =>
      rec3 ((w64 (v5 - 1), (v6.set v5.toNat r14).set (w64 (v5 - 1)).toNat r16))
    else
      k2 v6
def slices_insertionSortOrdered_int_b1 (x1 : Int) (x2 : Int) (rec1 : Int × (List Int) → Option (List Int)) : Int × (List Int) → Option (List Int)
  | (v1, v2) =>
    bif decide (v1 < x2) then
      jn (slices_insertionSortOrdered_int_k2 v1 rec1) fun k2 =>
      lp (slices_insertionSortOrdered_int_b3 x1 k2) ((v1 - x1).toNat + 1) (v1, v2)
    else
      some v2
def slices_insertionSortOrdered_int (x0 : List Int) (x1 : Int) (x2 : Int) : Option (List Int) :=
  lp (slices_insertionSortOrdered_int_b1 x1 x2) ((x2 - (w64 (x1 + 1))).toNat + 1) ((w64 (x1 + 1), x0))
theorem slices_insertionSortOrdered_int_ok {x0 : List Int} {x1 : Int} {x2 : Int} {R : (List Int)} (H : slices_insertionSortOrdered_int x0 x1 x2 = some R) : FnOk Tryz.prog K0 107 [(.row 0), (aN .i64 x1), (aN .i64 x2)] [(0, (oR 3 1 (eN .i64) x0))] (.tup []) [(0, (oR 3 1 (eN .i64) R))] := by
  refine fn_w (nt := 49) (np := 1) Tryz.func107 z z (by simp) (np_of2 z) <| ?_
  unfold slices_insertionSortOrdered_int at H
  refine sgr z <| lm z z <| l (p_add z z) z <| la z z <| ne <| wc_block <| w_lp2 H (fun v1 v2 => ⟨[(0, (.row 0)), (1, (aN .i64 x1)), (2, (aN .i64 x2)), (6, (aN .i64 v1))], [(0, (oR 3 1 (eN .i64) v2))]⟩) (en [(0, 0)] (ws z z z (wd z (wd z (wd z w0)))) z (hr z h0)) <| ?_
  intro n1 v1 v2 H
  rw [slices_insertionSortOrdered_int_b1] at H
  refine wc_seq <| sgr z <| lm z z <| lm z z <| l (p_lss z z) z <| ne <| ?_
  rcases cn H with ⟨b3, H⟩ | ⟨b3, H⟩
  · refine c_t z b3 ?_
    refine se <| ?_
    refine w_jn1 H (fun v4 => ⟨[(0, (.row 0)), (1, (aN .i64 x1)), (2, (aN .i64 x2)), (6, (aN .i64 v1))], [(0, (oR 3 1 (eN .i64) v4))]⟩) ?_ ?_
    · intro v4 H
      rw [slices_insertionSortOrdered_int_k2] at H
      refine wc_region z <| lm z z <| l (p_add z z) z <| la z z <| ne <| ?_
      exact ⟨w64 (v1 + 1), v4, H, en [(0, 0)] (ws z z z (wd z (wd z (wd z w0)))) z (hr z h0)⟩
    intro H
    refine wc_block <| sgr z <| lm z z <| la z z <| ne <| wc_block <| w_lp2 H (fun v5 v6 => ⟨[(0, (.row 0)), (1, (aN .i64 x1)), (2, (aN .i64 x2)), (6, (aN .i64 v1)), (7, (aN .i64 v5))], [(0, (oR 3 1 (eN .i64) v6))]⟩) (en [(0, 0)] (ws z z z (wd z (wd z (wd z (wd z w0))))) z (hr z h0)) <| ?_
    intro n3 v5 v6 H
    rw [slices_insertionSortOrdered_int_b3] at H
    refine wc_seq <| wc_seq <| wc_draw [0, 0, 3, 7, 15, 15, 63, 127, 15, 15, 527, 1807, 3855, 8191, 16383] mixed z <| dm z z <| dm z z <| dr (p_gtr z z) z <| dm z z <| dw z (Grd.plain _) z [0] z (s1 strip_same s0) (fun hw => p_mv z) ⟨z, q⟩ (by exact q) z <| dw z (Grd.plain _) z [7] z (s1 strip_same s0) (fun hw => p_mv z) ⟨z, q⟩ (by exact q) z <| ?_
    obtain ⟨r7, e8, H⟩ := ob H
    refine dw z (Grd.plain _) z [20, 21] z (s1 (strip_when id) (s1 (strip_when id) s0)) (fun hw => p_ixR Tryz.underlying29 ty_3.size z z z (bt hw e8)) ⟨z, ⟨z, q⟩⟩ (by exact ⟨z, q⟩) z <| dw z (Grd.plain _) z [22] z (s1 (strip_when id) s0) (fun hw => p_ldR (n := v5) (j := 0) (sz := 1) (k := 0) (r := r7) (f := (eN .i64)) (fun _ => z) ty_3 z z (bt hw e8) z) ⟨z, q⟩ (by exact ⟨z, q⟩) z <| dw z (Grd.plain _) z [0] z (s1 strip_same s0) (fun hw => p_mv z) ⟨z, q⟩ (by exact q) z <| dw z (Grd.plain _) z [7] z (s1 strip_same s0) (fun hw => p_mv z) ⟨z, q⟩ (by exact q) z <| dw z (Grd.plain _) z [25] z (s1 (strip_when id) s0) (fun hw => p_sub z z) ⟨z, q⟩ (by exact q) z <| ?_
    obtain ⟨r9, e10, H⟩ := ob H
    refine dw z (Grd.plain _) z [24, 26] z (s1 (strip_when id) (s1 (strip_when id) s0)) (fun hw => p_ixR Tryz.underlying29 ty_3.size z z z (bt hw e10)) ⟨z, ⟨z, q⟩⟩ (by exact ⟨z, q⟩) z <| dw z (Grd.plain _) z [27] z (s1 (strip_when id) s0) (fun hw => p_ldR (n := (w64 (v5 - 1))) (j := 0) (sz := 1) (k := 0) (r := r9) (f := (eN .i64)) (fun _ => z) ty_3 z z (bt hw e10) z) ⟨z, q⟩ (by exact ⟨z, q⟩) z <| ?_
    obtain ⟨r11, e12, H⟩ := ob H
    refine dw z (Grd.plain _) z [23, 28] z (s1 (strip_when id) (s1 (strip_when id) s0)) (fun hw => p_c (cmp_Less_int_ok (bt hw e12)) ent_71 z z z) ⟨z, ⟨z, q⟩⟩ (by exact q) z <| dr (p_pkA z z q (strip_when (wt))) z <| ?_
    refine wd_nil ?_ (by kernel_rfl)
    refine e_n <| ?_
    rcases cn H with ⟨b13, H⟩ | ⟨b13, H⟩
    · refine c_t z b13 ?_
      refine se <| wc_seq <| wc_block <| wc_draw [0, 0, 0, 0, 8, 0, 0, 64, 224, 480, 0, 0, 3072, 7168, 16355, 32739, 65535, 131071] mixed z <| dm z z <| dm z z <| dm z z <| dm z z <| dr (p_sub z z) z <| dm z z <| dm z z <| dr (p_sub z z) z <| ?_
      obtain ⟨r14, e15, H⟩ := ob H
      refine dr (p_ixR Tryz.underlying29 ty_3.size z z z e15) z <| dr (p_ldR (n := (w64 (v5 - 1))) (j := 0) (sz := 1) (k := 0) (r := r14) (f := (eN .i64)) (fun _ => z) ty_3 z z e15 z) z <| dm z z <| dm z z <| ?_
      obtain ⟨r16, e17, H⟩ := ob H
      refine dr (p_ixR Tryz.underlying29 ty_3.size z z z e17) z <| dr (p_ldR (n := v5) (j := 0) (sz := 1) (k := 0) (r := r16) (f := (eN .i64)) (fun _ => z) ty_3 z z e17 z) z <| ?_
      obtain ⟨r18, e19, H⟩ := ob H
      refine dr (p_ixR Tryz.underlying29 ty_3.size z z z e19) z <| dr0h (p_stR (sz := 1) (n := v5) (j := 0) (r := r18) (f := (eN .i64)) (ds := [.lit (.int .i64 r14)]) (r' := r14) (fun _ => z) ty_3 (.inr z) z z z e19 q z z z z) <| ?_
      obtain ⟨r20, e21, H⟩ := ob H
      refine dr (p_ixR Tryz.underlying29 ty_3.size z z z e21) z <| dr0h (p_stR (sz := 1) (n := (w64 (v5 - 1))) (j := 0) (r := r20) (f := (eN .i64)) (ds := [.lit (.int .i64 r16)]) (r' := r16) (fun _ => z) ty_3 (.inr z) z z z e21 q z z z z) <| ?_
      refine wd_nil ?_ (by kernel_rfl)
      refine e_bn (e_n ?_)
      refine wc_region z <| lm z z <| l (p_sub z z) z <| la z z <| ne <| ?_
      exact ⟨w64 (v5 - 1), (v6.set v5.toNat r14).set (w64 (v5 - 1)).toNat r16, H, en [(0, 0)] (ws z z z (wd z (wd z (wd z (wd z w0))))) z (hr z h0)⟩
    refine c_f z b13 <| wc_exit <| ?_
    refine e_te (e_te (e_h (e_bn (e_n ?_))))
    exact ⟨v6, H, en [(0, 0)] (ws z z z (wd z (wd z (wd z w0)))) z (hr z h0)⟩
  refine c_f z b3 <| wc_exit <| ?_
  refine e_te (e_te (e_h ?_))
  obtain rfl := sm H
  exact fin (Or.inl z) rs0 (re2 [(0, 0)] q z (hr z h0))

def slices_pdqsortOrdered_int_k2 : Int → Option (List Int)
  | v11 =>
    none
def slices_pdqsortOrdered_int_b1 (rec1 : Int × Int × Int × Bool × Bool × (List Int) → Option (List Int)) : Int × Int × Int × Bool × Bool × (List Int) → Option (List Int)
  | (v1, v2, v3, v4, v5, v6) =>
    bif decide ((w64 (v2 - v1)) ≤ 12) then
      (slices_insertionSortOrdered_int v6 v1 v2).bind fun r8 =>
      some r8
    else
      bif v3 == 0 then
        none
      else
        jn slices_pdqsortOrdered_int_k2 fun k2 =>
        bif !v4 then none else k2 v3
def slices_pdqsortOrdered_int_f (self : (List Int) → Int → Int → Int → Option (List Int)) (x0 : List Int) (x1 : Int) (x2 : Int) (x3 : Int) : Option (List Int) :=
  lp slices_pdqsortOrdered_int_b1 1 (x1, x2, x3, true, true, x0)
def slices_pdqsortOrdered_int : Nat → (List Int) → Int → Int → Int → Option (List Int)
  | 0 => fun _ _ _ _ => none
  | n + 1 => slices_pdqsortOrdered_int_f (slices_pdqsortOrdered_int n)
theorem slices_pdqsortOrdered_int_ok {n : Nat} : ∀ {x0 : List Int} {x1 : Int} {x2 : Int} {x3 : Int} {R : (List Int)}, slices_pdqsortOrdered_int n x0 x1 x2 x3 = some R → FnOk Tryz.prog K0 94 [(.row 0), (aN .i64 x1), (aN .i64 x2), (aN .i64 x3)] [(0, (oR 3 1 (eN .i64) x0))] (.tup []) [(0, (oR 3 1 (eN .i64) R))] := by
  induction n with
  | zero => intro x0 x1 x2 x3 R H; cases H
  | succ n ih =>
    intro x0 x1 x2 x3 R H
    refine fn_w (nt := 134) (np := 1) Tryz.func94 z z (by simp) (np_of2 z) <| ?_
    have H : slices_pdqsortOrdered_int_f (slices_pdqsortOrdered_int n) x0 x1 x2 x3 = some R := H
    unfold slices_pdqsortOrdered_int_f at H
    refine sgr z <| la z z <| ne <| sgr z <| la z z <| ne <| wc_block <| w_lp6 H (fun v1 v2 v3 v4 v5 v6 => ⟨[(0, (.row 0)), (1, (aN .i64 v1)), (2, (aN .i64 v2)), (3, (aN .i64 v3)), (8, (aT v4)), (9, (aT v5))], [(0, (oR 3 1 (eN .i64) v6))]⟩) (en [(0, 0)] (ws z z z (wd z (wd z (wd z (wd z (wd z w0)))))) z (hr z h0)) <| ?_
    intro n1 v1 v2 v3 v4 v5 v6 H
    rw [slices_pdqsortOrdered_int_b1] at H
    refine wc_block <| sgr z <| lm z z <| lm z z <| l (p_sub z z) z <| la z z <| ne <| wc_seq <| sgr z <| lm z z <| l (p_leq z z) z <| ne <| ?_
    rcases cn H with ⟨b7, H⟩ | ⟨b7, H⟩
    · refine c_t z b7 ?_
      refine sgr z <| lm z z <| lm z z <| lm z z <| ?_
      obtain ⟨r8, e9, H⟩ := ob H
      refine lh (p_ch (ids := [0]) (slices_insertionSortOrdered_int_ok e9) ent_107 z z (rc z rm rn) (rc z rm rn) z ⟨z, q⟩ (by decide) z z z (oc om on) (oc om on) z) z <| ne <| wc_ret <| ?_
      refine e_tr (e_br (e_tr (e_br ?_)))
      obtain rfl := sm H
      exact fin (Or.inr z) rs0 (re2 [(0, 0)] q z (hr z h0))
    refine c_f z b7 <| se <| wc_seq <| sgr z <| lm z z <| l (p_eql z z) z <| ne <| ?_
    rcases cn H with ⟨b10, H⟩ | ⟨b10, H⟩
    · refine c_t z b10 ?_
      refine sgr z <| lm z z <| lm z z <| lm z z <| ?_
      cases H
    refine c_f z b10 <| se <| ?_
    refine w_jn1 H (fun v11 => ⟨[(0, (.row 0)), (1, (aN .i64 v1)), (2, (aN .i64 v2)), (3, (aN .i64 v11)), (8, (aT v4)), (9, (aT v5)), (10, (aN .i64 (w64 (v2 - v1))))], [(0, (oR 3 1 (eN .i64) v6))]⟩) ?_ ?_
    · intro v11 H
      rw [slices_pdqsortOrdered_int_k2] at H
      refine sgr z <| lm z z <| lm z z <| lm z z <| ?_
      cases H
    intro H
    refine sgr z <| lm z z <| l (p_not z) z <| ne <| ?_
    rcases cn H with ⟨b12, H⟩ | ⟨b12, H⟩
    · refine c_t z b12 ?_
      refine sgr z <| lm z z <| lm z z <| lm z z <| ?_
      cases H
    refine c_f z b12 <| se <| ?_
    exact ⟨v3, H, en [(0, 0)] (ws z z z (wd z (wd z (wd z (wd z (wd z (wd z w0))))))) z (hr z h0)⟩

def slices_Sort_int_int (x0 : List Int) : Option (List Int) :=
  (math_bits_Len (IntKind.wrap .u64 (x0.length : Int))).bind fun r1 =>
  (slices_pdqsortOrdered_int 2 x0 0 (x0.length : Int) r1).bind fun r3 =>
  some r3
theorem slices_Sort_int_int_ok {x0 : List Int} {R : (List Int)} (H : slices_Sort_int_int x0 = some R) : FnOk Tryz.prog K0 68 [(.row 0)] [(0, (oR 3 1 (eN .i64) x0))] (.tup []) [(0, (oR 3 1 (eN .i64) R))] := by
  refine fn_w (nt := 11) (np := 1) Tryz.func68 z z (by simp) (np_of2 z) <| ?_
  unfold slices_Sort_int_int at H
  refine sgr z <| lm z z <| l (p_lenR Tryz.underlying29 z z) z <| la z z <| ne <| wc_region z <| lm z z <| lm z z <| lm z z <| l (p_cv Tryz.underlying3 Tryz.underlying54 z) z <| ?_
  obtain ⟨r1, e2, H⟩ := ob H
  refine l (p_c (math_bits_Len_ok e2) ent_95 z z z) z <| ?_
  obtain ⟨r3, e4, H⟩ := ob H
  refine lh (p_ch (ids := [0]) (slices_pdqsortOrdered_int_ok e4) ent_94 z z (rc z rm rn) (rc z rm rn) z ⟨z, q⟩ (by decide) z z z (oc om on) (oc om on) z) z <| wl_nil <| ?_
  obtain rfl := sm H
  exact fin (Or.inl z) rs0 (re2 [(0, 0)] q z (hr z h0))

def core_Core_Begin_k5 (r1 : MachInstr) (v11 : Int) (r12 : Int × Bool × (List (List Int)) × (List Int) × Int) (r18 : (List Int)) (v20 : List Int) : Int × Bool × Int → Option (Int × Pipe)
  | (v21, v22, v23) =>
    some ((v11, (Pipe.mk v21 v22 (r12.2.2.1.set r1.Unit.toNat r18) v20 v23)))
def core_Core_Begin_k4 (r1 : MachInstr) (r3 : Touch) (v11 : Int) (r12 : Int × Bool × (List (List Int)) × (List Int) × Int) (r18 : (List Int)) : (List Int) → Option (Int × Pipe)
  | v20 =>
    jn (core_Core_Begin_k5 r1 v11 r12 r18 v20) fun k5 =>
    bif r3.Stores then k5 ((v11, r3.Jumps, w64 (v11 + r1.Latency))) else k5 (v11, r3.Jumps, r12.2.2.2.2)
def core_Core_Begin_k7 (v25 : Int) (rec6 : Int × (List Int) → Option (Int × Pipe)) : (List Int) → Option (Int × Pipe)
  | v28 =>
    rec6 ((w64 (v25 + 1), v28))
def core_Core_Begin_b6 (r1 : MachInstr) (r3 : Touch) (v11 : Int) (r12 : Int × Bool × (List (List Int)) × (List Int) × Int) (k4 : (List Int) → Option (Int × Pipe)) (rec6 : Int × (List Int) → Option (Int × Pipe)) : Int × (List Int) → Option (Int × Pipe)
  | (v25, v26) =>
    bif decide (v25 < (r12.2.2.2.1.length : Int)) then
      jn (core_Core_Begin_k7 v25 rec6) fun k7 =>
      (ix r3.Writes v25).bind fun r29 =>
      bif r29 != 0 then
        (ix v26 v25).bind fun r32 =>
        k7 (v26.set v25.toNat (w64 (v11 + r1.Latency)))
      else
        k7 v26
    else
      k4 v26
def core_Core_Begin_k3 (x1 : Pipe) (r1 : MachInstr) (r3 : Touch) : Int → Option (Int × Pipe)
  | v11 =>
    (core_TwinPipe x1).bind fun r12 =>
    (ix r12.2.2.1 r1.Unit).bind fun r14 =>
    (ix r14 0).bind fun r16 =>
    (slices_Sort_int_int (r14.set (0 : Int).toNat (w64 (v11 + r1.Busy)))).bind fun r18 =>
    jn (core_Core_Begin_k4 r1 r3 v11 r12 r18) fun k4 =>
    lp (core_Core_Begin_b6 r1 r3 v11 r12 k4) (r12.2.2.2.1.length + 1) (0, r12.2.2.2.1)
def core_Core_Begin_k2 (x1 : Pipe) (r1 : MachInstr) (r3 : Touch) : Int → Option (Int × Pipe)
  | v10 =>
    jn (core_Core_Begin_k3 x1 r1 r3) fun k3 =>
    bif r3.Loads || r3.Stores then k3 (max v10 x1.Mem) else k3 v10
def core_Core_Begin_k9 (v36 : Int) (rec8 : Int × Int → Option (Int × Pipe)) : Int → Option (Int × Pipe)
  | v38 =>
    rec8 ((v38, w64 (v36 + 1)))
def core_Core_Begin_b8 (x1 : Pipe) (r3 : Touch) (k2 : Int → Option (Int × Pipe)) (rec8 : Int × Int → Option (Int × Pipe)) : Int × Int → Option (Int × Pipe)
  | (v35, v36) =>
    bif decide (v36 < (x1.Regs.length : Int)) then
      jn (core_Core_Begin_k9 v36 rec8) fun k9 =>
      (ix x1.Regs v36).bind fun r39 =>
      (ix r3.Reads v36).bind fun r41 =>
      (ix r3.Writes v36).bind fun r43 =>
      bif (bOr .u64 r41 r43) != 0 then k9 (max v35 r39) else k9 v35
    else
      k2 v35
def core_Core_Begin_k1 (x1 : Pipe) (r1 : MachInstr) (r3 : Touch) : Int → Option (Int × Pipe)
  | v9 =>
    jn (core_Core_Begin_k2 x1 r1 r3) fun k2 =>
    lp (core_Core_Begin_b8 x1 r3 k2) (x1.Regs.length + 1) (v9, 0)
def core_Core_Begin (x0 : core_Core) (x1 : Pipe) (x2 : MachOp) : Option (Int × Pipe) :=
  (ix x0.Machine.Instrs x2.Instr).bind fun r1 =>
  (core_Core_Touch x0 x2).bind fun r3 =>
  (ix x1.Units r1.Unit).bind fun r5 =>
  (ix r5 0).bind fun r7 =>
  jn (core_Core_Begin_k1 x1 r1 r3) fun k1 =>
  bif x1.Jumps then k1 (max (max x1.At r7) (w64 (x1.At + 1))) else k1 (max x1.At r7)
theorem core_Core_Begin_ok {x0 : core_Core} {x1 : Pipe} {x2 : MachOp} {R : Int × Pipe} (H : core_Core_Begin x0 x1 x2 = some R) : FnOk Tryz.prog K0 30 [(aP ((enccore_Core x0).drop 0)), (aA (encPipe x1)), (aA (encMachOp x2))] [] (.tup [(aN .i64 R.1), (aA (encPipe R.2))]) [] := by
  refine fn_w (nt := 134) (np := 0) Tryz.func30 z z (by simp) (np_of2 z) <| ?_
  unfold core_Core_Begin at H
  refine sgr z <| lh (p_bx 0 z q z) z <| lh (p_bx 1 z q z) z <| la z z <| lh (p_al 2 zr_34 z) z <| ne <| wc_seq <| wc_draw [0, 1, 3, 7, 15, 0, 32, 127, 255, 0, 0, 1536, 0, 0, 16383, 32767] mixed z <| dm z z <| dr (p_nlP z) z <| dr (p_fdP fld_89_0 z) z <| dr (p_fdP fld_27_6 z) z <| dr (p_ldP ty_25 z z) z <| dr (p_fd fld_31_0 z) z <| dr (p_ld ty_3 z z z) z <| ?_
  obtain ⟨r1, e2, H⟩ := ob H
  refine dr (p_ixL Tryz.underlying25 ty_61.size z z e2) z <| dr (p_ldA (ds := encMachInstr r1) ty_61 z z z) z <| dm z z <| dr (p_ldB (ds := (encMachOp x2).map .data) ty_31 z z z z) z <| ?_
  obtain ⟨r3, e4, H⟩ := ob H
  refine dr (p_c (core_Core_Touch_ok e4) ent_37 z z z) z <| drh (p_al 3 zr_61 z) z <| drh (p_al 4 zr_85 z) z <| dr0h (p_stA (ds := (encMachInstr r1).map .data) ty_61 z z z z z z) <| dr0h (p_stA (ds := (encTouch r3).map .data) ty_85 z z z z z z) <| ?_
  refine wd_nil ?_ (by kernel_rfl)
  refine e_n <| wc_seq <| wc_draw [0, 1, 0, 4, 0, 16, 60, 124, 252, 508, 1023, 2047] mixed z <| dr (p_fd fld_34_0 z) z <| dr (p_ld ty_3 z z z) z <| dr (p_fd fld_34_2 z) z <| dr (p_ld ty_32 z z z) z <| dr (p_fd fld_61_5 z) z <| dr (p_ld ty_3 z z z) z <| ?_
  obtain ⟨r5, e6, H⟩ := ob H
  refine dr (p_ixL Tryz.underlying32 ty_29.size z z e6) z <| dr (p_ldP ty_29 z z) z <| ?_
  obtain ⟨r7, e8, H⟩ := ob H
  refine dr (p_ixL Tryz.underlying29 ty_3.size z z e8) z <| dr (p_ldP ty_3 z z) z <| dr (p_max z z) z <| da z z <| ?_
  refine wd_nil ?_ (by kernel_rfl)
  refine e_n <| ?_
  refine w_jn1 H (fun v9 => ⟨[(4, (.ptr 0 0)), (7, (.ptr 2 0)), (8, (.ptr 3 0)), (9, (.ptr 4 0)), (10, (aN .i64 v9))], [(0, (oD 34 (encPipe x1))), (2, (oC 34 [(aN .i64 0), (aT false), aNil, aNil, (aN .i64 0)])), (3, (oD 61 (encMachInstr r1))), (4, (oD 85 (encTouch r3)))]⟩) ?_ ?_
  · intro v9 H
    rw [core_Core_Begin_k1] at H
    refine w_jn1 H (fun v10 => ⟨[(4, (.ptr 0 0)), (7, (.ptr 2 0)), (8, (.ptr 3 0)), (9, (.ptr 4 0)), (10, (aN .i64 v10))], [(0, (oD 34 (encPipe x1))), (2, (oC 34 [(aN .i64 0), (aT false), aNil, aNil, (aN .i64 0)])), (3, (oD 61 (encMachInstr r1))), (4, (oD 85 (encTouch r3)))]⟩) ?_ ?_
    · intro v10 H
      rw [core_Core_Begin_k2] at H
      refine w_jn1 H (fun v11 => ⟨[(4, (.ptr 0 0)), (7, (.ptr 2 0)), (8, (.ptr 3 0)), (9, (.ptr 4 0)), (10, (aN .i64 v11))], [(0, (oD 34 (encPipe x1))), (2, (oC 34 [(aN .i64 0), (aT false), aNil, aNil, (aN .i64 0)])), (3, (oD 61 (encMachInstr r1))), (4, (oD 85 (encTouch r3)))]⟩) ?_ ?_
      · intro v11 H
        rw [core_Core_Begin_k3] at H
        refine sgr z <| l (p_ldB (ds := (encPipe x1).map .data) ty_34 z z z z) z <| ?_
        obtain ⟨r12, e13, H⟩ := ob H
        refine lh (p_ch (ids := [5, 6]) (core_TwinPipe_ok e13) ent_67 z z (rc z z (rc z z rn)) (rc z (rtt (Tame.flat tmL _)) (rc z rm rn)) z ⟨z, ⟨z, q⟩⟩ (by decide) z z z (oc z (oc z on)) (oc (ott (Tame.flat tmL _)) (oc om on)) z) z <| lh (p_al 7 zr_34 z) z <| l0h (p_stA (ds := [(aN .i64 r12.1), (aT r12.2.1), (.row 5), (.row 6), (aN .i64 r12.2.2.2.2)]) ty_34 z z z z z z) <| ne <| wc_seq <| wc_draw [0, 0, 2, 1, 9, 31, 63] mixed z <| dm z z <| dr (p_fd fld_85_4 z) z <| dr (p_ld ty_4 z z z) z <| dr (p_fd fld_34_0 z) z <| dr0h (p_st ty_3 z z z q z z) <| dr (p_fd fld_34_1 z) z <| dr0h (p_st ty_4 z z z q z z) <| ?_
        refine wd_nil ?_ (by kernel_rfl)
        refine e_n <| wc_seq <| ?_
        obtain ⟨r14, e15, H⟩ := ob H
        refine wc_ent (opn (k := 5) (B := [wR 3 1 (eN .i64) r14]) e15 z z) <| wc_ent (foc (k := 5) 8 0 z z .row z) <| wc_draw [0, 1, 0, 4, 15, 31, 0, 0, 128, 448, 1023, 2047] mixed z <| dr (p_fd fld_34_2 z) z <| dr (p_ld ty_32 z z z) z <| dr (p_fd fld_61_5 z) z <| dr (p_ld ty_3 z z z) z <| dr (p_ixE (l := r12.2.2.1) Tryz.underlying32 ty_29.size z z e15 z) z <| dr (p_ldE (n := r1.Unit) (j := 0) (sz := 1) (k := 5) (fun _ => z) ty_29 z (tk e15) z z) z <| dm z z <| dr (p_fd fld_61_6 z) z <| dr (p_ld ty_3 z z z) z <| dr (p_add z z) z <| ?_
        obtain ⟨r16, e17, H⟩ := ob H
        refine dr (p_ixR Tryz.underlying29 ty_3.size z z z e17) z <| dr0h (p_stR (sz := 1) (n := 0) (j := 0) (r := r16) (f := (eN .i64)) (ds := [.lit (.int .i64 (w64 (v11 + r1.Busy)))]) (r' := w64 (v11 + r1.Busy)) (fun _ => z) ty_3 (.inr z) z z z e17 q z z z z) <| ?_
        refine wd_nil ?_ (by kernel_rfl)
        refine e_n <| sgr z <| l (p_fd fld_34_2 z) z <| l (p_ld ty_32 z z z) z <| l (p_fd fld_61_5 z) z <| l (p_ld ty_3 z z z) z <| l (p_ixE (l := r12.2.2.1) Tryz.underlying32 ty_29.size z z e15 z) z <| l (p_ldE (n := r1.Unit) (j := 0) (sz := 1) (k := 5) (fun _ => z) ty_29 z (tk e15) z z) z <| ?_
        obtain ⟨r18, e19, H⟩ := ob H
        refine lh (p_ch (ids := [8]) (slices_Sort_int_int_ok e19) ent_68 z z (rc z rm rn) (rc z rm rn) z ⟨z, q⟩ (by decide) z z z (oc om on) (oc om on) z) z <| ne <| ?_
        refine w_jn1 H (fun v20 => ⟨[(7, (.ptr 2 0)), (8, (.ptr 3 0)), (9, (.ptr 4 0)), (10, (aN .i64 v11)), (13, (.ptr 7 0))], [(2, (oC 34 [(aN .i64 0), (aT false), aNil, aNil, (aN .i64 0)])), (3, (oD 61 (encMachInstr r1))), (4, (oD 85 (encTouch r3))), (5, (oE 29 1 (tL 3 1 (eN .i64)) (r12.2.2.1.take r1.Unit.toNat) [.av (.row 8)] (r12.2.2.1.drop (r1.Unit.toNat + 1)))), (6, (oR 3 1 (eN .i64) v20)), (7, (oC 34 [(aN .i64 v11), (aT r3.Jumps), (.row 5), (.row 6), (aN .i64 r12.2.2.2.2)])), (8, (oR 3 1 (eN .i64) r18))]⟩) ?_ ?_
        · intro v20 H
          rw [core_Core_Begin_k4] at H
          refine w_jn3 H (fun v21 v22 v23 => ⟨[(7, (.ptr 2 0)), (10, (aN .i64 v11)), (13, (.ptr 7 0))], [(2, (oC 34 [(aN .i64 0), (aT false), aNil, aNil, (aN .i64 0)])), (5, (oE 29 1 (tL 3 1 (eN .i64)) (r12.2.2.1.take r1.Unit.toNat) [.av (.row 8)] (r12.2.2.1.drop (r1.Unit.toNat + 1)))), (6, (oR 3 1 (eN .i64) v20)), (7, (oC 34 [(aN .i64 v21), (aT v22), (.row 5), (.row 6), (aN .i64 v23)])), (8, (oR 3 1 (eN .i64) r18))]⟩) ?_ ?_
          · intro v21 v22 v23 H
            rw [core_Core_Begin_k5] at H
            refine wc_seq <| wc_draw [0, 0, 1, 7] mixed z <| dm z z <| dr (p_ldB (ds := [(aN .i64 v21), (aT v22), (.row 5), (.row 6), (aN .i64 v23)]) ty_34 z z z z) z <| da z z <| dr0h (p_stA (ds := [(aN .i64 v21), (aT v22), (.row 5), (.row 6), (aN .i64 v23)]) ty_34 z z z z z z) <| ?_
            refine wd_nil ?_ (by kernel_rfl)
            refine e_n <| wc_ent (absb (k := 5) 8 0 z z z .row z) <| wc_ent (cls (k := 5) (r' := r18) e15 z z) <| wc_ent (fztc (j := 2) (i := 2) z z z z .tree (FrC.tree (fun _ => z) (frL (fun _ => z)))) <| wc_ent (fzc (j := 2) (i := 3) z z z z (fun _ => z)) <| wc_ret <| ?_
            obtain rfl := sm H
            exact fin (Or.inr z) (rs1 (rv z) (rs1 (rva (ds := (encPipe ((Pipe.mk v21 v22 (r12.2.2.1.set r1.Unit.toNat r18) v20 v23))).map .data) ty_34 z z z z) rs0)) (re2 [] ⟨.dat, ⟨.adat, q⟩⟩ z h0)
          intro H
          refine sgr z <| l (p_fd fld_85_3 z) z <| l (p_ld ty_4 z z z) z <| ne <| ?_
          rcases cn H with ⟨b24, H⟩ | ⟨b24, H⟩
          · refine c_t z b24 ?_
            refine wc_region z <| lm z z <| l (p_fd fld_61_7 z) z <| l (p_ld ty_3 z z z) z <| l (p_add z z) z <| l (p_fd fld_34_4 z) z <| l0h (p_st ty_3 z z z q z z) <| ne <| ?_
            exact ⟨v11, r3.Jumps, w64 (v11 + r1.Latency), H, en [(2, 2), (5, 5), (6, 6), (7, 7), (8, 8)] (ws z z z (wd z (ws z z z w0))) z (hs z z z (hte tmL z z z (hr z (hs z z z (hr z h0)))))⟩
          refine c_f z b24 <| se <| ?_
          exact ⟨v11, r3.Jumps, r12.2.2.2.2, H, en [(2, 2), (5, 5), (6, 6), (7, 7), (8, 8)] (ws z z z (wd z (ws z z z w0))) z (hs z z z (hte tmL z z z (hr z (hs z z z (hr z h0)))))⟩
        intro H
        refine sgr z <| l (p_fd fld_34_3 z) z <| l (p_ld ty_29 z z z) z <| l (p_lenR Tryz.underlying29 z z) z <| lm z z <| ne <| wc_block <| w_lp2 H (fun v25 v26 => ⟨[(7, (.ptr 2 0)), (8, (.ptr 3 0)), (9, (.ptr 4 0)), (10, (aN .i64 v11)), (13, (.ptr 7 0)), (106, (aN .i64 (r12.2.2.2.1.length : Int))), (107, (aN .i64 v25))], [(2, (oC 34 [(aN .i64 0), (aT false), aNil, aNil, (aN .i64 0)])), (3, (oD 61 (encMachInstr r1))), (4, (oD 85 (encTouch r3))), (5, (oE 29 1 (tL 3 1 (eN .i64)) (r12.2.2.1.take r1.Unit.toNat) [.av (.row 8)] (r12.2.2.1.drop (r1.Unit.toNat + 1)))), (6, (oR 3 1 (eN .i64) v26)), (7, (oC 34 [(aN .i64 v11), (aT r3.Jumps), (.row 5), (.row 6), (aN .i64 r12.2.2.2.2)])), (8, (oR 3 1 (eN .i64) r18))]⟩) (en [(2, 2), (3, 3), (4, 4), (5, 5), (6, 6), (7, 7), (8, 8)] (ws z z z (ws z z z (ws z z z (wd z (ws z z z (wd z (wd z w0))))))) z (hs z z z (hc z (hc z (hte tmL z z z (hr z (hs z z z (hr z h0)))))))) <| ?_
        intro n6 v25 v26 H
        rw [core_Core_Begin_b6] at H
        refine sgr z <| l (p_lss z z) z <| ne <| wc_seq <| ?_
        rcases cn H with ⟨b27, H⟩ | ⟨b27, H⟩
        · refine c_t z b27 ?_
          refine se <| ?_
          refine w_jn1 H (fun v28 => ⟨[(7, (.ptr 2 0)), (8, (.ptr 3 0)), (9, (.ptr 4 0)), (10, (aN .i64 v11)), (13, (.ptr 7 0)), (106, (aN .i64 (r12.2.2.2.1.length : Int))), (107, (aN .i64 v25))], [(2, (oC 34 [(aN .i64 0), (aT false), aNil, aNil, (aN .i64 0)])), (3, (oD 61 (encMachInstr r1))), (4, (oD 85 (encTouch r3))), (5, (oE 29 1 (tL 3 1 (eN .i64)) (r12.2.2.1.take r1.Unit.toNat) [.av (.row 8)] (r12.2.2.1.drop (r1.Unit.toNat + 1)))), (6, (oR 3 1 (eN .i64) v28)), (7, (oC 34 [(aN .i64 v11), (aT r3.Jumps), (.row 5), (.row 6), (aN .i64 r12.2.2.2.2)])), (8, (oR 3 1 (eN .i64) r18))]⟩) ?_ ?_
          · intro v28 H
            rw [core_Core_Begin_k7] at H
            refine wc_region z <| l (p_add z z) z <| lm z z <| ne <| ?_
            exact ⟨w64 (v25 + 1), v28, H, en [(2, 2), (3, 3), (4, 4), (5, 5), (6, 6), (7, 7), (8, 8)] (ws z z z (ws z z z (ws z z z (wd z (ws z z z (wd z (wd z w0))))))) z (hs z z z (hc z (hc z (hte tmL z z z (hr z (hs z z z (hr z h0)))))))⟩
          intro H
          refine wc_block <| sgr z <| lm z z <| la z z <| ne <| sgr z <| l (p_fd fld_85_1 z) z <| l (p_ld ty_83 z z z) z <| lm z z <| ?_
          obtain ⟨r29, e30, H⟩ := ob H
          refine l (p_ixL Tryz.underlying83 ty_57.size z z e30) z <| l (p_ldP ty_57 z z) z <| l (p_neq z z) z <| ne <| ?_
          rcases cn H with ⟨b31, H⟩ | ⟨b31, H⟩
          · refine c_t z b31 ?_
            refine wc_region z <| l (p_fd fld_34_3 z) z <| l (p_ld ty_29 z z z) z <| lm z z <| lm z z <| l (p_fd fld_61_7 z) z <| l (p_ld ty_3 z z z) z <| l (p_add z z) z <| ?_
            obtain ⟨r32, e33, H⟩ := ob H
            refine l (p_ixR Tryz.underlying29 ty_3.size z z z e33) z <| l0h (p_stR (sz := 1) (n := v25) (j := 0) (r := r32) (f := (eN .i64)) (ds := [.lit (.int .i64 (w64 (v11 + r1.Latency)))]) (r' := w64 (v11 + r1.Latency)) (fun _ => z) ty_3 (.inr z) z z z e33 q z z z z) <| wl_nil <| ?_
            refine e_bn (e_n ?_)
            exact ⟨v26.set v25.toNat (w64 (v11 + r1.Latency)), H, en [(2, 2), (3, 3), (4, 4), (5, 5), (6, 6), (7, 7), (8, 8)] (ws z z z (ws z z z (ws z z z (wd z (ws z z z (wd z (wd z w0))))))) z (hs z z z (hc z (hc z (hte tmL z z z (hr z (hs z z z (hr z h0)))))))⟩
          refine c_f z b31 <| wc_skip <| ?_
          refine e_bn (e_n ?_)
          exact ⟨v26, H, en [(2, 2), (3, 3), (4, 4), (5, 5), (6, 6), (7, 7), (8, 8)] (ws z z z (ws z z z (ws z z z (wd z (ws z z z (wd z (wd z w0))))))) z (hs z z z (hc z (hc z (hte tmL z z z (hr z (hs z z z (hr z h0)))))))⟩
        refine c_f z b27 <| wc_exit <| ?_
        refine e_te (e_te (e_h (e_n ?_)))
        exact ⟨v26, H, en [(2, 2), (3, 3), (4, 4), (5, 5), (6, 6), (7, 7), (8, 8)] (ws z z z (ws z z z (ws z z z (wd z (ws z z z w0))))) z (hs z z z (hc z (hc z (hte tmL z z z (hr z (hs z z z (hr z h0)))))))⟩
      intro H
      refine sgr z <| l (p_fd fld_85_2 z) z <| l (p_ld ty_4 z z z) z <| lm z z <| lw z (Grd.plain _) z [9] z (s1 strip_same s0) (fun hw => p_fd fld_85_3 z) ⟨z, q⟩ (by exact q) z z <| lw z (Grd.plain _) z [72] z (s1 (strip_when id) s0) (fun hw => p_ld ty_4 z z z) ⟨z, q⟩ (by exact ⟨z, q⟩) z z <| l (p_pkO z z q (strip_when (wf))) z <| ne <| ?_
      rcases cn H with ⟨b34, H⟩ | ⟨b34, H⟩
      · refine c_t z b34 ?_
        refine wc_region z <| lm z z <| l (p_fd fld_34_4 z) z <| l (p_ld ty_3 z z z) z <| l (p_max z z) z <| la z z <| ne <| ?_
        exact ⟨max v10 x1.Mem, H, en [(0, 0), (2, 2), (3, 3), (4, 4)] (ws z z z (ws z z z (ws z z z (ws z z z (wd z w0))))) z (hc z (hs z z z (hc z (hc z h0))))⟩
      refine c_f z b34 <| se <| ?_
      exact ⟨v10, H, en [(0, 0), (2, 2), (3, 3), (4, 4)] (ws z z z (ws z z z (ws z z z (ws z z z (wd z w0))))) z (hc z (hs z z z (hc z (hc z h0))))⟩
    intro H
    refine sgr z <| l (p_fd fld_34_3 z) z <| l (p_ld ty_29 z z z) z <| l (p_lenL Tryz.underlying29 z) z <| lm z z <| ne <| wc_block <| w_lp2 H (fun v35 v36 => ⟨[(4, (.ptr 0 0)), (7, (.ptr 2 0)), (8, (.ptr 3 0)), (9, (.ptr 4 0)), (10, (aN .i64 v35)), (46, (aL 1 (eN .i64) x1.Regs)), (47, (aN .i64 (x1.Regs.length : Int))), (48, (aN .i64 v36))], [(0, (oD 34 (encPipe x1))), (2, (oC 34 [(aN .i64 0), (aT false), aNil, aNil, (aN .i64 0)])), (3, (oD 61 (encMachInstr r1))), (4, (oD 85 (encTouch r3)))]⟩) (en [(0, 0), (2, 2), (3, 3), (4, 4)] (ws z z z (ws z z z (ws z z z (ws z z z (wd z (wd z (wd z (wd z w0)))))))) z (hc z (hs z z z (hc z (hc z h0))))) <| ?_
    intro n8 v35 v36 H
    rw [core_Core_Begin_b8] at H
    refine sgr z <| l (p_lss z z) z <| ne <| wc_seq <| ?_
    rcases cn H with ⟨b37, H⟩ | ⟨b37, H⟩
    · refine c_t z b37 ?_
      refine se <| ?_
      refine w_jn1 H (fun v38 => ⟨[(4, (.ptr 0 0)), (7, (.ptr 2 0)), (8, (.ptr 3 0)), (9, (.ptr 4 0)), (10, (aN .i64 v38)), (46, (aL 1 (eN .i64) x1.Regs)), (47, (aN .i64 (x1.Regs.length : Int))), (48, (aN .i64 v36))], [(0, (oD 34 (encPipe x1))), (2, (oC 34 [(aN .i64 0), (aT false), aNil, aNil, (aN .i64 0)])), (3, (oD 61 (encMachInstr r1))), (4, (oD 85 (encTouch r3)))]⟩) ?_ ?_
      · intro v38 H
        rw [core_Core_Begin_k9] at H
        refine wc_region z <| l (p_add z z) z <| lm z z <| ne <| ?_
        exact ⟨v38, w64 (v36 + 1), H, en [(0, 0), (2, 2), (3, 3), (4, 4)] (ws z z z (ws z z z (ws z z z (ws z z z (wd z (wd z (wd z (wd z w0)))))))) z (hc z (hs z z z (hc z (hc z h0))))⟩
      intro H
      refine wc_block <| sgr z <| lm z z <| ?_
      obtain ⟨r39, e40, H⟩ := ob H
      refine l (p_ixL Tryz.underlying29 ty_3.size z z e40) z <| l (p_ldP ty_3 z z) z <| la z z <| la z z <| ne <| wc_seq <| wc_draw [0, 1, 0, 7, 15, 0, 32, 0, 224, 480, 1023, 2047] mixed z <| dr (p_fd fld_85_0 z) z <| dr (p_ld ty_83 z z z) z <| dm z z <| ?_
      obtain ⟨r41, e42, H⟩ := ob H
      refine dr (p_ixL Tryz.underlying83 ty_57.size z z e42) z <| dr (p_ldP ty_57 z z) z <| dr (p_fd fld_85_1 z) z <| dr (p_ld ty_83 z z z) z <| dm z z <| ?_
      obtain ⟨r43, e44, H⟩ := ob H
      refine dr (p_ixL Tryz.underlying83 ty_57.size z z e44) z <| dr (p_ldP ty_57 z z) z <| dr (p_or z z) z <| dr (p_neq z z) z <| ?_
      refine wd_nil ?_ (by kernel_rfl)
      refine e_n <| ?_
      rcases cn H with ⟨b45, H⟩ | ⟨b45, H⟩
      · refine c_t z b45 ?_
        refine wc_region z <| lm z z <| lm z z <| l (p_max z z) z <| la z z <| wl_nil <| ?_
        refine e_bn (e_n ?_)
        exact ⟨max v35 r39, H, en [(0, 0), (2, 2), (3, 3), (4, 4)] (ws z z z (ws z z z (ws z z z (ws z z z (wd z (wd z (wd z (wd z w0)))))))) z (hc z (hs z z z (hc z (hc z h0))))⟩
      refine c_f z b45 <| wc_skip <| ?_
      refine e_bn (e_n ?_)
      exact ⟨v35, H, en [(0, 0), (2, 2), (3, 3), (4, 4)] (ws z z z (ws z z z (ws z z z (ws z z z (wd z (wd z (wd z (wd z w0)))))))) z (hc z (hs z z z (hc z (hc z h0))))⟩
    refine c_f z b37 <| wc_exit <| ?_
    refine e_te (e_te (e_h (e_n ?_)))
    exact ⟨v35, H, en [(0, 0), (2, 2), (3, 3), (4, 4)] (ws z z z (ws z z z (ws z z z (ws z z z (wd z w0))))) z (hc z (hs z z z (hc z (hc z h0))))⟩
  intro H
  refine sgr z <| l (p_fd fld_34_1 z) z <| l (p_ld ty_4 z z z) z <| ne <| ?_
  rcases cn H with ⟨b46, H⟩ | ⟨b46, H⟩
  · refine c_t z b46 ?_
    refine wc_region z <| lm z z <| l (p_fd fld_34_0 z) z <| l (p_ld ty_3 z z z) z <| l (p_add z z) z <| l (p_max z z) z <| la z z <| ne <| ?_
    exact ⟨max (max x1.At r7) (w64 (x1.At + 1)), H, en [(0, 0), (2, 2), (3, 3), (4, 4)] (ws z z z (ws z z z (ws z z z (ws z z z (wd z w0))))) z (hc z (hs z z z (hc z (hc z h0))))⟩
  refine c_f z b46 <| se <| ?_
  exact ⟨max x1.At r7, H, en [(0, 0), (2, 2), (3, 3), (4, 4)] (ws z z z (ws z z z (ws z z z (ws z z z (wd z w0))))) z (hc z (hs z z z (hc z (hc z h0))))⟩

def core_Core_Starts_k1 : Int × (List Int) → Option ((List Int) × Int)
  | (v3, v4) =>
    some (v4, v3)
def core_Core_Starts_b2 (x0 : core_Core) (x1 : List MachOp) (k1 : Int × (List Int) → Option ((List Int) × Int)) (rec2 : Int × Int × Pipe × (List Int) → Option ((List Int) × Int)) : Int × Int × Pipe × (List Int) → Option ((List Int) × Int)
  | (v5, v6, v7, v8) =>
    bif decide (v6 < (x1.length : Int)) then
      (ix x1 v6).bind fun r10 =>
      (core_Core_Begin x0 v7 r10).bind fun r12 =>
      (ix x0.Machine.Instrs r10.Instr).bind fun r14 =>
      asr (roomy (v8.length + [r12.1].length) 8) <|
      rec2 ((max (max v5 (w64 (r12.1 + r14.Busy))) (w64 (r12.1 + r14.Latency)), w64 (v6 + 1), r12.2, v8 ++ [r12.1]))
    else
      k1 (v5, v8)
def core_Core_Starts (x0 : core_Core) (x1 : List MachOp) : Option ((List Int) × Int) :=
  (core_Core_Pipe x0).bind fun r1 =>
  jn core_Core_Starts_k1 fun k1 =>
  lp (core_Core_Starts_b2 x0 x1 k1) (x1.length + 1) ((0, 0, r1, ([] : List Int)))
theorem core_Core_Starts_ok {x0 : core_Core} {x1 : List MachOp} {R : (List Int) × Int} (H : core_Core_Starts x0 x1 = some R) : FnOk Tryz.prog K0 33 [(aP ((enccore_Core x0).drop 0)), (aL 2 encMachOp x1)] [] (.tup [(aL 1 (eN .i64) R.1), (aN .i64 R.2)]) [] := by
  refine fn_w (nt := 54) (np := 0) Tryz.func33 z z (by simp) (np_of2 z) <| ?_
  unfold core_Core_Starts at H
  refine sgr z <| la z z <| la z z <| ne <| sgr z <| lm z z <| ?_
  obtain ⟨r1, e2, H⟩ := ob H
  refine l (p_c (core_Core_Pipe_ok e2) ent_27 z z z) z <| lh (p_al 0 zr_34 z) z <| l0h (p_stA (ds := (encPipe r1).map .data) ty_34 z z z z z z) <| la z z <| ne <| sgr z <| la z z <| ne <| ?_
  refine w_jn2 H (fun v3 v4 => ⟨[(7, (aN .i64 v3)), (8, (.row 5))], [(5, (oR 3 1 (eN .i64) v4))]⟩) ?_ ?_
  · intro v3 v4 H
    rw [core_Core_Starts_k1] at H
    refine sgr z <| lm z z <| lm z z <| la z z <| la z z <| ne <| wc_ent (fz (d := 4) z z (fun _ => z)) <| wc_ret <| ?_
    obtain rfl := sm H
    exact fin (Or.inr z) (rs1 (rv z) (rs1 (rv z) rs0)) (re2 [] ⟨.dat, ⟨.dat, q⟩⟩ z h0)
  intro H
  refine sgr z <| lm z z <| l (p_lenL Tryz.underlying46 z) z <| lm z z <| ne <| wc_block <| w_lp4 H (fun v5 v6 v7 v8 => ⟨[(0, (aP ((enccore_Core x0).drop 0))), (6, (.ptr 0 0)), (7, (aN .i64 v5)), (8, (.row 5)), (15, (aL 2 encMachOp x1)), (16, (aN .i64 (x1.length : Int))), (17, (aN .i64 v6))], [(0, (oD 34 (encPipe v7))), (5, (oR 3 1 (eN .i64) v8))]⟩) (Ent.trans (nr (d := 8) (f := (eN .i64)) (sz := 1) (e := 3) 1 z z z) (en [(0, 0), (1, 5)] (wd z (ws z z z (wd z (ws z z z (wd z (wd z (wd z w0))))))) z (hc z (hr z h0)))) <| ?_
  intro n2 v5 v6 v7 v8 H
  rw [core_Core_Starts_b2] at H
  refine sgr z <| l (p_lss z z) z <| ne <| wc_seq <| ?_
  rcases cn H with ⟨b9, H⟩ | ⟨b9, H⟩
  · refine c_t z b9 ?_
    refine se <| wc_seq <| wc_block <| sgr z <| ?_
    obtain ⟨r10, e11, H⟩ := ob H
    refine l (p_ixL Tryz.underlying46 ty_31.size z z e11) z <| l (p_ldA (ds := encMachOp r10) ty_31 z z z) z <| lh (p_al 6 zr_31 z) z <| l0h (p_stA (ds := (encMachOp r10).map .data) ty_31 z z z z z z) <| ne <| sgr z <| la z z <| ne <| sgr z <| lm z z <| l (p_ldB (ds := (encPipe v7).map .data) ty_34 z z z z) z <| l (p_ldB (ds := (encMachOp r10).map .data) ty_31 z z z z) z <| ?_
    obtain ⟨r12, e13, H⟩ := ob H
    refine l (p_c (core_Core_Begin_ok e13) ent_30 z z z) z <| lm z z <| l (p_ex z z) z <| l (p_ex z z) z <| la z z <| l0h (p_stA (ds := (encPipe r12.2).map .data) ty_34 z z z z z z) <| ne <| wc_seq <| wc_draw [0, 1, 3, 7, 15, 0, 32, 127, 255, 0, 1023] mixed z <| dm z z <| dr (p_nlP z) z <| dr (p_fdP fld_89_0 z) z <| dr (p_fdP fld_27_6 z) z <| dr (p_ldP ty_25 z z) z <| dr (p_fd fld_31_0 z) z <| dr (p_ld ty_3 z z z) z <| ?_
    obtain ⟨r14, e15, H⟩ := ob H
    refine dr (p_ixL Tryz.underlying25 ty_61.size z z e15) z <| dr (p_ldA (ds := encMachInstr r14) ty_61 z z z) z <| drh (p_al 7 zr_61 z) z <| dr0h (p_stA (ds := (encMachInstr r14).map .data) ty_61 z z z z z z) <| ?_
    refine wd_nil ?_ (by kernel_rfl)
    refine e_n <| wc_draw [0, 0, 2, 7, 0, 0, 0, 64, 224, 0, 0, 1024, 3584, 8176, 15, 32767] mixed z <| dm z z <| dm z z <| dr (p_bs (f := (eN .i64)) [.tmp 38] [r12.1] Tryz.underlying29 ty_3.size zr_3 z z z z (el1 (.one _) z el0) z) z <| ?_
    obtain ⟨e16, H⟩ := as_ H
    refine drh (p_apA 8 Tryz.underlying29 el_3 z z z z e16) z <| dm z z <| dm z z <| dr (p_fd fld_61_6 z) z <| dr (p_ld ty_3 z z z) z <| dr (p_add z z) z <| dm z z <| dr (p_fd fld_61_7 z) z <| dr (p_ld ty_3 z z z) z <| dr (p_add z z) z <| dr (p_max3 z z z) z <| da z z <| da z z <| ?_
    refine wd_nil ?_ (by kernel_rfl)
    refine e_bn (e_n ?_)
    refine wc_region z <| l (p_add z z) z <| lm z z <| ne <| ?_
    exact ⟨max (max v5 (w64 (r12.1 + r14.Busy))) (w64 (r12.1 + r14.Latency)), w64 (v6 + 1), r12.2, v8 ++ [r12.1], H, en [(0, 0), (8, 5)] (wd z (ws z z z (wd z (ws z z z (wd z (wd z (wd z w0))))))) z (hc z (hr z h0))⟩
  refine c_f z b9 <| wc_exit <| ?_
  refine e_te (e_te (e_h (e_n ?_)))
  exact ⟨v5, v8, H, en [(5, 5)] (wd z (ws z z z w0)) z (hr z h0)⟩

def cycle_Starts (x0 : Machine) (x1 : List MachOp) : Option ((List Int) × Int) :=
  (cycle_list x0 x1).bind fun r1 =>
  cs2 r1 (fun r1 =>
    bif r1 != 0 then
      some ((([] : List Int), r1))
    else none) fun r1 =>
    (core_Core_Starts r1 x1).bind fun r4 =>
    some (r4.1, 0)
theorem cycle_Starts_ok {x0 : Machine} {x1 : List MachOp} {R : (List Int) × Int} (H : cycle_Starts x0 x1 = some R) : FnOk Tryz.prog K0 14 [(aA (encMachine x0)), (aL 2 encMachOp x1)] [] (.tup [(aL 1 (eN .i64) R.1), (aN .i64 R.2)]) [] := by
  refine fn_w (nt := 26) (np := 0) Tryz.func14 z z (by simp) (np_of2 z) <| ?_
  unfold cycle_Starts at H
  refine sgr z <| lh (p_bx 0 z q z) z <| la z z <| la z z <| ne <| sgr z <| l (p_ldB (ds := (encMachine x0).map .data) ty_27 z z z z) z <| lm z z <| ?_
  obtain ⟨r1, e2, H⟩ := ob H
  rcases r1 with r1 | r1
  · replace H := csl H
    refine l (p_c (cycle_list_okL e2) ent_32 z z z) z <| lm z z <| l (p_ex z z) z <| l (p_ex z z) z <| la z z <| la z z <| ne <| wc_seq <| sgr z <| lm z z <| l (p_neq z z) z <| ne <| ?_
    rcases cn H with ⟨b3, H⟩ | ⟨b3, H⟩
    · refine c_t z b3 ?_
      refine sgr z <| lm z z <| la z z <| la z z <| ne <| wc_ret <| e_tr <| ?_
      obtain rfl := sm H
      exact fin (Or.inr z) (rs1 (rv z) (rs1 (rv z) rs0)) (re2 [] ⟨.nil, ⟨.dat, q⟩⟩ z h0)
    cases H
  replace H := csr H
  refine l (p_c (cycle_list_okR e2) ent_32 z z z) z <| lm z z <| l (p_ex z z) z <| l (p_ex z z) z <| la z z <| la z z <| ne <| wc_seq <| sgr z <| lm z z <| l (p_neq z z) z <| ne <| c_f z z <| se <| sgr z <| lm z z <| lm z z <| ?_
  obtain ⟨r4, e5, H⟩ := ob H
  refine l (p_c (core_Core_Starts_ok e5) ent_33 z z z) z <| lm z z <| l (p_ex z z) z <| l (p_ex z z) z <| la z z <| la z z <| ne <| sgr z <| lm z z <| la z z <| la z z <| ne <| wc_ret <| ?_
  obtain rfl := sm H
  exact fin (Or.inr z) (rs1 (rv z) (rs1 (rv z) rs0)) (re2 [] ⟨.dat, ⟨.dat, q⟩⟩ z h0)

def cycle_Length (x0 : Machine) (x1 : List MachOp) : Option (Int × Int) :=
  (cycle_list x0 x1).bind fun r1 =>
  cs2 r1 (fun r1 =>
    bif r1 != 0 then
      some (0, r1)
    else none) fun r1 =>
    (core_Core_Starts r1 x1).bind fun r4 =>
    some (r4.2, 0)
theorem cycle_Length_ok {x0 : Machine} {x1 : List MachOp} {R : Int × Int} (H : cycle_Length x0 x1 = some R) : FnOk Tryz.prog K0 16 [(aA (encMachine x0)), (aL 2 encMachOp x1)] [] (.tup [(aN .i64 R.1), (aN .i64 R.2)]) [] := by
  refine fn_w (nt := 26) (np := 0) Tryz.func16 z z (by simp) (np_of2 z) <| ?_
  unfold cycle_Length at H
  refine sgr z <| lh (p_bx 0 z q z) z <| la z z <| la z z <| ne <| sgr z <| l (p_ldB (ds := (encMachine x0).map .data) ty_27 z z z z) z <| lm z z <| ?_
  obtain ⟨r1, e2, H⟩ := ob H
  rcases r1 with r1 | r1
  · replace H := csl H
    refine l (p_c (cycle_list_okL e2) ent_32 z z z) z <| lm z z <| l (p_ex z z) z <| l (p_ex z z) z <| la z z <| la z z <| ne <| wc_seq <| sgr z <| lm z z <| l (p_neq z z) z <| ne <| ?_
    rcases cn H with ⟨b3, H⟩ | ⟨b3, H⟩
    · refine c_t z b3 ?_
      refine sgr z <| lm z z <| la z z <| la z z <| ne <| wc_ret <| e_tr <| ?_
      obtain rfl := sm H
      exact fin (Or.inr z) (rs1 (rv z) (rs1 (rv z) rs0)) (re2 [] ⟨.dat, ⟨.dat, q⟩⟩ z h0)
    cases H
  replace H := csr H
  refine l (p_c (cycle_list_okR e2) ent_32 z z z) z <| lm z z <| l (p_ex z z) z <| l (p_ex z z) z <| la z z <| la z z <| ne <| wc_seq <| sgr z <| lm z z <| l (p_neq z z) z <| ne <| c_f z z <| se <| sgr z <| lm z z <| lm z z <| ?_
  obtain ⟨r4, e5, H⟩ := ob H
  refine l (p_c (core_Core_Starts_ok e5) ent_33 z z z) z <| lm z z <| l (p_ex z z) z <| l (p_ex z z) z <| la z z <| la z z <| ne <| sgr z <| lm z z <| la z z <| la z z <| ne <| wc_ret <| ?_
  obtain rfl := sm H
  exact fin (Or.inr z) (rs1 (rv z) (rs1 (rv z) rs0)) (re2 [] ⟨.dat, ⟨.dat, q⟩⟩ z h0)

def cycle_Legal_1 (x0 : Int) : Option Bool :=
  some ((decide (0 ≤ x0)) && (decide (x0 ≤ 1099511627776)))
theorem cycle_Legal_1_ok {x0 : Int} {R : Bool} (H : cycle_Legal_1 x0 = some R) : FnOk Tryz.prog K0 35 [(aN .i64 x0)] [] (aT R) [] := by
  refine fn_w (nt := 9) (np := 0) Tryz.func35 z z (by simp) (np_of2 z) <| ?_
  unfold cycle_Legal_1 at H
  refine sgr z <| la z z <| ne <| sgr z <| lm z z <| l (p_geq z z) z <| lm z z <| lw z (Grd.plain _) z [0] z (s1 strip_same s0) (fun hw => p_mv z) ⟨z, q⟩ (by exact q) z z <| lw z (Grd.plain _) z [6] z (s1 (strip_when id) s0) (fun hw => p_leq z z) ⟨z, q⟩ (by exact q) z z <| l (p_pkA z z q (strip_when (wt))) z <| la z z <| ne <| wc_ret <| ?_
  obtain rfl := sm H
  exact fin (Or.inr z) (rs1 (rv z) rs0) (re [] (.dat) z h0)

def cycle_all_int_k1 : Unit → Option Bool
  | () =>
    some true
def cycle_all_int_b2 (x0 : List Int) (k1 : Unit → Option Bool) (rec2 : Int → Option Bool) : Int → Option Bool
  | v1 =>
    bif decide (v1 < (x0.length : Int)) then
      (ix x0 v1).bind fun r3 =>
      (cycle_Legal_1 r3).bind fun r5 =>
      bif !r5 then some false else rec2 (w64 (v1 + 1))
    else
      k1 ()
def cycle_all_int (x0 : List Int) : Option Bool :=
  jn cycle_all_int_k1 fun k1 =>
  lp (cycle_all_int_b2 x0 k1) (x0.length + 1) 0
theorem cycle_all_int_ok {x0 : List Int} {R : Bool} (H : cycle_all_int x0 = some R) : FnOk Tryz.prog K0 34 [(aL 1 (eN .i64) x0), (.fn (.func 35) [] [])] [] (aT R) [] := by
  refine fn_w (nt := 18) (np := 0) Tryz.func34 z z (by simp) (np_of2 z) <| ?_
  unfold cycle_all_int at H
  refine sgr z <| la z z <| ne <| ?_
  refine w_jn0 H (⟨[], []⟩) ?_ ?_
  · intro H
    rw [cycle_all_int_k1] at H
    refine sgr z <| la z z <| ne <| wc_ret <| ?_
    obtain rfl := sm H
    exact fin (Or.inr z) (rs1 (rv z) rs0) (re [] (.dat) z h0)
  intro H
  refine sgr z <| lm z z <| l (p_lenL Tryz.underlying29 z) z <| lm z z <| ne <| wc_block <| w_lp1 H (fun v1 => ⟨[(1, (.fn (.func 35) [] [])), (7, (aL 1 (eN .i64) x0)), (8, (aN .i64 (x0.length : Int))), (9, (aN .i64 v1))], []⟩) (en [] (ws z z z (wd z (wd z (wd z w0)))) z h0) <| ?_
  intro n2 v1 H
  rw [cycle_all_int_b2] at H
  refine sgr z <| l (p_lss z z) z <| ne <| wc_seq <| ?_
  rcases cn H with ⟨b2, H⟩ | ⟨b2, H⟩
  · refine c_t z b2 ?_
    refine se <| wc_seq <| wc_block <| sgr z <| ?_
    obtain ⟨r3, e4, H⟩ := ob H
    refine l (p_ixL Tryz.underlying29 ty_3.size z z e4) z <| l (p_ldP ty_3 z z) z <| la z z <| ne <| sgr z <| lm z z <| lm z z <| ?_
    obtain ⟨r5, e6, H⟩ := ob H
    refine l (p_cw (ids := []) (cycle_Legal_1_ok e6) ent_35 z z z rn rn z q List.nodup_nil z z z on on z) z <| l (p_not z) z <| ne <| ?_
    rcases cn H with ⟨b7, H⟩ | ⟨b7, H⟩
    · refine c_t z b7 ?_
      refine sgr z <| la z z <| ne <| wc_ret <| ?_
      refine e_br (e_tr (e_tr (e_br (e_tr ?_))))
      obtain rfl := sm H
      exact fin (Or.inr z) (rs1 (rv z) rs0) (re [] (.dat) z h0)
    refine c_f z b7 <| wc_skip <| ?_
    refine e_bn (e_n ?_)
    refine wc_region z <| l (p_add z z) z <| lm z z <| ne <| ?_
    exact ⟨w64 (v1 + 1), H, en [] (ws z z z (wd z (wd z (wd z w0)))) z h0⟩
  refine c_f z b2 <| wc_exit <| ?_
  refine e_te (e_te (e_h (e_n ?_)))
  exact ⟨H, en [] w0 z h0⟩

def slices_IsSorted_int_int_k1 : Unit → Option Bool
  | () =>
    some true
def slices_IsSorted_int_int_b2 (x0 : List Int) (k1 : Unit → Option Bool) (rec2 : Int → Option Bool) : Int → Option Bool
  | v1 =>
    bif decide (0 < v1) then
      (ix x0 v1).bind fun r3 =>
      (ix x0 (w64 (v1 - 1))).bind fun r5 =>
      (cmp_Less_int r3 r5).bind fun r7 =>
      bif r7 then some false else rec2 (w64 (v1 - 1))
    else
      k1 ()
def slices_IsSorted_int_int (x0 : List Int) : Option Bool :=
  jn slices_IsSorted_int_int_k1 fun k1 =>
  lp (slices_IsSorted_int_int_b2 x0 k1) ((w64 ((x0.length : Int) - 1)).toNat + 1) (w64 ((x0.length : Int) - 1))
theorem slices_IsSorted_int_int_ok {x0 : List Int} {R : Bool} (H : slices_IsSorted_int_int x0 = some R) : FnOk Tryz.prog K0 36 [(aL 1 (eN .i64) x0)] [] (aT R) [] := by
  refine fn_w (nt := 21) (np := 0) Tryz.func36 z z (by simp) (np_of2 z) <| ?_
  unfold slices_IsSorted_int_int at H
  refine sgr z <| la z z <| ne <| ?_
  refine w_jn0 H (⟨[], []⟩) ?_ ?_
  · intro H
    rw [slices_IsSorted_int_int_k1] at H
    refine sgr z <| la z z <| ne <| wc_ret <| ?_
    obtain rfl := sm H
    exact fin (Or.inr z) (rs1 (rv z) rs0) (re [] (.dat) z h0)
  intro H
  refine sgr z <| lm z z <| l (p_lenL Tryz.underlying29 z) z <| l (p_sub z z) z <| la z z <| ne <| wc_block <| w_lp1 H (fun v1 => ⟨[(0, (aL 1 (eN .i64) x0)), (3, (aN .i64 v1))], []⟩) (en [] (wd z (wd z w0)) z h0) <| ?_
  intro n2 v1 H
  rw [slices_IsSorted_int_int_b2] at H
  refine wc_seq <| sgr z <| lm z z <| l (p_gtr z z) z <| ne <| ?_
  rcases cn H with ⟨b2, H⟩ | ⟨b2, H⟩
  · refine c_t z b2 ?_
    refine se <| wc_seq <| wc_block <| wc_seq <| wc_draw [0, 0, 3, 7, 0, 0, 32, 112, 240, 511] mixed z <| dm z z <| dm z z <| ?_
    obtain ⟨r3, e4, H⟩ := ob H
    refine dr (p_ixL Tryz.underlying29 ty_3.size z z e4) z <| dr (p_ldP ty_3 z z) z <| dm z z <| dm z z <| dr (p_sub z z) z <| ?_
    obtain ⟨r5, e6, H⟩ := ob H
    refine dr (p_ixL Tryz.underlying29 ty_3.size z z e6) z <| dr (p_ldP ty_3 z z) z <| ?_
    obtain ⟨r7, e8, H⟩ := ob H
    refine dr (p_c (cmp_Less_int_ok e8) ent_71 z z z) z <| ?_
    refine wd_nil ?_ (by kernel_rfl)
    refine e_n <| ?_
    rcases cn H with ⟨b9, H⟩ | ⟨b9, H⟩
    · refine c_t z b9 ?_
      refine sgr z <| la z z <| ne <| wc_ret <| ?_
      refine e_br (e_tr (e_tr (e_br (e_tr ?_))))
      obtain rfl := sm H
      exact fin (Or.inr z) (rs1 (rv z) rs0) (re [] (.dat) z h0)
    refine c_f z b9 <| wc_skip <| ?_
    refine e_bn (e_n ?_)
    refine wc_region z <| lm z z <| l (p_sub z z) z <| la z z <| ne <| ?_
    exact ⟨w64 (v1 - 1), H, en [] (wd z (wd z w0)) z h0⟩
  refine c_f z b2 <| wc_exit <| ?_
  refine e_te (e_te (e_h (e_n ?_)))
  exact ⟨H, en [] w0 z h0⟩

def core_Waits_k1 (x0 : Touch) (x1 : Touch) : Unit → Option Bool
  | () =>
    some (x0.Stores && (x1.Loads || x1.Stores))
def core_Waits_b2 (x0 : Touch) (x1 : Touch) (k1 : Unit → Option Bool) (rec2 : Int → Option Bool) : Int → Option Bool
  | v1 =>
    bif decide (v1 < (x0.Writes.length : Int)) then
      (ix x0.Writes v1).bind fun r3 =>
      (bif (true && ((r3 != 0) == true)) then ix x1.Reads v1 else some default).bind fun r5 =>
      (bif (true && ((r3 != 0) == true)) then ix x1.Writes v1 else some default).bind fun r7 =>
      bif (r3 != 0) && ((bOr .u64 r5 r7) != 0) then some true else rec2 (w64 (v1 + 1))
    else
      k1 ()
def core_Waits (x0 : Touch) (x1 : Touch) : Option Bool :=
  jn (core_Waits_k1 x0 x1) fun k1 =>
  lp (core_Waits_b2 x0 x1 k1) (x0.Writes.length + 1) 0
theorem core_Waits_ok {x0 : Touch} {x1 : Touch} {R : Bool} (H : core_Waits x0 x1 = some R) : FnOk Tryz.prog K0 38 [(aA (encTouch x0)), (aA (encTouch x1))] [] (aT R) [] := by
  refine fn_w (nt := 42) (np := 0) Tryz.func38 z z (by simp) (np_of2 z) <| ?_
  unfold core_Waits at H
  refine sgr z <| lh (p_bx 0 z q z) z <| lh (p_bx 1 z q z) z <| la z z <| ne <| ?_
  refine w_jn0 H (⟨[(2, (.ptr 0 0)), (3, (.ptr 1 0))], [(0, (oD 85 (encTouch x0))), (1, (oD 85 (encTouch x1)))]⟩) ?_ ?_
  · intro H
    rw [core_Waits_k1] at H
    refine sgr z <| l (p_fd fld_85_3 z) z <| l (p_ld ty_4 z z z) z <| lm z z <| lw z (Grd.plain _) z [3] z (s1 strip_same s0) (fun hw => p_fd fld_85_2 z) ⟨z, q⟩ (by exact q) z z <| lw z (Grd.plain _) z [35] z (s1 (strip_when id) s0) (fun hw => p_ld ty_4 z z z) ⟨z, q⟩ (by exact ⟨z, q⟩) z z <| lw z (Grd.plain _) z [36] z (s1 (strip_when id) s0) (fun hw => p_mv z) ⟨z, q⟩ (by exact q) z z <| lw z (Grd.under _ _) z [3] z (s1 strip_same s0) (fun hw => p_fd fld_85_3 z) ⟨z, q⟩ (by exact q) z z <| lw z (Grd.under _ _) z [38] z (s1 (strip_when id) s0) (fun hw => p_ld ty_4 z z z) ⟨z, q⟩ (by exact ⟨z, q⟩) z z <| lw z (Grd.plain _) z [37, 39] z (s1 (strip_when id) (s1 strip_same s0)) (fun hw => p_pkO z z q (strip_when (wfc hw))) ⟨z, ⟨z, q⟩⟩ (by exact q) z z <| l (p_pkA z z q (strip_when (wt))) z <| la z z <| ne <| wc_ret <| ?_
    obtain rfl := sm H
    exact fin (Or.inr z) (rs1 (rv z) rs0) (re [] (.dat) z h0)
  intro H
  refine sgr z <| l (p_fd fld_85_1 z) z <| l (p_ld ty_83 z z z) z <| l (p_lenL Tryz.underlying83 z) z <| lm z z <| ne <| wc_block <| w_lp1 H (fun v1 => ⟨[(2, (.ptr 0 0)), (3, (.ptr 1 0)), (8, (aL 1 (eN .u64) x0.Writes)), (9, (aN .i64 (x0.Writes.length : Int))), (10, (aN .i64 v1))], [(0, (oD 85 (encTouch x0))), (1, (oD 85 (encTouch x1)))]⟩) (en [(0, 0), (1, 1)] (ws z z z (ws z z z (wd z (wd z (wd z w0))))) z (hc z (hc z h0))) <| ?_
  intro n2 v1 H
  rw [core_Waits_b2] at H
  refine sgr z <| l (p_lss z z) z <| ne <| wc_seq <| ?_
  rcases cn H with ⟨b2, H⟩ | ⟨b2, H⟩
  · refine c_t z b2 ?_
    refine se <| wc_seq <| wc_block <| sgr z <| lm z z <| ?_
    obtain ⟨r3, e4, H⟩ := ob H
    refine l (p_ixL Tryz.underlying83 ty_57.size z z e4) z <| l (p_ldP ty_57 z z) z <| la z z <| la z z <| ne <| wc_seq <| wc_draw [0, 1, 3, 7, 15, 7, 63, 127, 7, 263, 7, 1799, 3847, 8191, 16383, 32767] mixed z <| dm z z <| dr (p_neq z z) z <| dm z z <| dw z (Grd.plain _) z [3] z (s1 strip_same s0) (fun hw => p_fd fld_85_0 z) ⟨z, q⟩ (by exact q) z <| dw z (Grd.plain _) z [18] z (s1 (strip_when id) s0) (fun hw => p_ld ty_83 z z z) ⟨z, q⟩ (by exact ⟨z, q⟩) z <| dw z (Grd.plain _) z [5] z (s1 strip_same s0) (fun hw => p_mv z) ⟨z, q⟩ (by exact q) z <| ?_
    obtain ⟨r5, e6, H⟩ := ob H
    refine dw z (Grd.plain _) z [19, 20] z (s1 (strip_when id) (s1 (strip_when id) s0)) (fun hw => p_ixL Tryz.underlying83 ty_57.size z z (bt hw e6)) ⟨z, ⟨z, q⟩⟩ (by exact q) z <| dw z (Grd.plain _) z [21] z (s1 (strip_when id) s0) (fun hw => p_ldP ty_57 z z) ⟨z, q⟩ (by exact q) z <| dw z (Grd.plain _) z [3] z (s1 strip_same s0) (fun hw => p_fd fld_85_1 z) ⟨z, q⟩ (by exact q) z <| dw z (Grd.plain _) z [23] z (s1 (strip_when id) s0) (fun hw => p_ld ty_83 z z z) ⟨z, q⟩ (by exact ⟨z, q⟩) z <| dw z (Grd.plain _) z [5] z (s1 strip_same s0) (fun hw => p_mv z) ⟨z, q⟩ (by exact q) z <| ?_
    obtain ⟨r7, e8, H⟩ := ob H
    refine dw z (Grd.plain _) z [24, 25] z (s1 (strip_when id) (s1 (strip_when id) s0)) (fun hw => p_ixL Tryz.underlying83 ty_57.size z z (bt hw e8)) ⟨z, ⟨z, q⟩⟩ (by exact q) z <| dw z (Grd.plain _) z [26] z (s1 (strip_when id) s0) (fun hw => p_ldP ty_57 z z) ⟨z, q⟩ (by exact q) z <| dw z (Grd.plain _) z [22, 27] z (s1 (strip_when id) (s1 (strip_when id) s0)) (fun hw => p_or z z) ⟨z, ⟨z, q⟩⟩ (by exact q) z <| dw z (Grd.plain _) z [28] z (s1 (strip_when id) s0) (fun hw => p_neq z z) ⟨z, q⟩ (by exact q) z <| dr (p_pkA z z q (strip_when (wt))) z <| ?_
    refine wd_nil ?_ (by kernel_rfl)
    refine e_n <| ?_
    rcases cn H with ⟨b9, H⟩ | ⟨b9, H⟩
    · refine c_t z b9 ?_
      refine sgr z <| la z z <| ne <| wc_ret <| ?_
      refine e_br (e_tr (e_tr (e_br (e_tr ?_))))
      obtain rfl := sm H
      exact fin (Or.inr z) (rs1 (rv z) rs0) (re [] (.dat) z h0)
    refine c_f z b9 <| wc_skip <| ?_
    refine e_bn (e_n ?_)
    refine wc_region z <| l (p_add z z) z <| lm z z <| ne <| ?_
    exact ⟨w64 (v1 + 1), H, en [(0, 0), (1, 1)] (ws z z z (ws z z z (wd z (wd z (wd z w0))))) z (hc z (hc z h0))⟩
  refine c_f z b2 <| wc_exit <| ?_
  refine e_te (e_te (e_h (e_n ?_)))
  exact ⟨H, en [(0, 0), (1, 1)] (ws z z z (ws z z z w0)) z (hc z (hc z h0))⟩

end Go.Proofs.YtgmpgoafokdcbaaGreatDoor.Sx
