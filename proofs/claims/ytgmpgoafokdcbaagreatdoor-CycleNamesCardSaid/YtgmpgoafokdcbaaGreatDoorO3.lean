/- Plain functions and their proofs, part 4: what the functions of the given program compute; printed by a program of this repo (dxmake.py). -/
import Derived.Test.YtgmpgoafokdcbaaGreatDoorO2
import Derived.Test.YtgmpgoafokdcbaaGreatDoorProg
set_option linter.unusedVariables false
set_option linter.unusedSimpArgs false
set_option maxRecDepth 100000
set_option maxHeartbeats 4000000
namespace Go.Proofs.YtgmpgoafokdcbaaGreatDoor.Sx
open Go Go.RowKit
def math_bits_Len64_k3 : Int × Int → Option Int
  | (v5, v6) =>
    (sIx (⟨#[0, 1, 2, 2, 3, 3, 3, 3, 4, 4, 4, 4, 4, 4, 4, 4, 5, 5, 5, 5, 5, 5, 5, 5, 5, 5, 5, 5, 5, 5, 5, 5, 6, 6, 6, 6, 6, 6, 6, 6, 6, 6, 6, 6, 6, 6, 6, 6, 6, 6, 6, 6, 6, 6, 6, 6, 6, 6, 6, 6, 6, 6, 6, 6, 7, 7, 7, 7, 7, 7, 7, 7, 7, 7, 7, 7, 7, 7, 7, 7, 7, 7, 7, 7, 7, 7, 7, 7, 7, 7, 7, 7, 7, 7, 7, 7, 7, 7, 7, 7, 7, 7, 7, 7, 7, 7, 7, 7, 7, 7, 7, 7, 7, 7, 7, 7, 7, 7, 7, 7, 7, 7, 7, 7, 7, 7, 7, 7, 8, 8, 8, 8, 8, 8, 8, 8, 8, 8, 8, 8, 8, 8, 8, 8, 8, 8, 8, 8, 8, 8, 8, 8, 8, 8, 8, 8, 8, 8, 8, 8, 8, 8, 8, 8, 8, 8, 8, 8, 8, 8, 8, 8, 8, 8, 8, 8, 8, 8, 8, 8, 8, 8, 8, 8, 8, 8, 8, 8, 8, 8, 8, 8, 8, 8, 8, 8, 8, 8, 8, 8, 8, 8, 8, 8, 8, 8, 8, 8, 8, 8, 8, 8, 8, 8, 8, 8, 8, 8, 8, 8, 8, 8, 8, 8, 8, 8, 8, 8, 8, 8, 8, 8, 8, 8, 8, 8, 8, 8, 8, 8, 8, 8, 8, 8, 8, 8, 8, 8, 8, 8, 8, 8, 8, 8, 8, 8]⟩ : ByteArray) (IntKind.wrap .u8 v5)).bind fun r7 =>
    some (w64 (v6 + (w64 r7)))
def math_bits_Len64_k2 : Int × Int → Option Int
  | (v3, v4) =>
    jn math_bits_Len64_k3 fun k3 =>
    bif decide (256 ≤ v3) then k3 ((sShr .u64 v3 8, w64 (v4 + 8))) else k3 (v3, v4)
def math_bits_Len64_k1 : Int × Int → Option Int
  | (v1, v2) =>
    jn math_bits_Len64_k2 fun k2 =>
    bif decide (65536 ≤ v1) then k2 ((sShr .u64 v1 16, w64 (v2 + 16))) else k2 (v1, v2)
def math_bits_Len64 (x0 : Int) : Option Int :=
  jn math_bits_Len64_k1 fun k1 =>
  bif decide (4294967296 ≤ x0) then k1 (sShr .u64 x0 32, 32) else k1 (x0, 0)
theorem math_bits_Len64_ok {x0 : Int} {R : Int} (H : math_bits_Len64 x0 = some R) : FnOk Tryz.prog K0 116 [(aN .u64 x0)] [] (aN .i64 R) [] := by
  refine fn_w (nt := 25) (np := 0) Tryz.func116 z z (by simp) (np_of2 z) <| ?_
  unfold math_bits_Len64 at H
  refine sgr z <| la z z <| ne <| ?_
  refine w_jn2 H (fun v1 v2 => ⟨[(0, (aN .u64 v1)), (2, (aN .i64 v2))], []⟩) ?_ ?_
  · intro v1 v2 H
    rw [math_bits_Len64_k1] at H
    refine w_jn2 H (fun v3 v4 => ⟨[(0, (aN .u64 v3)), (2, (aN .i64 v4))], []⟩) ?_ ?_
    · intro v3 v4 H
      rw [math_bits_Len64_k2] at H
      refine w_jn2 H (fun v5 v6 => ⟨[(0, (aN .u64 v5)), (2, (aN .i64 v6))], []⟩) ?_ ?_
      · intro v5 v6 H
        rw [math_bits_Len64_k3] at H
        refine sgr z <| lm z z <| lm z z <| l (p_cv Tryz.underlying57 Tryz.underlying5 z) z <| ?_
        obtain ⟨r7, e8, H⟩ := ob H
        refine l (p_ixS Tryz.underlying9 z z e8) z <| l (p_cv Tryz.underlying5 Tryz.underlying3 z) z <| l (p_add z z) z <| la z z <| ne <| wc_ret <| ?_
        obtain rfl := sm H
        exact fin (Or.inr z) (rs1 (rv z) rs0) (re [] (.dat) z h0)
      intro H
      refine sgr z <| lm z z <| l (p_geq z z) z <| ne <| ?_
      rcases cn H with ⟨b9, H⟩ | ⟨b9, H⟩
      · refine c_t z b9 ?_
        refine sgr z <| lm z z <| l (p_shr z z z) z <| la z z <| ne <| wc_region z <| lm z z <| l (p_add z z) z <| la z z <| ne <| ?_
        exact ⟨sShr .u64 v3 8, w64 (v4 + 8), H, en [] (wd z (wd z w0)) z h0⟩
      refine c_f z b9 <| se <| ?_
      exact ⟨v3, v4, H, en [] (wd z (wd z w0)) z h0⟩
    intro H
    refine sgr z <| lm z z <| l (p_geq z z) z <| ne <| ?_
    rcases cn H with ⟨b10, H⟩ | ⟨b10, H⟩
    · refine c_t z b10 ?_
      refine sgr z <| lm z z <| l (p_shr z z z) z <| la z z <| ne <| wc_region z <| lm z z <| l (p_add z z) z <| la z z <| ne <| ?_
      exact ⟨sShr .u64 v1 16, w64 (v2 + 16), H, en [] (wd z (wd z w0)) z h0⟩
    refine c_f z b10 <| se <| ?_
    exact ⟨v1, v2, H, en [] (wd z (wd z w0)) z h0⟩
  intro H
  refine sgr z <| lm z z <| l (p_geq z z) z <| ne <| ?_
  rcases cn H with ⟨b11, H⟩ | ⟨b11, H⟩
  · refine c_t z b11 ?_
    refine sgr z <| lm z z <| l (p_shr z z z) z <| la z z <| ne <| wc_region z <| la z z <| ne <| ?_
    exact ⟨sShr .u64 x0 32, 32, H, en [] (wd z (wd z w0)) z h0⟩
  refine c_f z b11 <| se <| ?_
  exact ⟨x0, 0, H, en [] (wd z (wd z w0)) z h0⟩

def math_bits_Len (x0 : Int) : Option Int :=
  (math_bits_Len64 x0).bind fun r1 =>
  some r1
theorem math_bits_Len_ok {x0 : Int} {R : Int} (H : math_bits_Len x0 = some R) : FnOk Tryz.prog K0 95 [(aN .u64 x0)] [] (aN .i64 R) [] := by
  refine fn_w (nt := 8) (np := 0) Tryz.func95 z z (by simp) (np_of2 z) <| ?_
  unfold math_bits_Len at H
  refine sgr z <| la z z <| ne <| wc_seq <| c_cf <| se <| sgr z <| lm z z <| ?_
  obtain ⟨r1, e2, H⟩ := ob H
  refine l (p_c (math_bits_Len64_ok e2) ent_116 z z z) z <| la z z <| ne <| wc_ret <| ?_
  obtain rfl := sm H
  exact fin (Or.inr z) (rs1 (rv z) rs0) (re [] (.dat) z h0)

def slices_insertionSortOrdered_int_k2 (v1 : Int) (rec1 : Int × (List Int) → Option (List Int)) : (List Int) → Option (List Int)
  | v4 =>
    rec1 ((w64 (v1 + 1), v4))
def slices_insertionSortOrdered_int_b3 (x1 : Int) (k2 : (List Int) → Option (List Int)) (rec3 : Int × (List Int) → Option (List Int)) : Int × (List Int) → Option (List Int)
  | (v5, v6) =>
    (bif (true && ((decide (x1 < v5)) == true)) then ix v6 v5 else some default).bind fun r7 =>
    (bif (true && ((decide (x1 < v5)) == true)) then ix v6 (w64 (v5 - 1)) else some default).bind fun r9 =>
    (bif (true && ((decide (x1 < v5)) == true)) then cmp_Less_int r7 r9 else some default).bind fun r11 =>
    bif (decide (x1 < v5)) && r11 then
      (ix v6 (w64 (v5 - 1))).bind fun r14 =>
      (ix v6 v5).bind fun r16 =>
      (ix v6 v5).bind fun r18 =>
      (ix (v6.set v5.toNat r14) (w64 (v5 - 1))).bind fun r20 =>
      rec3 ((w64 (v5 - 1), (v6.set v5.toNat r14).set (w64 (v5 - 1)).toNat r16))
    else
      k2 v6
def slices_insertionSortOrdered_int_b1 (x1 : Int) (x2 : Int) (rec1 : Int × (List Int) → Option (List Int)) : Int × (List Int) → Option (List Int)
  | (v1, v2) =>
    bif decide (v1 < x2) then
      jn (slices_insertionSortOrdered_int_k2 v1 rec1) fun k2 =>
      lp (slices_insertionSortOrdered_int_b3 x1 k2) ((v1 - x1).toNat + 1) (v1, v2)
    else
      some v2
def slices_insertionSortOrdered_int (x0 : List Int) (x1 : Int) (x2 : Int) : Option (List Int) :=
  lp (slices_insertionSortOrdered_int_b1 x1 x2) ((x2 - (w64 (x1 + 1))).toNat + 1) ((w64 (x1 + 1), x0))
theorem slices_insertionSortOrdered_int_ok {x0 : List Int} {x1 : Int} {x2 : Int} {R : (List Int)} (H : slices_insertionSortOrdered_int x0 x1 x2 = some R) : FnOk Tryz.prog K0 107 [(.row 0), (aN .i64 x1), (aN .i64 x2)] [(0, (oR 3 1 (eN .i64) x0))] (.tup []) [(0, (oR 3 1 (eN .i64) R))] := by
  refine fn_w (nt := 49) (np := 1) Tryz.func107 z z (by simp) (np_of2 z) <| ?_
  unfold slices_insertionSortOrdered_int at H
  refine sgr z <| lm z z <| l (p_add z z) z <| la z z <| ne <| wc_block <| w_lp2 H (fun v1 v2 => ⟨[(0, (.row 0)), (1, (aN .i64 x1)), (2, (aN .i64 x2)), (6, (aN .i64 v1))], [(0, (oR 3 1 (eN .i64) v2))]⟩) (en [(0, 0)] (ws z z z (wd z (wd z (wd z w0)))) z (hr z h0)) <| ?_
  intro n1 v1 v2 H
  rw [slices_insertionSortOrdered_int_b1] at H
  refine wc_seq <| sgr z <| lm z z <| lm z z <| l (p_lss z z) z <| ne <| ?_
  rcases cn H with ⟨b3, H⟩ | ⟨b3, H⟩
  · refine c_t z b3 ?_
    refine se <| ?_
    refine w_jn1 H (fun v4 => ⟨[(0, (.row 0)), (1, (aN .i64 x1)), (2, (aN .i64 x2)), (6, (aN .i64 v1))], [(0, (oR 3 1 (eN .i64) v4))]⟩) ?_ ?_
    · intro v4 H
      rw [slices_insertionSortOrdered_int_k2] at H
      refine wc_region z <| lm z z <| l (p_add z z) z <| la z z <| ne <| ?_
      exact ⟨w64 (v1 + 1), v4, H, en [(0, 0)] (ws z z z (wd z (wd z (wd z w0)))) z (hr z h0)⟩
    intro H
    refine wc_block <| sgr z <| lm z z <| la z z <| ne <| wc_block <| w_lp2 H (fun v5 v6 => ⟨[(0, (.row 0)), (1, (aN .i64 x1)), (2, (aN .i64 x2)), (6, (aN .i64 v1)), (7, (aN .i64 v5))], [(0, (oR 3 1 (eN .i64) v6))]⟩) (en [(0, 0)] (ws z z z (wd z (wd z (wd z (wd z w0))))) z (hr z h0)) <| ?_
    intro n3 v5 v6 H
    rw [slices_insertionSortOrdered_int_b3] at H
    refine wc_seq <| wc_seq <| wc_draw [0, 0, 3, 7, 15, 15, 63, 127, 15, 15, 527, 1807, 3855, 8191, 16383] mixed z <| dm z z <| dm z z <| dr (p_gtr z z) z <| dm z z <| dw z (Grd.plain _) z [0] z (s1 strip_same s0) (fun hw => p_mv z) ⟨z, q⟩ (by exact q) z <| dw z (Grd.plain _) z [7] z (s1 strip_same s0) (fun hw => p_mv z) ⟨z, q⟩ (by exact q) z <| ?_
    obtain ⟨r7, e8, H⟩ := ob H
    refine dw z (Grd.plain _) z [20, 21] z (s1 (strip_when id) (s1 (strip_when id) s0)) (fun hw => p_ixR Tryz.underlying29 ty_3.size z z z (bt hw e8)) ⟨z, ⟨z, q⟩⟩ (by exact ⟨z, q⟩) z <| dw z (Grd.plain _) z [22] z (s1 (strip_when id) s0) (fun hw => p_ldR (n := v5) (j := 0) (sz := 1) (k := 0) (r := r7) (f := (eN .i64)) (fun _ => z) ty_3 z z (bt hw e8) z) ⟨z, q⟩ (by exact ⟨z, q⟩) z <| dw z (Grd.plain _) z [0] z (s1 strip_same s0) (fun hw => p_mv z) ⟨z, q⟩ (by exact q) z <| dw z (Grd.plain _) z [7] z (s1 strip_same s0) (fun hw => p_mv z) ⟨z, q⟩ (by exact q) z <| dw z (Grd.plain _) z [25] z (s1 (strip_when id) s0) (fun hw => p_sub z z) ⟨z, q⟩ (by exact q) z <| ?_
    obtain ⟨r9, e10, H⟩ := ob H
    refine dw z (Grd.plain _) z [24, 26] z (s1 (strip_when id) (s1 (strip_when id) s0)) (fun hw => p_ixR Tryz.underlying29 ty_3.size z z z (bt hw e10)) ⟨z, ⟨z, q⟩⟩ (by exact ⟨z, q⟩) z <| dw z (Grd.plain _) z [27] z (s1 (strip_when id) s0) (fun hw => p_ldR (n := (w64 (v5 - 1))) (j := 0) (sz := 1) (k := 0) (r := r9) (f := (eN .i64)) (fun _ => z) ty_3 z z (bt hw e10) z) ⟨z, q⟩ (by exact ⟨z, q⟩) z <| ?_
    obtain ⟨r11, e12, H⟩ := ob H
    refine dw z (Grd.plain _) z [23, 28] z (s1 (strip_when id) (s1 (strip_when id) s0)) (fun hw => p_c (cmp_Less_int_ok (bt hw e12)) ent_71 z z z) ⟨z, ⟨z, q⟩⟩ (by exact q) z <| dr (p_pkA z z q (strip_when (wt))) z <| ?_
    refine wd_nil ?_ (by kernel_rfl)
    refine e_n <| ?_
    rcases cn H with ⟨b13, H⟩ | ⟨b13, H⟩
    · refine c_t z b13 ?_
      refine se <| wc_seq <| wc_block <| wc_draw [0, 0, 0, 0, 8, 0, 0, 64, 224, 480, 0, 0, 3072, 7168, 16355, 32739, 65535, 131071] mixed z <| dm z z <| dm z z <| dm z z <| dm z z <| dr (p_sub z z) z <| dm z z <| dm z z <| dr (p_sub z z) z <| ?_
      obtain ⟨r14, e15, H⟩ := ob H
      refine dr (p_ixR Tryz.underlying29 ty_3.size z z z e15) z <| dr (p_ldR (n := (w64 (v5 - 1))) (j := 0) (sz := 1) (k := 0) (r := r14) (f := (eN .i64)) (fun _ => z) ty_3 z z e15 z) z <| dm z z <| dm z z <| ?_
      obtain ⟨r16, e17, H⟩ := ob H
      refine dr (p_ixR Tryz.underlying29 ty_3.size z z z e17) z <| dr (p_ldR (n := v5) (j := 0) (sz := 1) (k := 0) (r := r16) (f := (eN .i64)) (fun _ => z) ty_3 z z e17 z) z <| ?_
      obtain ⟨r18, e19, H⟩ := ob H
      refine dr (p_ixR Tryz.underlying29 ty_3.size z z z e19) z <| dr0h (p_stR (sz := 1) (n := v5) (j := 0) (r := r18) (f := (eN .i64)) (ds := [.lit (.int .i64 r14)]) (r' := r14) (fun _ => z) ty_3 (.inr z) z z z e19 q z z z z) <| ?_
      obtain ⟨r20, e21, H⟩ := ob H
      refine dr (p_ixR Tryz.underlying29 ty_3.size z z z e21) z <| dr0h (p_stR (sz := 1) (n := (w64 (v5 - 1))) (j := 0) (r := r20) (f := (eN .i64)) (ds := [.lit (.int .i64 r16)]) (r' := r16) (fun _ => z) ty_3 (.inr z) z z z e21 q z z z z) <| ?_
      refine wd_nil ?_ (by kernel_rfl)
      refine e_bn (e_n ?_)
      refine wc_region z <| lm z z <| l (p_sub z z) z <| la z z <| ne <| ?_
      exact ⟨w64 (v5 - 1), (v6.set v5.toNat r14).set (w64 (v5 - 1)).toNat r16, H, en [(0, 0)] (ws z z z (wd z (wd z (wd z (wd z w0))))) z (hr z h0)⟩
    refine c_f z b13 <| wc_exit <| ?_
    refine e_te (e_te (e_h (e_bn (e_n ?_))))
    exact ⟨v6, H, en [(0, 0)] (ws z z z (wd z (wd z (wd z w0)))) z (hr z h0)⟩
  refine c_f z b3 <| wc_exit <| ?_
  refine e_te (e_te (e_h ?_))
  obtain rfl := sm H
  exact fin (Or.inl z) rs0 (re2 [(0, 0)] q z (hr z h0))

def slices_pdqsortOrdered_int_k2 : Int → Option (List Int)
  | v11 =>
    none
def slices_pdqsortOrdered_int_b1 (rec1 : Int × Int × Int × Bool × Bool × (List Int) → Option (List Int)) : Int × Int × Int × Bool × Bool × (List Int) → Option (List Int)
  | (v1, v2, v3, v4, v5, v6) =>
    bif decide ((w64 (v2 - v1)) ≤ 12) then
      (slices_insertionSortOrdered_int v6 v1 v2).bind fun r8 =>
      some r8
    else
      bif v3 == 0 then
        none
      else
        jn slices_pdqsortOrdered_int_k2 fun k2 =>
        bif !v4 then none else k2 v3
def slices_pdqsortOrdered_int_f (self : (List Int) → Int → Int → Int → Option (List Int)) (x0 : List Int) (x1 : Int) (x2 : Int) (x3 : Int) : Option (List Int) :=
  lp slices_pdqsortOrdered_int_b1 1 (x1, x2, x3, true, true, x0)
def slices_pdqsortOrdered_int : Nat → (List Int) → Int → Int → Int → Option (List Int)
  | 0 => fun _ _ _ _ => none
  | n + 1 => slices_pdqsortOrdered_int_f (slices_pdqsortOrdered_int n)
theorem slices_pdqsortOrdered_int_ok {n : Nat} : ∀ {x0 : List Int} {x1 : Int} {x2 : Int} {x3 : Int} {R : (List Int)}, slices_pdqsortOrdered_int n x0 x1 x2 x3 = some R → FnOk Tryz.prog K0 94 [(.row 0), (aN .i64 x1), (aN .i64 x2), (aN .i64 x3)] [(0, (oR 3 1 (eN .i64) x0))] (.tup []) [(0, (oR 3 1 (eN .i64) R))] := by
  induction n with
  | zero => intro x0 x1 x2 x3 R H; cases H
  | succ n ih =>
    intro x0 x1 x2 x3 R H
    refine fn_w (nt := 134) (np := 1) Tryz.func94 z z (by simp) (np_of2 z) <| ?_
    have H : slices_pdqsortOrdered_int_f (slices_pdqsortOrdered_int n) x0 x1 x2 x3 = some R := H
    unfold slices_pdqsortOrdered_int_f at H
    refine sgr z <| la z z <| ne <| sgr z <| la z z <| ne <| wc_block <| w_lp6 H (fun v1 v2 v3 v4 v5 v6 => ⟨[(0, (.row 0)), (1, (aN .i64 v1)), (2, (aN .i64 v2)), (3, (aN .i64 v3)), (8, (aT v4)), (9, (aT v5))], [(0, (oR 3 1 (eN .i64) v6))]⟩) (en [(0, 0)] (ws z z z (wd z (wd z (wd z (wd z (wd z w0)))))) z (hr z h0)) <| ?_
    intro n1 v1 v2 v3 v4 v5 v6 H
    rw [slices_pdqsortOrdered_int_b1] at H
    refine wc_block <| sgr z <| lm z z <| lm z z <| l (p_sub z z) z <| la z z <| ne <| wc_seq <| sgr z <| lm z z <| l (p_leq z z) z <| ne <| ?_
    rcases cn H with ⟨b7, H⟩ | ⟨b7, H⟩
    · refine c_t z b7 ?_
      refine sgr z <| lm z z <| lm z z <| lm z z <| ?_
      obtain ⟨r8, e9, H⟩ := ob H
      refine lh (p_ch (ids := [0]) (slices_insertionSortOrdered_int_ok e9) ent_107 z z (rc z rm rn) (rc z rm rn) z ⟨z, q⟩ (by decide) z z z (oc om on) (oc om on) z) z <| ne <| wc_ret <| ?_
      refine e_tr (e_br (e_tr (e_br ?_)))
      obtain rfl := sm H
      exact fin (Or.inr z) rs0 (re2 [(0, 0)] q z (hr z h0))
    refine c_f z b7 <| se <| wc_seq <| sgr z <| lm z z <| l (p_eql z z) z <| ne <| ?_
    rcases cn H with ⟨b10, H⟩ | ⟨b10, H⟩
    · refine c_t z b10 ?_
      refine sgr z <| lm z z <| lm z z <| lm z z <| ?_
      cases H
    refine c_f z b10 <| se <| ?_
    refine w_jn1 H (fun v11 => ⟨[(0, (.row 0)), (1, (aN .i64 v1)), (2, (aN .i64 v2)), (3, (aN .i64 v11)), (8, (aT v4)), (9, (aT v5)), (10, (aN .i64 (w64 (v2 - v1))))], [(0, (oR 3 1 (eN .i64) v6))]⟩) ?_ ?_
    · intro v11 H
      rw [slices_pdqsortOrdered_int_k2] at H
      refine sgr z <| lm z z <| lm z z <| lm z z <| ?_
      cases H
    intro H
    refine sgr z <| lm z z <| l (p_not z) z <| ne <| ?_
    rcases cn H with ⟨b12, H⟩ | ⟨b12, H⟩
    · refine c_t z b12 ?_
      refine sgr z <| lm z z <| lm z z <| lm z z <| ?_
      cases H
    refine c_f z b12 <| se <| ?_
    exact ⟨v3, H, en [(0, 0)] (ws z z z (wd z (wd z (wd z (wd z (wd z (wd z w0))))))) z (hr z h0)⟩

def slices_Sort_int_int (x0 : List Int) : Option (List Int) :=
  (math_bits_Len (IntKind.wrap .u64 (x0.length : Int))).bind fun r1 =>
  (slices_pdqsortOrdered_int 2 x0 0 (x0.length : Int) r1).bind fun r3 =>
  some r3
theorem slices_Sort_int_int_ok {x0 : List Int} {R : (List Int)} (H : slices_Sort_int_int x0 = some R) : FnOk Tryz.prog K0 68 [(.row 0)] [(0, (oR 3 1 (eN .i64) x0))] (.tup []) [(0, (oR 3 1 (eN .i64) R))] := by
  refine fn_w (nt := 11) (np := 1) Tryz.func68 z z (by simp) (np_of2 z) <| ?_
  unfold slices_Sort_int_int at H
  refine sgr z <| lm z z <| l (p_lenR Tryz.underlying29 z z) z <| la z z <| ne <| wc_region z <| lm z z <| lm z z <| lm z z <| l (p_cv Tryz.underlying3 Tryz.underlying54 z) z <| ?_
  obtain ⟨r1, e2, H⟩ := ob H
  refine l (p_c (math_bits_Len_ok e2) ent_95 z z z) z <| ?_
  obtain ⟨r3, e4, H⟩ := ob H
  refine lh (p_ch (ids := [0]) (slices_pdqsortOrdered_int_ok e4) ent_94 z z (rc z rm rn) (rc z rm rn) z ⟨z, q⟩ (by decide) z z z (oc om on) (oc om on) z) z <| wl_nil <| ?_
  obtain rfl := sm H
  exact fin (Or.inl z) rs0 (re2 [(0, 0)] q z (hr z h0))

def core_Core_Begin_k5 (r1 : MachInstr) (v11 : Int) (r12 : Int × Bool × (List (List Int)) × (List Int) × Int) (r18 : (List Int)) (v20 : List Int) : Int × Bool × Int → Option (Int × Pipe)
  | (v21, v22, v23) =>
    some ((v11, (Pipe.mk v21 v22 (r12.2.2.1.set r1.Unit.toNat r18) v20 v23)))
def core_Core_Begin_k4 (r1 : MachInstr) (r3 : Touch) (v11 : Int) (r12 : Int × Bool × (List (List Int)) × (List Int) × Int) (r18 : (List Int)) : (List Int) → Option (Int × Pipe)
  | v20 =>
    jn (core_Core_Begin_k5 r1 v11 r12 r18 v20) fun k5 =>
    bif r3.Stores then k5 ((v11, r3.Jumps, w64 (v11 + r1.Latency))) else k5 (v11, r3.Jumps, r12.2.2.2.2)
def core_Core_Begin_k7 (v25 : Int) (rec6 : Int × (List Int) → Option (Int × Pipe)) : (List Int) → Option (Int × Pipe)
  | v28 =>
    rec6 ((w64 (v25 + 1), v28))
def core_Core_Begin_b6 (r1 : MachInstr) (r3 : Touch) (v11 : Int) (r12 : Int × Bool × (List (List Int)) × (List Int) × Int) (k4 : (List Int) → Option (Int × Pipe)) (rec6 : Int × (List Int) → Option (Int × Pipe)) : Int × (List Int) → Option (Int × Pipe)
  | (v25, v26) =>
    bif decide (v25 < (r12.2.2.2.1.length : Int)) then
      jn (core_Core_Begin_k7 v25 rec6) fun k7 =>
      (ix r3.Writes v25).bind fun r29 =>
      bif r29 != 0 then
        (ix v26 v25).bind fun r32 =>
        k7 (v26.set v25.toNat (w64 (v11 + r1.Latency)))
      else
        k7 v26
    else
      k4 v26
def core_Core_Begin_k3 (x1 : Pipe) (r1 : MachInstr) (r3 : Touch) : Int → Option (Int × Pipe)
  | v11 =>
    (core_TwinPipe x1).bind fun r12 =>
    (ix r12.2.2.1 r1.Unit).bind fun r14 =>
    (ix r14 0).bind fun r16 =>
    (slices_Sort_int_int (r14.set (0 : Int).toNat (w64 (v11 + r1.Busy)))).bind fun r18 =>
    jn (core_Core_Begin_k4 r1 r3 v11 r12 r18) fun k4 =>
    lp (core_Core_Begin_b6 r1 r3 v11 r12 k4) (r12.2.2.2.1.length + 1) (0, r12.2.2.2.1)
def core_Core_Begin_k2 (x1 : Pipe) (r1 : MachInstr) (r3 : Touch) : Int → Option (Int × Pipe)
  | v10 =>
    jn (core_Core_Begin_k3 x1 r1 r3) fun k3 =>
    bif r3.Loads || r3.Stores then k3 (max v10 x1.Mem) else k3 v10
def core_Core_Begin_k9 (v36 : Int) (rec8 : Int × Int → Option (Int × Pipe)) : Int → Option (Int × Pipe)
  | v38 =>
    rec8 ((v38, w64 (v36 + 1)))
def core_Core_Begin_b8 (x1 : Pipe) (r3 : Touch) (k2 : Int → Option (Int × Pipe)) (rec8 : Int × Int → Option (Int × Pipe)) : Int × Int → Option (Int × Pipe)
  | (v35, v36) =>
    bif decide (v36 < (x1.Regs.length : Int)) then
      jn (core_Core_Begin_k9 v36 rec8) fun k9 =>
      (ix x1.Regs v36).bind fun r39 =>
      (ix r3.Reads v36).bind fun r41 =>
      (ix r3.Writes v36).bind fun r43 =>
      bif (bOr .u64 r41 r43) != 0 then k9 (max v35 r39) else k9 v35
    else
      k2 v35
def core_Core_Begin_k1 (x1 : Pipe) (r1 : MachInstr) (r3 : Touch) : Int → Option (Int × Pipe)
  | v9 =>
    jn (core_Core_Begin_k2 x1 r1 r3) fun k2 =>
    lp (core_Core_Begin_b8 x1 r3 k2) (x1.Regs.length + 1) (v9, 0)
def core_Core_Begin (x0 : core_Core) (x1 : Pipe) (x2 : MachOp) : Option (Int × Pipe) :=
  (ix x0.Machine.Instrs x2.Instr).bind fun r1 =>
  (core_Core_Touch x0 x2).bind fun r3 =>
  (ix x1.Units r1.Unit).bind fun r5 =>
  (ix r5 0).bind fun r7 =>
  jn (core_Core_Begin_k1 x1 r1 r3) fun k1 =>
  bif x1.Jumps then k1 (max (max x1.At r7) (w64 (x1.At + 1))) else k1 (max x1.At r7)
theorem core_Core_Begin_ok {x0 : core_Core} {x1 : Pipe} {x2 : MachOp} {R : Int × Pipe} (H : core_Core_Begin x0 x1 x2 = some R) : FnOk Tryz.prog K0 30 [(aP ((enccore_Core x0).drop 0)), (aA (encPipe x1)), (aA (encMachOp x2))] [] (.tup [(aN .i64 R.1), (aA (encPipe R.2))]) [] := by
  refine fn_w (nt := 134) (np := 0) Tryz.func30 z z (by simp) (np_of2 z) <| ?_
  unfold core_Core_Begin at H
  refine sgr z <| lh (p_bx 0 z q z) z <| lh (p_bx 1 z q z) z <| la z z <| lh (p_al 2 zr_34 z) z <| ne <| wc_seq <| wc_draw [0, 1, 3, 7, 15, 0, 32, 127, 255, 0, 0, 1536, 0, 0, 16383, 32767] mixed z <| dm z z <| dr (p_nlP z) z <| dr (p_fdP fld_89_0 z) z <| dr (p_fdP fld_27_6 z) z <| dr (p_ldP ty_25 z z) z <| dr (p_fd fld_31_0 z) z <| dr (p_ld ty_3 z z z) z <| ?_
  obtain ⟨r1, e2, H⟩ := ob H
  refine dr (p_ixL Tryz.underlying25 ty_61.size z z e2) z <| dr (p_ldA (ds := encMachInstr r1) ty_61 z z z) z <| dm z z <| dr (p_ldB (ds := (encMachOp x2).map .data) ty_31 z z z z) z <| ?_
  obtain ⟨r3, e4, H⟩ := ob H
  refine dr (p_c (core_Core_Touch_ok e4) ent_37 z z z) z <| drh (p_al 3 zr_61 z) z <| drh (p_al 4 zr_85 z) z <| dr0h (p_stA (ds := (encMachInstr r1).map .data) ty_61 z z z z z z) <| dr0h (p_stA (ds := (encTouch r3).map .data) ty_85 z z z z z z) <| ?_
  refine wd_nil ?_ (by kernel_rfl)
  refine e_n <| wc_seq <| wc_draw [0, 1, 0, 4, 0, 16, 60, 124, 252, 508, 1023, 2047] mixed z <| dr (p_fd fld_34_0 z) z <| dr (p_ld ty_3 z z z) z <| dr (p_fd fld_34_2 z) z <| dr (p_ld ty_32 z z z) z <| dr (p_fd fld_61_5 z) z <| dr (p_ld ty_3 z z z) z <| ?_
  obtain ⟨r5, e6, H⟩ := ob H
  refine dr (p_ixL Tryz.underlying32 ty_29.size z z e6) z <| dr (p_ldP ty_29 z z) z <| ?_
  obtain ⟨r7, e8, H⟩ := ob H
  refine dr (p_ixL Tryz.underlying29 ty_3.size z z e8) z <| dr (p_ldP ty_3 z z) z <| dr (p_max z z) z <| da z z <| ?_
  refine wd_nil ?_ (by kernel_rfl)
  refine e_n <| ?_
  refine w_jn1 H (fun v9 => ⟨[(4, (.ptr 0 0)), (7, (.ptr 2 0)), (8, (.ptr 3 0)), (9, (.ptr 4 0)), (10, (aN .i64 v9))], [(0, (oD 34 (encPipe x1))), (2, (oC 34 [(aN .i64 0), (aT false), aNil, aNil, (aN .i64 0)])), (3, (oD 61 (encMachInstr r1))), (4, (oD 85 (encTouch r3)))]⟩) ?_ ?_
  · intro v9 H
    rw [core_Core_Begin_k1] at H
    refine w_jn1 H (fun v10 => ⟨[(4, (.ptr 0 0)), (7, (.ptr 2 0)), (8, (.ptr 3 0)), (9, (.ptr 4 0)), (10, (aN .i64 v10))], [(0, (oD 34 (encPipe x1))), (2, (oC 34 [(aN .i64 0), (aT false), aNil, aNil, (aN .i64 0)])), (3, (oD 61 (encMachInstr r1))), (4, (oD 85 (encTouch r3)))]⟩) ?_ ?_
    · intro v10 H
      rw [core_Core_Begin_k2] at H
      refine w_jn1 H (fun v11 => ⟨[(4, (.ptr 0 0)), (7, (.ptr 2 0)), (8, (.ptr 3 0)), (9, (.ptr 4 0)), (10, (aN .i64 v11))], [(0, (oD 34 (encPipe x1))), (2, (oC 34 [(aN .i64 0), (aT false), aNil, aNil, (aN .i64 0)])), (3, (oD 61 (encMachInstr r1))), (4, (oD 85 (encTouch r3)))]⟩) ?_ ?_
      · intro v11 H
        rw [core_Core_Begin_k3] at H
        refine sgr z <| l (p_ldB (ds := (encPipe x1).map .data) ty_34 z z z z) z <| ?_
        obtain ⟨r12, e13, H⟩ := ob H
        refine lh (p_ch (ids := [5, 6]) (core_TwinPipe_ok e13) ent_67 z z (rc z z (rc z z rn)) (rc z (rtt (Tame.flat tmL _)) (rc z rm rn)) z ⟨z, ⟨z, q⟩⟩ (by decide) z z z (oc z (oc z on)) (oc (ott (Tame.flat tmL _)) (oc om on)) z) z <| lh (p_al 7 zr_34 z) z <| l0h (p_stA (ds := [(aN .i64 r12.1), (aT r12.2.1), (.row 5), (.row 6), (aN .i64 r12.2.2.2.2)]) ty_34 z z z z z z) <| ne <| wc_seq <| wc_draw [0, 0, 2, 1, 9, 31, 63] mixed z <| dm z z <| dr (p_fd fld_85_4 z) z <| dr (p_ld ty_4 z z z) z <| dr (p_fd fld_34_0 z) z <| dr0h (p_st ty_3 z z z q z z) <| dr (p_fd fld_34_1 z) z <| dr0h (p_st ty_4 z z z q z z) <| ?_
        refine wd_nil ?_ (by kernel_rfl)
        refine e_n <| wc_seq <| ?_
        obtain ⟨r14, e15, H⟩ := ob H
        refine wc_ent (opn (k := 5) (B := [wR 3 1 (eN .i64) r14]) e15 z z) <| wc_ent (foc (k := 5) 8 0 z z .row z) <| wc_draw [0, 1, 0, 4, 15, 31, 0, 0, 128, 448, 1023, 2047] mixed z <| dr (p_fd fld_34_2 z) z <| dr (p_ld ty_32 z z z) z <| dr (p_fd fld_61_5 z) z <| dr (p_ld ty_3 z z z) z <| dr (p_ixE (l := r12.2.2.1) Tryz.underlying32 ty_29.size z z e15 z) z <| dr (p_ldE (n := r1.Unit) (j := 0) (sz := 1) (k := 5) (fun _ => z) ty_29 z (tk e15) z z) z <| dm z z <| dr (p_fd fld_61_6 z) z <| dr (p_ld ty_3 z z z) z <| dr (p_add z z) z <| ?_
        obtain ⟨r16, e17, H⟩ := ob H
        refine dr (p_ixR Tryz.underlying29 ty_3.size z z z e17) z <| dr0h (p_stR (sz := 1) (n := 0) (j := 0) (r := r16) (f := (eN .i64)) (ds := [.lit (.int .i64 (w64 (v11 + r1.Busy)))]) (r' := w64 (v11 + r1.Busy)) (fun _ => z) ty_3 (.inr z) z z z e17 q z z z z) <| ?_
        refine wd_nil ?_ (by kernel_rfl)
        refine e_n <| sgr z <| l (p_fd fld_34_2 z) z <| l (p_ld ty_32 z z z) z <| l (p_fd fld_61_5 z) z <| l (p_ld ty_3 z z z) z <| l (p_ixE (l := r12.2.2.1) Tryz.underlying32 ty_29.size z z e15 z) z <| l (p_ldE (n := r1.Unit) (j := 0) (sz := 1) (k := 5) (fun _ => z) ty_29 z (tk e15) z z) z <| ?_
        obtain ⟨r18, e19, H⟩ := ob H
        refine lh (p_ch (ids := [8]) (slices_Sort_int_int_ok e19) ent_68 z z (rc z rm rn) (rc z rm rn) z ⟨z, q⟩ (by decide) z z z (oc om on) (oc om on) z) z <| ne <| ?_
        refine w_jn1 H (fun v20 => ⟨[(7, (.ptr 2 0)), (8, (.ptr 3 0)), (9, (.ptr 4 0)), (10, (aN .i64 v11)), (13, (.ptr 7 0))], [(2, (oC 34 [(aN .i64 0), (aT false), aNil, aNil, (aN .i64 0)])), (3, (oD 61 (encMachInstr r1))), (4, (oD 85 (encTouch r3))), (5, (oE 29 1 (tL 3 1 (eN .i64)) (r12.2.2.1.take r1.Unit.toNat) [.av (.row 8)] (r12.2.2.1.drop (r1.Unit.toNat + 1)))), (6, (oR 3 1 (eN .i64) v20)), (7, (oC 34 [(aN .i64 v11), (aT r3.Jumps), (.row 5), (.row 6), (aN .i64 r12.2.2.2.2)])), (8, (oR 3 1 (eN .i64) r18))]⟩) ?_ ?_
        · intro v20 H
          rw [core_Core_Begin_k4] at H
          refine w_jn3 H (fun v21 v22 v23 => ⟨[(7, (.ptr 2 0)), (10, (aN .i64 v11)), (13, (.ptr 7 0))], [(2, (oC 34 [(aN .i64 0), (aT false), aNil, aNil, (aN .i64 0)])), (5, (oE 29 1 (tL 3 1 (eN .i64)) (r12.2.2.1.take r1.Unit.toNat) [.av (.row 8)] (r12.2.2.1.drop (r1.Unit.toNat + 1)))), (6, (oR 3 1 (eN .i64) v20)), (7, (oC 34 [(aN .i64 v21), (aT v22), (.row 5), (.row 6), (aN .i64 v23)])), (8, (oR 3 1 (eN .i64) r18))]⟩) ?_ ?_
          · intro v21 v22 v23 H
            rw [core_Core_Begin_k5] at H
            refine wc_seq <| wc_draw [0, 0, 1, 7] mixed z <| dm z z <| dr (p_ldB (ds := [(aN .i64 v21), (aT v22), (.row 5), (.row 6), (aN .i64 v23)]) ty_34 z z z z) z <| da z z <| dr0h (p_stA (ds := [(aN .i64 v21), (aT v22), (.row 5), (.row 6), (aN .i64 v23)]) ty_34 z z z z z z) <| ?_
            refine wd_nil ?_ (by kernel_rfl)
            refine e_n <| wc_ent (absb (k := 5) 8 0 z z z .row z) <| wc_ent (cls (k := 5) (r' := r18) e15 z z) <| wc_ent (fztc (j := 2) (i := 2) z z z z .tree (FrC.tree (fun _ => z) (frL (fun _ => z)))) <| wc_ent (fzc (j := 2) (i := 3) z z z z (fun _ => z)) <| wc_ret <| ?_
            obtain rfl := sm H
            exact fin (Or.inr z) (rs1 (rv z) (rs1 (rva (ds := (encPipe ((Pipe.mk v21 v22 (r12.2.2.1.set r1.Unit.toNat r18) v20 v23))).map .data) ty_34 z z z z) rs0)) (re2 [] ⟨.dat, ⟨.adat, q⟩⟩ z h0)
          intro H
          refine sgr z <| l (p_fd fld_85_3 z) z <| l (p_ld ty_4 z z z) z <| ne <| ?_
          rcases cn H with ⟨b24, H⟩ | ⟨b24, H⟩
          · refine c_t z b24 ?_
            refine wc_region z <| lm z z <| l (p_fd fld_61_7 z) z <| l (p_ld ty_3 z z z) z <| l (p_add z z) z <| l (p_fd fld_34_4 z) z <| l0h (p_st ty_3 z z z q z z) <| ne <| ?_
            exact ⟨v11, r3.Jumps, w64 (v11 + r1.Latency), H, en [(2, 2), (5, 5), (6, 6), (7, 7), (8, 8)] (ws z z z (wd z (ws z z z w0))) z (hs z z z (hte tmL z z z (hr z (hs z z z (hr z h0)))))⟩
          refine c_f z b24 <| se <| ?_
          exact ⟨v11, r3.Jumps, r12.2.2.2.2, H, en [(2, 2), (5, 5), (6, 6), (7, 7), (8, 8)] (ws z z z (wd z (ws z z z w0))) z (hs z z z (hte tmL z z z (hr z (hs z z z (hr z h0)))))⟩
        intro H
        refine sgr z <| l (p_fd fld_34_3 z) z <| l (p_ld ty_29 z z z) z <| l (p_lenR Tryz.underlying29 z z) z <| lm z z <| ne <| wc_block <| w_lp2 H (fun v25 v26 => ⟨[(7, (.ptr 2 0)), (8, (.ptr 3 0)), (9, (.ptr 4 0)), (10, (aN .i64 v11)), (13, (.ptr 7 0)), (106, (aN .i64 (r12.2.2.2.1.length : Int))), (107, (aN .i64 v25))], [(2, (oC 34 [(aN .i64 0), (aT false), aNil, aNil, (aN .i64 0)])), (3, (oD 61 (encMachInstr r1))), (4, (oD 85 (encTouch r3))), (5, (oE 29 1 (tL 3 1 (eN .i64)) (r12.2.2.1.take r1.Unit.toNat) [.av (.row 8)] (r12.2.2.1.drop (r1.Unit.toNat + 1)))), (6, (oR 3 1 (eN .i64) v26)), (7, (oC 34 [(aN .i64 v11), (aT r3.Jumps), (.row 5), (.row 6), (aN .i64 r12.2.2.2.2)])), (8, (oR 3 1 (eN .i64) r18))]⟩) (en [(2, 2), (3, 3), (4, 4), (5, 5), (6, 6), (7, 7), (8, 8)] (ws z z z (ws z z z (ws z z z (wd z (ws z z z (wd z (wd z w0))))))) z (hs z z z (hc z (hc z (hte tmL z z z (hr z (hs z z z (hr z h0)))))))) <| ?_
        intro n6 v25 v26 H
        rw [core_Core_Begin_b6] at H
        refine sgr z <| l (p_lss z z) z <| ne <| wc_seq <| ?_
        rcases cn H with ⟨b27, H⟩ | ⟨b27, H⟩
        · refine c_t z b27 ?_
          refine se <| ?_
          refine w_jn1 H (fun v28 => ⟨[(7, (.ptr 2 0)), (8, (.ptr 3 0)), (9, (.ptr 4 0)), (10, (aN .i64 v11)), (13, (.ptr 7 0)), (106, (aN .i64 (r12.2.2.2.1.length : Int))), (107, (aN .i64 v25))], [(2, (oC 34 [(aN .i64 0), (aT false), aNil, aNil, (aN .i64 0)])), (3, (oD 61 (encMachInstr r1))), (4, (oD 85 (encTouch r3))), (5, (oE 29 1 (tL 3 1 (eN .i64)) (r12.2.2.1.take r1.Unit.toNat) [.av (.row 8)] (r12.2.2.1.drop (r1.Unit.toNat + 1)))), (6, (oR 3 1 (eN .i64) v28)), (7, (oC 34 [(aN .i64 v11), (aT r3.Jumps), (.row 5), (.row 6), (aN .i64 r12.2.2.2.2)])), (8, (oR 3 1 (eN .i64) r18))]⟩) ?_ ?_
          · intro v28 H
            rw [core_Core_Begin_k7] at H
            refine wc_region z <| l (p_add z z) z <| lm z z <| ne <| ?_
            exact ⟨w64 (v25 + 1), v28, H, en [(2, 2), (3, 3), (4, 4), (5, 5), (6, 6), (7, 7), (8, 8)] (ws z z z (ws z z z (ws z z z (wd z (ws z z z (wd z (wd z w0))))))) z (hs z z z (hc z (hc z (hte tmL z z z (hr z (hs z z z (hr z h0)))))))⟩
          intro H
          refine wc_block <| sgr z <| lm z z <| la z z <| ne <| sgr z <| l (p_fd fld_85_1 z) z <| l (p_ld ty_83 z z z) z <| lm z z <| ?_
          obtain ⟨r29, e30, H⟩ := ob H
          refine l (p_ixL Tryz.underlying83 ty_57.size z z e30) z <| l (p_ldP ty_57 z z) z <| l (p_neq z z) z <| ne <| ?_
          rcases cn H with ⟨b31, H⟩ | ⟨b31, H⟩
          · refine c_t z b31 ?_
            refine wc_region z <| l (p_fd fld_34_3 z) z <| l (p_ld ty_29 z z z) z <| lm z z <| lm z z <| l (p_fd fld_61_7 z) z <| l (p_ld ty_3 z z z) z <| l (p_add z z) z <| ?_
            obtain ⟨r32, e33, H⟩ := ob H
            refine l (p_ixR Tryz.underlying29 ty_3.size z z z e33) z <| l0h (p_stR (sz := 1) (n := v25) (j := 0) (r := r32) (f := (eN .i64)) (ds := [.lit (.int .i64 (w64 (v11 + r1.Latency)))]) (r' := w64 (v11 + r1.Latency)) (fun _ => z) ty_3 (.inr z) z z z e33 q z z z z) <| wl_nil <| ?_
            refine e_bn (e_n ?_)
            exact ⟨v26.set v25.toNat (w64 (v11 + r1.Latency)), H, en [(2, 2), (3, 3), (4, 4), (5, 5), (6, 6), (7, 7), (8, 8)] (ws z z z (ws z z z (ws z z z (wd z (ws z z z (wd z (wd z w0))))))) z (hs z z z (hc z (hc z (hte tmL z z z (hr z (hs z z z (hr z h0)))))))⟩
          refine c_f z b31 <| wc_skip <| ?_
          refine e_bn (e_n ?_)
          exact ⟨v26, H, en [(2, 2), (3, 3), (4, 4), (5, 5), (6, 6), (7, 7), (8, 8)] (ws z z z (ws z z z (ws z z z (wd z (ws z z z (wd z (wd z w0))))))) z (hs z z z (hc z (hc z (hte tmL z z z (hr z (hs z z z (hr z h0)))))))⟩
        refine c_f z b27 <| wc_exit <| ?_
        refine e_te (e_te (e_h (e_n ?_)))
        exact ⟨v26, H, en [(2, 2), (3, 3), (4, 4), (5, 5), (6, 6), (7, 7), (8, 8)] (ws z z z (ws z z z (ws z z z (wd z (ws z z z w0))))) z (hs z z z (hc z (hc z (hte tmL z z z (hr z (hs z z z (hr z h0)))))))⟩
      intro H
      refine sgr z <| l (p_fd fld_85_2 z) z <| l (p_ld ty_4 z z z) z <| lm z z <| lw z (Grd.plain _) z [9] z (s1 strip_same s0) (fun hw => p_fd fld_85_3 z) ⟨z, q⟩ (by exact q) z z <| lw z (Grd.plain _) z [72] z (s1 (strip_when id) s0) (fun hw => p_ld ty_4 z z z) ⟨z, q⟩ (by exact ⟨z, q⟩) z z <| l (p_pkO z z q (strip_when (wf))) z <| ne <| ?_
      rcases cn H with ⟨b34, H⟩ | ⟨b34, H⟩
      · refine c_t z b34 ?_
        refine wc_region z <| lm z z <| l (p_fd fld_34_4 z) z <| l (p_ld ty_3 z z z) z <| l (p_max z z) z <| la z z <| ne <| ?_
        exact ⟨max v10 x1.Mem, H, en [(0, 0), (2, 2), (3, 3), (4, 4)] (ws z z z (ws z z z (ws z z z (ws z z z (wd z w0))))) z (hc z (hs z z z (hc z (hc z h0))))⟩
      refine c_f z b34 <| se <| ?_
      exact ⟨v10, H, en [(0, 0), (2, 2), (3, 3), (4, 4)] (ws z z z (ws z z z (ws z z z (ws z z z (wd z w0))))) z (hc z (hs z z z (hc z (hc z h0))))⟩
    intro H
    refine sgr z <| l (p_fd fld_34_3 z) z <| l (p_ld ty_29 z z z) z <| l (p_lenL Tryz.underlying29 z) z <| lm z z <| ne <| wc_block <| w_lp2 H (fun v35 v36 => ⟨[(4, (.ptr 0 0)), (7, (.ptr 2 0)), (8, (.ptr 3 0)), (9, (.ptr 4 0)), (10, (aN .i64 v35)), (46, (aL 1 (eN .i64) x1.Regs)), (47, (aN .i64 (x1.Regs.length : Int))), (48, (aN .i64 v36))], [(0, (oD 34 (encPipe x1))), (2, (oC 34 [(aN .i64 0), (aT false), aNil, aNil, (aN .i64 0)])), (3, (oD 61 (encMachInstr r1))), (4, (oD 85 (encTouch r3)))]⟩) (en [(0, 0), (2, 2), (3, 3), (4, 4)] (ws z z z (ws z z z (ws z z z (ws z z z (wd z (wd z (wd z (wd z w0)))))))) z (hc z (hs z z z (hc z (hc z h0))))) <| ?_
    intro n8 v35 v36 H
    rw [core_Core_Begin_b8] at H
    refine sgr z <| l (p_lss z z) z <| ne <| wc_seq <| ?_
    rcases cn H with ⟨b37, H⟩ | ⟨b37, H⟩
    · refine c_t z b37 ?_
      refine se <| ?_
      refine w_jn1 H (fun v38 => ⟨[(4, (.ptr 0 0)), (7, (.ptr 2 0)), (8, (.ptr 3 0)), (9, (.ptr 4 0)), (10, (aN .i64 v38)), (46, (aL 1 (eN .i64) x1.Regs)), (47, (aN .i64 (x1.Regs.length : Int))), (48, (aN .i64 v36))], [(0, (oD 34 (encPipe x1))), (2, (oC 34 [(aN .i64 0), (aT false), aNil, aNil, (aN .i64 0)])), (3, (oD 61 (encMachInstr r1))), (4, (oD 85 (encTouch r3)))]⟩) ?_ ?_
      · intro v38 H
        rw [core_Core_Begin_k9] at H
        refine wc_region z <| l (p_add z z) z <| lm z z <| ne <| ?_
        exact ⟨v38, w64 (v36 + 1), H, en [(0, 0), (2, 2), (3, 3), (4, 4)] (ws z z z (ws z z z (ws z z z (ws z z z (wd z (wd z (wd z (wd z w0)))))))) z (hc z (hs z z z (hc z (hc z h0))))⟩
      intro H
      refine wc_block <| sgr z <| lm z z <| ?_
      obtain ⟨r39, e40, H⟩ := ob H
      refine l (p_ixL Tryz.underlying29 ty_3.size z z e40) z <| l (p_ldP ty_3 z z) z <| la z z <| la z z <| ne <| wc_seq <| wc_draw [0, 1, 0, 7, 15, 0, 32, 0, 224, 480, 1023, 2047] mixed z <| dr (p_fd fld_85_0 z) z <| dr (p_ld ty_83 z z z) z <| dm z z <| ?_
      obtain ⟨r41, e42, H⟩ := ob H
      refine dr (p_ixL Tryz.underlying83 ty_57.size z z e42) z <| dr (p_ldP ty_57 z z) z <| dr (p_fd fld_85_1 z) z <| dr (p_ld ty_83 z z z) z <| dm z z <| ?_
      obtain ⟨r43, e44, H⟩ := ob H
      refine dr (p_ixL Tryz.underlying83 ty_57.size z z e44) z <| dr (p_ldP ty_57 z z) z <| dr (p_or z z) z <| dr (p_neq z z) z <| ?_
      refine wd_nil ?_ (by kernel_rfl)
      refine e_n <| ?_
      rcases cn H with ⟨b45, H⟩ | ⟨b45, H⟩
      · refine c_t z b45 ?_
        refine wc_region z <| lm z z <| lm z z <| l (p_max z z) z <| la z z <| wl_nil <| ?_
        refine e_bn (e_n ?_)
        exact ⟨max v35 r39, H, en [(0, 0), (2, 2), (3, 3), (4, 4)] (ws z z z (ws z z z (ws z z z (ws z z z (wd z (wd z (wd z (wd z w0)))))))) z (hc z (hs z z z (hc z (hc z h0))))⟩
      refine c_f z b45 <| wc_skip <| ?_
      refine e_bn (e_n ?_)
      exact ⟨v35, H, en [(0, 0), (2, 2), (3, 3), (4, 4)] (ws z z z (ws z z z (ws z z z (ws z z z (wd z (wd z (wd z (wd z w0)))))))) z (hc z (hs z z z (hc z (hc z h0))))⟩
    refine c_f z b37 <| wc_exit <| ?_
    refine e_te (e_te (e_h (e_n ?_)))
    exact ⟨v35, H, en [(0, 0), (2, 2), (3, 3), (4, 4)] (ws z z z (ws z z z (ws z z z (ws z z z (wd z w0))))) z (hc z (hs z z z (hc z (hc z h0))))⟩
  intro H
  refine sgr z <| l (p_fd fld_34_1 z) z <| l (p_ld ty_4 z z z) z <| ne <| ?_
  rcases cn H with ⟨b46, H⟩ | ⟨b46, H⟩
  · refine c_t z b46 ?_
    refine wc_region z <| lm z z <| l (p_fd fld_34_0 z) z <| l (p_ld ty_3 z z z) z <| l (p_add z z) z <| l (p_max z z) z <| la z z <| ne <| ?_
    exact ⟨max (max x1.At r7) (w64 (x1.At + 1)), H, en [(0, 0), (2, 2), (3, 3), (4, 4)] (ws z z z (ws z z z (ws z z z (ws z z z (wd z w0))))) z (hc z (hs z z z (hc z (hc z h0))))⟩
  refine c_f z b46 <| se <| ?_
  exact ⟨max x1.At r7, H, en [(0, 0), (2, 2), (3, 3), (4, 4)] (ws z z z (ws z z z (ws z z z (ws z z z (wd z w0))))) z (hc z (hs z z z (hc z (hc z h0))))⟩

def cycle_Start (x0 : Machine) (x1 : Pipe) (x2 : MachOp) : Option (Int × Pipe × Int) :=
  (core_New x0).bind fun r1 =>
  cs2 r1 (fun r1 =>
    bif r1 != 0 then
      some ((0, (Pipe.mk 0 false (([] : List (List Int))) ([] : List Int) 0), r1))
    else none) fun r1 =>
    (cycle_valid r1 x1).bind fun r4 =>
    bif !r4 then
      some ((0, (Pipe.mk 0 false (([] : List (List Int))) ([] : List Int) 0), 8))
    else
      (machine_CheckOp x0 x2).bind fun r7 =>
      bif r7 != 0 then
        some ((0, (Pipe.mk 0 false (([] : List (List Int))) ([] : List Int) 0), r7))
      else
        (core_Core_Begin r1 x1 x2).bind fun r10 =>
        bif decide (1099511627776 < r10.1) then some ((0, (Pipe.mk 0 false (([] : List (List Int))) ([] : List Int) 0), 30)) else some (r10.1, r10.2, 0)
theorem cycle_Start_ok {x0 : Machine} {x1 : Pipe} {x2 : MachOp} {R : Int × Pipe × Int} (H : cycle_Start x0 x1 x2 = some R) : FnOk Tryz.prog K0 10 [(aA (encMachine x0)), (aA (encPipe x1)), (aA (encMachOp x2))] [] (.tup [(aN .i64 R.1), (aA (encPipe R.2.1)), (aN .i64 R.2.2)]) [] := by
  refine fn_w (nt := 46) (np := 0) Tryz.func10 z z (by simp) (np_of2 z) <| ?_
  unfold cycle_Start at H
  refine sgr z <| lh (p_bx 0 z q z) z <| lh (p_bx 1 z q z) z <| lh (p_bx 2 z q z) z <| la z z <| lh (p_al 3 zr_34 z) z <| la z z <| ne <| sgr z <| l (p_ldB (ds := (encMachine x0).map .data) ty_27 z z z z) z <| ?_
  obtain ⟨r1, e2, H⟩ := ob H
  rcases r1 with r1 | r1
  · replace H := csl H
    refine l (p_c (core_New_okL e2) ent_26 z z z) z <| lm z z <| l (p_ex z z) z <| l (p_ex z z) z <| la z z <| la z z <| ne <| wc_seq <| sgr z <| lm z z <| l (p_neq z z) z <| ne <| ?_
    rcases cn H with ⟨b3, H⟩ | ⟨b3, H⟩
    · refine c_t z b3 ?_
      refine sgr z <| l (p_bd (cs := [(aN .i64 0), (aT false), aNil, aNil, (aN .i64 0)]) pl_34 zr_34 z q z) z <| lm z z <| la z z <| l0h (p_stA (ds := [(aN .i64 0), (aT false), aNil, aNil, (aN .i64 0)]) ty_34 z z z z z z) <| la z z <| ne <| wc_ret <| e_tr <| ?_
      obtain rfl := sm H
      exact fin (Or.inr z) (rs1 (rv z) (rs1 (rva (ds := [(aN .i64 0), (aT false), aNil, aNil, (aN .i64 0)]) ty_34 z z z z) (rs1 (rv z) rs0))) (re2 [] ⟨.dat, ⟨.sub (sg ⟨sr, ⟨sr, ⟨sn, ⟨sn, ⟨sr, q⟩⟩⟩⟩⟩) z, ⟨.dat, q⟩⟩⟩ z h0)
    cases H
  replace H := csr H
  refine l (p_c (core_New_okR e2) ent_26 z z z) z <| lm z z <| l (p_ex z z) z <| l (p_ex z z) z <| la z z <| la z z <| ne <| wc_seq <| sgr z <| lm z z <| l (p_neq z z) z <| ne <| c_f z z <| se <| wc_seq <| sgr z <| lm z z <| l (p_ldB (ds := (encPipe x1).map .data) ty_34 z z z z) z <| ?_
  obtain ⟨r4, e5, H⟩ := ob H
  refine l (p_c (cycle_valid_ok e5) ent_28 z z z) z <| l (p_not z) z <| ne <| ?_
  rcases cn H with ⟨b6, H⟩ | ⟨b6, H⟩
  · refine c_t z b6 ?_
    refine sgr z <| l (p_bd (cs := [(aN .i64 0), (aT false), aNil, aNil, (aN .i64 0)]) pl_34 zr_34 z q z) z <| la z z <| l0h (p_stA (ds := [(aN .i64 0), (aT false), aNil, aNil, (aN .i64 0)]) ty_34 z z z z z z) <| la z z <| ne <| wc_ret <| e_tr <| ?_
    obtain rfl := sm H
    exact fin (Or.inr z) (rs1 (rv z) (rs1 (rva (ds := [(aN .i64 0), (aT false), aNil, aNil, (aN .i64 0)]) ty_34 z z z z) (rs1 (rv z) rs0))) (re2 [] ⟨.dat, ⟨.sub (sg ⟨sr, ⟨sr, ⟨sn, ⟨sn, ⟨sr, q⟩⟩⟩⟩⟩) z, ⟨.dat, q⟩⟩⟩ z h0)
  refine c_f z b6 <| se <| wc_seq <| sgr z <| l (p_ldB (ds := (encMachine x0).map .data) ty_27 z z z z) z <| l (p_ldB (ds := (encMachOp x2).map .data) ty_31 z z z z) z <| ?_
  obtain ⟨r7, e8, H⟩ := ob H
  refine l (p_c (machine_CheckOp_ok e8) ent_29 z z z) z <| la z z <| ne <| sgr z <| lm z z <| l (p_neq z z) z <| ne <| ?_
  rcases cn H with ⟨b9, H⟩ | ⟨b9, H⟩
  · refine c_t z b9 ?_
    refine sgr z <| l (p_bd (cs := [(aN .i64 0), (aT false), aNil, aNil, (aN .i64 0)]) pl_34 zr_34 z q z) z <| lm z z <| la z z <| l0h (p_stA (ds := [(aN .i64 0), (aT false), aNil, aNil, (aN .i64 0)]) ty_34 z z z z z z) <| la z z <| ne <| wc_ret <| e_tr <| ?_
    obtain rfl := sm H
    exact fin (Or.inr z) (rs1 (rv z) (rs1 (rva (ds := [(aN .i64 0), (aT false), aNil, aNil, (aN .i64 0)]) ty_34 z z z z) (rs1 (rv z) rs0))) (re2 [] ⟨.dat, ⟨.sub (sg ⟨sr, ⟨sr, ⟨sn, ⟨sn, ⟨sr, q⟩⟩⟩⟩⟩) z, ⟨.dat, q⟩⟩⟩ z h0)
  refine c_f z b9 <| se <| sgr z <| lm z z <| l (p_ldB (ds := (encPipe x1).map .data) ty_34 z z z z) z <| l (p_ldB (ds := (encMachOp x2).map .data) ty_31 z z z z) z <| ?_
  obtain ⟨r10, e11, H⟩ := ob H
  refine l (p_c (core_Core_Begin_ok e11) ent_30 z z z) z <| lm z z <| l (p_ex z z) z <| l (p_ex z z) z <| lh (p_al 4 zr_34 z) z <| la z z <| l0h (p_stA (ds := (encPipe r10.2).map .data) ty_34 z z z z z z) <| ne <| wc_seq <| sgr z <| lm z z <| l (p_gtr z z) z <| ne <| ?_
  rcases cn H with ⟨b12, H⟩ | ⟨b12, H⟩
  · refine c_t z b12 ?_
    refine sgr z <| l (p_bd (cs := [(aN .i64 0), (aT false), aNil, aNil, (aN .i64 0)]) pl_34 zr_34 z q z) z <| la z z <| l0h (p_stA (ds := [(aN .i64 0), (aT false), aNil, aNil, (aN .i64 0)]) ty_34 z z z z z z) <| la z z <| ne <| wc_ret <| e_tr <| ?_
    obtain rfl := sm H
    exact fin (Or.inr z) (rs1 (rv z) (rs1 (rva (ds := [(aN .i64 0), (aT false), aNil, aNil, (aN .i64 0)]) ty_34 z z z z) (rs1 (rv z) rs0))) (re2 [] ⟨.dat, ⟨.sub (sg ⟨sr, ⟨sr, ⟨sn, ⟨sn, ⟨sr, q⟩⟩⟩⟩⟩) z, ⟨.dat, q⟩⟩⟩ z h0)
  refine c_f z b12 <| se <| wc_seq <| wc_draw [0, 0, 1, 7, 15] mixed z <| dm z z <| dr (p_ldB (ds := (encPipe r10.2).map .data) ty_34 z z z z) z <| da z z <| dr0h (p_stA (ds := (encPipe r10.2).map .data) ty_34 z z z z z z) <| da z z <| ?_
  refine wd_nil ?_ (by kernel_rfl)
  refine e_n <| wc_ret <| ?_
  obtain rfl := sm H
  exact fin (Or.inr z) (rs1 (rv z) (rs1 (rva (ds := (encPipe r10.2).map .data) ty_34 z z z z) (rs1 (rv z) rs0))) (re2 [] ⟨.dat, ⟨.adat, ⟨.dat, q⟩⟩⟩ z h0)

def retargetref16_Twin_k1 (x0 : Pipe) : Int × Bool × Int × (List (List Int)) → Option (Int × Bool × (List (List Int)) × (List Int) × Int)
  | (v2, v3, v4, v5) =>
    some ((v2, v3, v5, ([] : List Int) ++ x0.Regs, v4))
def retargetref16_Twin_b2 (x0 : Pipe) (k1 : Int × Bool × Int × (List (List Int)) → Option (Int × Bool × (List (List Int)) × (List Int) × Int)) (rec2 : Int × Int × Bool × Int × (List (List Int)) → Option (Int × Bool × (List (List Int)) × (List Int) × Int)) : Int × Int × Bool × Int × (List (List Int)) → Option (Int × Bool × (List (List Int)) × (List Int) × Int)
  | (v6, v7, v8, v9, v10) =>
    bif decide (v6 < (x0.Units.length : Int)) then
      (ix x0.Units v6).bind fun r12 =>
      asr (roomy r12.length 8) <|
      asr (roomy (v10.length + 1) 24) <|
      rec2 ((w64 (v6 + 1), v7, v8, v9, v10 ++ [r12]))
    else
      k1 (v7, v8, v9, v10)
def retargetref16_Twin (x0 : Pipe) : Option (Int × Bool × (List (List Int)) × (List Int) × Int) :=
  asr (roomy (([] : List Int).length + x0.Regs.length) 8) <|
  jn (retargetref16_Twin_k1 x0) fun k1 =>
  lp (retargetref16_Twin_b2 x0 k1) (x0.Units.length + 1) ((0, x0.At, x0.Jumps, x0.Mem, ([] : List (List Int))))
theorem retargetref16_Twin_ok {x0 : Pipe} {R : Int × Bool × (List (List Int)) × (List Int) × Int} (H : retargetref16_Twin x0 = some R) : FnOk Tryz.prog K0 11 [(aA (encPipe x0))] [(0, .fresh), (1, .fresh)] (.agg [(aN .i64 R.1), (aT R.2.1), (.row 0), (.row 1), (aN .i64 R.2.2.2.2)]) [(0, (oT 29 1 (tL 3 1 (eN .i64)) R.2.2.1)), (1, (oR 3 1 (eN .i64) R.2.2.2.1))] := by
  refine fn_w (nt := 39) (np := 0) Tryz.func11 z z (by simp) (np_of2 z) <| ?_
  unfold retargetref16_Twin at H
  refine sgr z <| lh (p_bx 2 z q z) z <| lh (p_al 3 zr_34 z) z <| wl_ent (nrc (j := 3) (i := 2) (f := (eL 1 (eN .i64))) (sz := 1) (e := 29) 4 z z z) <| wl_ent (nilt (k := 4) (f' := (tL 3 1 (eN .i64))) z) <| ne <| sgr z <| l (p_fd fld_34_0 z) z <| l (p_ld ty_3 z z z) z <| l (p_fd fld_34_1 z) z <| l (p_ld ty_4 z z z) z <| l (p_fd fld_34_4 z) z <| l (p_ld ty_3 z z z) z <| l (p_bd (cs := [(aN .i64 x0.At), (aT x0.Jumps), aNil, aNil, (aN .i64 x0.Mem)]) pl_34 zr_34 z ⟨q, ⟨q, ⟨q, q⟩⟩⟩ z) z <| lh (p_al 5 zr_34 z) z <| wl_ent (nrc (j := 5) (i := 2) (f := (eL 1 (eN .i64))) (sz := 1) (e := 29) 6 z z z) <| wl_ent (nilt (k := 6) (f' := (tL 3 1 (eN .i64))) z) <| l0h (p_stA (ds := [(aN .i64 x0.At), (aT x0.Jumps), aNil, aNil, (aN .i64 x0.Mem)]) ty_34 z z z z z z) <| wl_ent (nrc (j := 5) (i := 2) (f := (eL 1 (eN .i64))) (sz := 1) (e := 29) 7 z z z) <| wl_ent (nilt (k := 7) (f' := (tL 3 1 (eN .i64))) z) <| ne <| sgr z <| l (p_fd fld_34_3 z) z <| l (p_ld ty_29 z z z) z <| l (p_fd fld_34_3 z) z <| l (p_ld ty_29 z z z) z <| wl_ent (nr (d := 14) (f := (eN .i64)) (sz := 1) (e := 3) 8 z z z) <| ?_
  obtain ⟨e1, H⟩ := as_ H
  refine lh (p_apA 9 Tryz.underlying29 el_3 z z z z e1) z <| l (p_fd fld_34_3 z) z <| l0h (p_st ty_29 z z z q z z) <| ne <| ?_
  refine w_jn4 H (fun v2 v3 v4 v5 => ⟨[(2, (.ptr 3 0)), (3, (.ptr 5 0))], [(3, (oC 34 [(aN .i64 0), (aT false), (.row 4), aNil, (aN .i64 0)])), (4, (oT 29 1 (tL 3 1 (eN .i64)) (([] : List (List Int))))), (5, (oC 34 [(aN .i64 v2), (aT v3), (.row 7), (.row 9), (aN .i64 v4)])), (7, (oT 29 1 (tL 3 1 (eN .i64)) v5)), (9, (oR 3 1 (eN .i64) (([] : List Int) ++ x0.Regs)))]⟩) ?_ ?_
  · intro v2 v3 v4 v5 H
    rw [retargetref16_Twin_k1] at H
    refine sgr z <| l (p_ldB (ds := [(aN .i64 v2), (aT v3), (.row 7), (.row 9), (aN .i64 v4)]) ty_34 z z z z) z <| l0h (p_stA (ds := [(aN .i64 v2), (aT v3), (.row 7), (.row 9), (aN .i64 v4)]) ty_34 z z z z z z) <| ne <| wc_ret <| ?_
    obtain rfl := sm H
    exact fin (Or.inr z) (rs1 (rva (ds := [(aN .i64 v2), (aT v3), (.row 7), (.row 9), (aN .i64 v4)]) ty_34 z z z z) rs0) (re [(7, 0), (9, 1)] (.same z z) z (ht (Tame.flat tmL _) z (hr z h0)))
  intro H
  refine sgr z <| la z z <| ne <| wc_block <| w_lp5 H (fun v6 v7 v8 v9 v10 => ⟨[(1, (.ptr 2 0)), (2, (.ptr 3 0)), (3, (.ptr 5 0)), (4, (aN .i64 v6))], [(2, (oD 34 (encPipe x0))), (3, (oC 34 [(aN .i64 0), (aT false), (.row 4), aNil, (aN .i64 0)])), (4, (oT 29 1 (tL 3 1 (eN .i64)) (([] : List (List Int))))), (5, (oC 34 [(aN .i64 v7), (aT v8), (.row 7), (.row 9), (aN .i64 v9)])), (7, (oT 29 1 (tL 3 1 (eN .i64)) v10)), (9, (oR 3 1 (eN .i64) (([] : List Int) ++ x0.Regs)))]⟩) (en [(2, 2), (3, 3), (4, 4), (5, 5), (7, 7), (9, 9)] (ws z z z (ws z z z (ws z z z (wd z w0)))) z (hc z (hs z z z (ht (Tame.flat tmL _) z (hs z z z (ht (Tame.flat tmL _) z (hr z h0))))))) <| ?_
  intro n2 v6 v7 v8 v9 v10 H
  rw [retargetref16_Twin_b2] at H
  refine wc_seq <| sgr z <| lm z z <| l (p_fd fld_34_2 z) z <| l (p_ld ty_32 z z z) z <| l (p_lenL Tryz.underlying32 z) z <| l (p_lss z z) z <| ne <| ?_
  rcases cn H with ⟨b11, H⟩ | ⟨b11, H⟩
  · refine c_t z b11 ?_
    refine se <| wc_seq <| wc_block <| sgr z <| la z z <| ne <| wc_draw [0, 1, 0, 0, 8, 0, 56, 120, 252, 508, 1023, 2047, 4095] mixed z <| dr (p_fd fld_34_2 z) z <| dr (p_ld ty_32 z z z) z <| dm z z <| dr (p_fd fld_34_2 z) z <| dr (p_ld ty_32 z z z) z <| dm z z <| ?_
    obtain ⟨r12, e13, H⟩ := ob H
    refine dr (p_ixL Tryz.underlying32 ty_29.size z z e13) z <| dr (p_ldP ty_29 z z) z <| ?_
    obtain ⟨e14, H⟩ := as_ H
    refine drh (p_apO 15 14 Tryz.underlying29 el_3 z z z z z e14) z <| drh (p_bsW (cs := [(.row 14)]) 16 [.tmp 34] Tryz.underlying32 ty_29.size zr_29 z z z z (cs1 q z cs0) z z z) z <| ?_
    obtain ⟨e15, H⟩ := as_ H
    refine drh (p_apT 17 Tryz.underlying32 el_29 z z z z z z z e15) z <| dr (p_fd fld_34_2 z) z <| dr0h (p_st ty_32 z z z q z z) <| ?_
    refine wd_nil ?_ (by kernel_rfl)
    refine e_bn (e_n ?_)
    refine wc_region z <| lm z z <| l (p_add z z) z <| la z z <| ne <| ?_
    exact ⟨w64 (v6 + 1), v7, v8, v9, v10 ++ [r12], H, Ent.trans (absb (k := 17) 14 0 z z z .row z) (Ent.trans (cla (k := 17) (r' := r12) z z) (en [(2, 2), (3, 3), (4, 4), (5, 5), (17, 7), (9, 9)] (ws z z z (ws z z z (ws z z z (wd z w0)))) z (hc z (hs z z z (ht (Tame.flat tmL _) z (hs z z z (ht (Tame.flat tmL _) z (hr z h0))))))))⟩
  refine c_f z b11 <| wc_exit <| ?_
  refine e_te (e_te (e_h (e_n ?_)))
  exact ⟨v7, v8, v9, v10, H, en [(3, 3), (4, 4), (5, 5), (7, 7), (9, 9)] (ws z z z (ws z z z w0)) z (hs z z z (ht (Tame.flat tmL _) z (hs z z z (ht (Tame.flat tmL _) z (hr z h0)))))⟩

def machine_Instruction_1 (x0 : MachInstr) (x1 : ByteArray) : Option Bool :=
  some (sEq x0.Name x1)
theorem machine_Instruction_1_ok {x0 : MachInstr} {x1 : ByteArray} {R : Bool} (H : machine_Instruction_1 x0 x1 = some R) : FnOk Tryz.prog K0 70 [(aA (encMachInstr x0)), (.ptr 0 0)] [(0, (oC 9 [(aS x1)]))] (aT R) [(0, (oC 9 [(aS x1)]))] := by
  refine fn_w (nt := 8) (np := 1) Tryz.func70 z z (by simp) (np_of2 z) <| ?_
  unfold machine_Instruction_1 at H
  refine sgr z <| lh (p_bx 1 z q z) z <| la z z <| ne <| sgr z <| l (p_fd fld_61_0 z) z <| l (p_ld ty_9 z z z) z <| l (p_ld ty_9 z z z) z <| l (p_seq z z) z <| la z z <| ne <| wc_ret <| ?_
  obtain rfl := sm H
  exact fin (Or.inr z) (rs1 (rv z) rs0) (re [(0, 0)] (.dat) z (hs z z z h0))

def slices_IndexFunc_api_MachInstr_api_MachInstr_k1 : Unit → Option Int
  | () =>
    some (-1)
def slices_IndexFunc_api_MachInstr_api_MachInstr_b2 (x0 : List MachInstr) (x1 : ByteArray) (k1 : Unit → Option Int) (rec2 : Int → Option Int) : Int → Option Int
  | v1 =>
    bif decide (v1 < (x0.length : Int)) then
      (ix x0 v1).bind fun r3 =>
      (machine_Instruction_1 r3 x1).bind fun r5 =>
      bif r5 then some v1 else rec2 (w64 (v1 + 1))
    else
      k1 ()
def slices_IndexFunc_api_MachInstr_api_MachInstr (x0 : List MachInstr) (x1 : ByteArray) : Option Int :=
  jn slices_IndexFunc_api_MachInstr_api_MachInstr_k1 fun k1 =>
  lp (slices_IndexFunc_api_MachInstr_api_MachInstr_b2 x0 x1 k1) (x0.length + 1) 0
theorem slices_IndexFunc_api_MachInstr_api_MachInstr_ok {x0 : List MachInstr} {x1 : ByteArray} {R : Int} (H : slices_IndexFunc_api_MachInstr_api_MachInstr x0 x1 = some R) : FnOk Tryz.prog K0 96 [(aL 9 encMachInstr x0), (.fn (.func 70) [] [(.ptr 0 0)])] [(0, (oC 9 [(aS x1)]))] (aN .i64 R) [(0, (oC 9 [(aS x1)]))] := by
  refine fn_w (nt := 19) (np := 1) Tryz.func96 z z (by simp) (np_of2 z) <| ?_
  unfold slices_IndexFunc_api_MachInstr_api_MachInstr at H
  refine sgr z <| la z z <| ne <| ?_
  refine w_jn0 H (⟨[], [(0, (oC 9 [(aS x1)]))]⟩) ?_ ?_
  · intro H
    rw [slices_IndexFunc_api_MachInstr_api_MachInstr_k1] at H
    refine sgr z <| la z z <| ne <| wc_ret <| ?_
    obtain rfl := sm H
    exact fin (Or.inr z) (rs1 (rv z) rs0) (re [(0, 0)] (.dat) z (hs z z z h0))
  intro H
  refine sgr z <| lm z z <| l (p_lenL Tryz.underlying25 z) z <| lm z z <| ne <| wc_block <| w_lp1 H (fun v1 => ⟨[(0, (aL 9 encMachInstr x0)), (1, (.fn (.func 70) [] [(.ptr 0 0)])), (7, (aN .i64 (x0.length : Int))), (8, (aN .i64 v1))], [(0, (oC 9 [(aS x1)]))]⟩) (en [(0, 0)] (wd z (ws z z z (wd z (wd z w0)))) z (hs z z z h0)) <| ?_
  intro n2 v1 H
  rw [slices_IndexFunc_api_MachInstr_api_MachInstr_b2] at H
  refine sgr z <| l (p_lss z z) z <| ne <| wc_seq <| ?_
  rcases cn H with ⟨b2, H⟩ | ⟨b2, H⟩
  · refine c_t z b2 ?_
    refine se <| wc_seq <| wc_block <| sgr z <| lm z z <| la z z <| ne <| sgr z <| lm z z <| lm z z <| lm z z <| ?_
    obtain ⟨r3, e4, H⟩ := ob H
    refine l (p_ixL Tryz.underlying25 ty_61.size z z e4) z <| l (p_ldA (ds := encMachInstr r3) ty_61 z z z) z <| ?_
    obtain ⟨r5, e6, H⟩ := ob H
    refine lh (p_cw (ids := [0]) (machine_Instruction_1_ok e6) ent_70 z z z (rc z z rn) (rc z z rn) z ⟨z, q⟩ (by decide) z z z (oc z on) (oc z on) z) z <| ne <| ?_
    rcases cn H with ⟨b7, H⟩ | ⟨b7, H⟩
    · refine c_t z b7 ?_
      refine sgr z <| lm z z <| la z z <| ne <| wc_ret <| ?_
      refine e_br (e_tr (e_tr (e_br (e_tr ?_))))
      obtain rfl := sm H
      exact fin (Or.inr z) (rs1 (rv z) rs0) (re [(0, 0)] (.dat) z (hs z z z h0))
    refine c_f z b7 <| wc_skip <| ?_
    refine e_bn (e_n ?_)
    refine wc_region z <| l (p_add z z) z <| lm z z <| ne <| ?_
    exact ⟨w64 (v1 + 1), H, en [(0, 0)] (wd z (ws z z z (wd z (wd z w0)))) z (hs z z z h0)⟩
  refine c_f z b2 <| wc_exit <| ?_
  refine e_te (e_te (e_h (e_n ?_)))
  exact ⟨H, en [(0, 0)] w0 z (hs z z z h0)⟩

def machine_find_api_MachInstr (x0 : Machine) (x1 : List MachInstr) (x2 : ByteArray) : Option (Int × Int) :=
  (machine_Check x0).bind fun r1 =>
  bif r1 != 0 then
    some (0, r1)
  else
    (slices_IndexFunc_api_MachInstr_api_MachInstr x1 x2).bind fun r4 =>
    bif decide (r4 < 0) then some (0, 6) else some (r4, 0)
theorem machine_find_api_MachInstr_ok {x0 : Machine} {x1 : List MachInstr} {x2 : ByteArray} {R : Int × Int} (H : machine_find_api_MachInstr x0 x1 x2 = some R) : FnOk Tryz.prog K0 69 [(aA (encMachine x0)), (aL 9 encMachInstr x1), (.fn (.func 70) [] [(.ptr 0 0)])] [(0, (oC 9 [(aS x2)]))] (.tup [(aN .i64 R.1), (aN .i64 R.2)]) [(0, (oC 9 [(aS x2)]))] := by
  refine fn_w (nt := 21) (np := 1) Tryz.func69 z z (by simp) (np_of2 z) <| ?_
  unfold machine_find_api_MachInstr at H
  refine sgr z <| lh (p_bx 1 z q z) z <| la z z <| la z z <| ne <| wc_seq <| sgr z <| l (p_ldB (ds := (encMachine x0).map .data) ty_27 z z z z) z <| ?_
  obtain ⟨r1, e2, H⟩ := ob H
  refine l (p_c (machine_Check_ok e2) ent_63 z z z) z <| la z z <| ne <| sgr z <| lm z z <| l (p_neq z z) z <| ne <| ?_
  rcases cn H with ⟨b3, H⟩ | ⟨b3, H⟩
  · refine c_t z b3 ?_
    refine sgr z <| lm z z <| la z z <| la z z <| ne <| wc_ret <| e_tr <| ?_
    obtain rfl := sm H
    exact fin (Or.inr z) (rs1 (rv z) (rs1 (rv z) rs0)) (re2 [(0, 0)] ⟨.dat, ⟨.dat, q⟩⟩ z (hs z z z h0))
  refine c_f z b3 <| se <| sgr z <| lm z z <| lm z z <| ?_
  obtain ⟨r4, e5, H⟩ := ob H
  refine lh (p_ch (ids := [0]) (slices_IndexFunc_api_MachInstr_api_MachInstr_ok e5) ent_96 z z (rc z z rn) (rc z z rn) z ⟨z, q⟩ (by decide) z z z (oc z on) (oc z on) z) z <| la z z <| ne <| wc_seq <| sgr z <| lm z z <| l (p_lss z z) z <| ne <| ?_
  rcases cn H with ⟨b6, H⟩ | ⟨b6, H⟩
  · refine c_t z b6 ?_
    refine sgr z <| la z z <| la z z <| ne <| wc_ret <| e_tr <| ?_
    obtain rfl := sm H
    exact fin (Or.inr z) (rs1 (rv z) (rs1 (rv z) rs0)) (re2 [(0, 0)] ⟨.dat, ⟨.dat, q⟩⟩ z (hs z z z h0))
  refine c_f z b6 <| se <| sgr z <| lm z z <| la z z <| la z z <| ne <| wc_ret <| ?_
  obtain rfl := sm H
  exact fin (Or.inr z) (rs1 (rv z) (rs1 (rv z) rs0)) (re2 [(0, 0)] ⟨.dat, ⟨.dat, q⟩⟩ z (hs z z z h0))

def machine_Instruction (x0 : Machine) (x1 : ByteArray) : Option (Int × Int) :=
  (machine_find_api_MachInstr x0 x0.Instrs x1).bind fun r1 =>
  some (r1.1, r1.2)
theorem machine_Instruction_ok {x0 : Machine} {x1 : ByteArray} {R : Int × Int} (H : machine_Instruction x0 x1 = some R) : FnOk Tryz.prog K0 31 [(aA (encMachine x0)), (aS x1)] [] (.tup [(aN .i64 R.1), (aN .i64 R.2)]) [] := by
  refine fn_w (nt := 13) (np := 0) Tryz.func31 z z (by simp) (np_of2 z) <| ?_
  unfold machine_Instruction at H
  refine sgr z <| lh (p_bx 0 z q z) z <| lh (p_bx 1 z q z) z <| la z z <| la z z <| ne <| sgr z <| l (p_ldB (ds := (encMachine x0).map .data) ty_27 z z z z) z <| l (p_fd fld_27_6 z) z <| l (p_ld ty_25 z z z) z <| l (p_mf z z) z <| ?_
  obtain ⟨r1, e2, H⟩ := ob H
  refine lh (p_ch (ids := [1]) (machine_find_api_MachInstr_ok e2) ent_69 z z (rc z z rn) (rc z z rn) z ⟨z, q⟩ (by decide) z z z (oc z on) (oc z on) z) z <| l (p_ex z z) z <| l (p_ex z z) z <| la z z <| la z z <| ne <| wc_ret <| ?_
  obtain rfl := sm H
  exact fin (Or.inr z) (rs1 (rv z) (rs1 (rv z) rs0)) (re2 [] ⟨.dat, ⟨.dat, q⟩⟩ z h0)

def retargetlaw16_named (x0 : Machine) (x1 : ByteArray) (x2 : List Int) : Option MachOp :=
  (machine_Instruction x0 x1).bind fun r1 =>
  some (MachOp.mk r1.1 x2)
theorem retargetlaw16_named_ok {x0 : Machine} {x1 : ByteArray} {x2 : List Int} {R : MachOp} (H : retargetlaw16_named x0 x1 x2 = some R) : FnOk Tryz.prog K0 12 [(aA (encMachine x0)), (aS x1), (aL 1 (eN .i64) x2)] [] (aA (encMachOp R)) [] := by
  refine fn_w (nt := 18) (np := 0) Tryz.func12 z z (by simp) (np_of2 z) <| ?_
  unfold retargetlaw16_named at H
  refine sgr z <| lh (p_bx 0 z q z) z <| lh (p_al 1 zr_31 z) z <| ne <| sgr z <| l (p_ldB (ds := (encMachine x0).map .data) ty_27 z z z z) z <| lm z z <| ?_
  obtain ⟨r1, e2, H⟩ := ob H
  refine l (p_c (machine_Instruction_ok e2) ent_31 z z z) z <| lm z z <| l (p_ex z z) z <| l (p_ex z z) z <| la z z <| la z z <| ne <| sgr z <| lm z z <| lm z z <| l (p_bd (cs := (encMachOp (MachOp.mk r1.1 x2)).map .data) pl_31 zr_31 z ⟨q, ⟨q, q⟩⟩ z) z <| l0h (p_stA (ds := (encMachOp (MachOp.mk r1.1 x2)).map .data) ty_31 z z z z z z) <| ne <| wc_ret <| ?_
  obtain rfl := sm H
  exact fin (Or.inr z) (rs1 (rva (ds := (encMachOp (MachOp.mk r1.1 x2)).map .data) ty_31 z z z z) rs0) (re [] (.adat) z h0)

def cycle_Check (x0 : Machine) (x1 : Pipe) : Option Int :=
  (core_New x0).bind fun r1 =>
  cs2 r1 (fun r1 =>
    bif r1 != 0 then
      some r1
    else none) fun r1 =>
    (cycle_valid r1 x1).bind fun r4 =>
    bif !r4 then some 8 else some 0
theorem cycle_Check_ok {x0 : Machine} {x1 : Pipe} {R : Int} (H : cycle_Check x0 x1 = some R) : FnOk Tryz.prog K0 13 [(aA (encMachine x0)), (aA (encPipe x1))] [] (aN .i64 R) [] := by
  refine fn_w (nt := 19) (np := 0) Tryz.func13 z z (by simp) (np_of2 z) <| ?_
  unfold cycle_Check at H
  refine sgr z <| lh (p_bx 0 z q z) z <| lh (p_bx 1 z q z) z <| la z z <| ne <| sgr z <| l (p_ldB (ds := (encMachine x0).map .data) ty_27 z z z z) z <| ?_
  obtain ⟨r1, e2, H⟩ := ob H
  rcases r1 with r1 | r1
  · replace H := csl H
    refine l (p_c (core_New_okL e2) ent_26 z z z) z <| lm z z <| l (p_ex z z) z <| l (p_ex z z) z <| la z z <| la z z <| ne <| wc_seq <| sgr z <| lm z z <| l (p_neq z z) z <| ne <| ?_
    rcases cn H with ⟨b3, H⟩ | ⟨b3, H⟩
    · refine c_t z b3 ?_
      refine sgr z <| lm z z <| la z z <| ne <| wc_ret <| e_tr <| ?_
      obtain rfl := sm H
      exact fin (Or.inr z) (rs1 (rv z) rs0) (re [] (.dat) z h0)
    cases H
  replace H := csr H
  refine l (p_c (core_New_okR e2) ent_26 z z z) z <| lm z z <| l (p_ex z z) z <| l (p_ex z z) z <| la z z <| la z z <| ne <| wc_seq <| sgr z <| lm z z <| l (p_neq z z) z <| ne <| c_f z z <| se <| wc_seq <| sgr z <| lm z z <| l (p_ldB (ds := (encPipe x1).map .data) ty_34 z z z z) z <| ?_
  obtain ⟨r4, e5, H⟩ := ob H
  refine l (p_c (cycle_valid_ok e5) ent_28 z z z) z <| l (p_not z) z <| ne <| ?_
  rcases cn H with ⟨b6, H⟩ | ⟨b6, H⟩
  · refine c_t z b6 ?_
    refine sgr z <| la z z <| ne <| wc_ret <| e_tr <| ?_
    obtain rfl := sm H
    exact fin (Or.inr z) (rs1 (rv z) rs0) (re [] (.dat) z h0)
  refine c_f z b6 <| se <| sgr z <| la z z <| ne <| wc_ret <| ?_
  obtain rfl := sm H
  exact fin (Or.inr z) (rs1 (rv z) rs0) (re [] (.dat) z h0)

def cycle_list_k1 (r1 : core_Core) : Unit → Option (Int ⊕ core_Core)
  | () =>
    some (.inr r1)
def cycle_list_b2 (x0 : Machine) (x1 : List MachOp) (k1 : Unit → Option (Int ⊕ core_Core)) (rec2 : Int → Option (Int ⊕ core_Core)) : Int → Option (Int ⊕ core_Core)
  | v5 =>
    bif decide (v5 < (x1.length : Int)) then
      (ix x1 v5).bind fun r7 =>
      (machine_CheckOp x0 r7).bind fun r9 =>
      bif r9 != 0 then some (.inl r9) else rec2 (w64 (v5 + 1))
    else
      k1 ()
def cycle_list (x0 : Machine) (x1 : List MachOp) : Option (Int ⊕ core_Core) :=
  (core_New x0).bind fun r1 =>
  cs2 r1 (fun r1 =>
    bif r1 != 0 then
      some (.inl r1)
    else none) fun r1 =>
    bif decide (64 < (x1.length : Int)) then
      some (.inl 4)
    else
      jn (cycle_list_k1 r1) fun k1 =>
      lp (cycle_list_b2 x0 x1 k1) (x1.length + 1) 0
theorem cycle_list_ok {x0 : Machine} {x1 : List MachOp} {R : Int ⊕ core_Core} (H : cycle_list x0 x1 = some R) : FnOk Tryz.prog K0 32 [(aA (encMachine x0)), (aL 2 encMachOp x1)] [] (Sum.elim (fun r => (.tup [(.data (.lit (.pointer none))), (aN .i64 r)])) (fun r => (.tup [(aP ((enccore_Core r).drop 0)), (aN .i64 0)])) R) [] := by
  refine fn_w (nt := 35) (np := 0) Tryz.func32 z z (by simp) (np_of2 z) <| ?_
  unfold cycle_list at H
  refine sgr z <| lh (p_bx 0 z q z) z <| la z z <| la z z <| ne <| sgr z <| l (p_ldB (ds := (encMachine x0).map .data) ty_27 z z z z) z <| ?_
  obtain ⟨r1, e2, H⟩ := ob H
  rcases r1 with r1 | r1
  · replace H := csl H
    refine l (p_c (core_New_okL e2) ent_26 z z z) z <| lm z z <| l (p_ex z z) z <| l (p_ex z z) z <| la z z <| la z z <| ne <| wc_seq <| sgr z <| lm z z <| l (p_neq z z) z <| ne <| ?_
    rcases cn H with ⟨b3, H⟩ | ⟨b3, H⟩
    · refine c_t z b3 ?_
      refine sgr z <| lm z z <| la z z <| la z z <| ne <| wc_ret <| e_tr <| ?_
      obtain rfl := sm H
      exact fin (Or.inr z) (rs1 (rv z) (rs1 (rv z) rs0)) (re2 [] ⟨.dat, ⟨.dat, q⟩⟩ z h0)
    cases H
  replace H := csr H
  refine l (p_c (core_New_okR e2) ent_26 z z z) z <| lm z z <| l (p_ex z z) z <| l (p_ex z z) z <| la z z <| la z z <| ne <| wc_seq <| sgr z <| lm z z <| l (p_neq z z) z <| ne <| c_f z z <| se <| wc_seq <| sgr z <| lm z z <| l (p_lenL Tryz.underlying46 z) z <| l (p_gtr z z) z <| ne <| ?_
  rcases cn H with ⟨b4, H⟩ | ⟨b4, H⟩
  · refine c_t z b4 ?_
    refine sgr z <| la z z <| la z z <| ne <| wc_ret <| e_tr <| ?_
    obtain rfl := sm H
    exact fin (Or.inr z) (rs1 (rv z) (rs1 (rv z) rs0)) (re2 [] ⟨.dat, ⟨.dat, q⟩⟩ z h0)
  refine c_f z b4 <| se <| ?_
  refine w_jn0 H (⟨[(6, (aP ((enccore_Core r1).drop 0)))], []⟩) ?_ ?_
  · intro H
    rw [cycle_list_k1] at H
    refine sgr z <| lm z z <| la z z <| la z z <| ne <| wc_ret <| ?_
    obtain rfl := sm H
    exact fin (Or.inr z) (rs1 (rv z) (rs1 (rv z) rs0)) (re2 [] ⟨.dat, ⟨.dat, q⟩⟩ z h0)
  intro H
  refine sgr z <| lm z z <| l (p_lenL Tryz.underlying46 z) z <| lm z z <| ne <| wc_block <| w_lp1 H (fun v5 => ⟨[(2, (.ptr 0 0)), (6, (aP ((enccore_Core r1).drop 0))), (21, (aL 2 encMachOp x1)), (22, (aN .i64 (x1.length : Int))), (23, (aN .i64 v5))], [(0, (oD 27 (encMachine x0)))]⟩) (en [(0, 0)] (ws z z z (wd z (wd z (wd z (wd z w0))))) z (hc z h0)) <| ?_
  intro n2 v5 H
  rw [cycle_list_b2] at H
  refine sgr z <| l (p_lss z z) z <| ne <| wc_seq <| ?_
  rcases cn H with ⟨b6, H⟩ | ⟨b6, H⟩
  · refine c_t z b6 ?_
    refine se <| wc_seq <| wc_block <| sgr z <| ?_
    obtain ⟨r7, e8, H⟩ := ob H
    refine l (p_ixL Tryz.underlying46 ty_31.size z z e8) z <| l (p_ldA (ds := encMachOp r7) ty_31 z z z) z <| lh (p_al 2 zr_31 z) z <| l0h (p_stA (ds := (encMachOp r7).map .data) ty_31 z z z z z z) <| ne <| sgr z <| l (p_ldB (ds := (encMachine x0).map .data) ty_27 z z z z) z <| l (p_ldB (ds := (encMachOp r7).map .data) ty_31 z z z z) z <| ?_
    obtain ⟨r9, e10, H⟩ := ob H
    refine l (p_c (machine_CheckOp_ok e10) ent_29 z z z) z <| la z z <| ne <| sgr z <| lm z z <| l (p_neq z z) z <| ne <| ?_
    rcases cn H with ⟨b11, H⟩ | ⟨b11, H⟩
    · refine c_t z b11 ?_
      refine sgr z <| lm z z <| la z z <| la z z <| ne <| wc_ret <| ?_
      refine e_br (e_tr (e_tr (e_br (e_tr ?_))))
      obtain rfl := sm H
      exact fin (Or.inr z) (rs1 (rv z) (rs1 (rv z) rs0)) (re2 [] ⟨.dat, ⟨.dat, q⟩⟩ z h0)
    refine c_f z b11 <| wc_skip <| ?_
    refine e_bn (e_n ?_)
    refine wc_region z <| l (p_add z z) z <| lm z z <| ne <| ?_
    exact ⟨w64 (v5 + 1), H, en [(0, 0)] (ws z z z (wd z (wd z (wd z (wd z w0))))) z (hc z h0)⟩
  refine c_f z b6 <| wc_exit <| ?_
  refine e_te (e_te (e_h (e_n ?_)))
  exact ⟨H, en [] (wd z w0) z h0⟩
theorem cycle_list_okL {x0 : Machine} {x1 : List MachOp} {r : Int} (H : cycle_list x0 x1 = some (.inl r)) : FnOk Tryz.prog K0 32 [(aA (encMachine x0)), (aL 2 encMachOp x1)] [] (.tup [(.data (.lit (.pointer none))), (aN .i64 r)]) [] := cycle_list_ok H
theorem cycle_list_okR {x0 : Machine} {x1 : List MachOp} {r : core_Core} (H : cycle_list x0 x1 = some (.inr r)) : FnOk Tryz.prog K0 32 [(aA (encMachine x0)), (aL 2 encMachOp x1)] [] (.tup [(aP ((enccore_Core r).drop 0)), (aN .i64 0)]) [] := cycle_list_ok H

def core_Core_Starts_k1 : Int × (List Int) → Option ((List Int) × Int)
  | (v3, v4) =>
    some (v4, v3)
def core_Core_Starts_b2 (x0 : core_Core) (x1 : List MachOp) (k1 : Int × (List Int) → Option ((List Int) × Int)) (rec2 : Int × Int × Pipe × (List Int) → Option ((List Int) × Int)) : Int × Int × Pipe × (List Int) → Option ((List Int) × Int)
  | (v5, v6, v7, v8) =>
    bif decide (v6 < (x1.length : Int)) then
      (ix x1 v6).bind fun r10 =>
      (core_Core_Begin x0 v7 r10).bind fun r12 =>
      (ix x0.Machine.Instrs r10.Instr).bind fun r14 =>
      asr (roomy (v8.length + [r12.1].length) 8) <|
      rec2 ((max (max v5 (w64 (r12.1 + r14.Busy))) (w64 (r12.1 + r14.Latency)), w64 (v6 + 1), r12.2, v8 ++ [r12.1]))
    else
      k1 (v5, v8)
def core_Core_Starts (x0 : core_Core) (x1 : List MachOp) : Option ((List Int) × Int) :=
  (core_Core_Pipe x0).bind fun r1 =>
  jn core_Core_Starts_k1 fun k1 =>
  lp (core_Core_Starts_b2 x0 x1 k1) (x1.length + 1) ((0, 0, r1, ([] : List Int)))
theorem core_Core_Starts_ok {x0 : core_Core} {x1 : List MachOp} {R : (List Int) × Int} (H : core_Core_Starts x0 x1 = some R) : FnOk Tryz.prog K0 33 [(aP ((enccore_Core x0).drop 0)), (aL 2 encMachOp x1)] [] (.tup [(aL 1 (eN .i64) R.1), (aN .i64 R.2)]) [] := by
  refine fn_w (nt := 54) (np := 0) Tryz.func33 z z (by simp) (np_of2 z) <| ?_
  unfold core_Core_Starts at H
  refine sgr z <| la z z <| la z z <| ne <| sgr z <| lm z z <| ?_
  obtain ⟨r1, e2, H⟩ := ob H
  refine l (p_c (core_Core_Pipe_ok e2) ent_27 z z z) z <| lh (p_al 0 zr_34 z) z <| l0h (p_stA (ds := (encPipe r1).map .data) ty_34 z z z z z z) <| la z z <| ne <| sgr z <| la z z <| ne <| ?_
  refine w_jn2 H (fun v3 v4 => ⟨[(7, (aN .i64 v3)), (8, (.row 5))], [(5, (oR 3 1 (eN .i64) v4))]⟩) ?_ ?_
  · intro v3 v4 H
    rw [core_Core_Starts_k1] at H
    refine sgr z <| lm z z <| lm z z <| la z z <| la z z <| ne <| wc_ent (fz (d := 4) z z (fun _ => z)) <| wc_ret <| ?_
    obtain rfl := sm H
    exact fin (Or.inr z) (rs1 (rv z) (rs1 (rv z) rs0)) (re2 [] ⟨.dat, ⟨.dat, q⟩⟩ z h0)
  intro H
  refine sgr z <| lm z z <| l (p_lenL Tryz.underlying46 z) z <| lm z z <| ne <| wc_block <| w_lp4 H (fun v5 v6 v7 v8 => ⟨[(0, (aP ((enccore_Core x0).drop 0))), (6, (.ptr 0 0)), (7, (aN .i64 v5)), (8, (.row 5)), (15, (aL 2 encMachOp x1)), (16, (aN .i64 (x1.length : Int))), (17, (aN .i64 v6))], [(0, (oD 34 (encPipe v7))), (5, (oR 3 1 (eN .i64) v8))]⟩) (Ent.trans (nr (d := 8) (f := (eN .i64)) (sz := 1) (e := 3) 1 z z z) (en [(0, 0), (1, 5)] (wd z (ws z z z (wd z (ws z z z (wd z (wd z (wd z w0))))))) z (hc z (hr z h0)))) <| ?_
  intro n2 v5 v6 v7 v8 H
  rw [core_Core_Starts_b2] at H
  refine sgr z <| l (p_lss z z) z <| ne <| wc_seq <| ?_
  rcases cn H with ⟨b9, H⟩ | ⟨b9, H⟩
  · refine c_t z b9 ?_
    refine se <| wc_seq <| wc_block <| sgr z <| ?_
    obtain ⟨r10, e11, H⟩ := ob H
    refine l (p_ixL Tryz.underlying46 ty_31.size z z e11) z <| l (p_ldA (ds := encMachOp r10) ty_31 z z z) z <| lh (p_al 6 zr_31 z) z <| l0h (p_stA (ds := (encMachOp r10).map .data) ty_31 z z z z z z) <| ne <| sgr z <| la z z <| ne <| sgr z <| lm z z <| l (p_ldB (ds := (encPipe v7).map .data) ty_34 z z z z) z <| l (p_ldB (ds := (encMachOp r10).map .data) ty_31 z z z z) z <| ?_
    obtain ⟨r12, e13, H⟩ := ob H
    refine l (p_c (core_Core_Begin_ok e13) ent_30 z z z) z <| lm z z <| l (p_ex z z) z <| l (p_ex z z) z <| la z z <| l0h (p_stA (ds := (encPipe r12.2).map .data) ty_34 z z z z z z) <| ne <| wc_seq <| wc_draw [0, 1, 3, 7, 15, 0, 32, 127, 255, 0, 1023] mixed z <| dm z z <| dr (p_nlP z) z <| dr (p_fdP fld_89_0 z) z <| dr (p_fdP fld_27_6 z) z <| dr (p_ldP ty_25 z z) z <| dr (p_fd fld_31_0 z) z <| dr (p_ld ty_3 z z z) z <| ?_
    obtain ⟨r14, e15, H⟩ := ob H
    refine dr (p_ixL Tryz.underlying25 ty_61.size z z e15) z <| dr (p_ldA (ds := encMachInstr r14) ty_61 z z z) z <| drh (p_al 7 zr_61 z) z <| dr0h (p_stA (ds := (encMachInstr r14).map .data) ty_61 z z z z z z) <| ?_
    refine wd_nil ?_ (by kernel_rfl)
    refine e_n <| wc_draw [0, 0, 2, 7, 0, 0, 0, 64, 224, 0, 0, 1024, 3584, 8176, 15, 32767] mixed z <| dm z z <| dm z z <| dr (p_bs (f := (eN .i64)) [.tmp 38] [r12.1] Tryz.underlying29 ty_3.size zr_3 z z z z (el1 (.one _) z el0) z) z <| ?_
    obtain ⟨e16, H⟩ := as_ H
    refine drh (p_apA 8 Tryz.underlying29 el_3 z z z z e16) z <| dm z z <| dm z z <| dr (p_fd fld_61_6 z) z <| dr (p_ld ty_3 z z z) z <| dr (p_add z z) z <| dm z z <| dr (p_fd fld_61_7 z) z <| dr (p_ld ty_3 z z z) z <| dr (p_add z z) z <| dr (p_max3 z z z) z <| da z z <| da z z <| ?_
    refine wd_nil ?_ (by kernel_rfl)
    refine e_bn (e_n ?_)
    refine wc_region z <| l (p_add z z) z <| lm z z <| ne <| ?_
    exact ⟨max (max v5 (w64 (r12.1 + r14.Busy))) (w64 (r12.1 + r14.Latency)), w64 (v6 + 1), r12.2, v8 ++ [r12.1], H, en [(0, 0), (8, 5)] (wd z (ws z z z (wd z (ws z z z (wd z (wd z (wd z w0))))))) z (hc z (hr z h0))⟩
  refine c_f z b9 <| wc_exit <| ?_
  refine e_te (e_te (e_h (e_n ?_)))
  exact ⟨v5, v8, H, en [(5, 5)] (wd z (ws z z z w0)) z (hr z h0)⟩

def cycle_Starts (x0 : Machine) (x1 : List MachOp) : Option ((List Int) × Int) :=
  (cycle_list x0 x1).bind fun r1 =>
  cs2 r1 (fun r1 =>
    bif r1 != 0 then
      some ((([] : List Int), r1))
    else none) fun r1 =>
    (core_Core_Starts r1 x1).bind fun r4 =>
    some (r4.1, 0)
theorem cycle_Starts_ok {x0 : Machine} {x1 : List MachOp} {R : (List Int) × Int} (H : cycle_Starts x0 x1 = some R) : FnOk Tryz.prog K0 14 [(aA (encMachine x0)), (aL 2 encMachOp x1)] [] (.tup [(aL 1 (eN .i64) R.1), (aN .i64 R.2)]) [] := by
  refine fn_w (nt := 26) (np := 0) Tryz.func14 z z (by simp) (np_of2 z) <| ?_
  unfold cycle_Starts at H
  refine sgr z <| lh (p_bx 0 z q z) z <| la z z <| la z z <| ne <| sgr z <| l (p_ldB (ds := (encMachine x0).map .data) ty_27 z z z z) z <| lm z z <| ?_
  obtain ⟨r1, e2, H⟩ := ob H
  rcases r1 with r1 | r1
  · replace H := csl H
    refine l (p_c (cycle_list_okL e2) ent_32 z z z) z <| lm z z <| l (p_ex z z) z <| l (p_ex z z) z <| la z z <| la z z <| ne <| wc_seq <| sgr z <| lm z z <| l (p_neq z z) z <| ne <| ?_
    rcases cn H with ⟨b3, H⟩ | ⟨b3, H⟩
    · refine c_t z b3 ?_
      refine sgr z <| lm z z <| la z z <| la z z <| ne <| wc_ret <| e_tr <| ?_
      obtain rfl := sm H
      exact fin (Or.inr z) (rs1 (rv z) (rs1 (rv z) rs0)) (re2 [] ⟨.nil, ⟨.dat, q⟩⟩ z h0)
    cases H
  replace H := csr H
  refine l (p_c (cycle_list_okR e2) ent_32 z z z) z <| lm z z <| l (p_ex z z) z <| l (p_ex z z) z <| la z z <| la z z <| ne <| wc_seq <| sgr z <| lm z z <| l (p_neq z z) z <| ne <| c_f z z <| se <| sgr z <| lm z z <| lm z z <| ?_
  obtain ⟨r4, e5, H⟩ := ob H
  refine l (p_c (core_Core_Starts_ok e5) ent_33 z z z) z <| lm z z <| l (p_ex z z) z <| l (p_ex z z) z <| la z z <| la z z <| ne <| sgr z <| lm z z <| la z z <| la z z <| ne <| wc_ret <| ?_
  obtain rfl := sm H
  exact fin (Or.inr z) (rs1 (rv z) (rs1 (rv z) rs0)) (re2 [] ⟨.dat, ⟨.dat, q⟩⟩ z h0)

def cycle_Legal_1 (x0 : Int) : Option Bool :=
  some ((decide (0 ≤ x0)) && (decide (x0 ≤ 1099511627776)))
theorem cycle_Legal_1_ok {x0 : Int} {R : Bool} (H : cycle_Legal_1 x0 = some R) : FnOk Tryz.prog K0 35 [(aN .i64 x0)] [] (aT R) [] := by
  refine fn_w (nt := 9) (np := 0) Tryz.func35 z z (by simp) (np_of2 z) <| ?_
  unfold cycle_Legal_1 at H
  refine sgr z <| la z z <| ne <| sgr z <| lm z z <| l (p_geq z z) z <| lm z z <| lw z (Grd.plain _) z [0] z (s1 strip_same s0) (fun hw => p_mv z) ⟨z, q⟩ (by exact q) z z <| lw z (Grd.plain _) z [6] z (s1 (strip_when id) s0) (fun hw => p_leq z z) ⟨z, q⟩ (by exact q) z z <| l (p_pkA z z q (strip_when (wt))) z <| la z z <| ne <| wc_ret <| ?_
  obtain rfl := sm H
  exact fin (Or.inr z) (rs1 (rv z) rs0) (re [] (.dat) z h0)

def cycle_all_int_2_k1 : Unit → Option Bool
  | () =>
    some true
def cycle_all_int_2_b2 (x0 : List Int) (k1 : Unit → Option Bool) (rec2 : Int → Option Bool) : Int → Option Bool
  | v1 =>
    bif decide (v1 < (x0.length : Int)) then
      (ix x0 v1).bind fun r3 =>
      (cycle_Legal_1 r3).bind fun r5 =>
      bif !r5 then some false else rec2 (w64 (v1 + 1))
    else
      k1 ()
def cycle_all_int_2 (x0 : List Int) : Option Bool :=
  jn cycle_all_int_2_k1 fun k1 =>
  lp (cycle_all_int_2_b2 x0 k1) (x0.length + 1) 0
theorem cycle_all_int_2_ok {x0 : List Int} {R : Bool} (H : cycle_all_int_2 x0 = some R) : FnOk Tryz.prog K0 34 [(aL 1 (eN .i64) x0), (.fn (.func 35) [] [])] [] (aT R) [] := by
  refine fn_w (nt := 18) (np := 0) Tryz.func34 z z (by simp) (np_of2 z) <| ?_
  unfold cycle_all_int_2 at H
  refine sgr z <| la z z <| ne <| ?_
  refine w_jn0 H (⟨[], []⟩) ?_ ?_
  · intro H
    rw [cycle_all_int_2_k1] at H
    refine sgr z <| la z z <| ne <| wc_ret <| ?_
    obtain rfl := sm H
    exact fin (Or.inr z) (rs1 (rv z) rs0) (re [] (.dat) z h0)
  intro H
  refine sgr z <| lm z z <| l (p_lenL Tryz.underlying29 z) z <| lm z z <| ne <| wc_block <| w_lp1 H (fun v1 => ⟨[(1, (.fn (.func 35) [] [])), (7, (aL 1 (eN .i64) x0)), (8, (aN .i64 (x0.length : Int))), (9, (aN .i64 v1))], []⟩) (en [] (ws z z z (wd z (wd z (wd z w0)))) z h0) <| ?_
  intro n2 v1 H
  rw [cycle_all_int_2_b2] at H
  refine sgr z <| l (p_lss z z) z <| ne <| wc_seq <| ?_
  rcases cn H with ⟨b2, H⟩ | ⟨b2, H⟩
  · refine c_t z b2 ?_
    refine se <| wc_seq <| wc_block <| sgr z <| ?_
    obtain ⟨r3, e4, H⟩ := ob H
    refine l (p_ixL Tryz.underlying29 ty_3.size z z e4) z <| l (p_ldP ty_3 z z) z <| la z z <| ne <| sgr z <| lm z z <| lm z z <| ?_
    obtain ⟨r5, e6, H⟩ := ob H
    refine l (p_cw (ids := []) (cycle_Legal_1_ok e6) ent_35 z z z rn rn z q List.nodup_nil z z z on on z) z <| l (p_not z) z <| ne <| ?_
    rcases cn H with ⟨b7, H⟩ | ⟨b7, H⟩
    · refine c_t z b7 ?_
      refine sgr z <| la z z <| ne <| wc_ret <| ?_
      refine e_br (e_tr (e_tr (e_br (e_tr ?_))))
      obtain rfl := sm H
      exact fin (Or.inr z) (rs1 (rv z) rs0) (re [] (.dat) z h0)
    refine c_f z b7 <| wc_skip <| ?_
    refine e_bn (e_n ?_)
    refine wc_region z <| l (p_add z z) z <| lm z z <| ne <| ?_
    exact ⟨w64 (v1 + 1), H, en [] (ws z z z (wd z (wd z (wd z w0)))) z h0⟩
  refine c_f z b2 <| wc_exit <| ?_
  refine e_te (e_te (e_h (e_n ?_)))
  exact ⟨H, en [] w0 z h0⟩

def core_Waits_k1 (x0 : Touch) (x1 : Touch) : Unit → Option Bool
  | () =>
    some (x0.Stores && (x1.Loads || x1.Stores))
def core_Waits_b2 (x0 : Touch) (x1 : Touch) (k1 : Unit → Option Bool) (rec2 : Int → Option Bool) : Int → Option Bool
  | v1 =>
    bif decide (v1 < (x0.Writes.length : Int)) then
      (ix x0.Writes v1).bind fun r3 =>
      (bif (true && ((r3 != 0) == true)) then ix x1.Reads v1 else some default).bind fun r5 =>
      (bif (true && ((r3 != 0) == true)) then ix x1.Writes v1 else some default).bind fun r7 =>
      bif (r3 != 0) && ((bOr .u64 r5 r7) != 0) then some true else rec2 (w64 (v1 + 1))
    else
      k1 ()
def core_Waits (x0 : Touch) (x1 : Touch) : Option Bool :=
  jn (core_Waits_k1 x0 x1) fun k1 =>
  lp (core_Waits_b2 x0 x1 k1) (x0.Writes.length + 1) 0
theorem core_Waits_ok {x0 : Touch} {x1 : Touch} {R : Bool} (H : core_Waits x0 x1 = some R) : FnOk Tryz.prog K0 38 [(aA (encTouch x0)), (aA (encTouch x1))] [] (aT R) [] := by
  refine fn_w (nt := 42) (np := 0) Tryz.func38 z z (by simp) (np_of2 z) <| ?_
  unfold core_Waits at H
  refine sgr z <| lh (p_bx 0 z q z) z <| lh (p_bx 1 z q z) z <| la z z <| ne <| ?_
  refine w_jn0 H (⟨[(2, (.ptr 0 0)), (3, (.ptr 1 0))], [(0, (oD 85 (encTouch x0))), (1, (oD 85 (encTouch x1)))]⟩) ?_ ?_
  · intro H
    rw [core_Waits_k1] at H
    refine sgr z <| l (p_fd fld_85_3 z) z <| l (p_ld ty_4 z z z) z <| lm z z <| lw z (Grd.plain _) z [3] z (s1 strip_same s0) (fun hw => p_fd fld_85_2 z) ⟨z, q⟩ (by exact q) z z <| lw z (Grd.plain _) z [35] z (s1 (strip_when id) s0) (fun hw => p_ld ty_4 z z z) ⟨z, q⟩ (by exact ⟨z, q⟩) z z <| lw z (Grd.plain _) z [36] z (s1 (strip_when id) s0) (fun hw => p_mv z) ⟨z, q⟩ (by exact q) z z <| lw z (Grd.under _ _) z [3] z (s1 strip_same s0) (fun hw => p_fd fld_85_3 z) ⟨z, q⟩ (by exact q) z z <| lw z (Grd.under _ _) z [38] z (s1 (strip_when id) s0) (fun hw => p_ld ty_4 z z z) ⟨z, q⟩ (by exact ⟨z, q⟩) z z <| lw z (Grd.plain _) z [37, 39] z (s1 (strip_when id) (s1 strip_same s0)) (fun hw => p_pkO z z q (strip_when (wfc hw))) ⟨z, ⟨z, q⟩⟩ (by exact q) z z <| l (p_pkA z z q (strip_when (wt))) z <| la z z <| ne <| wc_ret <| ?_
    obtain rfl := sm H
    exact fin (Or.inr z) (rs1 (rv z) rs0) (re [] (.dat) z h0)
  intro H
  refine sgr z <| l (p_fd fld_85_1 z) z <| l (p_ld ty_83 z z z) z <| l (p_lenL Tryz.underlying83 z) z <| lm z z <| ne <| wc_block <| w_lp1 H (fun v1 => ⟨[(2, (.ptr 0 0)), (3, (.ptr 1 0)), (8, (aL 1 (eN .u64) x0.Writes)), (9, (aN .i64 (x0.Writes.length : Int))), (10, (aN .i64 v1))], [(0, (oD 85 (encTouch x0))), (1, (oD 85 (encTouch x1)))]⟩) (en [(0, 0), (1, 1)] (ws z z z (ws z z z (wd z (wd z (wd z w0))))) z (hc z (hc z h0))) <| ?_
  intro n2 v1 H
  rw [core_Waits_b2] at H
  refine sgr z <| l (p_lss z z) z <| ne <| wc_seq <| ?_
  rcases cn H with ⟨b2, H⟩ | ⟨b2, H⟩
  · refine c_t z b2 ?_
    refine se <| wc_seq <| wc_block <| sgr z <| lm z z <| ?_
    obtain ⟨r3, e4, H⟩ := ob H
    refine l (p_ixL Tryz.underlying83 ty_57.size z z e4) z <| l (p_ldP ty_57 z z) z <| la z z <| la z z <| ne <| wc_seq <| wc_draw [0, 1, 3, 7, 15, 7, 63, 127, 7, 263, 7, 1799, 3847, 8191, 16383, 32767] mixed z <| dm z z <| dr (p_neq z z) z <| dm z z <| dw z (Grd.plain _) z [3] z (s1 strip_same s0) (fun hw => p_fd fld_85_0 z) ⟨z, q⟩ (by exact q) z <| dw z (Grd.plain _) z [18] z (s1 (strip_when id) s0) (fun hw => p_ld ty_83 z z z) ⟨z, q⟩ (by exact ⟨z, q⟩) z <| dw z (Grd.plain _) z [5] z (s1 strip_same s0) (fun hw => p_mv z) ⟨z, q⟩ (by exact q) z <| ?_
    obtain ⟨r5, e6, H⟩ := ob H
    refine dw z (Grd.plain _) z [19, 20] z (s1 (strip_when id) (s1 (strip_when id) s0)) (fun hw => p_ixL Tryz.underlying83 ty_57.size z z (bt hw e6)) ⟨z, ⟨z, q⟩⟩ (by exact q) z <| dw z (Grd.plain _) z [21] z (s1 (strip_when id) s0) (fun hw => p_ldP ty_57 z z) ⟨z, q⟩ (by exact q) z <| dw z (Grd.plain _) z [3] z (s1 strip_same s0) (fun hw => p_fd fld_85_1 z) ⟨z, q⟩ (by exact q) z <| dw z (Grd.plain _) z [23] z (s1 (strip_when id) s0) (fun hw => p_ld ty_83 z z z) ⟨z, q⟩ (by exact ⟨z, q⟩) z <| dw z (Grd.plain _) z [5] z (s1 strip_same s0) (fun hw => p_mv z) ⟨z, q⟩ (by exact q) z <| ?_
    obtain ⟨r7, e8, H⟩ := ob H
    refine dw z (Grd.plain _) z [24, 25] z (s1 (strip_when id) (s1 (strip_when id) s0)) (fun hw => p_ixL Tryz.underlying83 ty_57.size z z (bt hw e8)) ⟨z, ⟨z, q⟩⟩ (by exact q) z <| dw z (Grd.plain _) z [26] z (s1 (strip_when id) s0) (fun hw => p_ldP ty_57 z z) ⟨z, q⟩ (by exact q) z <| dw z (Grd.plain _) z [22, 27] z (s1 (strip_when id) (s1 (strip_when id) s0)) (fun hw => p_or z z) ⟨z, ⟨z, q⟩⟩ (by exact q) z <| dw z (Grd.plain _) z [28] z (s1 (strip_when id) s0) (fun hw => p_neq z z) ⟨z, q⟩ (by exact q) z <| dr (p_pkA z z q (strip_when (wt))) z <| ?_
    refine wd_nil ?_ (by kernel_rfl)
    refine e_n <| ?_
    rcases cn H with ⟨b9, H⟩ | ⟨b9, H⟩
    · refine c_t z b9 ?_
      refine sgr z <| la z z <| ne <| wc_ret <| ?_
      refine e_br (e_tr (e_tr (e_br (e_tr ?_))))
      obtain rfl := sm H
      exact fin (Or.inr z) (rs1 (rv z) rs0) (re [] (.dat) z h0)
    refine c_f z b9 <| wc_skip <| ?_
    refine e_bn (e_n ?_)
    refine wc_region z <| l (p_add z z) z <| lm z z <| ne <| ?_
    exact ⟨w64 (v1 + 1), H, en [(0, 0), (1, 1)] (ws z z z (ws z z z (wd z (wd z (wd z w0))))) z (hc z (hc z h0))⟩
  refine c_f z b2 <| wc_exit <| ?_
  refine e_te (e_te (e_h (e_n ?_)))
  exact ⟨H, en [(0, 0), (1, 1)] (ws z z z (ws z z z w0)) z (hc z (hc z h0))⟩

def cycle_Legal_k2 : Bool → Option (Bool × Int)
  | v12 =>
    some (v12, 0)
def cycle_Legal_k4 (v14 : Int) (rec3 : Bool × Int → Option (Bool × Int)) : Bool → Option (Bool × Int)
  | v16 =>
    rec3 ((v16, w64 (v14 + 1)))
def cycle_Legal_k5 (r1 : core_Core) (k2 : Bool → Option (Bool × Int)) (k4 : Bool → Option (Bool × Int)) (r17 : MachOp) : Bool × Int → Option (Bool × Int)
  | (v19, v20) =>
    (ix r1.Machine.Instrs r17.Instr).bind fun r21 =>
    (ix r1.Machine.Units r21.Unit).bind fun r23 =>
    bif decide (r23.Count < v20) then k2 false else k4 v19
def cycle_Legal_k7 (v29 : Int) (rec6 : Bool × Int × Int → Option (Bool × Int)) : Bool × Int → Option (Bool × Int)
  | (v31, v32) =>
    rec6 ((v31, v32, w64 (v29 + 1)))
def cycle_Legal_b6 (x1 : List MachOp) (x2 : List Int) (r1 : core_Core) (v11 : List Touch) (k2 : Bool → Option (Bool × Int)) (v14 : Int) (r17 : MachOp) (k5 : Bool × Int → Option (Bool × Int)) (rec6 : Bool × Int × Int → Option (Bool × Int)) : Bool × Int × Int → Option (Bool × Int)
  | (v27, v28, v29) =>
    bif decide (v29 < (((lSub x1 0 v14).length : Int))) then
      jn (cycle_Legal_k7 v29 rec6) fun k7 =>
      (ix (lSub x1 0 v14) v29).bind fun r33 =>
      (ix r1.Machine.Instrs r33.Instr).bind fun r35 =>
      (bif (true && ((v29 == (w64 (v14 - 1))) == true)) then ix v11 v29 else some default).bind fun r37 =>
      (bif (true && (((v29 == (w64 (v14 - 1))) && r37.Jumps) == true)) then ix x2 v14 else some default).bind fun r39 =>
      (bif (true && (((v29 == (w64 (v14 - 1))) && r37.Jumps) == true)) then ix x2 v29 else some default).bind fun r41 =>
      (bif (true && ((((v29 == (w64 (v14 - 1))) && r37.Jumps) && (r39 == r41)) == false)) then ix v11 v29 else some default).bind fun r43 =>
      (bif (true && ((((v29 == (w64 (v14 - 1))) && r37.Jumps) && (r39 == r41)) == false)) then ix v11 v14 else some default).bind fun r45 =>
      (bif (true && ((((v29 == (w64 (v14 - 1))) && r37.Jumps) && (r39 == r41)) == false)) then core_Waits r43 r45 else some default).bind fun r47 =>
      (bif ((true && ((((v29 == (w64 (v14 - 1))) && r37.Jumps) && (r39 == r41)) == false)) && (r47 == true)) then ix x2 v14 else some default).bind fun r49 =>
      (bif ((true && ((((v29 == (w64 (v14 - 1))) && r37.Jumps) && (r39 == r41)) == false)) && (r47 == true)) then ix x2 v29 else some default).bind fun r51 =>
      bif (((v29 == (w64 (v14 - 1))) && r37.Jumps) && (r39 == r41)) || (r47 && (decide (r49 < (w64 (r51 + r35.Latency))))) then
        k2 false
      else
        (ix r1.Machine.Instrs r17.Instr).bind fun r54 =>
        (bif (true && ((r35.Unit == r54.Unit) == true)) then ix x2 v29 else some default).bind fun r56 =>
        (bif (true && ((r35.Unit == r54.Unit) == true)) then ix x2 v14 else some default).bind fun r58 =>
        bif (r35.Unit == r54.Unit) && (decide (r58 < (w64 (r56 + r35.Busy)))) then k7 ((v27, w64 (v28 + 1))) else k7 (v27, v28)
    else
      k5 (v27, v28)
def cycle_Legal_b3 (x1 : List MachOp) (x2 : List Int) (r1 : core_Core) (v11 : List Touch) (k2 : Bool → Option (Bool × Int)) (rec3 : Bool × Int → Option (Bool × Int)) : Bool × Int → Option (Bool × Int)
  | (v13, v14) =>
    bif decide (v14 < (x1.length : Int)) then
      jn (cycle_Legal_k4 v14 rec3) fun k4 =>
      (ix x1 v14).bind fun r17 =>
      jn (cycle_Legal_k5 r1 k2 k4 r17) fun k5 =>
      asr (subOk 0 v14 x1.length) <|
      lp (cycle_Legal_b6 x1 x2 r1 v11 k2 v14 r17 k5) ((lSub x1 0 v14).length + 1) (v13, 1, 0)
    else
      k2 v13
def cycle_Legal_k1 (x1 : List MachOp) (x2 : List Int) (r1 : core_Core) : (List Touch) → Option (Bool × Int)
  | v11 =>
    jn cycle_Legal_k2 fun k2 =>
    lp (cycle_Legal_b3 x1 x2 r1 v11 k2) (x1.length + 1) (true, 0)
def cycle_Legal_b8 (x1 : List MachOp) (r1 : core_Core) (k1 : (List Touch) → Option (Bool × Int)) (rec8 : Int × (List Touch) → Option (Bool × Int)) : Int × (List Touch) → Option (Bool × Int)
  | (v61, v62) =>
    bif decide (v61 < (x1.length : Int)) then
      (ix x1 v61).bind fun r64 =>
      (core_Core_Touch r1 r64).bind fun r66 =>
      (ix v62 v61).bind fun r68 =>
      rec8 ((w64 (v61 + 1), v62.set v61.toNat r66))
    else
      k1 v62
def cycle_Legal (x0 : Machine) (x1 : List MachOp) (x2 : List Int) : Option (Bool × Int) :=
  (cycle_list x0 x1).bind fun r1 =>
  cs2 r1 (fun r1 =>
    bif r1 != 0 then
      some (false, r1)
    else none) fun r1 =>
    bif (x2.length : Int) != (x1.length : Int) then
      some (false, 2)
    else
      (cycle_all_int_2 x2).bind fun r5 =>
      (bif (true && ((!r5) == false)) then slices_IsSorted_int_int x2 else some default).bind fun r7 =>
      bif (!r5) || (!r7) then
        some (false, 0)
      else
        asr (mkOk (x1.length : Int) 56) <|
        jn (cycle_Legal_k1 x1 x2 r1) fun k1 =>
        lp (cycle_Legal_b8 x1 r1 k1) (x1.length + 1) ((0, List.replicate (x1.length : Int).toNat (Touch.mk ([] : List Int) ([] : List Int) false false false false false)))
theorem cycle_Legal_ok {x0 : Machine} {x1 : List MachOp} {x2 : List Int} {R : Bool × Int} (H : cycle_Legal x0 x1 x2 = some R) : FnOk Tryz.prog K0 15 [(aA (encMachine x0)), (aL 2 encMachOp x1), (aL 1 (eN .i64) x2)] [] (.tup [(aT R.1), (aN .i64 R.2)]) [] := by
  refine fn_w (nt := 185) (np := 0) Tryz.func15 z z (by simp) (np_of2 z) <| ?_
  unfold cycle_Legal at H
  refine sgr z <| lh (p_bx 0 z q z) z <| la z z <| la z z <| ne <| wc_scope <| sgr z <| l (p_ldB (ds := (encMachine x0).map .data) ty_27 z z z z) z <| lm z z <| ?_
  obtain ⟨r1, e2, H⟩ := ob H
  rcases r1 with r1 | r1
  · replace H := csl H
    refine l (p_c (cycle_list_okL e2) ent_32 z z z) z <| lm z z <| l (p_ex z z) z <| l (p_ex z z) z <| la z z <| la z z <| ne <| wc_seq <| wc_block <| sgr z <| lm z z <| l (p_neq z z) z <| la z z <| ne <| ?_
    rcases cn H with ⟨b3, H⟩ | ⟨b3, H⟩
    · refine c_t z b3 ?_
      refine sgr z <| lm z z <| la z z <| la z z <| ne <| wc_ret <| ?_
      refine e_br (e_tr (e_sr ?_))
      obtain rfl := sm H
      exact fin (Or.inr z) (rs1 (rv z) (rs1 (rv z) rs0)) (re2 [] ⟨.dat, ⟨.dat, q⟩⟩ z h0)
    cases H
  replace H := csr H
  refine l (p_c (cycle_list_okR e2) ent_32 z z z) z <| lm z z <| l (p_ex z z) z <| l (p_ex z z) z <| la z z <| la z z <| ne <| wc_seq <| wc_block <| sgr z <| lm z z <| l (p_neq z z) z <| la z z <| ne <| c_f z z <| sgr z <| lm z z <| l (p_lenL Tryz.underlying29 z) z <| lm z z <| l (p_lenL Tryz.underlying46 z) z <| l (p_neq z z) z <| la z z <| ne <| ?_
  rcases cn H with ⟨b4, H⟩ | ⟨b4, H⟩
  · refine c_t z b4 ?_
    refine sgr z <| la z z <| la z z <| ne <| wc_ret <| ?_
    refine e_br (e_tr (e_sr ?_))
    obtain rfl := sm H
    exact fin (Or.inr z) (rs1 (rv z) (rs1 (rv z) rs0)) (re2 [] ⟨.dat, ⟨.dat, q⟩⟩ z h0)
  refine c_f z b4 <| wc_skip <| ?_
  refine e_bn (e_n ?_)
  refine wc_seq <| sgr z <| lm z z <| ?_
  obtain ⟨r5, e6, H⟩ := ob H
  refine l (p_c (cycle_all_int_2_ok e6) ent_34 z z z) z <| l (p_not z) z <| lm z z <| lw z (Grd.plain _) z [2] z (s1 strip_same s0) (fun hw => p_mv z) ⟨z, q⟩ (by exact q) z z <| ?_
  obtain ⟨r7, e8, H⟩ := ob H
  refine lw z (Grd.plain _) z [40] z (s1 (strip_when id) s0) (fun hw => p_c (slices_IsSorted_int_int_ok (bt hw e8)) ent_36 z z z) ⟨z, q⟩ (by exact q) z z <| lw z (Grd.plain _) z [41] z (s1 (strip_when id) s0) (fun hw => p_not z) ⟨z, q⟩ (by exact q) z z <| l (p_pkO z z q (strip_when (wf))) z <| ne <| ?_
  rcases cn H with ⟨b9, H⟩ | ⟨b9, H⟩
  · refine c_t z b9 ?_
    refine sgr z <| la z z <| la z z <| ne <| wc_ret <| ?_
    refine e_tr (e_sr ?_)
    obtain rfl := sm H
    exact fin (Or.inr z) (rs1 (rv z) (rs1 (rv z) rs0)) (re2 [] ⟨.dat, ⟨.dat, q⟩⟩ z h0)
  refine c_f z b9 <| se <| sgr z <| lm z z <| l (p_lenL Tryz.underlying46 z) z <| ?_
  obtain ⟨e10, H⟩ := as_ H
  refine lh (p_mk (f := encTouch) (z0 := (Touch.mk ([] : List Int) ([] : List Int) false false false false false)) 1 Tryz.underlying82 el_85 zr_85 (zdn (zdn (zdl z (zdl z (zdl z (zdl z (zdl z zd0))))))) z z e10 z) z <| la z z <| ne <| ?_
  refine w_jn1 H (fun v11 => ⟨[(1, (aL 2 encMachOp x1)), (2, (aL 1 (eN .i64) x2)), (8, (aP ((enccore_Core r1).drop 0))), (10, (.row 1))], [(1, (oR 85 7 encTouch v11))]⟩) ?_ ?_
  · intro v11 H
    rw [cycle_Legal_k1] at H
    refine sgr z <| la z z <| ne <| wc_seq <| wc_label <| e_n <| ?_
    refine w_jn1 H (fun v12 => ⟨[(13, (aT v12))], []⟩) ?_ ?_
    · intro v12 H
      rw [cycle_Legal_k2] at H
      refine sgr z <| lm z z <| la z z <| la z z <| ne <| wc_ret <| e_sr <| ?_
      obtain rfl := sm H
      exact fin (Or.inr z) (rs1 (rv z) (rs1 (rv z) rs0)) (re2 [] ⟨.dat, ⟨.dat, q⟩⟩ z h0)
    intro H
    refine sgr z <| lm z z <| l (p_lenL Tryz.underlying46 z) z <| lm z z <| ne <| wc_block <| w_lp2 H (fun v13 v14 => ⟨[(1, (aL 2 encMachOp x1)), (2, (aL 1 (eN .i64) x2)), (8, (aP ((enccore_Core r1).drop 0))), (10, (.row 1)), (13, (aT v13)), (61, (aL 2 encMachOp x1)), (62, (aN .i64 (x1.length : Int))), (63, (aN .i64 v14))], [(1, (oR 85 7 encTouch v11))]⟩) (en [(1, 1)] (wd z (wd z (wd z (ws z z z (wd z (wd z (wd z (wd z w0)))))))) z (hr z h0)) <| ?_
    intro n3 v13 v14 H
    rw [cycle_Legal_b3] at H
    refine sgr z <| l (p_lss z z) z <| ne <| wc_seq <| ?_
    rcases cn H with ⟨b15, H⟩ | ⟨b15, H⟩
    · refine c_t z b15 ?_
      refine se <| ?_
      refine w_jn1 H (fun v16 => ⟨[(1, (aL 2 encMachOp x1)), (2, (aL 1 (eN .i64) x2)), (8, (aP ((enccore_Core r1).drop 0))), (10, (.row 1)), (13, (aT v16)), (61, (aL 2 encMachOp x1)), (62, (aN .i64 (x1.length : Int))), (63, (aN .i64 v14))], [(1, (oR 85 7 encTouch v11))]⟩) ?_ ?_
      · intro v16 H
        rw [cycle_Legal_k4] at H
        refine wc_region z <| l (p_add z z) z <| lm z z <| ne <| ?_
        exact ⟨v16, w64 (v14 + 1), H, en [(1, 1)] (wd z (wd z (wd z (ws z z z (wd z (wd z (wd z (wd z w0)))))))) z (hr z h0)⟩
      intro H
      refine wc_block <| sgr z <| lm z z <| ?_
      obtain ⟨r17, e18, H⟩ := ob H
      refine l (p_ixL Tryz.underlying46 ty_31.size z z e18) z <| l (p_ldA (ds := encMachOp r17) ty_31 z z z) z <| lh (p_al 6 zr_31 z) z <| la z z <| l0h (p_stA (ds := (encMachOp r17).map .data) ty_31 z z z z z z) <| ne <| sgr z <| la z z <| ne <| ?_
      refine w_jn2 H (fun v19 v20 => ⟨[(1, (aL 2 encMachOp x1)), (2, (aL 1 (eN .i64) x2)), (8, (aP ((enccore_Core r1).drop 0))), (10, (.row 1)), (13, (aT v19)), (15, (.ptr 6 0)), (16, (aN .i64 v20)), (61, (aL 2 encMachOp x1)), (62, (aN .i64 (x1.length : Int))), (63, (aN .i64 v14))], [(1, (oR 85 7 encTouch v11)), (6, (oD 31 (encMachOp r17)))]⟩) ?_ ?_
      · intro v19 v20 H
        rw [cycle_Legal_k5] at H
        refine wc_seq <| wc_draw [0, 0, 2, 6, 14, 30, 0, 64, 192, 448, 960, 0, 2048, 8128, 16320, 32704, 65534, 131070, 262142, 524287] mixed z <| dm z z <| dm z z <| dr (p_nlP z) z <| dr (p_fdP fld_89_0 z) z <| dr (p_fdP fld_27_5 z) z <| dr (p_ldP ty_24 z z) z <| dm z z <| dr (p_nlP z) z <| dr (p_fdP fld_89_0 z) z <| dr (p_fdP fld_27_6 z) z <| dr (p_ldP ty_25 z z) z <| dr (p_fd fld_31_0 z) z <| dr (p_ld ty_3 z z z) z <| ?_
        obtain ⟨r21, e22, H⟩ := ob H
        refine dr (p_ixL Tryz.underlying25 ty_61.size z z e22) z <| dr (p_fdP fld_61_5 z) z <| dr (p_ldP ty_3 z z) z <| ?_
        obtain ⟨r23, e24, H⟩ := ob H
        refine dr (p_ixL Tryz.underlying24 ty_92.size z z e24) z <| dr (p_fdP fld_92_1 z) z <| dr (p_ldP ty_3 z z) z <| dr (p_gtr z z) z <| ?_
        refine wd_nil ?_ (by kernel_rfl)
        refine e_n <| ?_
        rcases cn H with ⟨b25, H⟩ | ⟨b25, H⟩
        · refine c_t z b25 ?_
          refine sgr z <| la z z <| ne <| wc_exit <| ?_
          refine e_p z (e_te (e_te (e_h (e_n ?_))))
          exact ⟨false, H, en [] (wd z w0) z h0⟩
        refine c_f z b25 <| wc_skip <| ?_
        refine e_bn (e_n ?_)
        exact ⟨v19, H, en [(1, 1)] (wd z (wd z (wd z (ws z z z (wd z (wd z (wd z (wd z w0)))))))) z (hr z h0)⟩
      intro H
      refine sgr z <| lm z z <| lm z z <| ?_
      obtain ⟨e26, H⟩ := as_ H
      refine l (p_slL Tryz.underlying46 ty_31.size z .no (.yes z) e26) z <| l (p_lenL Tryz.underlying46 z) z <| lm z z <| ne <| wc_block <| w_lp3 H (fun v27 v28 v29 => ⟨[(1, (aL 2 encMachOp x1)), (2, (aL 1 (eN .i64) x2)), (8, (aP ((enccore_Core r1).drop 0))), (10, (.row 1)), (13, (aT v27)), (14, (aN .i64 v14)), (15, (.ptr 6 0)), (16, (aN .i64 v28)), (61, (aL 2 encMachOp x1)), (62, (aN .i64 (x1.length : Int))), (63, (aN .i64 v14)), (70, (aL 2 encMachOp (lSub x1 0 v14))), (71, (aN .i64 (((lSub x1 0 v14).length : Int)))), (72, (aN .i64 v29))], [(1, (oR 85 7 encTouch v11)), (6, (oD 31 (encMachOp r17)))]⟩) (en [(1, 1), (6, 6)] (wd z (wd z (wd z (ws z z z (wd z (wd z (ws z z z (wd z (wd z (wd z (wd z (wd z (wd z (wd z w0)))))))))))))) z (hr z (hc z h0))) <| ?_
      intro n6 v27 v28 v29 H
      rw [cycle_Legal_b6] at H
      refine sgr z <| l (p_lss z z) z <| ne <| wc_seq <| ?_
      rcases cn H with ⟨b30, H⟩ | ⟨b30, H⟩
      · refine c_t z b30 ?_
        refine se <| ?_
        refine w_jn2 H (fun v31 v32 => ⟨[(1, (aL 2 encMachOp x1)), (2, (aL 1 (eN .i64) x2)), (8, (aP ((enccore_Core r1).drop 0))), (10, (.row 1)), (13, (aT v31)), (14, (aN .i64 v14)), (15, (.ptr 6 0)), (16, (aN .i64 v32)), (61, (aL 2 encMachOp x1)), (62, (aN .i64 (x1.length : Int))), (63, (aN .i64 v14)), (70, (aL 2 encMachOp (lSub x1 0 v14))), (71, (aN .i64 (((lSub x1 0 v14).length : Int)))), (72, (aN .i64 v29))], [(1, (oR 85 7 encTouch v11)), (6, (oD 31 (encMachOp r17)))]⟩) ?_ ?_
        · intro v31 v32 H
          rw [cycle_Legal_k7] at H
          refine wc_region z <| l (p_add z z) z <| lm z z <| ne <| ?_
          exact ⟨v31, v32, w64 (v29 + 1), H, en [(1, 1), (6, 6)] (wd z (wd z (wd z (ws z z z (wd z (wd z (ws z z z (wd z (wd z (wd z (wd z (wd z (wd z (wd z w0)))))))))))))) z (hr z (hc z h0))⟩
        intro H
        refine wc_block <| sgr z <| lm z z <| ?_
        obtain ⟨r33, e34, H⟩ := ob H
        refine l (p_ixL Tryz.underlying46 ty_31.size z z e34) z <| l (p_ldA (ds := encMachOp r33) ty_31 z z z) z <| lh (p_al 9 zr_31 z) z <| la z z <| l0h (p_stA (ds := (encMachOp r33).map .data) ty_31 z z z z z z) <| ne <| wc_seq <| wc_draw [0, 1, 3, 7, 15, 0, 32, 127, 255, 0, 1023] mixed z <| dm z z <| dr (p_nlP z) z <| dr (p_fdP fld_89_0 z) z <| dr (p_fdP fld_27_6 z) z <| dr (p_ldP ty_25 z z) z <| dr (p_fd fld_31_0 z) z <| dr (p_ld ty_3 z z z) z <| ?_
        obtain ⟨r35, e36, H⟩ := ob H
        refine dr (p_ixL Tryz.underlying25 ty_61.size z z e36) z <| dr (p_ldA (ds := encMachInstr r35) ty_61 z z z) z <| drh (p_al 10 zr_61 z) z <| dr0h (p_stA (ds := (encMachInstr r35).map .data) ty_61 z z z z z z) <| ?_
        refine wd_nil ?_ (by kernel_rfl)
        refine e_n <| wc_seq <| wc_seq <| wc_draw [0, 0, 2, 7, 15, 31, 31, 127, 255, 511, 1023, 2047, 4095, 4095, 16383, 32767, 4095, 4095, 200703, 462847, 1048575, 2097151, 4194303, 8388607, 8388607, 33554431, 67108863, 8388607, 8388607, 411041791, 947912703, 2147483647, 4294967295, 8589934591, 8589934591, 34359738367, 68719476735, 8589934591, 8589934591, 420906795007, 970662608895, 8589934591, 2207613190143, 8667244003327, 17592186044415, 35184372088831, 70368744177663] mixed z <| dm z z <| dm z z <| dr (p_sub z z) z <| dr (p_eql z z) z <| dm z z <| dw z (Grd.plain _) z [10] z (s1 strip_same s0) (fun hw => p_mv z) ⟨z, q⟩ (by exact q) z <| dw z (Grd.plain _) z [17] z (s1 strip_same s0) (fun hw => p_mv z) ⟨z, q⟩ (by exact q) z <| ?_
        obtain ⟨r37, e38, H⟩ := ob H
        refine dw z (Grd.plain _) z [91, 92] z (s1 (strip_when id) (s1 (strip_when id) s0)) (fun hw => p_ixR Tryz.underlying82 ty_85.size z z z (bt hw e38)) ⟨z, ⟨z, q⟩⟩ (by exact ⟨z, q⟩) z <| dw z (Grd.plain _) z [93] z (s1 (strip_when id) s0) (fun hw => p_fdR fld_85_4 z) ⟨z, q⟩ (by exact q) z <| dw z (Grd.plain _) z [94] z (s1 (strip_when id) s0) (fun hw => p_ldR (n := v29) (j := 4) (sz := 7) (k := 1) (r := r37) (f := encTouch) (fun _ => z) ty_4 z z (bt hw e38) z) ⟨z, q⟩ (by exact ⟨z, q⟩) z <| dr (p_pkA z z q (strip_when (wt))) z <| dm z z <| dw z (Grd.plain _) z [2] z (s1 strip_same s0) (fun hw => p_mv z) ⟨z, q⟩ (by exact q) z <| dw z (Grd.plain _) z [14] z (s1 strip_same s0) (fun hw => p_mv z) ⟨z, q⟩ (by exact q) z <| ?_
        obtain ⟨r39, e40, H⟩ := ob H
        refine dw z (Grd.plain _) z [98, 99] z (s1 (strip_when id) (s1 (strip_when id) s0)) (fun hw => p_ixL Tryz.underlying29 ty_3.size z z (bt hw e40)) ⟨z, ⟨z, q⟩⟩ (by exact q) z <| dw z (Grd.plain _) z [100] z (s1 (strip_when id) s0) (fun hw => p_ldP ty_3 z z) ⟨z, q⟩ (by exact q) z <| dw z (Grd.plain _) z [2] z (s1 strip_same s0) (fun hw => p_mv z) ⟨z, q⟩ (by exact q) z <| dw z (Grd.plain _) z [17] z (s1 strip_same s0) (fun hw => p_mv z) ⟨z, q⟩ (by exact q) z <| ?_
        obtain ⟨r41, e42, H⟩ := ob H
        refine dw z (Grd.plain _) z [102, 103] z (s1 (strip_when id) (s1 (strip_when id) s0)) (fun hw => p_ixL Tryz.underlying29 ty_3.size z z (bt hw e42)) ⟨z, ⟨z, q⟩⟩ (by exact q) z <| dw z (Grd.plain _) z [104] z (s1 (strip_when id) s0) (fun hw => p_ldP ty_3 z z) ⟨z, q⟩ (by exact q) z <| dw z (Grd.plain _) z [101, 105] z (s1 (strip_when id) (s1 (strip_when id) s0)) (fun hw => p_eql z z) ⟨z, ⟨z, q⟩⟩ (by exact q) z <| dr (p_pkA z z q (strip_when (wt))) z <| dm z z <| dw z (Grd.plain _) z [10] z (s1 strip_same s0) (fun hw => p_mv z) ⟨z, q⟩ (by exact q) z <| dw z (Grd.plain _) z [17] z (s1 strip_same s0) (fun hw => p_mv z) ⟨z, q⟩ (by exact q) z <| ?_
        obtain ⟨r43, e44, H⟩ := ob H
        refine dw z (Grd.plain _) z [109, 110] z (s1 (strip_when id) (s1 (strip_when id) s0)) (fun hw => p_ixR Tryz.underlying82 ty_85.size z z z (bt hw e44)) ⟨z, ⟨z, q⟩⟩ (by exact ⟨z, q⟩) z <| dw z (Grd.plain _) z [111] z (s1 (strip_when id) s0) (fun hw => p_ldRA (ds := encTouch r43) (n := v29) (j := 0) (sz := 7) (k := 1) (r := r43) (f := encTouch) (fun _ => z) ty_85 z z (bt hw e44) z z) ⟨z, q⟩ (by exact ⟨z, q⟩) z <| dw z (Grd.plain _) z [10] z (s1 strip_same s0) (fun hw => p_mv z) ⟨z, q⟩ (by exact q) z <| dw z (Grd.plain _) z [14] z (s1 strip_same s0) (fun hw => p_mv z) ⟨z, q⟩ (by exact q) z <| ?_
        obtain ⟨r45, e46, H⟩ := ob H
        refine dw z (Grd.plain _) z [113, 114] z (s1 (strip_when id) (s1 (strip_when id) s0)) (fun hw => p_ixR Tryz.underlying82 ty_85.size z z z (bt hw e46)) ⟨z, ⟨z, q⟩⟩ (by exact ⟨z, q⟩) z <| dw z (Grd.plain _) z [115] z (s1 (strip_when id) s0) (fun hw => p_ldRA (ds := encTouch r45) (n := v14) (j := 0) (sz := 7) (k := 1) (r := r45) (f := encTouch) (fun _ => z) ty_85 z z (bt hw e46) z z) ⟨z, q⟩ (by exact ⟨z, q⟩) z <| ?_
        obtain ⟨r47, e48, H⟩ := ob H
        refine dw z (Grd.plain _) z [112, 116] z (s1 (strip_when id) (s1 (strip_when id) s0)) (fun hw => p_c (core_Waits_ok (bt hw e48)) ent_38 z z z) ⟨z, ⟨z, q⟩⟩ (by exact q) z <| dw z (Grd.plain _) z [117] z (s1 (strip_when id) s0) (fun hw => p_mv z) ⟨z, q⟩ (by exact q) z <| dw z (Grd.under _ _) z [2] z (s1 strip_same s0) (fun hw => p_mv z) ⟨z, q⟩ (by exact q) z <| dw z (Grd.under _ _) z [14] z (s1 strip_same s0) (fun hw => p_mv z) ⟨z, q⟩ (by exact q) z <| ?_
        obtain ⟨r49, e50, H⟩ := ob H
        refine dw z (Grd.under _ _) z [119, 120] z (s1 (strip_when id) (s1 (strip_when id) s0)) (fun hw => p_ixL Tryz.underlying29 ty_3.size z z (bt hw e50)) ⟨z, ⟨z, q⟩⟩ (by exact q) z <| dw z (Grd.under _ _) z [121] z (s1 (strip_when id) s0) (fun hw => p_ldP ty_3 z z) ⟨z, q⟩ (by exact q) z <| dw z (Grd.under _ _) z [2] z (s1 strip_same s0) (fun hw => p_mv z) ⟨z, q⟩ (by exact q) z <| dw z (Grd.under _ _) z [17] z (s1 strip_same s0) (fun hw => p_mv z) ⟨z, q⟩ (by exact q) z <| ?_
        obtain ⟨r51, e52, H⟩ := ob H
        refine dw z (Grd.under _ _) z [123, 124] z (s1 (strip_when id) (s1 (strip_when id) s0)) (fun hw => p_ixL Tryz.underlying29 ty_3.size z z (bt hw e52)) ⟨z, ⟨z, q⟩⟩ (by exact q) z <| dw z (Grd.under _ _) z [125] z (s1 (strip_when id) s0) (fun hw => p_ldP ty_3 z z) ⟨z, q⟩ (by exact q) z <| dw z (Grd.under _ _) z [19] z (s1 strip_same s0) (fun hw => p_fd fld_61_7 z) ⟨z, q⟩ (by exact q) z <| dw z (Grd.under _ _) z [127] z (s1 (strip_when id) s0) (fun hw => p_ld ty_3 z z z) ⟨z, q⟩ (by exact ⟨z, q⟩) z <| dw z (Grd.under _ _) z [126, 128] z (s1 (strip_when id) (s1 (strip_when id) s0)) (fun hw => p_add z z) ⟨z, ⟨z, q⟩⟩ (by exact q) z <| dw z (Grd.under _ _) z [122, 129] z (s1 (strip_when id) (s1 (strip_when id) s0)) (fun hw => p_lss z z) ⟨z, ⟨z, q⟩⟩ (by exact q) z <| dw z (Grd.plain _) z [118, 130] z (s1 (strip_when id) (s1 strip_same s0)) (fun hw => p_pkA z z q (strip_when (wtc hw))) ⟨z, ⟨z, q⟩⟩ (by exact q) z <| dr (p_pkO z z q (strip_when (wf))) z <| ?_
        refine wd_nil ?_ (by kernel_rfl)
        refine e_n <| ?_
        rcases cn H with ⟨b53, H⟩ | ⟨b53, H⟩
        · refine c_t z b53 ?_
          refine sgr z <| la z z <| ne <| wc_exit <| ?_
          refine e_te (e_p z (e_te (e_te (e_p z (e_te (e_p z (e_te (e_te (e_h (e_n ?_))))))))))
          exact ⟨false, H, en [] (wd z w0) z h0⟩
        refine c_f z b53 <| se <| wc_seq <| wc_draw [0, 1, 0, 4, 12, 28, 60, 0, 128, 508, 1020, 2044, 4095, 8191, 16383, 16383, 65535, 131071, 16383, 278527, 1048575, 16383, 16383, 6307839, 14696447, 33554431, 67108863] mixed z <| dr (p_fd fld_61_5 z) z <| dr (p_ld ty_3 z z z) z <| dm z z <| dr (p_nlP z) z <| dr (p_fdP fld_89_0 z) z <| dr (p_fdP fld_27_6 z) z <| dr (p_ldP ty_25 z z) z <| dr (p_fd fld_31_0 z) z <| dr (p_ld ty_3 z z z) z <| ?_
        obtain ⟨r54, e55, H⟩ := ob H
        refine dr (p_ixL Tryz.underlying25 ty_61.size z z e55) z <| dr (p_fdP fld_61_5 z) z <| dr (p_ldP ty_3 z z) z <| dr (p_eql z z) z <| dm z z <| dw z (Grd.plain _) z [2] z (s1 strip_same s0) (fun hw => p_mv z) ⟨z, q⟩ (by exact q) z <| dw z (Grd.plain _) z [17] z (s1 strip_same s0) (fun hw => p_mv z) ⟨z, q⟩ (by exact q) z <| ?_
        obtain ⟨r56, e57, H⟩ := ob H
        refine dw z (Grd.plain _) z [147, 148] z (s1 (strip_when id) (s1 (strip_when id) s0)) (fun hw => p_ixL Tryz.underlying29 ty_3.size z z (bt hw e57)) ⟨z, ⟨z, q⟩⟩ (by exact q) z <| dw z (Grd.plain _) z [149] z (s1 (strip_when id) s0) (fun hw => p_ldP ty_3 z z) ⟨z, q⟩ (by exact q) z <| dw z (Grd.plain _) z [19] z (s1 strip_same s0) (fun hw => p_fd fld_61_6 z) ⟨z, q⟩ (by exact q) z <| dw z (Grd.plain _) z [151] z (s1 (strip_when id) s0) (fun hw => p_ld ty_3 z z z) ⟨z, q⟩ (by exact ⟨z, q⟩) z <| dw z (Grd.plain _) z [150, 152] z (s1 (strip_when id) (s1 (strip_when id) s0)) (fun hw => p_add z z) ⟨z, ⟨z, q⟩⟩ (by exact q) z <| dw z (Grd.plain _) z [2] z (s1 strip_same s0) (fun hw => p_mv z) ⟨z, q⟩ (by exact q) z <| dw z (Grd.plain _) z [14] z (s1 strip_same s0) (fun hw => p_mv z) ⟨z, q⟩ (by exact q) z <| ?_
        obtain ⟨r58, e59, H⟩ := ob H
        refine dw z (Grd.plain _) z [154, 155] z (s1 (strip_when id) (s1 (strip_when id) s0)) (fun hw => p_ixL Tryz.underlying29 ty_3.size z z (bt hw e59)) ⟨z, ⟨z, q⟩⟩ (by exact q) z <| dw z (Grd.plain _) z [156] z (s1 (strip_when id) s0) (fun hw => p_ldP ty_3 z z) ⟨z, q⟩ (by exact q) z <| dw z (Grd.plain _) z [153, 157] z (s1 (strip_when id) (s1 (strip_when id) s0)) (fun hw => p_gtr z z) ⟨z, ⟨z, q⟩⟩ (by exact q) z <| dr (p_pkA z z q (strip_when (wt))) z <| ?_
        refine wd_nil ?_ (by kernel_rfl)
        refine e_n <| ?_
        rcases cn H with ⟨b60, H⟩ | ⟨b60, H⟩
        · refine c_t z b60 ?_
          refine wc_region z <| lm z z <| l (p_add z z) z <| la z z <| wl_nil <| ?_
          refine e_bn (e_n ?_)
          exact ⟨v27, w64 (v28 + 1), H, en [(1, 1), (6, 6)] (wd z (wd z (wd z (ws z z z (wd z (wd z (ws z z z (wd z (wd z (wd z (wd z (wd z (wd z (wd z w0)))))))))))))) z (hr z (hc z h0))⟩
        refine c_f z b60 <| wc_skip <| ?_
        refine e_bn (e_n ?_)
        exact ⟨v27, v28, H, en [(1, 1), (6, 6)] (wd z (wd z (wd z (ws z z z (wd z (wd z (ws z z z (wd z (wd z (wd z (wd z (wd z (wd z (wd z w0)))))))))))))) z (hr z (hc z h0))⟩
      refine c_f z b30 <| wc_exit <| ?_
      refine e_te (e_te (e_h (e_n ?_)))
      exact ⟨v27, v28, H, en [(1, 1), (6, 6)] (wd z (wd z (wd z (ws z z z (wd z (ws z z z (wd z (wd z (wd z (wd z w0)))))))))) z (hr z (hc z h0))⟩
    refine c_f z b15 <| wc_exit <| ?_
    refine e_te (e_te (e_h (e_n ?_)))
    exact ⟨v13, H, en [] (wd z w0) z h0⟩
  intro H
  refine sgr z <| lm z z <| l (p_lenL Tryz.underlying46 z) z <| lm z z <| ne <| wc_block <| w_lp2 H (fun v61 v62 => ⟨[(1, (aL 2 encMachOp x1)), (2, (aL 1 (eN .i64) x2)), (8, (aP ((enccore_Core r1).drop 0))), (10, (.row 1)), (47, (aL 2 encMachOp x1)), (48, (aN .i64 (x1.length : Int))), (49, (aN .i64 v61))], [(1, (oR 85 7 encTouch v62))]⟩) (en [(1, 1)] (wd z (wd z (wd z (ws z z z (wd z (wd z (wd z w0))))))) z (hr z h0)) <| ?_
  intro n8 v61 v62 H
  rw [cycle_Legal_b8] at H
  refine sgr z <| l (p_lss z z) z <| ne <| wc_seq <| ?_
  rcases cn H with ⟨b63, H⟩ | ⟨b63, H⟩
  · refine c_t z b63 ?_
    refine se <| wc_seq <| wc_block <| sgr z <| lm z z <| ?_
    obtain ⟨r64, e65, H⟩ := ob H
    refine l (p_ixL Tryz.underlying46 ty_31.size z z e65) z <| l (p_ldA (ds := encMachOp r64) ty_31 z z z) z <| lh (p_al 3 zr_31 z) z <| la z z <| l0h (p_stA (ds := (encMachOp r64).map .data) ty_31 z z z z z z) <| ne <| wc_region z <| lm z z <| lm z z <| lm z z <| l (p_ldB (ds := (encMachOp r64).map .data) ty_31 z z z z) z <| ?_
    obtain ⟨r66, e67, H⟩ := ob H
    refine l (p_c (core_Core_Touch_ok e67) ent_37 z z z) z <| ?_
    obtain ⟨r68, e69, H⟩ := ob H
    refine l (p_ixR Tryz.underlying82 ty_85.size z z z e69) z <| l0h (p_stR (sz := 7) (n := v61) (j := 0) (r := r68) (f := encTouch) (ds := encTouch r66) (r' := r66) (fun _ => z) ty_85 (.inl z) z z z e69 q z z z z) <| wl_nil <| ?_
    refine e_bn (e_n ?_)
    refine wc_region z <| l (p_add z z) z <| lm z z <| ne <| ?_
    exact ⟨w64 (v61 + 1), v62.set v61.toNat r66, H, en [(1, 1)] (wd z (wd z (wd z (ws z z z (wd z (wd z (wd z w0))))))) z (hr z h0)⟩
  refine c_f z b63 <| wc_exit <| ?_
  refine e_te (e_te (e_h (e_n ?_)))
  exact ⟨v62, H, en [(1, 1)] (wd z (wd z (wd z (ws z z z w0)))) z (hr z h0)⟩

def cycle_Length (x0 : Machine) (x1 : List MachOp) : Option (Int × Int) :=
  (cycle_list x0 x1).bind fun r1 =>
  cs2 r1 (fun r1 =>
    bif r1 != 0 then
      some (0, r1)
    else none) fun r1 =>
    (core_Core_Starts r1 x1).bind fun r4 =>
    some (r4.2, 0)
theorem cycle_Length_ok {x0 : Machine} {x1 : List MachOp} {R : Int × Int} (H : cycle_Length x0 x1 = some R) : FnOk Tryz.prog K0 16 [(aA (encMachine x0)), (aL 2 encMachOp x1)] [] (.tup [(aN .i64 R.1), (aN .i64 R.2)]) [] := by
  refine fn_w (nt := 26) (np := 0) Tryz.func16 z z (by simp) (np_of2 z) <| ?_
  unfold cycle_Length at H
  refine sgr z <| lh (p_bx 0 z q z) z <| la z z <| la z z <| ne <| sgr z <| l (p_ldB (ds := (encMachine x0).map .data) ty_27 z z z z) z <| lm z z <| ?_
  obtain ⟨r1, e2, H⟩ := ob H
  rcases r1 with r1 | r1
  · replace H := csl H
    refine l (p_c (cycle_list_okL e2) ent_32 z z z) z <| lm z z <| l (p_ex z z) z <| l (p_ex z z) z <| la z z <| la z z <| ne <| wc_seq <| sgr z <| lm z z <| l (p_neq z z) z <| ne <| ?_
    rcases cn H with ⟨b3, H⟩ | ⟨b3, H⟩
    · refine c_t z b3 ?_
      refine sgr z <| lm z z <| la z z <| la z z <| ne <| wc_ret <| e_tr <| ?_
      obtain rfl := sm H
      exact fin (Or.inr z) (rs1 (rv z) (rs1 (rv z) rs0)) (re2 [] ⟨.dat, ⟨.dat, q⟩⟩ z h0)
    cases H
  replace H := csr H
  refine l (p_c (cycle_list_okR e2) ent_32 z z z) z <| lm z z <| l (p_ex z z) z <| l (p_ex z z) z <| la z z <| la z z <| ne <| wc_seq <| sgr z <| lm z z <| l (p_neq z z) z <| ne <| c_f z z <| se <| sgr z <| lm z z <| lm z z <| ?_
  obtain ⟨r4, e5, H⟩ := ob H
  refine l (p_c (core_Core_Starts_ok e5) ent_33 z z z) z <| lm z z <| l (p_ex z z) z <| l (p_ex z z) z <| la z z <| la z z <| ne <| sgr z <| lm z z <| la z z <| la z z <| ne <| wc_ret <| ?_
  obtain rfl := sm H
  exact fin (Or.inr z) (rs1 (rv z) (rs1 (rv z) rs0)) (re2 [] ⟨.dat, ⟨.dat, q⟩⟩ z h0)

def retargetref16_SameInts_k1 : Unit → Option Bool
  | () =>
    some true
def retargetref16_SameInts_b2 (x0 : List Int) (x1 : List Int) (k1 : Unit → Option Bool) (rec2 : Int → Option Bool) : Int → Option Bool
  | v2 =>
    bif decide (v2 < (x0.length : Int)) then
      (ix x0 v2).bind fun r4 =>
      (ix x1 v2).bind fun r6 =>
      bif r4 != r6 then some false else rec2 (w64 (v2 + 1))
    else
      k1 ()
def retargetref16_SameInts (x0 : List Int) (x1 : List Int) : Option Bool :=
  bif (x0.length : Int) != (x1.length : Int) then
    some false
  else
    jn retargetref16_SameInts_k1 fun k1 =>
    lp (retargetref16_SameInts_b2 x0 x1 k1) (x0.length + 1) 0
theorem retargetref16_SameInts_ok {x0 : List Int} {x1 : List Int} {R : Bool} (H : retargetref16_SameInts x0 x1 = some R) : FnOk Tryz.prog K0 17 [(aL 1 (eN .i64) x0), (aL 1 (eN .i64) x1)] [] (aT R) [] := by
  refine fn_w (nt := 26) (np := 0) Tryz.func17 z z (by simp) (np_of2 z) <| ?_
  unfold retargetref16_SameInts at H
  refine sgr z <| la z z <| ne <| wc_seq <| sgr z <| lm z z <| l (p_lenL Tryz.underlying29 z) z <| lm z z <| l (p_lenL Tryz.underlying29 z) z <| l (p_neq z z) z <| ne <| ?_
  rcases cn H with ⟨b1, H⟩ | ⟨b1, H⟩
  · refine c_t z b1 ?_
    refine sgr z <| la z z <| ne <| wc_ret <| e_tr <| ?_
    obtain rfl := sm H
    exact fin (Or.inr z) (rs1 (rv z) rs0) (re [] (.dat) z h0)
  refine c_f z b1 <| se <| ?_
  refine w_jn0 H (⟨[], []⟩) ?_ ?_
  · intro H
    rw [retargetref16_SameInts_k1] at H
    refine sgr z <| la z z <| ne <| wc_ret <| ?_
    obtain rfl := sm H
    exact fin (Or.inr z) (rs1 (rv z) rs0) (re [] (.dat) z h0)
  intro H
  refine sgr z <| la z z <| ne <| wc_block <| w_lp1 H (fun v2 => ⟨[(0, (aL 1 (eN .i64) x0)), (1, (aL 1 (eN .i64) x1)), (5, (aN .i64 v2))], []⟩) (en [] (wd z (wd z (wd z w0))) z h0) <| ?_
  intro n2 v2 H
  rw [retargetref16_SameInts_b2] at H
  refine wc_seq <| sgr z <| lm z z <| lm z z <| l (p_lenL Tryz.underlying29 z) z <| l (p_lss z z) z <| ne <| ?_
  rcases cn H with ⟨b3, H⟩ | ⟨b3, H⟩
  · refine c_t z b3 ?_
    refine se <| wc_seq <| wc_block <| wc_seq <| wc_draw [0, 0, 3, 7, 0, 0, 48, 112, 255] mixed z <| dm z z <| dm z z <| ?_
    obtain ⟨r4, e5, H⟩ := ob H
    refine dr (p_ixL Tryz.underlying29 ty_3.size z z e5) z <| dr (p_ldP ty_3 z z) z <| dm z z <| dm z z <| ?_
    obtain ⟨r6, e7, H⟩ := ob H
    refine dr (p_ixL Tryz.underlying29 ty_3.size z z e7) z <| dr (p_ldP ty_3 z z) z <| dr (p_neq z z) z <| ?_
    refine wd_nil ?_ (by kernel_rfl)
    refine e_n <| ?_
    rcases cn H with ⟨b8, H⟩ | ⟨b8, H⟩
    · refine c_t z b8 ?_
      refine sgr z <| la z z <| ne <| wc_ret <| ?_
      refine e_br (e_tr (e_tr (e_br (e_tr ?_))))
      obtain rfl := sm H
      exact fin (Or.inr z) (rs1 (rv z) rs0) (re [] (.dat) z h0)
    refine c_f z b8 <| wc_skip <| ?_
    refine e_bn (e_n ?_)
    refine wc_region z <| lm z z <| l (p_add z z) z <| la z z <| ne <| ?_
    exact ⟨w64 (v2 + 1), H, en [] (wd z (wd z (wd z w0))) z h0⟩
  refine c_f z b3 <| wc_exit <| ?_
  refine e_te (e_te (e_h (e_n ?_)))
  exact ⟨H, en [] w0 z h0⟩

def retargetlaw16_alive : Option Bool :=
  (api_Given 0).bind fun r1 =>
  (retargetlaw16_named r1 (⟨#[109, 117, 108]⟩ : ByteArray) [1, 2, 3]).bind fun r3 =>
  (retargetlaw16_named r1 (⟨#[97, 100, 100]⟩ : ByteArray) [4, 1, 1]).bind fun r5 =>
  (retargetlaw16_named r1 (⟨#[97, 100, 100, 105]⟩ : ByteArray) [5, 6, 1]).bind fun r7 =>
  (cycle_Starts r1 [r3, r5, r7]).bind fun r9 =>
  (ix [r3, r5, r7] 0).bind fun r11 =>
  (ix [r3, r5, r7] 2).bind fun r13 =>
  (cycle_Starts r1 [r11, r13]).bind fun r15 =>
  asr (subOk 0 1 [r3, r5, r7].length) <|
  (cycle_Length r1 (lSub [r3, r5, r7] 0 1)).bind fun r18 =>
  (cycle_Length r1 [r3, r5, r7]).bind fun r20 =>
  (cycle_Legal r1 [r3, r5, r7] [0, 4, 5]).bind fun r22 =>
  (cycle_Legal r1 [r3, r5, r7] [0, 4, 4]).bind fun r24 =>
  (bif (true && (((((((r9.2 == 0) && (r15.2 == 0)) && (r18.2 == 0)) && (r20.2 == 0)) && (r22.2 == 0)) && (r24.2 == 0)) == true)) then retargetref16_SameInts r9.1 [0, 4, 5] else some default).bind fun r26 =>
  (bif (true && ((((((((r9.2 == 0) && (r15.2 == 0)) && (r18.2 == 0)) && (r20.2 == 0)) && (r22.2 == 0)) && (r24.2 == 0)) && r26) == true)) then retargetref16_SameInts r15.1 [0, 0] else some default).bind fun r28 =>
  some ((((((((((((r9.2 == 0) && (r15.2 == 0)) && (r18.2 == 0)) && (r20.2 == 0)) && (r22.2 == 0)) && (r24.2 == 0)) && r26) && r28) && (r18.1 == 4)) && (r20.1 == 6)) && r22.1) && (!r24.1))
theorem retargetlaw16_alive_ok {R : Bool} (H : retargetlaw16_alive = some R) : FnOk Tryz.prog K0 18 [] [] (aT R) [] := by
  refine fn_w (nt := 118) (np := 0) Tryz.func18 z z (by simp) (np_of2 z) <| ?_
  unfold retargetlaw16_alive at H
  refine sgr z <| la z z <| ne <| sgr z <| ?_
  obtain ⟨r1, e2, H⟩ := ob H
  refine l (p_c (api_Given_ok e2) ent_8 z z z) z <| lh (p_al 0 zr_27 z) z <| l0h (p_stA (ds := (encMachine r1).map .data) ty_27 z z z z z z) <| ne <| wc_seq <| wc_draw [0, 0, 3, 0, 0, 31, 0, 0, 255, 511, 1023] mixed z <| dr (p_ldB (ds := (encMachine r1).map .data) ty_27 z z z z) z <| dr (p_bs (f := (eN .i64)) [.const (Value.int IntKind.i64 1), .const (Value.int IntKind.i64 2), .const (Value.int IntKind.i64 3)] [1, 2, 3] Tryz.underlying29 ty_3.size zr_3 z z z z (el1 (.one _) z (el1 (.one _) z (el1 (.one _) z el0))) z) z <| ?_
  obtain ⟨r3, e4, H⟩ := ob H
  refine dr (p_c (retargetlaw16_named_ok e4) ent_12 z z z) z <| dr (p_ldB (ds := (encMachine r1).map .data) ty_27 z z z z) z <| dr (p_bs (f := (eN .i64)) [.const (Value.int IntKind.i64 4), .const (Value.int IntKind.i64 1), .const (Value.int IntKind.i64 1)] [4, 1, 1] Tryz.underlying29 ty_3.size zr_3 z z z z (el1 (.one _) z (el1 (.one _) z (el1 (.one _) z el0))) z) z <| ?_
  obtain ⟨r5, e6, H⟩ := ob H
  refine dr (p_c (retargetlaw16_named_ok e6) ent_12 z z z) z <| dr (p_ldB (ds := (encMachine r1).map .data) ty_27 z z z z) z <| dr (p_bs (f := (eN .i64)) [.const (Value.int IntKind.i64 5), .const (Value.int IntKind.i64 6), .const (Value.int IntKind.i64 1)] [5, 6, 1] Tryz.underlying29 ty_3.size zr_3 z z z z (el1 (.one _) z (el1 (.one _) z (el1 (.one _) z el0))) z) z <| ?_
  obtain ⟨r7, e8, H⟩ := ob H
  refine dr (p_c (retargetlaw16_named_ok e8) ent_12 z z z) z <| dr (p_bs (f := encMachOp) [.tmp 18, .tmp 21, .tmp 24] [r3, r5, r7] Tryz.underlying46 ty_31.size zr_31 z z z z (el1 (.agg _) z (el1 (.agg _) z (el1 (.agg _) z el0))) z) z <| da z z <| ?_
  refine wd_nil ?_ (by kernel_rfl)
  refine e_n <| sgr z <| l (p_ldB (ds := (encMachine r1).map .data) ty_27 z z z z) z <| lm z z <| ?_
  obtain ⟨r9, e10, H⟩ := ob H
  refine l (p_c (cycle_Starts_ok e10) ent_14 z z z) z <| lm z z <| l (p_ex z z) z <| l (p_ex z z) z <| la z z <| la z z <| ne <| wc_seq <| wc_draw [0, 0, 2, 6, 0, 16, 48, 126, 255, 511, 1023, 1023, 2047, 8191] mixed z <| dr (p_ldB (ds := (encMachine r1).map .data) ty_27 z z z z) z <| dm z z <| ?_
  obtain ⟨r11, e12, H⟩ := ob H
  refine dr (p_ixL Tryz.underlying46 ty_31.size z z e12) z <| dr (p_ldA (ds := encMachOp r11) ty_31 z z z) z <| dm z z <| ?_
  obtain ⟨r13, e14, H⟩ := ob H
  refine dr (p_ixL Tryz.underlying46 ty_31.size z z e14) z <| dr (p_ldA (ds := encMachOp r13) ty_31 z z z) z <| dr (p_bs (f := encMachOp) [.tmp 36, .tmp 39] [r11, r13] Tryz.underlying46 ty_31.size zr_31 z z z z (el1 (.agg _) z (el1 (.agg _) z el0)) z) z <| ?_
  obtain ⟨r15, e16, H⟩ := ob H
  refine dr (p_c (cycle_Starts_ok e16) ent_14 z z z) z <| dm z z <| dr (p_ex z z) z <| dr (p_ex z z) z <| da z z <| da z z <| ?_
  refine wd_nil ?_ (by kernel_rfl)
  refine e_n <| wc_seq <| wc_draw [0, 0, 2, 7, 15, 31, 31, 63, 255] mixed z <| dr (p_ldB (ds := (encMachine r1).map .data) ty_27 z z z z) z <| dm z z <| ?_
  obtain ⟨e17, H⟩ := as_ H
  refine dr (p_slL Tryz.underlying46 ty_31.size z .no (.yes z) e17) z <| ?_
  obtain ⟨r18, e19, H⟩ := ob H
  refine dr (p_c (cycle_Length_ok e19) ent_16 z z z) z <| dm z z <| dr (p_ex z z) z <| dr (p_ex z z) z <| da z z <| da z z <| ?_
  refine wd_nil ?_ (by kernel_rfl)
  refine e_n <| sgr z <| l (p_ldB (ds := (encMachine r1).map .data) ty_27 z z z z) z <| lm z z <| ?_
  obtain ⟨r20, e21, H⟩ := ob H
  refine l (p_c (cycle_Length_ok e21) ent_16 z z z) z <| lm z z <| l (p_ex z z) z <| l (p_ex z z) z <| la z z <| la z z <| ne <| sgr z <| l (p_ldB (ds := (encMachine r1).map .data) ty_27 z z z z) z <| lm z z <| l (p_bs (f := (eN .i64)) [.const (Value.int IntKind.i64 0), .const (Value.int IntKind.i64 4), .const (Value.int IntKind.i64 5)] [0, 4, 5] Tryz.underlying29 ty_3.size zr_3 z z z z (el1 (.one _) z (el1 (.one _) z (el1 (.one _) z el0))) z) z <| ?_
  obtain ⟨r22, e23, H⟩ := ob H
  refine l (p_c (cycle_Legal_ok e23) ent_15 z z z) z <| lm z z <| l (p_ex z z) z <| l (p_ex z z) z <| la z z <| la z z <| ne <| sgr z <| l (p_ldB (ds := (encMachine r1).map .data) ty_27 z z z z) z <| lm z z <| l (p_bs (f := (eN .i64)) [.const (Value.int IntKind.i64 0), .const (Value.int IntKind.i64 4), .const (Value.int IntKind.i64 4)] [0, 4, 4] Tryz.underlying29 ty_3.size zr_3 z z z z (el1 (.one _) z (el1 (.one _) z (el1 (.one _) z el0))) z) z <| ?_
  obtain ⟨r24, e25, H⟩ := ob H
  refine l (p_c (cycle_Legal_ok e25) ent_15 z z z) z <| lm z z <| l (p_ex z z) z <| l (p_ex z z) z <| la z z <| la z z <| ne <| sgr z <| lm z z <| l (p_eql z z) z <| lm z z <| lw z (Grd.plain _) z [6] z (s1 strip_same s0) (fun hw => p_mv z) ⟨z, q⟩ (by exact q) z z <| lw z (Grd.plain _) z [74] z (s1 (strip_when id) s0) (fun hw => p_eql z z) ⟨z, q⟩ (by exact q) z z <| l (p_pkA z z q (strip_when (wt))) z <| lm z z <| lw z (Grd.plain _) z [8] z (s1 strip_same s0) (fun hw => p_mv z) ⟨z, q⟩ (by exact q) z z <| lw z (Grd.plain _) z [78] z (s1 (strip_when id) s0) (fun hw => p_eql z z) ⟨z, q⟩ (by exact q) z z <| l (p_pkA z z q (strip_when (wt))) z <| lm z z <| lw z (Grd.plain _) z [10] z (s1 strip_same s0) (fun hw => p_mv z) ⟨z, q⟩ (by exact q) z z <| lw z (Grd.plain _) z [82] z (s1 (strip_when id) s0) (fun hw => p_eql z z) ⟨z, q⟩ (by exact q) z z <| l (p_pkA z z q (strip_when (wt))) z <| lm z z <| lw z (Grd.plain _) z [12] z (s1 strip_same s0) (fun hw => p_mv z) ⟨z, q⟩ (by exact q) z z <| lw z (Grd.plain _) z [86] z (s1 (strip_when id) s0) (fun hw => p_eql z z) ⟨z, q⟩ (by exact q) z z <| l (p_pkA z z q (strip_when (wt))) z <| lm z z <| lw z (Grd.plain _) z [14] z (s1 strip_same s0) (fun hw => p_mv z) ⟨z, q⟩ (by exact q) z z <| lw z (Grd.plain _) z [90] z (s1 (strip_when id) s0) (fun hw => p_eql z z) ⟨z, q⟩ (by exact q) z z <| l (p_pkA z z q (strip_when (wt))) z <| lm z z <| lw z (Grd.plain _) z [3] z (s1 strip_same s0) (fun hw => p_mv z) ⟨z, q⟩ (by exact q) z z <| lw z (Grd.plain _) z [] z s0 (fun hw => p_bs (f := (eN .i64)) [.const (Value.int IntKind.i64 0), .const (Value.int IntKind.i64 4), .const (Value.int IntKind.i64 5)] [0, 4, 5] Tryz.underlying29 ty_3.size zr_3 z z z z (el1 (.one _) z (el1 (.one _) z (el1 (.one _) z el0))) z) q (by exact q) z z <| ?_
  obtain ⟨r26, e27, H⟩ := ob H
  refine lw z (Grd.plain _) z [94, 95] z (s1 (strip_when id) (s1 (strip_when id) s0)) (fun hw => p_c (retargetref16_SameInts_ok (bt hw e27)) ent_17 z z z) ⟨z, ⟨z, q⟩⟩ (by exact q) z z <| l (p_pkA z z q (strip_when (wt))) z <| lm z z <| lw z (Grd.plain _) z [5] z (s1 strip_same s0) (fun hw => p_mv z) ⟨z, q⟩ (by exact q) z z <| lw z (Grd.plain _) z [] z s0 (fun hw => p_bs (f := (eN .i64)) [.const (Value.int IntKind.i64 0), .const (Value.int IntKind.i64 0)] [0, 0] Tryz.underlying29 ty_3.size zr_3 z z z z (el1 (.one _) z (el1 (.one _) z el0)) z) q (by exact q) z z <| ?_
  obtain ⟨r28, e29, H⟩ := ob H
  refine lw z (Grd.plain _) z [99, 100] z (s1 (strip_when id) (s1 (strip_when id) s0)) (fun hw => p_c (retargetref16_SameInts_ok (bt hw e29)) ent_17 z z z) ⟨z, ⟨z, q⟩⟩ (by exact q) z z <| l (p_pkA z z q (strip_when (wt))) z <| lm z z <| lw z (Grd.plain _) z [7] z (s1 strip_same s0) (fun hw => p_mv z) ⟨z, q⟩ (by exact q) z z <| lw z (Grd.plain _) z [104] z (s1 (strip_when id) s0) (fun hw => p_eql z z) ⟨z, q⟩ (by exact q) z z <| l (p_pkA z z q (strip_when (wt))) z <| lm z z <| lw z (Grd.plain _) z [9] z (s1 strip_same s0) (fun hw => p_mv z) ⟨z, q⟩ (by exact q) z z <| lw z (Grd.plain _) z [108] z (s1 (strip_when id) s0) (fun hw => p_eql z z) ⟨z, q⟩ (by exact q) z z <| l (p_pkA z z q (strip_when (wt))) z <| lm z z <| lw z (Grd.plain _) z [11] z (s1 strip_same s0) (fun hw => p_mv z) ⟨z, q⟩ (by exact q) z z <| l (p_pkA z z q (strip_when (wt))) z <| lm z z <| lw z (Grd.plain _) z [13] z (s1 strip_same s0) (fun hw => p_mv z) ⟨z, q⟩ (by exact q) z z <| lw z (Grd.plain _) z [115] z (s1 (strip_when id) s0) (fun hw => p_not z) ⟨z, q⟩ (by exact q) z z <| l (p_pkA z z q (strip_when (wt))) z <| la z z <| ne <| wc_ret <| ?_
  obtain rfl := sm H
  exact fin (Or.inr z) (rs1 (rv z) rs0) (re [] (.dat) z h0)

def retargetlaw16_CycleNames_k1 (r1 : Machine) (r3 : Machine) (r10 : Int × Pipe × Int) (r12 : Int × Pipe × Int) (r14 : Int × Pipe × Int) (r22 : Int × Pipe × Int) (r26 : Int × Pipe × Int) : Unit → Option Bool
  | () =>
    (cycle_Starts r1 (List.replicate (65 : Int).toNat (MachOp.mk 0 ([] : List Int)))).bind fun r57 =>
    (cycle_Legal r1 ([(MachOp.mk 99 ([] : List Int))]) ([] : List Int)).bind fun r59 =>
    (cycle_Legal r1 ([] : List MachOp) [0]).bind fun r61 =>
    (cycle_Length r1 ([] : List MachOp)).bind fun r63 =>
    (retargetlaw16_named r3 (⟨#[97, 100, 100, 105]⟩ : ByteArray) [0, 1, 1]).bind fun r65 =>
    (retargetlaw16_named r3 (⟨#[97, 100, 100, 105]⟩ : ByteArray) [2, 3, 1]).bind fun r67 =>
    (retargetlaw16_named r3 (⟨#[97, 100, 100, 105]⟩ : ByteArray) [4, 5, 1]).bind fun r69 =>
    (retargetlaw16_named r3 (⟨#[108, 100]⟩ : ByteArray) [6, 7, 4]).bind fun r71 =>
    (retargetlaw16_named r3 (⟨#[115, 116]⟩ : ByteArray) [6, 7, 4]).bind fun r73 =>
    (retargetlaw16_named r3 (⟨#[109, 111, 118, 108]⟩ : ByteArray) [12, 9]).bind fun r75 =>
    (retargetlaw16_named r3 (⟨#[106, 117, 109, 112]⟩ : ByteArray) [1]).bind fun r77 =>
    (retargetlaw16_named r3 (⟨#[110, 111, 112]⟩ : ByteArray) ([] : List Int)).bind fun r79 =>
    (cycle_Starts r3 [r65, r67, r69, r71, r73, r75, r77, r79]).bind fun r81 =>
    (retargetlaw16_named r3 (⟨#[110, 111, 112]⟩ : ByteArray) ([] : List Int)).bind fun r83 =>
    (retargetlaw16_named r3 (⟨#[110, 111, 112]⟩ : ByteArray) ([] : List Int)).bind fun r85 =>
    (retargetlaw16_named r3 (⟨#[110, 111, 112]⟩ : ByteArray) ([] : List Int)).bind fun r87 =>
    (cycle_Legal r3 [r83, r85, r87] [0, 0, 0]).bind fun r89 =>
    (retargetlaw16_named r3 (⟨#[110, 111, 112]⟩ : ByteArray) ([] : List Int)).bind fun r91 =>
    (cycle_Legal r3 [r91] [1099511627777]).bind fun r93 =>
    (bif (true && (((((((r10.2.2 == 8) && (r12.2.2 == 8)) && (r14.2.2 == 6)) && (r22.2.2 == 30)) && (r26.2.2 == 0)) && (r26.1 == 0)) == true)) then cycle_Check r3 r26.2.1 else some default).bind fun r95 =>
    (bif (true && (((true && ((((((((((((r10.2.2 == 8) && (r12.2.2 == 8)) && (r14.2.2 == 6)) && (r22.2.2 == 30)) && (r26.2.2 == 0)) && (r26.1 == 0)) && (r95 == 0)) && (r57.2 == 4)) && (r59.2 == 6)) && (r61.2 == 2)) && (r63.2 == 0)) && (r63.1 == 0))) && (r81.2 == 0)) == true)) then retargetref16_SameInts r81.1 [0, 0, 1, 1, 4, 4, 4, 5] else some default).bind fun r97 =>
    (bif (true && ((((((((true && ((((((((((((r10.2.2 == 8) && (r12.2.2 == 8)) && (r14.2.2 == 6)) && (r22.2.2 == 30)) && (r26.2.2 == 0)) && (r26.1 == 0)) && (r95 == 0)) && (r57.2 == 4)) && (r59.2 == 6)) && (r61.2 == 2)) && (r63.2 == 0)) && (r63.1 == 0))) && (r81.2 == 0)) && r97) && (r89.2 == 0)) && (!r89.1)) && (r93.2 == 0)) && (!r93.1)) == true)) then retargetlaw16_alive else some default).bind fun r99 =>
    some ((((((((true && ((((((((((((r10.2.2 == 8) && (r12.2.2 == 8)) && (r14.2.2 == 6)) && (r22.2.2 == 30)) && (r26.2.2 == 0)) && (r26.1 == 0)) && (r95 == 0)) && (r57.2 == 4)) && (r59.2 == 6)) && (r61.2 == 2)) && (r63.2 == 0)) && (r63.1 == 0))) && (r81.2 == 0)) && r97) && (r89.2 == 0)) && (!r89.1)) && (r93.2 == 0)) && (!r93.1)) && r99)
def retargetlaw16_CycleNames_b2 (r3 : Machine) (k1 : Unit → Option Bool) (rec2 : Int × (List Pipe) → Option Bool) : Int × (List Pipe) → Option Bool
  | (v101, v102) =>
    bif decide (v101 < (v102.length : Int)) then
      (ix v102 v101).bind fun r104 =>
      (cycle_Check r3 r104).bind fun r106 =>
      bif r106 != 8 then some false else rec2 ((w64 (v101 + 1), v102))
    else
      k1 ()
def retargetlaw16_CycleNames : Option Bool :=
  (api_Given 0).bind fun r1 =>
  (api_Given 2).bind fun r3 =>
  (cycle_New r3).bind fun r5 =>
  (bif (true && (((r5.2 != 0) || ((r5.1.Units.length : Int) != 3)) == false)) then ix r5.1.Units 0 else some default).bind fun r7 =>
  bif (((r5.2 != 0) || ((r5.1.Units.length : Int) != 3)) || ((r7.length : Int) != 2)) || ((r5.1.Regs.length : Int) != 8) then
    some false
  else
    (cycle_Start ((Machine.mk ⟨#[]⟩ 0 0 ([] : List MachReg) ([] : List MachBank) ([] : List MachUnit) ([] : List MachInstr))) ((Pipe.mk 0 false (([] : List (List Int))) ([] : List Int) 0)) ((MachOp.mk 99 ([] : List Int)))).bind fun r10 =>
    (cycle_Start r1 ((Pipe.mk 0 false (([] : List (List Int))) ([] : List Int) 0)) ((MachOp.mk 99 ([] : List Int)))).bind fun r12 =>
    (cycle_Start r3 r5.1 ((MachOp.mk 99 ([] : List Int)))).bind fun r14 =>
    (retargetref16_Twin r5.1).bind fun r16 =>
    (ix r16.2.2.2.1 1).bind fun r18 =>
    (retargetlaw16_named r3 (⟨#[97, 100, 100, 105]⟩ : ByteArray) [0, 1, 5]).bind fun r20 =>
    (cycle_Start r3 ((Pipe.mk r16.1 r16.2.1 r16.2.2.1 (r16.2.2.2.1.set (1 : Int).toNat 1099511627791) r16.2.2.2.2)) r20).bind fun r22 =>
    (retargetlaw16_named r3 (⟨#[97, 100, 100, 105]⟩ : ByteArray) [0, 2, 5]).bind fun r24 =>
    (cycle_Start r3 ((Pipe.mk r16.1 r16.2.1 r16.2.2.1 (r16.2.2.2.1.set (1 : Int).toNat 1099511627791) r16.2.2.2.2)) r24).bind fun r26 =>
    (retargetref16_Twin ((Pipe.mk r16.1 r16.2.1 r16.2.2.1 (r16.2.2.2.1.set (1 : Int).toNat 1099511627791) r16.2.2.2.2))).bind fun r28 =>
    (retargetref16_Twin r5.1).bind fun r30 =>
    (retargetref16_Twin r5.1).bind fun r32 =>
    (retargetref16_Twin r5.1).bind fun r34 =>
    (retargetref16_Twin r5.1).bind fun r36 =>
    (ix (([(Pipe.mk 0 false (([] : List (List Int))) ([] : List Int) 0), (Pipe.mk r28.1 r28.2.1 r28.2.2.1 r28.2.2.2.1 r28.2.2.2.2), (Pipe.mk r30.1 r30.2.1 r30.2.2.1 r30.2.2.2.1 r30.2.2.2.2), (Pipe.mk r32.1 r32.2.1 r32.2.2.1 r32.2.2.2.1 r32.2.2.2.2), (Pipe.mk r34.1 r34.2.1 r34.2.2.1 r34.2.2.2.1 r34.2.2.2.2), (Pipe.mk r36.1 r36.2.1 r36.2.2.1 r36.2.2.2.1 r36.2.2.2.2)] : List Pipe)) 1).bind fun r38 =>
    (ix r38.Regs 1).bind fun r40 =>
    (ix r38.Regs 1).bind fun r42 =>
    (ix ((([(Pipe.mk 0 false (([] : List (List Int))) ([] : List Int) 0), (Pipe.mk r28.1 r28.2.1 r28.2.2.1 r28.2.2.2.1 r28.2.2.2.2), (Pipe.mk r30.1 r30.2.1 r30.2.2.1 r30.2.2.2.1 r30.2.2.2.2), (Pipe.mk r32.1 r32.2.1 r32.2.2.1 r32.2.2.2.1 r32.2.2.2.2), (Pipe.mk r34.1 r34.2.1 r34.2.2.1 r34.2.2.2.1 r34.2.2.2.2), (Pipe.mk r36.1 r36.2.1 r36.2.2.1 r36.2.2.2.1 r36.2.2.2.2)] : List Pipe)).set (1 : Int).toNat ((Pipe.mk r38.At r38.Jumps r38.Units (r38.Regs.set (1 : Int).toNat (w64 (r40 + 1))) r38.Mem))) 2).bind fun r44 =>
    (ix (((([(Pipe.mk 0 false (([] : List (List Int))) ([] : List Int) 0), (Pipe.mk r28.1 r28.2.1 r28.2.2.1 r28.2.2.2.1 r28.2.2.2.2), (Pipe.mk r30.1 r30.2.1 r30.2.2.1 r30.2.2.2.1 r30.2.2.2.2), (Pipe.mk r32.1 r32.2.1 r32.2.2.1 r32.2.2.2.1 r32.2.2.2.2), (Pipe.mk r34.1 r34.2.1 r34.2.2.1 r34.2.2.2.1 r34.2.2.2.2), (Pipe.mk r36.1 r36.2.1 r36.2.2.1 r36.2.2.2.1 r36.2.2.2.2)] : List Pipe)).set (1 : Int).toNat ((Pipe.mk r38.At r38.Jumps r38.Units (r38.Regs.set (1 : Int).toNat (w64 (r40 + 1))) r38.Mem))).set (2 : Int).toNat (Pipe.mk 1099511627777 r44.Jumps r44.Units r44.Regs r44.Mem)) 3).bind fun r46 =>
    (ix r46.Units 0).bind fun r48 =>
    (ix r48 0).bind fun r50 =>
    (ix ((((([(Pipe.mk 0 false (([] : List (List Int))) ([] : List Int) 0), (Pipe.mk r28.1 r28.2.1 r28.2.2.1 r28.2.2.2.1 r28.2.2.2.2), (Pipe.mk r30.1 r30.2.1 r30.2.2.1 r30.2.2.2.1 r30.2.2.2.2), (Pipe.mk r32.1 r32.2.1 r32.2.2.1 r32.2.2.2.1 r32.2.2.2.2), (Pipe.mk r34.1 r34.2.1 r34.2.2.1 r34.2.2.2.1 r34.2.2.2.2), (Pipe.mk r36.1 r36.2.1 r36.2.2.1 r36.2.2.2.1 r36.2.2.2.2)] : List Pipe)).set (1 : Int).toNat ((Pipe.mk r38.At r38.Jumps r38.Units (r38.Regs.set (1 : Int).toNat (w64 (r40 + 1))) r38.Mem))).set (2 : Int).toNat (Pipe.mk 1099511627777 r44.Jumps r44.Units r44.Regs r44.Mem)).set (3 : Int).toNat ((Pipe.mk r46.At r46.Jumps (r46.Units.set (0 : Int).toNat (r48.set (0 : Int).toNat 1)) r46.Regs r46.Mem))) 4).bind fun r52 =>
    (ix (((((([(Pipe.mk 0 false (([] : List (List Int))) ([] : List Int) 0), (Pipe.mk r28.1 r28.2.1 r28.2.2.1 r28.2.2.2.1 r28.2.2.2.2), (Pipe.mk r30.1 r30.2.1 r30.2.2.1 r30.2.2.2.1 r30.2.2.2.2), (Pipe.mk r32.1 r32.2.1 r32.2.2.1 r32.2.2.2.1 r32.2.2.2.2), (Pipe.mk r34.1 r34.2.1 r34.2.2.1 r34.2.2.2.1 r34.2.2.2.2), (Pipe.mk r36.1 r36.2.1 r36.2.2.1 r36.2.2.2.1 r36.2.2.2.2)] : List Pipe)).set (1 : Int).toNat ((Pipe.mk r38.At r38.Jumps r38.Units (r38.Regs.set (1 : Int).toNat (w64 (r40 + 1))) r38.Mem))).set (2 : Int).toNat (Pipe.mk 1099511627777 r44.Jumps r44.Units r44.Regs r44.Mem)).set (3 : Int).toNat ((Pipe.mk r46.At r46.Jumps (r46.Units.set (0 : Int).toNat (r48.set (0 : Int).toNat 1)) r46.Regs r46.Mem))).set (4 : Int).toNat ((Pipe.mk r52.At r52.Jumps r52.Units r52.Regs (-1)))) 5).bind fun r54 =>
    asr (subOk 0 2 r54.Units.length) <|
    jn (retargetlaw16_CycleNames_k1 r1 r3 r10 r12 r14 r22 r26) fun k1 =>
    lp (retargetlaw16_CycleNames_b2 r3 k1) ((((((([(Pipe.mk 0 false (([] : List (List Int))) ([] : List Int) 0), (Pipe.mk r28.1 r28.2.1 r28.2.2.1 r28.2.2.2.1 r28.2.2.2.2), (Pipe.mk r30.1 r30.2.1 r30.2.2.1 r30.2.2.2.1 r30.2.2.2.2), (Pipe.mk r32.1 r32.2.1 r32.2.2.1 r32.2.2.2.1 r32.2.2.2.2), (Pipe.mk r34.1 r34.2.1 r34.2.2.1 r34.2.2.2.1 r34.2.2.2.2), (Pipe.mk r36.1 r36.2.1 r36.2.2.1 r36.2.2.2.1 r36.2.2.2.2)] : List Pipe)).set (1 : Int).toNat ((Pipe.mk r38.At r38.Jumps r38.Units (r38.Regs.set (1 : Int).toNat (w64 (r40 + 1))) r38.Mem))).set (2 : Int).toNat (Pipe.mk 1099511627777 r44.Jumps r44.Units r44.Regs r44.Mem)).set (3 : Int).toNat ((Pipe.mk r46.At r46.Jumps (r46.Units.set (0 : Int).toNat (r48.set (0 : Int).toNat 1)) r46.Regs r46.Mem))).set (4 : Int).toNat ((Pipe.mk r52.At r52.Jumps r52.Units r52.Regs (-1)))).length + 1) ((0, (((((([(Pipe.mk 0 false (([] : List (List Int))) ([] : List Int) 0), (Pipe.mk r28.1 r28.2.1 r28.2.2.1 r28.2.2.2.1 r28.2.2.2.2), (Pipe.mk r30.1 r30.2.1 r30.2.2.1 r30.2.2.2.1 r30.2.2.2.2), (Pipe.mk r32.1 r32.2.1 r32.2.2.1 r32.2.2.2.1 r32.2.2.2.2), (Pipe.mk r34.1 r34.2.1 r34.2.2.1 r34.2.2.2.1 r34.2.2.2.2), (Pipe.mk r36.1 r36.2.1 r36.2.2.1 r36.2.2.2.1 r36.2.2.2.2)] : List Pipe)).set (1 : Int).toNat ((Pipe.mk r38.At r38.Jumps r38.Units (r38.Regs.set (1 : Int).toNat (w64 (r40 + 1))) r38.Mem))).set (2 : Int).toNat (Pipe.mk 1099511627777 r44.Jumps r44.Units r44.Regs r44.Mem)).set (3 : Int).toNat ((Pipe.mk r46.At r46.Jumps (r46.Units.set (0 : Int).toNat (r48.set (0 : Int).toNat 1)) r46.Regs r46.Mem))).set (4 : Int).toNat ((Pipe.mk r52.At r52.Jumps r52.Units r52.Regs (-1)))).set (5 : Int).toNat ((Pipe.mk r54.At r54.Jumps (r54.Units.take (2 : Int).toNat) r54.Regs r54.Mem))))
theorem retargetlaw16_CycleNames_ok {R : Bool} (H : retargetlaw16_CycleNames = some R) : FnOk Tryz.prog K0 3 [] [] (aT R) [] := by
  refine fn_w (nt := 326) (np := 0) Tryz.func3 z z (by simp) (np_of2 z) <| ?_
  unfold retargetlaw16_CycleNames at H
  refine sgr z <| la z z <| ne <| sgr z <| ?_
  obtain ⟨r1, e2, H⟩ := ob H
  refine l (p_c (api_Given_ok e2) ent_8 z z z) z <| ?_
  obtain ⟨r3, e4, H⟩ := ob H
  refine l (p_c (api_Given_ok e4) ent_8 z z z) z <| lh (p_al 0 zr_27 z) z <| lh (p_al 1 zr_27 z) z <| l0h (p_stA (ds := (encMachine r1).map .data) ty_27 z z z z z z) <| l0h (p_stA (ds := (encMachine r3).map .data) ty_27 z z z z z z) <| ne <| sgr z <| l (p_bd (cs := [(aN .i64 99), aNil]) pl_31 zr_31 z ⟨q, q⟩ z) z <| lh (p_al 2 zr_31 z) z <| l0h (p_stA (ds := [(aN .i64 99), aNil]) ty_31 z z z z z z) <| ne <| sgr z <| l (p_ldB (ds := (encMachine r3).map .data) ty_27 z z z z) z <| ?_
  obtain ⟨r5, e6, H⟩ := ob H
  refine l (p_c (cycle_New_ok e6) ent_9 z z z) z <| lm z z <| l (p_ex z z) z <| l (p_ex z z) z <| lh (p_al 3 zr_34 z) z <| l0h (p_stA (ds := (encPipe r5.1).map .data) ty_34 z z z z z z) <| la z z <| ne <| wc_seq <| sgr z <| lm z z <| l (p_neq z z) z <| lm z z <| lw z (Grd.plain _) z [4] z (s1 strip_same s0) (fun hw => p_fd fld_34_2 z) ⟨z, q⟩ (by exact q) z z <| lw z (Grd.plain _) z [50] z (s1 (strip_when id) s0) (fun hw => p_ld ty_32 z z z) ⟨z, q⟩ (by exact ⟨z, q⟩) z z <| lw z (Grd.plain _) z [51] z (s1 (strip_when id) s0) (fun hw => p_lenL Tryz.underlying32 z) ⟨z, q⟩ (by exact q) z z <| lw z (Grd.plain _) z [52] z (s1 (strip_when id) s0) (fun hw => p_neq z z) ⟨z, q⟩ (by exact q) z z <| l (p_pkO z z q (strip_when (wf))) z <| lm z z <| lw z (Grd.plain _) z [4] z (s1 strip_same s0) (fun hw => p_fd fld_34_2 z) ⟨z, q⟩ (by exact q) z z <| lw z (Grd.plain _) z [56] z (s1 (strip_when id) s0) (fun hw => p_ld ty_32 z z z) ⟨z, q⟩ (by exact ⟨z, q⟩) z z <| ?_
  obtain ⟨r7, e8, H⟩ := ob H
  refine lw z (Grd.plain _) z [57] z (s1 (strip_when id) s0) (fun hw => p_ixL Tryz.underlying32 ty_29.size z z (bt hw e8)) ⟨z, q⟩ (by exact q) z z <| lw z (Grd.plain _) z [58] z (s1 (strip_when id) s0) (fun hw => p_ldP ty_29 z z) ⟨z, q⟩ (by exact q) z z <| lw z (Grd.plain _) z [59] z (s1 (strip_when id) s0) (fun hw => p_lenL Tryz.underlying29 z) ⟨z, q⟩ (by exact q) z z <| lw z (Grd.plain _) z [60] z (s1 (strip_when id) s0) (fun hw => p_neq z z) ⟨z, q⟩ (by exact q) z z <| l (p_pkO z z q (strip_when (wf))) z <| lm z z <| lw z (Grd.plain _) z [4] z (s1 strip_same s0) (fun hw => p_fd fld_34_3 z) ⟨z, q⟩ (by exact q) z z <| lw z (Grd.plain _) z [64] z (s1 (strip_when id) s0) (fun hw => p_ld ty_29 z z z) ⟨z, q⟩ (by exact ⟨z, q⟩) z z <| lw z (Grd.plain _) z [65] z (s1 (strip_when id) s0) (fun hw => p_lenL Tryz.underlying29 z) ⟨z, q⟩ (by exact q) z z <| lw z (Grd.plain _) z [66] z (s1 (strip_when id) s0) (fun hw => p_neq z z) ⟨z, q⟩ (by exact q) z z <| l (p_pkO z z q (strip_when (wf))) z <| ne <| ?_
  rcases cn H with ⟨b9, H⟩ | ⟨b9, H⟩
  · refine c_t z b9 ?_
    refine sgr z <| la z z <| ne <| wc_ret <| e_tr <| ?_
    obtain rfl := sm H
    exact fin (Or.inr z) (rs1 (rv z) rs0) (re [] (.dat) z h0)
  refine c_f z b9 <| se <| sgr z <| l (p_bd (cs := [(aS ⟨#[]⟩), (aN .i64 0), (aN .i64 0), aNil, aNil, aNil, aNil]) pl_27 zr_27 z q z) z <| l (p_bd (cs := [(aN .i64 0), (aT false), aNil, aNil, (aN .i64 0)]) pl_34 zr_34 z q z) z <| l (p_ldB (ds := [(aN .i64 99), aNil]) ty_31 z z z z) z <| ?_
  obtain ⟨r10, e11, H⟩ := ob H
  refine l (p_cs (cycle_Start_ok e11) ent_10 z ⟨sg ⟨sr, ⟨sr, ⟨sr, ⟨sn, ⟨sn, ⟨sn, ⟨sn, q⟩⟩⟩⟩⟩⟩⟩, ⟨sg ⟨sr, ⟨sr, ⟨sn, ⟨sn, ⟨sr, q⟩⟩⟩⟩⟩, ⟨sg ⟨sr, ⟨sn, q⟩⟩, q⟩⟩⟩ z z) z <| lm z z <| l (p_ex z z) z <| l (p_ex z z) z <| l (p_ex z z) z <| lh (p_al 4 zr_34 z) z <| la z z <| l0h (p_stA (ds := (encPipe r10.2.1).map .data) ty_34 z z z z z z) <| la z z <| ne <| sgr z <| l (p_ldB (ds := (encMachine r1).map .data) ty_27 z z z z) z <| l (p_bd (cs := [(aN .i64 0), (aT false), aNil, aNil, (aN .i64 0)]) pl_34 zr_34 z q z) z <| l (p_ldB (ds := [(aN .i64 99), aNil]) ty_31 z z z z) z <| ?_
  obtain ⟨r12, e13, H⟩ := ob H
  refine l (p_cs (cycle_Start_ok e13) ent_10 z ⟨sr, ⟨sg ⟨sr, ⟨sr, ⟨sn, ⟨sn, ⟨sr, q⟩⟩⟩⟩⟩, ⟨sg ⟨sr, ⟨sn, q⟩⟩, q⟩⟩⟩ z z) z <| lm z z <| l (p_ex z z) z <| l (p_ex z z) z <| l (p_ex z z) z <| lh (p_al 5 zr_34 z) z <| la z z <| l0h (p_stA (ds := (encPipe r12.2.1).map .data) ty_34 z z z z z z) <| la z z <| ne <| sgr z <| l (p_ldB (ds := (encMachine r3).map .data) ty_27 z z z z) z <| l (p_ldB (ds := (encPipe r5.1).map .data) ty_34 z z z z) z <| l (p_ldB (ds := [(aN .i64 99), aNil]) ty_31 z z z z) z <| ?_
  obtain ⟨r14, e15, H⟩ := ob H
  refine l (p_cs (cycle_Start_ok e15) ent_10 z ⟨sr, ⟨sr, ⟨sg ⟨sr, ⟨sn, q⟩⟩, q⟩⟩⟩ z z) z <| lm z z <| l (p_ex z z) z <| l (p_ex z z) z <| l (p_ex z z) z <| lh (p_al 6 zr_34 z) z <| la z z <| l0h (p_stA (ds := (encPipe r14.2.1).map .data) ty_34 z z z z z z) <| la z z <| ne <| sgr z <| l (p_ldB (ds := (encPipe r5.1).map .data) ty_34 z z z z) z <| ?_
  obtain ⟨r16, e17, H⟩ := ob H
  refine lh (p_ch (ids := [7, 8]) (retargetref16_Twin_ok e17) ent_11 z z (rc z z (rc z z rn)) (rc z (rtt (Tame.flat tmL _)) (rc z rm rn)) z ⟨z, ⟨z, q⟩⟩ (by decide) z z z (oc z (oc z on)) (oc (ott (Tame.flat tmL _)) (oc om on)) z) z <| lh (p_al 9 zr_34 z) z <| l0h (p_stA (ds := [(aN .i64 r16.1), (aT r16.2.1), (.row 7), (.row 8), (aN .i64 r16.2.2.2.2)]) ty_34 z z z z z z) <| ne <| sgr z <| l (p_fd fld_34_3 z) z <| l (p_ld ty_29 z z z) z <| ?_
  obtain ⟨r18, e19, H⟩ := ob H
  refine l (p_ixR Tryz.underlying29 ty_3.size z z z e19) z <| l0h (p_stR (sz := 1) (n := 1) (j := 0) (r := r18) (f := (eN .i64)) (ds := [.lit (.int .i64 1099511627791)]) (r' := 1099511627791) (fun _ => z) ty_3 (.inr z) z z z e19 q z z z z) <| ne <| wc_seq <| wc_ent (fztc (j := 9) (i := 2) z z z z .tree (FrC.tree (fun _ => z) (frL (fun _ => z)))) <| wc_ent (fztc (j := 9) (i := 3) z z z z .row (FrC.row (fun _ => z))) <| wc_draw [0, 0, 0, 0, 12, 31, 63, 127, 127, 127, 0, 1279, 3583, 8191] mixed z <| dr (p_ldB (ds := (encMachine r3).map .data) ty_27 z z z z) z <| dr (p_ldB (ds := (encPipe ((Pipe.mk r16.1 r16.2.1 r16.2.2.1 (r16.2.2.2.1.set (1 : Int).toNat 1099511627791) r16.2.2.2.2))).map .data) ty_34 z z z z) z <| dr (p_ldB (ds := (encMachine r3).map .data) ty_27 z z z z) z <| dr (p_bs (f := (eN .i64)) [.const (Value.int IntKind.i64 0), .const (Value.int IntKind.i64 1), .const (Value.int IntKind.i64 5)] [0, 1, 5] Tryz.underlying29 ty_3.size zr_3 z z z z (el1 (.one _) z (el1 (.one _) z (el1 (.one _) z el0))) z) z <| ?_
  obtain ⟨r20, e21, H⟩ := ob H
  refine dr (p_c (retargetlaw16_named_ok e21) ent_12 z z z) z <| ?_
  obtain ⟨r22, e23, H⟩ := ob H
  refine dr (p_c (cycle_Start_ok e23) ent_10 z z z) z <| dm z z <| dr (p_ex z z) z <| dr (p_ex z z) z <| dr (p_ex z z) z <| drh (p_al 10 zr_34 z) z <| da z z <| dr0h (p_stA (ds := (encPipe r22.2.1).map .data) ty_34 z z z z z z) <| da z z <| ?_
  refine wd_nil ?_ (by kernel_rfl)
  refine e_n <| wc_seq <| wc_draw [0, 0, 0, 0, 12, 31, 63, 127, 127, 127, 0, 1279, 3583, 8191] mixed z <| dr (p_ldB (ds := (encMachine r3).map .data) ty_27 z z z z) z <| dr (p_ldB (ds := (encPipe ((Pipe.mk r16.1 r16.2.1 r16.2.2.1 (r16.2.2.2.1.set (1 : Int).toNat 1099511627791) r16.2.2.2.2))).map .data) ty_34 z z z z) z <| dr (p_ldB (ds := (encMachine r3).map .data) ty_27 z z z z) z <| dr (p_bs (f := (eN .i64)) [.const (Value.int IntKind.i64 0), .const (Value.int IntKind.i64 2), .const (Value.int IntKind.i64 5)] [0, 2, 5] Tryz.underlying29 ty_3.size zr_3 z z z z (el1 (.one _) z (el1 (.one _) z (el1 (.one _) z el0))) z) z <| ?_
  obtain ⟨r24, e25, H⟩ := ob H
  refine dr (p_c (retargetlaw16_named_ok e25) ent_12 z z z) z <| ?_
  obtain ⟨r26, e27, H⟩ := ob H
  refine dr (p_c (cycle_Start_ok e27) ent_10 z z z) z <| dm z z <| dr (p_ex z z) z <| dr (p_ex z z) z <| dr (p_ex z z) z <| drh (p_al 11 zr_34 z) z <| da z z <| dr0h (p_stA (ds := (encPipe r26.2.1).map .data) ty_34 z z z z z z) <| da z z <| ?_
  refine wd_nil ?_ (by kernel_rfl)
  refine e_n <| wc_seq <| wc_draw [0, 0, 2, 0, 14, 0, 62, 0, 254, 0, 1022, 2047, 4095] mixed z <| dr (p_bd (cs := [(aN .i64 0), (aT false), aNil, aNil, (aN .i64 0)]) pl_34 zr_34 z q z) z <| dr (p_ldB (ds := (encPipe ((Pipe.mk r16.1 r16.2.1 r16.2.2.1 (r16.2.2.2.1.set (1 : Int).toNat 1099511627791) r16.2.2.2.2))).map .data) ty_34 z z z z) z <| ?_
  obtain ⟨r28, e29, H⟩ := ob H
  refine drh (p_ch (ids := [12, 13]) (retargetref16_Twin_ok e29) ent_11 z z (rc z z (rc z z rn)) (rc z (rtt (Tame.flat tmL _)) (rc z rm rn)) z ⟨z, ⟨z, q⟩⟩ (by decide) z z z (oc z (oc z on)) (oc (ott (Tame.flat tmL _)) (oc om on)) z) z <| dr (p_ldB (ds := (encPipe r5.1).map .data) ty_34 z z z z) z <| ?_
  obtain ⟨r30, e31, H⟩ := ob H
  refine drh (p_ch (ids := [14, 15]) (retargetref16_Twin_ok e31) ent_11 z z (rc z z (rc z z rn)) (rc z (rtt (Tame.flat tmL _)) (rc z rm rn)) z ⟨z, ⟨z, q⟩⟩ (by decide) z z z (oc z (oc z on)) (oc (ott (Tame.flat tmL _)) (oc om on)) z) z <| dr (p_ldB (ds := (encPipe r5.1).map .data) ty_34 z z z z) z <| ?_
  obtain ⟨r32, e33, H⟩ := ob H
  refine drh (p_ch (ids := [16, 17]) (retargetref16_Twin_ok e33) ent_11 z z (rc z z (rc z z rn)) (rc z (rtt (Tame.flat tmL _)) (rc z rm rn)) z ⟨z, ⟨z, q⟩⟩ (by decide) z z z (oc z (oc z on)) (oc (ott (Tame.flat tmL _)) (oc om on)) z) z <| dr (p_ldB (ds := (encPipe r5.1).map .data) ty_34 z z z z) z <| ?_
  obtain ⟨r34, e35, H⟩ := ob H
  refine drh (p_ch (ids := [18, 19]) (retargetref16_Twin_ok e35) ent_11 z z (rc z z (rc z z rn)) (rc z (rtt (Tame.flat tmL _)) (rc z rm rn)) z ⟨z, ⟨z, q⟩⟩ (by decide) z z z (oc z (oc z on)) (oc (ott (Tame.flat tmL _)) (oc om on)) z) z <| dr (p_ldB (ds := (encPipe r5.1).map .data) ty_34 z z z z) z <| ?_
  obtain ⟨r36, e37, H⟩ := ob H
  refine drh (p_ch (ids := [20, 21]) (retargetref16_Twin_ok e37) ent_11 z z (rc z z (rc z z rn)) (rc z (rtt (Tame.flat tmL _)) (rc z rm rn)) z ⟨z, ⟨z, q⟩⟩ (by decide) z z z (oc z (oc z on)) (oc (ott (Tame.flat tmL _)) (oc om on)) z) z <| drh (p_bsW (cs := [(aN .i64 0), (aT false), aNil, aNil, (aN .i64 0), (aN .i64 r28.1), (aT r28.2.1), (.row 12), (.row 13), (aN .i64 r28.2.2.2.2), (aN .i64 r30.1), (aT r30.2.1), (.row 14), (.row 15), (aN .i64 r30.2.2.2.2), (aN .i64 r32.1), (aT r32.2.1), (.row 16), (.row 17), (aN .i64 r32.2.2.2.2), (aN .i64 r34.1), (aT r34.2.1), (.row 18), (.row 19), (aN .i64 r34.2.2.2.2), (aN .i64 r36.1), (aT r36.2.1), (.row 20), (.row 21), (aN .i64 r36.2.2.2.2)]) 22 [.tmp 118, .tmp 120, .tmp 122, .tmp 124, .tmp 126, .tmp 128] Tryz.underlying42 ty_34.size zr_34 z z z z (cs1 q z (cs1 q z (cs1 q z (cs1 q z (cs1 q z (cs1 q z cs0)))))) z z z) z <| da z z <| ?_
  refine wd_nil ?_ (by kernel_rfl)
  refine e_n <| wc_seq <| wc_ent (rowtree (k := 22) z (rta (rta (rta (rta (rta (rta (rta (rta (rta (rta (rta (rta (rta (rta (rta (rta (rta (rta (rta (rta (rta (rta (rta (rta (rta (rta (rta (rta (rta (rta rt0))))))))))))))))))))))))))))))) <| wc_ent (absrn (k := 22) (t' := 29) (sz' := 1) 2 z z) <| wc_ent (absrn (k := 22) (t' := 3) (sz' := 1) 3 z z) <| wc_ent (absr (k := 22) 12 7 z z z .tree z) <| wc_ent (absr (k := 22) 13 8 z z z .row z) <| wc_ent (absr (k := 22) 14 12 z z z .tree z) <| wc_ent (absr (k := 22) 15 13 z z z .row z) <| wc_ent (absr (k := 22) 16 17 z z z .tree z) <| wc_ent (absr (k := 22) 17 18 z z z .row z) <| wc_ent (absr (k := 22) 18 22 z z z .tree z) <| wc_ent (absr (k := 22) 19 23 z z z .row z) <| wc_ent (absr (k := 22) 20 27 z z z .tree z) <| wc_ent (absr (k := 22) 21 28 z z z .row z) <| wc_ent (Ent.eq (k := 22) (o' := (oT 34 5 tencPipe (([(Pipe.mk 0 false (([] : List (List Int))) ([] : List Int) 0), (Pipe.mk r28.1 r28.2.1 r28.2.2.1 r28.2.2.2.1 r28.2.2.2.2), (Pipe.mk r30.1 r30.2.1 r30.2.2.1 r30.2.2.2.1 r30.2.2.2.2), (Pipe.mk r32.1 r32.2.1 r32.2.2.1 r32.2.2.2.1 r32.2.2.2.2), (Pipe.mk r34.1 r34.2.1 r34.2.2.1 r34.2.2.2.1 r34.2.2.2.2), (Pipe.mk r36.1 r36.2.1 r36.2.2.1 r36.2.2.2.1 r36.2.2.2.2)] : List Pipe)))) z z) <| wc_region z <| lm z z <| ?_
  obtain ⟨r38, e39, H⟩ := ob H
  refine wl_ent (opn (k := 22) (B := [.av (aN .i64 r38.At), .av (aT r38.Jumps), wT 29 1 (tL 3 1 (eN .i64)) r38.Units, wR 3 1 (eN .i64) r38.Regs, .av (aN .i64 r38.Mem)]) e39 z z) <| wl_ent (foc (k := 22) 23 2 z z .tree z) <| wl_ent (foc (k := 22) 24 3 z z .row z) <| l (p_ixE (l := (([(Pipe.mk 0 false (([] : List (List Int))) ([] : List Int) 0), (Pipe.mk r28.1 r28.2.1 r28.2.2.1 r28.2.2.2.1 r28.2.2.2.2), (Pipe.mk r30.1 r30.2.1 r30.2.2.1 r30.2.2.2.1 r30.2.2.2.2), (Pipe.mk r32.1 r32.2.1 r32.2.2.1 r32.2.2.2.1 r32.2.2.2.2), (Pipe.mk r34.1 r34.2.1 r34.2.2.1 r34.2.2.2.1 r34.2.2.2.2), (Pipe.mk r36.1 r36.2.1 r36.2.2.1 r36.2.2.2.1 r36.2.2.2.2)] : List Pipe))) Tryz.underlying42 ty_34.size z z e39 z) z <| l (p_fdR fld_34_3 z) z <| l (p_ldE (n := 1) (j := 3) (sz := 5) (k := 22) (fun _ => z) ty_29 z (tk e39) z z) z <| ?_
  obtain ⟨r40, e41, H⟩ := ob H
  refine l (p_ixR Tryz.underlying29 ty_3.size z z z e41) z <| l (p_ldR (n := 1) (j := 0) (sz := 1) (k := 24) (r := r40) (f := (eN .i64)) (fun _ => z) ty_3 z z e41 z) z <| l (p_add z z) z <| ?_
  obtain ⟨r42, e43, H⟩ := ob H
  refine l (p_ixR Tryz.underlying29 ty_3.size z z z e43) z <| l0h (p_stR (sz := 1) (n := 1) (j := 0) (r := r42) (f := (eN .i64)) (ds := [.lit (.int .i64 (w64 (r40 + 1)))]) (r' := w64 (r40 + 1)) (fun _ => z) ty_3 (.inr z) z z z e43 q z z z z) <| ne <| sgr z <| lm z z <| wl_ent (absb (k := 22) 23 2 z z z .tree z) <| wl_ent (absb (k := 22) 24 3 z z z .row z) <| wl_ent (cls (k := 22) (r' := (Pipe.mk r38.At r38.Jumps r38.Units (r38.Regs.set (1 : Int).toNat (w64 (r40 + 1))) r38.Mem)) e39 z z) <| ?_
  obtain ⟨r44, e45, H⟩ := ob H
  refine wl_ent (opn (k := 22) (B := [.av (aN .i64 r44.At), .av (aT r44.Jumps), wT 29 1 (tL 3 1 (eN .i64)) r44.Units, wR 3 1 (eN .i64) r44.Regs, .av (aN .i64 r44.Mem)]) e45 z z) <| wl_ent (foc (k := 22) 25 2 z z .tree z) <| wl_ent (foc (k := 22) 26 3 z z .row z) <| l (p_ixE (l := ((([(Pipe.mk 0 false (([] : List (List Int))) ([] : List Int) 0), (Pipe.mk r28.1 r28.2.1 r28.2.2.1 r28.2.2.2.1 r28.2.2.2.2), (Pipe.mk r30.1 r30.2.1 r30.2.2.1 r30.2.2.2.1 r30.2.2.2.2), (Pipe.mk r32.1 r32.2.1 r32.2.2.1 r32.2.2.2.1 r32.2.2.2.2), (Pipe.mk r34.1 r34.2.1 r34.2.2.1 r34.2.2.2.1 r34.2.2.2.2), (Pipe.mk r36.1 r36.2.1 r36.2.2.1 r36.2.2.2.1 r36.2.2.2.2)] : List Pipe)).set (1 : Int).toNat ((Pipe.mk r38.At r38.Jumps r38.Units (r38.Regs.set (1 : Int).toNat (w64 (r40 + 1))) r38.Mem)))) Tryz.underlying42 ty_34.size z z e45 z) z <| l (p_fdR fld_34_0 z) z <| l0h (p_stE (n := 2) (j := 0) (sz := 5) (k := 22) (fun _ => z) ty_3 (.inr z) z z (tk e45) z q z z z) <| ne <| sgr z <| lm z z <| wl_ent (absb (k := 22) 25 2 z z z .tree z) <| wl_ent (absb (k := 22) 26 3 z z z .row z) <| wl_ent (cls (k := 22) (r' := (Pipe.mk 1099511627777 r44.Jumps r44.Units r44.Regs r44.Mem)) e45 z z) <| ?_
  obtain ⟨r46, e47, H⟩ := ob H
  refine wl_ent (opn (k := 22) (B := [.av (aN .i64 r46.At), .av (aT r46.Jumps), wT 29 1 (tL 3 1 (eN .i64)) r46.Units, wR 3 1 (eN .i64) r46.Regs, .av (aN .i64 r46.Mem)]) e47 z z) <| wl_ent (foc (k := 22) 27 2 z z .tree z) <| wl_ent (foc (k := 22) 28 3 z z .row z) <| l (p_ixE (l := (((([(Pipe.mk 0 false (([] : List (List Int))) ([] : List Int) 0), (Pipe.mk r28.1 r28.2.1 r28.2.2.1 r28.2.2.2.1 r28.2.2.2.2), (Pipe.mk r30.1 r30.2.1 r30.2.2.1 r30.2.2.2.1 r30.2.2.2.2), (Pipe.mk r32.1 r32.2.1 r32.2.2.1 r32.2.2.2.1 r32.2.2.2.2), (Pipe.mk r34.1 r34.2.1 r34.2.2.1 r34.2.2.2.1 r34.2.2.2.2), (Pipe.mk r36.1 r36.2.1 r36.2.2.1 r36.2.2.2.1 r36.2.2.2.2)] : List Pipe)).set (1 : Int).toNat ((Pipe.mk r38.At r38.Jumps r38.Units (r38.Regs.set (1 : Int).toNat (w64 (r40 + 1))) r38.Mem))).set (2 : Int).toNat (Pipe.mk 1099511627777 r44.Jumps r44.Units r44.Regs r44.Mem))) Tryz.underlying42 ty_34.size z z e47 z) z <| l (p_fdR fld_34_2 z) z <| l (p_ldE (n := 3) (j := 2) (sz := 5) (k := 22) (fun _ => z) ty_32 z (tk e47) z z) z <| ?_
  obtain ⟨r48, e49, H⟩ := ob H
  refine wl_ent (opn (k := 27) (B := [wR 3 1 (eN .i64) r48]) e49 z z) <| wl_ent (foc (k := 27) 29 0 z z .row z) <| l (p_ixE (l := r46.Units) Tryz.underlying32 ty_29.size z z e49 z) z <| l (p_ldE (n := 0) (j := 0) (sz := 1) (k := 27) (fun _ => z) ty_29 z (tk e49) z z) z <| ?_
  obtain ⟨r50, e51, H⟩ := ob H
  refine l (p_ixR Tryz.underlying29 ty_3.size z z z e51) z <| l0h (p_stR (sz := 1) (n := 0) (j := 0) (r := r50) (f := (eN .i64)) (ds := [.lit (.int .i64 1)]) (r' := 1) (fun _ => z) ty_3 (.inr z) z z z e51 q z z z z) <| ne <| sgr z <| lm z z <| wl_ent (absb (k := 27) 29 0 z z z .row z) <| wl_ent (cls (k := 27) (r' := r48.set (0 : Int).toNat 1) e49 z z) <| wl_ent (absb (k := 22) 27 2 z z z .tree z) <| wl_ent (absb (k := 22) 28 3 z z z .row z) <| wl_ent (cls (k := 22) (r' := (Pipe.mk r46.At r46.Jumps (r46.Units.set (0 : Int).toNat (r48.set (0 : Int).toNat 1)) r46.Regs r46.Mem)) e47 z z) <| ?_
  obtain ⟨r52, e53, H⟩ := ob H
  refine wl_ent (opn (k := 22) (B := [.av (aN .i64 r52.At), .av (aT r52.Jumps), wT 29 1 (tL 3 1 (eN .i64)) r52.Units, wR 3 1 (eN .i64) r52.Regs, .av (aN .i64 r52.Mem)]) e53 z z) <| wl_ent (foc (k := 22) 30 2 z z .tree z) <| wl_ent (foc (k := 22) 31 3 z z .row z) <| l (p_ixE (l := ((((([(Pipe.mk 0 false (([] : List (List Int))) ([] : List Int) 0), (Pipe.mk r28.1 r28.2.1 r28.2.2.1 r28.2.2.2.1 r28.2.2.2.2), (Pipe.mk r30.1 r30.2.1 r30.2.2.1 r30.2.2.2.1 r30.2.2.2.2), (Pipe.mk r32.1 r32.2.1 r32.2.2.1 r32.2.2.2.1 r32.2.2.2.2), (Pipe.mk r34.1 r34.2.1 r34.2.2.1 r34.2.2.2.1 r34.2.2.2.2), (Pipe.mk r36.1 r36.2.1 r36.2.2.1 r36.2.2.2.1 r36.2.2.2.2)] : List Pipe)).set (1 : Int).toNat ((Pipe.mk r38.At r38.Jumps r38.Units (r38.Regs.set (1 : Int).toNat (w64 (r40 + 1))) r38.Mem))).set (2 : Int).toNat (Pipe.mk 1099511627777 r44.Jumps r44.Units r44.Regs r44.Mem)).set (3 : Int).toNat ((Pipe.mk r46.At r46.Jumps (r46.Units.set (0 : Int).toNat (r48.set (0 : Int).toNat 1)) r46.Regs r46.Mem)))) Tryz.underlying42 ty_34.size z z e53 z) z <| l (p_fdR fld_34_4 z) z <| l0h (p_stE (n := 4) (j := 4) (sz := 5) (k := 22) (fun _ => z) ty_3 (.inr z) z z (tk e53) z q z z z) <| ne <| sgr z <| lm z z <| lm z z <| wl_ent (absb (k := 22) 30 2 z z z .tree z) <| wl_ent (absb (k := 22) 31 3 z z z .row z) <| wl_ent (cls (k := 22) (r' := (Pipe.mk r52.At r52.Jumps r52.Units r52.Regs (-1))) e53 z z) <| ?_
  obtain ⟨r54, e55, H⟩ := ob H
  refine wl_ent (opn (k := 22) (B := [.av (aN .i64 r54.At), .av (aT r54.Jumps), wT 29 1 (tL 3 1 (eN .i64)) r54.Units, wR 3 1 (eN .i64) r54.Regs, .av (aN .i64 r54.Mem)]) e55 z z) <| wl_ent (foc (k := 22) 32 2 z z .tree z) <| wl_ent (foc (k := 22) 33 3 z z .row z) <| l (p_ixE (l := (((((([(Pipe.mk 0 false (([] : List (List Int))) ([] : List Int) 0), (Pipe.mk r28.1 r28.2.1 r28.2.2.1 r28.2.2.2.1 r28.2.2.2.2), (Pipe.mk r30.1 r30.2.1 r30.2.2.1 r30.2.2.2.1 r30.2.2.2.2), (Pipe.mk r32.1 r32.2.1 r32.2.2.1 r32.2.2.2.1 r32.2.2.2.2), (Pipe.mk r34.1 r34.2.1 r34.2.2.1 r34.2.2.2.1 r34.2.2.2.2), (Pipe.mk r36.1 r36.2.1 r36.2.2.1 r36.2.2.2.1 r36.2.2.2.2)] : List Pipe)).set (1 : Int).toNat ((Pipe.mk r38.At r38.Jumps r38.Units (r38.Regs.set (1 : Int).toNat (w64 (r40 + 1))) r38.Mem))).set (2 : Int).toNat (Pipe.mk 1099511627777 r44.Jumps r44.Units r44.Regs r44.Mem)).set (3 : Int).toNat ((Pipe.mk r46.At r46.Jumps (r46.Units.set (0 : Int).toNat (r48.set (0 : Int).toNat 1)) r46.Regs r46.Mem))).set (4 : Int).toNat ((Pipe.mk r52.At r52.Jumps r52.Units r52.Regs (-1))))) Tryz.underlying42 ty_34.size z z e55 z) z <| l (p_fdR fld_34_2 z) z <| l (p_ldE (n := 5) (j := 2) (sz := 5) (k := 22) (fun _ => z) ty_32 z (tk e55) z z) z <| ?_
  obtain ⟨e56, H⟩ := as_ H
  refine lh (p_slT 34 Tryz.underlying32 ty_29.size (fun _ => z) z z z z e56 z) z <| l (p_ixE (l := (((((([(Pipe.mk 0 false (([] : List (List Int))) ([] : List Int) 0), (Pipe.mk r28.1 r28.2.1 r28.2.2.1 r28.2.2.2.1 r28.2.2.2.2), (Pipe.mk r30.1 r30.2.1 r30.2.2.1 r30.2.2.2.1 r30.2.2.2.2), (Pipe.mk r32.1 r32.2.1 r32.2.2.1 r32.2.2.2.1 r32.2.2.2.2), (Pipe.mk r34.1 r34.2.1 r34.2.2.1 r34.2.2.2.1 r34.2.2.2.2), (Pipe.mk r36.1 r36.2.1 r36.2.2.1 r36.2.2.2.1 r36.2.2.2.2)] : List Pipe)).set (1 : Int).toNat ((Pipe.mk r38.At r38.Jumps r38.Units (r38.Regs.set (1 : Int).toNat (w64 (r40 + 1))) r38.Mem))).set (2 : Int).toNat (Pipe.mk 1099511627777 r44.Jumps r44.Units r44.Regs r44.Mem)).set (3 : Int).toNat ((Pipe.mk r46.At r46.Jumps (r46.Units.set (0 : Int).toNat (r48.set (0 : Int).toNat 1)) r46.Regs r46.Mem))).set (4 : Int).toNat ((Pipe.mk r52.At r52.Jumps r52.Units r52.Regs (-1))))) Tryz.underlying42 ty_34.size z z e55 z) z <| l (p_fdR fld_34_2 z) z <| l0h (p_stE (n := 5) (j := 2) (sz := 5) (k := 22) (fun _ => z) ty_32 (.inr z) z z (tk e55) z q z z z) <| ne <| ?_
  refine w_jn0 H (⟨[(1, (.ptr 0 0)), (2, (.ptr 1 0)), (3, (.ptr 2 0)), (8, (aN .i64 r10.2.2)), (11, (aN .i64 r12.2.2)), (14, (aN .i64 r14.2.2)), (18, (aN .i64 r22.2.2)), (19, (aN .i64 r26.1)), (20, (.ptr 11 0)), (21, (aN .i64 r26.2.2))], [(0, (oD 27 (encMachine r1))), (1, (oD 27 (encMachine r3))), (2, (oC 31 [(aN .i64 99), aNil])), (11, (oD 34 (encPipe r26.2.1)))]⟩) ?_ ?_
  · intro H
    rw [retargetlaw16_CycleNames_k1] at H
    refine wc_seq <| wc_draw [0, 0, 3, 7, 15, 15, 31, 127] mixed z <| dr (p_ldB (ds := (encMachine r1).map .data) ty_27 z z z z) z <| drh ((p_mk (f := encMachOp) (z0 := (MachOp.mk 0 ([] : List Int))) 37 Tryz.underlying46 el_31 zr_31 (zdl z (zdn zd0)) z z z z).frz (fun _ => z)) z <| ?_
    obtain ⟨r57, e58, H⟩ := ob H
    refine dr (p_c (cycle_Starts_ok e58) ent_14 z z z) z <| dm z z <| dr (p_ex z z) z <| dr (p_ex z z) z <| da z z <| da z z <| ?_
    refine wd_nil ?_ (by kernel_rfl)
    refine e_n <| sgr z <| l (p_ldB (ds := (encMachine r1).map .data) ty_27 z z z z) z <| l (p_ldB (ds := [(aN .i64 99), aNil]) ty_31 z z z z) z <| wl_ent (wks (d := 180) (x := (aA (encMachOp ((MachOp.mk 99 ([] : List Int)))))) z (sg ⟨sr, ⟨sn, q⟩⟩)) <| l (p_bs (f := encMachOp) [.tmp 180] [(MachOp.mk 99 ([] : List Int))] Tryz.underlying46 ty_31.size zr_31 z z z z (el1 (.agg _) z el0) z) z <| ?_
    obtain ⟨r59, e60, H⟩ := ob H
    refine l (p_cs (cycle_Legal_ok e60) ent_15 z ⟨sr, ⟨sr, ⟨sn, q⟩⟩⟩ z z) z <| lm z z <| l (p_ex z z) z <| l (p_ex z z) z <| la z z <| la z z <| ne <| sgr z <| l (p_ldB (ds := (encMachine r1).map .data) ty_27 z z z z) z <| l (p_bs (f := (eN .i64)) [.const (Value.int IntKind.i64 0)] [0] Tryz.underlying29 ty_3.size zr_3 z z z z (el1 (.one _) z el0) z) z <| ?_
    obtain ⟨r61, e62, H⟩ := ob H
    refine l (p_cs (cycle_Legal_ok e62) ent_15 z ⟨sr, ⟨sn, ⟨sr, q⟩⟩⟩ z z) z <| lm z z <| l (p_ex z z) z <| l (p_ex z z) z <| la z z <| la z z <| ne <| sgr z <| l (p_ldB (ds := (encMachine r1).map .data) ty_27 z z z z) z <| ?_
    obtain ⟨r63, e64, H⟩ := ob H
    refine l (p_cs (cycle_Length_ok e64) ent_16 z ⟨sr, ⟨sn, q⟩⟩ z z) z <| lm z z <| l (p_ex z z) z <| l (p_ex z z) z <| la z z <| la z z <| ne <| wc_seq <| wc_draw [0, 0, 0, 6, 0, 0, 62, 0, 0, 510, 0, 0, 4094, 0, 0, 32766, 0, 0, 262142, 0, 0, 2097150, 0, 8388606, 16777214, 33554431, 67108863, 134217727, 134217727, 268435455, 1073741823] mixed z <| dr (p_ldB (ds := (encMachine r3).map .data) ty_27 z z z z) z <| dr (p_ldB (ds := (encMachine r3).map .data) ty_27 z z z z) z <| dr (p_bs (f := (eN .i64)) [.const (Value.int IntKind.i64 0), .const (Value.int IntKind.i64 1), .const (Value.int IntKind.i64 1)] [0, 1, 1] Tryz.underlying29 ty_3.size zr_3 z z z z (el1 (.one _) z (el1 (.one _) z (el1 (.one _) z el0))) z) z <| ?_
    obtain ⟨r65, e66, H⟩ := ob H
    refine dr (p_c (retargetlaw16_named_ok e66) ent_12 z z z) z <| dr (p_ldB (ds := (encMachine r3).map .data) ty_27 z z z z) z <| dr (p_bs (f := (eN .i64)) [.const (Value.int IntKind.i64 2), .const (Value.int IntKind.i64 3), .const (Value.int IntKind.i64 1)] [2, 3, 1] Tryz.underlying29 ty_3.size zr_3 z z z z (el1 (.one _) z (el1 (.one _) z (el1 (.one _) z el0))) z) z <| ?_
    obtain ⟨r67, e68, H⟩ := ob H
    refine dr (p_c (retargetlaw16_named_ok e68) ent_12 z z z) z <| dr (p_ldB (ds := (encMachine r3).map .data) ty_27 z z z z) z <| dr (p_bs (f := (eN .i64)) [.const (Value.int IntKind.i64 4), .const (Value.int IntKind.i64 5), .const (Value.int IntKind.i64 1)] [4, 5, 1] Tryz.underlying29 ty_3.size zr_3 z z z z (el1 (.one _) z (el1 (.one _) z (el1 (.one _) z el0))) z) z <| ?_
    obtain ⟨r69, e70, H⟩ := ob H
    refine dr (p_c (retargetlaw16_named_ok e70) ent_12 z z z) z <| dr (p_ldB (ds := (encMachine r3).map .data) ty_27 z z z z) z <| dr (p_bs (f := (eN .i64)) [.const (Value.int IntKind.i64 6), .const (Value.int IntKind.i64 7), .const (Value.int IntKind.i64 4)] [6, 7, 4] Tryz.underlying29 ty_3.size zr_3 z z z z (el1 (.one _) z (el1 (.one _) z (el1 (.one _) z el0))) z) z <| ?_
    obtain ⟨r71, e72, H⟩ := ob H
    refine dr (p_c (retargetlaw16_named_ok e72) ent_12 z z z) z <| dr (p_ldB (ds := (encMachine r3).map .data) ty_27 z z z z) z <| dr (p_bs (f := (eN .i64)) [.const (Value.int IntKind.i64 6), .const (Value.int IntKind.i64 7), .const (Value.int IntKind.i64 4)] [6, 7, 4] Tryz.underlying29 ty_3.size zr_3 z z z z (el1 (.one _) z (el1 (.one _) z (el1 (.one _) z el0))) z) z <| ?_
    obtain ⟨r73, e74, H⟩ := ob H
    refine dr (p_c (retargetlaw16_named_ok e74) ent_12 z z z) z <| dr (p_ldB (ds := (encMachine r3).map .data) ty_27 z z z z) z <| dr (p_bs (f := (eN .i64)) [.const (Value.int IntKind.i64 12), .const (Value.int IntKind.i64 9)] [12, 9] Tryz.underlying29 ty_3.size zr_3 z z z z (el1 (.one _) z (el1 (.one _) z el0)) z) z <| ?_
    obtain ⟨r75, e76, H⟩ := ob H
    refine dr (p_c (retargetlaw16_named_ok e76) ent_12 z z z) z <| dr (p_ldB (ds := (encMachine r3).map .data) ty_27 z z z z) z <| dr (p_bs (f := (eN .i64)) [.const (Value.int IntKind.i64 1)] [1] Tryz.underlying29 ty_3.size zr_3 z z z z (el1 (.one _) z el0) z) z <| ?_
    obtain ⟨r77, e78, H⟩ := ob H
    refine dr (p_c (retargetlaw16_named_ok e78) ent_12 z z z) z <| dr (p_ldB (ds := (encMachine r3).map .data) ty_27 z z z z) z <| ?_
    obtain ⟨r79, e80, H⟩ := ob H
    refine dr (p_cs (retargetlaw16_named_ok e80) ent_12 z ⟨sr, ⟨sr, ⟨sn, q⟩⟩⟩ z z) z <| dr (p_bs (f := encMachOp) [.tmp 200, .tmp 203, .tmp 206, .tmp 209, .tmp 212, .tmp 215, .tmp 218, .tmp 220] [r65, r67, r69, r71, r73, r75, r77, r79] Tryz.underlying46 ty_31.size zr_31 z z z z (el1 (.agg _) z (el1 (.agg _) z (el1 (.agg _) z (el1 (.agg _) z (el1 (.agg _) z (el1 (.agg _) z (el1 (.agg _) z (el1 (.agg _) z el0)))))))) z) z <| ?_
    obtain ⟨r81, e82, H⟩ := ob H
    refine dr (p_c (cycle_Starts_ok e82) ent_14 z z z) z <| dm z z <| dr (p_ex z z) z <| dr (p_ex z z) z <| da z z <| da z z <| ?_
    refine wd_nil ?_ (by kernel_rfl)
    refine e_n <| wc_seq <| wc_draw [0, 0, 2, 0, 14, 0, 62, 126, 0, 511, 1023, 2047, 2047, 4095, 16383] mixed z <| dr (p_ldB (ds := (encMachine r3).map .data) ty_27 z z z z) z <| dr (p_ldB (ds := (encMachine r3).map .data) ty_27 z z z z) z <| ?_
    obtain ⟨r83, e84, H⟩ := ob H
    refine dr (p_cs (retargetlaw16_named_ok e84) ent_12 z ⟨sr, ⟨sr, ⟨sn, q⟩⟩⟩ z z) z <| dr (p_ldB (ds := (encMachine r3).map .data) ty_27 z z z z) z <| ?_
    obtain ⟨r85, e86, H⟩ := ob H
    refine dr (p_cs (retargetlaw16_named_ok e86) ent_12 z ⟨sr, ⟨sr, ⟨sn, q⟩⟩⟩ z z) z <| dr (p_ldB (ds := (encMachine r3).map .data) ty_27 z z z z) z <| ?_
    obtain ⟨r87, e88, H⟩ := ob H
    refine dr (p_cs (retargetlaw16_named_ok e88) ent_12 z ⟨sr, ⟨sr, ⟨sn, q⟩⟩⟩ z z) z <| dr (p_bs (f := encMachOp) [.tmp 228, .tmp 230, .tmp 232] [r83, r85, r87] Tryz.underlying46 ty_31.size zr_31 z z z z (el1 (.agg _) z (el1 (.agg _) z (el1 (.agg _) z el0))) z) z <| dr (p_bs (f := (eN .i64)) [.const (Value.int IntKind.i64 0), .const (Value.int IntKind.i64 0), .const (Value.int IntKind.i64 0)] [0, 0, 0] Tryz.underlying29 ty_3.size zr_3 z z z z (el1 (.one _) z (el1 (.one _) z (el1 (.one _) z el0))) z) z <| ?_
    obtain ⟨r89, e90, H⟩ := ob H
    refine dr (p_c (cycle_Legal_ok e90) ent_15 z z z) z <| dm z z <| dr (p_ex z z) z <| dr (p_ex z z) z <| da z z <| da z z <| ?_
    refine wd_nil ?_ (by kernel_rfl)
    refine e_n <| wc_seq <| wc_draw [0, 0, 2, 6, 0, 31, 63, 127, 127, 255, 1023] mixed z <| dr (p_ldB (ds := (encMachine r3).map .data) ty_27 z z z z) z <| dr (p_ldB (ds := (encMachine r3).map .data) ty_27 z z z z) z <| ?_
    obtain ⟨r91, e92, H⟩ := ob H
    refine dr (p_cs (retargetlaw16_named_ok e92) ent_12 z ⟨sr, ⟨sr, ⟨sn, q⟩⟩⟩ z z) z <| dr (p_bs (f := encMachOp) [.tmp 241] [r91] Tryz.underlying46 ty_31.size zr_31 z z z z (el1 (.agg _) z el0) z) z <| dr (p_bs (f := (eN .i64)) [.const (Value.int IntKind.i64 1099511627777)] [1099511627777] Tryz.underlying29 ty_3.size zr_3 z z z z (el1 (.one _) z el0) z) z <| ?_
    obtain ⟨r93, e94, H⟩ := ob H
    refine dr (p_c (cycle_Legal_ok e94) ent_15 z z z) z <| dm z z <| dr (p_ex z z) z <| dr (p_ex z z) z <| da z z <| da z z <| ?_
    refine wd_nil ?_ (by kernel_rfl)
    refine e_n <| sgr z <| lm z z <| l (p_eql z z) z <| lm z z <| lw z (Grd.plain _) z [11] z (s1 strip_same s0) (fun hw => p_mv z) ⟨z, q⟩ (by exact q) z z <| lw z (Grd.plain _) z [250] z (s1 (strip_when id) s0) (fun hw => p_eql z z) ⟨z, q⟩ (by exact q) z z <| l (p_pkA z z q (strip_when (wt))) z <| lm z z <| lw z (Grd.plain _) z [14] z (s1 strip_same s0) (fun hw => p_mv z) ⟨z, q⟩ (by exact q) z z <| lw z (Grd.plain _) z [254] z (s1 (strip_when id) s0) (fun hw => p_eql z z) ⟨z, q⟩ (by exact q) z z <| l (p_pkA z z q (strip_when (wt))) z <| lm z z <| lw z (Grd.plain _) z [18] z (s1 strip_same s0) (fun hw => p_mv z) ⟨z, q⟩ (by exact q) z z <| lw z (Grd.plain _) z [258] z (s1 (strip_when id) s0) (fun hw => p_eql z z) ⟨z, q⟩ (by exact q) z z <| l (p_pkA z z q (strip_when (wt))) z <| lm z z <| lw z (Grd.plain _) z [21] z (s1 strip_same s0) (fun hw => p_mv z) ⟨z, q⟩ (by exact q) z z <| lw z (Grd.plain _) z [262] z (s1 (strip_when id) s0) (fun hw => p_eql z z) ⟨z, q⟩ (by exact q) z z <| l (p_pkA z z q (strip_when (wt))) z <| lm z z <| lw z (Grd.plain _) z [19] z (s1 strip_same s0) (fun hw => p_mv z) ⟨z, q⟩ (by exact q) z z <| lw z (Grd.plain _) z [266] z (s1 (strip_when id) s0) (fun hw => p_eql z z) ⟨z, q⟩ (by exact q) z z <| l (p_pkA z z q (strip_when (wt))) z <| lm z z <| lw z (Grd.plain _) z [2] z (s1 strip_same s0) (fun hw => p_ldB (ds := (encMachine r3).map .data) ty_27 z z z z) ⟨z, q⟩ (by exact ⟨z, q⟩) z z <| lw z (Grd.plain _) z [20] z (s1 strip_same s0) (fun hw => p_ldB (ds := (encPipe r26.2.1).map .data) ty_34 z z z z) ⟨z, q⟩ (by exact ⟨z, q⟩) z z <| ?_
    obtain ⟨r95, e96, H⟩ := ob H
    refine lw z (Grd.plain _) z [270, 271] z (s1 (strip_when id) (s1 (strip_when id) s0)) (fun hw => p_c (cycle_Check_ok (bt hw e96)) ent_13 z z z) ⟨z, ⟨z, q⟩⟩ (by exact q) z z <| lw z (Grd.plain _) z [272] z (s1 (strip_when id) s0) (fun hw => p_eql z z) ⟨z, q⟩ (by exact q) z z <| l (p_pkA z z q (strip_when (wt))) z <| lm z z <| lw z (Grd.plain _) z [25] z (s1 strip_same s0) (fun hw => p_mv z) ⟨z, q⟩ (by exact q) z z <| lw z (Grd.plain _) z [276] z (s1 (strip_when id) s0) (fun hw => p_eql z z) ⟨z, q⟩ (by exact q) z z <| l (p_pkA z z q (strip_when (wt))) z <| lm z z <| lw z (Grd.plain _) z [27] z (s1 strip_same s0) (fun hw => p_mv z) ⟨z, q⟩ (by exact q) z z <| lw z (Grd.plain _) z [280] z (s1 (strip_when id) s0) (fun hw => p_eql z z) ⟨z, q⟩ (by exact q) z z <| l (p_pkA z z q (strip_when (wt))) z <| lm z z <| lw z (Grd.plain _) z [29] z (s1 strip_same s0) (fun hw => p_mv z) ⟨z, q⟩ (by exact q) z z <| lw z (Grd.plain _) z [284] z (s1 (strip_when id) s0) (fun hw => p_eql z z) ⟨z, q⟩ (by exact q) z z <| l (p_pkA z z q (strip_when (wt))) z <| lm z z <| lw z (Grd.plain _) z [31] z (s1 strip_same s0) (fun hw => p_mv z) ⟨z, q⟩ (by exact q) z z <| lw z (Grd.plain _) z [288] z (s1 (strip_when id) s0) (fun hw => p_eql z z) ⟨z, q⟩ (by exact q) z z <| l (p_pkA z z q (strip_when (wt))) z <| lm z z <| lw z (Grd.plain _) z [30] z (s1 strip_same s0) (fun hw => p_mv z) ⟨z, q⟩ (by exact q) z z <| lw z (Grd.plain _) z [292] z (s1 (strip_when id) s0) (fun hw => p_eql z z) ⟨z, q⟩ (by exact q) z z <| l (p_pkA z z q (strip_when (wt))) z <| la z z <| ne <| sgr z <| lm z z <| lw z (Grd.plain _) z [38] z (s1 strip_same s0) (fun hw => p_mv z) ⟨z, q⟩ (by exact q) z z <| l (p_pkA z z q (strip_when (wt))) z <| lm z z <| lw z (Grd.plain _) z [33] z (s1 strip_same s0) (fun hw => p_mv z) ⟨z, q⟩ (by exact q) z z <| lw z (Grd.plain _) z [299] z (s1 (strip_when id) s0) (fun hw => p_eql z z) ⟨z, q⟩ (by exact q) z z <| l (p_pkA z z q (strip_when (wt))) z <| lm z z <| lw z (Grd.plain _) z [32] z (s1 strip_same s0) (fun hw => p_mv z) ⟨z, q⟩ (by exact q) z z <| lw z (Grd.plain _) z [] z s0 (fun hw => p_bs (f := (eN .i64)) [.const (Value.int IntKind.i64 0), .const (Value.int IntKind.i64 0), .const (Value.int IntKind.i64 1), .const (Value.int IntKind.i64 1), .const (Value.int IntKind.i64 4), .const (Value.int IntKind.i64 4), .const (Value.int IntKind.i64 4), .const (Value.int IntKind.i64 5)] [0, 0, 1, 1, 4, 4, 4, 5] Tryz.underlying29 ty_3.size zr_3 z z z z (el1 (.one _) z (el1 (.one _) z (el1 (.one _) z (el1 (.one _) z (el1 (.one _) z (el1 (.one _) z (el1 (.one _) z (el1 (.one _) z el0)))))))) z) q (by exact q) z z <| ?_
    obtain ⟨r97, e98, H⟩ := ob H
    refine lw z (Grd.plain _) z [303, 304] z (s1 (strip_when id) (s1 (strip_when id) s0)) (fun hw => p_c (retargetref16_SameInts_ok (bt hw e98)) ent_17 z z z) ⟨z, ⟨z, q⟩⟩ (by exact q) z z <| l (p_pkA z z q (strip_when (wt))) z <| lm z z <| lw z (Grd.plain _) z [35] z (s1 strip_same s0) (fun hw => p_mv z) ⟨z, q⟩ (by exact q) z z <| lw z (Grd.plain _) z [308] z (s1 (strip_when id) s0) (fun hw => p_eql z z) ⟨z, q⟩ (by exact q) z z <| l (p_pkA z z q (strip_when (wt))) z <| lm z z <| lw z (Grd.plain _) z [34] z (s1 strip_same s0) (fun hw => p_mv z) ⟨z, q⟩ (by exact q) z z <| lw z (Grd.plain _) z [312] z (s1 (strip_when id) s0) (fun hw => p_not z) ⟨z, q⟩ (by exact q) z z <| l (p_pkA z z q (strip_when (wt))) z <| lm z z <| lw z (Grd.plain _) z [37] z (s1 strip_same s0) (fun hw => p_mv z) ⟨z, q⟩ (by exact q) z z <| lw z (Grd.plain _) z [316] z (s1 (strip_when id) s0) (fun hw => p_eql z z) ⟨z, q⟩ (by exact q) z z <| l (p_pkA z z q (strip_when (wt))) z <| lm z z <| lw z (Grd.plain _) z [36] z (s1 strip_same s0) (fun hw => p_mv z) ⟨z, q⟩ (by exact q) z z <| lw z (Grd.plain _) z [320] z (s1 (strip_when id) s0) (fun hw => p_not z) ⟨z, q⟩ (by exact q) z z <| l (p_pkA z z q (strip_when (wt))) z <| lm z z <| ?_
    obtain ⟨r99, e100, H⟩ := ob H
    refine lw z (Grd.plain _) z [] z s0 (fun hw => p_c (retargetlaw16_alive_ok (bt hw e100)) ent_18 z z z) q (by exact q) z z <| l (p_pkA z z q (strip_when (wt))) z <| la z z <| ne <| wc_ret <| ?_
    obtain rfl := sm H
    exact fin (Or.inr z) (rs1 (rv z) rs0) (re [] (.dat) z h0)
  intro H
  refine sgr z <| la z z <| ne <| wc_block <| w_lp2 H (fun v101 v102 => ⟨[(1, (.ptr 0 0)), (2, (.ptr 1 0)), (3, (.ptr 2 0)), (8, (aN .i64 r10.2.2)), (11, (aN .i64 r12.2.2)), (14, (aN .i64 r14.2.2)), (18, (aN .i64 r22.2.2)), (19, (aN .i64 r26.1)), (20, (.ptr 11 0)), (21, (aN .i64 r26.2.2)), (22, (.row 22)), (23, (aN .i64 v101))], [(0, (oD 27 (encMachine r1))), (1, (oD 27 (encMachine r3))), (2, (oC 31 [(aN .i64 99), aNil])), (11, (oD 34 (encPipe r26.2.1))), (22, (oT 34 5 tencPipe v102))]⟩) (Ent.trans (absb (k := 22) 34 2 z z z .tree z) (Ent.trans (absb (k := 22) 33 3 z z z .row z) (Ent.trans (cls (k := 22) (r' := (Pipe.mk r54.At r54.Jumps (r54.Units.take (2 : Int).toNat) r54.Regs r54.Mem)) e55 z z) (en [(0, 0), (1, 1), (2, 2), (11, 11), (22, 22)] (ws z z z (ws z z z (ws z z z (wd z (wd z (wd z (wd z (wd z (ws z z z (wd z (ws z z z (wd z w0)))))))))))) z (hc z (hc z (hs z z z (hc z (ht (Tame.flat tmPipe _) z h0))))))))) <| ?_
  intro n2 v101 v102 H
  rw [retargetlaw16_CycleNames_b2] at H
  refine wc_seq <| sgr z <| lm z z <| lm z z <| l (p_lenT Tryz.underlying42 z z) z <| l (p_lss z z) z <| ne <| ?_
  rcases cn H with ⟨b103, H⟩ | ⟨b103, H⟩
  · refine c_t z b103 ?_
    refine se <| wc_seq <| wc_block <| wc_seq <| ?_
    obtain ⟨r104, e105, H⟩ := ob H
    refine wc_ent (opn (k := 22) (B := [.av (aN .i64 r104.At), .av (aT r104.Jumps), wT 29 1 (tL 3 1 (eN .i64)) r104.Units, wR 3 1 (eN .i64) r104.Regs, .av (aN .i64 r104.Mem)]) e105 z z) <| wc_ent (foc (k := 22) 37 2 z z .tree z) <| wc_ent (foc (k := 22) 38 3 z z .row z) <| wc_draw [0, 0, 0, 6, 14, 31, 63] mixed z <| dr (p_ldB (ds := (encMachine r3).map .data) ty_27 z z z z) z <| dm z z <| dm z z <| dr (p_ixE (l := v102) Tryz.underlying42 ty_34.size z z e105 z) z <| dr (p_ldEA (ys := [(aN .i64 r104.At), (aT r104.Jumps), (.row 37), (.row 38), (aN .i64 r104.Mem)]) (n := v101) (j := 0) (sz := 5) (k := 22) (fun _ => z) ty_34 z (tk e105) z z z) z <| ?_
    obtain ⟨r106, e107, H⟩ := ob H
    refine dr (p_cl [(37, _, _), (38, _, _)] (cycle_Check_ok e107) ent_13 z ⟨z, ⟨z, q⟩⟩ (fl1 .tree (FrC.tree (fun _ => z) (frL (fun _ => z))) (fl1 .row (FrC.row (fun _ => z)) fl0)) (.cons (.same z) (.cons (.agg (.cons (.same z) (.cons (.same z) (.cons (.row (.head _)) (.cons (.row (.tail _ (.head _))) (.cons (.same z) .nil)))))) .nil)) lit_d) z <| dr (p_neq z z) z <| ?_
    refine wd_nil ?_ (by kernel_rfl)
    refine e_n <| ?_
    rcases cn H with ⟨b108, H⟩ | ⟨b108, H⟩
    · refine c_t z b108 ?_
      refine sgr z <| la z z <| ne <| wc_ret <| ?_
      refine e_br (e_tr (e_tr (e_br (e_tr ?_))))
      obtain rfl := sm H
      exact fin (Or.inr z) (rs1 (rv z) rs0) (re [] (.dat) z h0)
    refine c_f z b108 <| wc_skip <| ?_
    refine e_bn (e_n ?_)
    refine wc_region z <| lm z z <| l (p_add z z) z <| la z z <| ne <| ?_
    exact ⟨w64 (v101 + 1), v102, H, Ent.trans (absb (k := 22) 37 2 z z z .tree z) (Ent.trans (absb (k := 22) 38 3 z z z .row z) (Ent.trans (clu (k := 22) e105 z z) (en [(0, 0), (1, 1), (2, 2), (11, 11), (22, 22)] (ws z z z (ws z z z (ws z z z (wd z (wd z (wd z (wd z (wd z (ws z z z (wd z (ws z z z (wd z w0)))))))))))) z (hc z (hc z (hs z z z (hc z (ht (Tame.flat tmPipe _) z h0))))))))⟩
  refine c_f z b103 <| wc_exit <| ?_
  refine e_te (e_te (e_h (e_n ?_)))
  exact ⟨H, en [(0, 0), (1, 1), (2, 2), (11, 11)] (ws z z z (ws z z z (ws z z z (wd z (wd z (wd z (wd z (wd z (ws z z z (wd z w0)))))))))) z (hc z (hc z (hs z z z (hc z h0))))⟩
end Go.Proofs.YtgmpgoafokdcbaaGreatDoor.Sx
