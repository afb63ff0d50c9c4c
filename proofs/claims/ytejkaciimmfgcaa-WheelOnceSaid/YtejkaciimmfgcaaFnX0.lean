/- Written by dec.py of this project: Go functions as plain functions over the memory, and that the Go calls come to these. -/
import Derived.Test.YtejkaciimmfgcaaClo
import Derived.Test.YtejkaciimmfgcaaNd
import Derived.Test.YtejkaciimmfgcaaFnW
import Derived.Test.YtejkaciimmfgcaaFnU
namespace Go.Proofs.Ytejkaciimmfgcaa.D
open Go
set_option linter.unusedVariables false
set_option linter.unusedSimpArgs false

noncomputable def grapevinelaw12_live (w : World) : ND (Bool × World) :=
  lb3 (wheel_New 0 w) fun v1 v2 w3 =>
  cb2 (if (v2 != 0) = true then
  (nret (true, w3))
  else
  (if (v1.isNone) = true then
  (nret (true, w3))
  else
  (lb2 (wheel_Wheel_Set v1 1 9 w3) fun v11 w12 =>
  if (v11 != 0) = true then
  (nret (true, w12))
  else
  (lb2 (wheel_Wheel_Set v1 2 5 w12) fun v15 w16 =>
  if (v15 != 0) = true then
  (nret (true, w16))
  else
  (lb2 (wheel_Wheel_Set v1 3 9 w16) fun v19 w20 =>
  nret ((v19 != 0), w20)))))) fun v5 w6 =>
  if v5 = true then
  (nret (false, w6))
  else
  (cb3 (wheel_Wheel_Advance v1 5 w6) fun v23 v24 w25 =>
  cb3 (wheel_Wheel_Advance v1 9 w25) fun v27 v28 w29 =>
  cb2 (if (v24 == 0) = true then
  (if (v28 == 0) = true then
  (lb2 (bsl w29 3 1 [[(.int .i64 2)]]) fun s37 w38 =>
  lb2 (grapevineref12_Same v23 s37 w38) fun v40 w41 =>
  if v40 = true then
  (lb2 (bsl w41 3 1 [[(.int .i64 1)], [(.int .i64 3)]]) fun s44 w45 =>
  lb2 (grapevineref12_Same v27 s44 w45) fun v47 w48 =>
  nret (v47, w48))
  else
  (nret (false, w41)))
  else
  (nret (false, w29)))
  else
  (nret (false, w29))) fun v31 w32 =>
  nret (v31, w32))
set_option maxHeartbeats 1000000 in
set_option maxRecDepth 100000 in
theorem grapevinelaw12_live_ok {w : World} {Q : Bool × World → Prop} (h : (grapevinelaw12_live w).t Q) : Calls Try.prog 19 #[] w fun e w'' => ∃ i, e = .returned (.bool i.1) ∧ Q i ∧ w'' = i.2 := by
  refine calls_dec (n := 58) Try.func19 rfl Try.ntmps19 (by simp) fun a ha => ?_
  unfold grapevinelaw12_live at h
  refine wp_seq <| region_lit <| qa ha rfl fun a ha => s_nil <| t_n <| wp_seq <| region_lit <| ?_
  obtain ⟨v1, v2, w3, e4, h⟩ := h
  refine q ha (d_call (xs := [_]) (vs := [(.int .i64 0)]) ha ⟨rfl, trivial⟩ Try.call15 (wheel_New_ok e4)) fun a ha => qm ha rfl fun a ha => q ha (d_ext ha rfl rfl) fun a ha => q ha (d_ext ha rfl rfl) fun a ha => qa ha rfl fun a ha => qa ha rfl fun a ha => s_nil <| t_n <| wp_seq <| wp_seq <| ?_
  refine reg_joinN (n := 58) (ι := Bool × World) (Lf := fun i => [(31, (.bool i.1)), (1, (.pointer v1))]) (wf := fun i => i.2) (un2 h) (fun i h a ha => ?_) (fun h hk8 => ?_)
  · obtain ⟨v5, w6⟩ := i
    have ha : Has 58 [(31, (.bool v5)), (1, (.pointer v1))] a := ha
    refine t_n <| ?_
    refine s_condN ha rfl h (fun b22 h => ?_) (fun b22 h => ?_)
    · refine wp_seq <| region_lit <| qa ha rfl fun a ha => s_nil <| t_n <| wp_ret <| t_r <| ?_
      have hS := ha
      exact ret1 Try.results19 hS rfl ⟨(false, w6), rfl, h, rfl⟩
    · refine wp_skip <| t_n <| wp_seq <| region_lit <| qm ha rfl fun a ha => ?_
      refine s_callN (ι := Sl × Int × World) (pk := fun i => (.tuple #[(Sl.v i.1), (.int .i64 i.2.1)])) (wf := fun i => i.2.2) (xs := [_, _]) (vs := [(.pointer v1), (.int .i64 5)]) ha ⟨rfl, rfl, trivial⟩ Try.call18 (wheel_Wheel_Advance_ok (un3 h)) (fun i h a ha => ?_)
      obtain ⟨v23, v24, w25⟩ := i
      refine qm ha rfl fun a ha => q ha (d_ext ha rfl rfl) fun a ha => q ha (d_ext ha rfl rfl) fun a ha => qa ha rfl fun a ha => qa ha rfl fun a ha => s_nil <| t_n <| wp_seq <| region_lit <| qm ha rfl fun a ha => ?_
      refine s_callN (ι := Sl × Int × World) (pk := fun i => (.tuple #[(Sl.v i.1), (.int .i64 i.2.1)])) (wf := fun i => i.2.2) (xs := [_, _]) (vs := [(.pointer v1), (.int .i64 9)]) ha ⟨rfl, rfl, trivial⟩ Try.call18 (wheel_Wheel_Advance_ok (un3 h)) (fun i h a ha => ?_)
      obtain ⟨v27, v28, w29⟩ := i
      refine qm ha rfl fun a ha => q ha (d_ext ha rfl rfl) fun a ha => q ha (d_ext ha rfl rfl) fun a ha => qa ha rfl fun a ha => qa ha rfl fun a ha => s_nil <| t_n <| wp_seq <| ?_
      refine reg_joinN (n := 58) (ι := Bool × World) (Lf := fun i => [(0, (.bool i.1))]) (wf := fun i => i.2) (un2 h) (fun i h a ha => ?_) (fun h hk34 => ?_)
      · obtain ⟨v31, w32⟩ := i
        have ha : Has 58 [(0, (.bool v31))] a := ha
        refine t_n <| wp_ret <| ?_
        have hS := ha
        exact ret1 Try.results19 hS rfl ⟨(v31, w32), rfl, h, rfl⟩
      · refine region_lit <| qm ha rfl fun a ha => q ha (d_eq ha rfl rfl) fun a ha => qm ha rfl fun a ha => ?_
        refine ite_n h (fun b35 h => ?_) (fun b35 h => ?_)
        · refine qg ha 44 b35 (d_move ha rfl) fun a ha => qg ha 44 b35 (d_eq ha rfl rfl) fun a ha => q ha (d_pick_t ha rfl b35 rfl) fun a ha => qm ha rfl fun a ha => ?_
          refine ite_n h (fun b36 h => ?_) (fun b36 h => ?_)
          · refine qg ha 48 b36 (d_move ha rfl) fun a ha => ?_
            obtain ⟨s37, w38, e39, h⟩ := h
            refine qg ha 48 b36 (d_bsl (vs := [(0, (.int .i64 2))]) (ps := [[(.int .i64 2)]]) ha ⟨rfl, rfl, trivial⟩ ⟨rfl, rfl, trivial⟩ rfl Try.runUnderlying34 Try.sizeOf3 Try.zeroValue3 (by decide) e39) fun a ha => ?_
            obtain ⟨v40, w41, e42, h⟩ := h
            refine qg ha 48 b36 (d_call (xs := [_, _]) (vs := [(Sl.v v23), (Sl.v s37)]) ha ⟨rfl, rfl, trivial⟩ Try.call24 (grapevineref12_Same_ok e42)) fun a ha => q ha (d_pick_t ha rfl b36 rfl) fun a ha => qm ha rfl fun a ha => ?_
            refine ite_n h (fun b43 h => ?_) (fun b43 h => ?_)
            · refine qg ha 53 b43 (d_move ha rfl) fun a ha => ?_
              obtain ⟨s44, w45, e46, h⟩ := h
              refine qg ha 53 b43 (d_bsl (vs := [(0, (.int .i64 1)), (1, (.int .i64 3))]) (ps := [[(.int .i64 1)], [(.int .i64 3)]]) ha ⟨rfl, rfl, rfl, rfl, trivial⟩ ⟨rfl, rfl, rfl, rfl, trivial⟩ rfl Try.runUnderlying34 Try.sizeOf3 Try.zeroValue3 (by decide) e46) fun a ha => ?_
              obtain ⟨v47, w48, e49, h⟩ := h
              refine qg ha 53 b43 (d_call (xs := [_, _]) (vs := [(Sl.v v27), (Sl.v s44)]) ha ⟨rfl, rfl, trivial⟩ Try.call24 (grapevineref12_Same_ok e49)) fun a ha => q ha (d_pick_t ha rfl b43 rfl) fun a ha => qa ha rfl fun a ha => s_nil <| ?_
              have hS : Has 58 [(0, (.bool v47))] _ := ha.sub ⟨rfl, trivial⟩
              exact hk34 (v47, w48) h _ hS
            · refine qn ha 53 (nn b43 _ rfl) fun a ha => qn ha 53 (nn b43 _ rfl) fun a ha => qn ha 53 (nn b43 _ rfl) fun a ha => q ha (d_pick_f ha rfl b43 rfl) fun a ha => qa ha rfl fun a ha => s_nil <| ?_
              have hS : Has 58 [(0, (.bool false))] _ := ha.sub ⟨rfl, trivial⟩
              exact hk34 (false, w41) h _ hS
          · refine qn ha 48 (nn b36 _ rfl) fun a ha => qn ha 48 (nn b36 _ rfl) fun a ha => qn ha 48 (nn b36 _ rfl) fun a ha => q ha (d_pick_f ha rfl b36 rfl) fun a ha => qm ha rfl fun a ha => qn ha 53 (nn Bool.false_ne_true _ rfl) fun a ha => qn ha 53 (nn Bool.false_ne_true _ rfl) fun a ha => qn ha 53 (nn Bool.false_ne_true _ rfl) fun a ha => q ha (d_pick_f ha rfl Bool.false_ne_true rfl) fun a ha => qa ha rfl fun a ha => s_nil <| ?_
            have hS : Has 58 [(0, (.bool false))] _ := ha.sub ⟨rfl, trivial⟩
            exact hk34 (false, w29) h _ hS
        · refine qn ha 44 (nn b35 _ rfl) fun a ha => qn ha 44 (nn b35 _ rfl) fun a ha => q ha (d_pick_f ha rfl b35 rfl) fun a ha => qm ha rfl fun a ha => qn ha 48 (nn Bool.false_ne_true _ rfl) fun a ha => qn ha 48 (nn Bool.false_ne_true _ rfl) fun a ha => qn ha 48 (nn Bool.false_ne_true _ rfl) fun a ha => q ha (d_pick_f ha rfl Bool.false_ne_true rfl) fun a ha => qm ha rfl fun a ha => qn ha 53 (nn Bool.false_ne_true _ rfl) fun a ha => qn ha 53 (nn Bool.false_ne_true _ rfl) fun a ha => qn ha 53 (nn Bool.false_ne_true _ rfl) fun a ha => q ha (d_pick_f ha rfl Bool.false_ne_true rfl) fun a ha => qa ha rfl fun a ha => s_nil <| ?_
          have hS : Has 58 [(0, (.bool false))] _ := ha.sub ⟨rfl, trivial⟩
          exact hk34 (false, w29) h _ hS
  · refine region_lit <| qm ha rfl fun a ha => q ha (d_ne ha rfl rfl) fun a ha => qm ha rfl fun a ha => ?_
    refine ite_n h (fun b9 h => ?_) (fun b9 h => ?_)
    · refine qn ha 13 (tn b9) fun a ha => qn ha 13 (tn b9) fun a ha => q ha (d_pick_t ha rfl b9 rfl) fun a ha => qm ha rfl fun a ha => qn ha 17 (tn rfl) fun a ha => qn ha 17 (tn rfl) fun a ha => qn ha 17 (tn rfl) fun a ha => q ha (d_pick_t ha rfl rfl rfl) fun a ha => qm ha rfl fun a ha => qn ha 22 (tn rfl) fun a ha => qn ha 22 (tn rfl) fun a ha => qn ha 22 (tn rfl) fun a ha => q ha (d_pick_t ha rfl rfl rfl) fun a ha => qm ha rfl fun a ha => qn ha 27 (tn rfl) fun a ha => qn ha 27 (tn rfl) fun a ha => qn ha 27 (tn rfl) fun a ha => q ha (d_pick_t ha rfl rfl rfl) fun a ha => s_nil <| ?_
      have hS : Has 58 [(31, (.bool true)), (1, (.pointer v1))] _ := ha.sub ⟨rfl, rfl, trivial⟩
      exact hk8 (true, w3) h _ hS
    · refine qg ha 13 (nt b9) (d_move ha rfl) fun a ha => qg ha 13 (nt b9) (d_eqN ha rfl rfl Try.runUnderlying24) fun a ha => q ha (d_pick_f ha rfl b9 rfl) fun a ha => qm ha rfl fun a ha => ?_
      refine ite_n h (fun b10 h => ?_) (fun b10 h => ?_)
      · refine qn ha 17 (tn b10) fun a ha => qn ha 17 (tn b10) fun a ha => qn ha 17 (tn b10) fun a ha => q ha (d_pick_t ha rfl b10 rfl) fun a ha => qm ha rfl fun a ha => qn ha 22 (tn rfl) fun a ha => qn ha 22 (tn rfl) fun a ha => qn ha 22 (tn rfl) fun a ha => q ha (d_pick_t ha rfl rfl rfl) fun a ha => qm ha rfl fun a ha => qn ha 27 (tn rfl) fun a ha => qn ha 27 (tn rfl) fun a ha => qn ha 27 (tn rfl) fun a ha => q ha (d_pick_t ha rfl rfl rfl) fun a ha => s_nil <| ?_
        have hS : Has 58 [(31, (.bool true)), (1, (.pointer v1))] _ := ha.sub ⟨rfl, rfl, trivial⟩
        exact hk8 (true, w3) h _ hS
      · refine qg ha 17 (nt b10) (d_move ha rfl) fun a ha => ?_
        obtain ⟨v11, w12, e13, h⟩ := h
        refine qg ha 17 (nt b10) (d_call (xs := [_, _, _]) (vs := [(.pointer v1), (.int .i64 1), (.int .i64 9)]) ha ⟨rfl, rfl, rfl, trivial⟩ Try.call16 (wheel_Wheel_Set_ok e13)) fun a ha => qg ha 17 (nt b10) (d_ne ha rfl rfl) fun a ha => q ha (d_pick_f ha rfl b10 rfl) fun a ha => qm ha rfl fun a ha => ?_
        refine ite_n h (fun b14 h => ?_) (fun b14 h => ?_)
        · refine qn ha 22 (tn b14) fun a ha => qn ha 22 (tn b14) fun a ha => qn ha 22 (tn b14) fun a ha => q ha (d_pick_t ha rfl b14 rfl) fun a ha => qm ha rfl fun a ha => qn ha 27 (tn rfl) fun a ha => qn ha 27 (tn rfl) fun a ha => qn ha 27 (tn rfl) fun a ha => q ha (d_pick_t ha rfl rfl rfl) fun a ha => s_nil <| ?_
          have hS : Has 58 [(31, (.bool true)), (1, (.pointer v1))] _ := ha.sub ⟨rfl, rfl, trivial⟩
          exact hk8 (true, w12) h _ hS
        · refine qg ha 22 (nt b14) (d_move ha rfl) fun a ha => ?_
          obtain ⟨v15, w16, e17, h⟩ := h
          refine qg ha 22 (nt b14) (d_call (xs := [_, _, _]) (vs := [(.pointer v1), (.int .i64 2), (.int .i64 5)]) ha ⟨rfl, rfl, rfl, trivial⟩ Try.call16 (wheel_Wheel_Set_ok e17)) fun a ha => qg ha 22 (nt b14) (d_ne ha rfl rfl) fun a ha => q ha (d_pick_f ha rfl b14 rfl) fun a ha => qm ha rfl fun a ha => ?_
          refine ite_n h (fun b18 h => ?_) (fun b18 h => ?_)
          · refine qn ha 27 (tn b18) fun a ha => qn ha 27 (tn b18) fun a ha => qn ha 27 (tn b18) fun a ha => q ha (d_pick_t ha rfl b18 rfl) fun a ha => s_nil <| ?_
            have hS : Has 58 [(31, (.bool true)), (1, (.pointer v1))] _ := ha.sub ⟨rfl, rfl, trivial⟩
            exact hk8 (true, w16) h _ hS
          · refine qg ha 27 (nt b18) (d_move ha rfl) fun a ha => ?_
            obtain ⟨v19, w20, e21, h⟩ := h
            refine qg ha 27 (nt b18) (d_call (xs := [_, _, _]) (vs := [(.pointer v1), (.int .i64 3), (.int .i64 9)]) ha ⟨rfl, rfl, rfl, trivial⟩ Try.call16 (wheel_Wheel_Set_ok e21)) fun a ha => qg ha 27 (nt b18) (d_ne ha rfl rfl) fun a ha => q ha (d_pick_f ha rfl b18 rfl) fun a ha => s_nil <| ?_
            have hS : Has 58 [(31, (.bool (v19 != 0))), (1, (.pointer v1))] _ := ha.sub ⟨rfl, rfl, trivial⟩
            exact hk8 ((v19 != 0), w20) h _ hS

noncomputable def grapevinelaw12_WheelOnce_l1 (p11 : Addr) (x14 : Int) (w15 : World) : ND ((Int × World) ⊕ (World)) :=
  if (decide (x14 ≤ 64)) = true then
  (lb1 (ixA p11 x14 65 1) fun p22 =>
  lb1 (stV w15 p22 (.int .i64 (-1))) fun w24 =>
  nret (.inl ((IntKind.wrap .i64 (x14 + 1)), w24)))
  else
  (nret (.inr w15))
noncomputable def grapevinelaw12_WheelOnce_l2 (a0 : Sl) (v1 : Option Addr) (p11 : Addr) (x26 : Int) (w27 : World) : ND ((Int × World) ⊕ (World)) :=
  cb2 (if (decide (x26 < (a0.n : Int))) = true then
  (nret ((decide (x26 < 300)), w27))
  else
  (nret (false, w27))) fun v33 w34 =>
  if v33 = true then
  (cb1 (lb1 (ix a0 x26 3) fun p42 =>
  lb1 (ldI .i64 w34 (p42.add 0)) fun v44 =>
  if (v44 == 0) = true then
  (lb1 (dr w34) fun w47 =>
  lb1 (ix a0 x26 3) fun p49 =>
  lb1 (ldI .i64 w47 (p49.add 1)) fun v51 =>
  lb1 (ix a0 x26 3) fun p53 =>
  lb1 (ldI .i64 w47 (p53.add 2)) fun v55 =>
  lb2 (wheel_Wheel_Set v1 v51 v55 w47) fun v57 w58 =>
  if (v57 == 0) = true then
  (lb1 (dr w58) fun w61 =>
  lb1 (ix a0 x26 3) fun p63 =>
  lb1 (ldI .i64 w61 (p63.add 1)) fun v65 =>
  lb1 (ix a0 x26 3) fun p67 =>
  lb1 (ldI .i64 w61 (p67.add 2)) fun v69 =>
  lb1 (ixA p11 v65 65 1) fun p71 =>
  lb1 (stV w61 p71 (.int .i64 v69)) fun w73 =>
  nret w73)
  else
  (nret w58))
  else
  (if (v44 == 1) = true then
  (lb1 (ix a0 x26 3) fun p76 =>
  lb1 (ldI .i64 w34 (p76.add 1)) fun v78 =>
  lb2 (wheel_Wheel_Drop v1 v78 w34) fun v80 w81 =>
  if (v80 == 0) = true then
  (lb1 (ix a0 x26 3) fun p84 =>
  lb1 (ldI .i64 w81 (p84.add 1)) fun v86 =>
  lb1 (ixA p11 v86 65 1) fun p88 =>
  lb1 (stV w81 p88 (.int .i64 (-1))) fun w90 =>
  nret w90)
  else
  (nret w81))
  else
  (nret w34))) fun w39 =>
  nret (.inl ((IntKind.wrap .i64 (x26 + 1)), w39)))
  else
  (nret (.inr w34))
noncomputable def grapevinelaw12_WheelOnce_l4 (v123 : Sl) (p11 : Addr) (v109 : Int) (x93 : Int) (x92 : Int) (x128 : Int) (w129 : World) : ND ((Int × World) ⊕ ((World) ⊕ (Bool × World))) :=
  if (decide (x128 < (v123.n : Int))) = true then
  (lb1 (ix v123 x128 1) fun p139 =>
  lb1 (ldI .i64 w129 p139) fun v141 =>
  lb1 (ixA p11 v141 65 1) fun p143 =>
  lb1 (ldI .i64 w129 p143) fun v145 =>
  cb2 (if (decide (v145 < 0)) = true then
  (nret (true, w129))
  else
  (if (decide (v109 < v145)) = true then
  (nret (true, w129))
  else
  (if (decide (0 < x93)) = true then
  (if (decide (v145 ≤ x92)) = true then
  (nret (true, w129))
  else
  (if (decide (0 < x128)) = true then
  (lb1 (ix v123 (IntKind.wrap .i64 (x128 - 1)) 1) fun p156 =>
  lb1 (ldI .i64 w129 p156) fun v158 =>
  lb1 (ixA p11 v158 65 1) fun p160 =>
  lb1 (ldI .i64 w129 p160) fun v162 =>
  nret ((decide (v145 < v162)), w129))
  else
  (nret (false, w129))))
  else
  (if (decide (0 < x128)) = true then
  (lb1 (ix v123 (IntKind.wrap .i64 (x128 - 1)) 1) fun p165 =>
  lb1 (ldI .i64 w129 p165) fun v167 =>
  lb1 (ixA p11 v167 65 1) fun p169 =>
  lb1 (ldI .i64 w129 p169) fun v171 =>
  nret ((decide (v145 < v171)), w129))
  else
  (nret (false, w129)))))) fun v147 w148 =>
  if v147 = true then
  (nret (.inr (.inr (false, w148))))
  else
  (nret (.inl ((IntKind.wrap .i64 (x128 + 1)), w148))))
  else
  (nret (.inr (.inl w129)))
noncomputable def grapevinelaw12_WheelOnce_l5 (v123 : Sl) (p11 : Addr) (x174 : Int) (w175 : World) : ND ((Int × World) ⊕ (World)) :=
  if (decide (x174 < (v123.n : Int))) = true then
  (lb1 (ix v123 x174 1) fun p182 =>
  lb1 (ldI .i64 w175 p182) fun v184 =>
  lb1 (ixA p11 v184 65 1) fun p186 =>
  lb1 (stV w175 p186 (.int .i64 (-1))) fun w188 =>
  nret (.inl ((IntKind.wrap .i64 (x174 + 1)), w188)))
  else
  (nret (.inr w175))
noncomputable def grapevinelaw12_WheelOnce_l6 (p11 : Addr) (v109 : Int) (x190 : Int) (w191 : World) : ND ((Int × World) ⊕ ((World) ⊕ (Bool × World))) :=
  if (decide (x190 ≤ 64)) = true then
  (cb2 (lb1 (ixA p11 x190 65 1) fun p205 =>
  lb1 (ldI .i64 w191 p205) fun v207 =>
  if (decide (0 ≤ v207)) = true then
  (lb1 (ixA p11 x190 65 1) fun p210 =>
  lb1 (ldI .i64 w191 p210) fun v212 =>
  nret ((decide (v212 ≤ v109)), w191))
  else
  (nret (false, w191))) fun v201 w202 =>
  if v201 = true then
  (nret (.inr (.inr (false, w202))))
  else
  (nret (.inl ((IntKind.wrap .i64 (x190 + 1)), w202))))
  else
  (nret (.inr (.inl w191)))
noncomputable def grapevinelaw12_WheelOnce_l3 (a1 : Sl) (v1 : Option Addr) (p11 : Addr) (x92 : Int) (x93 : Int) (w94 : World) : ND ((Int × Int × World) ⊕ ((World) ⊕ (Bool × World))) :=
  cb2 (if (decide (x93 ≤ (a1.n : Int))) = true then
  (nret ((decide (x93 ≤ 200)), w94))
  else
  (nret (false, w94))) fun v103 w104 =>
  if v103 = true then
  (cb2 (cb2 (if (decide (x93 < (a1.n : Int))) = true then
  (nret ((decide (x93 < 200)), w104))
  else
  (nret (false, w104))) fun v113 w114 =>
  if v113 = true then
  (lb1 (ix a1 x93 1) fun p119 =>
  lb1 (ldI .u16 w114 p119) fun v121 =>
  nret ((IntKind.wrap .i64 (x92 + (IntKind.wrap .i64 v121))), w114))
  else
  (nret (1099511627776, w114))) fun v109 w110 =>
  cb3 (wheel_Wheel_Advance v1 v109 w110) fun v123 v124 w125 =>
  if (v124 != 0) = true then
  (nret (.inr (.inr (false, w125))))
  else
  (cb1 (nloop (fun s : Int × World => grapevinelaw12_WheelOnce_l4 v123 p11 v109 x93 x92 s.1 s.2) (0, w125)) fun r130 => Sum.elim (fun (i : World) => u1 i fun w132 =>
  cb1 (nloop (fun s : Int × World => grapevinelaw12_WheelOnce_l5 v123 p11 s.1 s.2) (0, w132)) fun w178 =>
  cb1 (nloop (fun s : Int × World => grapevinelaw12_WheelOnce_l6 p11 v109 s.1 s.2) (1, w178)) fun r192 => Sum.elim (fun (i : World) => u1 i fun w194 =>
  nret (.inl (v109, (IntKind.wrap .i64 (x93 + 1)), w194))) (fun (i : Bool × World) => u2 i fun v195 w196 =>
  nret (.inr (.inr (v195, w196)))) r192) (fun (i : Bool × World) => u2 i fun v133 w134 =>
  nret (.inr (.inr (v133, w134)))) r130))
  else
  (nret (.inr (.inl w104)))
noncomputable def grapevinelaw12_WheelOnce (a0 : Sl) (a1 : Sl) (w : World) : ND (Bool × World) :=
  lb3 (wheel_New 0 w) fun v1 v2 w3 =>
  cb2 (if (v2 != 0) = true then
  (nret (true, w3))
  else
  (nret ((v1.isNone), w3))) fun v5 w6 =>
  if v5 = true then
  (nret (false, w6))
  else
  (lb2 (mk w6 28 (List.replicate 65 (.int .i64 0))) fun p11 w12 =>
  cb1 (nloop (fun s : Int × World => grapevinelaw12_WheelOnce_l1 p11 s.1 s.2) (1, w12)) fun w18 =>
  cb1 (nloop (fun s : Int × World => grapevinelaw12_WheelOnce_l2 a0 v1 p11 s.1 s.2) (0, w18)) fun w30 =>
  cb1 (nloop (fun s : Int × Int × World => grapevinelaw12_WheelOnce_l3 a1 v1 p11 s.1 s.2.1 s.2.2) (0, 0, w30)) fun r95 => Sum.elim (fun (i : World) => u1 i fun w97 =>
  cb2 (cb2 (grapevinelaw12_live w97) fun v222 w223 =>
  if v222 = true then
  (lb2 (wheel_Wheel_Ids v1 w223) fun v226 w227 =>
  nret (((v226.n : Int) == 0), w227))
  else
  (nret (false, w223))) fun v218 w219 =>
  nret (v218, w219)) (fun (i : Bool × World) => u2 i fun v98 w99 =>
  nret (v98, w99)) r95)
set_option maxHeartbeats 1000000 in
set_option maxRecDepth 100000 in
theorem grapevinelaw12_WheelOnce_ok {a0 : Sl} {a1 : Sl} {w : World} {Q : Bool × World → Prop} (h : (grapevinelaw12_WheelOnce a0 a1 w).t Q) : Calls Try.prog 3 #[(Sl.v a0), (Sl.v a1)] w fun e w'' => ∃ i, e = .returned (.bool i.1) ∧ Q i ∧ w'' = i.2 := by
  refine calls_dec (n := 202) Try.func3 rfl Try.ntmps3 (by simp) fun a ha => ?_
  unfold grapevinelaw12_WheelOnce at h
  refine wp_seq <| region_lit <| qa ha rfl fun a ha => s_nil <| t_n <| wp_seq <| region_lit <| ?_
  obtain ⟨v1, v2, w3, e4, h⟩ := h
  refine q ha (d_call (xs := [_]) (vs := [(.int .i64 0)]) ha ⟨rfl, trivial⟩ Try.call15 (wheel_New_ok e4)) fun a ha => qm ha rfl fun a ha => q ha (d_ext ha rfl rfl) fun a ha => q ha (d_ext ha rfl rfl) fun a ha => qa ha rfl fun a ha => qa ha rfl fun a ha => s_nil <| t_n <| wp_seq <| wp_seq <| ?_
  refine reg_joinN (n := 202) (ι := Bool × World) (Lf := fun i => [(28, (.bool i.1)), (0, (Sl.v a0)), (1, (Sl.v a1)), (5, (.pointer v1))]) (wf := fun i => i.2) (un2 h) (fun i h a ha => ?_) (fun h hk8 => ?_)
  · obtain ⟨v5, w6⟩ := i
    have ha : Has 202 [(28, (.bool v5)), (0, (Sl.v a0)), (1, (Sl.v a1)), (5, (.pointer v1))] a := ha
    refine t_n <| ?_
    refine s_condN ha rfl h (fun b10 h => ?_) (fun b10 h => ?_)
    · refine wp_seq <| region_lit <| qa ha rfl fun a ha => s_nil <| t_n <| wp_ret <| t_r <| ?_
      have hS := ha
      exact ret1 Try.results3 hS rfl ⟨(false, w6), rfl, h, rfl⟩
    · refine wp_skip <| t_n <| wp_seq <| region_lit <| ?_
      obtain ⟨p11, w12, e13, h⟩ := h
      refine q ha (d_alloc Try.zeroValue28 (by kernel_rfl) e13) fun a ha => s_nil <| t_n <| wp_seq <| wp_seq <| region_lit <| qa ha rfl fun a ha => s_nil <| t_n <| wp_block <| ?_
      refine s_loopN1 (n := 202) (Lr := fun i => [(0, (Sl.v a0)), (1, (Sl.v a1)), (5, (.pointer v1)), (7, (.pointer (some p11)))]) (wr := fun i => i) (e := .exit 0) (I := fun (s : Int × World) a w => Has 202 [(8, (.int .i64 s.1)), (0, (Sl.v a0)), (1, (Sl.v a1)), (5, (.pointer v1)), (7, (.pointer (some p11)))] a ∧ w = s.2) (un1 h) ⟨ha.sub ⟨rfl, rfl, rfl, rfl, rfl, trivial⟩, rfl⟩ (fun i h a ha => ?_) (fun hk19 => ?_)
      · obtain ⟨w18, rfl⟩ : ∃ x, x = i := ⟨i, rfl⟩
        have ha : Has 202 [(0, (Sl.v a0)), (1, (Sl.v a1)), (5, (.pointer v1)), (7, (.pointer (some p11)))] a := ha
        refine b_hit <| t_n <| wp_seq <| wp_seq <| region_lit <| qa ha rfl fun a ha => s_nil <| t_n <| wp_block <| ?_
        refine s_loopN1 (n := 202) (Lr := fun i => [(1, (Sl.v a1)), (5, (.pointer v1)), (7, (.pointer (some p11)))]) (wr := fun i => i) (e := .exit 2) (I := fun (s : Int × World) a w => Has 202 [(9, (.int .i64 s.1)), (0, (Sl.v a0)), (1, (Sl.v a1)), (5, (.pointer v1)), (7, (.pointer (some p11)))] a ∧ w = s.2) (un1 h) ⟨ha.sub ⟨rfl, rfl, rfl, rfl, rfl, trivial⟩, rfl⟩ (fun i h a ha => ?_) (fun hk31 => ?_)
        · obtain ⟨w30, rfl⟩ : ∃ x, x = i := ⟨i, rfl⟩
          have ha : Has 202 [(1, (Sl.v a1)), (5, (.pointer v1)), (7, (.pointer (some p11)))] a := ha
          refine b_hit <| t_n <| wp_seq <| region_lit <| qa ha rfl fun a ha => s_nil <| t_n <| wp_seq <| wp_seq <| region_lit <| qa ha rfl fun a ha => s_nil <| t_n <| wp_block <| ?_
          refine s_loopN2 (n := 202) (L1 := fun i => [(5, (.pointer v1))]) (w1 := fun i => i) (L2 := fun i => [(4, (.bool i.1))]) (w2 := fun i => i.2) (e1 := .exit 5) (e2 := .ret) (I := fun (s : Int × Int × World) a w => Has 202 [(10, (.int .i64 s.1)), (11, (.int .i64 s.2.1)), (1, (Sl.v a1)), (5, (.pointer v1)), (7, (.pointer (some p11)))] a ∧ w = s.2.2) (un1 h) ⟨ha.sub ⟨rfl, rfl, rfl, rfl, rfl, trivial⟩, rfl⟩ (fun i h a ha => ?_) (fun i h a ha => ?_) (fun hk100 hk101 => ?_)
          · obtain ⟨w97, rfl⟩ : ∃ x, x = i := ⟨i, rfl⟩
            try dsimp only [Sum.elim_inl, Sum.elim_inr, u1, u2, u3, u4, u5, u6] at h
            have ha : Has 202 [(5, (.pointer v1))] a := ha
            refine b_hit <| t_n <| wp_seq <| ?_
            refine reg_joinN (n := 202) (ι := Bool × World) (Lf := fun i => [(4, (.bool i.1))]) (wf := fun i => i.2) (un2 h) (fun i h a ha => ?_) (fun h hk221 => ?_)
            · obtain ⟨v218, w219⟩ := i
              have ha : Has 202 [(4, (.bool v218))] a := ha
              refine t_n <| wp_ret <| ?_
              have hS := ha
              exact ret1 Try.results3 hS rfl ⟨(v218, w219), rfl, h, rfl⟩
            · refine region_lit <| ?_
              refine s_callN (ι := Bool × World) (pk := fun i => (.bool i.1)) (wf := fun i => i.2) (xs := []) (vs := []) ha trivial Try.call19 (grapevinelaw12_live_ok (un2 h)) (fun i h a ha => ?_)
              obtain ⟨v222, w223⟩ := i
              refine qm ha rfl fun a ha => ?_
              refine ite_n h (fun b225 h => ?_) (fun b225 h => ?_)
              · refine qg ha 196 b225 (d_move ha rfl) fun a ha => ?_
                obtain ⟨v226, w227, e228, h⟩ := h
                refine qg ha 196 b225 (d_call (xs := [_]) (vs := [(.pointer v1)]) ha ⟨rfl, trivial⟩ Try.call20 (wheel_Wheel_Ids_ok e228)) fun a ha => qg ha 196 b225 (d_lenS ha rfl Try.runUnderlying34) fun a ha => qg ha 196 b225 (d_eq ha rfl rfl) fun a ha => q ha (d_pick_t ha rfl b225 rfl) fun a ha => qa ha rfl fun a ha => s_nil <| ?_
                have hS : Has 202 [(4, (.bool ((v226.n : Int) == 0)))] _ := ha.sub ⟨rfl, trivial⟩
                exact hk221 (((v226.n : Int) == 0), w227) h _ hS
              · refine qn ha 196 (nn b225 _ rfl) fun a ha => qn ha 196 (nn b225 _ rfl) fun a ha => qn ha 196 (nn b225 _ rfl) fun a ha => qn ha 196 (nn b225 _ rfl) fun a ha => q ha (d_pick_f ha rfl b225 rfl) fun a ha => qa ha rfl fun a ha => s_nil <| ?_
                have hS : Has 202 [(4, (.bool false))] _ := ha.sub ⟨rfl, trivial⟩
                exact hk221 (false, w223) h _ hS
          · obtain ⟨v98, w99⟩ := i
            try dsimp only [Sum.elim_inl, Sum.elim_inr, u1, u2, u3, u4, u5, u6] at h
            have ha : Has 202 [(4, (.bool v98))] a := ha
            refine b_r <| t_r <| ?_
            have hS := ha
            exact ret1 Try.results3 hS rfl ⟨(v98, w99), rfl, h, rfl⟩
          · clear h
            intro hX229
            rintro ⟨x92, x93, w94⟩ a wq ⟨ha, hwq⟩ h
            obtain rfl : w94 = wq := hwq.symm
            have ha : Has 202 [(10, (.int .i64 x92)), (11, (.int .i64 x93)), (1, (Sl.v a1)), (5, (.pointer v1)), (7, (.pointer (some p11)))] a := ha
            have h : (grapevinelaw12_WheelOnce_l3 a1 v1 p11 x92 x93 w94).t _ := h
            unfold grapevinelaw12_WheelOnce_l3 at h
            refine wp_seq <| wp_seq <| ?_
            refine reg_joinN (n := 202) (ι := Bool × World) (Lf := fun i => [(99, (.bool i.1)), (1, (Sl.v a1)), (5, (.pointer v1)), (7, (.pointer (some p11))), (10, (.int .i64 x92)), (11, (.int .i64 x93))]) (wf := fun i => i.2) (un2 h) (fun i h a ha => ?_) (fun h hk106 => ?_)
            · obtain ⟨v103, w104⟩ := i
              have ha : Has 202 [(99, (.bool v103)), (1, (Sl.v a1)), (5, (.pointer v1)), (7, (.pointer (some p11))), (10, (.int .i64 x92)), (11, (.int .i64 x93))] a := ha
              refine t_n <| ?_
              refine s_condN ha rfl h (fun b108 h => ?_) (fun b108 h => ?_)
              · refine wp_skip <| t_n <| wp_seq <| wp_block <| wp_seq <| region_lit <| qm ha rfl fun a ha => qa ha rfl fun a ha => s_nil <| t_n <| ?_
                refine seq_joinN (n := 202) (ι := Int × World) (Lf := fun i => [(10, (.int .i64 i.1)), (1, (Sl.v a1)), (5, (.pointer v1)), (7, (.pointer (some p11))), (11, (.int .i64 x93)), (12, (.int .i64 x92))]) (wf := fun i => i.2) (un2 h) (fun i h a ha => ?_) (fun h hk112 => ?_)
                · obtain ⟨v109, w110⟩ := i
                  have ha : Has 202 [(10, (.int .i64 v109)), (1, (Sl.v a1)), (5, (.pointer v1)), (7, (.pointer (some p11))), (11, (.int .i64 x93)), (12, (.int .i64 x92))] a := ha
                  refine wp_seq <| region_lit <| qm ha rfl fun a ha => qm ha rfl fun a ha => ?_
                  refine s_callN (ι := Sl × Int × World) (pk := fun i => (.tuple #[(Sl.v i.1), (.int .i64 i.2.1)])) (wf := fun i => i.2.2) (xs := [_, _]) (vs := [(.pointer v1), (.int .i64 v109)]) ha ⟨rfl, rfl, trivial⟩ Try.call18 (wheel_Wheel_Advance_ok (un3 h)) (fun i h a ha => ?_)
                  obtain ⟨v123, v124, w125⟩ := i
                  refine qm ha rfl fun a ha => q ha (d_ext ha rfl rfl) fun a ha => q ha (d_ext ha rfl rfl) fun a ha => qa ha rfl fun a ha => qa ha rfl fun a ha => s_nil <| t_n <| wp_seq <| wp_seq <| region_lit <| qm ha rfl fun a ha => q ha (d_ne ha rfl rfl) fun a ha => s_nil <| t_n <| ?_
                  refine s_condN ha rfl h (fun b127 h => ?_) (fun b127 h => ?_)
                  · refine wp_seq <| region_lit <| qa ha rfl fun a ha => s_nil <| t_n <| wp_ret <| t_r <| b_r <| t_r <| ?_
                    have hS : Has 202 [(4, (.bool false))] _ := ha.sub ⟨rfl, trivial⟩
                    refine t_r <| ?_
                    exact hk101 (false, w125) h _ hS
                  · refine wp_skip <| t_n <| wp_seq <| wp_seq <| region_lit <| qa ha rfl fun a ha => s_nil <| t_n <| wp_block <| ?_
                    refine s_loopN2 (n := 202) (L1 := fun i => [(1, (Sl.v a1)), (5, (.pointer v1)), (7, (.pointer (some p11))), (10, (.int .i64 v109)), (11, (.int .i64 x93)), (13, (Sl.v v123))]) (w1 := fun i => i) (L2 := fun i => [(4, (.bool i.1))]) (w2 := fun i => i.2) (e1 := .exit 7) (e2 := .ret) (I := fun (s : Int × World) a w => Has 202 [(15, (.int .i64 s.1)), (1, (Sl.v a1)), (5, (.pointer v1)), (7, (.pointer (some p11))), (10, (.int .i64 v109)), (11, (.int .i64 x93)), (12, (.int .i64 x92)), (13, (Sl.v v123))] a ∧ w = s.2) (un1 h) ⟨ha.sub ⟨rfl, rfl, rfl, rfl, rfl, rfl, rfl, rfl, trivial⟩, rfl⟩ (fun i h a ha => ?_) (fun i h a ha => ?_) (fun hk135 hk136 => ?_)
                    · obtain ⟨w132, rfl⟩ : ∃ x, x = i := ⟨i, rfl⟩
                      try dsimp only [Sum.elim_inl, Sum.elim_inr, u1, u2, u3, u4, u5, u6] at h
                      have ha : Has 202 [(1, (Sl.v a1)), (5, (.pointer v1)), (7, (.pointer (some p11))), (10, (.int .i64 v109)), (11, (.int .i64 x93)), (13, (Sl.v v123))] a := ha
                      refine b_hit <| t_n <| wp_seq <| wp_seq <| region_lit <| qa ha rfl fun a ha => s_nil <| t_n <| wp_block <| ?_
                      refine s_loopN1 (n := 202) (Lr := fun i => [(1, (Sl.v a1)), (5, (.pointer v1)), (7, (.pointer (some p11))), (10, (.int .i64 v109)), (11, (.int .i64 x93))]) (wr := fun i => i) (e := .exit 9) (I := fun (s : Int × World) a w => Has 202 [(17, (.int .i64 s.1)), (1, (Sl.v a1)), (5, (.pointer v1)), (7, (.pointer (some p11))), (10, (.int .i64 v109)), (11, (.int .i64 x93)), (13, (Sl.v v123))] a ∧ w = s.2) (un1 h) ⟨ha.sub ⟨rfl, rfl, rfl, rfl, rfl, rfl, rfl, trivial⟩, rfl⟩ (fun i h a ha => ?_) (fun hk179 => ?_)
                      · obtain ⟨w178, rfl⟩ : ∃ x, x = i := ⟨i, rfl⟩
                        have ha : Has 202 [(1, (Sl.v a1)), (5, (.pointer v1)), (7, (.pointer (some p11))), (10, (.int .i64 v109)), (11, (.int .i64 x93))] a := ha
                        refine b_hit <| t_n <| wp_seq <| region_lit <| qa ha rfl fun a ha => s_nil <| t_n <| wp_block <| ?_
                        refine s_loopN2 (n := 202) (L1 := fun i => [(1, (Sl.v a1)), (5, (.pointer v1)), (7, (.pointer (some p11))), (10, (.int .i64 v109)), (11, (.int .i64 x93))]) (w1 := fun i => i) (L2 := fun i => [(4, (.bool i.1))]) (w2 := fun i => i.2) (e1 := .exit 11) (e2 := .ret) (I := fun (s : Int × World) a w => Has 202 [(18, (.int .i64 s.1)), (1, (Sl.v a1)), (5, (.pointer v1)), (7, (.pointer (some p11))), (10, (.int .i64 v109)), (11, (.int .i64 x93))] a ∧ w = s.2) (un1 h) ⟨ha.sub ⟨rfl, rfl, rfl, rfl, rfl, rfl, trivial⟩, rfl⟩ (fun i h a ha => ?_) (fun i h a ha => ?_) (fun hk197 hk198 => ?_)
                        · obtain ⟨w194, rfl⟩ : ∃ x, x = i := ⟨i, rfl⟩
                          try dsimp only [Sum.elim_inl, Sum.elim_inr, u1, u2, u3, u4, u5, u6] at h
                          have ha : Has 202 [(1, (Sl.v a1)), (5, (.pointer v1)), (7, (.pointer (some p11))), (10, (.int .i64 v109)), (11, (.int .i64 x93))] a := ha
                          refine b_hit <| b_n <| t_n <| region_lit <| qm ha rfl fun a ha => q ha (d_add ha rfl rfl) fun a ha => qa ha rfl fun a ha => s_nil <| ?_
                          have hS : Has 202 [(10, (.int .i64 v109)), (11, (.int .i64 (IntKind.wrap .i64 (x93 + 1)))), (1, (Sl.v a1)), (5, (.pointer v1)), (7, (.pointer (some p11)))] _ := ha.sub ⟨rfl, rfl, rfl, rfl, rfl, trivial⟩
                          exact ⟨(v109, (IntKind.wrap .i64 (x93 + 1)), w194), ⟨hS, rfl⟩, h⟩
                        · obtain ⟨v195, w196⟩ := i
                          try dsimp only [Sum.elim_inl, Sum.elim_inr, u1, u2, u3, u4, u5, u6] at h
                          have ha : Has 202 [(4, (.bool v195))] a := ha
                          refine b_r <| b_r <| t_r <| ?_
                          have hS : Has 202 [(4, (.bool v195))] _ := ha.sub ⟨rfl, trivial⟩
                          refine t_r <| ?_
                          exact hk101 (v195, w196) h _ hS
                        · clear h
                          intro hX215
                          rintro ⟨x190, w191⟩ a wq ⟨ha, hwq⟩ h
                          obtain rfl : w191 = wq := hwq.symm
                          have ha : Has 202 [(18, (.int .i64 x190)), (1, (Sl.v a1)), (5, (.pointer v1)), (7, (.pointer (some p11))), (10, (.int .i64 v109)), (11, (.int .i64 x93))] a := ha
                          have h : (grapevinelaw12_WheelOnce_l6 p11 v109 x190 w191).t _ := h
                          unfold grapevinelaw12_WheelOnce_l6 at h
                          refine wp_seq <| wp_seq <| region_lit <| qm ha rfl fun a ha => q ha (d_le ha rfl rfl) fun a ha => s_nil <| t_n <| ?_
                          refine s_condN ha rfl h (fun b200 h => ?_) (fun b200 h => ?_)
                          · refine wp_skip <| t_n <| wp_seq <| wp_block <| wp_seq <| ?_
                            refine reg_joinN (n := 202) (ι := Bool × World) (Lf := fun i => [(194, (.bool i.1)), (1, (Sl.v a1)), (5, (.pointer v1)), (7, (.pointer (some p11))), (10, (.int .i64 v109)), (11, (.int .i64 x93)), (18, (.int .i64 x190))]) (wf := fun i => i.2) (un2 h) (fun i h a ha => ?_) (fun h hk204 => ?_)
                            · obtain ⟨v201, w202⟩ := i
                              have ha : Has 202 [(194, (.bool v201)), (1, (Sl.v a1)), (5, (.pointer v1)), (7, (.pointer (some p11))), (10, (.int .i64 v109)), (11, (.int .i64 x93)), (18, (.int .i64 x190))] a := ha
                              refine t_n <| ?_
                              refine s_condN ha rfl h (fun b214 h => ?_) (fun b214 h => ?_)
                              · refine wp_seq <| region_lit <| qa ha rfl fun a ha => s_nil <| t_n <| wp_ret <| b_r <| t_r <| ?_
                                have hS : Has 202 [(4, (.bool false))] _ := ha.sub ⟨rfl, trivial⟩
                                refine t_r <| ?_
                                exact hk198 (false, w202) h _ hS
                              · refine wp_skip <| b_n <| t_n <| region_lit <| qm ha rfl fun a ha => q ha (d_add ha rfl rfl) fun a ha => qa ha rfl fun a ha => s_nil <| ?_
                                have hS : Has 202 [(18, (.int .i64 (IntKind.wrap .i64 (x190 + 1)))), (1, (Sl.v a1)), (5, (.pointer v1)), (7, (.pointer (some p11))), (10, (.int .i64 v109)), (11, (.int .i64 x93))] _ := ha.sub ⟨rfl, rfl, rfl, rfl, rfl, rfl, trivial⟩
                                exact ⟨((IntKind.wrap .i64 (x190 + 1)), w202), ⟨hS, rfl⟩, h⟩
                            · refine region_lit <| qm ha rfl fun a ha => ?_
                              obtain ⟨p205, e206, h⟩ := h
                              refine q ha (d_ixA ha rfl rfl Try.runUnderlying28 Try.sizeOf3 e206) fun a ha => ?_
                              obtain ⟨v207, e208, h⟩ := h
                              refine q ha (d_ld ha rfl Try.isAgg3 (ldI_c e208)) fun a ha => q ha (d_ge ha rfl rfl) fun a ha => qm ha rfl fun a ha => ?_
                              refine ite_n h (fun b209 h => ?_) (fun b209 h => ?_)
                              · refine qg ha 188 b209 (d_move ha rfl) fun a ha => ?_
                                obtain ⟨p210, e211, h⟩ := h
                                refine qg ha 188 b209 (d_ixA ha rfl rfl Try.runUnderlying28 Try.sizeOf3 e211) fun a ha => ?_
                                obtain ⟨v212, e213, h⟩ := h
                                refine qg ha 188 b209 (d_ld ha rfl Try.isAgg3 (ldI_c e213)) fun a ha => qg ha 188 b209 (d_move ha rfl) fun a ha => qg ha 188 b209 (d_le ha rfl rfl) fun a ha => q ha (d_pick_t ha rfl b209 rfl) fun a ha => s_nil <| ?_
                                have hS : Has 202 [(194, (.bool (decide (v212 ≤ v109)))), (1, (Sl.v a1)), (5, (.pointer v1)), (7, (.pointer (some p11))), (10, (.int .i64 v109)), (11, (.int .i64 x93)), (18, (.int .i64 x190))] _ := ha.sub ⟨rfl, rfl, rfl, rfl, rfl, rfl, rfl, trivial⟩
                                exact hk204 ((decide (v212 ≤ v109)), w191) h _ hS
                              · refine qn ha 188 (nn b209 _ rfl) fun a ha => qn ha 188 (nn b209 _ rfl) fun a ha => qn ha 188 (nn b209 _ rfl) fun a ha => qn ha 188 (nn b209 _ rfl) fun a ha => qn ha 188 (nn b209 _ rfl) fun a ha => q ha (d_pick_f ha rfl b209 rfl) fun a ha => s_nil <| ?_
                                have hS : Has 202 [(194, (.bool false)), (1, (Sl.v a1)), (5, (.pointer v1)), (7, (.pointer (some p11))), (10, (.int .i64 v109)), (11, (.int .i64 x93)), (18, (.int .i64 x190))] _ := ha.sub ⟨rfl, rfl, rfl, rfl, rfl, rfl, rfl, trivial⟩
                                exact hk204 (false, w191) h _ hS
                          · refine wp_exit <| t_x <| ?_
                            have hS : Has 202 [(1, (Sl.v a1)), (5, (.pointer v1)), (7, (.pointer (some p11))), (10, (.int .i64 v109)), (11, (.int .i64 x93))] _ := ha.sub ⟨rfl, rfl, rfl, rfl, rfl, trivial⟩
                            refine t_x <| ?_
                            exact hk197 w191 h _ hS
                      · clear h
                        intro hX216
                        rintro ⟨x174, w175⟩ a wq ⟨ha, hwq⟩ h
                        obtain rfl : w175 = wq := hwq.symm
                        have ha : Has 202 [(17, (.int .i64 x174)), (1, (Sl.v a1)), (5, (.pointer v1)), (7, (.pointer (some p11))), (10, (.int .i64 v109)), (11, (.int .i64 x93)), (13, (Sl.v v123))] a := ha
                        have h : (grapevinelaw12_WheelOnce_l5 v123 p11 x174 w175).t _ := h
                        unfold grapevinelaw12_WheelOnce_l5 at h
                        refine wp_seq <| wp_seq <| region_lit <| qm ha rfl fun a ha => qm ha rfl fun a ha => q ha (d_lenS ha rfl Try.runUnderlying34) fun a ha => q ha (d_lt ha rfl rfl) fun a ha => s_nil <| t_n <| ?_
                        refine s_condN ha rfl h (fun b181 h => ?_) (fun b181 h => ?_)
                        · refine wp_skip <| t_n <| wp_seq <| wp_block <| region_lit <| qm ha rfl fun a ha => qm ha rfl fun a ha => ?_
                          obtain ⟨p182, e183, h⟩ := h
                          refine q ha (d_ix ha rfl rfl Try.runUnderlying34 Try.sizeOf3 e183) fun a ha => ?_
                          obtain ⟨v184, e185, h⟩ := h
                          refine q ha (d_ld ha rfl Try.isAgg3 (ldI_c e185)) fun a ha => ?_
                          obtain ⟨p186, e187, h⟩ := h
                          refine q ha (d_ixA ha rfl rfl Try.runUnderlying28 Try.sizeOf3 e187) fun a ha => ?_
                          obtain ⟨w188, e189, h⟩ := h
                          refine q ha (d_st ha rfl rfl Try.sizeOf3 e189) fun a ha => s_nil <| b_n <| t_n <| region_lit <| qm ha rfl fun a ha => q ha (d_add ha rfl rfl) fun a ha => qa ha rfl fun a ha => s_nil <| ?_
                          have hS : Has 202 [(17, (.int .i64 (IntKind.wrap .i64 (x174 + 1)))), (1, (Sl.v a1)), (5, (.pointer v1)), (7, (.pointer (some p11))), (10, (.int .i64 v109)), (11, (.int .i64 x93)), (13, (Sl.v v123))] _ := ha.sub ⟨rfl, rfl, rfl, rfl, rfl, rfl, rfl, trivial⟩
                          exact ⟨((IntKind.wrap .i64 (x174 + 1)), w188), ⟨hS, rfl⟩, h⟩
                        · refine wp_exit <| t_x <| ?_
                          have hS : Has 202 [(1, (Sl.v a1)), (5, (.pointer v1)), (7, (.pointer (some p11))), (10, (.int .i64 v109)), (11, (.int .i64 x93))] _ := ha.sub ⟨rfl, rfl, rfl, rfl, rfl, trivial⟩
                          refine t_x <| ?_
                          exact hk179 w175 h _ hS
                    · obtain ⟨v133, w134⟩ := i
                      try dsimp only [Sum.elim_inl, Sum.elim_inr, u1, u2, u3, u4, u5, u6] at h
                      have ha : Has 202 [(4, (.bool v133))] a := ha
                      refine b_r <| t_r <| b_r <| t_r <| ?_
                      have hS : Has 202 [(4, (.bool v133))] _ := ha.sub ⟨rfl, trivial⟩
                      refine t_r <| ?_
                      exact hk101 (v133, w134) h _ hS
                    · clear h
                      intro hX217
                      rintro ⟨x128, w129⟩ a wq ⟨ha, hwq⟩ h
                      obtain rfl : w129 = wq := hwq.symm
                      have ha : Has 202 [(15, (.int .i64 x128)), (1, (Sl.v a1)), (5, (.pointer v1)), (7, (.pointer (some p11))), (10, (.int .i64 v109)), (11, (.int .i64 x93)), (12, (.int .i64 x92)), (13, (Sl.v v123))] a := ha
                      have h : (grapevinelaw12_WheelOnce_l4 v123 p11 v109 x93 x92 x128 w129).t _ := h
                      unfold grapevinelaw12_WheelOnce_l4 at h
                      refine wp_seq <| wp_seq <| region_lit <| qm ha rfl fun a ha => qm ha rfl fun a ha => q ha (d_lenS ha rfl Try.runUnderlying34) fun a ha => q ha (d_lt ha rfl rfl) fun a ha => s_nil <| t_n <| ?_
                      refine s_condN ha rfl h (fun b138 h => ?_) (fun b138 h => ?_)
                      · refine wp_skip <| t_n <| wp_seq <| wp_block <| wp_seq <| region_lit <| qm ha rfl fun a ha => qm ha rfl fun a ha => ?_
                        obtain ⟨p139, e140, h⟩ := h
                        refine q ha (d_ix ha rfl rfl Try.runUnderlying34 Try.sizeOf3 e140) fun a ha => ?_
                        obtain ⟨v141, e142, h⟩ := h
                        refine q ha (d_ld ha rfl Try.isAgg3 (ldI_c e142)) fun a ha => ?_
                        obtain ⟨p143, e144, h⟩ := h
                        refine q ha (d_ixA ha rfl rfl Try.runUnderlying28 Try.sizeOf3 e144) fun a ha => ?_
                        obtain ⟨v145, e146, h⟩ := h
                        refine q ha (d_ld ha rfl Try.isAgg3 (ldI_c e146)) fun a ha => qa ha rfl fun a ha => s_nil <| t_n <| wp_seq <| ?_
                        refine reg_joinN (n := 202) (ι := Bool × World) (Lf := fun i => [(168, (.bool i.1)), (1, (Sl.v a1)), (5, (.pointer v1)), (7, (.pointer (some p11))), (10, (.int .i64 v109)), (11, (.int .i64 x93)), (12, (.int .i64 x92)), (13, (Sl.v v123)), (15, (.int .i64 x128))]) (wf := fun i => i.2) (un2 h) (fun i h a ha => ?_) (fun h hk150 => ?_)
                        · obtain ⟨v147, w148⟩ := i
                          have ha : Has 202 [(168, (.bool v147)), (1, (Sl.v a1)), (5, (.pointer v1)), (7, (.pointer (some p11))), (10, (.int .i64 v109)), (11, (.int .i64 x93)), (12, (.int .i64 x92)), (13, (Sl.v v123)), (15, (.int .i64 x128))] a := ha
                          refine t_n <| ?_
                          refine s_condN ha rfl h (fun b173 h => ?_) (fun b173 h => ?_)
                          · refine wp_seq <| region_lit <| qa ha rfl fun a ha => s_nil <| t_n <| wp_ret <| b_r <| t_r <| ?_
                            have hS : Has 202 [(4, (.bool false))] _ := ha.sub ⟨rfl, trivial⟩
                            refine t_r <| ?_
                            exact hk136 (false, w148) h _ hS
                          · refine wp_skip <| b_n <| t_n <| region_lit <| qm ha rfl fun a ha => q ha (d_add ha rfl rfl) fun a ha => qa ha rfl fun a ha => s_nil <| ?_
                            have hS : Has 202 [(15, (.int .i64 (IntKind.wrap .i64 (x128 + 1)))), (1, (Sl.v a1)), (5, (.pointer v1)), (7, (.pointer (some p11))), (10, (.int .i64 v109)), (11, (.int .i64 x93)), (12, (.int .i64 x92)), (13, (Sl.v v123))] _ := ha.sub ⟨rfl, rfl, rfl, rfl, rfl, rfl, rfl, rfl, trivial⟩
                            exact ⟨((IntKind.wrap .i64 (x128 + 1)), w148), ⟨hS, rfl⟩, h⟩
                        · refine region_lit <| qm ha rfl fun a ha => q ha (d_lt ha rfl rfl) fun a ha => qm ha rfl fun a ha => ?_
                          refine ite_n h (fun b151 h => ?_) (fun b151 h => ?_)
                          · refine qn ha 140 (tn b151) fun a ha => qn ha 140 (tn b151) fun a ha => qn ha 140 (tn b151) fun a ha => q ha (d_pick_t ha rfl b151 rfl) fun a ha => qm ha rfl fun a ha => qn ha 145 (tn rfl) fun a ha => qn ha 145 (tn rfl) fun a ha => qn ha 145 (tn rfl) fun a ha => qu ha 148 fun a ha => qu ha 148 fun a ha => qu ha 148 fun a ha => qn ha 145 (tn rfl) fun a ha => q ha (d_pick_t ha rfl rfl rfl) fun a ha => qm ha rfl fun a ha => qn ha 154 (tn rfl) fun a ha => qn ha 154 (tn rfl) fun a ha => qn ha 154 (tn rfl) fun a ha => qu ha 157 fun a ha => qu ha 157 fun a ha => qu ha 157 fun a ha => qu ha 157 fun a ha => qu ha 157 fun a ha => qu ha 157 fun a ha => qu ha 157 fun a ha => qu ha 157 fun a ha => qu ha 157 fun a ha => qn ha 154 (tn rfl) fun a ha => q ha (d_pick_t ha rfl rfl rfl) fun a ha => s_nil <| ?_
                            have hS : Has 202 [(168, (.bool true)), (1, (Sl.v a1)), (5, (.pointer v1)), (7, (.pointer (some p11))), (10, (.int .i64 v109)), (11, (.int .i64 x93)), (12, (.int .i64 x92)), (13, (Sl.v v123)), (15, (.int .i64 x128))] _ := ha.sub ⟨rfl, rfl, rfl, rfl, rfl, rfl, rfl, rfl, rfl, trivial⟩
                            exact hk150 (true, w129) h _ hS
                          · refine qg ha 140 (nt b151) (d_move ha rfl) fun a ha => qg ha 140 (nt b151) (d_move ha rfl) fun a ha => qg ha 140 (nt b151) (d_gt ha rfl rfl) fun a ha => q ha (d_pick_f ha rfl b151 rfl) fun a ha => qm ha rfl fun a ha => ?_
                            refine ite_n h (fun b152 h => ?_) (fun b152 h => ?_)
                            · refine qn ha 145 (tn b152) fun a ha => qn ha 145 (tn b152) fun a ha => qn ha 145 (tn b152) fun a ha => qu ha 148 fun a ha => qu ha 148 fun a ha => qu ha 148 fun a ha => qn ha 145 (tn b152) fun a ha => q ha (d_pick_t ha rfl b152 rfl) fun a ha => qm ha rfl fun a ha => qn ha 154 (tn rfl) fun a ha => qn ha 154 (tn rfl) fun a ha => qn ha 154 (tn rfl) fun a ha => qu ha 157 fun a ha => qu ha 157 fun a ha => qu ha 157 fun a ha => qu ha 157 fun a ha => qu ha 157 fun a ha => qu ha 157 fun a ha => qu ha 157 fun a ha => qu ha 157 fun a ha => qu ha 157 fun a ha => qn ha 154 (tn rfl) fun a ha => q ha (d_pick_t ha rfl rfl rfl) fun a ha => s_nil <| ?_
                              have hS : Has 202 [(168, (.bool true)), (1, (Sl.v a1)), (5, (.pointer v1)), (7, (.pointer (some p11))), (10, (.int .i64 v109)), (11, (.int .i64 x93)), (12, (.int .i64 x92)), (13, (Sl.v v123)), (15, (.int .i64 x128))] _ := ha.sub ⟨rfl, rfl, rfl, rfl, rfl, rfl, rfl, rfl, rfl, trivial⟩
                              exact hk150 (true, w129) h _ hS
                            · refine qg ha 145 (nt b152) (d_move ha rfl) fun a ha => qg ha 145 (nt b152) (d_gt ha rfl rfl) fun a ha => qg ha 145 (nt b152) (d_move ha rfl) fun a ha => ?_
                              refine ite_n h (fun b153 h => ?_) (fun b153 h => ?_)
                              · refine qg ha 148 b153 (d_move ha rfl) fun a ha => qg ha 148 b153 (d_move ha rfl) fun a ha => qg ha 148 b153 (d_le ha rfl rfl) fun a ha => qg ha 145 (nt b152) (d_pick_t ha rfl b153 rfl) fun a ha => q ha (d_pick_f ha rfl b152 rfl) fun a ha => qm ha rfl fun a ha => ?_
                                refine ite_n h (fun b154 h => ?_) (fun b154 h => ?_)
                                · refine qn ha 154 (tn b154) fun a ha => qn ha 154 (tn b154) fun a ha => qn ha 154 (tn b154) fun a ha => qu ha 157 fun a ha => qu ha 157 fun a ha => qu ha 157 fun a ha => qu ha 157 fun a ha => qu ha 157 fun a ha => qu ha 157 fun a ha => qu ha 157 fun a ha => qu ha 157 fun a ha => qu ha 157 fun a ha => qn ha 154 (tn b154) fun a ha => q ha (d_pick_t ha rfl b154 rfl) fun a ha => s_nil <| ?_
                                  have hS : Has 202 [(168, (.bool true)), (1, (Sl.v a1)), (5, (.pointer v1)), (7, (.pointer (some p11))), (10, (.int .i64 v109)), (11, (.int .i64 x93)), (12, (.int .i64 x92)), (13, (Sl.v v123)), (15, (.int .i64 x128))] _ := ha.sub ⟨rfl, rfl, rfl, rfl, rfl, rfl, rfl, rfl, rfl, trivial⟩
                                  exact hk150 (true, w129) h _ hS
                                · refine qg ha 154 (nt b154) (d_move ha rfl) fun a ha => qg ha 154 (nt b154) (d_gt ha rfl rfl) fun a ha => qg ha 154 (nt b154) (d_move ha rfl) fun a ha => ?_
                                  refine ite_n h (fun b155 h => ?_) (fun b155 h => ?_)
                                  · refine qg ha 157 b155 (d_move ha rfl) fun a ha => qg ha 157 b155 (d_move ha rfl) fun a ha => qg ha 157 b155 (d_sub ha rfl rfl) fun a ha => ?_
                                    obtain ⟨p156, e157, h⟩ := h
                                    refine qg ha 157 b155 (d_ix ha rfl rfl Try.runUnderlying34 Try.sizeOf3 e157) fun a ha => ?_
                                    obtain ⟨v158, e159, h⟩ := h
                                    refine qg ha 157 b155 (d_ld ha rfl Try.isAgg3 (ldI_c e159)) fun a ha => ?_
                                    obtain ⟨p160, e161, h⟩ := h
                                    refine qg ha 157 b155 (d_ixA ha rfl rfl Try.runUnderlying28 Try.sizeOf3 e161) fun a ha => ?_
                                    obtain ⟨v162, e163, h⟩ := h
                                    refine qg ha 157 b155 (d_ld ha rfl Try.isAgg3 (ldI_c e163)) fun a ha => qg ha 157 b155 (d_move ha rfl) fun a ha => qg ha 157 b155 (d_gt ha rfl rfl) fun a ha => qg ha 154 (nt b154) (d_pick_t ha rfl b155 rfl) fun a ha => q ha (d_pick_f ha rfl b154 rfl) fun a ha => s_nil <| ?_
                                    have hS : Has 202 [(168, (.bool (decide (v145 < v162)))), (1, (Sl.v a1)), (5, (.pointer v1)), (7, (.pointer (some p11))), (10, (.int .i64 v109)), (11, (.int .i64 x93)), (12, (.int .i64 x92)), (13, (Sl.v v123)), (15, (.int .i64 x128))] _ := ha.sub ⟨rfl, rfl, rfl, rfl, rfl, rfl, rfl, rfl, rfl, trivial⟩
                                    exact hk150 ((decide (v145 < v162)), w129) h _ hS
                                  · refine qn ha 157 (nn b155 _ rfl) fun a ha => qn ha 157 (nn b155 _ rfl) fun a ha => qn ha 157 (nn b155 _ rfl) fun a ha => qn ha 157 (nn b155 _ rfl) fun a ha => qn ha 157 (nn b155 _ rfl) fun a ha => qn ha 157 (nn b155 _ rfl) fun a ha => qn ha 157 (nn b155 _ rfl) fun a ha => qn ha 157 (nn b155 _ rfl) fun a ha => qn ha 157 (nn b155 _ rfl) fun a ha => qg ha 154 (nt b154) (d_pick_f ha rfl b155 rfl) fun a ha => q ha (d_pick_f ha rfl b154 rfl) fun a ha => s_nil <| ?_
                                    have hS : Has 202 [(168, (.bool false)), (1, (Sl.v a1)), (5, (.pointer v1)), (7, (.pointer (some p11))), (10, (.int .i64 v109)), (11, (.int .i64 x93)), (12, (.int .i64 x92)), (13, (Sl.v v123)), (15, (.int .i64 x128))] _ := ha.sub ⟨rfl, rfl, rfl, rfl, rfl, rfl, rfl, rfl, rfl, trivial⟩
                                    exact hk150 (false, w129) h _ hS
                              · refine qn ha 148 (nn b153 _ rfl) fun a ha => qn ha 148 (nn b153 _ rfl) fun a ha => qn ha 148 (nn b153 _ rfl) fun a ha => qg ha 145 (nt b152) (d_pick_f ha rfl b153 rfl) fun a ha => q ha (d_pick_f ha rfl b152 rfl) fun a ha => qm ha rfl fun a ha => qg ha 154 (nt Bool.false_ne_true) (d_move ha rfl) fun a ha => qg ha 154 (nt Bool.false_ne_true) (d_gt ha rfl rfl) fun a ha => qg ha 154 (nt Bool.false_ne_true) (d_move ha rfl) fun a ha => ?_
                                refine ite_n h (fun b164 h => ?_) (fun b164 h => ?_)
                                · refine qg ha 157 b164 (d_move ha rfl) fun a ha => qg ha 157 b164 (d_move ha rfl) fun a ha => qg ha 157 b164 (d_sub ha rfl rfl) fun a ha => ?_
                                  obtain ⟨p165, e166, h⟩ := h
                                  refine qg ha 157 b164 (d_ix ha rfl rfl Try.runUnderlying34 Try.sizeOf3 e166) fun a ha => ?_
                                  obtain ⟨v167, e168, h⟩ := h
                                  refine qg ha 157 b164 (d_ld ha rfl Try.isAgg3 (ldI_c e168)) fun a ha => ?_
                                  obtain ⟨p169, e170, h⟩ := h
                                  refine qg ha 157 b164 (d_ixA ha rfl rfl Try.runUnderlying28 Try.sizeOf3 e170) fun a ha => ?_
                                  obtain ⟨v171, e172, h⟩ := h
                                  refine qg ha 157 b164 (d_ld ha rfl Try.isAgg3 (ldI_c e172)) fun a ha => qg ha 157 b164 (d_move ha rfl) fun a ha => qg ha 157 b164 (d_gt ha rfl rfl) fun a ha => qg ha 154 (nt Bool.false_ne_true) (d_pick_t ha rfl b164 rfl) fun a ha => q ha (d_pick_f ha rfl Bool.false_ne_true rfl) fun a ha => s_nil <| ?_
                                  have hS : Has 202 [(168, (.bool (decide (v145 < v171)))), (1, (Sl.v a1)), (5, (.pointer v1)), (7, (.pointer (some p11))), (10, (.int .i64 v109)), (11, (.int .i64 x93)), (12, (.int .i64 x92)), (13, (Sl.v v123)), (15, (.int .i64 x128))] _ := ha.sub ⟨rfl, rfl, rfl, rfl, rfl, rfl, rfl, rfl, rfl, trivial⟩
                                  exact hk150 ((decide (v145 < v171)), w129) h _ hS
                                · refine qn ha 157 (nn b164 _ rfl) fun a ha => qn ha 157 (nn b164 _ rfl) fun a ha => qn ha 157 (nn b164 _ rfl) fun a ha => qn ha 157 (nn b164 _ rfl) fun a ha => qn ha 157 (nn b164 _ rfl) fun a ha => qn ha 157 (nn b164 _ rfl) fun a ha => qn ha 157 (nn b164 _ rfl) fun a ha => qn ha 157 (nn b164 _ rfl) fun a ha => qn ha 157 (nn b164 _ rfl) fun a ha => qg ha 154 (nt Bool.false_ne_true) (d_pick_f ha rfl b164 rfl) fun a ha => q ha (d_pick_f ha rfl Bool.false_ne_true rfl) fun a ha => s_nil <| ?_
                                  have hS : Has 202 [(168, (.bool false)), (1, (Sl.v a1)), (5, (.pointer v1)), (7, (.pointer (some p11))), (10, (.int .i64 v109)), (11, (.int .i64 x93)), (12, (.int .i64 x92)), (13, (Sl.v v123)), (15, (.int .i64 x128))] _ := ha.sub ⟨rfl, rfl, rfl, rfl, rfl, rfl, rfl, rfl, rfl, trivial⟩
                                  exact hk150 (false, w129) h _ hS
                      · refine wp_exit <| t_x <| ?_
                        have hS : Has 202 [(1, (Sl.v a1)), (5, (.pointer v1)), (7, (.pointer (some p11))), (10, (.int .i64 v109)), (11, (.int .i64 x93)), (13, (Sl.v v123))] _ := ha.sub ⟨rfl, rfl, rfl, rfl, rfl, rfl, trivial⟩
                        refine t_x <| ?_
                        exact hk135 w129 h _ hS
                · refine wp_seq <| ?_
                  refine reg_joinN (n := 202) (ι := Bool × World) (Lf := fun i => [(110, (.bool i.1)), (1, (Sl.v a1)), (5, (.pointer v1)), (7, (.pointer (some p11))), (10, (.int .i64 x92)), (11, (.int .i64 x93)), (12, (.int .i64 x92))]) (wf := fun i => i.2) (un2 h) (fun i h a ha => ?_) (fun h hk116 => ?_)
                  · obtain ⟨v113, w114⟩ := i
                    have ha : Has 202 [(110, (.bool v113)), (1, (Sl.v a1)), (5, (.pointer v1)), (7, (.pointer (some p11))), (10, (.int .i64 x92)), (11, (.int .i64 x93)), (12, (.int .i64 x92))] a := ha
                    refine t_n <| ?_
                    refine s_condN ha rfl h (fun b118 h => ?_) (fun b118 h => ?_)
                    · refine region_lit <| qm ha rfl fun a ha => qm ha rfl fun a ha => qm ha rfl fun a ha => ?_
                      obtain ⟨p119, e120, h⟩ := h
                      refine q ha (d_ix ha rfl rfl Try.runUnderlying23 Try.sizeOf33 e120) fun a ha => ?_
                      obtain ⟨v121, e122, h⟩ := h
                      refine q ha (d_ld ha rfl Try.isAgg33 (ldI_c e122)) fun a ha => q ha (d_conv ha rfl Try.runUnderlying33 Try.runUnderlying3) fun a ha => q ha (d_add ha rfl rfl) fun a ha => qa ha rfl fun a ha => s_nil <| ?_
                      have hS : Has 202 [(10, (.int .i64 (IntKind.wrap .i64 (x92 + (IntKind.wrap .i64 v121))))), (1, (Sl.v a1)), (5, (.pointer v1)), (7, (.pointer (some p11))), (11, (.int .i64 x93)), (12, (.int .i64 x92))] _ := ha.sub ⟨rfl, rfl, rfl, rfl, rfl, rfl, trivial⟩
                      exact hk112 ((IntKind.wrap .i64 (x92 + (IntKind.wrap .i64 v121))), w114) h _ hS
                    · refine region_lit <| qa ha rfl fun a ha => s_nil <| ?_
                      have hS : Has 202 [(10, (.int .i64 1099511627776)), (1, (Sl.v a1)), (5, (.pointer v1)), (7, (.pointer (some p11))), (11, (.int .i64 x93)), (12, (.int .i64 x92))] _ := ha.sub ⟨rfl, rfl, rfl, rfl, rfl, rfl, trivial⟩
                      exact hk112 (1099511627776, w114) h _ hS
                  · refine region_lit <| qm ha rfl fun a ha => qm ha rfl fun a ha => q ha (d_lenS ha rfl Try.runUnderlying23) fun a ha => q ha (d_lt ha rfl rfl) fun a ha => qm ha rfl fun a ha => ?_
                    refine ite_n h (fun b117 h => ?_) (fun b117 h => ?_)
                    · refine qg ha 107 b117 (d_move ha rfl) fun a ha => qg ha 107 b117 (d_lt ha rfl rfl) fun a ha => q ha (d_pick_t ha rfl b117 rfl) fun a ha => s_nil <| ?_
                      have hS : Has 202 [(110, (.bool (decide (x93 < 200)))), (1, (Sl.v a1)), (5, (.pointer v1)), (7, (.pointer (some p11))), (10, (.int .i64 x92)), (11, (.int .i64 x93)), (12, (.int .i64 x92))] _ := ha.sub ⟨rfl, rfl, rfl, rfl, rfl, rfl, rfl, trivial⟩
                      exact hk116 ((decide (x93 < 200)), w104) h _ hS
                    · refine qn ha 107 (nn b117 _ rfl) fun a ha => qn ha 107 (nn b117 _ rfl) fun a ha => q ha (d_pick_f ha rfl b117 rfl) fun a ha => s_nil <| ?_
                      have hS : Has 202 [(110, (.bool false)), (1, (Sl.v a1)), (5, (.pointer v1)), (7, (.pointer (some p11))), (10, (.int .i64 x92)), (11, (.int .i64 x93)), (12, (.int .i64 x92))] _ := ha.sub ⟨rfl, rfl, rfl, rfl, rfl, rfl, rfl, trivial⟩
                      exact hk116 (false, w104) h _ hS
              · refine wp_exit <| t_x <| ?_
                have hS : Has 202 [(5, (.pointer v1))] _ := ha.sub ⟨rfl, trivial⟩
                refine t_x <| ?_
                exact hk100 w104 h _ hS
            · refine region_lit <| qm ha rfl fun a ha => qm ha rfl fun a ha => q ha (d_lenS ha rfl Try.runUnderlying23) fun a ha => q ha (d_le ha rfl rfl) fun a ha => qm ha rfl fun a ha => ?_
              refine ite_n h (fun b107 h => ?_) (fun b107 h => ?_)
              · refine qg ha 96 b107 (d_move ha rfl) fun a ha => qg ha 96 b107 (d_le ha rfl rfl) fun a ha => q ha (d_pick_t ha rfl b107 rfl) fun a ha => s_nil <| ?_
                have hS : Has 202 [(99, (.bool (decide (x93 ≤ 200)))), (1, (Sl.v a1)), (5, (.pointer v1)), (7, (.pointer (some p11))), (10, (.int .i64 x92)), (11, (.int .i64 x93))] _ := ha.sub ⟨rfl, rfl, rfl, rfl, rfl, rfl, trivial⟩
                exact hk106 ((decide (x93 ≤ 200)), w94) h _ hS
              · refine qn ha 96 (nn b107 _ rfl) fun a ha => qn ha 96 (nn b107 _ rfl) fun a ha => q ha (d_pick_f ha rfl b107 rfl) fun a ha => s_nil <| ?_
                have hS : Has 202 [(99, (.bool false)), (1, (Sl.v a1)), (5, (.pointer v1)), (7, (.pointer (some p11))), (10, (.int .i64 x92)), (11, (.int .i64 x93))] _ := ha.sub ⟨rfl, rfl, rfl, rfl, rfl, rfl, trivial⟩
                exact hk106 (false, w94) h _ hS
        · clear h
          intro hX230
          rintro ⟨x26, w27⟩ a wq ⟨ha, hwq⟩ h
          obtain rfl : w27 = wq := hwq.symm
          have ha : Has 202 [(9, (.int .i64 x26)), (0, (Sl.v a0)), (1, (Sl.v a1)), (5, (.pointer v1)), (7, (.pointer (some p11)))] a := ha
          have h : (grapevinelaw12_WheelOnce_l2 a0 v1 p11 x26 w27).t _ := h
          unfold grapevinelaw12_WheelOnce_l2 at h
          refine wp_seq <| wp_seq <| ?_
          refine reg_joinN (n := 202) (ι := Bool × World) (Lf := fun i => [(42, (.bool i.1)), (0, (Sl.v a0)), (1, (Sl.v a1)), (5, (.pointer v1)), (7, (.pointer (some p11))), (9, (.int .i64 x26))]) (wf := fun i => i.2) (un2 h) (fun i h a ha => ?_) (fun h hk36 => ?_)
          · obtain ⟨v33, w34⟩ := i
            have ha : Has 202 [(42, (.bool v33)), (0, (Sl.v a0)), (1, (Sl.v a1)), (5, (.pointer v1)), (7, (.pointer (some p11))), (9, (.int .i64 x26))] a := ha
            refine t_n <| ?_
            refine s_condN ha rfl h (fun b38 h => ?_) (fun b38 h => ?_)
            · refine wp_skip <| t_n <| ?_
              refine seq_joinN (n := 202) (ι := World) (Lf := fun i => [(0, (Sl.v a0)), (1, (Sl.v a1)), (5, (.pointer v1)), (7, (.pointer (some p11))), (9, (.int .i64 x26))]) (wf := fun i => i) (un1 h) (fun i h a ha => ?_) (fun h hk41 => ?_)
              · obtain ⟨w39, rfl⟩ : ∃ x, x = i := ⟨i, rfl⟩
                have ha : Has 202 [(0, (Sl.v a0)), (1, (Sl.v a1)), (5, (.pointer v1)), (7, (.pointer (some p11))), (9, (.int .i64 x26))] a := ha
                refine region_lit <| qm ha rfl fun a ha => q ha (d_add ha rfl rfl) fun a ha => qa ha rfl fun a ha => s_nil <| ?_
                have hS : Has 202 [(9, (.int .i64 (IntKind.wrap .i64 (x26 + 1)))), (0, (Sl.v a0)), (1, (Sl.v a1)), (5, (.pointer v1)), (7, (.pointer (some p11)))] _ := ha.sub ⟨rfl, rfl, rfl, rfl, rfl, trivial⟩
                exact ⟨((IntKind.wrap .i64 (x26 + 1)), w39), ⟨hS, rfl⟩, h⟩
              · refine wp_block <| wp_seq <| region_lit <| qm ha rfl fun a ha => qm ha rfl fun a ha => ?_
                obtain ⟨p42, e43, h⟩ := h
                refine q ha (d_ix ha rfl rfl Try.runUnderlying22 Try.sizeOf30 e43) fun a ha => q ha (d_fa ha rfl Try.runUnderlying30 rfl rfl Try.sizeOf3 (by decide)) fun a ha => ?_
                obtain ⟨v44, e45, h⟩ := h
                refine q ha (d_ld ha rfl Try.isAgg3 (ldI_c e45)) fun a ha => s_nil <| t_n <| wp_block <| wp_seq <| region_lit <| q ha (d_eq ha rfl rfl) fun a ha => qa ha rfl fun a ha => s_nil <| t_n <| ?_
                refine s_condN ha rfl h (fun b46 h => ?_) (fun b46 h => ?_)
                · refine wp_seq <| ?_
                  obtain ⟨w47, e48, h⟩ := h
                  obtain ⟨p49, e50, h⟩ := h
                  obtain ⟨v51, e52, h⟩ := h
                  obtain ⟨p53, e54, h⟩ := h
                  obtain ⟨v55, e56, h⟩ := h
                  obtain ⟨v57, w58, e59, h⟩ := h
                  have ha : Has 202 [(0, (Sl.v a0)), (1, (Sl.v a1)), (5, (.pointer v1)), (7, (.pointer (some p11))), (9, (.int .i64 x26)), (49, (.int .i64 v44)), (50, (.bool (v44 == 0)))] a := ha.sub ⟨rfl, rfl, rfl, rfl, rfl, rfl, rfl, trivial⟩
                  refine region_draw (n := 202) (ds := (⟨_, (.pointer v1), false, 0, 0, [], [(5, (.pointer v1))]⟩ :: ⟨_, (Sl.v a0), false, 0, 0, [], [(0, (Sl.v a0))]⟩ :: ⟨_, (.int .i64 x26), false, 0, 0, [], [(9, (.int .i64 x26))]⟩ :: ⟨_, (.pointer (some p49)), false, 0, 0, [1, 2], [(53, (Sl.v a0)), (54, (.int .i64 x26))]⟩ :: ⟨_, (.pointer (some (p49.add 1))), false, 0, 0, [1, 2, 3], [(55, (.pointer (some p49)))]⟩ :: ⟨_, (.int .i64 v51), false, 0, 0, [1, 2, 3, 4], [(56, (.pointer (some (p49.add 1))))]⟩ :: ⟨_, (Sl.v a0), false, 0, 0, [], [(0, (Sl.v a0))]⟩ :: ⟨_, (.int .i64 x26), false, 0, 0, [], [(9, (.int .i64 x26))]⟩ :: ⟨_, (.pointer (some p53)), false, 0, 0, [6, 7], [(58, (Sl.v a0)), (59, (.int .i64 x26))]⟩ :: ⟨_, (.pointer (some (p53.add 2))), false, 0, 0, [6, 7, 8], [(60, (.pointer (some p53)))]⟩ :: ⟨_, (.int .i64 v55), false, 0, 0, [6, 7, 8, 9], [(61, (.pointer (some (p53.add 2))))]⟩ :: ⟨_, (.int .i64 v57), true, 0, 0, [0, 1, 2, 3, 4, 5, 6, 7, 8, 9, 10], [(52, (.pointer v1)), (57, (.int .i64 v51)), (62, (.int .i64 v55))]⟩ :: ⟨_, (.bool (v57 == 0)), false, 1, 1, [0, 1, 2, 3, 4, 5, 6, 7, 8, 9, 10, 11], [(63, (.int .i64 v57))]⟩ :: [])) (W := (fun j => match j with | 0 => w47 | 1 => w58 | _ => w58)) (by kernel_rfl) ha (dr_w e48) (by kernel_rfl) ?_ (reads_of (by kernel_rfl)) (by kernel_rfl) (m := 1) (by kernel_rfl) (fun a ha => ?_)
                  · refine ⟨?_, ?_, ?_, ?_, ?_, ?_, ?_, ?_, ?_, ?_, ?_, ?_, ?_, trivial⟩
                    · exact oa fun j a ha => d_move ha rfl
                    · exact oa fun j a ha => d_move ha rfl
                    · exact oa fun j a ha => d_move ha rfl
                    · exact oa fun j a ha => d_ix ha rfl rfl Try.runUnderlying22 Try.sizeOf30 e50
                    · exact oa fun j a ha => d_fa ha rfl Try.runUnderlying30 rfl rfl Try.sizeOf3 (by decide)
                    · exact oc 0 (ok_do rfl fun a ha => d_ld ha rfl Try.isAgg3 (ldI_c e52))
                    · exact oa fun j a ha => d_move ha rfl
                    · exact oa fun j a ha => d_move ha rfl
                    · exact oa fun j a ha => d_ix ha rfl rfl Try.runUnderlying22 Try.sizeOf30 e54
                    · exact oa fun j a ha => d_fa ha rfl Try.runUnderlying30 rfl rfl Try.sizeOf3 (by decide)
                    · exact oc 0 (ok_do rfl fun a ha => d_ld ha rfl Try.isAgg3 (ldI_c e56))
                    · exact oc 0 (ok_do rfl fun a ha => d_call (xs := [_, _, _]) (vs := [(.pointer v1), (.int .i64 v51), (.int .i64 v55)]) ha ⟨rfl, rfl, rfl, trivial⟩ Try.call16 (wheel_Wheel_Set_ok e59))
                    · exact oa fun j a ha => d_eq ha rfl rfl
                  · have ha : Has 202 [(0, (Sl.v a0)), (1, (Sl.v a1)), (5, (.pointer v1)), (7, (.pointer (some p11))), (9, (.int .i64 x26)), (64, (.bool (v57 == 0)))] a := ha.sub ⟨rfl, rfl, rfl, rfl, rfl, rfl, trivial⟩
                    refine t_n <| ?_
                    refine s_condN ha rfl h (fun b60 h => ?_) (fun b60 h => ?_)
                    · obtain ⟨w61, e62, h⟩ := h
                      obtain ⟨p63, e64, h⟩ := h
                      obtain ⟨v65, e66, h⟩ := h
                      obtain ⟨p67, e68, h⟩ := h
                      obtain ⟨v69, e70, h⟩ := h
                      obtain ⟨p71, e72, h⟩ := h
                      obtain ⟨w73, e74, h⟩ := h
                      have ha : Has 202 [(0, (Sl.v a0)), (1, (Sl.v a1)), (5, (.pointer v1)), (7, (.pointer (some p11))), (9, (.int .i64 x26)), (64, (.bool (v57 == 0)))] a := ha.sub ⟨rfl, rfl, rfl, rfl, rfl, rfl, trivial⟩
                      refine region_draw (n := 202) (ds := (⟨_, (Sl.v a0), false, 0, 0, [], [(0, (Sl.v a0))]⟩ :: ⟨_, (.int .i64 x26), false, 0, 0, [], [(9, (.int .i64 x26))]⟩ :: ⟨_, (.pointer (some p63)), false, 0, 0, [0, 1], [(65, (Sl.v a0)), (66, (.int .i64 x26))]⟩ :: ⟨_, (.pointer (some (p63.add 1))), false, 0, 0, [0, 1, 2], [(67, (.pointer (some p63)))]⟩ :: ⟨_, (.int .i64 v65), false, 0, 0, [0, 1, 2, 3], [(68, (.pointer (some (p63.add 1))))]⟩ :: ⟨_, (Sl.v a0), false, 0, 0, [], [(0, (Sl.v a0))]⟩ :: ⟨_, (.int .i64 x26), false, 0, 0, [], [(9, (.int .i64 x26))]⟩ :: ⟨_, (.pointer (some p67)), false, 0, 0, [5, 6], [(70, (Sl.v a0)), (71, (.int .i64 x26))]⟩ :: ⟨_, (.pointer (some (p67.add 2))), false, 0, 0, [5, 6, 7], [(72, (.pointer (some p67)))]⟩ :: ⟨_, (.int .i64 v69), false, 0, 0, [5, 6, 7, 8], [(73, (.pointer (some (p67.add 2))))]⟩ :: ⟨_, (.pointer (some p71)), false, 0, 0, [0, 1, 2, 3, 4, 5, 6, 7, 8, 9], [(7, (.pointer (some p11))), (69, (.int .i64 v65))]⟩ :: ⟨_, undef, true, 0, 0, [0, 1, 2, 3, 4, 5, 6, 7, 8, 9, 10], [(75, (.pointer (some p71))), (74, (.int .i64 v69))]⟩ :: [])) (W := (fun j => match j with | 0 => w61 | 1 => w73 | _ => w73)) (by kernel_rfl) ha (dr_w e62) (by kernel_rfl) ?_ (reads_of (by kernel_rfl)) (by kernel_rfl) (m := 1) (by kernel_rfl) (fun a ha => ?_)
                      · refine ⟨?_, ?_, ?_, ?_, ?_, ?_, ?_, ?_, ?_, ?_, ?_, ?_, trivial⟩
                        · exact oa fun j a ha => d_move ha rfl
                        · exact oa fun j a ha => d_move ha rfl
                        · exact oa fun j a ha => d_ix ha rfl rfl Try.runUnderlying22 Try.sizeOf30 e64
                        · exact oa fun j a ha => d_fa ha rfl Try.runUnderlying30 rfl rfl Try.sizeOf3 (by decide)
                        · exact oc 0 (ok_do rfl fun a ha => d_ld ha rfl Try.isAgg3 (ldI_c e66))
                        · exact oa fun j a ha => d_move ha rfl
                        · exact oa fun j a ha => d_move ha rfl
                        · exact oa fun j a ha => d_ix ha rfl rfl Try.runUnderlying22 Try.sizeOf30 e68
                        · exact oa fun j a ha => d_fa ha rfl Try.runUnderlying30 rfl rfl Try.sizeOf3 (by decide)
                        · exact oc 0 (ok_do rfl fun a ha => d_ld ha rfl Try.isAgg3 (ldI_c e70))
                        · exact oa fun j a ha => d_ixA ha rfl rfl Try.runUnderlying28 Try.sizeOf3 e72
                        · exact oc 0 (ok_do rfl fun a ha => d_st ha rfl rfl Try.sizeOf3 e74)
                      · have ha : Has 202 [(0, (Sl.v a0)), (1, (Sl.v a1)), (5, (.pointer v1)), (7, (.pointer (some p11))), (9, (.int .i64 x26))] a := ha.sub ⟨rfl, rfl, rfl, rfl, rfl, trivial⟩
                        refine b_n <| b_n <| ?_
                        have hS : Has 202 [(0, (Sl.v a0)), (1, (Sl.v a1)), (5, (.pointer v1)), (7, (.pointer (some p11))), (9, (.int .i64 x26))] _ := ha.sub ⟨rfl, rfl, rfl, rfl, rfl, trivial⟩
                        exact hk41 w73 h _ hS
                    · refine wp_skip <| b_n <| b_n <| ?_
                      have hS : Has 202 [(0, (Sl.v a0)), (1, (Sl.v a1)), (5, (.pointer v1)), (7, (.pointer (some p11))), (9, (.int .i64 x26))] _ := ha.sub ⟨rfl, rfl, rfl, rfl, rfl, trivial⟩
                      exact hk41 w58 h _ hS
                · refine wp_seq <| region_lit <| q ha (d_eq ha rfl rfl) fun a ha => qa ha rfl fun a ha => s_nil <| t_n <| ?_
                  refine s_condN ha rfl h (fun b75 h => ?_) (fun b75 h => ?_)
                  · refine wp_seq <| region_lit <| qm ha rfl fun a ha => qm ha rfl fun a ha => qm ha rfl fun a ha => ?_
                    obtain ⟨p76, e77, h⟩ := h
                    refine q ha (d_ix ha rfl rfl Try.runUnderlying22 Try.sizeOf30 e77) fun a ha => q ha (d_fa ha rfl Try.runUnderlying30 rfl rfl Try.sizeOf3 (by decide)) fun a ha => ?_
                    obtain ⟨v78, e79, h⟩ := h
                    refine q ha (d_ld ha rfl Try.isAgg3 (ldI_c e79)) fun a ha => ?_
                    obtain ⟨v80, w81, e82, h⟩ := h
                    refine q ha (d_call (xs := [_, _]) (vs := [(.pointer v1), (.int .i64 v78)]) ha ⟨rfl, rfl, trivial⟩ Try.call17 (wheel_Wheel_Drop_ok e82)) fun a ha => q ha (d_eq ha rfl rfl) fun a ha => s_nil <| t_n <| ?_
                    refine s_condN ha rfl h (fun b83 h => ?_) (fun b83 h => ?_)
                    · refine region_lit <| qm ha rfl fun a ha => qm ha rfl fun a ha => ?_
                      obtain ⟨p84, e85, h⟩ := h
                      refine q ha (d_ix ha rfl rfl Try.runUnderlying22 Try.sizeOf30 e85) fun a ha => q ha (d_fa ha rfl Try.runUnderlying30 rfl rfl Try.sizeOf3 (by decide)) fun a ha => ?_
                      obtain ⟨v86, e87, h⟩ := h
                      refine q ha (d_ld ha rfl Try.isAgg3 (ldI_c e87)) fun a ha => ?_
                      obtain ⟨p88, e89, h⟩ := h
                      refine q ha (d_ixA ha rfl rfl Try.runUnderlying28 Try.sizeOf3 e89) fun a ha => ?_
                      obtain ⟨w90, e91, h⟩ := h
                      refine q ha (d_st ha rfl rfl Try.sizeOf3 e91) fun a ha => s_nil <| b_n <| b_n <| ?_
                      have hS : Has 202 [(0, (Sl.v a0)), (1, (Sl.v a1)), (5, (.pointer v1)), (7, (.pointer (some p11))), (9, (.int .i64 x26))] _ := ha.sub ⟨rfl, rfl, rfl, rfl, rfl, trivial⟩
                      exact hk41 w90 h _ hS
                    · refine wp_skip <| b_n <| b_n <| ?_
                      have hS : Has 202 [(0, (Sl.v a0)), (1, (Sl.v a1)), (5, (.pointer v1)), (7, (.pointer (some p11))), (9, (.int .i64 x26))] _ := ha.sub ⟨rfl, rfl, rfl, rfl, rfl, trivial⟩
                      exact hk41 w81 h _ hS
                  · refine wp_skip <| b_n <| b_n <| ?_
                    have hS : Has 202 [(0, (Sl.v a0)), (1, (Sl.v a1)), (5, (.pointer v1)), (7, (.pointer (some p11))), (9, (.int .i64 x26))] _ := ha.sub ⟨rfl, rfl, rfl, rfl, rfl, trivial⟩
                    exact hk41 w34 h _ hS
            · refine wp_exit <| t_x <| ?_
              have hS : Has 202 [(1, (Sl.v a1)), (5, (.pointer v1)), (7, (.pointer (some p11)))] _ := ha.sub ⟨rfl, rfl, rfl, trivial⟩
              refine t_x <| ?_
              exact hk31 w34 h _ hS
          · refine region_lit <| qm ha rfl fun a ha => qm ha rfl fun a ha => q ha (d_lenS ha rfl Try.runUnderlying22) fun a ha => q ha (d_lt ha rfl rfl) fun a ha => qm ha rfl fun a ha => ?_
            refine ite_n h (fun b37 h => ?_) (fun b37 h => ?_)
            · refine qg ha 39 b37 (d_move ha rfl) fun a ha => qg ha 39 b37 (d_lt ha rfl rfl) fun a ha => q ha (d_pick_t ha rfl b37 rfl) fun a ha => s_nil <| ?_
              have hS : Has 202 [(42, (.bool (decide (x26 < 300)))), (0, (Sl.v a0)), (1, (Sl.v a1)), (5, (.pointer v1)), (7, (.pointer (some p11))), (9, (.int .i64 x26))] _ := ha.sub ⟨rfl, rfl, rfl, rfl, rfl, rfl, trivial⟩
              exact hk36 ((decide (x26 < 300)), w27) h _ hS
            · refine qn ha 39 (nn b37 _ rfl) fun a ha => qn ha 39 (nn b37 _ rfl) fun a ha => q ha (d_pick_f ha rfl b37 rfl) fun a ha => s_nil <| ?_
              have hS : Has 202 [(42, (.bool false)), (0, (Sl.v a0)), (1, (Sl.v a1)), (5, (.pointer v1)), (7, (.pointer (some p11))), (9, (.int .i64 x26))] _ := ha.sub ⟨rfl, rfl, rfl, rfl, rfl, rfl, trivial⟩
              exact hk36 (false, w27) h _ hS
      · clear h
        intro hX231
        rintro ⟨x14, w15⟩ a wq ⟨ha, hwq⟩ h
        obtain rfl : w15 = wq := hwq.symm
        have ha : Has 202 [(8, (.int .i64 x14)), (0, (Sl.v a0)), (1, (Sl.v a1)), (5, (.pointer v1)), (7, (.pointer (some p11)))] a := ha
        have h : (grapevinelaw12_WheelOnce_l1 p11 x14 w15).t _ := h
        unfold grapevinelaw12_WheelOnce_l1 at h
        refine wp_seq <| wp_seq <| region_lit <| qm ha rfl fun a ha => q ha (d_le ha rfl rfl) fun a ha => s_nil <| t_n <| ?_
        refine s_condN ha rfl h (fun b21 h => ?_) (fun b21 h => ?_)
        · refine wp_skip <| t_n <| wp_seq <| wp_block <| region_lit <| qm ha rfl fun a ha => ?_
          obtain ⟨p22, e23, h⟩ := h
          refine q ha (d_ixA ha rfl rfl Try.runUnderlying28 Try.sizeOf3 e23) fun a ha => ?_
          obtain ⟨w24, e25, h⟩ := h
          refine q ha (d_st ha rfl rfl Try.sizeOf3 e25) fun a ha => s_nil <| b_n <| t_n <| region_lit <| qm ha rfl fun a ha => q ha (d_add ha rfl rfl) fun a ha => qa ha rfl fun a ha => s_nil <| ?_
          have hS : Has 202 [(8, (.int .i64 (IntKind.wrap .i64 (x14 + 1)))), (0, (Sl.v a0)), (1, (Sl.v a1)), (5, (.pointer v1)), (7, (.pointer (some p11)))] _ := ha.sub ⟨rfl, rfl, rfl, rfl, rfl, trivial⟩
          exact ⟨((IntKind.wrap .i64 (x14 + 1)), w24), ⟨hS, rfl⟩, h⟩
        · refine wp_exit <| t_x <| ?_
          have hS : Has 202 [(0, (Sl.v a0)), (1, (Sl.v a1)), (5, (.pointer v1)), (7, (.pointer (some p11)))] _ := ha.sub ⟨rfl, rfl, rfl, rfl, trivial⟩
          refine t_x <| ?_
          exact hk19 w15 h _ hS
  · refine region_lit <| qm ha rfl fun a ha => q ha (d_ne ha rfl rfl) fun a ha => qm ha rfl fun a ha => ?_
    refine ite_n h (fun b9 h => ?_) (fun b9 h => ?_)
    · refine qn ha 25 (tn b9) fun a ha => qn ha 25 (tn b9) fun a ha => q ha (d_pick_t ha rfl b9 rfl) fun a ha => s_nil <| ?_
      have hS : Has 202 [(28, (.bool true)), (0, (Sl.v a0)), (1, (Sl.v a1)), (5, (.pointer v1))] _ := ha.sub ⟨rfl, rfl, rfl, rfl, trivial⟩
      exact hk8 (true, w3) h _ hS
    · refine qg ha 25 (nt b9) (d_move ha rfl) fun a ha => qg ha 25 (nt b9) (d_eqN ha rfl rfl Try.runUnderlying24) fun a ha => q ha (d_pick_f ha rfl b9 rfl) fun a ha => s_nil <| ?_
      have hS : Has 202 [(28, (.bool (v1.isNone))), (0, (Sl.v a0)), (1, (Sl.v a1)), (5, (.pointer v1))] _ := ha.sub ⟨rfl, rfl, rfl, rfl, trivial⟩
      exact hk8 ((v1.isNone), w3) h _ hS

noncomputable def grapevinelaw12_do (a0 : Option Addr) (a1 : Option Addr) (a2 : List Value) (w : World) : ND (Bool × World) :=
  lb2 (mk w 30 a2) fun p1 w2 =>
  lb1 (ldI .i64 w2 (p1.add 2)) fun v4 =>
  cbX (lb1 (ldI .i64 w2 (p1.add 0)) fun v13 =>
  if (v13 == 0) = true then
  (lb1 (dr w2) fun w16 =>
  lb1 (ldI .i64 w16 (p1.add 1)) fun v18 =>
  lb2 (wheel_Wheel_Set a0 v18 v4 w16) fun v20 w21 =>
  lb1 (ldI .i64 w21 (p1.add 1)) fun v23 =>
  lb2 (grapevineref12_Wheel_Set a1 v23 v4 w21) fun v25 w26 =>
  nck (ldI .i64 w16 (p1.add 1) = some v23) <|
  cb1 (nret ((v20 == v25), w26)) fun g12 => nret (.inl g12))
  else
  (if (v13 == 1) = true then
  (lb1 (dr w2) fun w31 =>
  lb1 (ldI .i64 w31 (p1.add 1)) fun v33 =>
  lb2 (wheel_Wheel_Drop a0 v33 w31) fun v35 w36 =>
  lb1 (ldI .i64 w36 (p1.add 1)) fun v38 =>
  lb2 (grapevineref12_Wheel_Drop a1 v38 w36) fun v40 w41 =>
  nck (ldI .i64 w31 (p1.add 1) = some v38) <|
  cb1 (nret ((v35 == v40), w41)) fun g12 => nret (.inl g12))
  else
  (if (v13 == 3) = true then
  (lb3 (grapevineref12_Wheel_Next a1 w2) fun v46 v47 w48 =>
  lb1 (a1) fun p50 =>
  lb1 (ldI .i64 w48 (p50.add 0)) fun v52 =>
  cb2 (if v47 = true then
  (nret ((decide (v52 < v46)), w48))
  else
  (nret (false, w48))) fun v54 w55 =>
  if v54 = true then
  (nret (.inr (v46, w55)))
  else
  (nret (.inr (v52, w55))))
  else
  (if (v13 == 2) = true then
  (nret (.inr (v4, w2)))
  else
  (lb1 (dr w2) fun w61 =>
  lb2 (wheel_Wheel_Now a0 w61) fun v63 w64 =>
  lb1 (a1) fun p66 =>
  lb1 (ldI .i64 w64 (p66.add 0)) fun v68 =>
  nck (ldI .i64 w61 (p66.add 0) = some v68) <|
  cb1 (nret ((v63 == v68), w64)) fun g12 => nret (.inl g12)))))) fun (i : Int × World) => u2 i fun v6 w7 =>
  cb3 (wheel_Wheel_Advance a0 v6 w7) fun v72 v73 w74 =>
  lb3 (grapevineref12_Wheel_Advance a1 v6 w74) fun v76 v77 w78 =>
  cb2 (lb2 (grapevineref12_Same v72 v76 w78) fun v84 w85 =>
  if v84 = true then
  (nret ((v73 == v77), w85))
  else
  (nret (false, w85))) fun v80 w81 =>
  nret (v80, w81)
set_option maxHeartbeats 1000000 in
set_option maxRecDepth 100000 in
theorem grapevinelaw12_do_ok {a0 : Option Addr} {a1 : Option Addr} {a2 : List Value} {w : World} {Q : Bool × World → Prop} (h : (grapevinelaw12_do a0 a1 a2 w).t Q) : Calls Try.prog 28 #[(.pointer a0), (.pointer a1), (.agg (List.toArray a2))] w fun e w'' => ∃ i, e = .returned (.bool i.1) ∧ Q i ∧ w'' = i.2 := by
  refine calls_dec (n := 89) Try.func28 rfl Try.ntmps28 (by simp) fun a ha => ?_
  unfold grapevinelaw12_do at h
  refine wp_seq <| region_lit <| ?_
  obtain ⟨p1, w2, e3, h⟩ := h
  refine q ha (d_box ha rfl rfl e3) fun a ha => qa ha rfl fun a ha => s_nil <| t_n <| wp_seq <| region_lit <| q ha (d_fa ha rfl Try.runUnderlying30 rfl rfl Try.sizeOf3 (by decide)) fun a ha => ?_
  obtain ⟨v4, e5, h⟩ := h
  refine q ha (d_ld ha rfl Try.isAgg3 (ldI_c e5)) fun a ha => qa ha rfl fun a ha => s_nil <| t_n <| ?_
  refine seq_joinNX (n := 89) (ι := Int × World) (Lf := fun i => [(7, (.int .i64 i.1)), (0, (.pointer a0)), (1, (.pointer a1))]) (wf := fun i => i.2) (unX h) (fun i h a ha => ?_) (fun h hk11 => ?_)
  · obtain ⟨v6, w7⟩ := i
    try dsimp only [Sum.elim_inl, Sum.elim_inr, u1, u2, u3, u4, u5, u6] at h
    have ha : Has 89 [(7, (.int .i64 v6)), (0, (.pointer a0)), (1, (.pointer a1))] a := ha
    refine wp_seq <| region_lit <| qm ha rfl fun a ha => qm ha rfl fun a ha => ?_
    refine s_callN (ι := Sl × Int × World) (pk := fun i => (.tuple #[(Sl.v i.1), (.int .i64 i.2.1)])) (wf := fun i => i.2.2) (xs := [_, _]) (vs := [(.pointer a0), (.int .i64 v6)]) ha ⟨rfl, rfl, trivial⟩ Try.call18 (wheel_Wheel_Advance_ok (un3 h)) (fun i h a ha => ?_)
    obtain ⟨v72, v73, w74⟩ := i
    refine qm ha rfl fun a ha => q ha (d_ext ha rfl rfl) fun a ha => q ha (d_ext ha rfl rfl) fun a ha => qa ha rfl fun a ha => qa ha rfl fun a ha => s_nil <| t_n <| wp_seq <| region_lit <| qm ha rfl fun a ha => qm ha rfl fun a ha => ?_
    obtain ⟨v76, v77, w78, e79, h⟩ := h
    refine q ha (d_call (xs := [_, _]) (vs := [(.pointer a1), (.int .i64 v6)]) ha ⟨rfl, rfl, trivial⟩ Try.call66 (grapevineref12_Wheel_Advance_ok e79)) fun a ha => qm ha rfl fun a ha => q ha (d_ext ha rfl rfl) fun a ha => q ha (d_ext ha rfl rfl) fun a ha => qa ha rfl fun a ha => qa ha rfl fun a ha => s_nil <| t_n <| wp_seq <| ?_
    refine reg_joinN (n := 89) (ι := Bool × World) (Lf := fun i => [(6, (.bool i.1))]) (wf := fun i => i.2) (un2 h) (fun i h a ha => ?_) (fun h hk83 => ?_)
    · obtain ⟨v80, w81⟩ := i
      have ha : Has 89 [(6, (.bool v80))] a := ha
      refine t_n <| wp_ret <| ?_
      have hS := ha
      exact ret1 Try.results28 hS rfl ⟨(v80, w81), rfl, h, rfl⟩
    · refine region_lit <| qm ha rfl fun a ha => qm ha rfl fun a ha => ?_
      obtain ⟨v84, w85, e86, h⟩ := h
      refine q ha (d_call (xs := [_, _]) (vs := [(Sl.v v72), (Sl.v v76)]) ha ⟨rfl, rfl, trivial⟩ Try.call24 (grapevineref12_Same_ok e86)) fun a ha => qm ha rfl fun a ha => ?_
      refine ite_n h (fun b87 h => ?_) (fun b87 h => ?_)
      · refine qg ha 84 b87 (d_move ha rfl) fun a ha => qg ha 84 b87 (d_move ha rfl) fun a ha => qg ha 84 b87 (d_eq ha rfl rfl) fun a ha => q ha (d_pick_t ha rfl b87 rfl) fun a ha => qa ha rfl fun a ha => s_nil <| ?_
        have hS : Has 89 [(6, (.bool (v73 == v77)))] _ := ha.sub ⟨rfl, trivial⟩
        exact hk83 ((v73 == v77), w85) h _ hS
      · refine qn ha 84 (nn b87 _ rfl) fun a ha => qn ha 84 (nn b87 _ rfl) fun a ha => qn ha 84 (nn b87 _ rfl) fun a ha => q ha (d_pick_f ha rfl b87 rfl) fun a ha => qa ha rfl fun a ha => s_nil <| ?_
        have hS : Has 89 [(6, (.bool false))] _ := ha.sub ⟨rfl, trivial⟩
        exact hk83 (false, w85) h _ hS
  · refine wp_seq <| region_lit <| q ha (d_fa ha rfl Try.runUnderlying30 rfl rfl Try.sizeOf3 (by decide)) fun a ha => ?_
    obtain ⟨v13, e14, h⟩ := h
    refine q ha (d_ld ha rfl Try.isAgg3 (ldI_c e14)) fun a ha => s_nil <| t_n <| wp_block <| wp_seq <| region_lit <| q ha (d_eq ha rfl rfl) fun a ha => qa ha rfl fun a ha => s_nil <| t_n <| ?_
    refine s_condN ha rfl h (fun b15 h => ?_) (fun b15 h => ?_)
    · refine wp_seq <| ?_
      obtain ⟨w16, e17, h⟩ := h
      obtain ⟨v18, e19, h⟩ := h
      obtain ⟨v20, w21, e22, h⟩ := h
      obtain ⟨v23, e24, h⟩ := h
      obtain ⟨v25, w26, e27, h⟩ := h
      obtain ⟨e28, h⟩ := h
      have ha : Has 89 [(0, (.pointer a0)), (1, (.pointer a1)), (5, (.pointer (some p1))), (7, (.int .i64 v4)), (17, (.int .i64 v13)), (25, (.bool (v13 == 0)))] a := ha.sub ⟨rfl, rfl, rfl, rfl, rfl, rfl, trivial⟩
      refine region_draw (n := 89) (ds := (⟨_, (.pointer a0), false, 0, 0, [], [(0, (.pointer a0))]⟩ :: ⟨_, (.pointer (some (p1.add 1))), false, 0, 0, [], [(5, (.pointer (some p1)))]⟩ :: ⟨_, (.int .i64 v18), false, 0, 0, [1], [(28, (.pointer (some (p1.add 1))))]⟩ :: ⟨_, (.int .i64 v4), false, 0, 0, [], [(7, (.int .i64 v4))]⟩ :: ⟨_, (.int .i64 v20), true, 0, 0, [0, 1, 2, 3], [(27, (.pointer a0)), (29, (.int .i64 v18)), (30, (.int .i64 v4))]⟩ :: ⟨_, (.pointer a1), false, 0, 1, [], [(1, (.pointer a1))]⟩ :: ⟨_, (.pointer (some (p1.add 1))), false, 0, 1, [], [(5, (.pointer (some p1)))]⟩ :: ⟨_, (.int .i64 v23), false, 0, 1, [6], [(33, (.pointer (some (p1.add 1))))]⟩ :: ⟨_, (.int .i64 v4), false, 0, 1, [], [(7, (.int .i64 v4))]⟩ :: ⟨_, (.int .i64 v25), true, 1, 1, [0, 1, 2, 3, 4, 5, 6, 7, 8], [(32, (.pointer a1)), (34, (.int .i64 v23)), (35, (.int .i64 v4))]⟩ :: ⟨_, (.bool (v20 == v25)), false, 2, 2, [0, 1, 2, 3, 4, 5, 6, 7, 8, 9], [(31, (.int .i64 v20)), (36, (.int .i64 v25))]⟩ :: ⟨_, (.bool (v20 == v25)), false, 2, 2, [0, 1, 2, 3, 4, 5, 6, 7, 8, 9, 10], [(37, (.bool (v20 == v25)))]⟩ :: [])) (W := (fun j => match j with | 0 => w16 | 1 => w21 | 2 => w26 | _ => w26)) (by kernel_rfl) ha (dr_w e17) (by kernel_rfl) ?_ (reads_of (by kernel_rfl)) (by kernel_rfl) (m := 2) (by kernel_rfl) (fun a ha => ?_)
      · refine ⟨?_, ?_, ?_, ?_, ?_, ?_, ?_, ?_, ?_, ?_, ?_, ?_, trivial⟩
        · exact oa fun j a ha => d_move ha rfl
        · exact oa fun j a ha => d_fa ha rfl Try.runUnderlying30 rfl rfl Try.sizeOf3 (by decide)
        · exact oc 0 (ok_do rfl fun a ha => d_ld ha rfl Try.isAgg3 (ldI_c e19))
        · exact oa fun j a ha => d_move ha rfl
        · exact oc 0 (ok_do rfl fun a ha => d_call (xs := [_, _, _]) (vs := [(.pointer a0), (.int .i64 v18), (.int .i64 v4)]) ha ⟨rfl, rfl, rfl, trivial⟩ Try.call16 (wheel_Wheel_Set_ok e22))
        · exact oa fun j a ha => d_move ha rfl
        · exact oa fun j a ha => d_fa ha rfl Try.runUnderlying30 rfl rfl Try.sizeOf3 (by decide)
        · intro j h1 h2; have h1 : 0 ≤ j := h1; have h2 : j ≤ 1 := h2; rcases (by omega : j = 0 ∨ j = 1) with rfl | rfl
          · exact ok_do rfl fun a ha => d_ld ha rfl Try.isAgg3 (ldI_c e28)
          · exact ok_do rfl fun a ha => d_ld ha rfl Try.isAgg3 (ldI_c e24)
        · exact oa fun j a ha => d_move ha rfl
        · exact oc 1 (ok_do rfl fun a ha => d_call (xs := [_, _, _]) (vs := [(.pointer a1), (.int .i64 v23), (.int .i64 v4)]) ha ⟨rfl, rfl, rfl, trivial⟩ Try.call64 (grapevineref12_Wheel_Set_ok e27))
        · exact oa fun j a ha => d_eq ha rfl rfl
        · exact oa fun j a ha => d_assign ha rfl
      · have ha : Has 89 [(6, (.bool (v20 == v25)))] a := ha.sub ⟨rfl, trivial⟩
        refine t_n <| wp_ret <| b_r <| ?_
        have h := unL h
        refine t_r <| ?_
        have hS := ha
        exact ret1 Try.results28 hS rfl ⟨((v20 == v25), w26), rfl, h, rfl⟩
    · refine wp_seq <| region_lit <| q ha (d_eq ha rfl rfl) fun a ha => qa ha rfl fun a ha => s_nil <| t_n <| ?_
      refine s_condN ha rfl h (fun b30 h => ?_) (fun b30 h => ?_)
      · refine wp_seq <| ?_
        obtain ⟨w31, e32, h⟩ := h
        obtain ⟨v33, e34, h⟩ := h
        obtain ⟨v35, w36, e37, h⟩ := h
        obtain ⟨v38, e39, h⟩ := h
        obtain ⟨v40, w41, e42, h⟩ := h
        obtain ⟨e43, h⟩ := h
        have ha : Has 89 [(0, (.pointer a0)), (1, (.pointer a1)), (5, (.pointer (some p1))), (7, (.int .i64 v4)), (17, (.int .i64 v13)), (38, (.bool (v13 == 1)))] a := ha.sub ⟨rfl, rfl, rfl, rfl, rfl, rfl, trivial⟩
        refine region_draw (n := 89) (ds := (⟨_, (.pointer a0), false, 0, 0, [], [(0, (.pointer a0))]⟩ :: ⟨_, (.pointer (some (p1.add 1))), false, 0, 0, [], [(5, (.pointer (some p1)))]⟩ :: ⟨_, (.int .i64 v33), false, 0, 0, [1], [(41, (.pointer (some (p1.add 1))))]⟩ :: ⟨_, (.int .i64 v35), true, 0, 0, [0, 1, 2], [(40, (.pointer a0)), (42, (.int .i64 v33))]⟩ :: ⟨_, (.pointer a1), false, 0, 1, [], [(1, (.pointer a1))]⟩ :: ⟨_, (.pointer (some (p1.add 1))), false, 0, 1, [], [(5, (.pointer (some p1)))]⟩ :: ⟨_, (.int .i64 v38), false, 0, 1, [5], [(45, (.pointer (some (p1.add 1))))]⟩ :: ⟨_, (.int .i64 v40), true, 1, 1, [0, 1, 2, 3, 4, 5, 6], [(44, (.pointer a1)), (46, (.int .i64 v38))]⟩ :: ⟨_, (.bool (v35 == v40)), false, 2, 2, [0, 1, 2, 3, 4, 5, 6, 7], [(43, (.int .i64 v35)), (47, (.int .i64 v40))]⟩ :: ⟨_, (.bool (v35 == v40)), false, 2, 2, [0, 1, 2, 3, 4, 5, 6, 7, 8], [(48, (.bool (v35 == v40)))]⟩ :: [])) (W := (fun j => match j with | 0 => w31 | 1 => w36 | 2 => w41 | _ => w41)) (by kernel_rfl) ha (dr_w e32) (by kernel_rfl) ?_ (reads_of (by kernel_rfl)) (by kernel_rfl) (m := 2) (by kernel_rfl) (fun a ha => ?_)
        · refine ⟨?_, ?_, ?_, ?_, ?_, ?_, ?_, ?_, ?_, ?_, trivial⟩
          · exact oa fun j a ha => d_move ha rfl
          · exact oa fun j a ha => d_fa ha rfl Try.runUnderlying30 rfl rfl Try.sizeOf3 (by decide)
          · exact oc 0 (ok_do rfl fun a ha => d_ld ha rfl Try.isAgg3 (ldI_c e34))
          · exact oc 0 (ok_do rfl fun a ha => d_call (xs := [_, _]) (vs := [(.pointer a0), (.int .i64 v33)]) ha ⟨rfl, rfl, trivial⟩ Try.call17 (wheel_Wheel_Drop_ok e37))
          · exact oa fun j a ha => d_move ha rfl
          · exact oa fun j a ha => d_fa ha rfl Try.runUnderlying30 rfl rfl Try.sizeOf3 (by decide)
          · intro j h1 h2; have h1 : 0 ≤ j := h1; have h2 : j ≤ 1 := h2; rcases (by omega : j = 0 ∨ j = 1) with rfl | rfl
            · exact ok_do rfl fun a ha => d_ld ha rfl Try.isAgg3 (ldI_c e43)
            · exact ok_do rfl fun a ha => d_ld ha rfl Try.isAgg3 (ldI_c e39)
          · exact oc 1 (ok_do rfl fun a ha => d_call (xs := [_, _]) (vs := [(.pointer a1), (.int .i64 v38)]) ha ⟨rfl, rfl, trivial⟩ Try.call65 (grapevineref12_Wheel_Drop_ok e42))
          · exact oa fun j a ha => d_eq ha rfl rfl
          · exact oa fun j a ha => d_assign ha rfl
        · have ha : Has 89 [(6, (.bool (v35 == v40)))] a := ha.sub ⟨rfl, trivial⟩
          refine t_n <| wp_ret <| b_r <| ?_
          have h := unL h
          refine t_r <| ?_
          have hS := ha
          exact ret1 Try.results28 hS rfl ⟨((v35 == v40), w41), rfl, h, rfl⟩
      · refine wp_seq <| region_lit <| q ha (d_eq ha rfl rfl) fun a ha => qa ha rfl fun a ha => s_nil <| t_n <| ?_
        refine s_condN ha rfl h (fun b45 h => ?_) (fun b45 h => ?_)
        · refine wp_seq <| region_lit <| qm ha rfl fun a ha => ?_
          obtain ⟨v46, v47, w48, e49, h⟩ := h
          refine q ha (d_call (xs := [_]) (vs := [(.pointer a1)]) ha ⟨rfl, trivial⟩ Try.call61 (grapevineref12_Wheel_Next_ok e49)) fun a ha => qm ha rfl fun a ha => q ha (d_ext ha rfl rfl) fun a ha => q ha (d_ext ha rfl rfl) fun a ha => qa ha rfl fun a ha => qa ha rfl fun a ha => s_nil <| t_n <| wp_seq <| region_lit <| qm ha rfl fun a ha => ?_
          obtain ⟨p50, e51, h⟩ := h
          refine q ha (d_nilp ha rfl e51) fun a ha => q ha (d_fa ha rfl Try.runUnderlying107 rfl rfl Try.sizeOf3 (by decide)) fun a ha => ?_
          obtain ⟨v52, e53, h⟩ := h
          refine q ha (d_ld ha rfl Try.isAgg3 (ldI_c e53)) fun a ha => qa ha rfl fun a ha => s_nil <| t_n <| wp_seq <| ?_
          refine reg_joinN (n := 89) (ι := Bool × World) (Lf := fun i => [(65, (.bool i.1)), (0, (.pointer a0)), (1, (.pointer a1)), (7, (.int .i64 v52)), (8, (.int .i64 v46))]) (wf := fun i => i.2) (un2 h) (fun i h a ha => ?_) (fun h hk57 => ?_)
          · obtain ⟨v54, w55⟩ := i
            have ha : Has 89 [(65, (.bool v54)), (0, (.pointer a0)), (1, (.pointer a1)), (7, (.int .i64 v52)), (8, (.int .i64 v46))] a := ha
            refine t_n <| ?_
            refine s_condN ha rfl h (fun b59 h => ?_) (fun b59 h => ?_)
            · refine region_lit <| qm ha rfl fun a ha => qa ha rfl fun a ha => s_nil <| b_n <| ?_
              have hS : Has 89 [(7, (.int .i64 v46)), (0, (.pointer a0)), (1, (.pointer a1))] _ := ha.sub ⟨rfl, rfl, rfl, trivial⟩
              exact hk11 (v46, w55) h _ hS
            · refine wp_skip <| b_n <| ?_
              have hS : Has 89 [(7, (.int .i64 v52)), (0, (.pointer a0)), (1, (.pointer a1))] _ := ha.sub ⟨rfl, rfl, rfl, trivial⟩
              exact hk11 (v52, w55) h _ hS
          · refine region_lit <| qm ha rfl fun a ha => qm ha rfl fun a ha => ?_
            refine ite_n h (fun b58 h => ?_) (fun b58 h => ?_)
            · refine qg ha 61 b58 (d_move ha rfl) fun a ha => qg ha 61 b58 (d_move ha rfl) fun a ha => qg ha 61 b58 (d_gt ha rfl rfl) fun a ha => q ha (d_pick_t ha rfl b58 rfl) fun a ha => s_nil <| ?_
              have hS : Has 89 [(65, (.bool (decide (v52 < v46)))), (0, (.pointer a0)), (1, (.pointer a1)), (7, (.int .i64 v52)), (8, (.int .i64 v46))] _ := ha.sub ⟨rfl, rfl, rfl, rfl, rfl, trivial⟩
              exact hk57 ((decide (v52 < v46)), w48) h _ hS
            · refine qn ha 61 (nn b58 _ rfl) fun a ha => qn ha 61 (nn b58 _ rfl) fun a ha => qn ha 61 (nn b58 _ rfl) fun a ha => q ha (d_pick_f ha rfl b58 rfl) fun a ha => s_nil <| ?_
              have hS : Has 89 [(65, (.bool false)), (0, (.pointer a0)), (1, (.pointer a1)), (7, (.int .i64 v52)), (8, (.int .i64 v46))] _ := ha.sub ⟨rfl, rfl, rfl, rfl, rfl, trivial⟩
              exact hk57 (false, w48) h _ hS
        · refine wp_seq <| region_lit <| q ha (d_eq ha rfl rfl) fun a ha => qa ha rfl fun a ha => s_nil <| t_n <| ?_
          refine s_condN ha rfl h (fun b60 h => ?_) (fun b60 h => ?_)
          · refine wp_skip <| b_n <| ?_
            have hS : Has 89 [(7, (.int .i64 v4)), (0, (.pointer a0)), (1, (.pointer a1))] _ := ha.sub ⟨rfl, rfl, rfl, trivial⟩
            exact hk11 (v4, w2) h _ hS
          · refine wp_seq <| ?_
            obtain ⟨w61, e62, h⟩ := h
            obtain ⟨v63, w64, e65, h⟩ := h
            obtain ⟨p66, e67, h⟩ := h
            obtain ⟨v68, e69, h⟩ := h
            obtain ⟨e70, h⟩ := h
            have ha : Has 89 [(0, (.pointer a0)), (1, (.pointer a1)), (7, (.int .i64 v4)), (67, (.bool (v13 == 2)))] a := ha.sub ⟨rfl, rfl, rfl, rfl, trivial⟩
            refine region_draw (n := 89) (ds := (⟨_, (.pointer a0), false, 0, 0, [], [(0, (.pointer a0))]⟩ :: ⟨_, (.int .i64 v63), true, 0, 0, [0], [(18, (.pointer a0))]⟩ :: ⟨_, (.pointer a1), false, 0, 1, [], [(1, (.pointer a1))]⟩ :: ⟨_, (.pointer (some p66)), false, 0, 1, [2], [(20, (.pointer a1))]⟩ :: ⟨_, (.pointer (some (p66.add 0))), false, 0, 1, [2, 3], [(21, (.pointer (some p66)))]⟩ :: ⟨_, (.int .i64 v68), false, 0, 1, [2, 3, 4], [(22, (.pointer (some (p66.add 0))))]⟩ :: ⟨_, (.bool (v63 == v68)), false, 1, 1, [0, 1, 2, 3, 4, 5], [(19, (.int .i64 v63)), (23, (.int .i64 v68))]⟩ :: ⟨_, (.bool (v63 == v68)), false, 1, 1, [0, 1, 2, 3, 4, 5, 6], [(24, (.bool (v63 == v68)))]⟩ :: [])) (W := (fun j => match j with | 0 => w61 | 1 => w64 | _ => w64)) (by kernel_rfl) ha (dr_w e62) (by kernel_rfl) ?_ (reads_of (by kernel_rfl)) (by kernel_rfl) (m := 1) (by kernel_rfl) (fun a ha => ?_)
            · refine ⟨?_, ?_, ?_, ?_, ?_, ?_, ?_, ?_, trivial⟩
              · exact oa fun j a ha => d_move ha rfl
              · exact oc 0 (ok_do rfl fun a ha => d_call (xs := [_]) (vs := [(.pointer a0)]) ha ⟨rfl, trivial⟩ Try.call22 (wheel_Wheel_Now_ok e65))
              · exact oa fun j a ha => d_move ha rfl
              · exact oa fun j a ha => d_nilp ha rfl e67
              · exact oa fun j a ha => d_fa ha rfl Try.runUnderlying107 rfl rfl Try.sizeOf3 (by decide)
              · intro j h1 h2; have h1 : 0 ≤ j := h1; have h2 : j ≤ 1 := h2; rcases (by omega : j = 0 ∨ j = 1) with rfl | rfl
                · exact ok_do rfl fun a ha => d_ld ha rfl Try.isAgg3 (ldI_c e70)
                · exact ok_do rfl fun a ha => d_ld ha rfl Try.isAgg3 (ldI_c e69)
              · exact oa fun j a ha => d_eq ha rfl rfl
              · exact oa fun j a ha => d_assign ha rfl
            · have ha : Has 89 [(6, (.bool (v63 == v68)))] a := ha.sub ⟨rfl, trivial⟩
              refine t_n <| wp_ret <| b_r <| ?_
              have h := unL h
              refine t_r <| ?_
              have hS := ha
              exact ret1 Try.results28 hS rfl ⟨((v63 == v68), w64), rfl, h, rfl⟩

noncomputable def grapevinelaw12_play_l1 (v1 : Option Addr) (a1 : Sl) (v5 : Option Addr) (x15 : Int) (w16 : World) : ND ((Int × World) ⊕ ((World) ⊕ ((Option Addr) × (Option Addr) × Bool × World))) :=
  cb2 (if (!(v1.isNone)) = true then
  (if (decide (x15 < (a1.n : Int))) = true then
  (nret ((decide (x15 < 300)), w16))
  else
  (nret (false, w16)))
  else
  (nret (false, w16))) fun v27 w28 =>
  if v27 = true then
  (lb1 (ix a1 x15 3) fun p34 =>
  lb1 (ldA 3 w28 p34 0) fun c36 =>
  cb2 (grapevinelaw12_do v1 v5 c36 w28) fun v38 w39 =>
  if (!v38) = true then
  (nret (.inr (.inr (v1, v5, false, w39))))
  else
  (nret (.inl ((IntKind.wrap .i64 (x15 + 1)), w39))))
  else
  (nret (.inr (.inl w28)))
noncomputable def grapevinelaw12_play (a0 : Int) (a1 : Sl) (w : World) : ND ((Option Addr) × (Option Addr) × Bool × World) :=
  lb3 (wheel_New a0 w) fun v1 v2 w3 =>
  lb3 (grapevineref12_New a0 w3) fun v5 v6 w7 =>
  cb2 (if (v2 != v6) = true then
  (nret (true, w7))
  else
  (nret (((v1.isNone) != (v5.isNone)), w7))) fun v9 w10 =>
  if v9 = true then
  (nret (v1, v5, false, w10))
  else
  (cb1 (nloop (fun s : Int × World => grapevinelaw12_play_l1 v1 a1 v5 s.1 s.2) (0, w10)) fun r17 => Sum.elim (fun (i : World) => u1 i fun w19 =>
  nret (v1, v5, true, w19)) (fun (i : (Option Addr) × (Option Addr) × Bool × World) => u4 i fun v20 v21 v22 w23 =>
  nret (v20, v21, v22, w23)) r17)
set_option maxHeartbeats 1000000 in
set_option maxRecDepth 100000 in
theorem grapevinelaw12_play_ok {a0 : Int} {a1 : Sl} {w : World} {Q : (Option Addr) × (Option Addr) × Bool × World → Prop} (h : (grapevinelaw12_play a0 a1 w).t Q) : Calls Try.prog 21 #[(.int .i64 a0), (Sl.v a1)] w fun e w'' => ∃ i, e = .returned (.tuple #[(.pointer i.1), (.pointer i.2.1), (.bool i.2.2.1)]) ∧ Q i ∧ w'' = i.2.2.2 := by
  refine calls_dec (n := 60) Try.func21 rfl Try.ntmps21 (by simp) fun a ha => ?_
  unfold grapevinelaw12_play at h
  refine wp_seq <| region_lit <| qa ha rfl fun a ha => qa ha rfl fun a ha => qa ha rfl fun a ha => s_nil <| t_n <| wp_seq <| region_lit <| qm ha rfl fun a ha => ?_
  obtain ⟨v1, v2, w3, e4, h⟩ := h
  refine q ha (d_call (xs := [_]) (vs := [(.int .i64 a0)]) ha ⟨rfl, trivial⟩ Try.call15 (wheel_New_ok e4)) fun a ha => qm ha rfl fun a ha => q ha (d_ext ha rfl rfl) fun a ha => q ha (d_ext ha rfl rfl) fun a ha => qa ha rfl fun a ha => qa ha rfl fun a ha => s_nil <| t_n <| wp_seq <| region_lit <| qm ha rfl fun a ha => ?_
  obtain ⟨v5, v6, w7, e8, h⟩ := h
  refine q ha (d_call (xs := [_]) (vs := [(.int .i64 a0)]) ha ⟨rfl, trivial⟩ Try.call58 (grapevineref12_New_ok e8)) fun a ha => qm ha rfl fun a ha => q ha (d_ext ha rfl rfl) fun a ha => q ha (d_ext ha rfl rfl) fun a ha => qa ha rfl fun a ha => qa ha rfl fun a ha => s_nil <| t_n <| wp_seq <| wp_seq <| ?_
  refine reg_joinN (n := 60) (ι := Bool × World) (Lf := fun i => [(31, (.bool i.1)), (1, (Sl.v a1)), (7, (.pointer v1)), (9, (.pointer v5))]) (wf := fun i => i.2) (un2 h) (fun i h a ha => ?_) (fun h hk12 => ?_)
  · obtain ⟨v9, w10⟩ := i
    have ha : Has 60 [(31, (.bool v9)), (1, (Sl.v a1)), (7, (.pointer v1)), (9, (.pointer v5))] a := ha
    refine t_n <| ?_
    refine s_condN ha rfl h (fun b14 h => ?_) (fun b14 h => ?_)
    · refine wp_seq <| region_lit <| qm ha rfl fun a ha => qm ha rfl fun a ha => qa ha rfl fun a ha => qa ha rfl fun a ha => qa ha rfl fun a ha => s_nil <| t_n <| wp_ret <| t_r <| ?_
      have hS := ha
      exact ret3 Try.results21 hS rfl rfl rfl ⟨(v1, v5, false, w10), rfl, h, rfl⟩
    · refine wp_skip <| t_n <| wp_seq <| wp_seq <| region_lit <| qa ha rfl fun a ha => s_nil <| t_n <| wp_block <| ?_
      refine s_loopN2 (n := 60) (L1 := fun i => [(7, (.pointer v1)), (9, (.pointer v5))]) (w1 := fun i => i) (L2 := fun i => [(4, (.pointer i.1)), (5, (.pointer i.2.1)), (6, (.bool i.2.2.1))]) (w2 := fun i => i.2.2.2) (e1 := .exit 0) (e2 := .ret) (I := fun (s : Int × World) a w => Has 60 [(11, (.int .i64 s.1)), (1, (Sl.v a1)), (7, (.pointer v1)), (9, (.pointer v5))] a ∧ w = s.2) (un1 h) ⟨ha.sub ⟨rfl, rfl, rfl, rfl, trivial⟩, rfl⟩ (fun i h a ha => ?_) (fun i h a ha => ?_) (fun hk24 hk25 => ?_)
      · obtain ⟨w19, rfl⟩ : ∃ x, x = i := ⟨i, rfl⟩
        try dsimp only [Sum.elim_inl, Sum.elim_inr, u1, u2, u3, u4, u5, u6] at h
        have ha : Has 60 [(7, (.pointer v1)), (9, (.pointer v5))] a := ha
        refine b_hit <| t_n <| wp_seq <| region_lit <| qm ha rfl fun a ha => qm ha rfl fun a ha => qa ha rfl fun a ha => qa ha rfl fun a ha => qa ha rfl fun a ha => s_nil <| t_n <| wp_ret <| ?_
        have hS := ha
        exact ret3 Try.results21 hS rfl rfl rfl ⟨(v1, v5, true, w19), rfl, h, rfl⟩
      · obtain ⟨v20, v21, v22, w23⟩ := i
        try dsimp only [Sum.elim_inl, Sum.elim_inr, u1, u2, u3, u4, u5, u6] at h
        have ha : Has 60 [(4, (.pointer v20)), (5, (.pointer v21)), (6, (.bool v22))] a := ha
        refine b_r <| t_r <| ?_
        have hS := ha
        exact ret3 Try.results21 hS rfl rfl rfl ⟨(v20, v21, v22, w23), rfl, h, rfl⟩
      · clear h
        intro hX42
        rintro ⟨x15, w16⟩ a wq ⟨ha, hwq⟩ h
        obtain rfl : w16 = wq := hwq.symm
        have ha : Has 60 [(11, (.int .i64 x15)), (1, (Sl.v a1)), (7, (.pointer v1)), (9, (.pointer v5))] a := ha
        have h : (grapevinelaw12_play_l1 v1 a1 v5 x15 w16).t _ := h
        unfold grapevinelaw12_play_l1 at h
        refine wp_seq <| wp_seq <| ?_
        refine reg_joinN (n := 60) (ι := Bool × World) (Lf := fun i => [(45, (.bool i.1)), (1, (Sl.v a1)), (7, (.pointer v1)), (9, (.pointer v5)), (11, (.int .i64 x15))]) (wf := fun i => i.2) (un2 h) (fun i h a ha => ?_) (fun h hk30 => ?_)
        · obtain ⟨v27, w28⟩ := i
          have ha : Has 60 [(45, (.bool v27)), (1, (Sl.v a1)), (7, (.pointer v1)), (9, (.pointer v5)), (11, (.int .i64 x15))] a := ha
          refine t_n <| ?_
          refine s_condN ha rfl h (fun b33 h => ?_) (fun b33 h => ?_)
          · refine wp_skip <| t_n <| wp_seq <| wp_block <| wp_seq <| region_lit <| qm ha rfl fun a ha => qm ha rfl fun a ha => qm ha rfl fun a ha => qm ha rfl fun a ha => ?_
            obtain ⟨p34, e35, h⟩ := h
            refine q ha (d_ix ha rfl rfl Try.runUnderlying22 Try.sizeOf30 e35) fun a ha => ?_
            obtain ⟨c36, e37, h⟩ := h
            refine q ha (d_ldA ha rfl Try.isAgg30 Try.sizeOf30 e37) fun a ha => ?_
            refine s_callN (ι := Bool × World) (pk := fun i => (.bool i.1)) (wf := fun i => i.2) (xs := [_, _, _]) (vs := [(.pointer v1), (.pointer v5), (.agg (List.toArray c36))]) ha ⟨rfl, rfl, rfl, trivial⟩ Try.call28 (grapevinelaw12_do_ok (un2 h)) (fun i h a ha => ?_)
            obtain ⟨v38, w39⟩ := i
            refine q ha (d_not ha rfl) fun a ha => s_nil <| t_n <| ?_
            refine s_condN ha rfl h (fun b41 h => ?_) (fun b41 h => ?_)
            · refine wp_seq <| region_lit <| qm ha rfl fun a ha => qm ha rfl fun a ha => qa ha rfl fun a ha => qa ha rfl fun a ha => qa ha rfl fun a ha => s_nil <| t_n <| wp_ret <| b_r <| t_r <| ?_
              have hS : Has 60 [(4, (.pointer v1)), (5, (.pointer v5)), (6, (.bool false))] _ := ha.sub ⟨rfl, rfl, rfl, trivial⟩
              refine t_r <| ?_
              exact hk25 (v1, v5, false, w39) h _ hS
            · refine wp_skip <| b_n <| t_n <| region_lit <| qm ha rfl fun a ha => q ha (d_add ha rfl rfl) fun a ha => qa ha rfl fun a ha => s_nil <| ?_
              have hS : Has 60 [(11, (.int .i64 (IntKind.wrap .i64 (x15 + 1)))), (1, (Sl.v a1)), (7, (.pointer v1)), (9, (.pointer v5))] _ := ha.sub ⟨rfl, rfl, rfl, rfl, trivial⟩
              exact ⟨((IntKind.wrap .i64 (x15 + 1)), w39), ⟨hS, rfl⟩, h⟩
          · refine wp_exit <| t_x <| ?_
            have hS : Has 60 [(7, (.pointer v1)), (9, (.pointer v5))] _ := ha.sub ⟨rfl, rfl, trivial⟩
            refine t_x <| ?_
            exact hk24 w28 h _ hS
        · refine region_lit <| qm ha rfl fun a ha => q ha (d_neN ha rfl rfl Try.runUnderlying24) fun a ha => qm ha rfl fun a ha => ?_
          refine ite_n h (fun b31 h => ?_) (fun b31 h => ?_)
          · refine qg ha 36 b31 (d_move ha rfl) fun a ha => qg ha 36 b31 (d_move ha rfl) fun a ha => qg ha 36 b31 (d_lenS ha rfl Try.runUnderlying22) fun a ha => qg ha 36 b31 (d_lt ha rfl rfl) fun a ha => q ha (d_pick_t ha rfl b31 rfl) fun a ha => qm ha rfl fun a ha => ?_
            refine ite_n h (fun b32 h => ?_) (fun b32 h => ?_)
            · refine qg ha 42 b32 (d_move ha rfl) fun a ha => qg ha 42 b32 (d_lt ha rfl rfl) fun a ha => q ha (d_pick_t ha rfl b32 rfl) fun a ha => s_nil <| ?_
              have hS : Has 60 [(45, (.bool (decide (x15 < 300)))), (1, (Sl.v a1)), (7, (.pointer v1)), (9, (.pointer v5)), (11, (.int .i64 x15))] _ := ha.sub ⟨rfl, rfl, rfl, rfl, rfl, trivial⟩
              exact hk30 ((decide (x15 < 300)), w16) h _ hS
            · refine qn ha 42 (nn b32 _ rfl) fun a ha => qn ha 42 (nn b32 _ rfl) fun a ha => q ha (d_pick_f ha rfl b32 rfl) fun a ha => s_nil <| ?_
              have hS : Has 60 [(45, (.bool false)), (1, (Sl.v a1)), (7, (.pointer v1)), (9, (.pointer v5)), (11, (.int .i64 x15))] _ := ha.sub ⟨rfl, rfl, rfl, rfl, rfl, trivial⟩
              exact hk30 (false, w16) h _ hS
          · refine qn ha 36 (nn b31 _ rfl) fun a ha => qn ha 36 (nn b31 _ rfl) fun a ha => qn ha 36 (nn b31 _ rfl) fun a ha => qn ha 36 (nn b31 _ rfl) fun a ha => q ha (d_pick_f ha rfl b31 rfl) fun a ha => qm ha rfl fun a ha => qn ha 42 (nn Bool.false_ne_true _ rfl) fun a ha => qn ha 42 (nn Bool.false_ne_true _ rfl) fun a ha => q ha (d_pick_f ha rfl Bool.false_ne_true rfl) fun a ha => s_nil <| ?_
            have hS : Has 60 [(45, (.bool false)), (1, (Sl.v a1)), (7, (.pointer v1)), (9, (.pointer v5)), (11, (.int .i64 x15))] _ := ha.sub ⟨rfl, rfl, rfl, rfl, rfl, trivial⟩
            exact hk30 (false, w16) h _ hS
  · refine region_lit <| qm ha rfl fun a ha => qm ha rfl fun a ha => q ha (d_ne ha rfl rfl) fun a ha => qm ha rfl fun a ha => ?_
    refine ite_n h (fun b13 h => ?_) (fun b13 h => ?_)
    · refine qn ha 25 (tn b13) fun a ha => qn ha 25 (tn b13) fun a ha => qn ha 25 (tn b13) fun a ha => qn ha 25 (tn b13) fun a ha => qn ha 25 (tn b13) fun a ha => q ha (d_pick_t ha rfl b13 rfl) fun a ha => s_nil <| ?_
      have hS : Has 60 [(31, (.bool true)), (1, (Sl.v a1)), (7, (.pointer v1)), (9, (.pointer v5))] _ := ha.sub ⟨rfl, rfl, rfl, rfl, trivial⟩
      exact hk12 (true, w7) h _ hS
    · refine qg ha 25 (nt b13) (d_move ha rfl) fun a ha => qg ha 25 (nt b13) (d_eqN ha rfl rfl Try.runUnderlying24) fun a ha => qg ha 25 (nt b13) (d_move ha rfl) fun a ha => qg ha 25 (nt b13) (d_eqN ha rfl rfl Try.runUnderlying40) fun a ha => qg ha 25 (nt b13) (d_neB ha rfl rfl Try.runUnderlying4) fun a ha => q ha (d_pick_f ha rfl b13 rfl) fun a ha => s_nil <| ?_
      have hS : Has 60 [(31, (.bool ((v1.isNone) != (v5.isNone)))), (1, (Sl.v a1)), (7, (.pointer v1)), (9, (.pointer v5))] _ := ha.sub ⟨rfl, rfl, rfl, rfl, trivial⟩
      exact hk12 (((v1.isNone) != (v5.isNone)), w7) h _ hS

noncomputable def grapevinelaw12_WheelCuts (a0 : Sl) (a1 : Int) (a2 : Int) (w : World) : ND (Bool × World) :=
  cb4 (grapevinelaw12_play 0 a0 w) fun v1 v2 v3 w4 =>
  cb2 (if (!v3) = true then
  (nret (true, w4))
  else
  (nret ((v1.isNone), w4))) fun v6 w7 =>
  if v6 = true then
  (nret (false, w7))
  else
  (lb2 (wheel_Wheel_Now v1 w7) fun v12 w13 =>
  cb3 (wheel_Wheel_Advance v1 v12 w13) fun v15 v16 w17 =>
  if (v16 != 0) = true then
  (nret (false, w17))
  else
  (lb2 (wheel_Wheel_Fork v1 w17) fun v20 w21 =>
  lb2 (wheel_Wheel_Now v1 w21) fun v23 w24 =>
  if (decide (1099511627776 < (IntKind.wrap .i64 ((IntKind.wrap .i64 (v23 + (IntKind.wrap .i64 a1))) + (IntKind.wrap .i64 a2))))) = true then
  (cb2 (grapevinelaw12_live w24) fun v27 w28 =>
  nret (v27, w28))
  else
  (cb3 (wheel_Wheel_Advance v1 (IntKind.wrap .i64 (v23 + (IntKind.wrap .i64 a1))) w24) fun v30 v31 w32 =>
  cb3 (wheel_Wheel_Advance v1 (IntKind.wrap .i64 ((IntKind.wrap .i64 (v23 + (IntKind.wrap .i64 a1))) + (IntKind.wrap .i64 a2))) w32) fun v34 v35 w36 =>
  cb3 (wheel_Wheel_Advance v20 (IntKind.wrap .i64 ((IntKind.wrap .i64 (v23 + (IntKind.wrap .i64 a1))) + (IntKind.wrap .i64 a2))) w36) fun v38 v39 w40 =>
  cb2 (cb2 (grapevinelaw12_live w40) fun v46 w47 =>
  if v46 = true then
  (if (v31 == 0) = true then
  (if (v35 == 0) = true then
  (if (v39 == 0) = true then
  (lb2 (apS Try.prog 34 v30 v34 w47) fun s53 w54 =>
  lb2 (grapevineref12_Same s53 v38 w54) fun v56 w57 =>
  if v56 = true then
  (lb2 (wheel_Wheel_Now v1 w57) fun v60 w61 =>
  lb2 (wheel_Wheel_Now v20 w61) fun v63 w64 =>
  if (v60 == v63) = true then
  (lb2 (wheel_Wheel_Ids v1 w64) fun v67 w68 =>
  lb2 (wheel_Wheel_Ids v20 w68) fun v70 w71 =>
  lb2 (grapevineref12_Same v67 v70 w71) fun v73 w74 =>
  nret (v73, w74))
  else
  (nret (false, w64)))
  else
  (nret (false, w57)))
  else
  (nret (false, w47)))
  else
  (nret (false, w47)))
  else
  (nret (false, w47)))
  else
  (nret (false, w47))) fun v42 w43 =>
  nret (v42, w43))))
set_option maxHeartbeats 1000000 in
set_option maxRecDepth 100000 in
theorem grapevinelaw12_WheelCuts_ok {a0 : Sl} {a1 : Int} {a2 : Int} {w : World} {Q : Bool × World → Prop} (h : (grapevinelaw12_WheelCuts a0 a1 a2 w).t Q) : Calls Try.prog 4 #[(Sl.v a0), (.int .u16 a1), (.int .u16 a2)] w fun e w'' => ∃ i, e = .returned (.bool i.1) ∧ Q i ∧ w'' = i.2 := by
  refine calls_dec (n := 108) Try.func4 rfl Try.ntmps4 (by simp) fun a ha => ?_
  unfold grapevinelaw12_WheelCuts at h
  refine wp_seq <| region_lit <| qa ha rfl fun a ha => s_nil <| t_n <| wp_seq <| region_lit <| qm ha rfl fun a ha => ?_
  refine s_callN (ι := (Option Addr) × (Option Addr) × Bool × World) (pk := fun i => (.tuple #[(.pointer i.1), (.pointer i.2.1), (.bool i.2.2.1)])) (wf := fun i => i.2.2.2) (xs := [_, _]) (vs := [(.int .i64 0), (Sl.v a0)]) ha ⟨rfl, rfl, trivial⟩ Try.call21 (grapevinelaw12_play_ok (un4 h)) (fun i h a ha => ?_)
  obtain ⟨v1, v2, v3, w4⟩ := i
  refine qm ha rfl fun a ha => q ha (d_ext ha rfl rfl) fun a ha => q ha (d_ext ha rfl rfl) fun a ha => q ha (d_ext ha rfl rfl) fun a ha => qa ha rfl fun a ha => qa ha rfl fun a ha => qa ha rfl fun a ha => s_nil <| t_n <| wp_seq <| wp_seq <| ?_
  refine reg_joinN (n := 108) (ι := Bool × World) (Lf := fun i => [(32, (.bool i.1)), (1, (.int .u16 a1)), (2, (.int .u16 a2)), (7, (.pointer v1))]) (wf := fun i => i.2) (un2 h) (fun i h a ha => ?_) (fun h hk9 => ?_)
  · obtain ⟨v6, w7⟩ := i
    have ha : Has 108 [(32, (.bool v6)), (1, (.int .u16 a1)), (2, (.int .u16 a2)), (7, (.pointer v1))] a := ha
    refine t_n <| ?_
    refine s_condN ha rfl h (fun b11 h => ?_) (fun b11 h => ?_)
    · refine wp_seq <| region_lit <| qa ha rfl fun a ha => s_nil <| t_n <| wp_ret <| t_r <| ?_
      have hS := ha
      exact ret1 Try.results4 hS rfl ⟨(false, w7), rfl, h, rfl⟩
    · refine wp_skip <| t_n <| wp_seq <| wp_seq <| region_lit <| qm ha rfl fun a ha => qm ha rfl fun a ha => ?_
      obtain ⟨v12, w13, e14, h⟩ := h
      refine q ha (d_call (xs := [_]) (vs := [(.pointer v1)]) ha ⟨rfl, trivial⟩ Try.call22 (wheel_Wheel_Now_ok e14)) fun a ha => ?_
      refine s_callN (ι := Sl × Int × World) (pk := fun i => (.tuple #[(Sl.v i.1), (.int .i64 i.2.1)])) (wf := fun i => i.2.2) (xs := [_, _]) (vs := [(.pointer v1), (.int .i64 v12)]) ha ⟨rfl, rfl, trivial⟩ Try.call18 (wheel_Wheel_Advance_ok (un3 h)) (fun i h a ha => ?_)
      obtain ⟨v15, v16, w17⟩ := i
      refine qm ha rfl fun a ha => q ha (d_ext ha rfl rfl) fun a ha => q ha (d_ext ha rfl rfl) fun a ha => qa ha rfl fun a ha => qa ha rfl fun a ha => s_nil <| t_n <| wp_seq <| region_lit <| qm ha rfl fun a ha => q ha (d_ne ha rfl rfl) fun a ha => s_nil <| t_n <| ?_
      refine s_condN ha rfl h (fun b19 h => ?_) (fun b19 h => ?_)
      · refine wp_seq <| region_lit <| qa ha rfl fun a ha => s_nil <| t_n <| wp_ret <| t_r <| ?_
        have hS := ha
        exact ret1 Try.results4 hS rfl ⟨(false, w17), rfl, h, rfl⟩
      · refine wp_skip <| t_n <| wp_seq <| region_lit <| qm ha rfl fun a ha => ?_
        obtain ⟨v20, w21, e22, h⟩ := h
        refine q ha (d_call (xs := [_]) (vs := [(.pointer v1)]) ha ⟨rfl, trivial⟩ Try.call23 (wheel_Wheel_Fork_ok e22)) fun a ha => qa ha rfl fun a ha => s_nil <| t_n <| wp_seq <| region_lit <| qm ha rfl fun a ha => ?_
        obtain ⟨v23, w24, e25, h⟩ := h
        refine q ha (d_call (xs := [_]) (vs := [(.pointer v1)]) ha ⟨rfl, trivial⟩ Try.call22 (wheel_Wheel_Now_ok e25)) fun a ha => qm ha rfl fun a ha => q ha (d_conv ha rfl Try.runUnderlying33 Try.runUnderlying3) fun a ha => q ha (d_add ha rfl rfl) fun a ha => qa ha rfl fun a ha => s_nil <| t_n <| wp_seq <| region_lit <| qm ha rfl fun a ha => qm ha rfl fun a ha => q ha (d_conv ha rfl Try.runUnderlying33 Try.runUnderlying3) fun a ha => q ha (d_add ha rfl rfl) fun a ha => qa ha rfl fun a ha => s_nil <| t_n <| wp_seq <| wp_seq <| region_lit <| qm ha rfl fun a ha => q ha (d_gt ha rfl rfl) fun a ha => s_nil <| t_n <| ?_
        refine s_condN ha rfl h (fun b26 h => ?_) (fun b26 h => ?_)
        · refine wp_seq <| region_lit <| ?_
          refine s_callN (ι := Bool × World) (pk := fun i => (.bool i.1)) (wf := fun i => i.2) (xs := []) (vs := []) ha trivial Try.call19 (grapevinelaw12_live_ok (un2 h)) (fun i h a ha => ?_)
          obtain ⟨v27, w28⟩ := i
          refine qa ha rfl fun a ha => s_nil <| t_n <| wp_ret <| t_r <| ?_
          have hS := ha
          exact ret1 Try.results4 hS rfl ⟨(v27, w28), rfl, h, rfl⟩
        · refine wp_skip <| t_n <| wp_seq <| region_lit <| qm ha rfl fun a ha => qm ha rfl fun a ha => ?_
          refine s_callN (ι := Sl × Int × World) (pk := fun i => (.tuple #[(Sl.v i.1), (.int .i64 i.2.1)])) (wf := fun i => i.2.2) (xs := [_, _]) (vs := [(.pointer v1), (.int .i64 (IntKind.wrap .i64 (v23 + (IntKind.wrap .i64 a1))))]) ha ⟨rfl, rfl, trivial⟩ Try.call18 (wheel_Wheel_Advance_ok (un3 h)) (fun i h a ha => ?_)
          obtain ⟨v30, v31, w32⟩ := i
          refine qm ha rfl fun a ha => q ha (d_ext ha rfl rfl) fun a ha => q ha (d_ext ha rfl rfl) fun a ha => qa ha rfl fun a ha => qa ha rfl fun a ha => s_nil <| t_n <| wp_seq <| region_lit <| qm ha rfl fun a ha => qm ha rfl fun a ha => ?_
          refine s_callN (ι := Sl × Int × World) (pk := fun i => (.tuple #[(Sl.v i.1), (.int .i64 i.2.1)])) (wf := fun i => i.2.2) (xs := [_, _]) (vs := [(.pointer v1), (.int .i64 (IntKind.wrap .i64 ((IntKind.wrap .i64 (v23 + (IntKind.wrap .i64 a1))) + (IntKind.wrap .i64 a2))))]) ha ⟨rfl, rfl, trivial⟩ Try.call18 (wheel_Wheel_Advance_ok (un3 h)) (fun i h a ha => ?_)
          obtain ⟨v34, v35, w36⟩ := i
          refine qm ha rfl fun a ha => q ha (d_ext ha rfl rfl) fun a ha => q ha (d_ext ha rfl rfl) fun a ha => qa ha rfl fun a ha => qa ha rfl fun a ha => s_nil <| t_n <| wp_seq <| region_lit <| qm ha rfl fun a ha => qm ha rfl fun a ha => ?_
          refine s_callN (ι := Sl × Int × World) (pk := fun i => (.tuple #[(Sl.v i.1), (.int .i64 i.2.1)])) (wf := fun i => i.2.2) (xs := [_, _]) (vs := [(.pointer v20), (.int .i64 (IntKind.wrap .i64 ((IntKind.wrap .i64 (v23 + (IntKind.wrap .i64 a1))) + (IntKind.wrap .i64 a2))))]) ha ⟨rfl, rfl, trivial⟩ Try.call18 (wheel_Wheel_Advance_ok (un3 h)) (fun i h a ha => ?_)
          obtain ⟨v38, v39, w40⟩ := i
          refine qm ha rfl fun a ha => q ha (d_ext ha rfl rfl) fun a ha => q ha (d_ext ha rfl rfl) fun a ha => qa ha rfl fun a ha => qa ha rfl fun a ha => s_nil <| t_n <| wp_seq <| ?_
          refine reg_joinN (n := 108) (ι := Bool × World) (Lf := fun i => [(6, (.bool i.1))]) (wf := fun i => i.2) (un2 h) (fun i h a ha => ?_) (fun h hk45 => ?_)
          · obtain ⟨v42, w43⟩ := i
            have ha : Has 108 [(6, (.bool v42))] a := ha
            refine t_n <| wp_ret <| ?_
            have hS := ha
            exact ret1 Try.results4 hS rfl ⟨(v42, w43), rfl, h, rfl⟩
          · refine region_lit <| ?_
            refine s_callN (ι := Bool × World) (pk := fun i => (.bool i.1)) (wf := fun i => i.2) (xs := []) (vs := []) ha trivial Try.call19 (grapevinelaw12_live_ok (un2 h)) (fun i h a ha => ?_)
            obtain ⟨v46, w47⟩ := i
            refine qm ha rfl fun a ha => ?_
            refine ite_n h (fun b49 h => ?_) (fun b49 h => ?_)
            · refine qg ha 75 b49 (d_move ha rfl) fun a ha => qg ha 75 b49 (d_eq ha rfl rfl) fun a ha => q ha (d_pick_t ha rfl b49 rfl) fun a ha => qm ha rfl fun a ha => ?_
              refine ite_n h (fun b50 h => ?_) (fun b50 h => ?_)
              · refine qg ha 79 b50 (d_move ha rfl) fun a ha => qg ha 79 b50 (d_eq ha rfl rfl) fun a ha => q ha (d_pick_t ha rfl b50 rfl) fun a ha => qm ha rfl fun a ha => ?_
                refine ite_n h (fun b51 h => ?_) (fun b51 h => ?_)
                · refine qg ha 83 b51 (d_move ha rfl) fun a ha => qg ha 83 b51 (d_eq ha rfl rfl) fun a ha => q ha (d_pick_t ha rfl b51 rfl) fun a ha => qm ha rfl fun a ha => ?_
                  refine ite_n h (fun b52 h => ?_) (fun b52 h => ?_)
                  · refine qg ha 87 b52 (d_move ha rfl) fun a ha => qg ha 87 b52 (d_move ha rfl) fun a ha => ?_
                    obtain ⟨s53, w54, e55, h⟩ := h
                    refine qg ha 87 b52 (d_apS ha rfl rfl e55) fun a ha => qg ha 87 b52 (d_move ha rfl) fun a ha => ?_
                    obtain ⟨v56, w57, e58, h⟩ := h
                    refine qg ha 87 b52 (d_call (xs := [_, _]) (vs := [(Sl.v s53), (Sl.v v38)]) ha ⟨rfl, rfl, trivial⟩ Try.call24 (grapevineref12_Same_ok e58)) fun a ha => q ha (d_pick_t ha rfl b52 rfl) fun a ha => qm ha rfl fun a ha => ?_
                    refine ite_n h (fun b59 h => ?_) (fun b59 h => ?_)
                    · refine qg ha 94 b59 (d_move ha rfl) fun a ha => ?_
                      obtain ⟨v60, w61, e62, h⟩ := h
                      refine qg ha 94 b59 (d_call (xs := [_]) (vs := [(.pointer v1)]) ha ⟨rfl, trivial⟩ Try.call22 (wheel_Wheel_Now_ok e62)) fun a ha => qg ha 94 b59 (d_move ha rfl) fun a ha => ?_
                      obtain ⟨v63, w64, e65, h⟩ := h
                      refine qg ha 94 b59 (d_call (xs := [_]) (vs := [(.pointer v20)]) ha ⟨rfl, trivial⟩ Try.call22 (wheel_Wheel_Now_ok e65)) fun a ha => qg ha 94 b59 (d_eq ha rfl rfl) fun a ha => q ha (d_pick_t ha rfl b59 rfl) fun a ha => qm ha rfl fun a ha => ?_
                      refine ite_n h (fun b66 h => ?_) (fun b66 h => ?_)
                      · refine qg ha 101 b66 (d_move ha rfl) fun a ha => ?_
                        obtain ⟨v67, w68, e69, h⟩ := h
                        refine qg ha 101 b66 (d_call (xs := [_]) (vs := [(.pointer v1)]) ha ⟨rfl, trivial⟩ Try.call20 (wheel_Wheel_Ids_ok e69)) fun a ha => qg ha 101 b66 (d_move ha rfl) fun a ha => ?_
                        obtain ⟨v70, w71, e72, h⟩ := h
                        refine qg ha 101 b66 (d_call (xs := [_]) (vs := [(.pointer v20)]) ha ⟨rfl, trivial⟩ Try.call20 (wheel_Wheel_Ids_ok e72)) fun a ha => ?_
                        obtain ⟨v73, w74, e75, h⟩ := h
                        refine qg ha 101 b66 (d_call (xs := [_, _]) (vs := [(Sl.v v67), (Sl.v v70)]) ha ⟨rfl, rfl, trivial⟩ Try.call24 (grapevineref12_Same_ok e75)) fun a ha => q ha (d_pick_t ha rfl b66 rfl) fun a ha => qa ha rfl fun a ha => s_nil <| ?_
                        have hS : Has 108 [(6, (.bool v73))] _ := ha.sub ⟨rfl, trivial⟩
                        exact hk45 (v73, w74) h _ hS
                      · refine qn ha 101 (nn b66 _ rfl) fun a ha => qn ha 101 (nn b66 _ rfl) fun a ha => qn ha 101 (nn b66 _ rfl) fun a ha => qn ha 101 (nn b66 _ rfl) fun a ha => qn ha 101 (nn b66 _ rfl) fun a ha => q ha (d_pick_f ha rfl b66 rfl) fun a ha => qa ha rfl fun a ha => s_nil <| ?_
                        have hS : Has 108 [(6, (.bool false))] _ := ha.sub ⟨rfl, trivial⟩
                        exact hk45 (false, w64) h _ hS
                    · refine qn ha 94 (nn b59 _ rfl) fun a ha => qn ha 94 (nn b59 _ rfl) fun a ha => qn ha 94 (nn b59 _ rfl) fun a ha => qn ha 94 (nn b59 _ rfl) fun a ha => qn ha 94 (nn b59 _ rfl) fun a ha => q ha (d_pick_f ha rfl b59 rfl) fun a ha => qm ha rfl fun a ha => qn ha 101 (nn Bool.false_ne_true _ rfl) fun a ha => qn ha 101 (nn Bool.false_ne_true _ rfl) fun a ha => qn ha 101 (nn Bool.false_ne_true _ rfl) fun a ha => qn ha 101 (nn Bool.false_ne_true _ rfl) fun a ha => qn ha 101 (nn Bool.false_ne_true _ rfl) fun a ha => q ha (d_pick_f ha rfl Bool.false_ne_true rfl) fun a ha => qa ha rfl fun a ha => s_nil <| ?_
                      have hS : Has 108 [(6, (.bool false))] _ := ha.sub ⟨rfl, trivial⟩
                      exact hk45 (false, w57) h _ hS
                  · refine qn ha 87 (nn b52 _ rfl) fun a ha => qn ha 87 (nn b52 _ rfl) fun a ha => qn ha 87 (nn b52 _ rfl) fun a ha => qn ha 87 (nn b52 _ rfl) fun a ha => qn ha 87 (nn b52 _ rfl) fun a ha => q ha (d_pick_f ha rfl b52 rfl) fun a ha => qm ha rfl fun a ha => qn ha 94 (nn Bool.false_ne_true _ rfl) fun a ha => qn ha 94 (nn Bool.false_ne_true _ rfl) fun a ha => qn ha 94 (nn Bool.false_ne_true _ rfl) fun a ha => qn ha 94 (nn Bool.false_ne_true _ rfl) fun a ha => qn ha 94 (nn Bool.false_ne_true _ rfl) fun a ha => q ha (d_pick_f ha rfl Bool.false_ne_true rfl) fun a ha => qm ha rfl fun a ha => qn ha 101 (nn Bool.false_ne_true _ rfl) fun a ha => qn ha 101 (nn Bool.false_ne_true _ rfl) fun a ha => qn ha 101 (nn Bool.false_ne_true _ rfl) fun a ha => qn ha 101 (nn Bool.false_ne_true _ rfl) fun a ha => qn ha 101 (nn Bool.false_ne_true _ rfl) fun a ha => q ha (d_pick_f ha rfl Bool.false_ne_true rfl) fun a ha => qa ha rfl fun a ha => s_nil <| ?_
                    have hS : Has 108 [(6, (.bool false))] _ := ha.sub ⟨rfl, trivial⟩
                    exact hk45 (false, w47) h _ hS
                · refine qn ha 83 (nn b51 _ rfl) fun a ha => qn ha 83 (nn b51 _ rfl) fun a ha => q ha (d_pick_f ha rfl b51 rfl) fun a ha => qm ha rfl fun a ha => qn ha 87 (nn Bool.false_ne_true _ rfl) fun a ha => qn ha 87 (nn Bool.false_ne_true _ rfl) fun a ha => qn ha 87 (nn Bool.false_ne_true _ rfl) fun a ha => qn ha 87 (nn Bool.false_ne_true _ rfl) fun a ha => qn ha 87 (nn Bool.false_ne_true _ rfl) fun a ha => q ha (d_pick_f ha rfl Bool.false_ne_true rfl) fun a ha => qm ha rfl fun a ha => qn ha 94 (nn Bool.false_ne_true _ rfl) fun a ha => qn ha 94 (nn Bool.false_ne_true _ rfl) fun a ha => qn ha 94 (nn Bool.false_ne_true _ rfl) fun a ha => qn ha 94 (nn Bool.false_ne_true _ rfl) fun a ha => qn ha 94 (nn Bool.false_ne_true _ rfl) fun a ha => q ha (d_pick_f ha rfl Bool.false_ne_true rfl) fun a ha => qm ha rfl fun a ha => qn ha 101 (nn Bool.false_ne_true _ rfl) fun a ha => qn ha 101 (nn Bool.false_ne_true _ rfl) fun a ha => qn ha 101 (nn Bool.false_ne_true _ rfl) fun a ha => qn ha 101 (nn Bool.false_ne_true _ rfl) fun a ha => qn ha 101 (nn Bool.false_ne_true _ rfl) fun a ha => q ha (d_pick_f ha rfl Bool.false_ne_true rfl) fun a ha => qa ha rfl fun a ha => s_nil <| ?_
                  have hS : Has 108 [(6, (.bool false))] _ := ha.sub ⟨rfl, trivial⟩
                  exact hk45 (false, w47) h _ hS
              · refine qn ha 79 (nn b50 _ rfl) fun a ha => qn ha 79 (nn b50 _ rfl) fun a ha => q ha (d_pick_f ha rfl b50 rfl) fun a ha => qm ha rfl fun a ha => qn ha 83 (nn Bool.false_ne_true _ rfl) fun a ha => qn ha 83 (nn Bool.false_ne_true _ rfl) fun a ha => q ha (d_pick_f ha rfl Bool.false_ne_true rfl) fun a ha => qm ha rfl fun a ha => qn ha 87 (nn Bool.false_ne_true _ rfl) fun a ha => qn ha 87 (nn Bool.false_ne_true _ rfl) fun a ha => qn ha 87 (nn Bool.false_ne_true _ rfl) fun a ha => qn ha 87 (nn Bool.false_ne_true _ rfl) fun a ha => qn ha 87 (nn Bool.false_ne_true _ rfl) fun a ha => q ha (d_pick_f ha rfl Bool.false_ne_true rfl) fun a ha => qm ha rfl fun a ha => qn ha 94 (nn Bool.false_ne_true _ rfl) fun a ha => qn ha 94 (nn Bool.false_ne_true _ rfl) fun a ha => qn ha 94 (nn Bool.false_ne_true _ rfl) fun a ha => qn ha 94 (nn Bool.false_ne_true _ rfl) fun a ha => qn ha 94 (nn Bool.false_ne_true _ rfl) fun a ha => q ha (d_pick_f ha rfl Bool.false_ne_true rfl) fun a ha => qm ha rfl fun a ha => qn ha 101 (nn Bool.false_ne_true _ rfl) fun a ha => qn ha 101 (nn Bool.false_ne_true _ rfl) fun a ha => qn ha 101 (nn Bool.false_ne_true _ rfl) fun a ha => qn ha 101 (nn Bool.false_ne_true _ rfl) fun a ha => qn ha 101 (nn Bool.false_ne_true _ rfl) fun a ha => q ha (d_pick_f ha rfl Bool.false_ne_true rfl) fun a ha => qa ha rfl fun a ha => s_nil <| ?_
                have hS : Has 108 [(6, (.bool false))] _ := ha.sub ⟨rfl, trivial⟩
                exact hk45 (false, w47) h _ hS
            · refine qn ha 75 (nn b49 _ rfl) fun a ha => qn ha 75 (nn b49 _ rfl) fun a ha => q ha (d_pick_f ha rfl b49 rfl) fun a ha => qm ha rfl fun a ha => qn ha 79 (nn Bool.false_ne_true _ rfl) fun a ha => qn ha 79 (nn Bool.false_ne_true _ rfl) fun a ha => q ha (d_pick_f ha rfl Bool.false_ne_true rfl) fun a ha => qm ha rfl fun a ha => qn ha 83 (nn Bool.false_ne_true _ rfl) fun a ha => qn ha 83 (nn Bool.false_ne_true _ rfl) fun a ha => q ha (d_pick_f ha rfl Bool.false_ne_true rfl) fun a ha => qm ha rfl fun a ha => qn ha 87 (nn Bool.false_ne_true _ rfl) fun a ha => qn ha 87 (nn Bool.false_ne_true _ rfl) fun a ha => qn ha 87 (nn Bool.false_ne_true _ rfl) fun a ha => qn ha 87 (nn Bool.false_ne_true _ rfl) fun a ha => qn ha 87 (nn Bool.false_ne_true _ rfl) fun a ha => q ha (d_pick_f ha rfl Bool.false_ne_true rfl) fun a ha => qm ha rfl fun a ha => qn ha 94 (nn Bool.false_ne_true _ rfl) fun a ha => qn ha 94 (nn Bool.false_ne_true _ rfl) fun a ha => qn ha 94 (nn Bool.false_ne_true _ rfl) fun a ha => qn ha 94 (nn Bool.false_ne_true _ rfl) fun a ha => qn ha 94 (nn Bool.false_ne_true _ rfl) fun a ha => q ha (d_pick_f ha rfl Bool.false_ne_true rfl) fun a ha => qm ha rfl fun a ha => qn ha 101 (nn Bool.false_ne_true _ rfl) fun a ha => qn ha 101 (nn Bool.false_ne_true _ rfl) fun a ha => qn ha 101 (nn Bool.false_ne_true _ rfl) fun a ha => qn ha 101 (nn Bool.false_ne_true _ rfl) fun a ha => qn ha 101 (nn Bool.false_ne_true _ rfl) fun a ha => q ha (d_pick_f ha rfl Bool.false_ne_true rfl) fun a ha => ?_
              refine qa ha rfl fun a ha => s_nil <| ?_
              have hS : Has 108 [(6, (.bool false))] _ := ha.sub ⟨rfl, trivial⟩
              exact hk45 (false, w47) h _ hS
  · refine region_lit <| qm ha rfl fun a ha => q ha (d_not ha rfl) fun a ha => qm ha rfl fun a ha => ?_
    refine ite_n h (fun b10 h => ?_) (fun b10 h => ?_)
    · refine qn ha 29 (tn b10) fun a ha => qn ha 29 (tn b10) fun a ha => q ha (d_pick_t ha rfl b10 rfl) fun a ha => s_nil <| ?_
      have hS : Has 108 [(32, (.bool true)), (1, (.int .u16 a1)), (2, (.int .u16 a2)), (7, (.pointer v1))] _ := ha.sub ⟨rfl, rfl, rfl, rfl, trivial⟩
      exact hk9 (true, w4) h _ hS
    · refine qg ha 29 (nt b10) (d_move ha rfl) fun a ha => qg ha 29 (nt b10) (d_eqN ha rfl rfl Try.runUnderlying24) fun a ha => q ha (d_pick_f ha rfl b10 rfl) fun a ha => s_nil <| ?_
      have hS : Has 108 [(32, (.bool (v1.isNone))), (1, (.int .u16 a1)), (2, (.int .u16 a2)), (7, (.pointer v1))] _ := ha.sub ⟨rfl, rfl, rfl, rfl, trivial⟩
      exact hk9 ((v1.isNone), w4) h _ hS

noncomputable def grapevinelaw12_WheelNext (a0 : Sl) (w : World) : ND (Bool × World) :=
  cb4 (grapevinelaw12_play 0 a0 w) fun v1 v2 v3 w4 =>
  cb2 (if (!v3) = true then
  (nret (true, w4))
  else
  (nret ((v1.isNone), w4))) fun v6 w7 =>
  if v6 = true then
  (nret (false, w7))
  else
  (lb3 (wheel_Wheel_Next v1 w7) fun v12 v13 w14 =>
  if (!v13) = true then
  (cb2 (cb2 (grapevinelaw12_live w14) fun v21 w22 =>
  if v21 = true then
  (if (v12 == 0) = true then
  (lb2 (wheel_Wheel_Ids v1 w22) fun v26 w27 =>
  nret (((v26.n : Int) == 0), w27))
  else
  (nret (false, w22)))
  else
  (nret (false, w22))) fun v17 w18 =>
  nret (v17, w18))
  else
  (cbX (lb2 (wheel_Wheel_Now v1 w14) fun v35 w36 =>
  if (decide (v35 < v12)) = true then
  (cb3 (wheel_Wheel_Advance v1 (IntKind.wrap .i64 (v12 - 1)) w36) fun v39 v40 w41 =>
  cb2 (if (v40 != 0) = true then
  (nret (true, w41))
  else
  (nret (((v39.n : Int) != 0), w41))) fun v43 w44 =>
  if v43 = true then
  (cb1 (nret (false, w44)) fun g34 => nret (.inl g34))
  else
  (nret (.inr w44)))
  else
  (nret (.inr w36))) fun (i : World) => u1 i fun w29 =>
  lb2 (wheel_Wheel_Now v1 w29) fun v50 w51 =>
  cb3 (wheel_Wheel_Advance v1 (mxI v12 v50) w51) fun v53 v54 w55 =>
  cb2 (cb2 (grapevinelaw12_live w55) fun v61 w62 =>
  if v61 = true then
  (if (v54 == 0) = true then
  (nret ((decide (0 < (v53.n : Int))), w62))
  else
  (nret (false, w62)))
  else
  (nret (false, w62))) fun v57 w58 =>
  nret (v57, w58)))
set_option maxHeartbeats 1000000 in
set_option maxRecDepth 100000 in
theorem grapevinelaw12_WheelNext_ok {a0 : Sl} {w : World} {Q : Bool × World → Prop} (h : (grapevinelaw12_WheelNext a0 w).t Q) : Calls Try.prog 5 #[(Sl.v a0)] w fun e w'' => ∃ i, e = .returned (.bool i.1) ∧ Q i ∧ w'' = i.2 := by
  refine calls_dec (n := 79) Try.func5 rfl Try.ntmps5 (by simp) fun a ha => ?_
  unfold grapevinelaw12_WheelNext at h
  refine wp_seq <| region_lit <| qa ha rfl fun a ha => s_nil <| t_n <| wp_seq <| region_lit <| qm ha rfl fun a ha => ?_
  refine s_callN (ι := (Option Addr) × (Option Addr) × Bool × World) (pk := fun i => (.tuple #[(.pointer i.1), (.pointer i.2.1), (.bool i.2.2.1)])) (wf := fun i => i.2.2.2) (xs := [_, _]) (vs := [(.int .i64 0), (Sl.v a0)]) ha ⟨rfl, rfl, trivial⟩ Try.call21 (grapevinelaw12_play_ok (un4 h)) (fun i h a ha => ?_)
  obtain ⟨v1, v2, v3, w4⟩ := i
  refine qm ha rfl fun a ha => q ha (d_ext ha rfl rfl) fun a ha => q ha (d_ext ha rfl rfl) fun a ha => q ha (d_ext ha rfl rfl) fun a ha => qa ha rfl fun a ha => qa ha rfl fun a ha => qa ha rfl fun a ha => s_nil <| t_n <| wp_seq <| wp_seq <| ?_
  refine reg_joinN (n := 79) (ι := Bool × World) (Lf := fun i => [(23, (.bool i.1)), (3, (.pointer v1))]) (wf := fun i => i.2) (un2 h) (fun i h a ha => ?_) (fun h hk9 => ?_)
  · obtain ⟨v6, w7⟩ := i
    have ha : Has 79 [(23, (.bool v6)), (3, (.pointer v1))] a := ha
    refine t_n <| ?_
    refine s_condN ha rfl h (fun b11 h => ?_) (fun b11 h => ?_)
    · refine wp_seq <| region_lit <| qa ha rfl fun a ha => s_nil <| t_n <| wp_ret <| t_r <| ?_
      have hS := ha
      exact ret1 Try.results5 hS rfl ⟨(false, w7), rfl, h, rfl⟩
    · refine wp_skip <| t_n <| wp_seq <| region_lit <| qm ha rfl fun a ha => ?_
      obtain ⟨v12, v13, w14, e15, h⟩ := h
      refine q ha (d_call (xs := [_]) (vs := [(.pointer v1)]) ha ⟨rfl, trivial⟩ Try.call25 (wheel_Wheel_Next_ok e15)) fun a ha => qm ha rfl fun a ha => q ha (d_ext ha rfl rfl) fun a ha => q ha (d_ext ha rfl rfl) fun a ha => qa ha rfl fun a ha => qa ha rfl fun a ha => s_nil <| t_n <| wp_seq <| wp_seq <| region_lit <| qm ha rfl fun a ha => q ha (d_not ha rfl) fun a ha => s_nil <| t_n <| ?_
      refine s_condN ha rfl h (fun b16 h => ?_) (fun b16 h => ?_)
      · refine wp_seq <| ?_
        refine reg_joinN (n := 79) (ι := Bool × World) (Lf := fun i => [(2, (.bool i.1))]) (wf := fun i => i.2) (un2 h) (fun i h a ha => ?_) (fun h hk20 => ?_)
        · obtain ⟨v17, w18⟩ := i
          have ha : Has 79 [(2, (.bool v17))] a := ha
          refine t_n <| wp_ret <| t_r <| ?_
          have hS := ha
          exact ret1 Try.results5 hS rfl ⟨(v17, w18), rfl, h, rfl⟩
        · refine region_lit <| ?_
          refine s_callN (ι := Bool × World) (pk := fun i => (.bool i.1)) (wf := fun i => i.2) (xs := []) (vs := []) ha trivial Try.call19 (grapevinelaw12_live_ok (un2 h)) (fun i h a ha => ?_)
          obtain ⟨v21, w22⟩ := i
          refine qm ha rfl fun a ha => ?_
          refine ite_n h (fun b24 h => ?_) (fun b24 h => ?_)
          · refine qg ha 32 b24 (d_move ha rfl) fun a ha => qg ha 32 b24 (d_eq ha rfl rfl) fun a ha => q ha (d_pick_t ha rfl b24 rfl) fun a ha => qm ha rfl fun a ha => ?_
            refine ite_n h (fun b25 h => ?_) (fun b25 h => ?_)
            · refine qg ha 36 b25 (d_move ha rfl) fun a ha => ?_
              obtain ⟨v26, w27, e28, h⟩ := h
              refine qg ha 36 b25 (d_call (xs := [_]) (vs := [(.pointer v1)]) ha ⟨rfl, trivial⟩ Try.call20 (wheel_Wheel_Ids_ok e28)) fun a ha => qg ha 36 b25 (d_lenS ha rfl Try.runUnderlying34) fun a ha => qg ha 36 b25 (d_eq ha rfl rfl) fun a ha => q ha (d_pick_t ha rfl b25 rfl) fun a ha => qa ha rfl fun a ha => s_nil <| ?_
              have hS : Has 79 [(2, (.bool ((v26.n : Int) == 0)))] _ := ha.sub ⟨rfl, trivial⟩
              exact hk20 (((v26.n : Int) == 0), w27) h _ hS
            · refine qn ha 36 (nn b25 _ rfl) fun a ha => qn ha 36 (nn b25 _ rfl) fun a ha => qn ha 36 (nn b25 _ rfl) fun a ha => qn ha 36 (nn b25 _ rfl) fun a ha => q ha (d_pick_f ha rfl b25 rfl) fun a ha => qa ha rfl fun a ha => s_nil <| ?_
              have hS : Has 79 [(2, (.bool false))] _ := ha.sub ⟨rfl, trivial⟩
              exact hk20 (false, w22) h _ hS
          · refine qn ha 32 (nn b24 _ rfl) fun a ha => qn ha 32 (nn b24 _ rfl) fun a ha => q ha (d_pick_f ha rfl b24 rfl) fun a ha => qm ha rfl fun a ha => qn ha 36 (nn Bool.false_ne_true _ rfl) fun a ha => qn ha 36 (nn Bool.false_ne_true _ rfl) fun a ha => qn ha 36 (nn Bool.false_ne_true _ rfl) fun a ha => qn ha 36 (nn Bool.false_ne_true _ rfl) fun a ha => q ha (d_pick_f ha rfl Bool.false_ne_true rfl) fun a ha => qa ha rfl fun a ha => s_nil <| ?_
            have hS : Has 79 [(2, (.bool false))] _ := ha.sub ⟨rfl, trivial⟩
            exact hk20 (false, w22) h _ hS
      · refine wp_skip <| t_n <| ?_
        refine seq_joinNX (n := 79) (ι := World) (Lf := fun i => [(3, (.pointer v1)), (6, (.int .i64 v12))]) (wf := fun i => i) (unX h) (fun i h a ha => ?_) (fun h hk33 => ?_)
        · obtain ⟨w29, rfl⟩ : ∃ x, x = i := ⟨i, rfl⟩
          try dsimp only [Sum.elim_inl, Sum.elim_inr, u1, u2, u3, u4, u5, u6] at h
          have ha : Has 79 [(3, (.pointer v1)), (6, (.int .i64 v12))] a := ha
          refine wp_seq <| region_lit <| qm ha rfl fun a ha => qm ha rfl fun a ha => qm ha rfl fun a ha => ?_
          obtain ⟨v50, w51, e52, h⟩ := h
          refine q ha (d_call (xs := [_]) (vs := [(.pointer v1)]) ha ⟨rfl, trivial⟩ Try.call22 (wheel_Wheel_Now_ok e52)) fun a ha => q ha (d_max ha rfl rfl) fun a ha => ?_
          refine s_callN (ι := Sl × Int × World) (pk := fun i => (.tuple #[(Sl.v i.1), (.int .i64 i.2.1)])) (wf := fun i => i.2.2) (xs := [_, _]) (vs := [(.pointer v1), (.int .i64 (mxI v12 v50))]) ha ⟨rfl, rfl, trivial⟩ Try.call18 (wheel_Wheel_Advance_ok (un3 h)) (fun i h a ha => ?_)
          obtain ⟨v53, v54, w55⟩ := i
          refine qm ha rfl fun a ha => q ha (d_ext ha rfl rfl) fun a ha => q ha (d_ext ha rfl rfl) fun a ha => qa ha rfl fun a ha => qa ha rfl fun a ha => s_nil <| t_n <| wp_seq <| ?_
          refine reg_joinN (n := 79) (ι := Bool × World) (Lf := fun i => [(2, (.bool i.1))]) (wf := fun i => i.2) (un2 h) (fun i h a ha => ?_) (fun h hk60 => ?_)
          · obtain ⟨v57, w58⟩ := i
            have ha : Has 79 [(2, (.bool v57))] a := ha
            refine t_n <| wp_ret <| ?_
            have hS := ha
            exact ret1 Try.results5 hS rfl ⟨(v57, w58), rfl, h, rfl⟩
          · refine region_lit <| ?_
            refine s_callN (ι := Bool × World) (pk := fun i => (.bool i.1)) (wf := fun i => i.2) (xs := []) (vs := []) ha trivial Try.call19 (grapevinelaw12_live_ok (un2 h)) (fun i h a ha => ?_)
            obtain ⟨v61, w62⟩ := i
            refine qm ha rfl fun a ha => ?_
            refine ite_n h (fun b64 h => ?_) (fun b64 h => ?_)
            · refine qg ha 70 b64 (d_move ha rfl) fun a ha => qg ha 70 b64 (d_eq ha rfl rfl) fun a ha => q ha (d_pick_t ha rfl b64 rfl) fun a ha => qm ha rfl fun a ha => ?_
              refine ite_n h (fun b65 h => ?_) (fun b65 h => ?_)
              · refine qg ha 74 b65 (d_move ha rfl) fun a ha => qg ha 74 b65 (d_lenS ha rfl Try.runUnderlying34) fun a ha => qg ha 74 b65 (d_gt ha rfl rfl) fun a ha => q ha (d_pick_t ha rfl b65 rfl) fun a ha => qa ha rfl fun a ha => s_nil <| ?_
                have hS : Has 79 [(2, (.bool (decide (0 < (v53.n : Int)))))] _ := ha.sub ⟨rfl, trivial⟩
                exact hk60 ((decide (0 < (v53.n : Int))), w62) h _ hS
              · refine qn ha 74 (nn b65 _ rfl) fun a ha => qn ha 74 (nn b65 _ rfl) fun a ha => qn ha 74 (nn b65 _ rfl) fun a ha => q ha (d_pick_f ha rfl b65 rfl) fun a ha => qa ha rfl fun a ha => s_nil <| ?_
                have hS : Has 79 [(2, (.bool false))] _ := ha.sub ⟨rfl, trivial⟩
                exact hk60 (false, w62) h _ hS
            · refine qn ha 70 (nn b64 _ rfl) fun a ha => qn ha 70 (nn b64 _ rfl) fun a ha => q ha (d_pick_f ha rfl b64 rfl) fun a ha => qm ha rfl fun a ha => qn ha 74 (nn Bool.false_ne_true _ rfl) fun a ha => qn ha 74 (nn Bool.false_ne_true _ rfl) fun a ha => qn ha 74 (nn Bool.false_ne_true _ rfl) fun a ha => q ha (d_pick_f ha rfl Bool.false_ne_true rfl) fun a ha => qa ha rfl fun a ha => s_nil <| ?_
              have hS : Has 79 [(2, (.bool false))] _ := ha.sub ⟨rfl, trivial⟩
              exact hk60 (false, w62) h _ hS
        · refine wp_seq <| region_lit <| qm ha rfl fun a ha => qm ha rfl fun a ha => ?_
          obtain ⟨v35, w36, e37, h⟩ := h
          refine q ha (d_call (xs := [_]) (vs := [(.pointer v1)]) ha ⟨rfl, trivial⟩ Try.call22 (wheel_Wheel_Now_ok e37)) fun a ha => q ha (d_gt ha rfl rfl) fun a ha => s_nil <| t_n <| ?_
          refine s_condN ha rfl h (fun b38 h => ?_) (fun b38 h => ?_)
          · refine wp_seq <| region_lit <| qm ha rfl fun a ha => qm ha rfl fun a ha => q ha (d_sub ha rfl rfl) fun a ha => ?_
            refine s_callN (ι := Sl × Int × World) (pk := fun i => (.tuple #[(Sl.v i.1), (.int .i64 i.2.1)])) (wf := fun i => i.2.2) (xs := [_, _]) (vs := [(.pointer v1), (.int .i64 (IntKind.wrap .i64 (v12 - 1)))]) ha ⟨rfl, rfl, trivial⟩ Try.call18 (wheel_Wheel_Advance_ok (un3 h)) (fun i h a ha => ?_)
            obtain ⟨v39, v40, w41⟩ := i
            refine qm ha rfl fun a ha => q ha (d_ext ha rfl rfl) fun a ha => q ha (d_ext ha rfl rfl) fun a ha => qa ha rfl fun a ha => qa ha rfl fun a ha => s_nil <| t_n <| wp_seq <| ?_
            refine reg_joinN (n := 79) (ι := Bool × World) (Lf := fun i => [(59, (.bool i.1)), (3, (.pointer v1)), (6, (.int .i64 v12))]) (wf := fun i => i.2) (un2 h) (fun i h a ha => ?_) (fun h hk46 => ?_)
            · obtain ⟨v43, w44⟩ := i
              have ha : Has 79 [(59, (.bool v43)), (3, (.pointer v1)), (6, (.int .i64 v12))] a := ha
              refine t_n <| ?_
              refine s_condN ha rfl h (fun b48 h => ?_) (fun b48 h => ?_)
              · refine wp_seq <| region_lit <| qa ha rfl fun a ha => s_nil <| t_n <| wp_ret <| ?_
                have h := unL h
                refine t_r <| ?_
                have hS := ha
                exact ret1 Try.results5 hS rfl ⟨(false, w44), rfl, h, rfl⟩
              · refine wp_skip <| ?_
                have hS : Has 79 [(3, (.pointer v1)), (6, (.int .i64 v12))] _ := ha.sub ⟨rfl, rfl, trivial⟩
                exact hk33 w44 h _ hS
            · refine region_lit <| qm ha rfl fun a ha => q ha (d_ne ha rfl rfl) fun a ha => qm ha rfl fun a ha => ?_
              refine ite_n h (fun b47 h => ?_) (fun b47 h => ?_)
              · refine qn ha 55 (tn b47) fun a ha => qn ha 55 (tn b47) fun a ha => qn ha 55 (tn b47) fun a ha => q ha (d_pick_t ha rfl b47 rfl) fun a ha => s_nil <| ?_
                have hS : Has 79 [(59, (.bool true)), (3, (.pointer v1)), (6, (.int .i64 v12))] _ := ha.sub ⟨rfl, rfl, rfl, trivial⟩
                exact hk46 (true, w41) h _ hS
              · refine qg ha 55 (nt b47) (d_move ha rfl) fun a ha => qg ha 55 (nt b47) (d_lenS ha rfl Try.runUnderlying34) fun a ha => qg ha 55 (nt b47) (d_ne ha rfl rfl) fun a ha => q ha (d_pick_f ha rfl b47 rfl) fun a ha => s_nil <| ?_
                have hS : Has 79 [(59, (.bool ((v39.n : Int) != 0))), (3, (.pointer v1)), (6, (.int .i64 v12))] _ := ha.sub ⟨rfl, rfl, rfl, trivial⟩
                exact hk46 (((v39.n : Int) != 0), w41) h _ hS
          · refine wp_skip <| ?_
            have hS : Has 79 [(3, (.pointer v1)), (6, (.int .i64 v12))] _ := ha.sub ⟨rfl, rfl, trivial⟩
            exact hk33 w36 h _ hS
  · refine region_lit <| qm ha rfl fun a ha => q ha (d_not ha rfl) fun a ha => qm ha rfl fun a ha => ?_
    refine ite_n h (fun b10 h => ?_) (fun b10 h => ?_)
    · refine qn ha 20 (tn b10) fun a ha => qn ha 20 (tn b10) fun a ha => q ha (d_pick_t ha rfl b10 rfl) fun a ha => s_nil <| ?_
      have hS : Has 79 [(23, (.bool true)), (3, (.pointer v1))] _ := ha.sub ⟨rfl, rfl, trivial⟩
      exact hk9 (true, w4) h _ hS
    · refine qg ha 20 (nt b10) (d_move ha rfl) fun a ha => qg ha 20 (nt b10) (d_eqN ha rfl rfl Try.runUnderlying24) fun a ha => q ha (d_pick_f ha rfl b10 rfl) fun a ha => s_nil <| ?_
      have hS : Has 79 [(23, (.bool (v1.isNone))), (3, (.pointer v1))] _ := ha.sub ⟨rfl, rfl, trivial⟩
      exact hk9 ((v1.isNone), w4) h _ hS

noncomputable def grapevinelaw12_same_l1 (a0 : Option Addr) (a1 : Option Addr) (x39 : Int) (w40 : World) : Option ((Int × World) ⊕ ((World) ⊕ (Bool × World))) :=
  if (decide (x39 ≤ 65)) = true then
  (bind3 (wheel_Wheel_At a0 x39 w40) fun v50 v51 w52 =>
  bind3 (grapevineref12_Wheel_At a1 x39 w52) fun v54 v55 w56 =>
  bind2 (if (v50 != v54) = true then
  (some (true, w56))
  else
  (some ((v51 != v55), w56))) fun v58 w59 =>
  if v58 = true then
  (some (.inr (.inr (false, w59))))
  else
  (some (.inl ((IntKind.wrap .i64 (x39 + 1)), w59))))
  else
  (some (.inr (.inl w40)))
noncomputable def grapevinelaw12_same (a0 : Option Addr) (a1 : Option Addr) (w : World) : Option (Bool × World) :=
  bind3 (wheel_Wheel_Next a0 w) fun v1 v2 w3 =>
  bind3 (grapevineref12_Wheel_Next a1 w3) fun v5 v6 w7 =>
  bind2 ((dr w7).bind fun w13 =>
  bind2 (wheel_Wheel_Now a0 w13) fun v15 w16 =>
  (a1).bind fun p18 =>
  (ldI .i64 w16 (p18.add 0)).bind fun v20 =>
  if (v15 != v20) = true then
  (chk (ldI .i64 w13 (p18.add 0) = some v20) <|
  some (true, w16))
  else
  (if (v1 != v5) = true then
  (chk (ldI .i64 w13 (p18.add 0) = some v20) <|
  some (true, w16))
  else
  (if (v2 != v6) = true then
  (chk (ldI .i64 w13 (p18.add 0) = some v20) <|
  some (true, w16))
  else
  (bind2 (wheel_Wheel_Ids a0 w16) fun v28 w29 =>
  bind2 (grapevineref12_Wheel_Ids a1 w29) fun v31 w32 =>
  bind2 (grapevineref12_Same v28 v31 w32) fun v34 w35 =>
  chk (ldI .i64 w13 (p18.add 0) = some v20) <|
  some ((!v34), w35))))) fun v9 w10 =>
  if v9 = true then
  (some (false, w10))
  else
  ((loopF (fun s : Int × World => grapevinelaw12_same_l1 a0 a1 s.1 s.2) ((-1), w10)).bind fun r41 => Sum.elim (fun (i : World) => u1 i fun w43 =>
  some (true, w43)) (fun (i : Bool × World) => u2 i fun v44 w45 =>
  some (v44, w45)) r41)
set_option maxHeartbeats 1000000 in
set_option maxRecDepth 100000 in
theorem grapevinelaw12_same_ok {a0 : Option Addr} {a1 : Option Addr} {w w' : World} {r0 : Bool} (h : grapevinelaw12_same a0 a1 w = some (r0, w')) : Calls Try.prog 26 #[(.pointer a0), (.pointer a1)] w fun e w'' => e = .returned (.bool r0) ∧ w'' = w' := by
  refine calls_dec (n := 73) Try.func26 rfl Try.ntmps26 (by simp) fun a ha => ?_
  unfold grapevinelaw12_same at h
  refine wp_seq <| region_lit <| qa ha rfl fun a ha => s_nil <| t_n <| wp_seq <| region_lit <| qm ha rfl fun a ha => ?_
  obtain ⟨v1, v2, w3, e4, h⟩ := bs3 h
  refine q ha (d_call (xs := [_]) (vs := [(.pointer a0)]) ha ⟨rfl, trivial⟩ Try.call25 (wheel_Wheel_Next_ok e4)) fun a ha => qm ha rfl fun a ha => q ha (d_ext ha rfl rfl) fun a ha => q ha (d_ext ha rfl rfl) fun a ha => qa ha rfl fun a ha => qa ha rfl fun a ha => s_nil <| t_n <| wp_seq <| region_lit <| qm ha rfl fun a ha => ?_
  obtain ⟨v5, v6, w7, e8, h⟩ := bs3 h
  refine q ha (d_call (xs := [_]) (vs := [(.pointer a1)]) ha ⟨rfl, trivial⟩ Try.call61 (grapevineref12_Wheel_Next_ok e8)) fun a ha => qm ha rfl fun a ha => q ha (d_ext ha rfl rfl) fun a ha => q ha (d_ext ha rfl rfl) fun a ha => qa ha rfl fun a ha => qa ha rfl fun a ha => s_nil <| t_n <| wp_seq <| wp_seq <| ?_
  obtain ⟨v9, w10, e11, h⟩ := bs2 h
  refine reg_join (n := 73) (L := [(48, (.bool v9)), (0, (.pointer a0)), (1, (.pointer a1))]) (w' := w10) (fun a ha => ?_) (fun hk12 => ?_)
  · refine t_n <| ?_
    refine s_cond ha rfl h (fun b38 h => ?_) (fun b38 h => ?_)
    · refine wp_seq <| region_lit <| qa ha rfl fun a ha => s_nil <| t_n <| wp_ret <| t_r <| ?_
      have hS := ha
      cases h
      exact ret1 Try.results26 hS rfl ⟨rfl, rfl⟩
    · refine wp_skip <| t_n <| wp_seq <| wp_seq <| region_lit <| qa ha rfl fun a ha => s_nil <| t_n <| wp_block <| ?_
      obtain ⟨r41, e42, h⟩ := bs1 h
      refine s_loop2 (n := 73) (L1 := fun i => []) (w1 := fun i => i) (L2 := fun i => [(4, (.bool i.1))]) (w2 := fun i => i.2) (e1 := .exit 0) (e2 := .ret) (I := fun (s : Int × World) a w => Has 73 [(9, (.int .i64 s.1)), (0, (.pointer a0)), (1, (.pointer a1))] a ∧ w = s.2) ⟨ha.sub ⟨rfl, rfl, rfl, trivial⟩, rfl⟩ e42 (fun i hi a ha => ?_) (fun i hi a ha => ?_) (fun hk46 hk47 => ?_)
      · subst hi
        obtain ⟨w43, rfl⟩ : ∃ x, x = i := ⟨i, rfl⟩
        dsimp only [Sum.elim_inl, Sum.elim_inr, u1, u2, u3, u4, u5, u6] at h
        have ha : Has 73 [] a := ha
        refine b_hit <| t_n <| wp_seq <| region_lit <| qa ha rfl fun a ha => s_nil <| t_n <| wp_ret <| ?_
        have hS := ha
        cases h
        exact ret1 Try.results26 hS rfl ⟨rfl, rfl⟩
      · subst hi
        obtain ⟨v44, w45⟩ := i
        dsimp only [Sum.elim_inl, Sum.elim_inr, u1, u2, u3, u4, u5, u6] at h
        have ha : Has 73 [(4, (.bool v44))] a := ha
        refine b_r <| t_r <| ?_
        have hS := ha
        cases h
        exact ret1 Try.results26 hS rfl ⟨rfl, rfl⟩
      · clear h
        rintro ⟨x39, w40⟩ a wq o ⟨ha, hwq⟩ h hr48
        obtain rfl : w40 = wq := hwq.symm
        have ha : Has 73 [(9, (.int .i64 x39)), (0, (.pointer a0)), (1, (.pointer a1))] a := ha
        have h : grapevinelaw12_same_l1 a0 a1 x39 w40 = some o := h
        unfold grapevinelaw12_same_l1 at h
        refine wp_seq <| wp_seq <| region_lit <| qm ha rfl fun a ha => q ha (d_le ha rfl rfl) fun a ha => s_nil <| t_n <| ?_
        refine s_cond ha rfl h (fun b49 h => ?_) (fun b49 h => ?_)
        · refine wp_skip <| t_n <| wp_seq <| wp_block <| wp_seq <| region_lit <| qm ha rfl fun a ha => qm ha rfl fun a ha => ?_
          obtain ⟨v50, v51, w52, e53, h⟩ := bs3 h
          refine q ha (d_call (xs := [_, _]) (vs := [(.pointer a0), (.int .i64 x39)]) ha ⟨rfl, rfl, trivial⟩ Try.call29 (wheel_Wheel_At_ok e53)) fun a ha => qm ha rfl fun a ha => q ha (d_ext ha rfl rfl) fun a ha => q ha (d_ext ha rfl rfl) fun a ha => qa ha rfl fun a ha => qa ha rfl fun a ha => s_nil <| t_n <| wp_seq <| region_lit <| qm ha rfl fun a ha => qm ha rfl fun a ha => ?_
          obtain ⟨v54, v55, w56, e57, h⟩ := bs3 h
          refine q ha (d_call (xs := [_, _]) (vs := [(.pointer a1), (.int .i64 x39)]) ha ⟨rfl, rfl, trivial⟩ Try.call63 (grapevineref12_Wheel_At_ok e57)) fun a ha => qm ha rfl fun a ha => q ha (d_ext ha rfl rfl) fun a ha => q ha (d_ext ha rfl rfl) fun a ha => qa ha rfl fun a ha => qa ha rfl fun a ha => s_nil <| t_n <| wp_seq <| ?_
          obtain ⟨v58, w59, e60, h⟩ := bs2 h
          refine reg_join (n := 73) (L := [(72, (.bool v58)), (0, (.pointer a0)), (1, (.pointer a1)), (9, (.int .i64 x39))]) (w' := w59) (fun a ha => ?_) (fun hk61 => ?_)
          · refine t_n <| ?_
            refine s_cond ha rfl h (fun b63 h => ?_) (fun b63 h => ?_)
            · refine wp_seq <| region_lit <| qa ha rfl fun a ha => s_nil <| t_n <| wp_ret <| b_r <| t_r <| ?_
              have hS : Has 73 [(4, (.bool false))] _ := ha.sub ⟨rfl, trivial⟩
              cases h
              cases hr48 _ rfl
              refine lp_r <| ?_
              exact hk47 _ rfl _ hS
            · refine wp_skip <| b_n <| t_n <| region_lit <| qm ha rfl fun a ha => q ha (d_add ha rfl rfl) fun a ha => qa ha rfl fun a ha => s_nil <| ?_
              have hS : Has 73 [(9, (.int .i64 (IntKind.wrap .i64 (x39 + 1)))), (0, (.pointer a0)), (1, (.pointer a1))] _ := ha.sub ⟨rfl, rfl, rfl, trivial⟩
              cases h
              exact lp_next ⟨hS, rfl⟩
          · clear h
            have h := e60
            refine region_lit <| qm ha rfl fun a ha => qm ha rfl fun a ha => q ha (d_ne ha rfl rfl) fun a ha => qm ha rfl fun a ha => ?_
            refine ite_s h (fun b62 h => ?_) (fun b62 h => ?_)
            · refine qn ha 68 (tn b62) fun a ha => qn ha 68 (tn b62) fun a ha => qn ha 68 (tn b62) fun a ha => q ha (d_pick_t ha rfl b62 rfl) fun a ha => s_nil <| ?_
              have hS : Has 73 [(72, (.bool true)), (0, (.pointer a0)), (1, (.pointer a1)), (9, (.int .i64 x39))] _ := ha.sub ⟨rfl, rfl, rfl, rfl, trivial⟩
              cases h
              exact hk61 _ hS
            · refine qg ha 68 (nt b62) (d_move ha rfl) fun a ha => qg ha 68 (nt b62) (d_move ha rfl) fun a ha => qg ha 68 (nt b62) (d_neB ha rfl rfl Try.runUnderlying4) fun a ha => q ha (d_pick_f ha rfl b62 rfl) fun a ha => s_nil <| ?_
              have hS : Has 73 [(72, (.bool (v51 != v55))), (0, (.pointer a0)), (1, (.pointer a1)), (9, (.int .i64 x39))] _ := ha.sub ⟨rfl, rfl, rfl, rfl, trivial⟩
              cases h
              exact hk61 _ hS
        · refine wp_exit <| t_x <| ?_
          have hS : Has 73 [] _ := ha.sub trivial
          cases h
          cases hr48 _ rfl
          refine lp_x <| ?_
          exact hk46 _ rfl _ hS
  · clear h
    have h := e11
    obtain ⟨w13, e14, h⟩ := bs1 h
    obtain ⟨v15, w16, e17, h⟩ := bs2 h
    obtain ⟨p18, e19, h⟩ := bs1 h
    obtain ⟨v20, e21, h⟩ := bs1 h
    refine ite_s h (fun b22 h => ?_) (fun b22 h => ?_)
    · obtain ⟨e23, h⟩ := chk_some h
      have ha : Has 73 [(0, (.pointer a0)), (1, (.pointer a1)), (5, (.int .i64 v1)), (6, (.bool v2)), (7, (.int .i64 v5)), (8, (.bool v6))] a := ha.sub ⟨rfl, rfl, rfl, rfl, rfl, rfl, trivial⟩
      refine region_draw (n := 73) (ds := (⟨_, (.pointer a0), false, 0, 0, [], [(0, (.pointer a0))]⟩ :: ⟨_, (.int .i64 v15), true, 0, 0, [0], [(24, (.pointer a0))]⟩ :: ⟨_, (.pointer a1), false, 0, 1, [], [(1, (.pointer a1))]⟩ :: ⟨_, (.pointer (some p18)), false, 0, 1, [2], [(26, (.pointer a1))]⟩ :: ⟨_, (.pointer (some (p18.add 0))), false, 0, 1, [2, 3], [(27, (.pointer (some p18)))]⟩ :: ⟨_, (.int .i64 v20), false, 0, 1, [2, 3, 4], [(28, (.pointer (some (p18.add 0))))]⟩ :: ⟨_, (.bool (v15 != v20)), false, 1, 1, [0, 1, 2, 3, 4, 5], [(25, (.int .i64 v15)), (29, (.int .i64 v20))]⟩ :: ⟨_, (.bool (v15 != v20)), false, 1, 1, [0, 1, 2, 3, 4, 5, 6], [(30, (.bool (v15 != v20)))]⟩ :: ⟨_, undef, false, 1, 1, [0, 1, 2, 3, 4, 5, 6, 7], [(31, (.bool (v15 != v20)))]⟩ :: ⟨_, undef, false, 1, 1, [0, 1, 2, 3, 4, 5, 6, 7], [(31, (.bool (v15 != v20)))]⟩ :: ⟨_, undef, false, 1, 1, [0, 1, 2, 3, 4, 5, 6, 7, 8, 9], [(31, (.bool (v15 != v20)))]⟩ :: ⟨_, (.bool true), false, 1, 1, [0, 1, 2, 3, 4, 5, 6, 7, 8, 9, 10], [(31, (.bool (v15 != v20))), (34, undef)]⟩ :: ⟨_, (.bool true), false, 1, 1, [0, 1, 2, 3, 4, 5, 6, 7, 8, 9, 10, 11], [(35, (.bool true))]⟩ :: ⟨_, undef, false, 1, 1, (0 :: 1 :: 2 :: 3 :: 4 :: 5 :: 6 :: 7 :: 8 :: 9 :: 10 :: 11 :: 12 :: []), [(36, (.bool true))]⟩ :: ⟨_, undef, false, 1, 1, (0 :: 1 :: 2 :: 3 :: 4 :: 5 :: 6 :: 7 :: 8 :: 9 :: 10 :: 11 :: 12 :: []), [(36, (.bool true))]⟩ :: ⟨_, undef, false, 1, 1, (0 :: 1 :: 2 :: 3 :: 4 :: 5 :: 6 :: 7 :: 8 :: 9 :: 10 :: 11 :: 12 :: 13 :: 14 :: []), [(36, (.bool true))]⟩ :: ⟨_, (.bool true), false, 1, 1, (0 :: 1 :: 2 :: 3 :: 4 :: 5 :: 6 :: 7 :: 8 :: 9 :: 10 :: 11 :: 12 :: 13 :: 14 :: 15 :: []), [(36, (.bool true)), (39, undef)]⟩ :: ⟨_, (.bool true), false, 1, 1, (0 :: 1 :: 2 :: 3 :: 4 :: 5 :: 6 :: 7 :: 8 :: 9 :: 10 :: 11 :: 12 :: 13 :: 14 :: 15 :: 16 :: []), [(40, (.bool true))]⟩ :: ⟨_, undef, false, 1, 1, (0 :: 1 :: 2 :: 3 :: 4 :: 5 :: 6 :: 7 :: 8 :: 9 :: 10 :: 11 :: 12 :: 13 :: 14 :: 15 :: 16 :: 17 :: []), [(41, (.bool true))]⟩ :: ⟨_, undef, false, 1, 1, (0 :: 1 :: 2 :: 3 :: 4 :: 5 :: 6 :: 7 :: 8 :: 9 :: 10 :: 11 :: 12 :: 13 :: 14 :: 15 :: 16 :: 17 :: 18 :: []), [(41, (.bool true))]⟩ :: ⟨_, undef, false, 1, 1, (0 :: 1 :: 2 :: 3 :: 4 :: 5 :: 6 :: 7 :: 8 :: 9 :: 10 :: 11 :: 12 :: 13 :: 14 :: 15 :: 16 :: 17 :: []), [(41, (.bool true))]⟩ :: ⟨_, undef, false, 1, 1, (0 :: 1 :: 2 :: 3 :: 4 :: 5 :: 6 :: 7 :: 8 :: 9 :: 10 :: 11 :: 12 :: 13 :: 14 :: 15 :: 16 :: 17 :: 18 :: 19 :: 20 :: []), [(41, (.bool true))]⟩ :: ⟨_, undef, false, 1, 1, (0 :: 1 :: 2 :: 3 :: 4 :: 5 :: 6 :: 7 :: 8 :: 9 :: 10 :: 11 :: 12 :: 13 :: 14 :: 15 :: 16 :: 17 :: 18 :: 19 :: 20 :: 21 :: []), [(41, (.bool true))]⟩ :: ⟨_, undef, false, 1, 1, (0 :: 1 :: 2 :: 3 :: 4 :: 5 :: 6 :: 7 :: 8 :: 9 :: 10 :: 11 :: 12 :: 13 :: 14 :: 15 :: 16 :: 17 :: 18 :: 19 :: 20 :: 21 :: 22 :: []), [(41, (.bool true))]⟩ :: ⟨_, (.bool true), false, 1, 1, (0 :: 1 :: 2 :: 3 :: 4 :: 5 :: 6 :: 7 :: 8 :: 9 :: 10 :: 11 :: 12 :: 13 :: 14 :: 15 :: 16 :: 17 :: 18 :: 19 :: 20 :: 21 :: 22 :: 23 :: []), [(41, (.bool true)), (47, undef)]⟩ :: [])) (W := (fun j => match j with | 0 => w13 | 1 => w16 | _ => w16)) (by kernel_rfl) ha (dr_w e14) (by kernel_rfl) ?_ (reads_of (by kernel_rfl)) (by kernel_rfl) (m := 1) (by kernel_rfl) (fun a ha => ?_)
      · refine ⟨?_, ?_, ?_, ?_, ?_, ?_, ?_, ?_, ?_, ?_, ?_, ?_, ?_, ?_, ?_, ?_, ?_, ?_, ?_, ?_, ?_, ?_, ?_, ?_, ?_, trivial⟩
        · exact oa fun j a ha => d_move ha rfl
        · exact oc 0 (ok_do rfl fun a ha => d_call (xs := [_]) (vs := [(.pointer a0)]) ha ⟨rfl, trivial⟩ Try.call22 (wheel_Wheel_Now_ok e17))
        · exact oa fun j a ha => d_move ha rfl
        · exact oa fun j a ha => d_nilp ha rfl e19
        · exact oa fun j a ha => d_fa ha rfl Try.runUnderlying107 rfl rfl Try.sizeOf3 (by decide)
        · intro j h1 h2; have h1 : 0 ≤ j := h1; have h2 : j ≤ 1 := h2; rcases (by omega : j = 0 ∨ j = 1) with rfl | rfl
          · exact ok_do rfl fun a ha => d_ld ha rfl Try.isAgg3 (ldI_c e23)
          · exact ok_do rfl fun a ha => d_ld ha rfl Try.isAgg3 (ldI_c e21)
        · exact oa fun j a ha => d_ne ha rfl rfl
        · exact oa fun j a ha => d_move ha rfl
        · exact on 31 (tn b22)
        · exact on 31 (tn b22)
        · exact on 31 (tn b22)
        · exact oa fun j a ha => d_pick_t ha rfl b22 rfl
        · exact oa fun j a ha => d_move ha rfl
        · exact on 36 (tn rfl)
        · exact on 36 (tn rfl)
        · exact on 36 (tn rfl)
        · exact oa fun j a ha => d_pick_t ha rfl rfl rfl
        · exact oa fun j a ha => d_move ha rfl
        · exact on 41 (tn rfl)
        · exact on 41 (tn rfl)
        · exact on 41 (tn rfl)
        · exact on 41 (tn rfl)
        · exact on 41 (tn rfl)
        · exact on 41 (tn rfl)
        · exact oa fun j a ha => d_pick_t ha rfl rfl rfl
      · have ha : Has 73 [(0, (.pointer a0)), (1, (.pointer a1)), (48, (.bool true))] a := ha.sub ⟨rfl, rfl, rfl, trivial⟩
        have hS : Has 73 [(48, (.bool true)), (0, (.pointer a0)), (1, (.pointer a1))] _ := ha.sub ⟨rfl, rfl, rfl, trivial⟩
        cases h
        exact hk12 _ hS
    · refine ite_s h (fun b24 h => ?_) (fun b24 h => ?_)
      · obtain ⟨e25, h⟩ := chk_some h
        have ha : Has 73 [(0, (.pointer a0)), (1, (.pointer a1)), (5, (.int .i64 v1)), (6, (.bool v2)), (7, (.int .i64 v5)), (8, (.bool v6))] a := ha.sub ⟨rfl, rfl, rfl, rfl, rfl, rfl, trivial⟩
        refine region_draw (n := 73) (ds := (⟨_, (.pointer a0), false, 0, 0, [], [(0, (.pointer a0))]⟩ :: ⟨_, (.int .i64 v15), true, 0, 0, [0], [(24, (.pointer a0))]⟩ :: ⟨_, (.pointer a1), false, 0, 1, [], [(1, (.pointer a1))]⟩ :: ⟨_, (.pointer (some p18)), false, 0, 1, [2], [(26, (.pointer a1))]⟩ :: ⟨_, (.pointer (some (p18.add 0))), false, 0, 1, [2, 3], [(27, (.pointer (some p18)))]⟩ :: ⟨_, (.int .i64 v20), false, 0, 1, [2, 3, 4], [(28, (.pointer (some (p18.add 0))))]⟩ :: ⟨_, (.bool (v15 != v20)), false, 1, 1, [0, 1, 2, 3, 4, 5], [(25, (.int .i64 v15)), (29, (.int .i64 v20))]⟩ :: ⟨_, (.bool (v15 != v20)), false, 1, 1, [0, 1, 2, 3, 4, 5, 6], [(30, (.bool (v15 != v20)))]⟩ :: ⟨_, (.int .i64 v1), false, 1, 1, [0, 1, 2, 3, 4, 5, 6, 7], [(5, (.int .i64 v1)), (31, (.bool (v15 != v20)))]⟩ :: ⟨_, (.int .i64 v5), false, 1, 1, [0, 1, 2, 3, 4, 5, 6, 7], [(7, (.int .i64 v5)), (31, (.bool (v15 != v20)))]⟩ :: ⟨_, (.bool (v1 != v5)), false, 1, 1, [0, 1, 2, 3, 4, 5, 6, 7, 8, 9], [(32, (.int .i64 v1)), (33, (.int .i64 v5)), (31, (.bool (v15 != v20)))]⟩ :: ⟨_, (.bool (v1 != v5)), false, 1, 1, [0, 1, 2, 3, 4, 5, 6, 7, 8, 9, 10], [(31, (.bool (v15 != v20))), (34, (.bool (v1 != v5)))]⟩ :: ⟨_, (.bool (v1 != v5)), false, 1, 1, [0, 1, 2, 3, 4, 5, 6, 7, 8, 9, 10, 11], [(35, (.bool (v1 != v5)))]⟩ :: ⟨_, undef, false, 1, 1, (0 :: 1 :: 2 :: 3 :: 4 :: 5 :: 6 :: 7 :: 8 :: 9 :: 10 :: 11 :: 12 :: []), [(36, (.bool (v1 != v5)))]⟩ :: ⟨_, undef, false, 1, 1, (0 :: 1 :: 2 :: 3 :: 4 :: 5 :: 6 :: 7 :: 8 :: 9 :: 10 :: 11 :: 12 :: []), [(36, (.bool (v1 != v5)))]⟩ :: ⟨_, undef, false, 1, 1, (0 :: 1 :: 2 :: 3 :: 4 :: 5 :: 6 :: 7 :: 8 :: 9 :: 10 :: 11 :: 12 :: 13 :: 14 :: []), [(36, (.bool (v1 != v5)))]⟩ :: ⟨_, (.bool true), false, 1, 1, (0 :: 1 :: 2 :: 3 :: 4 :: 5 :: 6 :: 7 :: 8 :: 9 :: 10 :: 11 :: 12 :: 13 :: 14 :: 15 :: []), [(36, (.bool (v1 != v5))), (39, undef)]⟩ :: ⟨_, (.bool true), false, 1, 1, (0 :: 1 :: 2 :: 3 :: 4 :: 5 :: 6 :: 7 :: 8 :: 9 :: 10 :: 11 :: 12 :: 13 :: 14 :: 15 :: 16 :: []), [(40, (.bool true))]⟩ :: ⟨_, undef, false, 1, 1, (0 :: 1 :: 2 :: 3 :: 4 :: 5 :: 6 :: 7 :: 8 :: 9 :: 10 :: 11 :: 12 :: 13 :: 14 :: 15 :: 16 :: 17 :: []), [(41, (.bool true))]⟩ :: ⟨_, undef, false, 1, 1, (0 :: 1 :: 2 :: 3 :: 4 :: 5 :: 6 :: 7 :: 8 :: 9 :: 10 :: 11 :: 12 :: 13 :: 14 :: 15 :: 16 :: 17 :: 18 :: []), [(41, (.bool true))]⟩ :: ⟨_, undef, false, 1, 1, (0 :: 1 :: 2 :: 3 :: 4 :: 5 :: 6 :: 7 :: 8 :: 9 :: 10 :: 11 :: 12 :: 13 :: 14 :: 15 :: 16 :: 17 :: []), [(41, (.bool true))]⟩ :: ⟨_, undef, false, 1, 1, (0 :: 1 :: 2 :: 3 :: 4 :: 5 :: 6 :: 7 :: 8 :: 9 :: 10 :: 11 :: 12 :: 13 :: 14 :: 15 :: 16 :: 17 :: 18 :: 19 :: 20 :: []), [(41, (.bool true))]⟩ :: ⟨_, undef, false, 1, 1, (0 :: 1 :: 2 :: 3 :: 4 :: 5 :: 6 :: 7 :: 8 :: 9 :: 10 :: 11 :: 12 :: 13 :: 14 :: 15 :: 16 :: 17 :: 18 :: 19 :: 20 :: 21 :: []), [(41, (.bool true))]⟩ :: ⟨_, undef, false, 1, 1, (0 :: 1 :: 2 :: 3 :: 4 :: 5 :: 6 :: 7 :: 8 :: 9 :: 10 :: 11 :: 12 :: 13 :: 14 :: 15 :: 16 :: 17 :: 18 :: 19 :: 20 :: 21 :: 22 :: []), [(41, (.bool true))]⟩ :: ⟨_, (.bool true), false, 1, 1, (0 :: 1 :: 2 :: 3 :: 4 :: 5 :: 6 :: 7 :: 8 :: 9 :: 10 :: 11 :: 12 :: 13 :: 14 :: 15 :: 16 :: 17 :: 18 :: 19 :: 20 :: 21 :: 22 :: 23 :: []), [(41, (.bool true)), (47, undef)]⟩ :: [])) (W := (fun j => match j with | 0 => w13 | 1 => w16 | _ => w16)) (by kernel_rfl) ha (dr_w e14) (by kernel_rfl) ?_ (reads_of (by kernel_rfl)) (by kernel_rfl) (m := 1) (by kernel_rfl) (fun a ha => ?_)
        · refine ⟨?_, ?_, ?_, ?_, ?_, ?_, ?_, ?_, ?_, ?_, ?_, ?_, ?_, ?_, ?_, ?_, ?_, ?_, ?_, ?_, ?_, ?_, ?_, ?_, ?_, trivial⟩
          · exact oa fun j a ha => d_move ha rfl
          · exact oc 0 (ok_do rfl fun a ha => d_call (xs := [_]) (vs := [(.pointer a0)]) ha ⟨rfl, trivial⟩ Try.call22 (wheel_Wheel_Now_ok e17))
          · exact oa fun j a ha => d_move ha rfl
          · exact oa fun j a ha => d_nilp ha rfl e19
          · exact oa fun j a ha => d_fa ha rfl Try.runUnderlying107 rfl rfl Try.sizeOf3 (by decide)
          · intro j h1 h2; have h1 : 0 ≤ j := h1; have h2 : j ≤ 1 := h2; rcases (by omega : j = 0 ∨ j = 1) with rfl | rfl
            · exact ok_do rfl fun a ha => d_ld ha rfl Try.isAgg3 (ldI_c e25)
            · exact ok_do rfl fun a ha => d_ld ha rfl Try.isAgg3 (ldI_c e21)
          · exact oa fun j a ha => d_ne ha rfl rfl
          · exact oa fun j a ha => d_move ha rfl
          · exact oag 31 (nt b22) fun j a ha => d_move ha rfl
          · exact oag 31 (nt b22) fun j a ha => d_move ha rfl
          · exact oag 31 (nt b22) fun j a ha => d_ne ha rfl rfl
          · exact oa fun j a ha => d_pick_f ha rfl b22 rfl
          · exact oa fun j a ha => d_move ha rfl
          · exact on 36 (tn b24)
          · exact on 36 (tn b24)
          · exact on 36 (tn b24)
          · exact oa fun j a ha => d_pick_t ha rfl b24 rfl
          · exact oa fun j a ha => d_move ha rfl
          · exact on 41 (tn rfl)
          · exact on 41 (tn rfl)
          · exact on 41 (tn rfl)
          · exact on 41 (tn rfl)
          · exact on 41 (tn rfl)
          · exact on 41 (tn rfl)
          · exact oa fun j a ha => d_pick_t ha rfl rfl rfl
        · have ha : Has 73 [(0, (.pointer a0)), (1, (.pointer a1)), (48, (.bool true))] a := ha.sub ⟨rfl, rfl, rfl, trivial⟩
          have hS : Has 73 [(48, (.bool true)), (0, (.pointer a0)), (1, (.pointer a1))] _ := ha.sub ⟨rfl, rfl, rfl, trivial⟩
          cases h
          exact hk12 _ hS
      · refine ite_s h (fun b26 h => ?_) (fun b26 h => ?_)
        · obtain ⟨e27, h⟩ := chk_some h
          have ha : Has 73 [(0, (.pointer a0)), (1, (.pointer a1)), (5, (.int .i64 v1)), (6, (.bool v2)), (7, (.int .i64 v5)), (8, (.bool v6))] a := ha.sub ⟨rfl, rfl, rfl, rfl, rfl, rfl, trivial⟩
          refine region_draw (n := 73) (ds := (⟨_, (.pointer a0), false, 0, 0, [], [(0, (.pointer a0))]⟩ :: ⟨_, (.int .i64 v15), true, 0, 0, [0], [(24, (.pointer a0))]⟩ :: ⟨_, (.pointer a1), false, 0, 1, [], [(1, (.pointer a1))]⟩ :: ⟨_, (.pointer (some p18)), false, 0, 1, [2], [(26, (.pointer a1))]⟩ :: ⟨_, (.pointer (some (p18.add 0))), false, 0, 1, [2, 3], [(27, (.pointer (some p18)))]⟩ :: ⟨_, (.int .i64 v20), false, 0, 1, [2, 3, 4], [(28, (.pointer (some (p18.add 0))))]⟩ :: ⟨_, (.bool (v15 != v20)), false, 1, 1, [0, 1, 2, 3, 4, 5], [(25, (.int .i64 v15)), (29, (.int .i64 v20))]⟩ :: ⟨_, (.bool (v15 != v20)), false, 1, 1, [0, 1, 2, 3, 4, 5, 6], [(30, (.bool (v15 != v20)))]⟩ :: ⟨_, (.int .i64 v1), false, 1, 1, [0, 1, 2, 3, 4, 5, 6, 7], [(5, (.int .i64 v1)), (31, (.bool (v15 != v20)))]⟩ :: ⟨_, (.int .i64 v5), false, 1, 1, [0, 1, 2, 3, 4, 5, 6, 7], [(7, (.int .i64 v5)), (31, (.bool (v15 != v20)))]⟩ :: ⟨_, (.bool (v1 != v5)), false, 1, 1, [0, 1, 2, 3, 4, 5, 6, 7, 8, 9], [(32, (.int .i64 v1)), (33, (.int .i64 v5)), (31, (.bool (v15 != v20)))]⟩ :: ⟨_, (.bool (v1 != v5)), false, 1, 1, [0, 1, 2, 3, 4, 5, 6, 7, 8, 9, 10], [(31, (.bool (v15 != v20))), (34, (.bool (v1 != v5)))]⟩ :: ⟨_, (.bool (v1 != v5)), false, 1, 1, [0, 1, 2, 3, 4, 5, 6, 7, 8, 9, 10, 11], [(35, (.bool (v1 != v5)))]⟩ :: ⟨_, (.bool v2), false, 1, 1, (0 :: 1 :: 2 :: 3 :: 4 :: 5 :: 6 :: 7 :: 8 :: 9 :: 10 :: 11 :: 12 :: []), [(6, (.bool v2)), (36, (.bool (v1 != v5)))]⟩ :: ⟨_, (.bool v6), false, 1, 1, (0 :: 1 :: 2 :: 3 :: 4 :: 5 :: 6 :: 7 :: 8 :: 9 :: 10 :: 11 :: 12 :: []), [(8, (.bool v6)), (36, (.bool (v1 != v5)))]⟩ :: ⟨_, (.bool (v2 != v6)), false, 1, 1, (0 :: 1 :: 2 :: 3 :: 4 :: 5 :: 6 :: 7 :: 8 :: 9 :: 10 :: 11 :: 12 :: 13 :: 14 :: []), [(37, (.bool v2)), (38, (.bool v6)), (36, (.bool (v1 != v5)))]⟩ :: ⟨_, (.bool (v2 != v6)), false, 1, 1, (0 :: 1 :: 2 :: 3 :: 4 :: 5 :: 6 :: 7 :: 8 :: 9 :: 10 :: 11 :: 12 :: 13 :: 14 :: 15 :: []), [(36, (.bool (v1 != v5))), (39, (.bool (v2 != v6)))]⟩ :: ⟨_, (.bool (v2 != v6)), false, 1, 1, (0 :: 1 :: 2 :: 3 :: 4 :: 5 :: 6 :: 7 :: 8 :: 9 :: 10 :: 11 :: 12 :: 13 :: 14 :: 15 :: 16 :: []), [(40, (.bool (v2 != v6)))]⟩ :: ⟨_, undef, false, 1, 1, (0 :: 1 :: 2 :: 3 :: 4 :: 5 :: 6 :: 7 :: 8 :: 9 :: 10 :: 11 :: 12 :: 13 :: 14 :: 15 :: 16 :: 17 :: []), [(41, (.bool (v2 != v6)))]⟩ :: ⟨_, undef, false, 1, 1, (0 :: 1 :: 2 :: 3 :: 4 :: 5 :: 6 :: 7 :: 8 :: 9 :: 10 :: 11 :: 12 :: 13 :: 14 :: 15 :: 16 :: 17 :: 18 :: []), [(41, (.bool (v2 != v6)))]⟩ :: ⟨_, undef, false, 1, 1, (0 :: 1 :: 2 :: 3 :: 4 :: 5 :: 6 :: 7 :: 8 :: 9 :: 10 :: 11 :: 12 :: 13 :: 14 :: 15 :: 16 :: 17 :: []), [(41, (.bool (v2 != v6)))]⟩ :: ⟨_, undef, false, 1, 1, (0 :: 1 :: 2 :: 3 :: 4 :: 5 :: 6 :: 7 :: 8 :: 9 :: 10 :: 11 :: 12 :: 13 :: 14 :: 15 :: 16 :: 17 :: 18 :: 19 :: 20 :: []), [(41, (.bool (v2 != v6)))]⟩ :: ⟨_, undef, false, 1, 1, (0 :: 1 :: 2 :: 3 :: 4 :: 5 :: 6 :: 7 :: 8 :: 9 :: 10 :: 11 :: 12 :: 13 :: 14 :: 15 :: 16 :: 17 :: 18 :: 19 :: 20 :: 21 :: []), [(41, (.bool (v2 != v6)))]⟩ :: ⟨_, undef, false, 1, 1, (0 :: 1 :: 2 :: 3 :: 4 :: 5 :: 6 :: 7 :: 8 :: 9 :: 10 :: 11 :: 12 :: 13 :: 14 :: 15 :: 16 :: 17 :: 18 :: 19 :: 20 :: 21 :: 22 :: []), [(41, (.bool (v2 != v6)))]⟩ :: ⟨_, (.bool true), false, 1, 1, (0 :: 1 :: 2 :: 3 :: 4 :: 5 :: 6 :: 7 :: 8 :: 9 :: 10 :: 11 :: 12 :: 13 :: 14 :: 15 :: 16 :: 17 :: 18 :: 19 :: 20 :: 21 :: 22 :: 23 :: []), [(41, (.bool (v2 != v6))), (47, undef)]⟩ :: [])) (W := (fun j => match j with | 0 => w13 | 1 => w16 | _ => w16)) (by kernel_rfl) ha (dr_w e14) (by kernel_rfl) ?_ (reads_of (by kernel_rfl)) (by kernel_rfl) (m := 1) (by kernel_rfl) (fun a ha => ?_)
          · refine ⟨?_, ?_, ?_, ?_, ?_, ?_, ?_, ?_, ?_, ?_, ?_, ?_, ?_, ?_, ?_, ?_, ?_, ?_, ?_, ?_, ?_, ?_, ?_, ?_, ?_, trivial⟩
            · exact oa fun j a ha => d_move ha rfl
            · exact oc 0 (ok_do rfl fun a ha => d_call (xs := [_]) (vs := [(.pointer a0)]) ha ⟨rfl, trivial⟩ Try.call22 (wheel_Wheel_Now_ok e17))
            · exact oa fun j a ha => d_move ha rfl
            · exact oa fun j a ha => d_nilp ha rfl e19
            · exact oa fun j a ha => d_fa ha rfl Try.runUnderlying107 rfl rfl Try.sizeOf3 (by decide)
            · intro j h1 h2; have h1 : 0 ≤ j := h1; have h2 : j ≤ 1 := h2; rcases (by omega : j = 0 ∨ j = 1) with rfl | rfl
              · exact ok_do rfl fun a ha => d_ld ha rfl Try.isAgg3 (ldI_c e27)
              · exact ok_do rfl fun a ha => d_ld ha rfl Try.isAgg3 (ldI_c e21)
            · exact oa fun j a ha => d_ne ha rfl rfl
            · exact oa fun j a ha => d_move ha rfl
            · exact oag 31 (nt b22) fun j a ha => d_move ha rfl
            · exact oag 31 (nt b22) fun j a ha => d_move ha rfl
            · exact oag 31 (nt b22) fun j a ha => d_ne ha rfl rfl
            · exact oa fun j a ha => d_pick_f ha rfl b22 rfl
            · exact oa fun j a ha => d_move ha rfl
            · exact oag 36 (nt b24) fun j a ha => d_move ha rfl
            · exact oag 36 (nt b24) fun j a ha => d_move ha rfl
            · exact oag 36 (nt b24) fun j a ha => d_neB ha rfl rfl Try.runUnderlying4
            · exact oa fun j a ha => d_pick_f ha rfl b24 rfl
            · exact oa fun j a ha => d_move ha rfl
            · exact on 41 (tn b26)
            · exact on 41 (tn b26)
            · exact on 41 (tn b26)
            · exact on 41 (tn b26)
            · exact on 41 (tn b26)
            · exact on 41 (tn b26)
            · exact oa fun j a ha => d_pick_t ha rfl b26 rfl
          · have ha : Has 73 [(0, (.pointer a0)), (1, (.pointer a1)), (48, (.bool true))] a := ha.sub ⟨rfl, rfl, rfl, trivial⟩
            have hS : Has 73 [(48, (.bool true)), (0, (.pointer a0)), (1, (.pointer a1))] _ := ha.sub ⟨rfl, rfl, rfl, trivial⟩
            cases h
            exact hk12 _ hS
        · obtain ⟨v28, w29, e30, h⟩ := bs2 h
          obtain ⟨v31, w32, e33, h⟩ := bs2 h
          obtain ⟨v34, w35, e36, h⟩ := bs2 h
          obtain ⟨e37, h⟩ := chk_some h
          have ha : Has 73 [(0, (.pointer a0)), (1, (.pointer a1)), (5, (.int .i64 v1)), (6, (.bool v2)), (7, (.int .i64 v5)), (8, (.bool v6))] a := ha.sub ⟨rfl, rfl, rfl, rfl, rfl, rfl, trivial⟩
          refine region_draw (n := 73) (ds := (⟨_, (.pointer a0), false, 0, 0, [], [(0, (.pointer a0))]⟩ :: ⟨_, (.int .i64 v15), true, 0, 0, [0], [(24, (.pointer a0))]⟩ :: ⟨_, (.pointer a1), false, 0, 1, [], [(1, (.pointer a1))]⟩ :: ⟨_, (.pointer (some p18)), false, 0, 1, [2], [(26, (.pointer a1))]⟩ :: ⟨_, (.pointer (some (p18.add 0))), false, 0, 1, [2, 3], [(27, (.pointer (some p18)))]⟩ :: ⟨_, (.int .i64 v20), false, 0, 1, [2, 3, 4], [(28, (.pointer (some (p18.add 0))))]⟩ :: ⟨_, (.bool (v15 != v20)), false, 1, 1, [0, 1, 2, 3, 4, 5], [(25, (.int .i64 v15)), (29, (.int .i64 v20))]⟩ :: ⟨_, (.bool (v15 != v20)), false, 1, 1, [0, 1, 2, 3, 4, 5, 6], [(30, (.bool (v15 != v20)))]⟩ :: ⟨_, (.int .i64 v1), false, 1, 1, [0, 1, 2, 3, 4, 5, 6, 7], [(5, (.int .i64 v1)), (31, (.bool (v15 != v20)))]⟩ :: ⟨_, (.int .i64 v5), false, 1, 1, [0, 1, 2, 3, 4, 5, 6, 7], [(7, (.int .i64 v5)), (31, (.bool (v15 != v20)))]⟩ :: ⟨_, (.bool (v1 != v5)), false, 1, 1, [0, 1, 2, 3, 4, 5, 6, 7, 8, 9], [(32, (.int .i64 v1)), (33, (.int .i64 v5)), (31, (.bool (v15 != v20)))]⟩ :: ⟨_, (.bool (v1 != v5)), false, 1, 1, [0, 1, 2, 3, 4, 5, 6, 7, 8, 9, 10], [(31, (.bool (v15 != v20))), (34, (.bool (v1 != v5)))]⟩ :: ⟨_, (.bool (v1 != v5)), false, 1, 1, [0, 1, 2, 3, 4, 5, 6, 7, 8, 9, 10, 11], [(35, (.bool (v1 != v5)))]⟩ :: ⟨_, (.bool v2), false, 1, 1, (0 :: 1 :: 2 :: 3 :: 4 :: 5 :: 6 :: 7 :: 8 :: 9 :: 10 :: 11 :: 12 :: []), [(6, (.bool v2)), (36, (.bool (v1 != v5)))]⟩ :: ⟨_, (.bool v6), false, 1, 1, (0 :: 1 :: 2 :: 3 :: 4 :: 5 :: 6 :: 7 :: 8 :: 9 :: 10 :: 11 :: 12 :: []), [(8, (.bool v6)), (36, (.bool (v1 != v5)))]⟩ :: ⟨_, (.bool (v2 != v6)), false, 1, 1, (0 :: 1 :: 2 :: 3 :: 4 :: 5 :: 6 :: 7 :: 8 :: 9 :: 10 :: 11 :: 12 :: 13 :: 14 :: []), [(37, (.bool v2)), (38, (.bool v6)), (36, (.bool (v1 != v5)))]⟩ :: ⟨_, (.bool (v2 != v6)), false, 1, 1, (0 :: 1 :: 2 :: 3 :: 4 :: 5 :: 6 :: 7 :: 8 :: 9 :: 10 :: 11 :: 12 :: 13 :: 14 :: 15 :: []), [(36, (.bool (v1 != v5))), (39, (.bool (v2 != v6)))]⟩ :: ⟨_, (.bool (v2 != v6)), false, 1, 1, (0 :: 1 :: 2 :: 3 :: 4 :: 5 :: 6 :: 7 :: 8 :: 9 :: 10 :: 11 :: 12 :: 13 :: 14 :: 15 :: 16 :: []), [(40, (.bool (v2 != v6)))]⟩ :: ⟨_, (.pointer a0), false, 1, 1, (0 :: 1 :: 2 :: 3 :: 4 :: 5 :: 6 :: 7 :: 8 :: 9 :: 10 :: 11 :: 12 :: 13 :: 14 :: 15 :: 16 :: 17 :: []), [(0, (.pointer a0)), (41, (.bool (v2 != v6)))]⟩ :: ⟨_, (Sl.v v28), true, 1, 1, (0 :: 1 :: 2 :: 3 :: 4 :: 5 :: 6 :: 7 :: 8 :: 9 :: 10 :: 11 :: 12 :: 13 :: 14 :: 15 :: 16 :: 17 :: 18 :: []), [(42, (.pointer a0)), (41, (.bool (v2 != v6)))]⟩ :: ⟨_, (.pointer a1), false, 1, 2, (0 :: 1 :: 2 :: 3 :: 4 :: 5 :: 6 :: 7 :: 8 :: 9 :: 10 :: 11 :: 12 :: 13 :: 14 :: 15 :: 16 :: 17 :: []), [(1, (.pointer a1)), (41, (.bool (v2 != v6)))]⟩ :: ⟨_, (Sl.v v31), true, 2, 2, (0 :: 1 :: 2 :: 3 :: 4 :: 5 :: 6 :: 7 :: 8 :: 9 :: 10 :: 11 :: 12 :: 13 :: 14 :: 15 :: 16 :: 17 :: 18 :: 19 :: 20 :: []), [(44, (.pointer a1)), (41, (.bool (v2 != v6)))]⟩ :: ⟨_, (.bool v34), true, 3, 3, (0 :: 1 :: 2 :: 3 :: 4 :: 5 :: 6 :: 7 :: 8 :: 9 :: 10 :: 11 :: 12 :: 13 :: 14 :: 15 :: 16 :: 17 :: 18 :: 19 :: 20 :: 21 :: []), [(43, (Sl.v v28)), (45, (Sl.v v31)), (41, (.bool (v2 != v6)))]⟩ :: ⟨_, (.bool (!v34)), false, 4, 4, (0 :: 1 :: 2 :: 3 :: 4 :: 5 :: 6 :: 7 :: 8 :: 9 :: 10 :: 11 :: 12 :: 13 :: 14 :: 15 :: 16 :: 17 :: 18 :: 19 :: 20 :: 21 :: 22 :: []), [(46, (.bool v34)), (41, (.bool (v2 != v6)))]⟩ :: ⟨_, (.bool (!v34)), false, 4, 4, (0 :: 1 :: 2 :: 3 :: 4 :: 5 :: 6 :: 7 :: 8 :: 9 :: 10 :: 11 :: 12 :: 13 :: 14 :: 15 :: 16 :: 17 :: 18 :: 19 :: 20 :: 21 :: 22 :: 23 :: []), [(41, (.bool (v2 != v6))), (47, (.bool (!v34)))]⟩ :: [])) (W := (fun j => match j with | 0 => w13 | 1 => w16 | 2 => w29 | 3 => w32 | 4 => w35 | _ => w35)) (by kernel_rfl) ha (dr_w e14) (by kernel_rfl) ?_ (reads_of (by kernel_rfl)) (by kernel_rfl) (m := 4) (by kernel_rfl) (fun a ha => ?_)
          · refine ⟨?_, ?_, ?_, ?_, ?_, ?_, ?_, ?_, ?_, ?_, ?_, ?_, ?_, ?_, ?_, ?_, ?_, ?_, ?_, ?_, ?_, ?_, ?_, ?_, ?_, trivial⟩
            · exact oa fun j a ha => d_move ha rfl
            · exact oc 0 (ok_do rfl fun a ha => d_call (xs := [_]) (vs := [(.pointer a0)]) ha ⟨rfl, trivial⟩ Try.call22 (wheel_Wheel_Now_ok e17))
            · exact oa fun j a ha => d_move ha rfl
            · exact oa fun j a ha => d_nilp ha rfl e19
            · exact oa fun j a ha => d_fa ha rfl Try.runUnderlying107 rfl rfl Try.sizeOf3 (by decide)
            · intro j h1 h2; have h1 : 0 ≤ j := h1; have h2 : j ≤ 1 := h2; rcases (by omega : j = 0 ∨ j = 1) with rfl | rfl
              · exact ok_do rfl fun a ha => d_ld ha rfl Try.isAgg3 (ldI_c e37)
              · exact ok_do rfl fun a ha => d_ld ha rfl Try.isAgg3 (ldI_c e21)
            · exact oa fun j a ha => d_ne ha rfl rfl
            · exact oa fun j a ha => d_move ha rfl
            · exact oag 31 (nt b22) fun j a ha => d_move ha rfl
            · exact oag 31 (nt b22) fun j a ha => d_move ha rfl
            · exact oag 31 (nt b22) fun j a ha => d_ne ha rfl rfl
            · exact oa fun j a ha => d_pick_f ha rfl b22 rfl
            · exact oa fun j a ha => d_move ha rfl
            · exact oag 36 (nt b24) fun j a ha => d_move ha rfl
            · exact oag 36 (nt b24) fun j a ha => d_move ha rfl
            · exact oag 36 (nt b24) fun j a ha => d_neB ha rfl rfl Try.runUnderlying4
            · exact oa fun j a ha => d_pick_f ha rfl b24 rfl
            · exact oa fun j a ha => d_move ha rfl
            · exact oag 41 (nt b26) fun j a ha => d_move ha rfl
            · exact oc 1 (ok_do_g rfl rfl (rfl : List.lookup 41 _ = _) (nt b26) fun a ha => d_call (xs := [_]) (vs := [(.pointer a0)]) ha ⟨rfl, trivial⟩ Try.call20 (wheel_Wheel_Ids_ok e30))
            · exact oag 41 (nt b26) fun j a ha => d_move ha rfl
            · exact oc 2 (ok_do_g rfl rfl (rfl : List.lookup 41 _ = _) (nt b26) fun a ha => d_call (xs := [_]) (vs := [(.pointer a1)]) ha ⟨rfl, trivial⟩ Try.call62 (grapevineref12_Wheel_Ids_ok e33))
            · exact oc 3 (ok_do_g rfl rfl (rfl : List.lookup 41 _ = _) (nt b26) fun a ha => d_call (xs := [_, _]) (vs := [(Sl.v v28), (Sl.v v31)]) ha ⟨rfl, rfl, trivial⟩ Try.call24 (grapevineref12_Same_ok e36))
            · exact oag 41 (nt b26) fun j a ha => d_not ha rfl
            · exact oa fun j a ha => d_pick_f ha rfl b26 rfl
          · have ha : Has 73 [(0, (.pointer a0)), (1, (.pointer a1)), (48, (.bool (!v34)))] a := ha.sub ⟨rfl, rfl, rfl, trivial⟩
            have hS : Has 73 [(48, (.bool (!v34))), (0, (.pointer a0)), (1, (.pointer a1))] _ := ha.sub ⟨rfl, rfl, rfl, trivial⟩
            cases h
            exact hk12 _ hS

noncomputable def grapevinelaw12_WheelPlays (a0 : Int) (a1 : Sl) (w : World) : ND (Bool × World) :=
  cb4 (grapevinelaw12_play a0 a1 w) fun v1 v2 v3 w4 =>
  cb2 (cb2 (grapevinelaw12_live w4) fun v10 w11 =>
  if v10 = true then
  (if v3 = true then
  (if (v1.isNone) = true then
  (nret (true, w11))
  else
  (lb2 (grapevinelaw12_same v1 v2 w11) fun v16 w17 =>
  nret (v16, w17)))
  else
  (nret (false, w11)))
  else
  (nret (false, w11))) fun v6 w7 =>
  nret (v6, w7)
set_option maxHeartbeats 1000000 in
set_option maxRecDepth 100000 in
theorem grapevinelaw12_WheelPlays_ok {a0 : Int} {a1 : Sl} {w : World} {Q : Bool × World → Prop} (h : (grapevinelaw12_WheelPlays a0 a1 w).t Q) : Calls Try.prog 6 #[(.int .i64 a0), (Sl.v a1)] w fun e w'' => ∃ i, e = .returned (.bool i.1) ∧ Q i ∧ w'' = i.2 := by
  refine calls_dec (n := 28) Try.func6 rfl Try.ntmps6 (by simp) fun a ha => ?_
  unfold grapevinelaw12_WheelPlays at h
  refine wp_seq <| region_lit <| qa ha rfl fun a ha => s_nil <| t_n <| wp_seq <| region_lit <| qm ha rfl fun a ha => qm ha rfl fun a ha => ?_
  refine s_callN (ι := (Option Addr) × (Option Addr) × Bool × World) (pk := fun i => (.tuple #[(.pointer i.1), (.pointer i.2.1), (.bool i.2.2.1)])) (wf := fun i => i.2.2.2) (xs := [_, _]) (vs := [(.int .i64 a0), (Sl.v a1)]) ha ⟨rfl, rfl, trivial⟩ Try.call21 (grapevinelaw12_play_ok (un4 h)) (fun i h a ha => ?_)
  obtain ⟨v1, v2, v3, w4⟩ := i
  refine qm ha rfl fun a ha => q ha (d_ext ha rfl rfl) fun a ha => q ha (d_ext ha rfl rfl) fun a ha => q ha (d_ext ha rfl rfl) fun a ha => qa ha rfl fun a ha => qa ha rfl fun a ha => qa ha rfl fun a ha => s_nil <| t_n <| wp_seq <| ?_
  refine reg_joinN (n := 28) (ι := Bool × World) (Lf := fun i => [(4, (.bool i.1))]) (wf := fun i => i.2) (un2 h) (fun i h a ha => ?_) (fun h hk9 => ?_)
  · obtain ⟨v6, w7⟩ := i
    have ha : Has 28 [(4, (.bool v6))] a := ha
    refine t_n <| wp_ret <| ?_
    have hS := ha
    exact ret1 Try.results6 hS rfl ⟨(v6, w7), rfl, h, rfl⟩
  · refine region_lit <| ?_
    refine s_callN (ι := Bool × World) (pk := fun i => (.bool i.1)) (wf := fun i => i.2) (xs := []) (vs := []) ha trivial Try.call19 (grapevinelaw12_live_ok (un2 h)) (fun i h a ha => ?_)
    obtain ⟨v10, w11⟩ := i
    refine qm ha rfl fun a ha => ?_
    refine ite_n h (fun b13 h => ?_) (fun b13 h => ?_)
    · refine qg ha 16 b13 (d_move ha rfl) fun a ha => q ha (d_pick_t ha rfl b13 rfl) fun a ha => qm ha rfl fun a ha => ?_
      refine ite_n h (fun b14 h => ?_) (fun b14 h => ?_)
      · refine qg ha 19 b14 (d_move ha rfl) fun a ha => qg ha 19 b14 (d_eqN ha rfl rfl Try.runUnderlying24) fun a ha => qg ha 19 b14 (d_move ha rfl) fun a ha => ?_
        refine ite_n h (fun b15 h => ?_) (fun b15 h => ?_)
        · refine qn ha 22 (tn b15) fun a ha => qn ha 22 (tn b15) fun a ha => qn ha 22 (tn b15) fun a ha => qg ha 19 b14 (d_pick_t ha rfl b15 rfl) fun a ha => q ha (d_pick_t ha rfl b14 rfl) fun a ha => qa ha rfl fun a ha => s_nil <| ?_
          have hS : Has 28 [(4, (.bool true))] _ := ha.sub ⟨rfl, trivial⟩
          exact hk9 (true, w11) h _ hS
        · refine qg ha 22 (nt b15) (d_move ha rfl) fun a ha => qg ha 22 (nt b15) (d_move ha rfl) fun a ha => ?_
          obtain ⟨v16, w17, e18, h⟩ := h
          refine qg ha 22 (nt b15) (d_call (xs := [_, _]) (vs := [(.pointer v1), (.pointer v2)]) ha ⟨rfl, rfl, trivial⟩ Try.call26 (grapevinelaw12_same_ok e18)) fun a ha => qg ha 19 b14 (d_pick_f ha rfl b15 rfl) fun a ha => q ha (d_pick_t ha rfl b14 rfl) fun a ha => qa ha rfl fun a ha => s_nil <| ?_
          have hS : Has 28 [(4, (.bool v16))] _ := ha.sub ⟨rfl, trivial⟩
          exact hk9 (v16, w17) h _ hS
      · refine qn ha 19 (nn b14 _ rfl) fun a ha => qn ha 19 (nn b14 _ rfl) fun a ha => qn ha 19 (nn b14 _ rfl) fun a ha => qu ha 22 fun a ha => qu ha 22 fun a ha => qu ha 22 fun a ha => qn ha 19 (nn b14 _ rfl) fun a ha => q ha (d_pick_f ha rfl b14 rfl) fun a ha => qa ha rfl fun a ha => s_nil <| ?_
        have hS : Has 28 [(4, (.bool false))] _ := ha.sub ⟨rfl, trivial⟩
        exact hk9 (false, w11) h _ hS
    · refine qn ha 16 (nn b13 _ rfl) fun a ha => q ha (d_pick_f ha rfl b13 rfl) fun a ha => qm ha rfl fun a ha => qn ha 19 (nn Bool.false_ne_true _ rfl) fun a ha => qn ha 19 (nn Bool.false_ne_true _ rfl) fun a ha => qn ha 19 (nn Bool.false_ne_true _ rfl) fun a ha => qu ha 22 fun a ha => qu ha 22 fun a ha => qu ha 22 fun a ha => qn ha 19 (nn Bool.false_ne_true _ rfl) fun a ha => q ha (d_pick_f ha rfl Bool.false_ne_true rfl) fun a ha => qa ha rfl fun a ha => s_nil <| ?_
      have hS : Has 28 [(4, (.bool false))] _ := ha.sub ⟨rfl, trivial⟩
      exact hk9 (false, w11) h _ hS

noncomputable def grapevinelaw12_WheelForks_l1 (a1 : Sl) (v12 : Option Addr) (v15 : Option Addr) (x18 : Int) (w19 : World) : ND ((Int × World) ⊕ ((World) ⊕ (Bool × World))) :=
  cb2 (if (decide (x18 < (a1.n : Int))) = true then
  (nret ((decide (x18 < 300)), w19))
  else
  (nret (false, w19))) fun v28 w29 =>
  if v28 = true then
  (lb1 (ix a1 x18 3) fun p34 =>
  lb1 (ldA 3 w29 p34 0) fun c36 =>
  cb2 (grapevinelaw12_do v12 v15 c36 w29) fun v38 w39 =>
  if (!v38) = true then
  (nret (.inr (.inr (false, w39))))
  else
  (nret (.inl ((IntKind.wrap .i64 (x18 + 1)), w39))))
  else
  (nret (.inr (.inl w29)))
noncomputable def grapevinelaw12_WheelForks (a0 : Sl) (a1 : Sl) (w : World) : ND (Bool × World) :=
  cb4 (grapevinelaw12_play 3 a0 w) fun v1 v2 v3 w4 =>
  cb2 (if (!v3) = true then
  (nret (true, w4))
  else
  (nret ((v1.isNone), w4))) fun v6 w7 =>
  if v6 = true then
  (nret (false, w7))
  else
  (lb2 (wheel_Wheel_Fork v1 w7) fun v12 w13 =>
  lb2 (grapevineref12_Wheel_Fork v2 w13) fun v15 w16 =>
  cb1 (nloop (fun s : Int × World => grapevinelaw12_WheelForks_l1 a1 v12 v15 s.1 s.2) (0, w16)) fun r20 => Sum.elim (fun (i : World) => u1 i fun w22 =>
  cb2 (cb2 (grapevinelaw12_live w22) fun v46 w47 =>
  if v46 = true then
  (lb2 (grapevinelaw12_same v1 v2 w47) fun v50 w51 =>
  if v50 = true then
  (lb2 (grapevinelaw12_same v12 v15 w51) fun v54 w55 =>
  nret (v54, w55))
  else
  (nret (false, w51)))
  else
  (nret (false, w47))) fun v42 w43 =>
  nret (v42, w43)) (fun (i : Bool × World) => u2 i fun v23 w24 =>
  nret (v23, w24)) r20)
set_option maxHeartbeats 1000000 in
set_option maxRecDepth 100000 in
theorem grapevinelaw12_WheelForks_ok {a0 : Sl} {a1 : Sl} {w : World} {Q : Bool × World → Prop} (h : (grapevinelaw12_WheelForks a0 a1 w).t Q) : Calls Try.prog 7 #[(Sl.v a0), (Sl.v a1)] w fun e w'' => ∃ i, e = .returned (.bool i.1) ∧ Q i ∧ w'' = i.2 := by
  refine calls_dec (n := 56) Try.func7 rfl Try.ntmps7 (by simp) fun a ha => ?_
  unfold grapevinelaw12_WheelForks at h
  refine wp_seq <| region_lit <| qa ha rfl fun a ha => s_nil <| t_n <| wp_seq <| region_lit <| qm ha rfl fun a ha => ?_
  refine s_callN (ι := (Option Addr) × (Option Addr) × Bool × World) (pk := fun i => (.tuple #[(.pointer i.1), (.pointer i.2.1), (.bool i.2.2.1)])) (wf := fun i => i.2.2.2) (xs := [_, _]) (vs := [(.int .i64 3), (Sl.v a0)]) ha ⟨rfl, rfl, trivial⟩ Try.call21 (grapevinelaw12_play_ok (un4 h)) (fun i h a ha => ?_)
  obtain ⟨v1, v2, v3, w4⟩ := i
  refine qm ha rfl fun a ha => q ha (d_ext ha rfl rfl) fun a ha => q ha (d_ext ha rfl rfl) fun a ha => q ha (d_ext ha rfl rfl) fun a ha => qa ha rfl fun a ha => qa ha rfl fun a ha => qa ha rfl fun a ha => s_nil <| t_n <| wp_seq <| wp_seq <| ?_
  refine reg_joinN (n := 56) (ι := Bool × World) (Lf := fun i => [(22, (.bool i.1)), (1, (Sl.v a1)), (5, (.pointer v1)), (6, (.pointer v2))]) (wf := fun i => i.2) (un2 h) (fun i h a ha => ?_) (fun h hk9 => ?_)
  · obtain ⟨v6, w7⟩ := i
    have ha : Has 56 [(22, (.bool v6)), (1, (Sl.v a1)), (5, (.pointer v1)), (6, (.pointer v2))] a := ha
    refine t_n <| ?_
    refine s_condN ha rfl h (fun b11 h => ?_) (fun b11 h => ?_)
    · refine wp_seq <| region_lit <| qa ha rfl fun a ha => s_nil <| t_n <| wp_ret <| t_r <| ?_
      have hS := ha
      exact ret1 Try.results7 hS rfl ⟨(false, w7), rfl, h, rfl⟩
    · refine wp_skip <| t_n <| wp_seq <| region_lit <| qm ha rfl fun a ha => ?_
      obtain ⟨v12, w13, e14, h⟩ := h
      refine q ha (d_call (xs := [_]) (vs := [(.pointer v1)]) ha ⟨rfl, trivial⟩ Try.call23 (wheel_Wheel_Fork_ok e14)) fun a ha => qm ha rfl fun a ha => ?_
      obtain ⟨v15, w16, e17, h⟩ := h
      refine q ha (d_call (xs := [_]) (vs := [(.pointer v2)]) ha ⟨rfl, trivial⟩ Try.call27 (grapevineref12_Wheel_Fork_ok e17)) fun a ha => qa ha rfl fun a ha => qa ha rfl fun a ha => s_nil <| t_n <| wp_seq <| wp_seq <| region_lit <| qa ha rfl fun a ha => s_nil <| t_n <| wp_block <| ?_
      refine s_loopN2 (n := 56) (L1 := fun i => [(5, (.pointer v1)), (6, (.pointer v2)), (8, (.pointer v12)), (9, (.pointer v15))]) (w1 := fun i => i) (L2 := fun i => [(4, (.bool i.1))]) (w2 := fun i => i.2) (e1 := .exit 0) (e2 := .ret) (I := fun (s : Int × World) a w => Has 56 [(10, (.int .i64 s.1)), (1, (Sl.v a1)), (5, (.pointer v1)), (6, (.pointer v2)), (8, (.pointer v12)), (9, (.pointer v15))] a ∧ w = s.2) (un1 h) ⟨ha.sub ⟨rfl, rfl, rfl, rfl, rfl, rfl, trivial⟩, rfl⟩ (fun i h a ha => ?_) (fun i h a ha => ?_) (fun hk25 hk26 => ?_)
      · obtain ⟨w22, rfl⟩ : ∃ x, x = i := ⟨i, rfl⟩
        try dsimp only [Sum.elim_inl, Sum.elim_inr, u1, u2, u3, u4, u5, u6] at h
        have ha : Has 56 [(5, (.pointer v1)), (6, (.pointer v2)), (8, (.pointer v12)), (9, (.pointer v15))] a := ha
        refine b_hit <| t_n <| wp_seq <| ?_
        refine reg_joinN (n := 56) (ι := Bool × World) (Lf := fun i => [(4, (.bool i.1))]) (wf := fun i => i.2) (un2 h) (fun i h a ha => ?_) (fun h hk45 => ?_)
        · obtain ⟨v42, w43⟩ := i
          have ha : Has 56 [(4, (.bool v42))] a := ha
          refine t_n <| wp_ret <| ?_
          have hS := ha
          exact ret1 Try.results7 hS rfl ⟨(v42, w43), rfl, h, rfl⟩
        · refine region_lit <| ?_
          refine s_callN (ι := Bool × World) (pk := fun i => (.bool i.1)) (wf := fun i => i.2) (xs := []) (vs := []) ha trivial Try.call19 (grapevinelaw12_live_ok (un2 h)) (fun i h a ha => ?_)
          obtain ⟨v46, w47⟩ := i
          refine qm ha rfl fun a ha => ?_
          refine ite_n h (fun b49 h => ?_) (fun b49 h => ?_)
          · refine qg ha 46 b49 (d_move ha rfl) fun a ha => qg ha 46 b49 (d_move ha rfl) fun a ha => ?_
            obtain ⟨v50, w51, e52, h⟩ := h
            refine qg ha 46 b49 (d_call (xs := [_, _]) (vs := [(.pointer v1), (.pointer v2)]) ha ⟨rfl, rfl, trivial⟩ Try.call26 (grapevinelaw12_same_ok e52)) fun a ha => q ha (d_pick_t ha rfl b49 rfl) fun a ha => qm ha rfl fun a ha => ?_
            refine ite_n h (fun b53 h => ?_) (fun b53 h => ?_)
            · refine qg ha 51 b53 (d_move ha rfl) fun a ha => qg ha 51 b53 (d_move ha rfl) fun a ha => ?_
              obtain ⟨v54, w55, e56, h⟩ := h
              refine qg ha 51 b53 (d_call (xs := [_, _]) (vs := [(.pointer v12), (.pointer v15)]) ha ⟨rfl, rfl, trivial⟩ Try.call26 (grapevinelaw12_same_ok e56)) fun a ha => q ha (d_pick_t ha rfl b53 rfl) fun a ha => qa ha rfl fun a ha => s_nil <| ?_
              have hS : Has 56 [(4, (.bool v54))] _ := ha.sub ⟨rfl, trivial⟩
              exact hk45 (v54, w55) h _ hS
            · refine qn ha 51 (nn b53 _ rfl) fun a ha => qn ha 51 (nn b53 _ rfl) fun a ha => qn ha 51 (nn b53 _ rfl) fun a ha => q ha (d_pick_f ha rfl b53 rfl) fun a ha => qa ha rfl fun a ha => s_nil <| ?_
              have hS : Has 56 [(4, (.bool false))] _ := ha.sub ⟨rfl, trivial⟩
              exact hk45 (false, w51) h _ hS
          · refine qn ha 46 (nn b49 _ rfl) fun a ha => qn ha 46 (nn b49 _ rfl) fun a ha => qn ha 46 (nn b49 _ rfl) fun a ha => q ha (d_pick_f ha rfl b49 rfl) fun a ha => qm ha rfl fun a ha => qn ha 51 (nn Bool.false_ne_true _ rfl) fun a ha => qn ha 51 (nn Bool.false_ne_true _ rfl) fun a ha => qn ha 51 (nn Bool.false_ne_true _ rfl) fun a ha => q ha (d_pick_f ha rfl Bool.false_ne_true rfl) fun a ha => qa ha rfl fun a ha => s_nil <| ?_
            have hS : Has 56 [(4, (.bool false))] _ := ha.sub ⟨rfl, trivial⟩
            exact hk45 (false, w47) h _ hS
      · obtain ⟨v23, w24⟩ := i
        try dsimp only [Sum.elim_inl, Sum.elim_inr, u1, u2, u3, u4, u5, u6] at h
        have ha : Has 56 [(4, (.bool v23))] a := ha
        refine b_r <| t_r <| ?_
        have hS := ha
        exact ret1 Try.results7 hS rfl ⟨(v23, w24), rfl, h, rfl⟩
      · clear h
        intro hX57
        rintro ⟨x18, w19⟩ a wq ⟨ha, hwq⟩ h
        obtain rfl : w19 = wq := hwq.symm
        have ha : Has 56 [(10, (.int .i64 x18)), (1, (Sl.v a1)), (5, (.pointer v1)), (6, (.pointer v2)), (8, (.pointer v12)), (9, (.pointer v15))] a := ha
        have h : (grapevinelaw12_WheelForks_l1 a1 v12 v15 x18 w19).t _ := h
        unfold grapevinelaw12_WheelForks_l1 at h
        refine wp_seq <| wp_seq <| ?_
        refine reg_joinN (n := 56) (ι := Bool × World) (Lf := fun i => [(34, (.bool i.1)), (1, (Sl.v a1)), (5, (.pointer v1)), (6, (.pointer v2)), (8, (.pointer v12)), (9, (.pointer v15)), (10, (.int .i64 x18))]) (wf := fun i => i.2) (un2 h) (fun i h a ha => ?_) (fun h hk31 => ?_)
        · obtain ⟨v28, w29⟩ := i
          have ha : Has 56 [(34, (.bool v28)), (1, (Sl.v a1)), (5, (.pointer v1)), (6, (.pointer v2)), (8, (.pointer v12)), (9, (.pointer v15)), (10, (.int .i64 x18))] a := ha
          refine t_n <| ?_
          refine s_condN ha rfl h (fun b33 h => ?_) (fun b33 h => ?_)
          · refine wp_skip <| t_n <| wp_seq <| wp_block <| wp_seq <| region_lit <| qm ha rfl fun a ha => qm ha rfl fun a ha => qm ha rfl fun a ha => qm ha rfl fun a ha => ?_
            obtain ⟨p34, e35, h⟩ := h
            refine q ha (d_ix ha rfl rfl Try.runUnderlying22 Try.sizeOf30 e35) fun a ha => ?_
            obtain ⟨c36, e37, h⟩ := h
            refine q ha (d_ldA ha rfl Try.isAgg30 Try.sizeOf30 e37) fun a ha => ?_
            refine s_callN (ι := Bool × World) (pk := fun i => (.bool i.1)) (wf := fun i => i.2) (xs := [_, _, _]) (vs := [(.pointer v12), (.pointer v15), (.agg (List.toArray c36))]) ha ⟨rfl, rfl, rfl, trivial⟩ Try.call28 (grapevinelaw12_do_ok (un2 h)) (fun i h a ha => ?_)
            obtain ⟨v38, w39⟩ := i
            refine q ha (d_not ha rfl) fun a ha => s_nil <| t_n <| ?_
            refine s_condN ha rfl h (fun b41 h => ?_) (fun b41 h => ?_)
            · refine wp_seq <| region_lit <| qa ha rfl fun a ha => s_nil <| t_n <| wp_ret <| b_r <| t_r <| ?_
              have hS : Has 56 [(4, (.bool false))] _ := ha.sub ⟨rfl, trivial⟩
              refine t_r <| ?_
              exact hk26 (false, w39) h _ hS
            · refine wp_skip <| b_n <| t_n <| region_lit <| qm ha rfl fun a ha => q ha (d_add ha rfl rfl) fun a ha => qa ha rfl fun a ha => s_nil <| ?_
              have hS : Has 56 [(10, (.int .i64 (IntKind.wrap .i64 (x18 + 1)))), (1, (Sl.v a1)), (5, (.pointer v1)), (6, (.pointer v2)), (8, (.pointer v12)), (9, (.pointer v15))] _ := ha.sub ⟨rfl, rfl, rfl, rfl, rfl, rfl, trivial⟩
              exact ⟨((IntKind.wrap .i64 (x18 + 1)), w39), ⟨hS, rfl⟩, h⟩
          · refine wp_exit <| t_x <| ?_
            have hS : Has 56 [(5, (.pointer v1)), (6, (.pointer v2)), (8, (.pointer v12)), (9, (.pointer v15))] _ := ha.sub ⟨rfl, rfl, rfl, rfl, trivial⟩
            refine t_x <| ?_
            exact hk25 w29 h _ hS
        · refine region_lit <| qm ha rfl fun a ha => qm ha rfl fun a ha => q ha (d_lenS ha rfl Try.runUnderlying22) fun a ha => q ha (d_lt ha rfl rfl) fun a ha => qm ha rfl fun a ha => ?_
          refine ite_n h (fun b32 h => ?_) (fun b32 h => ?_)
          · refine qg ha 31 b32 (d_move ha rfl) fun a ha => qg ha 31 b32 (d_lt ha rfl rfl) fun a ha => q ha (d_pick_t ha rfl b32 rfl) fun a ha => s_nil <| ?_
            have hS : Has 56 [(34, (.bool (decide (x18 < 300)))), (1, (Sl.v a1)), (5, (.pointer v1)), (6, (.pointer v2)), (8, (.pointer v12)), (9, (.pointer v15)), (10, (.int .i64 x18))] _ := ha.sub ⟨rfl, rfl, rfl, rfl, rfl, rfl, rfl, trivial⟩
            exact hk31 ((decide (x18 < 300)), w19) h _ hS
          · refine qn ha 31 (nn b32 _ rfl) fun a ha => qn ha 31 (nn b32 _ rfl) fun a ha => q ha (d_pick_f ha rfl b32 rfl) fun a ha => s_nil <| ?_
            have hS : Has 56 [(34, (.bool false)), (1, (Sl.v a1)), (5, (.pointer v1)), (6, (.pointer v2)), (8, (.pointer v12)), (9, (.pointer v15)), (10, (.int .i64 x18))] _ := ha.sub ⟨rfl, rfl, rfl, rfl, rfl, rfl, rfl, trivial⟩
            exact hk31 (false, w19) h _ hS
  · refine region_lit <| qm ha rfl fun a ha => q ha (d_not ha rfl) fun a ha => qm ha rfl fun a ha => ?_
    refine ite_n h (fun b10 h => ?_) (fun b10 h => ?_)
    · refine qn ha 19 (tn b10) fun a ha => qn ha 19 (tn b10) fun a ha => q ha (d_pick_t ha rfl b10 rfl) fun a ha => s_nil <| ?_
      have hS : Has 56 [(22, (.bool true)), (1, (Sl.v a1)), (5, (.pointer v1)), (6, (.pointer v2))] _ := ha.sub ⟨rfl, rfl, rfl, rfl, trivial⟩
      exact hk9 (true, w4) h _ hS
    · refine qg ha 19 (nt b10) (d_move ha rfl) fun a ha => qg ha 19 (nt b10) (d_eqN ha rfl rfl Try.runUnderlying24) fun a ha => q ha (d_pick_f ha rfl b10 rfl) fun a ha => s_nil <| ?_
      have hS : Has 56 [(22, (.bool (v1.isNone))), (1, (Sl.v a1)), (5, (.pointer v1)), (6, (.pointer v2))] _ := ha.sub ⟨rfl, rfl, rfl, rfl, trivial⟩
      exact hk9 ((v1.isNone), w4) h _ hS

noncomputable def grapevinelaw12_WheelNone_l1 (v60 : Sl) (x63 : Int) (w64 : World) : ND ((Int × World) ⊕ (World)) :=
  if (decide (x63 < (v60.n : Int))) = true then
  (lb1 (ix v60 x63 1) fun p71 =>
  lb1 (stV w64 p71 (.int .i64 9)) fun w73 =>
  nret (.inl ((IntKind.wrap .i64 (x63 + 1)), w73)))
  else
  (nret (.inr w64))
noncomputable def grapevinelaw12_WheelNone (a0 : Int) (a1 : Int) (w : World) : ND (Bool × World) :=
  cb3 (wheel_Wheel_Advance none a1 w) fun v1 v2 w3 =>
  lb3 (wheel_Wheel_At none a0 w3) fun v5 v6 w7 =>
  lb3 (wheel_Wheel_Next none w7) fun v9 v10 w11 =>
  cb2 (if (v2 != 1) = true then
  (nret (true, w11))
  else
  (if ((v1.n : Int) != 0) = true then
  (nret (true, w11))
  else
  (if v6 = true then
  (nret (true, w11))
  else
  (if (v9 != 0) = true then
  (nret (true, w11))
  else
  (if v10 = true then
  (nret (true, w11))
  else
  (lb2 (wheel_Wheel_Set none a0 a1 w11) fun v22 w23 =>
  if (v22 != 1) = true then
  (nret (true, w23))
  else
  (lb2 (wheel_Wheel_Drop none a0 w23) fun v26 w27 =>
  if (v26 != 1) = true then
  (nret (true, w27))
  else
  (lb2 (wheel_Wheel_Now none w27) fun v30 w31 =>
  if (v30 != 0) = true then
  (nret (true, w31))
  else
  (lb2 (wheel_Wheel_Ids none w31) fun v34 w35 =>
  if ((v34.n : Int) != 0) = true then
  (nret (true, w35))
  else
  (lb2 (wheel_Wheel_Fork none w35) fun v38 w39 =>
  nret ((!(v38.isNone)), w39))))))))))) fun v13 w14 =>
  if v13 = true then
  (nret (false, w14))
  else
  (lb3 (wheel_New 0 w14) fun v42 v43 w44 =>
  cb2 (if (v43 != 0) = true then
  (nret (true, w44))
  else
  (if (v42.isNone) = true then
  (nret (true, w44))
  else
  (lb2 (wheel_Wheel_Set v42 7 3 w44) fun v52 w53 =>
  if (v52 != 0) = true then
  (nret (true, w53))
  else
  (lb2 (wheel_Wheel_Set v42 2 4 w53) fun v56 w57 =>
  nret ((v56 != 0), w57))))) fun v46 w47 =>
  if v46 = true then
  (nret (false, w47))
  else
  (lb2 (wheel_Wheel_Ids v42 w47) fun v60 w61 =>
  cb1 (nloop (fun s : Int × World => grapevinelaw12_WheelNone_l1 v60 s.1 s.2) (0, w61)) fun w67 =>
  cb2 (cb2 (grapevinelaw12_live w67) fun v79 w80 =>
  if v79 = true then
  (lb2 (wheel_Wheel_Ids v42 w80) fun v83 w84 =>
  lb2 (bsl w84 3 1 [[(.int .i64 2)], [(.int .i64 7)]]) fun s86 w87 =>
  lb2 (grapevineref12_Same v83 s86 w87) fun v89 w90 =>
  nret (v89, w90))
  else
  (nret (false, w80))) fun v75 w76 =>
  nret (v75, w76)))
set_option maxHeartbeats 1000000 in
set_option maxRecDepth 100000 in
theorem grapevinelaw12_WheelNone_ok {a0 : Int} {a1 : Int} {w : World} {Q : Bool × World → Prop} (h : (grapevinelaw12_WheelNone a0 a1 w).t Q) : Calls Try.prog 8 #[(.int .i64 a0), (.int .i64 a1)] w fun e w'' => ∃ i, e = .returned (.bool i.1) ∧ Q i ∧ w'' = i.2 := by
  refine calls_dec (n := 117) Try.func8 rfl Try.ntmps8 (by simp) fun a ha => ?_
  unfold grapevinelaw12_WheelNone at h
  refine wp_seq <| region_lit <| qa ha rfl fun a ha => s_nil <| t_n <| wp_seq <| region_lit <| qa ha rfl fun a ha => s_nil <| t_n <| wp_seq <| region_lit <| qm ha rfl fun a ha => qm ha rfl fun a ha => ?_
  refine s_callN (ι := Sl × Int × World) (pk := fun i => (.tuple #[(Sl.v i.1), (.int .i64 i.2.1)])) (wf := fun i => i.2.2) (xs := [_, _]) (vs := [(.pointer none), (.int .i64 a1)]) ha ⟨rfl, rfl, trivial⟩ Try.call18 (wheel_Wheel_Advance_ok (un3 h)) (fun i h a ha => ?_)
  obtain ⟨v1, v2, w3⟩ := i
  refine qm ha rfl fun a ha => q ha (d_ext ha rfl rfl) fun a ha => q ha (d_ext ha rfl rfl) fun a ha => qa ha rfl fun a ha => qa ha rfl fun a ha => s_nil <| t_n <| wp_seq <| region_lit <| qm ha rfl fun a ha => qm ha rfl fun a ha => ?_
  obtain ⟨v5, v6, w7, e8, h⟩ := h
  refine q ha (d_call (xs := [_, _]) (vs := [(.pointer none), (.int .i64 a0)]) ha ⟨rfl, rfl, trivial⟩ Try.call29 (wheel_Wheel_At_ok e8)) fun a ha => qm ha rfl fun a ha => q ha (d_ext ha rfl rfl) fun a ha => q ha (d_ext ha rfl rfl) fun a ha => qa ha rfl fun a ha => qa ha rfl fun a ha => s_nil <| t_n <| wp_seq <| region_lit <| qm ha rfl fun a ha => ?_
  obtain ⟨v9, v10, w11, e12, h⟩ := h
  refine q ha (d_call (xs := [_]) (vs := [(.pointer none)]) ha ⟨rfl, trivial⟩ Try.call25 (wheel_Wheel_Next_ok e12)) fun a ha => qm ha rfl fun a ha => q ha (d_ext ha rfl rfl) fun a ha => q ha (d_ext ha rfl rfl) fun a ha => qa ha rfl fun a ha => qa ha rfl fun a ha => s_nil <| t_n <| wp_seq <| wp_seq <| ?_
  refine reg_joinN (n := 117) (ι := Bool × World) (Lf := fun i => [(78, (.bool i.1))]) (wf := fun i => i.2) (un2 h) (fun i h a ha => ?_) (fun h hk16 => ?_)
  · obtain ⟨v13, w14⟩ := i
    have ha : Has 117 [(78, (.bool v13))] a := ha
    refine t_n <| ?_
    refine s_condN ha rfl h (fun b41 h => ?_) (fun b41 h => ?_)
    · refine wp_seq <| region_lit <| qa ha rfl fun a ha => s_nil <| t_n <| wp_ret <| t_r <| ?_
      have hS := ha
      exact ret1 Try.results8 hS rfl ⟨(false, w14), rfl, h, rfl⟩
    · refine wp_skip <| t_n <| wp_seq <| region_lit <| ?_
      obtain ⟨v42, v43, w44, e45, h⟩ := h
      refine q ha (d_call (xs := [_]) (vs := [(.int .i64 0)]) ha ⟨rfl, trivial⟩ Try.call15 (wheel_New_ok e45)) fun a ha => qm ha rfl fun a ha => q ha (d_ext ha rfl rfl) fun a ha => q ha (d_ext ha rfl rfl) fun a ha => qa ha rfl fun a ha => qa ha rfl fun a ha => s_nil <| t_n <| wp_seq <| wp_seq <| ?_
      refine reg_joinN (n := 117) (ι := Bool × World) (Lf := fun i => [(98, (.bool i.1)), (12, (.pointer v42))]) (wf := fun i => i.2) (un2 h) (fun i h a ha => ?_) (fun h hk49 => ?_)
      · obtain ⟨v46, w47⟩ := i
        have ha : Has 117 [(98, (.bool v46)), (12, (.pointer v42))] a := ha
        refine t_n <| ?_
        refine s_condN ha rfl h (fun b59 h => ?_) (fun b59 h => ?_)
        · refine wp_seq <| region_lit <| qa ha rfl fun a ha => s_nil <| t_n <| wp_ret <| t_r <| ?_
          have hS := ha
          exact ret1 Try.results8 hS rfl ⟨(false, w47), rfl, h, rfl⟩
        · refine wp_skip <| t_n <| wp_seq <| region_lit <| qm ha rfl fun a ha => ?_
          obtain ⟨v60, w61, e62, h⟩ := h
          refine q ha (d_call (xs := [_]) (vs := [(.pointer v42)]) ha ⟨rfl, trivial⟩ Try.call20 (wheel_Wheel_Ids_ok e62)) fun a ha => qa ha rfl fun a ha => s_nil <| t_n <| wp_seq <| wp_seq <| region_lit <| qa ha rfl fun a ha => s_nil <| t_n <| wp_block <| ?_
          refine s_loopN1 (n := 117) (Lr := fun i => [(12, (.pointer v42))]) (wr := fun i => i) (e := .exit 0) (I := fun (s : Int × World) a w => Has 117 [(15, (.int .i64 s.1)), (12, (.pointer v42)), (14, (Sl.v v60))] a ∧ w = s.2) (un1 h) ⟨ha.sub ⟨rfl, rfl, rfl, trivial⟩, rfl⟩ (fun i h a ha => ?_) (fun hk68 => ?_)
          · obtain ⟨w67, rfl⟩ : ∃ x, x = i := ⟨i, rfl⟩
            have ha : Has 117 [(12, (.pointer v42))] a := ha
            refine b_hit <| t_n <| wp_seq <| ?_
            refine reg_joinN (n := 117) (ι := Bool × World) (Lf := fun i => [(4, (.bool i.1))]) (wf := fun i => i.2) (un2 h) (fun i h a ha => ?_) (fun h hk78 => ?_)
            · obtain ⟨v75, w76⟩ := i
              have ha : Has 117 [(4, (.bool v75))] a := ha
              refine t_n <| wp_ret <| ?_
              have hS := ha
              exact ret1 Try.results8 hS rfl ⟨(v75, w76), rfl, h, rfl⟩
            · refine region_lit <| ?_
              refine s_callN (ι := Bool × World) (pk := fun i => (.bool i.1)) (wf := fun i => i.2) (xs := []) (vs := []) ha trivial Try.call19 (grapevinelaw12_live_ok (un2 h)) (fun i h a ha => ?_)
              obtain ⟨v79, w80⟩ := i
              refine qm ha rfl fun a ha => ?_
              refine ite_n h (fun b82 h => ?_) (fun b82 h => ?_)
              · refine qg ha 111 b82 (d_move ha rfl) fun a ha => ?_
                obtain ⟨v83, w84, e85, h⟩ := h
                refine qg ha 111 b82 (d_call (xs := [_]) (vs := [(.pointer v42)]) ha ⟨rfl, trivial⟩ Try.call20 (wheel_Wheel_Ids_ok e85)) fun a ha => ?_
                obtain ⟨s86, w87, e88, h⟩ := h
                refine qg ha 111 b82 (d_bsl (vs := [(0, (.int .i64 2)), (1, (.int .i64 7))]) (ps := [[(.int .i64 2)], [(.int .i64 7)]]) ha ⟨rfl, rfl, rfl, rfl, trivial⟩ ⟨rfl, rfl, rfl, rfl, trivial⟩ rfl Try.runUnderlying34 Try.sizeOf3 Try.zeroValue3 (by decide) e88) fun a ha => ?_
                obtain ⟨v89, w90, e91, h⟩ := h
                refine qg ha 111 b82 (d_call (xs := [_, _]) (vs := [(Sl.v v83), (Sl.v s86)]) ha ⟨rfl, rfl, trivial⟩ Try.call24 (grapevineref12_Same_ok e91)) fun a ha => q ha (d_pick_t ha rfl b82 rfl) fun a ha => qa ha rfl fun a ha => s_nil <| ?_
                have hS : Has 117 [(4, (.bool v89))] _ := ha.sub ⟨rfl, trivial⟩
                exact hk78 (v89, w90) h _ hS
              · refine qn ha 111 (nn b82 _ rfl) fun a ha => qn ha 111 (nn b82 _ rfl) fun a ha => qn ha 111 (nn b82 _ rfl) fun a ha => qn ha 111 (nn b82 _ rfl) fun a ha => q ha (d_pick_f ha rfl b82 rfl) fun a ha => qa ha rfl fun a ha => s_nil <| ?_
                have hS : Has 117 [(4, (.bool false))] _ := ha.sub ⟨rfl, trivial⟩
                exact hk78 (false, w80) h _ hS
          · clear h
            intro hX92
            rintro ⟨x63, w64⟩ a wq ⟨ha, hwq⟩ h
            obtain rfl : w64 = wq := hwq.symm
            have ha : Has 117 [(15, (.int .i64 x63)), (12, (.pointer v42)), (14, (Sl.v v60))] a := ha
            have h : (grapevinelaw12_WheelNone_l1 v60 x63 w64).t _ := h
            unfold grapevinelaw12_WheelNone_l1 at h
            refine wp_seq <| wp_seq <| region_lit <| qm ha rfl fun a ha => qm ha rfl fun a ha => q ha (d_lenS ha rfl Try.runUnderlying34) fun a ha => q ha (d_lt ha rfl rfl) fun a ha => s_nil <| t_n <| ?_
            refine s_condN ha rfl h (fun b70 h => ?_) (fun b70 h => ?_)
            · refine wp_skip <| t_n <| wp_seq <| wp_block <| region_lit <| qm ha rfl fun a ha => qm ha rfl fun a ha => ?_
              obtain ⟨p71, e72, h⟩ := h
              refine q ha (d_ix ha rfl rfl Try.runUnderlying34 Try.sizeOf3 e72) fun a ha => ?_
              obtain ⟨w73, e74, h⟩ := h
              refine q ha (d_st ha rfl rfl Try.sizeOf3 e74) fun a ha => s_nil <| b_n <| t_n <| region_lit <| qm ha rfl fun a ha => q ha (d_add ha rfl rfl) fun a ha => qa ha rfl fun a ha => s_nil <| ?_
              have hS : Has 117 [(15, (.int .i64 (IntKind.wrap .i64 (x63 + 1)))), (12, (.pointer v42)), (14, (Sl.v v60))] _ := ha.sub ⟨rfl, rfl, rfl, trivial⟩
              exact ⟨((IntKind.wrap .i64 (x63 + 1)), w73), ⟨hS, rfl⟩, h⟩
            · refine wp_exit <| t_x <| ?_
              have hS : Has 117 [(12, (.pointer v42))] _ := ha.sub ⟨rfl, trivial⟩
              refine t_x <| ?_
              exact hk68 w64 h _ hS
      · refine region_lit <| qm ha rfl fun a ha => q ha (d_ne ha rfl rfl) fun a ha => qm ha rfl fun a ha => ?_
        refine ite_n h (fun b50 h => ?_) (fun b50 h => ?_)
        · refine qn ha 85 (tn b50) fun a ha => qn ha 85 (tn b50) fun a ha => q ha (d_pick_t ha rfl b50 rfl) fun a ha => qm ha rfl fun a ha => qn ha 89 (tn rfl) fun a ha => qn ha 89 (tn rfl) fun a ha => qn ha 89 (tn rfl) fun a ha => q ha (d_pick_t ha rfl rfl rfl) fun a ha => qm ha rfl fun a ha => qn ha 94 (tn rfl) fun a ha => qn ha 94 (tn rfl) fun a ha => qn ha 94 (tn rfl) fun a ha => q ha (d_pick_t ha rfl rfl rfl) fun a ha => s_nil <| ?_
          have hS : Has 117 [(98, (.bool true)), (12, (.pointer v42))] _ := ha.sub ⟨rfl, rfl, trivial⟩
          exact hk49 (true, w44) h _ hS
        · refine qg ha 85 (nt b50) (d_move ha rfl) fun a ha => qg ha 85 (nt b50) (d_eqN ha rfl rfl Try.runUnderlying24) fun a ha => q ha (d_pick_f ha rfl b50 rfl) fun a ha => qm ha rfl fun a ha => ?_
          refine ite_n h (fun b51 h => ?_) (fun b51 h => ?_)
          · refine qn ha 89 (tn b51) fun a ha => qn ha 89 (tn b51) fun a ha => qn ha 89 (tn b51) fun a ha => q ha (d_pick_t ha rfl b51 rfl) fun a ha => qm ha rfl fun a ha => qn ha 94 (tn rfl) fun a ha => qn ha 94 (tn rfl) fun a ha => qn ha 94 (tn rfl) fun a ha => q ha (d_pick_t ha rfl rfl rfl) fun a ha => s_nil <| ?_
            have hS : Has 117 [(98, (.bool true)), (12, (.pointer v42))] _ := ha.sub ⟨rfl, rfl, trivial⟩
            exact hk49 (true, w44) h _ hS
          · refine qg ha 89 (nt b51) (d_move ha rfl) fun a ha => ?_
            obtain ⟨v52, w53, e54, h⟩ := h
            refine qg ha 89 (nt b51) (d_call (xs := [_, _, _]) (vs := [(.pointer v42), (.int .i64 7), (.int .i64 3)]) ha ⟨rfl, rfl, rfl, trivial⟩ Try.call16 (wheel_Wheel_Set_ok e54)) fun a ha => qg ha 89 (nt b51) (d_ne ha rfl rfl) fun a ha => q ha (d_pick_f ha rfl b51 rfl) fun a ha => qm ha rfl fun a ha => ?_
            refine ite_n h (fun b55 h => ?_) (fun b55 h => ?_)
            · refine qn ha 94 (tn b55) fun a ha => qn ha 94 (tn b55) fun a ha => qn ha 94 (tn b55) fun a ha => q ha (d_pick_t ha rfl b55 rfl) fun a ha => s_nil <| ?_
              have hS : Has 117 [(98, (.bool true)), (12, (.pointer v42))] _ := ha.sub ⟨rfl, rfl, trivial⟩
              exact hk49 (true, w53) h _ hS
            · refine qg ha 94 (nt b55) (d_move ha rfl) fun a ha => ?_
              obtain ⟨v56, w57, e58, h⟩ := h
              refine qg ha 94 (nt b55) (d_call (xs := [_, _, _]) (vs := [(.pointer v42), (.int .i64 2), (.int .i64 4)]) ha ⟨rfl, rfl, rfl, trivial⟩ Try.call16 (wheel_Wheel_Set_ok e58)) fun a ha => qg ha 94 (nt b55) (d_ne ha rfl rfl) fun a ha => q ha (d_pick_f ha rfl b55 rfl) fun a ha => s_nil <| ?_
              have hS : Has 117 [(98, (.bool (v56 != 0))), (12, (.pointer v42))] _ := ha.sub ⟨rfl, rfl, trivial⟩
              exact hk49 ((v56 != 0), w57) h _ hS
  · refine region_lit <| qm ha rfl fun a ha => q ha (d_ne ha rfl rfl) fun a ha => qm ha rfl fun a ha => ?_
    refine ite_n h (fun b17 h => ?_) (fun b17 h => ?_)
    · refine qn ha 35 (tn b17) fun a ha => qn ha 35 (tn b17) fun a ha => qn ha 35 (tn b17) fun a ha => q ha (d_pick_t ha rfl b17 rfl) fun a ha => qm ha rfl fun a ha => qn ha 40 (tn rfl) fun a ha => q ha (d_pick_t ha rfl rfl rfl) fun a ha => qm ha rfl fun a ha => qn ha 43 (tn rfl) fun a ha => qn ha 43 (tn rfl) fun a ha => q ha (d_pick_t ha rfl rfl rfl) fun a ha => qm ha rfl fun a ha => qn ha 47 (tn rfl) fun a ha => q ha (d_pick_t ha rfl rfl rfl) fun a ha => qm ha rfl fun a ha => qn ha 50 (tn rfl) fun a ha => qn ha 50 (tn rfl) fun a ha => qn ha 50 (tn rfl) fun a ha => qn ha 50 (tn rfl) fun a ha => qn ha 50 (tn rfl) fun a ha => q ha (d_pick_t ha rfl rfl rfl) fun a ha => qm ha rfl fun a ha => qn ha 57 (tn rfl) fun a ha => qn ha 57 (tn rfl) fun a ha => qn ha 57 (tn rfl) fun a ha => qn ha 57 (tn rfl) fun a ha => q ha (d_pick_t ha rfl rfl rfl) fun a ha => qm ha rfl fun a ha => qn ha 63 (tn rfl) fun a ha => qn ha 63 (tn rfl) fun a ha => qn ha 63 (tn rfl) fun a ha => q ha (d_pick_t ha rfl rfl rfl) fun a ha => qm ha rfl fun a ha => qn ha 68 (tn rfl) fun a ha => qn ha 68 (tn rfl) fun a ha => qn ha 68 (tn rfl) fun a ha => qn ha 68 (tn rfl) fun a ha => q ha (d_pick_t ha rfl rfl rfl) fun a ha => qm ha rfl fun a ha => qn ha 74 (tn rfl) fun a ha => qn ha 74 (tn rfl) fun a ha => qn ha 74 (tn rfl) fun a ha => q ha (d_pick_t ha rfl rfl rfl) fun a ha => s_nil <| ?_
      have hS : Has 117 [(78, (.bool true))] _ := ha.sub ⟨rfl, trivial⟩
      exact hk16 (true, w11) h _ hS
    · refine qg ha 35 (nt b17) (d_move ha rfl) fun a ha => qg ha 35 (nt b17) (d_lenS ha rfl Try.runUnderlying34) fun a ha => qg ha 35 (nt b17) (d_ne ha rfl rfl) fun a ha => q ha (d_pick_f ha rfl b17 rfl) fun a ha => qm ha rfl fun a ha => ?_
      refine ite_n h (fun b18 h => ?_) (fun b18 h => ?_)
      · refine qn ha 40 (tn b18) fun a ha => q ha (d_pick_t ha rfl b18 rfl) fun a ha => qm ha rfl fun a ha => qn ha 43 (tn rfl) fun a ha => qn ha 43 (tn rfl) fun a ha => q ha (d_pick_t ha rfl rfl rfl) fun a ha => qm ha rfl fun a ha => qn ha 47 (tn rfl) fun a ha => q ha (d_pick_t ha rfl rfl rfl) fun a ha => qm ha rfl fun a ha => qn ha 50 (tn rfl) fun a ha => qn ha 50 (tn rfl) fun a ha => qn ha 50 (tn rfl) fun a ha => qn ha 50 (tn rfl) fun a ha => qn ha 50 (tn rfl) fun a ha => q ha (d_pick_t ha rfl rfl rfl) fun a ha => qm ha rfl fun a ha => qn ha 57 (tn rfl) fun a ha => qn ha 57 (tn rfl) fun a ha => qn ha 57 (tn rfl) fun a ha => qn ha 57 (tn rfl) fun a ha => q ha (d_pick_t ha rfl rfl rfl) fun a ha => qm ha rfl fun a ha => qn ha 63 (tn rfl) fun a ha => qn ha 63 (tn rfl) fun a ha => qn ha 63 (tn rfl) fun a ha => q ha (d_pick_t ha rfl rfl rfl) fun a ha => qm ha rfl fun a ha => qn ha 68 (tn rfl) fun a ha => qn ha 68 (tn rfl) fun a ha => qn ha 68 (tn rfl) fun a ha => qn ha 68 (tn rfl) fun a ha => q ha (d_pick_t ha rfl rfl rfl) fun a ha => qm ha rfl fun a ha => qn ha 74 (tn rfl) fun a ha => qn ha 74 (tn rfl) fun a ha => qn ha 74 (tn rfl) fun a ha => q ha (d_pick_t ha rfl rfl rfl) fun a ha => s_nil <| ?_
        have hS : Has 117 [(78, (.bool true))] _ := ha.sub ⟨rfl, trivial⟩
        exact hk16 (true, w11) h _ hS
      · refine qg ha 40 (nt b18) (d_move ha rfl) fun a ha => q ha (d_pick_f ha rfl b18 rfl) fun a ha => qm ha rfl fun a ha => ?_
        refine ite_n h (fun b19 h => ?_) (fun b19 h => ?_)
        · refine qn ha 43 (tn b19) fun a ha => qn ha 43 (tn b19) fun a ha => q ha (d_pick_t ha rfl b19 rfl) fun a ha => qm ha rfl fun a ha => qn ha 47 (tn rfl) fun a ha => q ha (d_pick_t ha rfl rfl rfl) fun a ha => qm ha rfl fun a ha => qn ha 50 (tn rfl) fun a ha => qn ha 50 (tn rfl) fun a ha => qn ha 50 (tn rfl) fun a ha => qn ha 50 (tn rfl) fun a ha => qn ha 50 (tn rfl) fun a ha => q ha (d_pick_t ha rfl rfl rfl) fun a ha => qm ha rfl fun a ha => qn ha 57 (tn rfl) fun a ha => qn ha 57 (tn rfl) fun a ha => qn ha 57 (tn rfl) fun a ha => qn ha 57 (tn rfl) fun a ha => q ha (d_pick_t ha rfl rfl rfl) fun a ha => qm ha rfl fun a ha => qn ha 63 (tn rfl) fun a ha => qn ha 63 (tn rfl) fun a ha => qn ha 63 (tn rfl) fun a ha => q ha (d_pick_t ha rfl rfl rfl) fun a ha => qm ha rfl fun a ha => qn ha 68 (tn rfl) fun a ha => qn ha 68 (tn rfl) fun a ha => qn ha 68 (tn rfl) fun a ha => qn ha 68 (tn rfl) fun a ha => q ha (d_pick_t ha rfl rfl rfl) fun a ha => qm ha rfl fun a ha => qn ha 74 (tn rfl) fun a ha => qn ha 74 (tn rfl) fun a ha => qn ha 74 (tn rfl) fun a ha => q ha (d_pick_t ha rfl rfl rfl) fun a ha => s_nil <| ?_
          have hS : Has 117 [(78, (.bool true))] _ := ha.sub ⟨rfl, trivial⟩
          exact hk16 (true, w11) h _ hS
        · refine qg ha 43 (nt b19) (d_move ha rfl) fun a ha => qg ha 43 (nt b19) (d_ne ha rfl rfl) fun a ha => q ha (d_pick_f ha rfl b19 rfl) fun a ha => qm ha rfl fun a ha => ?_
          refine ite_n h (fun b20 h => ?_) (fun b20 h => ?_)
          · refine qn ha 47 (tn b20) fun a ha => q ha (d_pick_t ha rfl b20 rfl) fun a ha => qm ha rfl fun a ha => qn ha 50 (tn rfl) fun a ha => qn ha 50 (tn rfl) fun a ha => qn ha 50 (tn rfl) fun a ha => qn ha 50 (tn rfl) fun a ha => qn ha 50 (tn rfl) fun a ha => q ha (d_pick_t ha rfl rfl rfl) fun a ha => qm ha rfl fun a ha => qn ha 57 (tn rfl) fun a ha => qn ha 57 (tn rfl) fun a ha => qn ha 57 (tn rfl) fun a ha => qn ha 57 (tn rfl) fun a ha => q ha (d_pick_t ha rfl rfl rfl) fun a ha => qm ha rfl fun a ha => qn ha 63 (tn rfl) fun a ha => qn ha 63 (tn rfl) fun a ha => qn ha 63 (tn rfl) fun a ha => q ha (d_pick_t ha rfl rfl rfl) fun a ha => qm ha rfl fun a ha => qn ha 68 (tn rfl) fun a ha => qn ha 68 (tn rfl) fun a ha => qn ha 68 (tn rfl) fun a ha => qn ha 68 (tn rfl) fun a ha => q ha (d_pick_t ha rfl rfl rfl) fun a ha => qm ha rfl fun a ha => qn ha 74 (tn rfl) fun a ha => qn ha 74 (tn rfl) fun a ha => qn ha 74 (tn rfl) fun a ha => q ha (d_pick_t ha rfl rfl rfl) fun a ha => s_nil <| ?_
            have hS : Has 117 [(78, (.bool true))] _ := ha.sub ⟨rfl, trivial⟩
            exact hk16 (true, w11) h _ hS
          · refine qg ha 47 (nt b20) (d_move ha rfl) fun a ha => q ha (d_pick_f ha rfl b20 rfl) fun a ha => qm ha rfl fun a ha => ?_
            refine ite_n h (fun b21 h => ?_) (fun b21 h => ?_)
            · refine qn ha 50 (tn b21) fun a ha => qn ha 50 (tn b21) fun a ha => qn ha 50 (tn b21) fun a ha => qn ha 50 (tn b21) fun a ha => qn ha 50 (tn b21) fun a ha => q ha (d_pick_t ha rfl b21 rfl) fun a ha => qm ha rfl fun a ha => qn ha 57 (tn rfl) fun a ha => qn ha 57 (tn rfl) fun a ha => qn ha 57 (tn rfl) fun a ha => qn ha 57 (tn rfl) fun a ha => q ha (d_pick_t ha rfl rfl rfl) fun a ha => qm ha rfl fun a ha => qn ha 63 (tn rfl) fun a ha => qn ha 63 (tn rfl) fun a ha => qn ha 63 (tn rfl) fun a ha => q ha (d_pick_t ha rfl rfl rfl) fun a ha => qm ha rfl fun a ha => qn ha 68 (tn rfl) fun a ha => qn ha 68 (tn rfl) fun a ha => qn ha 68 (tn rfl) fun a ha => qn ha 68 (tn rfl) fun a ha => q ha (d_pick_t ha rfl rfl rfl) fun a ha => qm ha rfl fun a ha => qn ha 74 (tn rfl) fun a ha => qn ha 74 (tn rfl) fun a ha => qn ha 74 (tn rfl) fun a ha => q ha (d_pick_t ha rfl rfl rfl) fun a ha => s_nil <| ?_
              have hS : Has 117 [(78, (.bool true))] _ := ha.sub ⟨rfl, trivial⟩
              exact hk16 (true, w11) h _ hS
            · refine qg ha 50 (nt b21) (d_move ha rfl) fun a ha => qg ha 50 (nt b21) (d_move ha rfl) fun a ha => qg ha 50 (nt b21) (d_move ha rfl) fun a ha => ?_
              obtain ⟨v22, w23, e24, h⟩ := h
              refine qg ha 50 (nt b21) (d_call (xs := [_, _, _]) (vs := [(.pointer none), (.int .i64 a0), (.int .i64 a1)]) ha ⟨rfl, rfl, rfl, trivial⟩ Try.call16 (wheel_Wheel_Set_ok e24)) fun a ha => qg ha 50 (nt b21) (d_ne ha rfl rfl) fun a ha => q ha (d_pick_f ha rfl b21 rfl) fun a ha => qm ha rfl fun a ha => ?_
              refine ite_n h (fun b25 h => ?_) (fun b25 h => ?_)
              · refine qn ha 57 (tn b25) fun a ha => qn ha 57 (tn b25) fun a ha => qn ha 57 (tn b25) fun a ha => qn ha 57 (tn b25) fun a ha => q ha (d_pick_t ha rfl b25 rfl) fun a ha => qm ha rfl fun a ha => qn ha 63 (tn rfl) fun a ha => qn ha 63 (tn rfl) fun a ha => qn ha 63 (tn rfl) fun a ha => q ha (d_pick_t ha rfl rfl rfl) fun a ha => qm ha rfl fun a ha => qn ha 68 (tn rfl) fun a ha => qn ha 68 (tn rfl) fun a ha => qn ha 68 (tn rfl) fun a ha => qn ha 68 (tn rfl) fun a ha => q ha (d_pick_t ha rfl rfl rfl) fun a ha => qm ha rfl fun a ha => qn ha 74 (tn rfl) fun a ha => qn ha 74 (tn rfl) fun a ha => qn ha 74 (tn rfl) fun a ha => q ha (d_pick_t ha rfl rfl rfl) fun a ha => s_nil <| ?_
                have hS : Has 117 [(78, (.bool true))] _ := ha.sub ⟨rfl, trivial⟩
                exact hk16 (true, w23) h _ hS
              · refine qg ha 57 (nt b25) (d_move ha rfl) fun a ha => qg ha 57 (nt b25) (d_move ha rfl) fun a ha => ?_
                obtain ⟨v26, w27, e28, h⟩ := h
                refine qg ha 57 (nt b25) (d_call (xs := [_, _]) (vs := [(.pointer none), (.int .i64 a0)]) ha ⟨rfl, rfl, trivial⟩ Try.call17 (wheel_Wheel_Drop_ok e28)) fun a ha => qg ha 57 (nt b25) (d_ne ha rfl rfl) fun a ha => q ha (d_pick_f ha rfl b25 rfl) fun a ha => qm ha rfl fun a ha => ?_
                refine ite_n h (fun b29 h => ?_) (fun b29 h => ?_)
                · refine qn ha 63 (tn b29) fun a ha => qn ha 63 (tn b29) fun a ha => qn ha 63 (tn b29) fun a ha => q ha (d_pick_t ha rfl b29 rfl) fun a ha => qm ha rfl fun a ha => qn ha 68 (tn rfl) fun a ha => qn ha 68 (tn rfl) fun a ha => qn ha 68 (tn rfl) fun a ha => qn ha 68 (tn rfl) fun a ha => q ha (d_pick_t ha rfl rfl rfl) fun a ha => qm ha rfl fun a ha => qn ha 74 (tn rfl) fun a ha => qn ha 74 (tn rfl) fun a ha => qn ha 74 (tn rfl) fun a ha => q ha (d_pick_t ha rfl rfl rfl) fun a ha => s_nil <| ?_
                  have hS : Has 117 [(78, (.bool true))] _ := ha.sub ⟨rfl, trivial⟩
                  exact hk16 (true, w27) h _ hS
                · refine qg ha 63 (nt b29) (d_move ha rfl) fun a ha => ?_
                  obtain ⟨v30, w31, e32, h⟩ := h
                  refine qg ha 63 (nt b29) (d_call (xs := [_]) (vs := [(.pointer none)]) ha ⟨rfl, trivial⟩ Try.call22 (wheel_Wheel_Now_ok e32)) fun a ha => qg ha 63 (nt b29) (d_ne ha rfl rfl) fun a ha => q ha (d_pick_f ha rfl b29 rfl) fun a ha => qm ha rfl fun a ha => ?_
                  refine ite_n h (fun b33 h => ?_) (fun b33 h => ?_)
                  · refine qn ha 68 (tn b33) fun a ha => qn ha 68 (tn b33) fun a ha => qn ha 68 (tn b33) fun a ha => qn ha 68 (tn b33) fun a ha => q ha (d_pick_t ha rfl b33 rfl) fun a ha => qm ha rfl fun a ha => qn ha 74 (tn rfl) fun a ha => qn ha 74 (tn rfl) fun a ha => qn ha 74 (tn rfl) fun a ha => q ha (d_pick_t ha rfl rfl rfl) fun a ha => s_nil <| ?_
                    have hS : Has 117 [(78, (.bool true))] _ := ha.sub ⟨rfl, trivial⟩
                    exact hk16 (true, w31) h _ hS
                  · refine qg ha 68 (nt b33) (d_move ha rfl) fun a ha => ?_
                    obtain ⟨v34, w35, e36, h⟩ := h
                    refine qg ha 68 (nt b33) (d_call (xs := [_]) (vs := [(.pointer none)]) ha ⟨rfl, trivial⟩ Try.call20 (wheel_Wheel_Ids_ok e36)) fun a ha => qg ha 68 (nt b33) (d_lenS ha rfl Try.runUnderlying34) fun a ha => qg ha 68 (nt b33) (d_ne ha rfl rfl) fun a ha => q ha (d_pick_f ha rfl b33 rfl) fun a ha => qm ha rfl fun a ha => ?_
                    refine ite_n h (fun b37 h => ?_) (fun b37 h => ?_)
                    · refine qn ha 74 (tn b37) fun a ha => qn ha 74 (tn b37) fun a ha => qn ha 74 (tn b37) fun a ha => q ha (d_pick_t ha rfl b37 rfl) fun a ha => s_nil <| ?_
                      have hS : Has 117 [(78, (.bool true))] _ := ha.sub ⟨rfl, trivial⟩
                      exact hk16 (true, w35) h _ hS
                    · refine qg ha 74 (nt b37) (d_move ha rfl) fun a ha => ?_
                      obtain ⟨v38, w39, e40, h⟩ := h
                      refine qg ha 74 (nt b37) (d_call (xs := [_]) (vs := [(.pointer none)]) ha ⟨rfl, trivial⟩ Try.call23 (wheel_Wheel_Fork_ok e40)) fun a ha => qg ha 74 (nt b37) (d_neN ha rfl rfl Try.runUnderlying24) fun a ha => q ha (d_pick_f ha rfl b37 rfl) fun a ha => s_nil <| ?_
                      have hS : Has 117 [(78, (.bool (!(v38.isNone))))] _ := ha.sub ⟨rfl, trivial⟩
                      exact hk16 ((!(v38.isNone)), w39) h _ hS
end Go.Proofs.Ytejkaciimmfgcaa.D
