/- Written by dec.py of this project: Go functions as plain functions over the memory, and that the Go calls come to these. -/
import Derived.Test.YtoanmomopcaikaaGlue
import Derived.Test.YtoanmomopcaikaaFnD
import Derived.Test.YtoanmomopcaikaaFnM
namespace Go.Proofs.Ytoanmomopcaikaa.D
open Go
set_option linter.unusedVariables false
set_option linter.unusedSimpArgs false

noncomputable def grapevinelaw10_live (w : World) : Option (Bool × World) :=
  bind3 (sector_New 4 w) fun v1 v2 w3 =>
  bind3 (mark_Open v1 0 2 w3) fun v5 v6 w7 =>
  bind2 (if (v2 != 0) = true then
  (some (true, w7))
  else
  (if (v6 != 0) = true then
  (some (true, w7))
  else
  (if (v1.isNone) = true then
  (some (true, w7))
  else
  (if (v5.isNone) = true then
  (some (true, w7))
  else
  (bind2 (mark_Cells_Put v5 1 5 w7) fun v17 w18 =>
  if (v17 != 0) = true then
  (some (true, w18))
  else
  (bind2 (sector_Disk_Crash v1 Sl.nil w18) fun v21 w22 =>
  some ((v21 != 0), w22))))))) fun v9 w10 =>
  if v9 = true then
  (some (false, w10))
  else
  (bind3 (mark_Cells_Get v5 1 w10) fun v25 v26 w27 =>
  bind3 (mark_Cells_Get v5 0 w27) fun v29 v30 w31 =>
  bind2 (if v26 = true then
  (if (v25 == 5) = true then
  (some ((!v30), w31))
  else
  (some (false, w31)))
  else
  (some (false, w31))) fun v33 w34 =>
  some (v33, w34))
set_option maxHeartbeats 1000000 in
set_option maxRecDepth 100000 in
theorem grapevinelaw10_live_ok {w w' : World} {r0 : Bool} (h : grapevinelaw10_live w = some (r0, w')) : Calls Try.prog 37 #[] w fun e w'' => e = .returned (.bool r0) ∧ w'' = w' := by
  refine calls_dec (n := 61) Try.func37 rfl Try.ntmps37 (by simp) (fun a ha => ?_)
  unfold grapevinelaw10_live at h
  refine wp_seq ?_
  refine region_lit ?_
  refine s_do rfl ha (ltd rfl) (d_assign ha rfl) (fun a ha => ?_)
  refine s_nil ?_
  refine t_n ?_
  replace ha : Has 61 [] _ := ha.sub trivial
  refine wp_seq ?_
  refine region_lit ?_
  obtain ⟨v1, v2, w3, e4, h⟩ := bs3 h
  refine s_do rfl ha (ltd rfl) (d_call (xs := [_]) (vs := [(.int .i64 4)]) ha ⟨rfl, trivial⟩ Try.call17 (sector_New_ok e4)) (fun a ha => ?_)
  refine s_do rfl ha (ltd rfl) (d_move ha rfl) (fun a ha => ?_)
  refine s_do rfl ha (ltd rfl) (d_ext ha rfl rfl) (fun a ha => ?_)
  refine s_do rfl ha (ltd rfl) (d_ext ha rfl rfl) (fun a ha => ?_)
  refine s_do rfl ha (ltd rfl) (d_assign ha rfl) (fun a ha => ?_)
  refine s_do rfl ha (ltd rfl) (d_assign ha rfl) (fun a ha => ?_)
  refine s_nil ?_
  refine t_n ?_
  replace ha : Has 61 [(1, (.pointer v1)), (2, (.int .i64 v2))] _ := ha.sub ⟨rfl, rfl, trivial⟩
  refine wp_seq ?_
  refine region_lit ?_
  refine s_do rfl ha (ltd rfl) (d_move ha rfl) (fun a ha => ?_)
  obtain ⟨v5, v6, w7, e8, h⟩ := bs3 h
  refine s_do rfl ha (ltd rfl) (d_call (xs := [_, _, _]) (vs := [(.pointer v1), (.int .i64 0), (.int .i64 2)]) ha ⟨rfl, rfl, rfl, trivial⟩ Try.call36 (mark_Open_ok e8)) (fun a ha => ?_)
  refine s_do rfl ha (ltd rfl) (d_move ha rfl) (fun a ha => ?_)
  refine s_do rfl ha (ltd rfl) (d_ext ha rfl rfl) (fun a ha => ?_)
  refine s_do rfl ha (ltd rfl) (d_ext ha rfl rfl) (fun a ha => ?_)
  refine s_do rfl ha (ltd rfl) (d_assign ha rfl) (fun a ha => ?_)
  refine s_do rfl ha (ltd rfl) (d_assign ha rfl) (fun a ha => ?_)
  refine s_nil ?_
  refine t_n ?_
  replace ha : Has 61 [(1, (.pointer v1)), (2, (.int .i64 v2)), (3, (.pointer v5)), (4, (.int .i64 v6))] _ := ha.sub ⟨rfl, rfl, rfl, rfl, trivial⟩
  refine wp_seq ?_
  refine wp_seq ?_
  obtain ⟨v9, w10, e11, h⟩ := bs2 h
  refine reg_join (n := 61) (L := [(41, (.bool v9)), (3, (.pointer v5))]) (w' := w10) (fun a ha => ?_) (fun hk12 => ?_)
  · refine t_n ?_
    replace ha : Has 61 [(3, (.pointer v5)), (41, (.bool v9))] _ := ha.sub ⟨rfl, rfl, trivial⟩
    refine s_cond ha rfl h (fun b24 h => ?_) (fun b24 h => ?_)
    · refine wp_seq ?_
      refine region_lit ?_
      refine s_do rfl ha (ltd rfl) (d_assign ha rfl) (fun a ha => ?_)
      refine s_nil ?_
      refine t_n ?_
      replace ha : Has 61 [(0, (.bool false))] _ := ha.sub ⟨rfl, trivial⟩
      refine wp_ret ?_
      refine t_r ?_
      have hS := ha
      cases h
      exact ret1 Try.results37 hS rfl ⟨rfl, rfl⟩
    · refine wp_skip ?_
      refine t_n ?_
      replace ha : Has 61 [(3, (.pointer v5))] _ := ha.sub ⟨rfl, trivial⟩
      refine wp_seq ?_
      refine region_lit ?_
      refine s_do rfl ha (ltd rfl) (d_move ha rfl) (fun a ha => ?_)
      obtain ⟨v25, v26, w27, e28, h⟩ := bs3 h
      refine s_do rfl ha (ltd rfl) (d_call (xs := [_, _]) (vs := [(.pointer v5), (.int .i64 1)]) ha ⟨rfl, rfl, trivial⟩ Try.call35 (mark_Cells_Get_ok e28)) (fun a ha => ?_)
      refine s_do rfl ha (ltd rfl) (d_move ha rfl) (fun a ha => ?_)
      refine s_do rfl ha (ltd rfl) (d_ext ha rfl rfl) (fun a ha => ?_)
      refine s_do rfl ha (ltd rfl) (d_ext ha rfl rfl) (fun a ha => ?_)
      refine s_do rfl ha (ltd rfl) (d_assign ha rfl) (fun a ha => ?_)
      refine s_do rfl ha (ltd rfl) (d_assign ha rfl) (fun a ha => ?_)
      refine s_nil ?_
      refine t_n ?_
      replace ha : Has 61 [(3, (.pointer v5)), (5, (.int .i64 v25)), (6, (.bool v26))] _ := ha.sub ⟨rfl, rfl, rfl, trivial⟩
      refine wp_seq ?_
      refine region_lit ?_
      refine s_do rfl ha (ltd rfl) (d_move ha rfl) (fun a ha => ?_)
      obtain ⟨v29, v30, w31, e32, h⟩ := bs3 h
      refine s_do rfl ha (ltd rfl) (d_call (xs := [_, _]) (vs := [(.pointer v5), (.int .i64 0)]) ha ⟨rfl, rfl, trivial⟩ Try.call35 (mark_Cells_Get_ok e32)) (fun a ha => ?_)
      refine s_do rfl ha (ltd rfl) (d_move ha rfl) (fun a ha => ?_)
      refine s_do rfl ha (ltd rfl) (d_ext ha rfl rfl) (fun a ha => ?_)
      refine s_do rfl ha (ltd rfl) (d_ext ha rfl rfl) (fun a ha => ?_)
      refine s_do rfl ha (ltd rfl) (d_assign ha rfl) (fun a ha => ?_)
      refine s_do rfl ha (ltd rfl) (d_assign ha rfl) (fun a ha => ?_)
      refine s_nil ?_
      refine t_n ?_
      replace ha : Has 61 [(5, (.int .i64 v25)), (6, (.bool v26)), (8, (.bool v30))] _ := ha.sub ⟨rfl, rfl, rfl, trivial⟩
      refine wp_seq ?_
      obtain ⟨v33, w34, e35, h⟩ := bs2 h
      refine reg_join (n := 61) (L := [(0, (.bool v33))]) (w' := w34) (fun a ha => ?_) (fun hk36 => ?_)
      · refine t_n ?_
        replace ha : Has 61 [(0, (.bool v33))] _ := ha.sub ⟨rfl, trivial⟩
        refine wp_ret ?_
        have hS := ha
        cases h
        exact ret1 Try.results37 hS rfl ⟨rfl, rfl⟩
      · clear h
        have h := e35
        refine region_lit ?_
        refine s_do rfl ha (ltd rfl) (d_move ha rfl) (fun a ha => ?_)
        refine s_do rfl ha (ltd rfl) (d_move ha rfl) (fun a ha => ?_)
        refine ite_s h (fun b37 h => ?_) (fun b37 h => ?_)
        · refine s_do_g2 rfl rfl ha (rfl : List.lookup 53 _ = _) b37 (ltd rfl) (d_move ha rfl) (fun a ha => ?_)
          refine s_do_g2 rfl rfl ha (rfl : List.lookup 53 _ = _) b37 (ltd rfl) (d_eq ha rfl rfl) (fun a ha => ?_)
          refine s_do rfl ha (ltd rfl) (d_pick_t ha rfl b37 rfl) (fun a ha => ?_)
          refine s_do rfl ha (ltd rfl) (d_move ha rfl) (fun a ha => ?_)
          refine ite_s h (fun b38 h => ?_) (fun b38 h => ?_)
          · refine s_do_g2 rfl rfl ha (rfl : List.lookup 57 _ = _) b38 (ltd rfl) (d_move ha rfl) (fun a ha => ?_)
            refine s_do_g2 rfl rfl ha (rfl : List.lookup 57 _ = _) b38 (ltd rfl) (d_not ha rfl) (fun a ha => ?_)
            refine s_do rfl ha (ltd rfl) (d_pick_t ha rfl b38 rfl) (fun a ha => ?_)
            refine s_do rfl ha (ltd rfl) (d_assign ha rfl) (fun a ha => ?_)
            refine s_nil ?_
            have hS : Has 61 [(0, (.bool (!v30)))] _ := ha.sub ⟨rfl, trivial⟩
            cases h
            exact hk36 _ hS
          · refine s_no_g rfl rfl ha (rfl : List.lookup 57 _ = _) (nn b38 _ rfl) (ltd rfl) (fun a ha => ?_)
            refine s_no_g rfl rfl ha (rfl : List.lookup 57 _ = _) (nn b38 _ rfl) (ltd rfl) (fun a ha => ?_)
            refine s_do rfl ha (ltd rfl) (d_pick_f ha rfl b38 rfl) (fun a ha => ?_)
            refine s_do rfl ha (ltd rfl) (d_assign ha rfl) (fun a ha => ?_)
            refine s_nil ?_
            have hS : Has 61 [(0, (.bool false))] _ := ha.sub ⟨rfl, trivial⟩
            cases h
            exact hk36 _ hS
        · refine s_no_g rfl rfl ha (rfl : List.lookup 53 _ = _) (nn b37 _ rfl) (ltd rfl) (fun a ha => ?_)
          refine s_no_g rfl rfl ha (rfl : List.lookup 53 _ = _) (nn b37 _ rfl) (ltd rfl) (fun a ha => ?_)
          refine s_do rfl ha (ltd rfl) (d_pick_f ha rfl b37 rfl) (fun a ha => ?_)
          refine s_do rfl ha (ltd rfl) (d_move ha rfl) (fun a ha => ?_)
          refine s_no_g rfl rfl ha (rfl : List.lookup 57 _ = _) (nn (by decide) _ rfl) (ltd rfl) (fun a ha => ?_)
          refine s_no_g rfl rfl ha (rfl : List.lookup 57 _ = _) (nn (by decide) _ rfl) (ltd rfl) (fun a ha => ?_)
          refine s_do rfl ha (ltd rfl) (d_pick_f ha rfl (by decide) rfl) (fun a ha => ?_)
          refine s_do rfl ha (ltd rfl) (d_assign ha rfl) (fun a ha => ?_)
          refine s_nil ?_
          have hS : Has 61 [(0, (.bool false))] _ := ha.sub ⟨rfl, trivial⟩
          cases h
          exact hk36 _ hS
  · clear h
    have h := e11
    refine region_lit ?_
    refine s_do rfl ha (ltd rfl) (d_move ha rfl) (fun a ha => ?_)
    refine s_do rfl ha (ltd rfl) (d_ne ha rfl rfl) (fun a ha => ?_)
    refine s_do rfl ha (ltd rfl) (d_move ha rfl) (fun a ha => ?_)
    refine ite_s h (fun b13 h => ?_) (fun b13 h => ?_)
    · refine s_no_g rfl rfl ha (rfl : List.lookup 20 _ = _) (tn b13) (ltd rfl) (fun a ha => ?_)
      refine s_no_g rfl rfl ha (rfl : List.lookup 20 _ = _) (tn b13) (ltd rfl) (fun a ha => ?_)
      refine s_do rfl ha (ltd rfl) (d_pick_t ha rfl b13 rfl) (fun a ha => ?_)
      refine s_do rfl ha (ltd rfl) (d_move ha rfl) (fun a ha => ?_)
      refine s_no_g rfl rfl ha (rfl : List.lookup 24 _ = _) (tn rfl) (ltd rfl) (fun a ha => ?_)
      refine s_no_g rfl rfl ha (rfl : List.lookup 24 _ = _) (tn rfl) (ltd rfl) (fun a ha => ?_)
      refine s_do rfl ha (ltd rfl) (d_pick_t ha rfl rfl rfl) (fun a ha => ?_)
      refine s_do rfl ha (ltd rfl) (d_move ha rfl) (fun a ha => ?_)
      refine s_no_g rfl rfl ha (rfl : List.lookup 28 _ = _) (tn rfl) (ltd rfl) (fun a ha => ?_)
      refine s_no_g rfl rfl ha (rfl : List.lookup 28 _ = _) (tn rfl) (ltd rfl) (fun a ha => ?_)
      refine s_do rfl ha (ltd rfl) (d_pick_t ha rfl rfl rfl) (fun a ha => ?_)
      refine s_do rfl ha (ltd rfl) (d_move ha rfl) (fun a ha => ?_)
      refine s_no_g rfl rfl ha (rfl : List.lookup 32 _ = _) (tn rfl) (ltd rfl) (fun a ha => ?_)
      refine s_no_g rfl rfl ha (rfl : List.lookup 32 _ = _) (tn rfl) (ltd rfl) (fun a ha => ?_)
      refine s_no_g rfl rfl ha (rfl : List.lookup 32 _ = _) (tn rfl) (ltd rfl) (fun a ha => ?_)
      refine s_do rfl ha (ltd rfl) (d_pick_t ha rfl rfl rfl) (fun a ha => ?_)
      refine s_do rfl ha (ltd rfl) (d_move ha rfl) (fun a ha => ?_)
      refine s_no_g rfl rfl ha (rfl : List.lookup 37 _ = _) (tn rfl) (ltd rfl) (fun a ha => ?_)
      refine s_no_g rfl rfl ha (rfl : List.lookup 37 _ = _) (tn rfl) (ltd rfl) (fun a ha => ?_)
      refine s_no_g rfl rfl ha (rfl : List.lookup 37 _ = _) (tn rfl) (ltd rfl) (fun a ha => ?_)
      refine s_do rfl ha (ltd rfl) (d_pick_t ha rfl rfl rfl) (fun a ha => ?_)
      refine s_nil ?_
      have hS : Has 61 [(41, (.bool true)), (3, (.pointer v5))] _ := ha.sub ⟨rfl, rfl, trivial⟩
      cases h
      exact hk12 _ hS
    · refine s_do_g2 rfl rfl ha (rfl : List.lookup 20 _ = _) (nt b13) (ltd rfl) (d_move ha rfl) (fun a ha => ?_)
      refine s_do_g2 rfl rfl ha (rfl : List.lookup 20 _ = _) (nt b13) (ltd rfl) (d_ne ha rfl rfl) (fun a ha => ?_)
      refine s_do rfl ha (ltd rfl) (d_pick_f ha rfl b13 rfl) (fun a ha => ?_)
      refine s_do rfl ha (ltd rfl) (d_move ha rfl) (fun a ha => ?_)
      refine ite_s h (fun b14 h => ?_) (fun b14 h => ?_)
      · refine s_no_g rfl rfl ha (rfl : List.lookup 24 _ = _) (tn b14) (ltd rfl) (fun a ha => ?_)
        refine s_no_g rfl rfl ha (rfl : List.lookup 24 _ = _) (tn b14) (ltd rfl) (fun a ha => ?_)
        refine s_do rfl ha (ltd rfl) (d_pick_t ha rfl b14 rfl) (fun a ha => ?_)
        refine s_do rfl ha (ltd rfl) (d_move ha rfl) (fun a ha => ?_)
        refine s_no_g rfl rfl ha (rfl : List.lookup 28 _ = _) (tn rfl) (ltd rfl) (fun a ha => ?_)
        refine s_no_g rfl rfl ha (rfl : List.lookup 28 _ = _) (tn rfl) (ltd rfl) (fun a ha => ?_)
        refine s_do rfl ha (ltd rfl) (d_pick_t ha rfl rfl rfl) (fun a ha => ?_)
        refine s_do rfl ha (ltd rfl) (d_move ha rfl) (fun a ha => ?_)
        refine s_no_g rfl rfl ha (rfl : List.lookup 32 _ = _) (tn rfl) (ltd rfl) (fun a ha => ?_)
        refine s_no_g rfl rfl ha (rfl : List.lookup 32 _ = _) (tn rfl) (ltd rfl) (fun a ha => ?_)
        refine s_no_g rfl rfl ha (rfl : List.lookup 32 _ = _) (tn rfl) (ltd rfl) (fun a ha => ?_)
        refine s_do rfl ha (ltd rfl) (d_pick_t ha rfl rfl rfl) (fun a ha => ?_)
        refine s_do rfl ha (ltd rfl) (d_move ha rfl) (fun a ha => ?_)
        refine s_no_g rfl rfl ha (rfl : List.lookup 37 _ = _) (tn rfl) (ltd rfl) (fun a ha => ?_)
        refine s_no_g rfl rfl ha (rfl : List.lookup 37 _ = _) (tn rfl) (ltd rfl) (fun a ha => ?_)
        refine s_no_g rfl rfl ha (rfl : List.lookup 37 _ = _) (tn rfl) (ltd rfl) (fun a ha => ?_)
        refine s_do rfl ha (ltd rfl) (d_pick_t ha rfl rfl rfl) (fun a ha => ?_)
        refine s_nil ?_
        have hS : Has 61 [(41, (.bool true)), (3, (.pointer v5))] _ := ha.sub ⟨rfl, rfl, trivial⟩
        cases h
        exact hk12 _ hS
      · refine s_do_g2 rfl rfl ha (rfl : List.lookup 24 _ = _) (nt b14) (ltd rfl) (d_move ha rfl) (fun a ha => ?_)
        refine s_do_g2 rfl rfl ha (rfl : List.lookup 24 _ = _) (nt b14) (ltd rfl) (d_eqN ha rfl rfl Try.runUnderlying22) (fun a ha => ?_)
        refine s_do rfl ha (ltd rfl) (d_pick_f ha rfl b14 rfl) (fun a ha => ?_)
        refine s_do rfl ha (ltd rfl) (d_move ha rfl) (fun a ha => ?_)
        refine ite_s h (fun b15 h => ?_) (fun b15 h => ?_)
        · refine s_no_g rfl rfl ha (rfl : List.lookup 28 _ = _) (tn b15) (ltd rfl) (fun a ha => ?_)
          refine s_no_g rfl rfl ha (rfl : List.lookup 28 _ = _) (tn b15) (ltd rfl) (fun a ha => ?_)
          refine s_do rfl ha (ltd rfl) (d_pick_t ha rfl b15 rfl) (fun a ha => ?_)
          refine s_do rfl ha (ltd rfl) (d_move ha rfl) (fun a ha => ?_)
          refine s_no_g rfl rfl ha (rfl : List.lookup 32 _ = _) (tn rfl) (ltd rfl) (fun a ha => ?_)
          refine s_no_g rfl rfl ha (rfl : List.lookup 32 _ = _) (tn rfl) (ltd rfl) (fun a ha => ?_)
          refine s_no_g rfl rfl ha (rfl : List.lookup 32 _ = _) (tn rfl) (ltd rfl) (fun a ha => ?_)
          refine s_do rfl ha (ltd rfl) (d_pick_t ha rfl rfl rfl) (fun a ha => ?_)
          refine s_do rfl ha (ltd rfl) (d_move ha rfl) (fun a ha => ?_)
          refine s_no_g rfl rfl ha (rfl : List.lookup 37 _ = _) (tn rfl) (ltd rfl) (fun a ha => ?_)
          refine s_no_g rfl rfl ha (rfl : List.lookup 37 _ = _) (tn rfl) (ltd rfl) (fun a ha => ?_)
          refine s_no_g rfl rfl ha (rfl : List.lookup 37 _ = _) (tn rfl) (ltd rfl) (fun a ha => ?_)
          refine s_do rfl ha (ltd rfl) (d_pick_t ha rfl rfl rfl) (fun a ha => ?_)
          refine s_nil ?_
          have hS : Has 61 [(41, (.bool true)), (3, (.pointer v5))] _ := ha.sub ⟨rfl, rfl, trivial⟩
          cases h
          exact hk12 _ hS
        · refine s_do_g2 rfl rfl ha (rfl : List.lookup 28 _ = _) (nt b15) (ltd rfl) (d_move ha rfl) (fun a ha => ?_)
          refine s_do_g2 rfl rfl ha (rfl : List.lookup 28 _ = _) (nt b15) (ltd rfl) (d_eqN ha rfl rfl Try.runUnderlying58) (fun a ha => ?_)
          refine s_do rfl ha (ltd rfl) (d_pick_f ha rfl b15 rfl) (fun a ha => ?_)
          refine s_do rfl ha (ltd rfl) (d_move ha rfl) (fun a ha => ?_)
          refine ite_s h (fun b16 h => ?_) (fun b16 h => ?_)
          · refine s_no_g rfl rfl ha (rfl : List.lookup 32 _ = _) (tn b16) (ltd rfl) (fun a ha => ?_)
            refine s_no_g rfl rfl ha (rfl : List.lookup 32 _ = _) (tn b16) (ltd rfl) (fun a ha => ?_)
            refine s_no_g rfl rfl ha (rfl : List.lookup 32 _ = _) (tn b16) (ltd rfl) (fun a ha => ?_)
            refine s_do rfl ha (ltd rfl) (d_pick_t ha rfl b16 rfl) (fun a ha => ?_)
            refine s_do rfl ha (ltd rfl) (d_move ha rfl) (fun a ha => ?_)
            refine s_no_g rfl rfl ha (rfl : List.lookup 37 _ = _) (tn rfl) (ltd rfl) (fun a ha => ?_)
            refine s_no_g rfl rfl ha (rfl : List.lookup 37 _ = _) (tn rfl) (ltd rfl) (fun a ha => ?_)
            refine s_no_g rfl rfl ha (rfl : List.lookup 37 _ = _) (tn rfl) (ltd rfl) (fun a ha => ?_)
            refine s_do rfl ha (ltd rfl) (d_pick_t ha rfl rfl rfl) (fun a ha => ?_)
            refine s_nil ?_
            have hS : Has 61 [(41, (.bool true)), (3, (.pointer v5))] _ := ha.sub ⟨rfl, rfl, trivial⟩
            cases h
            exact hk12 _ hS
          · refine s_do_g2 rfl rfl ha (rfl : List.lookup 32 _ = _) (nt b16) (ltd rfl) (d_move ha rfl) (fun a ha => ?_)
            obtain ⟨v17, w18, e19, h⟩ := bs2 h
            refine s_do_g2 rfl rfl ha (rfl : List.lookup 32 _ = _) (nt b16) (ltd rfl) (d_call (xs := [_, _, _]) (vs := [(.pointer v5), (.int .i64 1), (.int .i64 5)]) ha ⟨rfl, rfl, rfl, trivial⟩ Try.call38 (mark_Cells_Put_ok e19)) (fun a ha => ?_)
            refine s_do_g2 rfl rfl ha (rfl : List.lookup 32 _ = _) (nt b16) (ltd rfl) (d_ne ha rfl rfl) (fun a ha => ?_)
            refine s_do rfl ha (ltd rfl) (d_pick_f ha rfl b16 rfl) (fun a ha => ?_)
            refine s_do rfl ha (ltd rfl) (d_move ha rfl) (fun a ha => ?_)
            refine ite_s h (fun b20 h => ?_) (fun b20 h => ?_)
            · refine s_no_g rfl rfl ha (rfl : List.lookup 37 _ = _) (tn b20) (ltd rfl) (fun a ha => ?_)
              refine s_no_g rfl rfl ha (rfl : List.lookup 37 _ = _) (tn b20) (ltd rfl) (fun a ha => ?_)
              refine s_no_g rfl rfl ha (rfl : List.lookup 37 _ = _) (tn b20) (ltd rfl) (fun a ha => ?_)
              refine s_do rfl ha (ltd rfl) (d_pick_t ha rfl b20 rfl) (fun a ha => ?_)
              refine s_nil ?_
              have hS : Has 61 [(41, (.bool true)), (3, (.pointer v5))] _ := ha.sub ⟨rfl, rfl, trivial⟩
              cases h
              exact hk12 _ hS
            · refine s_do_g2 rfl rfl ha (rfl : List.lookup 37 _ = _) (nt b20) (ltd rfl) (d_move ha rfl) (fun a ha => ?_)
              obtain ⟨v21, w22, e23, h⟩ := bs2 h
              refine s_do_g2 rfl rfl ha (rfl : List.lookup 37 _ = _) (nt b20) (ltd rfl) (d_call (xs := [_, _]) (vs := [(.pointer v1), (Sl.v Sl.nil)]) ha ⟨rfl, rfl, trivial⟩ Try.call26 (sector_Disk_Crash_ok e23)) (fun a ha => ?_)
              refine s_do_g2 rfl rfl ha (rfl : List.lookup 37 _ = _) (nt b20) (ltd rfl) (d_ne ha rfl rfl) (fun a ha => ?_)
              refine s_do rfl ha (ltd rfl) (d_pick_f ha rfl b20 rfl) (fun a ha => ?_)
              refine s_nil ?_
              have hS : Has 61 [(41, (.bool (v21 != 0))), (3, (.pointer v5))] _ := ha.sub ⟨rfl, rfl, trivial⟩
              cases h
              exact hk12 _ hS

noncomputable def grapevinelaw10_MarkNone (a0 : Int) (a1 : Int) (w : World) : Option (Bool × World) :=
  bind3 (mark_Cells_Get none a0 w) fun v1 v2 w3 =>
  bind3 (mark_Open none a0 a1 w3) fun v5 v6 w7 =>
  bind2 (bind2 (grapevinelaw10_live w7) fun v13 w14 =>
  if v13 = true then
  (if (v1 == 0) = true then
  (if (!v2) = true then
  (bind2 (mark_Cells_Put none a0 a1 w14) fun v19 w20 =>
  if (v19 == 1) = true then
  (bind2 (mark_Cells_Count none w20) fun v23 w24 =>
  if (v23 == 0) = true then
  (if (v5.isNone) = true then
  (some ((v6 == 1), w24))
  else
  (some (false, w24)))
  else
  (some (false, w24)))
  else
  (some (false, w20)))
  else
  (some (false, w14)))
  else
  (some (false, w14)))
  else
  (some (false, w14))) fun v9 w10 =>
  some (v9, w10)
set_option maxHeartbeats 1000000 in
set_option maxRecDepth 100000 in
theorem grapevinelaw10_MarkNone_ok {a0 : Int} {a1 : Int} {w w' : World} {r0 : Bool} (h : grapevinelaw10_MarkNone a0 a1 w = some (r0, w')) : Calls Try.prog 11 #[(.int .i64 a0), (.int .i64 a1)] w fun e w'' => e = .returned (.bool r0) ∧ w'' = w' := by
  refine calls_dec (n := 51) Try.func11 rfl Try.ntmps11 (by simp) (fun a ha => ?_)
  unfold grapevinelaw10_MarkNone at h
  refine wp_seq ?_
  refine region_lit ?_
  refine s_do rfl ha (ltd rfl) (d_assign ha rfl) (fun a ha => ?_)
  refine s_nil ?_
  refine t_n ?_
  replace ha : Has 51 [(0, (.int .i64 a0)), (1, (.int .i64 a1))] _ := ha.sub ⟨rfl, rfl, trivial⟩
  refine wp_seq ?_
  refine region_lit ?_
  refine s_do rfl ha (ltd rfl) (d_assign ha rfl) (fun a ha => ?_)
  refine s_nil ?_
  refine t_n ?_
  replace ha : Has 51 [(0, (.int .i64 a0)), (1, (.int .i64 a1)), (5, (.pointer none))] _ := ha.sub ⟨rfl, rfl, rfl, trivial⟩
  refine wp_seq ?_
  refine region_lit ?_
  refine s_do rfl ha (ltd rfl) (d_move ha rfl) (fun a ha => ?_)
  refine s_do rfl ha (ltd rfl) (d_move ha rfl) (fun a ha => ?_)
  obtain ⟨v1, v2, w3, e4, h⟩ := bs3 h
  refine s_do rfl ha (ltd rfl) (d_call (xs := [_, _]) (vs := [(.pointer none), (.int .i64 a0)]) ha ⟨rfl, rfl, trivial⟩ Try.call35 (mark_Cells_Get_ok e4)) (fun a ha => ?_)
  refine s_do rfl ha (ltd rfl) (d_move ha rfl) (fun a ha => ?_)
  refine s_do rfl ha (ltd rfl) (d_ext ha rfl rfl) (fun a ha => ?_)
  refine s_do rfl ha (ltd rfl) (d_ext ha rfl rfl) (fun a ha => ?_)
  refine s_do rfl ha (ltd rfl) (d_assign ha rfl) (fun a ha => ?_)
  refine s_do rfl ha (ltd rfl) (d_assign ha rfl) (fun a ha => ?_)
  refine s_nil ?_
  refine t_n ?_
  replace ha : Has 51 [(0, (.int .i64 a0)), (1, (.int .i64 a1)), (5, (.pointer none)), (6, (.int .i64 v1)), (7, (.bool v2))] _ := ha.sub ⟨rfl, rfl, rfl, rfl, rfl, trivial⟩
  refine wp_seq ?_
  refine region_lit ?_
  refine s_do rfl ha (ltd rfl) (d_move ha rfl) (fun a ha => ?_)
  refine s_do rfl ha (ltd rfl) (d_move ha rfl) (fun a ha => ?_)
  obtain ⟨v5, v6, w7, e8, h⟩ := bs3 h
  refine s_do rfl ha (ltd rfl) (d_call (xs := [_, _, _]) (vs := [(.pointer none), (.int .i64 a0), (.int .i64 a1)]) ha ⟨rfl, rfl, rfl, trivial⟩ Try.call36 (mark_Open_ok e8)) (fun a ha => ?_)
  refine s_do rfl ha (ltd rfl) (d_move ha rfl) (fun a ha => ?_)
  refine s_do rfl ha (ltd rfl) (d_ext ha rfl rfl) (fun a ha => ?_)
  refine s_do rfl ha (ltd rfl) (d_ext ha rfl rfl) (fun a ha => ?_)
  refine s_do rfl ha (ltd rfl) (d_assign ha rfl) (fun a ha => ?_)
  refine s_do rfl ha (ltd rfl) (d_assign ha rfl) (fun a ha => ?_)
  refine s_nil ?_
  refine t_n ?_
  replace ha : Has 51 [(0, (.int .i64 a0)), (1, (.int .i64 a1)), (5, (.pointer none)), (6, (.int .i64 v1)), (7, (.bool v2)), (8, (.pointer v5)), (9, (.int .i64 v6))] _ := ha.sub ⟨rfl, rfl, rfl, rfl, rfl, rfl, rfl, trivial⟩
  refine wp_seq ?_
  obtain ⟨v9, w10, e11, h⟩ := bs2 h
  refine reg_join (n := 51) (L := [(4, (.bool v9))]) (w' := w10) (fun a ha => ?_) (fun hk12 => ?_)
  · refine t_n ?_
    replace ha : Has 51 [(4, (.bool v9))] _ := ha.sub ⟨rfl, trivial⟩
    refine wp_ret ?_
    have hS := ha
    cases h
    exact ret1 Try.results11 hS rfl ⟨rfl, rfl⟩
  · clear h
    have h := e11
    refine region_lit ?_
    obtain ⟨v13, w14, e15, h⟩ := bs2 h
    refine s_do rfl ha (ltd rfl) (d_call (xs := []) (vs := []) ha trivial Try.call37 (grapevinelaw10_live_ok e15)) (fun a ha => ?_)
    refine s_do rfl ha (ltd rfl) (d_move ha rfl) (fun a ha => ?_)
    refine ite_s h (fun b16 h => ?_) (fun b16 h => ?_)
    · refine s_do_g2 rfl rfl ha (rfl : List.lookup 23 _ = _) b16 (ltd rfl) (d_move ha rfl) (fun a ha => ?_)
      refine s_do_g2 rfl rfl ha (rfl : List.lookup 23 _ = _) b16 (ltd rfl) (d_eq ha rfl rfl) (fun a ha => ?_)
      refine s_do rfl ha (ltd rfl) (d_pick_t ha rfl b16 rfl) (fun a ha => ?_)
      refine s_do rfl ha (ltd rfl) (d_move ha rfl) (fun a ha => ?_)
      refine ite_s h (fun b17 h => ?_) (fun b17 h => ?_)
      · refine s_do_g2 rfl rfl ha (rfl : List.lookup 27 _ = _) b17 (ltd rfl) (d_move ha rfl) (fun a ha => ?_)
        refine s_do_g2 rfl rfl ha (rfl : List.lookup 27 _ = _) b17 (ltd rfl) (d_not ha rfl) (fun a ha => ?_)
        refine s_do rfl ha (ltd rfl) (d_pick_t ha rfl b17 rfl) (fun a ha => ?_)
        refine s_do rfl ha (ltd rfl) (d_move ha rfl) (fun a ha => ?_)
        refine ite_s h (fun b18 h => ?_) (fun b18 h => ?_)
        · refine s_do_g2 rfl rfl ha (rfl : List.lookup 31 _ = _) b18 (ltd rfl) (d_move ha rfl) (fun a ha => ?_)
          refine s_do_g2 rfl rfl ha (rfl : List.lookup 31 _ = _) b18 (ltd rfl) (d_move ha rfl) (fun a ha => ?_)
          refine s_do_g2 rfl rfl ha (rfl : List.lookup 31 _ = _) b18 (ltd rfl) (d_move ha rfl) (fun a ha => ?_)
          obtain ⟨v19, w20, e21, h⟩ := bs2 h
          refine s_do_g2 rfl rfl ha (rfl : List.lookup 31 _ = _) b18 (ltd rfl) (d_call (xs := [_, _, _]) (vs := [(.pointer none), (.int .i64 a0), (.int .i64 a1)]) ha ⟨rfl, rfl, rfl, trivial⟩ Try.call38 (mark_Cells_Put_ok e21)) (fun a ha => ?_)
          refine s_do_g2 rfl rfl ha (rfl : List.lookup 31 _ = _) b18 (ltd rfl) (d_eq ha rfl rfl) (fun a ha => ?_)
          refine s_do rfl ha (ltd rfl) (d_pick_t ha rfl b18 rfl) (fun a ha => ?_)
          refine s_do rfl ha (ltd rfl) (d_move ha rfl) (fun a ha => ?_)
          refine ite_s h (fun b22 h => ?_) (fun b22 h => ?_)
          · refine s_do_g2 rfl rfl ha (rfl : List.lookup 38 _ = _) b22 (ltd rfl) (d_move ha rfl) (fun a ha => ?_)
            obtain ⟨v23, w24, e25, h⟩ := bs2 h
            refine s_do_g2 rfl rfl ha (rfl : List.lookup 38 _ = _) b22 (ltd rfl) (d_call (xs := [_]) (vs := [(.pointer none)]) ha ⟨rfl, trivial⟩ Try.call39 (mark_Cells_Count_ok e25)) (fun a ha => ?_)
            refine s_do_g2 rfl rfl ha (rfl : List.lookup 38 _ = _) b22 (ltd rfl) (d_eq ha rfl rfl) (fun a ha => ?_)
            refine s_do rfl ha (ltd rfl) (d_pick_t ha rfl b22 rfl) (fun a ha => ?_)
            refine s_do rfl ha (ltd rfl) (d_move ha rfl) (fun a ha => ?_)
            refine ite_s h (fun b26 h => ?_) (fun b26 h => ?_)
            · refine s_do_g2 rfl rfl ha (rfl : List.lookup 43 _ = _) b26 (ltd rfl) (d_move ha rfl) (fun a ha => ?_)
              refine s_do_g2 rfl rfl ha (rfl : List.lookup 43 _ = _) b26 (ltd rfl) (d_eqN ha rfl rfl Try.runUnderlying58) (fun a ha => ?_)
              refine s_do rfl ha (ltd rfl) (d_pick_t ha rfl b26 rfl) (fun a ha => ?_)
              refine s_do rfl ha (ltd rfl) (d_move ha rfl) (fun a ha => ?_)
              refine ite_s h (fun b27 h => ?_) (fun b27 h => ?_)
              · refine s_do_g2 rfl rfl ha (rfl : List.lookup 47 _ = _) b27 (ltd rfl) (d_move ha rfl) (fun a ha => ?_)
                refine s_do_g2 rfl rfl ha (rfl : List.lookup 47 _ = _) b27 (ltd rfl) (d_eq ha rfl rfl) (fun a ha => ?_)
                refine s_do rfl ha (ltd rfl) (d_pick_t ha rfl b27 rfl) (fun a ha => ?_)
                refine s_do rfl ha (ltd rfl) (d_assign ha rfl) (fun a ha => ?_)
                refine s_nil ?_
                have hS : Has 51 [(4, (.bool (v6 == 1)))] _ := ha.sub ⟨rfl, trivial⟩
                cases h
                exact hk12 _ hS
              · refine s_no_g rfl rfl ha (rfl : List.lookup 47 _ = _) (nn b27 _ rfl) (ltd rfl) (fun a ha => ?_)
                refine s_no_g rfl rfl ha (rfl : List.lookup 47 _ = _) (nn b27 _ rfl) (ltd rfl) (fun a ha => ?_)
                refine s_do rfl ha (ltd rfl) (d_pick_f ha rfl b27 rfl) (fun a ha => ?_)
                refine s_do rfl ha (ltd rfl) (d_assign ha rfl) (fun a ha => ?_)
                refine s_nil ?_
                have hS : Has 51 [(4, (.bool false))] _ := ha.sub ⟨rfl, trivial⟩
                cases h
                exact hk12 _ hS
            · refine s_no_g rfl rfl ha (rfl : List.lookup 43 _ = _) (nn b26 _ rfl) (ltd rfl) (fun a ha => ?_)
              refine s_no_g rfl rfl ha (rfl : List.lookup 43 _ = _) (nn b26 _ rfl) (ltd rfl) (fun a ha => ?_)
              refine s_do rfl ha (ltd rfl) (d_pick_f ha rfl b26 rfl) (fun a ha => ?_)
              refine s_do rfl ha (ltd rfl) (d_move ha rfl) (fun a ha => ?_)
              refine s_no_g rfl rfl ha (rfl : List.lookup 47 _ = _) (nn (by decide) _ rfl) (ltd rfl) (fun a ha => ?_)
              refine s_no_g rfl rfl ha (rfl : List.lookup 47 _ = _) (nn (by decide) _ rfl) (ltd rfl) (fun a ha => ?_)
              refine s_do rfl ha (ltd rfl) (d_pick_f ha rfl (by decide) rfl) (fun a ha => ?_)
              refine s_do rfl ha (ltd rfl) (d_assign ha rfl) (fun a ha => ?_)
              refine s_nil ?_
              have hS : Has 51 [(4, (.bool false))] _ := ha.sub ⟨rfl, trivial⟩
              cases h
              exact hk12 _ hS
          · refine s_no_g rfl rfl ha (rfl : List.lookup 38 _ = _) (nn b22 _ rfl) (ltd rfl) (fun a ha => ?_)
            refine s_no_g rfl rfl ha (rfl : List.lookup 38 _ = _) (nn b22 _ rfl) (ltd rfl) (fun a ha => ?_)
            refine s_no_g rfl rfl ha (rfl : List.lookup 38 _ = _) (nn b22 _ rfl) (ltd rfl) (fun a ha => ?_)
            refine s_do rfl ha (ltd rfl) (d_pick_f ha rfl b22 rfl) (fun a ha => ?_)
            refine s_do rfl ha (ltd rfl) (d_move ha rfl) (fun a ha => ?_)
            refine s_no_g rfl rfl ha (rfl : List.lookup 43 _ = _) (nn (by decide) _ rfl) (ltd rfl) (fun a ha => ?_)
            refine s_no_g rfl rfl ha (rfl : List.lookup 43 _ = _) (nn (by decide) _ rfl) (ltd rfl) (fun a ha => ?_)
            refine s_do rfl ha (ltd rfl) (d_pick_f ha rfl (by decide) rfl) (fun a ha => ?_)
            refine s_do rfl ha (ltd rfl) (d_move ha rfl) (fun a ha => ?_)
            refine s_no_g rfl rfl ha (rfl : List.lookup 47 _ = _) (nn (by decide) _ rfl) (ltd rfl) (fun a ha => ?_)
            refine s_no_g rfl rfl ha (rfl : List.lookup 47 _ = _) (nn (by decide) _ rfl) (ltd rfl) (fun a ha => ?_)
            refine s_do rfl ha (ltd rfl) (d_pick_f ha rfl (by decide) rfl) (fun a ha => ?_)
            refine s_do rfl ha (ltd rfl) (d_assign ha rfl) (fun a ha => ?_)
            refine s_nil ?_
            have hS : Has 51 [(4, (.bool false))] _ := ha.sub ⟨rfl, trivial⟩
            cases h
            exact hk12 _ hS
        · refine s_no_g rfl rfl ha (rfl : List.lookup 31 _ = _) (nn b18 _ rfl) (ltd rfl) (fun a ha => ?_)
          refine s_no_g rfl rfl ha (rfl : List.lookup 31 _ = _) (nn b18 _ rfl) (ltd rfl) (fun a ha => ?_)
          refine s_no_g rfl rfl ha (rfl : List.lookup 31 _ = _) (nn b18 _ rfl) (ltd rfl) (fun a ha => ?_)
          refine s_no_g rfl rfl ha (rfl : List.lookup 31 _ = _) (nn b18 _ rfl) (ltd rfl) (fun a ha => ?_)
          refine s_no_g rfl rfl ha (rfl : List.lookup 31 _ = _) (nn b18 _ rfl) (ltd rfl) (fun a ha => ?_)
          refine s_do rfl ha (ltd rfl) (d_pick_f ha rfl b18 rfl) (fun a ha => ?_)
          refine s_do rfl ha (ltd rfl) (d_move ha rfl) (fun a ha => ?_)
          refine s_no_g rfl rfl ha (rfl : List.lookup 38 _ = _) (nn (by decide) _ rfl) (ltd rfl) (fun a ha => ?_)
          refine s_no_g rfl rfl ha (rfl : List.lookup 38 _ = _) (nn (by decide) _ rfl) (ltd rfl) (fun a ha => ?_)
          refine s_no_g rfl rfl ha (rfl : List.lookup 38 _ = _) (nn (by decide) _ rfl) (ltd rfl) (fun a ha => ?_)
          refine s_do rfl ha (ltd rfl) (d_pick_f ha rfl (by decide) rfl) (fun a ha => ?_)
          refine s_do rfl ha (ltd rfl) (d_move ha rfl) (fun a ha => ?_)
          refine s_no_g rfl rfl ha (rfl : List.lookup 43 _ = _) (nn (by decide) _ rfl) (ltd rfl) (fun a ha => ?_)
          refine s_no_g rfl rfl ha (rfl : List.lookup 43 _ = _) (nn (by decide) _ rfl) (ltd rfl) (fun a ha => ?_)
          refine s_do rfl ha (ltd rfl) (d_pick_f ha rfl (by decide) rfl) (fun a ha => ?_)
          refine s_do rfl ha (ltd rfl) (d_move ha rfl) (fun a ha => ?_)
          refine s_no_g rfl rfl ha (rfl : List.lookup 47 _ = _) (nn (by decide) _ rfl) (ltd rfl) (fun a ha => ?_)
          refine s_no_g rfl rfl ha (rfl : List.lookup 47 _ = _) (nn (by decide) _ rfl) (ltd rfl) (fun a ha => ?_)
          refine s_do rfl ha (ltd rfl) (d_pick_f ha rfl (by decide) rfl) (fun a ha => ?_)
          refine s_do rfl ha (ltd rfl) (d_assign ha rfl) (fun a ha => ?_)
          refine s_nil ?_
          have hS : Has 51 [(4, (.bool false))] _ := ha.sub ⟨rfl, trivial⟩
          cases h
          exact hk12 _ hS
      · refine s_no_g rfl rfl ha (rfl : List.lookup 27 _ = _) (nn b17 _ rfl) (ltd rfl) (fun a ha => ?_)
        refine s_no_g rfl rfl ha (rfl : List.lookup 27 _ = _) (nn b17 _ rfl) (ltd rfl) (fun a ha => ?_)
        refine s_do rfl ha (ltd rfl) (d_pick_f ha rfl b17 rfl) (fun a ha => ?_)
        refine s_do rfl ha (ltd rfl) (d_move ha rfl) (fun a ha => ?_)
        refine s_no_g rfl rfl ha (rfl : List.lookup 31 _ = _) (nn (by decide) _ rfl) (ltd rfl) (fun a ha => ?_)
        refine s_no_g rfl rfl ha (rfl : List.lookup 31 _ = _) (nn (by decide) _ rfl) (ltd rfl) (fun a ha => ?_)
        refine s_no_g rfl rfl ha (rfl : List.lookup 31 _ = _) (nn (by decide) _ rfl) (ltd rfl) (fun a ha => ?_)
        refine s_no_g rfl rfl ha (rfl : List.lookup 31 _ = _) (nn (by decide) _ rfl) (ltd rfl) (fun a ha => ?_)
        refine s_no_g rfl rfl ha (rfl : List.lookup 31 _ = _) (nn (by decide) _ rfl) (ltd rfl) (fun a ha => ?_)
        refine s_do rfl ha (ltd rfl) (d_pick_f ha rfl (by decide) rfl) (fun a ha => ?_)
        refine s_do rfl ha (ltd rfl) (d_move ha rfl) (fun a ha => ?_)
        refine s_no_g rfl rfl ha (rfl : List.lookup 38 _ = _) (nn (by decide) _ rfl) (ltd rfl) (fun a ha => ?_)
        refine s_no_g rfl rfl ha (rfl : List.lookup 38 _ = _) (nn (by decide) _ rfl) (ltd rfl) (fun a ha => ?_)
        refine s_no_g rfl rfl ha (rfl : List.lookup 38 _ = _) (nn (by decide) _ rfl) (ltd rfl) (fun a ha => ?_)
        refine s_do rfl ha (ltd rfl) (d_pick_f ha rfl (by decide) rfl) (fun a ha => ?_)
        refine s_do rfl ha (ltd rfl) (d_move ha rfl) (fun a ha => ?_)
        refine s_no_g rfl rfl ha (rfl : List.lookup 43 _ = _) (nn (by decide) _ rfl) (ltd rfl) (fun a ha => ?_)
        refine s_no_g rfl rfl ha (rfl : List.lookup 43 _ = _) (nn (by decide) _ rfl) (ltd rfl) (fun a ha => ?_)
        refine s_do rfl ha (ltd rfl) (d_pick_f ha rfl (by decide) rfl) (fun a ha => ?_)
        refine s_do rfl ha (ltd rfl) (d_move ha rfl) (fun a ha => ?_)
        refine s_no_g rfl rfl ha (rfl : List.lookup 47 _ = _) (nn (by decide) _ rfl) (ltd rfl) (fun a ha => ?_)
        refine s_no_g rfl rfl ha (rfl : List.lookup 47 _ = _) (nn (by decide) _ rfl) (ltd rfl) (fun a ha => ?_)
        refine s_do rfl ha (ltd rfl) (d_pick_f ha rfl (by decide) rfl) (fun a ha => ?_)
        refine s_do rfl ha (ltd rfl) (d_assign ha rfl) (fun a ha => ?_)
        refine s_nil ?_
        have hS : Has 51 [(4, (.bool false))] _ := ha.sub ⟨rfl, trivial⟩
        cases h
        exact hk12 _ hS
    · refine s_no_g rfl rfl ha (rfl : List.lookup 23 _ = _) (nn b16 _ rfl) (ltd rfl) (fun a ha => ?_)
      refine s_no_g rfl rfl ha (rfl : List.lookup 23 _ = _) (nn b16 _ rfl) (ltd rfl) (fun a ha => ?_)
      refine s_do rfl ha (ltd rfl) (d_pick_f ha rfl b16 rfl) (fun a ha => ?_)
      refine s_do rfl ha (ltd rfl) (d_move ha rfl) (fun a ha => ?_)
      refine s_no_g rfl rfl ha (rfl : List.lookup 27 _ = _) (nn (by decide) _ rfl) (ltd rfl) (fun a ha => ?_)
      refine s_no_g rfl rfl ha (rfl : List.lookup 27 _ = _) (nn (by decide) _ rfl) (ltd rfl) (fun a ha => ?_)
      refine s_do rfl ha (ltd rfl) (d_pick_f ha rfl (by decide) rfl) (fun a ha => ?_)
      refine s_do rfl ha (ltd rfl) (d_move ha rfl) (fun a ha => ?_)
      refine s_no_g rfl rfl ha (rfl : List.lookup 31 _ = _) (nn (by decide) _ rfl) (ltd rfl) (fun a ha => ?_)
      refine s_no_g rfl rfl ha (rfl : List.lookup 31 _ = _) (nn (by decide) _ rfl) (ltd rfl) (fun a ha => ?_)
      refine s_no_g rfl rfl ha (rfl : List.lookup 31 _ = _) (nn (by decide) _ rfl) (ltd rfl) (fun a ha => ?_)
      refine s_no_g rfl rfl ha (rfl : List.lookup 31 _ = _) (nn (by decide) _ rfl) (ltd rfl) (fun a ha => ?_)
      refine s_no_g rfl rfl ha (rfl : List.lookup 31 _ = _) (nn (by decide) _ rfl) (ltd rfl) (fun a ha => ?_)
      refine s_do rfl ha (ltd rfl) (d_pick_f ha rfl (by decide) rfl) (fun a ha => ?_)
      refine s_do rfl ha (ltd rfl) (d_move ha rfl) (fun a ha => ?_)
      refine s_no_g rfl rfl ha (rfl : List.lookup 38 _ = _) (nn (by decide) _ rfl) (ltd rfl) (fun a ha => ?_)
      refine s_no_g rfl rfl ha (rfl : List.lookup 38 _ = _) (nn (by decide) _ rfl) (ltd rfl) (fun a ha => ?_)
      refine s_no_g rfl rfl ha (rfl : List.lookup 38 _ = _) (nn (by decide) _ rfl) (ltd rfl) (fun a ha => ?_)
      refine s_do rfl ha (ltd rfl) (d_pick_f ha rfl (by decide) rfl) (fun a ha => ?_)
      refine s_do rfl ha (ltd rfl) (d_move ha rfl) (fun a ha => ?_)
      refine s_no_g rfl rfl ha (rfl : List.lookup 43 _ = _) (nn (by decide) _ rfl) (ltd rfl) (fun a ha => ?_)
      refine s_no_g rfl rfl ha (rfl : List.lookup 43 _ = _) (nn (by decide) _ rfl) (ltd rfl) (fun a ha => ?_)
      refine s_do rfl ha (ltd rfl) (d_pick_f ha rfl (by decide) rfl) (fun a ha => ?_)
      refine s_do rfl ha (ltd rfl) (d_move ha rfl) (fun a ha => ?_)
      refine s_no_g rfl rfl ha (rfl : List.lookup 47 _ = _) (nn (by decide) _ rfl) (ltd rfl) (fun a ha => ?_)
      refine s_no_g rfl rfl ha (rfl : List.lookup 47 _ = _) (nn (by decide) _ rfl) (ltd rfl) (fun a ha => ?_)
      refine s_do rfl ha (ltd rfl) (d_pick_f ha rfl (by decide) rfl) (fun a ha => ?_)
      refine s_do rfl ha (ltd rfl) (d_assign ha rfl) (fun a ha => ?_)
      refine s_nil ?_
      have hS : Has 51 [(4, (.bool false))] _ := ha.sub ⟨rfl, trivial⟩
      cases h
      exact hk12 _ hS

noncomputable def grapevinelaw10_MarkOpens (a0 : Int) (a1 : Int) (a2 : Int) (w : World) : Option (Bool × World) :=
  (rmI (IntKind.wrap .u64 a0) 64).bind fun v1 =>
  bind3 (sector_New (IntKind.wrap .i64 (1 + (IntKind.wrap .i64 v1))) w) fun v3 v4 w5 =>
  bind2 (if (v4 != 0) = true then
  (some (true, w5))
  else
  (some ((v3.isNone), w5))) fun v7 w8 =>
  if v7 = true then
  (some (false, w8))
  else
  (bind3 (mark_Open v3 a1 a2 w8) fun v13 v14 w15 =>
  bind2 (if (decide (1 ≤ a2)) = true then
  (if (decide (a2 ≤ 32)) = true then
  (if (decide (0 ≤ a1)) = true then
  (some ((decide (a1 ≤ (IntKind.wrap .i64 ((IntKind.wrap .i64 (1 + (IntKind.wrap .i64 v1))) - (IntKind.wrap .i64 (2 * a2)))))), w15))
  else
  (some (false, w15)))
  else
  (some (false, w15)))
  else
  (some (false, w15))) fun v17 w18 =>
  if (!v17) = true then
  (bind2 (bind2 (grapevinelaw10_live w18) fun v29 w30 =>
  if v29 = true then
  (if (v14 == 2) = true then
  (some ((v13.isNone), w30))
  else
  (some (false, w30)))
  else
  (some (false, w30))) fun v25 w26 =>
  some (v25, w26))
  else
  (bind3 (mark_Cells_Get v13 0 w18) fun v34 v35 w36 =>
  bind2 (bind2 (grapevinelaw10_live w36) fun v42 w43 =>
  if v42 = true then
  (if (v14 == 0) = true then
  (bind2 (mark_Cells_Count v13 w43) fun v47 w48 =>
  if (v47 == a2) = true then
  (if (!v35) = true then
  (bind2 (sector_Disk_Waits v3 w48) fun v52 w53 =>
  some ((v52 == 0), w53))
  else
  (some (false, w48)))
  else
  (some (false, w48)))
  else
  (some (false, w43)))
  else
  (some (false, w43))) fun v38 w39 =>
  some (v38, w39)))
set_option maxHeartbeats 1000000 in
set_option maxRecDepth 100000 in
theorem grapevinelaw10_MarkOpens_ok {a0 : Int} {a1 : Int} {a2 : Int} {w w' : World} {r0 : Bool} (h : grapevinelaw10_MarkOpens a0 a1 a2 w = some (r0, w')) : Calls Try.prog 12 #[(.int .i64 a0), (.int .i64 a1), (.int .i64 a2)] w fun e w'' => e = .returned (.bool r0) ∧ w'' = w' := by
  refine calls_dec (n := 91) Try.func12 rfl Try.ntmps12 (by simp) (fun a ha => ?_)
  unfold grapevinelaw10_MarkOpens at h
  refine wp_seq ?_
  refine region_lit ?_
  refine s_do rfl ha (ltd rfl) (d_assign ha rfl) (fun a ha => ?_)
  refine s_nil ?_
  refine t_n ?_
  replace ha : Has 91 [(0, (.int .i64 a0)), (1, (.int .i64 a1)), (2, (.int .i64 a2))] _ := ha.sub ⟨rfl, rfl, rfl, trivial⟩
  refine wp_seq ?_
  refine region_lit ?_
  refine s_do rfl ha (ltd rfl) (d_move ha rfl) (fun a ha => ?_)
  refine s_do rfl ha (ltd rfl) (d_conv ha rfl Try.runUnderlying3 Try.runUnderlying47) (fun a ha => ?_)
  obtain ⟨v1, e2, h⟩ := bs1 h
  refine s_do rfl ha (ltd rfl) (d_rem ha rfl rfl e2) (fun a ha => ?_)
  refine s_do rfl ha (ltd rfl) (d_conv ha rfl Try.runUnderlying47 Try.runUnderlying3) (fun a ha => ?_)
  refine s_do rfl ha (ltd rfl) (d_add ha rfl rfl) (fun a ha => ?_)
  refine s_do rfl ha (ltd rfl) (d_assign ha rfl) (fun a ha => ?_)
  refine s_nil ?_
  refine t_n ?_
  replace ha : Has 91 [(0, (.int .i64 (IntKind.wrap .i64 (1 + (IntKind.wrap .i64 v1))))), (1, (.int .i64 a1)), (2, (.int .i64 a2))] _ := ha.sub ⟨rfl, rfl, rfl, trivial⟩
  refine wp_seq ?_
  refine region_lit ?_
  refine s_do rfl ha (ltd rfl) (d_move ha rfl) (fun a ha => ?_)
  obtain ⟨v3, v4, w5, e6, h⟩ := bs3 h
  refine s_do rfl ha (ltd rfl) (d_call (xs := [_]) (vs := [(.int .i64 (IntKind.wrap .i64 (1 + (IntKind.wrap .i64 v1))))]) ha ⟨rfl, trivial⟩ Try.call17 (sector_New_ok e6)) (fun a ha => ?_)
  refine s_do rfl ha (ltd rfl) (d_move ha rfl) (fun a ha => ?_)
  refine s_do rfl ha (ltd rfl) (d_ext ha rfl rfl) (fun a ha => ?_)
  refine s_do rfl ha (ltd rfl) (d_ext ha rfl rfl) (fun a ha => ?_)
  refine s_do rfl ha (ltd rfl) (d_assign ha rfl) (fun a ha => ?_)
  refine s_do rfl ha (ltd rfl) (d_assign ha rfl) (fun a ha => ?_)
  refine s_nil ?_
  refine t_n ?_
  replace ha : Has 91 [(0, (.int .i64 (IntKind.wrap .i64 (1 + (IntKind.wrap .i64 v1))))), (1, (.int .i64 a1)), (2, (.int .i64 a2)), (7, (.pointer v3)), (8, (.int .i64 v4))] _ := ha.sub ⟨rfl, rfl, rfl, rfl, rfl, trivial⟩
  refine wp_seq ?_
  refine wp_seq ?_
  obtain ⟨v7, w8, e9, h⟩ := bs2 h
  refine reg_join (n := 91) (L := [(29, (.bool v7)), (0, (.int .i64 (IntKind.wrap .i64 (1 + (IntKind.wrap .i64 v1))))), (1, (.int .i64 a1)), (2, (.int .i64 a2)), (7, (.pointer v3))]) (w' := w8) (fun a ha => ?_) (fun hk10 => ?_)
  · refine t_n ?_
    replace ha : Has 91 [(0, (.int .i64 (IntKind.wrap .i64 (1 + (IntKind.wrap .i64 v1))))), (1, (.int .i64 a1)), (2, (.int .i64 a2)), (7, (.pointer v3)), (29, (.bool v7))] _ := ha.sub ⟨rfl, rfl, rfl, rfl, rfl, trivial⟩
    refine s_cond ha rfl h (fun b12 h => ?_) (fun b12 h => ?_)
    · refine wp_seq ?_
      refine region_lit ?_
      refine s_do rfl ha (ltd rfl) (d_assign ha rfl) (fun a ha => ?_)
      refine s_nil ?_
      refine t_n ?_
      replace ha : Has 91 [(6, (.bool false))] _ := ha.sub ⟨rfl, trivial⟩
      refine wp_ret ?_
      refine t_r ?_
      have hS := ha
      cases h
      exact ret1 Try.results12 hS rfl ⟨rfl, rfl⟩
    · refine wp_skip ?_
      refine t_n ?_
      replace ha : Has 91 [(0, (.int .i64 (IntKind.wrap .i64 (1 + (IntKind.wrap .i64 v1))))), (1, (.int .i64 a1)), (2, (.int .i64 a2)), (7, (.pointer v3))] _ := ha.sub ⟨rfl, rfl, rfl, rfl, trivial⟩
      refine wp_seq ?_
      refine region_lit ?_
      refine s_do rfl ha (ltd rfl) (d_move ha rfl) (fun a ha => ?_)
      refine s_do rfl ha (ltd rfl) (d_move ha rfl) (fun a ha => ?_)
      refine s_do rfl ha (ltd rfl) (d_move ha rfl) (fun a ha => ?_)
      obtain ⟨v13, v14, w15, e16, h⟩ := bs3 h
      refine s_do rfl ha (ltd rfl) (d_call (xs := [_, _, _]) (vs := [(.pointer v3), (.int .i64 a1), (.int .i64 a2)]) ha ⟨rfl, rfl, rfl, trivial⟩ Try.call36 (mark_Open_ok e16)) (fun a ha => ?_)
      refine s_do rfl ha (ltd rfl) (d_move ha rfl) (fun a ha => ?_)
      refine s_do rfl ha (ltd rfl) (d_ext ha rfl rfl) (fun a ha => ?_)
      refine s_do rfl ha (ltd rfl) (d_ext ha rfl rfl) (fun a ha => ?_)
      refine s_do rfl ha (ltd rfl) (d_assign ha rfl) (fun a ha => ?_)
      refine s_do rfl ha (ltd rfl) (d_assign ha rfl) (fun a ha => ?_)
      refine s_nil ?_
      refine t_n ?_
      replace ha : Has 91 [(0, (.int .i64 (IntKind.wrap .i64 (1 + (IntKind.wrap .i64 v1))))), (1, (.int .i64 a1)), (2, (.int .i64 a2)), (7, (.pointer v3)), (9, (.pointer v13)), (10, (.int .i64 v14))] _ := ha.sub ⟨rfl, rfl, rfl, rfl, rfl, rfl, trivial⟩
      refine wp_seq ?_
      obtain ⟨v17, w18, e19, h⟩ := bs2 h
      refine reg_join (n := 91) (L := [(11, (.bool v17)), (2, (.int .i64 a2)), (7, (.pointer v3)), (9, (.pointer v13)), (10, (.int .i64 v14))]) (w' := w18) (fun a ha => ?_) (fun hk20 => ?_)
      · refine t_n ?_
        replace ha : Has 91 [(2, (.int .i64 a2)), (7, (.pointer v3)), (9, (.pointer v13)), (10, (.int .i64 v14)), (11, (.bool v17))] _ := ha.sub ⟨rfl, rfl, rfl, rfl, rfl, trivial⟩
        refine wp_seq ?_
        refine wp_seq ?_
        refine region_lit ?_
        refine s_do rfl ha (ltd rfl) (d_move ha rfl) (fun a ha => ?_)
        refine s_do rfl ha (ltd rfl) (d_not ha rfl) (fun a ha => ?_)
        refine s_nil ?_
        refine t_n ?_
        replace ha : Has 91 [(2, (.int .i64 a2)), (7, (.pointer v3)), (9, (.pointer v13)), (10, (.int .i64 v14)), (56, (.bool (!v17)))] _ := ha.sub ⟨rfl, rfl, rfl, rfl, rfl, trivial⟩
        refine s_cond ha rfl h (fun b24 h => ?_) (fun b24 h => ?_)
        · refine wp_seq ?_
          obtain ⟨v25, w26, e27, h⟩ := bs2 h
          refine reg_join (n := 91) (L := [(6, (.bool v25))]) (w' := w26) (fun a ha => ?_) (fun hk28 => ?_)
          · refine t_n ?_
            replace ha : Has 91 [(6, (.bool v25))] _ := ha.sub ⟨rfl, trivial⟩
            refine wp_ret ?_
            refine t_r ?_
            have hS := ha
            cases h
            exact ret1 Try.results12 hS rfl ⟨rfl, rfl⟩
          · clear h
            have h := e27
            refine region_lit ?_
            obtain ⟨v29, w30, e31, h⟩ := bs2 h
            refine s_do rfl ha (ltd rfl) (d_call (xs := []) (vs := []) ha trivial Try.call37 (grapevinelaw10_live_ok e31)) (fun a ha => ?_)
            refine s_do rfl ha (ltd rfl) (d_move ha rfl) (fun a ha => ?_)
            refine ite_s h (fun b32 h => ?_) (fun b32 h => ?_)
            · refine s_do_g2 rfl rfl ha (rfl : List.lookup 58 _ = _) b32 (ltd rfl) (d_move ha rfl) (fun a ha => ?_)
              refine s_do_g2 rfl rfl ha (rfl : List.lookup 58 _ = _) b32 (ltd rfl) (d_eq ha rfl rfl) (fun a ha => ?_)
              refine s_do rfl ha (ltd rfl) (d_pick_t ha rfl b32 rfl) (fun a ha => ?_)
              refine s_do rfl ha (ltd rfl) (d_move ha rfl) (fun a ha => ?_)
              refine ite_s h (fun b33 h => ?_) (fun b33 h => ?_)
              · refine s_do_g2 rfl rfl ha (rfl : List.lookup 62 _ = _) b33 (ltd rfl) (d_move ha rfl) (fun a ha => ?_)
                refine s_do_g2 rfl rfl ha (rfl : List.lookup 62 _ = _) b33 (ltd rfl) (d_eqN ha rfl rfl Try.runUnderlying58) (fun a ha => ?_)
                refine s_do rfl ha (ltd rfl) (d_pick_t ha rfl b33 rfl) (fun a ha => ?_)
                refine s_do rfl ha (ltd rfl) (d_assign ha rfl) (fun a ha => ?_)
                refine s_nil ?_
                have hS : Has 91 [(6, (.bool (v13.isNone)))] _ := ha.sub ⟨rfl, trivial⟩
                cases h
                exact hk28 _ hS
              · refine s_no_g rfl rfl ha (rfl : List.lookup 62 _ = _) (nn b33 _ rfl) (ltd rfl) (fun a ha => ?_)
                refine s_no_g rfl rfl ha (rfl : List.lookup 62 _ = _) (nn b33 _ rfl) (ltd rfl) (fun a ha => ?_)
                refine s_do rfl ha (ltd rfl) (d_pick_f ha rfl b33 rfl) (fun a ha => ?_)
                refine s_do rfl ha (ltd rfl) (d_assign ha rfl) (fun a ha => ?_)
                refine s_nil ?_
                have hS : Has 91 [(6, (.bool false))] _ := ha.sub ⟨rfl, trivial⟩
                cases h
                exact hk28 _ hS
            · refine s_no_g rfl rfl ha (rfl : List.lookup 58 _ = _) (nn b32 _ rfl) (ltd rfl) (fun a ha => ?_)
              refine s_no_g rfl rfl ha (rfl : List.lookup 58 _ = _) (nn b32 _ rfl) (ltd rfl) (fun a ha => ?_)
              refine s_do rfl ha (ltd rfl) (d_pick_f ha rfl b32 rfl) (fun a ha => ?_)
              refine s_do rfl ha (ltd rfl) (d_move ha rfl) (fun a ha => ?_)
              refine s_no_g rfl rfl ha (rfl : List.lookup 62 _ = _) (nn (by decide) _ rfl) (ltd rfl) (fun a ha => ?_)
              refine s_no_g rfl rfl ha (rfl : List.lookup 62 _ = _) (nn (by decide) _ rfl) (ltd rfl) (fun a ha => ?_)
              refine s_do rfl ha (ltd rfl) (d_pick_f ha rfl (by decide) rfl) (fun a ha => ?_)
              refine s_do rfl ha (ltd rfl) (d_assign ha rfl) (fun a ha => ?_)
              refine s_nil ?_
              have hS : Has 91 [(6, (.bool false))] _ := ha.sub ⟨rfl, trivial⟩
              cases h
              exact hk28 _ hS
        · refine wp_skip ?_
          refine t_n ?_
          replace ha : Has 91 [(2, (.int .i64 a2)), (7, (.pointer v3)), (9, (.pointer v13)), (10, (.int .i64 v14))] _ := ha.sub ⟨rfl, rfl, rfl, rfl, trivial⟩
          refine wp_seq ?_
          refine region_lit ?_
          refine s_do rfl ha (ltd rfl) (d_move ha rfl) (fun a ha => ?_)
          obtain ⟨v34, v35, w36, e37, h⟩ := bs3 h
          refine s_do rfl ha (ltd rfl) (d_call (xs := [_, _]) (vs := [(.pointer v13), (.int .i64 0)]) ha ⟨rfl, rfl, trivial⟩ Try.call35 (mark_Cells_Get_ok e37)) (fun a ha => ?_)
          refine s_do rfl ha (ltd rfl) (d_move ha rfl) (fun a ha => ?_)
          refine s_do rfl ha (ltd rfl) (d_ext ha rfl rfl) (fun a ha => ?_)
          refine s_do rfl ha (ltd rfl) (d_ext ha rfl rfl) (fun a ha => ?_)
          refine s_do rfl ha (ltd rfl) (d_assign ha rfl) (fun a ha => ?_)
          refine s_do rfl ha (ltd rfl) (d_assign ha rfl) (fun a ha => ?_)
          refine s_nil ?_
          refine t_n ?_
          replace ha : Has 91 [(2, (.int .i64 a2)), (7, (.pointer v3)), (9, (.pointer v13)), (10, (.int .i64 v14)), (13, (.bool v35))] _ := ha.sub ⟨rfl, rfl, rfl, rfl, rfl, trivial⟩
          refine wp_seq ?_
          obtain ⟨v38, w39, e40, h⟩ := bs2 h
          refine reg_join (n := 91) (L := [(6, (.bool v38))]) (w' := w39) (fun a ha => ?_) (fun hk41 => ?_)
          · refine t_n ?_
            replace ha : Has 91 [(6, (.bool v38))] _ := ha.sub ⟨rfl, trivial⟩
            refine wp_ret ?_
            have hS := ha
            cases h
            exact ret1 Try.results12 hS rfl ⟨rfl, rfl⟩
          · clear h
            have h := e40
            refine region_lit ?_
            obtain ⟨v42, w43, e44, h⟩ := bs2 h
            refine s_do rfl ha (ltd rfl) (d_call (xs := []) (vs := []) ha trivial Try.call37 (grapevinelaw10_live_ok e44)) (fun a ha => ?_)
            refine s_do rfl ha (ltd rfl) (d_move ha rfl) (fun a ha => ?_)
            refine ite_s h (fun b45 h => ?_) (fun b45 h => ?_)
            · refine s_do_g2 rfl rfl ha (rfl : List.lookup 72 _ = _) b45 (ltd rfl) (d_move ha rfl) (fun a ha => ?_)
              refine s_do_g2 rfl rfl ha (rfl : List.lookup 72 _ = _) b45 (ltd rfl) (d_eq ha rfl rfl) (fun a ha => ?_)
              refine s_do rfl ha (ltd rfl) (d_pick_t ha rfl b45 rfl) (fun a ha => ?_)
              refine s_do rfl ha (ltd rfl) (d_move ha rfl) (fun a ha => ?_)
              refine ite_s h (fun b46 h => ?_) (fun b46 h => ?_)
              · refine s_do_g2 rfl rfl ha (rfl : List.lookup 76 _ = _) b46 (ltd rfl) (d_move ha rfl) (fun a ha => ?_)
                obtain ⟨v47, w48, e49, h⟩ := bs2 h
                refine s_do_g2 rfl rfl ha (rfl : List.lookup 76 _ = _) b46 (ltd rfl) (d_call (xs := [_]) (vs := [(.pointer v13)]) ha ⟨rfl, trivial⟩ Try.call39 (mark_Cells_Count_ok e49)) (fun a ha => ?_)
                refine s_do_g2 rfl rfl ha (rfl : List.lookup 76 _ = _) b46 (ltd rfl) (d_move ha rfl) (fun a ha => ?_)
                refine s_do_g2 rfl rfl ha (rfl : List.lookup 76 _ = _) b46 (ltd rfl) (d_eq ha rfl rfl) (fun a ha => ?_)
                refine s_do rfl ha (ltd rfl) (d_pick_t ha rfl b46 rfl) (fun a ha => ?_)
                refine s_do rfl ha (ltd rfl) (d_move ha rfl) (fun a ha => ?_)
                refine ite_s h (fun b50 h => ?_) (fun b50 h => ?_)
                · refine s_do_g2 rfl rfl ha (rfl : List.lookup 82 _ = _) b50 (ltd rfl) (d_move ha rfl) (fun a ha => ?_)
                  refine s_do_g2 rfl rfl ha (rfl : List.lookup 82 _ = _) b50 (ltd rfl) (d_not ha rfl) (fun a ha => ?_)
                  refine s_do rfl ha (ltd rfl) (d_pick_t ha rfl b50 rfl) (fun a ha => ?_)
                  refine s_do rfl ha (ltd rfl) (d_move ha rfl) (fun a ha => ?_)
                  refine ite_s h (fun b51 h => ?_) (fun b51 h => ?_)
                  · refine s_do_g2 rfl rfl ha (rfl : List.lookup 86 _ = _) b51 (ltd rfl) (d_move ha rfl) (fun a ha => ?_)
                    obtain ⟨v52, w53, e54, h⟩ := bs2 h
                    refine s_do_g2 rfl rfl ha (rfl : List.lookup 86 _ = _) b51 (ltd rfl) (d_call (xs := [_]) (vs := [(.pointer v3)]) ha ⟨rfl, trivial⟩ Try.call20 (sector_Disk_Waits_ok e54)) (fun a ha => ?_)
                    refine s_do_g2 rfl rfl ha (rfl : List.lookup 86 _ = _) b51 (ltd rfl) (d_eq ha rfl rfl) (fun a ha => ?_)
                    refine s_do rfl ha (ltd rfl) (d_pick_t ha rfl b51 rfl) (fun a ha => ?_)
                    refine s_do rfl ha (ltd rfl) (d_assign ha rfl) (fun a ha => ?_)
                    refine s_nil ?_
                    have hS : Has 91 [(6, (.bool (v52 == 0)))] _ := ha.sub ⟨rfl, trivial⟩
                    cases h
                    exact hk41 _ hS
                  · refine s_no_g rfl rfl ha (rfl : List.lookup 86 _ = _) (nn b51 _ rfl) (ltd rfl) (fun a ha => ?_)
                    refine s_no_g rfl rfl ha (rfl : List.lookup 86 _ = _) (nn b51 _ rfl) (ltd rfl) (fun a ha => ?_)
                    refine s_no_g rfl rfl ha (rfl : List.lookup 86 _ = _) (nn b51 _ rfl) (ltd rfl) (fun a ha => ?_)
                    refine s_do rfl ha (ltd rfl) (d_pick_f ha rfl b51 rfl) (fun a ha => ?_)
                    refine s_do rfl ha (ltd rfl) (d_assign ha rfl) (fun a ha => ?_)
                    refine s_nil ?_
                    have hS : Has 91 [(6, (.bool false))] _ := ha.sub ⟨rfl, trivial⟩
                    cases h
                    exact hk41 _ hS
                · refine s_no_g rfl rfl ha (rfl : List.lookup 82 _ = _) (nn b50 _ rfl) (ltd rfl) (fun a ha => ?_)
                  refine s_no_g rfl rfl ha (rfl : List.lookup 82 _ = _) (nn b50 _ rfl) (ltd rfl) (fun a ha => ?_)
                  refine s_do rfl ha (ltd rfl) (d_pick_f ha rfl b50 rfl) (fun a ha => ?_)
                  refine s_do rfl ha (ltd rfl) (d_move ha rfl) (fun a ha => ?_)
                  refine s_no_g rfl rfl ha (rfl : List.lookup 86 _ = _) (nn (by decide) _ rfl) (ltd rfl) (fun a ha => ?_)
                  refine s_no_g rfl rfl ha (rfl : List.lookup 86 _ = _) (nn (by decide) _ rfl) (ltd rfl) (fun a ha => ?_)
                  refine s_no_g rfl rfl ha (rfl : List.lookup 86 _ = _) (nn (by decide) _ rfl) (ltd rfl) (fun a ha => ?_)
                  refine s_do rfl ha (ltd rfl) (d_pick_f ha rfl (by decide) rfl) (fun a ha => ?_)
                  refine s_do rfl ha (ltd rfl) (d_assign ha rfl) (fun a ha => ?_)
                  refine s_nil ?_
                  have hS : Has 91 [(6, (.bool false))] _ := ha.sub ⟨rfl, trivial⟩
                  cases h
                  exact hk41 _ hS
              · refine s_no_g rfl rfl ha (rfl : List.lookup 76 _ = _) (nn b46 _ rfl) (ltd rfl) (fun a ha => ?_)
                refine s_no_g rfl rfl ha (rfl : List.lookup 76 _ = _) (nn b46 _ rfl) (ltd rfl) (fun a ha => ?_)
                refine s_no_g rfl rfl ha (rfl : List.lookup 76 _ = _) (nn b46 _ rfl) (ltd rfl) (fun a ha => ?_)
                refine s_no_g rfl rfl ha (rfl : List.lookup 76 _ = _) (nn b46 _ rfl) (ltd rfl) (fun a ha => ?_)
                refine s_do rfl ha (ltd rfl) (d_pick_f ha rfl b46 rfl) (fun a ha => ?_)
                refine s_do rfl ha (ltd rfl) (d_move ha rfl) (fun a ha => ?_)
                refine s_no_g rfl rfl ha (rfl : List.lookup 82 _ = _) (nn (by decide) _ rfl) (ltd rfl) (fun a ha => ?_)
                refine s_no_g rfl rfl ha (rfl : List.lookup 82 _ = _) (nn (by decide) _ rfl) (ltd rfl) (fun a ha => ?_)
                refine s_do rfl ha (ltd rfl) (d_pick_f ha rfl (by decide) rfl) (fun a ha => ?_)
                refine s_do rfl ha (ltd rfl) (d_move ha rfl) (fun a ha => ?_)
                refine s_no_g rfl rfl ha (rfl : List.lookup 86 _ = _) (nn (by decide) _ rfl) (ltd rfl) (fun a ha => ?_)
                refine s_no_g rfl rfl ha (rfl : List.lookup 86 _ = _) (nn (by decide) _ rfl) (ltd rfl) (fun a ha => ?_)
                refine s_no_g rfl rfl ha (rfl : List.lookup 86 _ = _) (nn (by decide) _ rfl) (ltd rfl) (fun a ha => ?_)
                refine s_do rfl ha (ltd rfl) (d_pick_f ha rfl (by decide) rfl) (fun a ha => ?_)
                refine s_do rfl ha (ltd rfl) (d_assign ha rfl) (fun a ha => ?_)
                refine s_nil ?_
                have hS : Has 91 [(6, (.bool false))] _ := ha.sub ⟨rfl, trivial⟩
                cases h
                exact hk41 _ hS
            · refine s_no_g rfl rfl ha (rfl : List.lookup 72 _ = _) (nn b45 _ rfl) (ltd rfl) (fun a ha => ?_)
              refine s_no_g rfl rfl ha (rfl : List.lookup 72 _ = _) (nn b45 _ rfl) (ltd rfl) (fun a ha => ?_)
              refine s_do rfl ha (ltd rfl) (d_pick_f ha rfl b45 rfl) (fun a ha => ?_)
              refine s_do rfl ha (ltd rfl) (d_move ha rfl) (fun a ha => ?_)
              refine s_no_g rfl rfl ha (rfl : List.lookup 76 _ = _) (nn (by decide) _ rfl) (ltd rfl) (fun a ha => ?_)
              refine s_no_g rfl rfl ha (rfl : List.lookup 76 _ = _) (nn (by decide) _ rfl) (ltd rfl) (fun a ha => ?_)
              refine s_no_g rfl rfl ha (rfl : List.lookup 76 _ = _) (nn (by decide) _ rfl) (ltd rfl) (fun a ha => ?_)
              refine s_no_g rfl rfl ha (rfl : List.lookup 76 _ = _) (nn (by decide) _ rfl) (ltd rfl) (fun a ha => ?_)
              refine s_do rfl ha (ltd rfl) (d_pick_f ha rfl (by decide) rfl) (fun a ha => ?_)
              refine s_do rfl ha (ltd rfl) (d_move ha rfl) (fun a ha => ?_)
              refine s_no_g rfl rfl ha (rfl : List.lookup 82 _ = _) (nn (by decide) _ rfl) (ltd rfl) (fun a ha => ?_)
              refine s_no_g rfl rfl ha (rfl : List.lookup 82 _ = _) (nn (by decide) _ rfl) (ltd rfl) (fun a ha => ?_)
              refine s_do rfl ha (ltd rfl) (d_pick_f ha rfl (by decide) rfl) (fun a ha => ?_)
              refine s_do rfl ha (ltd rfl) (d_move ha rfl) (fun a ha => ?_)
              refine s_no_g rfl rfl ha (rfl : List.lookup 86 _ = _) (nn (by decide) _ rfl) (ltd rfl) (fun a ha => ?_)
              refine s_no_g rfl rfl ha (rfl : List.lookup 86 _ = _) (nn (by decide) _ rfl) (ltd rfl) (fun a ha => ?_)
              refine s_no_g rfl rfl ha (rfl : List.lookup 86 _ = _) (nn (by decide) _ rfl) (ltd rfl) (fun a ha => ?_)
              refine s_do rfl ha (ltd rfl) (d_pick_f ha rfl (by decide) rfl) (fun a ha => ?_)
              refine s_do rfl ha (ltd rfl) (d_assign ha rfl) (fun a ha => ?_)
              refine s_nil ?_
              have hS : Has 91 [(6, (.bool false))] _ := ha.sub ⟨rfl, trivial⟩
              cases h
              exact hk41 _ hS
      · clear h
        have h := e19
        refine region_lit ?_
        refine s_do rfl ha (ltd rfl) (d_move ha rfl) (fun a ha => ?_)
        refine s_do rfl ha (ltd rfl) (d_ge ha rfl rfl) (fun a ha => ?_)
        refine s_do rfl ha (ltd rfl) (d_move ha rfl) (fun a ha => ?_)
        refine ite_s h (fun b21 h => ?_) (fun b21 h => ?_)
        · refine s_do_g2 rfl rfl ha (rfl : List.lookup 39 _ = _) b21 (ltd rfl) (d_move ha rfl) (fun a ha => ?_)
          refine s_do_g2 rfl rfl ha (rfl : List.lookup 39 _ = _) b21 (ltd rfl) (d_le ha rfl rfl) (fun a ha => ?_)
          refine s_do rfl ha (ltd rfl) (d_pick_t ha rfl b21 rfl) (fun a ha => ?_)
          refine s_do rfl ha (ltd rfl) (d_move ha rfl) (fun a ha => ?_)
          refine ite_s h (fun b22 h => ?_) (fun b22 h => ?_)
          · refine s_do_g2 rfl rfl ha (rfl : List.lookup 43 _ = _) b22 (ltd rfl) (d_move ha rfl) (fun a ha => ?_)
            refine s_do_g2 rfl rfl ha (rfl : List.lookup 43 _ = _) b22 (ltd rfl) (d_ge ha rfl rfl) (fun a ha => ?_)
            refine s_do rfl ha (ltd rfl) (d_pick_t ha rfl b22 rfl) (fun a ha => ?_)
            refine s_do rfl ha (ltd rfl) (d_move ha rfl) (fun a ha => ?_)
            refine ite_s h (fun b23 h => ?_) (fun b23 h => ?_)
            · refine s_do_g2 rfl rfl ha (rfl : List.lookup 47 _ = _) b23 (ltd rfl) (d_move ha rfl) (fun a ha => ?_)
              refine s_do_g2 rfl rfl ha (rfl : List.lookup 47 _ = _) b23 (ltd rfl) (d_move ha rfl) (fun a ha => ?_)
              refine s_do_g2 rfl rfl ha (rfl : List.lookup 47 _ = _) b23 (ltd rfl) (d_move ha rfl) (fun a ha => ?_)
              refine s_do_g2 rfl rfl ha (rfl : List.lookup 47 _ = _) b23 (ltd rfl) (d_mul ha rfl rfl) (fun a ha => ?_)
              refine s_do_g2 rfl rfl ha (rfl : List.lookup 47 _ = _) b23 (ltd rfl) (d_sub ha rfl rfl) (fun a ha => ?_)
              refine s_do_g2 rfl rfl ha (rfl : List.lookup 47 _ = _) b23 (ltd rfl) (d_le ha rfl rfl) (fun a ha => ?_)
              refine s_do rfl ha (ltd rfl) (d_pick_t ha rfl b23 rfl) (fun a ha => ?_)
              refine s_do rfl ha (ltd rfl) (d_assign ha rfl) (fun a ha => ?_)
              refine s_nil ?_
              have hS : Has 91 [(11, (.bool (decide (a1 ≤ (IntKind.wrap .i64 ((IntKind.wrap .i64 (1 + (IntKind.wrap .i64 v1))) - (IntKind.wrap .i64 (2 * a2)))))))), (2, (.int .i64 a2)), (7, (.pointer v3)), (9, (.pointer v13)), (10, (.int .i64 v14))] _ := ha.sub ⟨rfl, rfl, rfl, rfl, rfl, trivial⟩
              cases h
              exact hk20 _ hS
            · refine s_no_g rfl rfl ha (rfl : List.lookup 47 _ = _) (nn b23 _ rfl) (ltd rfl) (fun a ha => ?_)
              refine s_no_g rfl rfl ha (rfl : List.lookup 47 _ = _) (nn b23 _ rfl) (ltd rfl) (fun a ha => ?_)
              refine s_no_g rfl rfl ha (rfl : List.lookup 47 _ = _) (nn b23 _ rfl) (ltd rfl) (fun a ha => ?_)
              refine s_no_g rfl rfl ha (rfl : List.lookup 47 _ = _) (nn b23 _ rfl) (ltd rfl) (fun a ha => ?_)
              refine s_no_g rfl rfl ha (rfl : List.lookup 47 _ = _) (nn b23 _ rfl) (ltd rfl) (fun a ha => ?_)
              refine s_no_g rfl rfl ha (rfl : List.lookup 47 _ = _) (nn b23 _ rfl) (ltd rfl) (fun a ha => ?_)
              refine s_do rfl ha (ltd rfl) (d_pick_f ha rfl b23 rfl) (fun a ha => ?_)
              refine s_do rfl ha (ltd rfl) (d_assign ha rfl) (fun a ha => ?_)
              refine s_nil ?_
              have hS : Has 91 [(11, (.bool false)), (2, (.int .i64 a2)), (7, (.pointer v3)), (9, (.pointer v13)), (10, (.int .i64 v14))] _ := ha.sub ⟨rfl, rfl, rfl, rfl, rfl, trivial⟩
              cases h
              exact hk20 _ hS
          · refine s_no_g rfl rfl ha (rfl : List.lookup 43 _ = _) (nn b22 _ rfl) (ltd rfl) (fun a ha => ?_)
            refine s_no_g rfl rfl ha (rfl : List.lookup 43 _ = _) (nn b22 _ rfl) (ltd rfl) (fun a ha => ?_)
            refine s_do rfl ha (ltd rfl) (d_pick_f ha rfl b22 rfl) (fun a ha => ?_)
            refine s_do rfl ha (ltd rfl) (d_move ha rfl) (fun a ha => ?_)
            refine s_no_g rfl rfl ha (rfl : List.lookup 47 _ = _) (nn (by decide) _ rfl) (ltd rfl) (fun a ha => ?_)
            refine s_no_g rfl rfl ha (rfl : List.lookup 47 _ = _) (nn (by decide) _ rfl) (ltd rfl) (fun a ha => ?_)
            refine s_no_g rfl rfl ha (rfl : List.lookup 47 _ = _) (nn (by decide) _ rfl) (ltd rfl) (fun a ha => ?_)
            refine s_no_g rfl rfl ha (rfl : List.lookup 47 _ = _) (nn (by decide) _ rfl) (ltd rfl) (fun a ha => ?_)
            refine s_no_g rfl rfl ha (rfl : List.lookup 47 _ = _) (nn (by decide) _ rfl) (ltd rfl) (fun a ha => ?_)
            refine s_no_g rfl rfl ha (rfl : List.lookup 47 _ = _) (nn (by decide) _ rfl) (ltd rfl) (fun a ha => ?_)
            refine s_do rfl ha (ltd rfl) (d_pick_f ha rfl (by decide) rfl) (fun a ha => ?_)
            refine s_do rfl ha (ltd rfl) (d_assign ha rfl) (fun a ha => ?_)
            refine s_nil ?_
            have hS : Has 91 [(11, (.bool false)), (2, (.int .i64 a2)), (7, (.pointer v3)), (9, (.pointer v13)), (10, (.int .i64 v14))] _ := ha.sub ⟨rfl, rfl, rfl, rfl, rfl, trivial⟩
            cases h
            exact hk20 _ hS
        · refine s_no_g rfl rfl ha (rfl : List.lookup 39 _ = _) (nn b21 _ rfl) (ltd rfl) (fun a ha => ?_)
          refine s_no_g rfl rfl ha (rfl : List.lookup 39 _ = _) (nn b21 _ rfl) (ltd rfl) (fun a ha => ?_)
          refine s_do rfl ha (ltd rfl) (d_pick_f ha rfl b21 rfl) (fun a ha => ?_)
          refine s_do rfl ha (ltd rfl) (d_move ha rfl) (fun a ha => ?_)
          refine s_no_g rfl rfl ha (rfl : List.lookup 43 _ = _) (nn (by decide) _ rfl) (ltd rfl) (fun a ha => ?_)
          refine s_no_g rfl rfl ha (rfl : List.lookup 43 _ = _) (nn (by decide) _ rfl) (ltd rfl) (fun a ha => ?_)
          refine s_do rfl ha (ltd rfl) (d_pick_f ha rfl (by decide) rfl) (fun a ha => ?_)
          refine s_do rfl ha (ltd rfl) (d_move ha rfl) (fun a ha => ?_)
          refine s_no_g rfl rfl ha (rfl : List.lookup 47 _ = _) (nn (by decide) _ rfl) (ltd rfl) (fun a ha => ?_)
          refine s_no_g rfl rfl ha (rfl : List.lookup 47 _ = _) (nn (by decide) _ rfl) (ltd rfl) (fun a ha => ?_)
          refine s_no_g rfl rfl ha (rfl : List.lookup 47 _ = _) (nn (by decide) _ rfl) (ltd rfl) (fun a ha => ?_)
          refine s_no_g rfl rfl ha (rfl : List.lookup 47 _ = _) (nn (by decide) _ rfl) (ltd rfl) (fun a ha => ?_)
          refine s_no_g rfl rfl ha (rfl : List.lookup 47 _ = _) (nn (by decide) _ rfl) (ltd rfl) (fun a ha => ?_)
          refine s_no_g rfl rfl ha (rfl : List.lookup 47 _ = _) (nn (by decide) _ rfl) (ltd rfl) (fun a ha => ?_)
          refine s_do rfl ha (ltd rfl) (d_pick_f ha rfl (by decide) rfl) (fun a ha => ?_)
          refine s_do rfl ha (ltd rfl) (d_assign ha rfl) (fun a ha => ?_)
          refine s_nil ?_
          have hS : Has 91 [(11, (.bool false)), (2, (.int .i64 a2)), (7, (.pointer v3)), (9, (.pointer v13)), (10, (.int .i64 v14))] _ := ha.sub ⟨rfl, rfl, rfl, rfl, rfl, trivial⟩
          cases h
          exact hk20 _ hS
  · clear h
    have h := e9
    refine region_lit ?_
    refine s_do rfl ha (ltd rfl) (d_move ha rfl) (fun a ha => ?_)
    refine s_do rfl ha (ltd rfl) (d_ne ha rfl rfl) (fun a ha => ?_)
    refine s_do rfl ha (ltd rfl) (d_move ha rfl) (fun a ha => ?_)
    refine ite_s h (fun b11 h => ?_) (fun b11 h => ?_)
    · refine s_no_g rfl rfl ha (rfl : List.lookup 26 _ = _) (tn b11) (ltd rfl) (fun a ha => ?_)
      refine s_no_g rfl rfl ha (rfl : List.lookup 26 _ = _) (tn b11) (ltd rfl) (fun a ha => ?_)
      refine s_do rfl ha (ltd rfl) (d_pick_t ha rfl b11 rfl) (fun a ha => ?_)
      refine s_nil ?_
      have hS : Has 91 [(29, (.bool true)), (0, (.int .i64 (IntKind.wrap .i64 (1 + (IntKind.wrap .i64 v1))))), (1, (.int .i64 a1)), (2, (.int .i64 a2)), (7, (.pointer v3))] _ := ha.sub ⟨rfl, rfl, rfl, rfl, rfl, trivial⟩
      cases h
      exact hk10 _ hS
    · refine s_do_g2 rfl rfl ha (rfl : List.lookup 26 _ = _) (nt b11) (ltd rfl) (d_move ha rfl) (fun a ha => ?_)
      refine s_do_g2 rfl rfl ha (rfl : List.lookup 26 _ = _) (nt b11) (ltd rfl) (d_eqN ha rfl rfl Try.runUnderlying22) (fun a ha => ?_)
      refine s_do rfl ha (ltd rfl) (d_pick_f ha rfl b11 rfl) (fun a ha => ?_)
      refine s_nil ?_
      have hS : Has 91 [(29, (.bool (v3.isNone))), (0, (.int .i64 (IntKind.wrap .i64 (1 + (IntKind.wrap .i64 v1))))), (1, (.int .i64 a1)), (2, (.int .i64 a2)), (7, (.pointer v3))] _ := ha.sub ⟨rfl, rfl, rfl, rfl, rfl, trivial⟩
      cases h
      exact hk10 _ hS

noncomputable def grapevinelaw10_pair_open (a0 : Option Addr) (w : World) : Option (Bool × World) :=
  (a0).bind fun p1 =>
  (ldP w (p1.add 0)).bind fun v3 =>
  bind3 (mark_Open v3 1 3 w) fun v5 v6 w7 =>
  (stV w7 (p1.add 1) (.pointer v5)).bind fun w9 =>
  (ldP w9 (p1.add 2)).bind fun v11 =>
  bind3 (grapevineref10_Open v11 1 3 w9) fun v13 v14 w15 =>
  (stV w15 (p1.add 3) (.pointer v13)).bind fun w17 =>
  bind2 (if (v6 == 0) = true then
  (if (v14 == 0) = true then
  ((ldP w17 (p1.add 1)).bind fun v25 =>
  some ((!(v25.isNone)), w17))
  else
  (some (false, w17)))
  else
  (some (false, w17))) fun v19 w20 =>
  some (v19, w20)
set_option maxHeartbeats 1000000 in
set_option maxRecDepth 100000 in
theorem grapevinelaw10_pair_open_ok {a0 : Option Addr} {w w' : World} {r0 : Bool} (h : grapevinelaw10_pair_open a0 w = some (r0, w')) : Calls Try.prog 61 #[(.pointer a0)] w fun e w'' => e = .returned (.bool r0) ∧ w'' = w' := by
  refine calls_dec (n := 40) Try.func61 rfl Try.ntmps61 (by simp) (fun a ha => ?_)
  unfold grapevinelaw10_pair_open at h
  refine wp_seq ?_
  refine region_lit ?_
  refine s_do rfl ha (ltd rfl) (d_assign ha rfl) (fun a ha => ?_)
  refine s_nil ?_
  refine t_n ?_
  replace ha : Has 40 [(0, (.pointer a0))] _ := ha.sub ⟨rfl, trivial⟩
  refine wp_seq ?_
  refine region_lit ?_
  refine s_do rfl ha (ltd rfl) (d_assign ha rfl) (fun a ha => ?_)
  refine s_do rfl ha (ltd rfl) (d_assign ha rfl) (fun a ha => ?_)
  refine s_nil ?_
  refine t_n ?_
  replace ha : Has 40 [(0, (.pointer a0))] _ := ha.sub ⟨rfl, trivial⟩
  refine wp_seq ?_
  refine region_lit ?_
  refine s_do rfl ha (ltd rfl) (d_move ha rfl) (fun a ha => ?_)
  refine s_do rfl ha (ltd rfl) (d_move ha rfl) (fun a ha => ?_)
  obtain ⟨p1, e2, h⟩ := bs1 h
  refine s_do rfl ha (ltd rfl) (d_nilp ha rfl e2) (fun a ha => ?_)
  refine s_do rfl ha (ltd rfl) (d_fa ha rfl Try.runUnderlying75 rfl rfl Try.sizeOf22 (by decide)) (fun a ha => ?_)
  obtain ⟨v3, e4, h⟩ := bs1 h
  refine s_do rfl ha (ltd rfl) (d_ld ha rfl Try.isAgg22 (ldP_c e4)) (fun a ha => ?_)
  obtain ⟨v5, v6, w7, e8, h⟩ := bs3 h
  refine s_do rfl ha (ltd rfl) (d_call (xs := [_, _, _]) (vs := [(.pointer v3), (.int .i64 1), (.int .i64 3)]) ha ⟨rfl, rfl, rfl, trivial⟩ Try.call36 (mark_Open_ok e8)) (fun a ha => ?_)
  refine s_do rfl ha (ltd rfl) (d_move ha rfl) (fun a ha => ?_)
  refine s_do rfl ha (ltd rfl) (d_ext ha rfl rfl) (fun a ha => ?_)
  refine s_do rfl ha (ltd rfl) (d_ext ha rfl rfl) (fun a ha => ?_)
  refine s_do rfl ha (ltd rfl) (d_nilp ha rfl e2) (fun a ha => ?_)
  refine s_do rfl ha (ltd rfl) (d_fa ha rfl Try.runUnderlying75 rfl rfl Try.sizeOf58 (by decide)) (fun a ha => ?_)
  obtain ⟨w9, e10, h⟩ := bs1 h
  refine s_do rfl ha (ltd rfl) (d_st ha rfl rfl Try.sizeOf58 e10) (fun a ha => ?_)
  refine s_do rfl ha (ltd rfl) (d_assign ha rfl) (fun a ha => ?_)
  refine s_nil ?_
  refine t_n ?_
  replace ha : Has 40 [(0, (.pointer a0)), (3, (.int .i64 v6))] _ := ha.sub ⟨rfl, rfl, trivial⟩
  refine wp_seq ?_
  refine region_lit ?_
  refine s_do rfl ha (ltd rfl) (d_move ha rfl) (fun a ha => ?_)
  refine s_do rfl ha (ltd rfl) (d_move ha rfl) (fun a ha => ?_)
  refine s_do rfl ha (ltd rfl) (d_nilp ha rfl e2) (fun a ha => ?_)
  refine s_do rfl ha (ltd rfl) (d_fa ha rfl Try.runUnderlying75 rfl rfl Try.sizeOf44 (by decide)) (fun a ha => ?_)
  obtain ⟨v11, e12, h⟩ := bs1 h
  refine s_do rfl ha (ltd rfl) (d_ld ha rfl Try.isAgg44 (ldP_c e12)) (fun a ha => ?_)
  obtain ⟨v13, v14, w15, e16, h⟩ := bs3 h
  refine s_do rfl ha (ltd rfl) (d_call (xs := [_, _, _]) (vs := [(.pointer v11), (.int .i64 1), (.int .i64 3)]) ha ⟨rfl, rfl, rfl, trivial⟩ Try.call65 (grapevineref10_Open_ok e16)) (fun a ha => ?_)
  refine s_do rfl ha (ltd rfl) (d_move ha rfl) (fun a ha => ?_)
  refine s_do rfl ha (ltd rfl) (d_ext ha rfl rfl) (fun a ha => ?_)
  refine s_do rfl ha (ltd rfl) (d_ext ha rfl rfl) (fun a ha => ?_)
  refine s_do rfl ha (ltd rfl) (d_nilp ha rfl e2) (fun a ha => ?_)
  refine s_do rfl ha (ltd rfl) (d_fa ha rfl Try.runUnderlying75 rfl rfl Try.sizeOf73 (by decide)) (fun a ha => ?_)
  obtain ⟨w17, e18, h⟩ := bs1 h
  refine s_do rfl ha (ltd rfl) (d_st ha rfl rfl Try.sizeOf73 e18) (fun a ha => ?_)
  refine s_do rfl ha (ltd rfl) (d_assign ha rfl) (fun a ha => ?_)
  refine s_nil ?_
  refine t_n ?_
  replace ha : Has 40 [(0, (.pointer a0)), (3, (.int .i64 v6)), (4, (.int .i64 v14))] _ := ha.sub ⟨rfl, rfl, rfl, trivial⟩
  refine wp_seq ?_
  obtain ⟨v19, w20, e21, h⟩ := bs2 h
  refine reg_join (n := 40) (L := [(2, (.bool v19))]) (w' := w20) (fun a ha => ?_) (fun hk22 => ?_)
  · refine t_n ?_
    replace ha : Has 40 [(2, (.bool v19))] _ := ha.sub ⟨rfl, trivial⟩
    refine wp_ret ?_
    have hS := ha
    cases h
    exact ret1 Try.results61 hS rfl ⟨rfl, rfl⟩
  · clear h
    have h := e21
    refine region_lit ?_
    refine s_do rfl ha (ltd rfl) (d_move ha rfl) (fun a ha => ?_)
    refine s_do rfl ha (ltd rfl) (d_eq ha rfl rfl) (fun a ha => ?_)
    refine s_do rfl ha (ltd rfl) (d_move ha rfl) (fun a ha => ?_)
    refine ite_s h (fun b23 h => ?_) (fun b23 h => ?_)
    · refine s_do_g2 rfl rfl ha (rfl : List.lookup 29 _ = _) b23 (ltd rfl) (d_move ha rfl) (fun a ha => ?_)
      refine s_do_g2 rfl rfl ha (rfl : List.lookup 29 _ = _) b23 (ltd rfl) (d_eq ha rfl rfl) (fun a ha => ?_)
      refine s_do rfl ha (ltd rfl) (d_pick_t ha rfl b23 rfl) (fun a ha => ?_)
      refine s_do rfl ha (ltd rfl) (d_move ha rfl) (fun a ha => ?_)
      refine ite_s h (fun b24 h => ?_) (fun b24 h => ?_)
      · refine s_do_g2 rfl rfl ha (rfl : List.lookup 33 _ = _) b24 (ltd rfl) (d_move ha rfl) (fun a ha => ?_)
        refine s_do_g2 rfl rfl ha (rfl : List.lookup 33 _ = _) b24 (ltd rfl) (d_nilp ha rfl e2) (fun a ha => ?_)
        refine s_do_g2 rfl rfl ha (rfl : List.lookup 33 _ = _) b24 (ltd rfl) (d_fa ha rfl Try.runUnderlying75 rfl rfl Try.sizeOf58 (by decide)) (fun a ha => ?_)
        obtain ⟨v25, e26, h⟩ := bs1 h
        refine s_do_g2 rfl rfl ha (rfl : List.lookup 33 _ = _) b24 (ltd rfl) (d_ld ha rfl Try.isAgg58 (ldP_c e26)) (fun a ha => ?_)
        refine s_do_g2 rfl rfl ha (rfl : List.lookup 33 _ = _) b24 (ltd rfl) (d_neN ha rfl rfl Try.runUnderlying58) (fun a ha => ?_)
        refine s_do rfl ha (ltd rfl) (d_pick_t ha rfl b24 rfl) (fun a ha => ?_)
        refine s_do rfl ha (ltd rfl) (d_assign ha rfl) (fun a ha => ?_)
        refine s_nil ?_
        have hS : Has 40 [(2, (.bool (!(v25.isNone))))] _ := ha.sub ⟨rfl, trivial⟩
        cases h
        exact hk22 _ hS
      · refine s_no_g rfl rfl ha (rfl : List.lookup 33 _ = _) (nn b24 _ rfl) (ltd rfl) (fun a ha => ?_)
        refine s_no_g rfl rfl ha (rfl : List.lookup 33 _ = _) (nn b24 _ rfl) (ltd rfl) (fun a ha => ?_)
        refine s_no_g rfl rfl ha (rfl : List.lookup 33 _ = _) (nn b24 _ rfl) (ltd rfl) (fun a ha => ?_)
        refine s_no_g rfl rfl ha (rfl : List.lookup 33 _ = _) (nn b24 _ rfl) (ltd rfl) (fun a ha => ?_)
        refine s_no_g rfl rfl ha (rfl : List.lookup 33 _ = _) (nn b24 _ rfl) (ltd rfl) (fun a ha => ?_)
        refine s_do rfl ha (ltd rfl) (d_pick_f ha rfl b24 rfl) (fun a ha => ?_)
        refine s_do rfl ha (ltd rfl) (d_assign ha rfl) (fun a ha => ?_)
        refine s_nil ?_
        have hS : Has 40 [(2, (.bool false))] _ := ha.sub ⟨rfl, trivial⟩
        cases h
        exact hk22 _ hS
    · refine s_no_g rfl rfl ha (rfl : List.lookup 29 _ = _) (nn b23 _ rfl) (ltd rfl) (fun a ha => ?_)
      refine s_no_g rfl rfl ha (rfl : List.lookup 29 _ = _) (nn b23 _ rfl) (ltd rfl) (fun a ha => ?_)
      refine s_do rfl ha (ltd rfl) (d_pick_f ha rfl b23 rfl) (fun a ha => ?_)
      refine s_do rfl ha (ltd rfl) (d_move ha rfl) (fun a ha => ?_)
      refine s_no_g rfl rfl ha (rfl : List.lookup 33 _ = _) (nn (by decide) _ rfl) (ltd rfl) (fun a ha => ?_)
      refine s_no_g rfl rfl ha (rfl : List.lookup 33 _ = _) (nn (by decide) _ rfl) (ltd rfl) (fun a ha => ?_)
      refine s_no_g rfl rfl ha (rfl : List.lookup 33 _ = _) (nn (by decide) _ rfl) (ltd rfl) (fun a ha => ?_)
      refine s_no_g rfl rfl ha (rfl : List.lookup 33 _ = _) (nn (by decide) _ rfl) (ltd rfl) (fun a ha => ?_)
      refine s_no_g rfl rfl ha (rfl : List.lookup 33 _ = _) (nn (by decide) _ rfl) (ltd rfl) (fun a ha => ?_)
      refine s_do rfl ha (ltd rfl) (d_pick_f ha rfl (by decide) rfl) (fun a ha => ?_)
      refine s_do rfl ha (ltd rfl) (d_assign ha rfl) (fun a ha => ?_)
      refine s_nil ?_
      have hS : Has 40 [(2, (.bool false))] _ := ha.sub ⟨rfl, trivial⟩
      cases h
      exact hk22 _ hS

noncomputable def grapevinelaw10_start (w : World) : Option ((Option Addr) × Bool × World) :=
  bind2 (mk w 75 (List.replicate 4 (.pointer none))) fun p1 w2 =>
  bind3 (sector_New 8 w2) fun v4 v5 w6 =>
  (stV w6 (p1.add 0) (.pointer v4)).bind fun w8 =>
  bind3 (grapevineref09_New 8 w8) fun v10 v11 w12 =>
  (stV w12 (p1.add 2) (.pointer v10)).bind fun w14 =>
  bind3 (if (v5 == 0) = true then
  (if (v11 == 0) = true then
  ((ldP w14 (p1.add 0)).bind fun v23 =>
  if (!(v23.isNone)) = true then
  (bind2 (grapevinelaw10_pair_open (some p1) w14) fun v26 w27 =>
  some (p1, v26, w27))
  else
  (some (p1, false, w14)))
  else
  (some (p1, false, w14)))
  else
  (some (p1, false, w14))) fun v16 v17 w18 =>
  some ((some v16), v17, w18)
set_option maxHeartbeats 1000000 in
set_option maxRecDepth 100000 in
theorem grapevinelaw10_start_ok {w w' : World} {r0 : Option Addr} {r1 : Bool} (h : grapevinelaw10_start w = some (r0, r1, w')) : Calls Try.prog 54 #[] w fun e w'' => e = .returned (.tuple #[(.pointer r0), (.bool r1)]) ∧ w'' = w' := by
  refine calls_dec (n := 39) Try.func54 rfl Try.ntmps54 (by simp) (fun a ha => ?_)
  unfold grapevinelaw10_start at h
  refine wp_seq ?_
  refine region_lit ?_
  refine s_do rfl ha (ltd rfl) (d_assign ha rfl) (fun a ha => ?_)
  refine s_do rfl ha (ltd rfl) (d_assign ha rfl) (fun a ha => ?_)
  refine s_nil ?_
  refine t_n ?_
  replace ha : Has 39 [] _ := ha.sub trivial
  refine wp_seq ?_
  refine region_lit ?_
  refine s_do rfl ha (ltd rfl) (d_build (vs := []) (pl := #[(0, 1), (1, 1), (2, 1), (3, 1)]) (cs := (List.replicate 4 (.pointer none))) ha trivial Try.zeroValue75 Try.runUnderlying75 (by intro w; kernel_rfl) (by kernel_rfl)) (fun a ha => ?_)
  obtain ⟨p1, w2, e3, h⟩ := bs2 h
  refine s_do rfl ha (ltd rfl) (d_box ha rfl rfl e3) (fun a ha => ?_)
  refine s_do rfl ha (ltd rfl) (d_assign ha rfl) (fun a ha => ?_)
  refine s_nil ?_
  refine t_n ?_
  replace ha : Has 39 [(2, (.pointer (some p1)))] _ := ha.sub ⟨rfl, trivial⟩
  refine wp_seq ?_
  refine region_lit ?_
  refine s_do rfl ha (ltd rfl) (d_assign ha rfl) (fun a ha => ?_)
  refine s_do rfl ha (ltd rfl) (d_assign ha rfl) (fun a ha => ?_)
  refine s_nil ?_
  refine t_n ?_
  replace ha : Has 39 [(2, (.pointer (some p1)))] _ := ha.sub ⟨rfl, trivial⟩
  refine wp_seq ?_
  refine region_lit ?_
  refine s_do rfl ha (ltd rfl) (d_move ha rfl) (fun a ha => ?_)
  obtain ⟨v4, v5, w6, e7, h⟩ := bs3 h
  refine s_do rfl ha (ltd rfl) (d_call (xs := [_]) (vs := [(.int .i64 8)]) ha ⟨rfl, trivial⟩ Try.call17 (sector_New_ok e7)) (fun a ha => ?_)
  refine s_do rfl ha (ltd rfl) (d_move ha rfl) (fun a ha => ?_)
  refine s_do rfl ha (ltd rfl) (d_ext ha rfl rfl) (fun a ha => ?_)
  refine s_do rfl ha (ltd rfl) (d_ext ha rfl rfl) (fun a ha => ?_)
  refine s_do rfl ha (ltd rfl) (d_nil ha rfl) (fun a ha => ?_)
  refine s_do rfl ha (ltd rfl) (d_fa ha rfl Try.runUnderlying75 rfl rfl Try.sizeOf22 (by decide)) (fun a ha => ?_)
  obtain ⟨w8, e9, h⟩ := bs1 h
  refine s_do rfl ha (ltd rfl) (d_st ha rfl rfl Try.sizeOf22 e9) (fun a ha => ?_)
  refine s_do rfl ha (ltd rfl) (d_assign ha rfl) (fun a ha => ?_)
  refine s_nil ?_
  refine t_n ?_
  replace ha : Has 39 [(2, (.pointer (some p1))), (3, (.int .i64 v5))] _ := ha.sub ⟨rfl, rfl, trivial⟩
  refine wp_seq ?_
  refine region_lit ?_
  refine s_do rfl ha (ltd rfl) (d_move ha rfl) (fun a ha => ?_)
  obtain ⟨v10, v11, w12, e13, h⟩ := bs3 h
  refine s_do rfl ha (ltd rfl) (d_call (xs := [_]) (vs := [(.int .i64 8)]) ha ⟨rfl, trivial⟩ Try.call43 (grapevineref09_New_ok e13)) (fun a ha => ?_)
  refine s_do rfl ha (ltd rfl) (d_move ha rfl) (fun a ha => ?_)
  refine s_do rfl ha (ltd rfl) (d_ext ha rfl rfl) (fun a ha => ?_)
  refine s_do rfl ha (ltd rfl) (d_ext ha rfl rfl) (fun a ha => ?_)
  refine s_do rfl ha (ltd rfl) (d_nil ha rfl) (fun a ha => ?_)
  refine s_do rfl ha (ltd rfl) (d_fa ha rfl Try.runUnderlying75 rfl rfl Try.sizeOf44 (by decide)) (fun a ha => ?_)
  obtain ⟨w14, e15, h⟩ := bs1 h
  refine s_do rfl ha (ltd rfl) (d_st ha rfl rfl Try.sizeOf44 e15) (fun a ha => ?_)
  refine s_do rfl ha (ltd rfl) (d_assign ha rfl) (fun a ha => ?_)
  refine s_nil ?_
  refine t_n ?_
  replace ha : Has 39 [(2, (.pointer (some p1))), (3, (.int .i64 v5)), (4, (.int .i64 v11))] _ := ha.sub ⟨rfl, rfl, rfl, trivial⟩
  refine wp_seq ?_
  obtain ⟨v16, v17, w18, e19, h⟩ := bs3 h
  refine reg_join (n := 39) (L := [(0, (.pointer (some v16))), (1, (.bool v17))]) (w' := w18) (fun a ha => ?_) (fun hk20 => ?_)
  · refine t_n ?_
    replace ha : Has 39 [(0, (.pointer (some v16))), (1, (.bool v17))] _ := ha.sub ⟨rfl, rfl, trivial⟩
    refine wp_ret ?_
    have hS := ha
    cases h
    exact ret2 Try.results54 hS rfl rfl ⟨rfl, rfl⟩
  · clear h
    have h := e19
    refine region_lit ?_
    refine s_do rfl ha (ltd rfl) (d_move ha rfl) (fun a ha => ?_)
    refine s_do rfl ha (ltd rfl) (d_move ha rfl) (fun a ha => ?_)
    refine s_do rfl ha (ltd rfl) (d_eq ha rfl rfl) (fun a ha => ?_)
    refine s_do rfl ha (ltd rfl) (d_move ha rfl) (fun a ha => ?_)
    refine ite_s h (fun b21 h => ?_) (fun b21 h => ?_)
    · refine s_do_g2 rfl rfl ha (rfl : List.lookup 24 _ = _) b21 (ltd rfl) (d_move ha rfl) (fun a ha => ?_)
      refine s_do_g2 rfl rfl ha (rfl : List.lookup 24 _ = _) b21 (ltd rfl) (d_eq ha rfl rfl) (fun a ha => ?_)
      refine s_do rfl ha (ltd rfl) (d_pick_t ha rfl b21 rfl) (fun a ha => ?_)
      refine s_do rfl ha (ltd rfl) (d_move ha rfl) (fun a ha => ?_)
      refine ite_s h (fun b22 h => ?_) (fun b22 h => ?_)
      · refine s_do_g2 rfl rfl ha (rfl : List.lookup 28 _ = _) b22 (ltd rfl) (d_move ha rfl) (fun a ha => ?_)
        refine s_do_g2 rfl rfl ha (rfl : List.lookup 28 _ = _) b22 (ltd rfl) (d_nil ha rfl) (fun a ha => ?_)
        refine s_do_g2 rfl rfl ha (rfl : List.lookup 28 _ = _) b22 (ltd rfl) (d_fa ha rfl Try.runUnderlying75 rfl rfl Try.sizeOf22 (by decide)) (fun a ha => ?_)
        obtain ⟨v23, e24, h⟩ := bs1 h
        refine s_do_g2 rfl rfl ha (rfl : List.lookup 28 _ = _) b22 (ltd rfl) (d_ld ha rfl Try.isAgg22 (ldP_c e24)) (fun a ha => ?_)
        refine s_do_g2 rfl rfl ha (rfl : List.lookup 28 _ = _) b22 (ltd rfl) (d_neN ha rfl rfl Try.runUnderlying22) (fun a ha => ?_)
        refine s_do rfl ha (ltd rfl) (d_pick_t ha rfl b22 rfl) (fun a ha => ?_)
        refine s_do rfl ha (ltd rfl) (d_move ha rfl) (fun a ha => ?_)
        refine ite_s h (fun b25 h => ?_) (fun b25 h => ?_)
        · refine s_do_g2 rfl rfl ha (rfl : List.lookup 35 _ = _) b25 (ltd rfl) (d_move ha rfl) (fun a ha => ?_)
          obtain ⟨v26, w27, e28, h⟩ := bs2 h
          refine s_do_g2 rfl rfl ha (rfl : List.lookup 35 _ = _) b25 (ltd rfl) (d_call (xs := [_]) (vs := [(.pointer (some p1))]) ha ⟨rfl, trivial⟩ Try.call61 (grapevinelaw10_pair_open_ok e28)) (fun a ha => ?_)
          refine s_do rfl ha (ltd rfl) (d_pick_t ha rfl b25 rfl) (fun a ha => ?_)
          refine s_do rfl ha (ltd rfl) (d_assign ha rfl) (fun a ha => ?_)
          refine s_do rfl ha (ltd rfl) (d_assign ha rfl) (fun a ha => ?_)
          refine s_nil ?_
          have hS : Has 39 [(0, (.pointer (some p1))), (1, (.bool v26))] _ := ha.sub ⟨rfl, rfl, trivial⟩
          cases h
          exact hk20 _ hS
        · refine s_no_g rfl rfl ha (rfl : List.lookup 35 _ = _) (nn b25 _ rfl) (ltd rfl) (fun a ha => ?_)
          refine s_no_g rfl rfl ha (rfl : List.lookup 35 _ = _) (nn b25 _ rfl) (ltd rfl) (fun a ha => ?_)
          refine s_do rfl ha (ltd rfl) (d_pick_f ha rfl b25 rfl) (fun a ha => ?_)
          refine s_do rfl ha (ltd rfl) (d_assign ha rfl) (fun a ha => ?_)
          refine s_do rfl ha (ltd rfl) (d_assign ha rfl) (fun a ha => ?_)
          refine s_nil ?_
          have hS : Has 39 [(0, (.pointer (some p1))), (1, (.bool false))] _ := ha.sub ⟨rfl, rfl, trivial⟩
          cases h
          exact hk20 _ hS
      · refine s_no_g rfl rfl ha (rfl : List.lookup 28 _ = _) (nn b22 _ rfl) (ltd rfl) (fun a ha => ?_)
        refine s_no_g rfl rfl ha (rfl : List.lookup 28 _ = _) (nn b22 _ rfl) (ltd rfl) (fun a ha => ?_)
        refine s_no_g rfl rfl ha (rfl : List.lookup 28 _ = _) (nn b22 _ rfl) (ltd rfl) (fun a ha => ?_)
        refine s_no_g rfl rfl ha (rfl : List.lookup 28 _ = _) (nn b22 _ rfl) (ltd rfl) (fun a ha => ?_)
        refine s_no_g rfl rfl ha (rfl : List.lookup 28 _ = _) (nn b22 _ rfl) (ltd rfl) (fun a ha => ?_)
        refine s_do rfl ha (ltd rfl) (d_pick_f ha rfl b22 rfl) (fun a ha => ?_)
        refine s_do rfl ha (ltd rfl) (d_move ha rfl) (fun a ha => ?_)
        refine s_no_g rfl rfl ha (rfl : List.lookup 35 _ = _) (nn (by decide) _ rfl) (ltd rfl) (fun a ha => ?_)
        refine s_no_g rfl rfl ha (rfl : List.lookup 35 _ = _) (nn (by decide) _ rfl) (ltd rfl) (fun a ha => ?_)
        refine s_do rfl ha (ltd rfl) (d_pick_f ha rfl (by decide) rfl) (fun a ha => ?_)
        refine s_do rfl ha (ltd rfl) (d_assign ha rfl) (fun a ha => ?_)
        refine s_do rfl ha (ltd rfl) (d_assign ha rfl) (fun a ha => ?_)
        refine s_nil ?_
        have hS : Has 39 [(0, (.pointer (some p1))), (1, (.bool false))] _ := ha.sub ⟨rfl, rfl, trivial⟩
        cases h
        exact hk20 _ hS
    · refine s_no_g rfl rfl ha (rfl : List.lookup 24 _ = _) (nn b21 _ rfl) (ltd rfl) (fun a ha => ?_)
      refine s_no_g rfl rfl ha (rfl : List.lookup 24 _ = _) (nn b21 _ rfl) (ltd rfl) (fun a ha => ?_)
      refine s_do rfl ha (ltd rfl) (d_pick_f ha rfl b21 rfl) (fun a ha => ?_)
      refine s_do rfl ha (ltd rfl) (d_move ha rfl) (fun a ha => ?_)
      refine s_no_g rfl rfl ha (rfl : List.lookup 28 _ = _) (nn (by decide) _ rfl) (ltd rfl) (fun a ha => ?_)
      refine s_no_g rfl rfl ha (rfl : List.lookup 28 _ = _) (nn (by decide) _ rfl) (ltd rfl) (fun a ha => ?_)
      refine s_no_g rfl rfl ha (rfl : List.lookup 28 _ = _) (nn (by decide) _ rfl) (ltd rfl) (fun a ha => ?_)
      refine s_no_g rfl rfl ha (rfl : List.lookup 28 _ = _) (nn (by decide) _ rfl) (ltd rfl) (fun a ha => ?_)
      refine s_no_g rfl rfl ha (rfl : List.lookup 28 _ = _) (nn (by decide) _ rfl) (ltd rfl) (fun a ha => ?_)
      refine s_do rfl ha (ltd rfl) (d_pick_f ha rfl (by decide) rfl) (fun a ha => ?_)
      refine s_do rfl ha (ltd rfl) (d_move ha rfl) (fun a ha => ?_)
      refine s_no_g rfl rfl ha (rfl : List.lookup 35 _ = _) (nn (by decide) _ rfl) (ltd rfl) (fun a ha => ?_)
      refine s_no_g rfl rfl ha (rfl : List.lookup 35 _ = _) (nn (by decide) _ rfl) (ltd rfl) (fun a ha => ?_)
      refine s_do rfl ha (ltd rfl) (d_pick_f ha rfl (by decide) rfl) (fun a ha => ?_)
      refine s_do rfl ha (ltd rfl) (d_assign ha rfl) (fun a ha => ?_)
      refine s_do rfl ha (ltd rfl) (d_assign ha rfl) (fun a ha => ?_)
      refine s_nil ?_
      have hS : Has 39 [(0, (.pointer (some p1))), (1, (.bool false))] _ := ha.sub ⟨rfl, rfl, trivial⟩
      cases h
      exact hk20 _ hS

noncomputable def grapevinelaw10_pair_do (a0 : Option Addr) (a1 : List Value) (w : World) : Option (Bool × World) :=
  bind2 (mk w 78 a1) fun p1 w2 =>
  (ldI .i64 w2 (p1.add 0)).bind fun v4 =>
  if (v4 == 0) = true then
  ((dr w2).bind fun w7 =>
  (a0).bind fun p9 =>
  (ldP w7 (p9.add 1)).bind fun v11 =>
  (ldI .i64 w7 (p1.add 1)).bind fun v13 =>
  (ldI .i64 w7 (p1.add 2)).bind fun v15 =>
  bind2 (mark_Cells_Put v11 v13 v15 w7) fun v17 w18 =>
  (ldP w18 (p9.add 3)).bind fun v20 =>
  (ldI .i64 w18 (p1.add 1)).bind fun v22 =>
  (ldI .i64 w18 (p1.add 2)).bind fun v24 =>
  bind2 (grapevineref10_Cells_Put v20 v22 v24 w18) fun v26 w27 =>
  chk (ldP w7 (p9.add 3) = some v20) <|
  chk (ldI .i64 w7 (p1.add 1) = some v22) <|
  chk (ldI .i64 w7 (p1.add 2) = some v24) <|
  some ((v17 == v26), w27))
  else
  (if (v4 == 1) = true then
  ((dr w2).bind fun w33 =>
  (a0).bind fun p35 =>
  (ldP w33 (p35.add 0)).bind fun v37 =>
  (ldI .i64 w33 (p1.add 1)).bind fun v39 =>
  (ldL w33 (p1.add 3)).bind fun v41 =>
  bind2 (sector_Disk_Write v37 v39 v41 w33) fun v43 w44 =>
  (ldP w44 (p35.add 2)).bind fun v46 =>
  (ldI .i64 w44 (p1.add 1)).bind fun v48 =>
  (ldL w44 (p1.add 3)).bind fun v50 =>
  bind2 (grapevineref09_Disk_Write v46 v48 v50 w44) fun v52 w53 =>
  chk (ldP w33 (p35.add 2) = some v46) <|
  chk (ldI .i64 w33 (p1.add 1) = some v48) <|
  chk (ldL w33 (p1.add 3) = some v50) <|
  some ((v43 == v52), w53))
  else
  (if (v4 == 2) = true then
  ((dr w2).bind fun w59 =>
  (a0).bind fun p61 =>
  (ldP w59 (p61.add 0)).bind fun v63 =>
  bind2 (sector_Disk_Sync v63 w59) fun v65 w66 =>
  (ldP w66 (p61.add 2)).bind fun v68 =>
  bind2 (grapevineref09_Disk_Sync v68 w66) fun v70 w71 =>
  chk (ldP w59 (p61.add 2) = some v68) <|
  some ((v65 == v70), w71))
  else
  (if (v4 == 3) = true then
  ((dr w2).bind fun w75 =>
  (a0).bind fun p77 =>
  (ldP w75 (p77.add 0)).bind fun v79 =>
  (ldI .i64 w75 (p1.add 2)).bind fun v81 =>
  bind2 (sector_Disk_Trip v79 v81 w75) fun v83 w84 =>
  (ldP w84 (p77.add 2)).bind fun v86 =>
  (ldI .i64 w84 (p1.add 2)).bind fun v88 =>
  bind2 (grapevineref09_Disk_Trip v86 v88 w84) fun v90 w91 =>
  chk (ldP w75 (p77.add 2) = some v86) <|
  chk (ldI .i64 w75 (p1.add 2) = some v88) <|
  some ((v83 == v90), w91))
  else
  (if (v4 == 4) = true then
  (bind2 ((dr w2).bind fun w100 =>
  (a0).bind fun p102 =>
  (ldP w100 (p102.add 0)).bind fun v104 =>
  (ldL w100 (p1.add 4)).bind fun v106 =>
  bind2 (sector_Disk_Crash v104 v106 w100) fun v108 w109 =>
  (ldP w109 (p102.add 2)).bind fun v111 =>
  (ldL w109 (p1.add 4)).bind fun v113 =>
  bind2 (grapevineref09_Disk_Crash v111 v113 w109) fun v115 w116 =>
  if (v108 == v115) = true then
  (bind2 (grapevinelaw10_pair_open a0 w116) fun v119 w120 =>
  chk (ldP w100 (p102.add 2) = some v111) <|
  chk (ldL w100 (p1.add 4) = some v113) <|
  some (v119, w120))
  else
  (chk (ldP w100 (p102.add 2) = some v111) <|
  chk (ldL w100 (p1.add 4) = some v113) <|
  some (false, w116))) fun v96 w97 =>
  some (v96, w97))
  else
  ((a0).bind fun p126 =>
  (ldP w2 (p126.add 1)).bind fun v128 =>
  bind2 (mark_Cells_Count v128 w2) fun v130 w131 =>
  some ((v130 == 3), w131))))))
set_option maxHeartbeats 1000000 in
set_option maxRecDepth 100000 in
theorem grapevinelaw10_pair_do_ok {a0 : Option Addr} {a1 : List Value} {w w' : World} {r0 : Bool} (h : grapevinelaw10_pair_do a0 a1 w = some (r0, w')) : Calls Try.prog 55 #[(.pointer a0), (.agg (List.toArray a1))] w fun e w'' => e = .returned (.bool r0) ∧ w'' = w' := by
  refine calls_dec (n := 106) Try.func55 rfl Try.ntmps55 (by simp) (fun a ha => ?_)
  unfold grapevinelaw10_pair_do at h
  refine wp_seq ?_
  refine region_lit ?_
  obtain ⟨p1, w2, e3, h⟩ := bs2 h
  refine s_do rfl ha (ltd rfl) (d_box ha rfl rfl e3) (fun a ha => ?_)
  refine s_do rfl ha (ltd rfl) (d_assign ha rfl) (fun a ha => ?_)
  refine s_nil ?_
  refine t_n ?_
  replace ha : Has 106 [(0, (.pointer a0)), (3, (.pointer (some p1)))] _ := ha.sub ⟨rfl, rfl, trivial⟩
  refine wp_seq ?_
  refine wp_seq ?_
  refine region_lit ?_
  refine s_do rfl ha (ltd rfl) (d_fa ha rfl Try.runUnderlying78 rfl rfl Try.sizeOf3 (by decide)) (fun a ha => ?_)
  obtain ⟨v4, e5, h⟩ := bs1 h
  refine s_do rfl ha (ltd rfl) (d_ld ha rfl Try.isAgg3 (ldI_c e5)) (fun a ha => ?_)
  refine s_nil ?_
  refine t_n ?_
  replace ha : Has 106 [(0, (.pointer a0)), (3, (.pointer (some p1))), (6, (.int .i64 v4))] _ := ha.sub ⟨rfl, rfl, rfl, trivial⟩
  refine wp_block ?_
  refine wp_seq ?_
  refine region_lit ?_
  refine s_do rfl ha (ltd rfl) (d_eq ha rfl rfl) (fun a ha => ?_)
  refine s_do rfl ha (ltd rfl) (d_assign ha rfl) (fun a ha => ?_)
  refine s_nil ?_
  refine t_n ?_
  replace ha : Has 106 [(0, (.pointer a0)), (3, (.pointer (some p1))), (6, (.int .i64 v4)), (7, (.bool (v4 == 0)))] _ := ha.sub ⟨rfl, rfl, rfl, rfl, trivial⟩
  refine s_cond ha rfl h (fun b6 h => ?_) (fun b6 h => ?_)
  · refine wp_seq ?_
    obtain ⟨w7, e8, h⟩ := bs1 h
    obtain ⟨p9, e10, h⟩ := bs1 h
    obtain ⟨v11, e12, h⟩ := bs1 h
    obtain ⟨v13, e14, h⟩ := bs1 h
    obtain ⟨v15, e16, h⟩ := bs1 h
    obtain ⟨v17, w18, e19, h⟩ := bs2 h
    obtain ⟨v20, e21, h⟩ := bs1 h
    obtain ⟨v22, e23, h⟩ := bs1 h
    obtain ⟨v24, e25, h⟩ := bs1 h
    obtain ⟨v26, w27, e28, h⟩ := bs2 h
    obtain ⟨e29, h⟩ := chk_some h
    obtain ⟨e30, h⟩ := chk_some h
    obtain ⟨e31, h⟩ := chk_some h
    have ha : Has 106 [(0, (.pointer a0)), (3, (.pointer (some p1))), (6, (.int .i64 v4)), (7, (.bool (v4 == 0)))] a := ha.sub ⟨rfl, rfl, rfl, rfl, trivial⟩
    refine region_draw (n := 106) (ds := (⟨_, (.pointer a0), false, 0, 0, [], [(0, (.pointer a0))]⟩ :: ⟨_, (.pointer (some p9)), false, 0, 0, [0], [(9, (.pointer a0))]⟩ :: ⟨_, (.pointer (some (p9.add 1))), false, 0, 0, [0, 1], [(10, (.pointer (some p9)))]⟩ :: ⟨_, (.pointer v11), false, 0, 0, [0, 1, 2], [(11, (.pointer (some (p9.add 1))))]⟩ :: ⟨_, (.pointer (some (p1.add 1))), false, 0, 0, [], [(3, (.pointer (some p1)))]⟩ :: ⟨_, (.int .i64 v13), false, 0, 0, [4], [(13, (.pointer (some (p1.add 1))))]⟩ :: ⟨_, (.pointer (some (p1.add 2))), false, 0, 0, [], [(3, (.pointer (some p1)))]⟩ :: ⟨_, (.int .i64 v15), false, 0, 0, [6], [(15, (.pointer (some (p1.add 2))))]⟩ :: ⟨_, (.int .i64 v17), true, 0, 0, [0, 1, 2, 3, 4, 5, 6, 7], [(12, (.pointer v11)), (14, (.int .i64 v13)), (16, (.int .i64 v15))]⟩ :: ⟨_, (.pointer a0), false, 0, 1, [], [(0, (.pointer a0))]⟩ :: ⟨_, (.pointer (some p9)), false, 0, 1, [9], [(18, (.pointer a0))]⟩ :: ⟨_, (.pointer (some (p9.add 3))), false, 0, 1, [9, 10], [(19, (.pointer (some p9)))]⟩ :: ⟨_, (.pointer v20), false, 0, 1, [9, 10, 11], [(20, (.pointer (some (p9.add 3))))]⟩ :: ⟨_, (.pointer (some (p1.add 1))), false, 0, 1, [], [(3, (.pointer (some p1)))]⟩ :: ⟨_, (.int .i64 v22), false, 0, 1, [13], [(22, (.pointer (some (p1.add 1))))]⟩ :: ⟨_, (.pointer (some (p1.add 2))), false, 0, 1, [], [(3, (.pointer (some p1)))]⟩ :: ⟨_, (.int .i64 v24), false, 0, 1, [15], [(24, (.pointer (some (p1.add 2))))]⟩ :: ⟨_, (.int .i64 v26), true, 1, 1, (0 :: 1 :: 2 :: 3 :: 4 :: 5 :: 6 :: 7 :: 8 :: 9 :: 10 :: 11 :: 12 :: 13 :: 14 :: 15 :: 16 :: []), [(21, (.pointer v20)), (23, (.int .i64 v22)), (25, (.int .i64 v24))]⟩ :: ⟨_, (.bool (v17 == v26)), false, 2, 2, (0 :: 1 :: 2 :: 3 :: 4 :: 5 :: 6 :: 7 :: 8 :: 9 :: 10 :: 11 :: 12 :: 13 :: 14 :: 15 :: 16 :: 17 :: []), [(17, (.int .i64 v17)), (26, (.int .i64 v26))]⟩ :: ⟨_, (.bool (v17 == v26)), false, 2, 2, (0 :: 1 :: 2 :: 3 :: 4 :: 5 :: 6 :: 7 :: 8 :: 9 :: 10 :: 11 :: 12 :: 13 :: 14 :: 15 :: 16 :: 17 :: 18 :: []), [(27, (.bool (v17 == v26)))]⟩ :: [])) (W := (fun j => match j with | 0 => w7 | 1 => w18 | _ => w27)) (by kernel_rfl) ha (dr_w e8) (by kernel_rfl) ?_ (reads_of (by kernel_rfl)) (by kernel_rfl) (m := 2) (by kernel_rfl) (fun a ha => ?_)
    · refine ⟨?_, ?_, ?_, ?_, ?_, ?_, ?_, ?_, ?_, ?_, ?_, ?_, ?_, ?_, ?_, ?_, ?_, ?_, ?_, ?_, trivial⟩
      · intro j _ _; exact ok_do rfl fun a ha => d_move ha rfl
      · intro j _ _; exact ok_do rfl fun a ha => d_nilp ha rfl e10
      · intro j _ _; exact ok_do rfl fun a ha => d_fa ha rfl Try.runUnderlying75 rfl rfl Try.sizeOf58 (by decide)
      · intro j h1 h2; obtain rfl : j = 0 := Nat.le_antisymm h2 h1; exact ok_do rfl fun a ha => d_ld ha rfl Try.isAgg58 (ldP_c e12)
      · intro j _ _; exact ok_do rfl fun a ha => d_fa ha rfl Try.runUnderlying78 rfl rfl Try.sizeOf3 (by decide)
      · intro j h1 h2; obtain rfl : j = 0 := Nat.le_antisymm h2 h1; exact ok_do rfl fun a ha => d_ld ha rfl Try.isAgg3 (ldI_c e14)
      · intro j _ _; exact ok_do rfl fun a ha => d_fa ha rfl Try.runUnderlying78 rfl rfl Try.sizeOf3 (by decide)
      · intro j h1 h2; obtain rfl : j = 0 := Nat.le_antisymm h2 h1; exact ok_do rfl fun a ha => d_ld ha rfl Try.isAgg3 (ldI_c e16)
      · intro j h1 h2; obtain rfl : j = 0 := Nat.le_antisymm h2 h1; exact ok_do rfl fun a ha => d_call (xs := [_, _, _]) (vs := [(.pointer v11), (.int .i64 v13), (.int .i64 v15)]) ha ⟨rfl, rfl, rfl, trivial⟩ Try.call38 (mark_Cells_Put_ok e19)
      · intro j _ _; exact ok_do rfl fun a ha => d_move ha rfl
      · intro j _ _; exact ok_do rfl fun a ha => d_nilp ha rfl e10
      · intro j _ _; exact ok_do rfl fun a ha => d_fa ha rfl Try.runUnderlying75 rfl rfl Try.sizeOf73 (by decide)
      · intro j h1 h2; have h1 : 0 ≤ j := h1; have h2 : j ≤ 1 := h2; rcases (by omega : j = 0 ∨ j = 1) with rfl | rfl
        · exact ok_do rfl fun a ha => d_ld ha rfl Try.isAgg73 (ldP_c e29)
        · exact ok_do rfl fun a ha => d_ld ha rfl Try.isAgg73 (ldP_c e21)
      · intro j _ _; exact ok_do rfl fun a ha => d_fa ha rfl Try.runUnderlying78 rfl rfl Try.sizeOf3 (by decide)
      · intro j h1 h2; have h1 : 0 ≤ j := h1; have h2 : j ≤ 1 := h2; rcases (by omega : j = 0 ∨ j = 1) with rfl | rfl
        · exact ok_do rfl fun a ha => d_ld ha rfl Try.isAgg3 (ldI_c e30)
        · exact ok_do rfl fun a ha => d_ld ha rfl Try.isAgg3 (ldI_c e23)
      · intro j _ _; exact ok_do rfl fun a ha => d_fa ha rfl Try.runUnderlying78 rfl rfl Try.sizeOf3 (by decide)
      · intro j h1 h2; have h1 : 0 ≤ j := h1; have h2 : j ≤ 1 := h2; rcases (by omega : j = 0 ∨ j = 1) with rfl | rfl
        · exact ok_do rfl fun a ha => d_ld ha rfl Try.isAgg3 (ldI_c e31)
        · exact ok_do rfl fun a ha => d_ld ha rfl Try.isAgg3 (ldI_c e25)
      · intro j h1 h2; obtain rfl : j = 1 := Nat.le_antisymm h2 h1; exact ok_do rfl fun a ha => d_call (xs := [_, _, _]) (vs := [(.pointer v20), (.int .i64 v22), (.int .i64 v24)]) ha ⟨rfl, rfl, rfl, trivial⟩ Try.call62 (grapevineref10_Cells_Put_ok e28)
      · intro j _ _; exact ok_do rfl fun a ha => d_eq ha rfl rfl
      · intro j _ _; exact ok_do rfl fun a ha => d_assign ha rfl
    · have ha : Has 106 [(4, (.bool (v17 == v26)))] a := ha.sub ⟨rfl, trivial⟩
      refine t_n ?_
      replace ha : Has 106 [(4, (.bool (v17 == v26)))] _ := ha.sub ⟨rfl, trivial⟩
      refine wp_ret ?_
      refine b_r ?_
      refine t_r ?_
      have hS := ha
      cases h
      exact ret1 Try.results55 hS rfl ⟨rfl, rfl⟩
  · refine wp_seq ?_
    refine region_lit ?_
    refine s_do rfl ha (ltd rfl) (d_eq ha rfl rfl) (fun a ha => ?_)
    refine s_do rfl ha (ltd rfl) (d_assign ha rfl) (fun a ha => ?_)
    refine s_nil ?_
    refine t_n ?_
    replace ha : Has 106 [(0, (.pointer a0)), (3, (.pointer (some p1))), (6, (.int .i64 v4)), (28, (.bool (v4 == 1)))] _ := ha.sub ⟨rfl, rfl, rfl, rfl, trivial⟩
    refine s_cond ha rfl h (fun b32 h => ?_) (fun b32 h => ?_)
    · refine wp_seq ?_
      obtain ⟨w33, e34, h⟩ := bs1 h
      obtain ⟨p35, e36, h⟩ := bs1 h
      obtain ⟨v37, e38, h⟩ := bs1 h
      obtain ⟨v39, e40, h⟩ := bs1 h
      obtain ⟨v41, e42, h⟩ := bs1 h
      obtain ⟨v43, w44, e45, h⟩ := bs2 h
      obtain ⟨v46, e47, h⟩ := bs1 h
      obtain ⟨v48, e49, h⟩ := bs1 h
      obtain ⟨v50, e51, h⟩ := bs1 h
      obtain ⟨v52, w53, e54, h⟩ := bs2 h
      obtain ⟨e55, h⟩ := chk_some h
      obtain ⟨e56, h⟩ := chk_some h
      obtain ⟨e57, h⟩ := chk_some h
      have ha : Has 106 [(0, (.pointer a0)), (3, (.pointer (some p1))), (6, (.int .i64 v4)), (28, (.bool (v4 == 1)))] a := ha.sub ⟨rfl, rfl, rfl, rfl, trivial⟩
      refine region_draw (n := 106) (ds := (⟨_, (.pointer a0), false, 0, 0, [], [(0, (.pointer a0))]⟩ :: ⟨_, (.pointer (some p35)), false, 0, 0, [0], [(30, (.pointer a0))]⟩ :: ⟨_, (.pointer (some (p35.add 0))), false, 0, 0, [0, 1], [(31, (.pointer (some p35)))]⟩ :: ⟨_, (.pointer v37), false, 0, 0, [0, 1, 2], [(32, (.pointer (some (p35.add 0))))]⟩ :: ⟨_, (.pointer (some (p1.add 1))), false, 0, 0, [], [(3, (.pointer (some p1)))]⟩ :: ⟨_, (.int .i64 v39), false, 0, 0, [4], [(34, (.pointer (some (p1.add 1))))]⟩ :: ⟨_, (.pointer (some (p1.add 3))), false, 0, 0, [], [(3, (.pointer (some p1)))]⟩ :: ⟨_, (Sl.v v41), false, 0, 0, [6], [(36, (.pointer (some (p1.add 3))))]⟩ :: ⟨_, (.int .i64 v43), true, 0, 0, [0, 1, 2, 3, 4, 5, 6, 7], [(33, (.pointer v37)), (35, (.int .i64 v39)), (37, (Sl.v v41))]⟩ :: ⟨_, (.pointer a0), false, 0, 1, [], [(0, (.pointer a0))]⟩ :: ⟨_, (.pointer (some p35)), false, 0, 1, [9], [(39, (.pointer a0))]⟩ :: ⟨_, (.pointer (some (p35.add 2))), false, 0, 1, [9, 10], [(40, (.pointer (some p35)))]⟩ :: ⟨_, (.pointer v46), false, 0, 1, [9, 10, 11], [(41, (.pointer (some (p35.add 2))))]⟩ :: ⟨_, (.pointer (some (p1.add 1))), false, 0, 1, [], [(3, (.pointer (some p1)))]⟩ :: ⟨_, (.int .i64 v48), false, 0, 1, [13], [(43, (.pointer (some (p1.add 1))))]⟩ :: ⟨_, (.pointer (some (p1.add 3))), false, 0, 1, [], [(3, (.pointer (some p1)))]⟩ :: ⟨_, (Sl.v v50), false, 0, 1, [15], [(45, (.pointer (some (p1.add 3))))]⟩ :: ⟨_, (.int .i64 v52), true, 1, 1, (0 :: 1 :: 2 :: 3 :: 4 :: 5 :: 6 :: 7 :: 8 :: 9 :: 10 :: 11 :: 12 :: 13 :: 14 :: 15 :: 16 :: []), [(42, (.pointer v46)), (44, (.int .i64 v48)), (46, (Sl.v v50))]⟩ :: ⟨_, (.bool (v43 == v52)), false, 2, 2, (0 :: 1 :: 2 :: 3 :: 4 :: 5 :: 6 :: 7 :: 8 :: 9 :: 10 :: 11 :: 12 :: 13 :: 14 :: 15 :: 16 :: 17 :: []), [(38, (.int .i64 v43)), (47, (.int .i64 v52))]⟩ :: ⟨_, (.bool (v43 == v52)), false, 2, 2, (0 :: 1 :: 2 :: 3 :: 4 :: 5 :: 6 :: 7 :: 8 :: 9 :: 10 :: 11 :: 12 :: 13 :: 14 :: 15 :: 16 :: 17 :: 18 :: []), [(48, (.bool (v43 == v52)))]⟩ :: [])) (W := (fun j => match j with | 0 => w33 | 1 => w44 | _ => w53)) (by kernel_rfl) ha (dr_w e34) (by kernel_rfl) ?_ (reads_of (by kernel_rfl)) (by kernel_rfl) (m := 2) (by kernel_rfl) (fun a ha => ?_)
      · refine ⟨?_, ?_, ?_, ?_, ?_, ?_, ?_, ?_, ?_, ?_, ?_, ?_, ?_, ?_, ?_, ?_, ?_, ?_, ?_, ?_, trivial⟩
        · intro j _ _; exact ok_do rfl fun a ha => d_move ha rfl
        · intro j _ _; exact ok_do rfl fun a ha => d_nilp ha rfl e36
        · intro j _ _; exact ok_do rfl fun a ha => d_fa ha rfl Try.runUnderlying75 rfl rfl Try.sizeOf22 (by decide)
        · intro j h1 h2; obtain rfl : j = 0 := Nat.le_antisymm h2 h1; exact ok_do rfl fun a ha => d_ld ha rfl Try.isAgg22 (ldP_c e38)
        · intro j _ _; exact ok_do rfl fun a ha => d_fa ha rfl Try.runUnderlying78 rfl rfl Try.sizeOf3 (by decide)
        · intro j h1 h2; obtain rfl : j = 0 := Nat.le_antisymm h2 h1; exact ok_do rfl fun a ha => d_ld ha rfl Try.isAgg3 (ldI_c e40)
        · intro j _ _; exact ok_do rfl fun a ha => d_fa ha rfl Try.runUnderlying78 rfl rfl Try.sizeOf29 (by decide)
        · intro j h1 h2; obtain rfl : j = 0 := Nat.le_antisymm h2 h1; exact ok_do rfl fun a ha => d_ld ha rfl Try.isAgg29 (ldL_c e42)
        · intro j h1 h2; obtain rfl : j = 0 := Nat.le_antisymm h2 h1; exact ok_do rfl fun a ha => d_call (xs := [_, _, _]) (vs := [(.pointer v37), (.int .i64 v39), (Sl.v v41)]) ha ⟨rfl, rfl, rfl, trivial⟩ Try.call22 (sector_Disk_Write_ok e45)
        · intro j _ _; exact ok_do rfl fun a ha => d_move ha rfl
        · intro j _ _; exact ok_do rfl fun a ha => d_nilp ha rfl e36
        · intro j _ _; exact ok_do rfl fun a ha => d_fa ha rfl Try.runUnderlying75 rfl rfl Try.sizeOf44 (by decide)
        · intro j h1 h2; have h1 : 0 ≤ j := h1; have h2 : j ≤ 1 := h2; rcases (by omega : j = 0 ∨ j = 1) with rfl | rfl
          · exact ok_do rfl fun a ha => d_ld ha rfl Try.isAgg44 (ldP_c e55)
          · exact ok_do rfl fun a ha => d_ld ha rfl Try.isAgg44 (ldP_c e47)
        · intro j _ _; exact ok_do rfl fun a ha => d_fa ha rfl Try.runUnderlying78 rfl rfl Try.sizeOf3 (by decide)
        · intro j h1 h2; have h1 : 0 ≤ j := h1; have h2 : j ≤ 1 := h2; rcases (by omega : j = 0 ∨ j = 1) with rfl | rfl
          · exact ok_do rfl fun a ha => d_ld ha rfl Try.isAgg3 (ldI_c e56)
          · exact ok_do rfl fun a ha => d_ld ha rfl Try.isAgg3 (ldI_c e49)
        · intro j _ _; exact ok_do rfl fun a ha => d_fa ha rfl Try.runUnderlying78 rfl rfl Try.sizeOf29 (by decide)
        · intro j h1 h2; have h1 : 0 ≤ j := h1; have h2 : j ≤ 1 := h2; rcases (by omega : j = 0 ∨ j = 1) with rfl | rfl
          · exact ok_do rfl fun a ha => d_ld ha rfl Try.isAgg29 (ldL_c e57)
          · exact ok_do rfl fun a ha => d_ld ha rfl Try.isAgg29 (ldL_c e51)
        · intro j h1 h2; obtain rfl : j = 1 := Nat.le_antisymm h2 h1; exact ok_do rfl fun a ha => d_call (xs := [_, _, _]) (vs := [(.pointer v46), (.int .i64 v48), (Sl.v v50)]) ha ⟨rfl, rfl, rfl, trivial⟩ Try.call48 (grapevineref09_Disk_Write_ok e54)
        · intro j _ _; exact ok_do rfl fun a ha => d_eq ha rfl rfl
        · intro j _ _; exact ok_do rfl fun a ha => d_assign ha rfl
      · have ha : Has 106 [(4, (.bool (v43 == v52)))] a := ha.sub ⟨rfl, trivial⟩
        refine t_n ?_
        replace ha : Has 106 [(4, (.bool (v43 == v52)))] _ := ha.sub ⟨rfl, trivial⟩
        refine wp_ret ?_
        refine b_r ?_
        refine t_r ?_
        have hS := ha
        cases h
        exact ret1 Try.results55 hS rfl ⟨rfl, rfl⟩
    · refine wp_seq ?_
      refine region_lit ?_
      refine s_do rfl ha (ltd rfl) (d_eq ha rfl rfl) (fun a ha => ?_)
      refine s_do rfl ha (ltd rfl) (d_assign ha rfl) (fun a ha => ?_)
      refine s_nil ?_
      refine t_n ?_
      replace ha : Has 106 [(0, (.pointer a0)), (3, (.pointer (some p1))), (6, (.int .i64 v4)), (49, (.bool (v4 == 2)))] _ := ha.sub ⟨rfl, rfl, rfl, rfl, trivial⟩
      refine s_cond ha rfl h (fun b58 h => ?_) (fun b58 h => ?_)
      · refine wp_seq ?_
        obtain ⟨w59, e60, h⟩ := bs1 h
        obtain ⟨p61, e62, h⟩ := bs1 h
        obtain ⟨v63, e64, h⟩ := bs1 h
        obtain ⟨v65, w66, e67, h⟩ := bs2 h
        obtain ⟨v68, e69, h⟩ := bs1 h
        obtain ⟨v70, w71, e72, h⟩ := bs2 h
        obtain ⟨e73, h⟩ := chk_some h
        have ha : Has 106 [(0, (.pointer a0)), (3, (.pointer (some p1))), (6, (.int .i64 v4)), (49, (.bool (v4 == 2)))] a := ha.sub ⟨rfl, rfl, rfl, rfl, trivial⟩
        refine region_draw (n := 106) (ds := (⟨_, (.pointer a0), false, 0, 0, [], [(0, (.pointer a0))]⟩ :: ⟨_, (.pointer (some p61)), false, 0, 0, [0], [(51, (.pointer a0))]⟩ :: ⟨_, (.pointer (some (p61.add 0))), false, 0, 0, [0, 1], [(52, (.pointer (some p61)))]⟩ :: ⟨_, (.pointer v63), false, 0, 0, [0, 1, 2], [(53, (.pointer (some (p61.add 0))))]⟩ :: ⟨_, (.int .i64 v65), true, 0, 0, [0, 1, 2, 3], [(54, (.pointer v63))]⟩ :: ⟨_, (.pointer a0), false, 0, 1, [], [(0, (.pointer a0))]⟩ :: ⟨_, (.pointer (some p61)), false, 0, 1, [5], [(56, (.pointer a0))]⟩ :: ⟨_, (.pointer (some (p61.add 2))), false, 0, 1, [5, 6], [(57, (.pointer (some p61)))]⟩ :: ⟨_, (.pointer v68), false, 0, 1, [5, 6, 7], [(58, (.pointer (some (p61.add 2))))]⟩ :: ⟨_, (.int .i64 v70), true, 1, 1, [0, 1, 2, 3, 4, 5, 6, 7, 8], [(59, (.pointer v68))]⟩ :: ⟨_, (.bool (v65 == v70)), false, 2, 2, [0, 1, 2, 3, 4, 5, 6, 7, 8, 9], [(55, (.int .i64 v65)), (60, (.int .i64 v70))]⟩ :: ⟨_, (.bool (v65 == v70)), false, 2, 2, [0, 1, 2, 3, 4, 5, 6, 7, 8, 9, 10], [(61, (.bool (v65 == v70)))]⟩ :: [])) (W := (fun j => match j with | 0 => w59 | 1 => w66 | _ => w71)) (by kernel_rfl) ha (dr_w e60) (by kernel_rfl) ?_ (reads_of (by kernel_rfl)) (by kernel_rfl) (m := 2) (by kernel_rfl) (fun a ha => ?_)
        · refine ⟨?_, ?_, ?_, ?_, ?_, ?_, ?_, ?_, ?_, ?_, ?_, ?_, trivial⟩
          · intro j _ _; exact ok_do rfl fun a ha => d_move ha rfl
          · intro j _ _; exact ok_do rfl fun a ha => d_nilp ha rfl e62
          · intro j _ _; exact ok_do rfl fun a ha => d_fa ha rfl Try.runUnderlying75 rfl rfl Try.sizeOf22 (by decide)
          · intro j h1 h2; obtain rfl : j = 0 := Nat.le_antisymm h2 h1; exact ok_do rfl fun a ha => d_ld ha rfl Try.isAgg22 (ldP_c e64)
          · intro j h1 h2; obtain rfl : j = 0 := Nat.le_antisymm h2 h1; exact ok_do rfl fun a ha => d_call (xs := [_]) (vs := [(.pointer v63)]) ha ⟨rfl, trivial⟩ Try.call23 (sector_Disk_Sync_ok e67)
          · intro j _ _; exact ok_do rfl fun a ha => d_move ha rfl
          · intro j _ _; exact ok_do rfl fun a ha => d_nilp ha rfl e62
          · intro j _ _; exact ok_do rfl fun a ha => d_fa ha rfl Try.runUnderlying75 rfl rfl Try.sizeOf44 (by decide)
          · intro j h1 h2; have h1 : 0 ≤ j := h1; have h2 : j ≤ 1 := h2; rcases (by omega : j = 0 ∨ j = 1) with rfl | rfl
            · exact ok_do rfl fun a ha => d_ld ha rfl Try.isAgg44 (ldP_c e73)
            · exact ok_do rfl fun a ha => d_ld ha rfl Try.isAgg44 (ldP_c e69)
          · intro j h1 h2; obtain rfl : j = 1 := Nat.le_antisymm h2 h1; exact ok_do rfl fun a ha => d_call (xs := [_]) (vs := [(.pointer v68)]) ha ⟨rfl, trivial⟩ Try.call49 (grapevineref09_Disk_Sync_ok e72)
          · intro j _ _; exact ok_do rfl fun a ha => d_eq ha rfl rfl
          · intro j _ _; exact ok_do rfl fun a ha => d_assign ha rfl
        · have ha : Has 106 [(4, (.bool (v65 == v70)))] a := ha.sub ⟨rfl, trivial⟩
          refine t_n ?_
          replace ha : Has 106 [(4, (.bool (v65 == v70)))] _ := ha.sub ⟨rfl, trivial⟩
          refine wp_ret ?_
          refine b_r ?_
          refine t_r ?_
          have hS := ha
          cases h
          exact ret1 Try.results55 hS rfl ⟨rfl, rfl⟩
      · refine wp_seq ?_
        refine region_lit ?_
        refine s_do rfl ha (ltd rfl) (d_eq ha rfl rfl) (fun a ha => ?_)
        refine s_do rfl ha (ltd rfl) (d_assign ha rfl) (fun a ha => ?_)
        refine s_nil ?_
        refine t_n ?_
        replace ha : Has 106 [(0, (.pointer a0)), (3, (.pointer (some p1))), (6, (.int .i64 v4)), (62, (.bool (v4 == 3)))] _ := ha.sub ⟨rfl, rfl, rfl, rfl, trivial⟩
        refine s_cond ha rfl h (fun b74 h => ?_) (fun b74 h => ?_)
        · refine wp_seq ?_
          obtain ⟨w75, e76, h⟩ := bs1 h
          obtain ⟨p77, e78, h⟩ := bs1 h
          obtain ⟨v79, e80, h⟩ := bs1 h
          obtain ⟨v81, e82, h⟩ := bs1 h
          obtain ⟨v83, w84, e85, h⟩ := bs2 h
          obtain ⟨v86, e87, h⟩ := bs1 h
          obtain ⟨v88, e89, h⟩ := bs1 h
          obtain ⟨v90, w91, e92, h⟩ := bs2 h
          obtain ⟨e93, h⟩ := chk_some h
          obtain ⟨e94, h⟩ := chk_some h
          have ha : Has 106 [(0, (.pointer a0)), (3, (.pointer (some p1))), (6, (.int .i64 v4)), (62, (.bool (v4 == 3)))] a := ha.sub ⟨rfl, rfl, rfl, rfl, trivial⟩
          refine region_draw (n := 106) (ds := (⟨_, (.pointer a0), false, 0, 0, [], [(0, (.pointer a0))]⟩ :: ⟨_, (.pointer (some p77)), false, 0, 0, [0], [(64, (.pointer a0))]⟩ :: ⟨_, (.pointer (some (p77.add 0))), false, 0, 0, [0, 1], [(65, (.pointer (some p77)))]⟩ :: ⟨_, (.pointer v79), false, 0, 0, [0, 1, 2], [(66, (.pointer (some (p77.add 0))))]⟩ :: ⟨_, (.pointer (some (p1.add 2))), false, 0, 0, [], [(3, (.pointer (some p1)))]⟩ :: ⟨_, (.int .i64 v81), false, 0, 0, [4], [(68, (.pointer (some (p1.add 2))))]⟩ :: ⟨_, (.int .i64 v83), true, 0, 0, [0, 1, 2, 3, 4, 5], [(67, (.pointer v79)), (69, (.int .i64 v81))]⟩ :: ⟨_, (.pointer a0), false, 0, 1, [], [(0, (.pointer a0))]⟩ :: ⟨_, (.pointer (some p77)), false, 0, 1, [7], [(71, (.pointer a0))]⟩ :: ⟨_, (.pointer (some (p77.add 2))), false, 0, 1, [7, 8], [(72, (.pointer (some p77)))]⟩ :: ⟨_, (.pointer v86), false, 0, 1, [7, 8, 9], [(73, (.pointer (some (p77.add 2))))]⟩ :: ⟨_, (.pointer (some (p1.add 2))), false, 0, 1, [], [(3, (.pointer (some p1)))]⟩ :: ⟨_, (.int .i64 v88), false, 0, 1, [11], [(75, (.pointer (some (p1.add 2))))]⟩ :: ⟨_, (.int .i64 v90), true, 1, 1, (0 :: 1 :: 2 :: 3 :: 4 :: 5 :: 6 :: 7 :: 8 :: 9 :: 10 :: 11 :: 12 :: []), [(74, (.pointer v86)), (76, (.int .i64 v88))]⟩ :: ⟨_, (.bool (v83 == v90)), false, 2, 2, (0 :: 1 :: 2 :: 3 :: 4 :: 5 :: 6 :: 7 :: 8 :: 9 :: 10 :: 11 :: 12 :: 13 :: []), [(70, (.int .i64 v83)), (77, (.int .i64 v90))]⟩ :: ⟨_, (.bool (v83 == v90)), false, 2, 2, (0 :: 1 :: 2 :: 3 :: 4 :: 5 :: 6 :: 7 :: 8 :: 9 :: 10 :: 11 :: 12 :: 13 :: 14 :: []), [(78, (.bool (v83 == v90)))]⟩ :: [])) (W := (fun j => match j with | 0 => w75 | 1 => w84 | _ => w91)) (by kernel_rfl) ha (dr_w e76) (by kernel_rfl) ?_ (reads_of (by kernel_rfl)) (by kernel_rfl) (m := 2) (by kernel_rfl) (fun a ha => ?_)
          · refine ⟨?_, ?_, ?_, ?_, ?_, ?_, ?_, ?_, ?_, ?_, ?_, ?_, ?_, ?_, ?_, ?_, trivial⟩
            · intro j _ _; exact ok_do rfl fun a ha => d_move ha rfl
            · intro j _ _; exact ok_do rfl fun a ha => d_nilp ha rfl e78
            · intro j _ _; exact ok_do rfl fun a ha => d_fa ha rfl Try.runUnderlying75 rfl rfl Try.sizeOf22 (by decide)
            · intro j h1 h2; obtain rfl : j = 0 := Nat.le_antisymm h2 h1; exact ok_do rfl fun a ha => d_ld ha rfl Try.isAgg22 (ldP_c e80)
            · intro j _ _; exact ok_do rfl fun a ha => d_fa ha rfl Try.runUnderlying78 rfl rfl Try.sizeOf3 (by decide)
            · intro j h1 h2; obtain rfl : j = 0 := Nat.le_antisymm h2 h1; exact ok_do rfl fun a ha => d_ld ha rfl Try.isAgg3 (ldI_c e82)
            · intro j h1 h2; obtain rfl : j = 0 := Nat.le_antisymm h2 h1; exact ok_do rfl fun a ha => d_call (xs := [_, _]) (vs := [(.pointer v79), (.int .i64 v81)]) ha ⟨rfl, rfl, trivial⟩ Try.call27 (sector_Disk_Trip_ok e85)
            · intro j _ _; exact ok_do rfl fun a ha => d_move ha rfl
            · intro j _ _; exact ok_do rfl fun a ha => d_nilp ha rfl e78
            · intro j _ _; exact ok_do rfl fun a ha => d_fa ha rfl Try.runUnderlying75 rfl rfl Try.sizeOf44 (by decide)
            · intro j h1 h2; have h1 : 0 ≤ j := h1; have h2 : j ≤ 1 := h2; rcases (by omega : j = 0 ∨ j = 1) with rfl | rfl
              · exact ok_do rfl fun a ha => d_ld ha rfl Try.isAgg44 (ldP_c e93)
              · exact ok_do rfl fun a ha => d_ld ha rfl Try.isAgg44 (ldP_c e87)
            · intro j _ _; exact ok_do rfl fun a ha => d_fa ha rfl Try.runUnderlying78 rfl rfl Try.sizeOf3 (by decide)
            · intro j h1 h2; have h1 : 0 ≤ j := h1; have h2 : j ≤ 1 := h2; rcases (by omega : j = 0 ∨ j = 1) with rfl | rfl
              · exact ok_do rfl fun a ha => d_ld ha rfl Try.isAgg3 (ldI_c e94)
              · exact ok_do rfl fun a ha => d_ld ha rfl Try.isAgg3 (ldI_c e89)
            · intro j h1 h2; obtain rfl : j = 1 := Nat.le_antisymm h2 h1; exact ok_do rfl fun a ha => d_call (xs := [_, _]) (vs := [(.pointer v86), (.int .i64 v88)]) ha ⟨rfl, rfl, trivial⟩ Try.call50 (grapevineref09_Disk_Trip_ok e92)
            · intro j _ _; exact ok_do rfl fun a ha => d_eq ha rfl rfl
            · intro j _ _; exact ok_do rfl fun a ha => d_assign ha rfl
          · have ha : Has 106 [(4, (.bool (v83 == v90)))] a := ha.sub ⟨rfl, trivial⟩
            refine t_n ?_
            replace ha : Has 106 [(4, (.bool (v83 == v90)))] _ := ha.sub ⟨rfl, trivial⟩
            refine wp_ret ?_
            refine b_r ?_
            refine t_r ?_
            have hS := ha
            cases h
            exact ret1 Try.results55 hS rfl ⟨rfl, rfl⟩
        · refine wp_seq ?_
          refine region_lit ?_
          refine s_do rfl ha (ltd rfl) (d_eq ha rfl rfl) (fun a ha => ?_)
          refine s_do rfl ha (ltd rfl) (d_assign ha rfl) (fun a ha => ?_)
          refine s_nil ?_
          refine t_n ?_
          replace ha : Has 106 [(0, (.pointer a0)), (3, (.pointer (some p1))), (79, (.bool (v4 == 4)))] _ := ha.sub ⟨rfl, rfl, rfl, trivial⟩
          refine s_cond ha rfl h (fun b95 h => ?_) (fun b95 h => ?_)
          · refine wp_seq ?_
            obtain ⟨v96, w97, e98, h⟩ := bs2 h
            refine reg_join (n := 106) (L := [(4, (.bool v96))]) (w' := w97) (fun a ha => ?_) (fun hk99 => ?_)
            · refine t_n ?_
              replace ha : Has 106 [(4, (.bool v96))] _ := ha.sub ⟨rfl, trivial⟩
              refine wp_ret ?_
              refine b_r ?_
              refine t_r ?_
              have hS := ha
              cases h
              exact ret1 Try.results55 hS rfl ⟨rfl, rfl⟩
            · clear h
              have h := e98
              obtain ⟨w100, e101, h⟩ := bs1 h
              obtain ⟨p102, e103, h⟩ := bs1 h
              obtain ⟨v104, e105, h⟩ := bs1 h
              obtain ⟨v106, e107, h⟩ := bs1 h
              obtain ⟨v108, w109, e110, h⟩ := bs2 h
              obtain ⟨v111, e112, h⟩ := bs1 h
              obtain ⟨v113, e114, h⟩ := bs1 h
              obtain ⟨v115, w116, e117, h⟩ := bs2 h
              refine ite_s h (fun b118 h => ?_) (fun b118 h => ?_)
              · obtain ⟨v119, w120, e121, h⟩ := bs2 h
                obtain ⟨e122, h⟩ := chk_some h
                obtain ⟨e123, h⟩ := chk_some h
                have ha : Has 106 [(0, (.pointer a0)), (3, (.pointer (some p1))), (79, (.bool (v4 == 4)))] a := ha.sub ⟨rfl, rfl, rfl, trivial⟩
                refine region_draw (n := 106) (ds := (⟨_, (.pointer a0), false, 0, 0, [], [(0, (.pointer a0))]⟩ :: ⟨_, (.pointer (some p102)), false, 0, 0, [0], [(81, (.pointer a0))]⟩ :: ⟨_, (.pointer (some (p102.add 0))), false, 0, 0, [0, 1], [(82, (.pointer (some p102)))]⟩ :: ⟨_, (.pointer v104), false, 0, 0, [0, 1, 2], [(83, (.pointer (some (p102.add 0))))]⟩ :: ⟨_, (.pointer (some (p1.add 4))), false, 0, 0, [], [(3, (.pointer (some p1)))]⟩ :: ⟨_, (Sl.v v106), false, 0, 0, [4], [(85, (.pointer (some (p1.add 4))))]⟩ :: ⟨_, (.int .i64 v108), true, 0, 0, [0, 1, 2, 3, 4, 5], [(84, (.pointer v104)), (86, (Sl.v v106))]⟩ :: ⟨_, (.pointer a0), false, 0, 1, [], [(0, (.pointer a0))]⟩ :: ⟨_, (.pointer (some p102)), false, 0, 1, [7], [(88, (.pointer a0))]⟩ :: ⟨_, (.pointer (some (p102.add 2))), false, 0, 1, [7, 8], [(89, (.pointer (some p102)))]⟩ :: ⟨_, (.pointer v111), false, 0, 1, [7, 8, 9], [(90, (.pointer (some (p102.add 2))))]⟩ :: ⟨_, (.pointer (some (p1.add 4))), false, 0, 1, [], [(3, (.pointer (some p1)))]⟩ :: ⟨_, (Sl.v v113), false, 0, 1, [11], [(92, (.pointer (some (p1.add 4))))]⟩ :: ⟨_, (.int .i64 v115), true, 1, 1, (0 :: 1 :: 2 :: 3 :: 4 :: 5 :: 6 :: 7 :: 8 :: 9 :: 10 :: 11 :: 12 :: []), [(91, (.pointer v111)), (93, (Sl.v v113))]⟩ :: ⟨_, (.bool (v108 == v115)), false, 2, 2, (0 :: 1 :: 2 :: 3 :: 4 :: 5 :: 6 :: 7 :: 8 :: 9 :: 10 :: 11 :: 12 :: 13 :: []), [(87, (.int .i64 v108)), (94, (.int .i64 v115))]⟩ :: ⟨_, (.bool (v108 == v115)), false, 2, 2, (0 :: 1 :: 2 :: 3 :: 4 :: 5 :: 6 :: 7 :: 8 :: 9 :: 10 :: 11 :: 12 :: 13 :: 14 :: []), [(95, (.bool (v108 == v115)))]⟩ :: ⟨_, (.pointer a0), false, 2, 2, (0 :: 1 :: 2 :: 3 :: 4 :: 5 :: 6 :: 7 :: 8 :: 9 :: 10 :: 11 :: 12 :: 13 :: 14 :: 15 :: []), [(0, (.pointer a0)), (96, (.bool (v108 == v115)))]⟩ :: ⟨_, (.bool v119), true, 2, 2, (0 :: 1 :: 2 :: 3 :: 4 :: 5 :: 6 :: 7 :: 8 :: 9 :: 10 :: 11 :: 12 :: 13 :: 14 :: 15 :: 16 :: []), [(97, (.pointer a0)), (96, (.bool (v108 == v115)))]⟩ :: ⟨_, (.bool v119), false, 3, 3, (0 :: 1 :: 2 :: 3 :: 4 :: 5 :: 6 :: 7 :: 8 :: 9 :: 10 :: 11 :: 12 :: 13 :: 14 :: 15 :: 16 :: 17 :: []), [(96, (.bool (v108 == v115))), (98, (.bool v119))]⟩ :: ⟨_, (.bool v119), false, 3, 3, (0 :: 1 :: 2 :: 3 :: 4 :: 5 :: 6 :: 7 :: 8 :: 9 :: 10 :: 11 :: 12 :: 13 :: 14 :: 15 :: 16 :: 17 :: 18 :: []), [(99, (.bool v119))]⟩ :: [])) (W := (fun j => match j with | 0 => w100 | 1 => w109 | 2 => w116 | _ => w120)) (by kernel_rfl) ha (dr_w e101) (by kernel_rfl) ?_ (reads_of (by kernel_rfl)) (by kernel_rfl) (m := 3) (by kernel_rfl) (fun a ha => ?_)
                · refine ⟨?_, ?_, ?_, ?_, ?_, ?_, ?_, ?_, ?_, ?_, ?_, ?_, ?_, ?_, ?_, ?_, ?_, ?_, ?_, ?_, trivial⟩
                  · intro j _ _; exact ok_do rfl fun a ha => d_move ha rfl
                  · intro j _ _; exact ok_do rfl fun a ha => d_nilp ha rfl e103
                  · intro j _ _; exact ok_do rfl fun a ha => d_fa ha rfl Try.runUnderlying75 rfl rfl Try.sizeOf22 (by decide)
                  · intro j h1 h2; obtain rfl : j = 0 := Nat.le_antisymm h2 h1; exact ok_do rfl fun a ha => d_ld ha rfl Try.isAgg22 (ldP_c e105)
                  · intro j _ _; exact ok_do rfl fun a ha => d_fa ha rfl Try.runUnderlying78 rfl rfl Try.sizeOf35 (by decide)
                  · intro j h1 h2; obtain rfl : j = 0 := Nat.le_antisymm h2 h1; exact ok_do rfl fun a ha => d_ld ha rfl Try.isAgg35 (ldL_c e107)
                  · intro j h1 h2; obtain rfl : j = 0 := Nat.le_antisymm h2 h1; exact ok_do rfl fun a ha => d_call (xs := [_, _]) (vs := [(.pointer v104), (Sl.v v106)]) ha ⟨rfl, rfl, trivial⟩ Try.call26 (sector_Disk_Crash_ok e110)
                  · intro j _ _; exact ok_do rfl fun a ha => d_move ha rfl
                  · intro j _ _; exact ok_do rfl fun a ha => d_nilp ha rfl e103
                  · intro j _ _; exact ok_do rfl fun a ha => d_fa ha rfl Try.runUnderlying75 rfl rfl Try.sizeOf44 (by decide)
                  · intro j h1 h2; have h1 : 0 ≤ j := h1; have h2 : j ≤ 1 := h2; rcases (by omega : j = 0 ∨ j = 1) with rfl | rfl
                    · exact ok_do rfl fun a ha => d_ld ha rfl Try.isAgg44 (ldP_c e122)
                    · exact ok_do rfl fun a ha => d_ld ha rfl Try.isAgg44 (ldP_c e112)
                  · intro j _ _; exact ok_do rfl fun a ha => d_fa ha rfl Try.runUnderlying78 rfl rfl Try.sizeOf35 (by decide)
                  · intro j h1 h2; have h1 : 0 ≤ j := h1; have h2 : j ≤ 1 := h2; rcases (by omega : j = 0 ∨ j = 1) with rfl | rfl
                    · exact ok_do rfl fun a ha => d_ld ha rfl Try.isAgg35 (ldL_c e123)
                    · exact ok_do rfl fun a ha => d_ld ha rfl Try.isAgg35 (ldL_c e114)
                  · intro j h1 h2; obtain rfl : j = 1 := Nat.le_antisymm h2 h1; exact ok_do rfl fun a ha => d_call (xs := [_, _]) (vs := [(.pointer v111), (Sl.v v113)]) ha ⟨rfl, rfl, trivial⟩ Try.call51 (grapevineref09_Disk_Crash_ok e117)
                  · intro j _ _; exact ok_do rfl fun a ha => d_eq ha rfl rfl
                  · intro j _ _; exact ok_do rfl fun a ha => d_move ha rfl
                  · intro j _ _; exact ok_do_g rfl rfl (rfl : List.lookup 96 _ = _) b118 fun a ha => d_move ha rfl
                  · intro j h1 h2; obtain rfl : j = 2 := Nat.le_antisymm h2 h1; exact ok_do_g rfl rfl (rfl : List.lookup 96 _ = _) b118 fun a ha => d_call (xs := [_]) (vs := [(.pointer a0)]) ha ⟨rfl, trivial⟩ Try.call61 (grapevinelaw10_pair_open_ok e121)
                  · intro j _ _; exact ok_do rfl fun a ha => d_pick_t ha rfl b118 rfl
                  · intro j _ _; exact ok_do rfl fun a ha => d_assign ha rfl
                · have ha : Has 106 [(4, (.bool v119))] a := ha.sub ⟨rfl, trivial⟩
                  have hS : Has 106 [(4, (.bool v119))] _ := ha.sub ⟨rfl, trivial⟩
                  cases h
                  exact hk99 _ hS
              · obtain ⟨e124, h⟩ := chk_some h
                obtain ⟨e125, h⟩ := chk_some h
                have ha : Has 106 [(0, (.pointer a0)), (3, (.pointer (some p1))), (79, (.bool (v4 == 4)))] a := ha.sub ⟨rfl, rfl, rfl, trivial⟩
                refine region_draw (n := 106) (ds := (⟨_, (.pointer a0), false, 0, 0, [], [(0, (.pointer a0))]⟩ :: ⟨_, (.pointer (some p102)), false, 0, 0, [0], [(81, (.pointer a0))]⟩ :: ⟨_, (.pointer (some (p102.add 0))), false, 0, 0, [0, 1], [(82, (.pointer (some p102)))]⟩ :: ⟨_, (.pointer v104), false, 0, 0, [0, 1, 2], [(83, (.pointer (some (p102.add 0))))]⟩ :: ⟨_, (.pointer (some (p1.add 4))), false, 0, 0, [], [(3, (.pointer (some p1)))]⟩ :: ⟨_, (Sl.v v106), false, 0, 0, [4], [(85, (.pointer (some (p1.add 4))))]⟩ :: ⟨_, (.int .i64 v108), true, 0, 0, [0, 1, 2, 3, 4, 5], [(84, (.pointer v104)), (86, (Sl.v v106))]⟩ :: ⟨_, (.pointer a0), false, 0, 1, [], [(0, (.pointer a0))]⟩ :: ⟨_, (.pointer (some p102)), false, 0, 1, [7], [(88, (.pointer a0))]⟩ :: ⟨_, (.pointer (some (p102.add 2))), false, 0, 1, [7, 8], [(89, (.pointer (some p102)))]⟩ :: ⟨_, (.pointer v111), false, 0, 1, [7, 8, 9], [(90, (.pointer (some (p102.add 2))))]⟩ :: ⟨_, (.pointer (some (p1.add 4))), false, 0, 1, [], [(3, (.pointer (some p1)))]⟩ :: ⟨_, (Sl.v v113), false, 0, 1, [11], [(92, (.pointer (some (p1.add 4))))]⟩ :: ⟨_, (.int .i64 v115), true, 1, 1, (0 :: 1 :: 2 :: 3 :: 4 :: 5 :: 6 :: 7 :: 8 :: 9 :: 10 :: 11 :: 12 :: []), [(91, (.pointer v111)), (93, (Sl.v v113))]⟩ :: ⟨_, (.bool (v108 == v115)), false, 2, 2, (0 :: 1 :: 2 :: 3 :: 4 :: 5 :: 6 :: 7 :: 8 :: 9 :: 10 :: 11 :: 12 :: 13 :: []), [(87, (.int .i64 v108)), (94, (.int .i64 v115))]⟩ :: ⟨_, (.bool (v108 == v115)), false, 2, 2, (0 :: 1 :: 2 :: 3 :: 4 :: 5 :: 6 :: 7 :: 8 :: 9 :: 10 :: 11 :: 12 :: 13 :: 14 :: []), [(95, (.bool (v108 == v115)))]⟩ :: ⟨_, undef, false, 2, 2, (0 :: 1 :: 2 :: 3 :: 4 :: 5 :: 6 :: 7 :: 8 :: 9 :: 10 :: 11 :: 12 :: 13 :: 14 :: 15 :: []), [(96, (.bool (v108 == v115)))]⟩ :: ⟨_, undef, false, 2, 2, (0 :: 1 :: 2 :: 3 :: 4 :: 5 :: 6 :: 7 :: 8 :: 9 :: 10 :: 11 :: 12 :: 13 :: 14 :: 15 :: 16 :: []), [(96, (.bool (v108 == v115)))]⟩ :: ⟨_, (.bool false), false, 2, 2, (0 :: 1 :: 2 :: 3 :: 4 :: 5 :: 6 :: 7 :: 8 :: 9 :: 10 :: 11 :: 12 :: 13 :: 14 :: 15 :: 16 :: 17 :: []), [(96, (.bool (v108 == v115))), (98, undef)]⟩ :: ⟨_, (.bool false), false, 2, 2, (0 :: 1 :: 2 :: 3 :: 4 :: 5 :: 6 :: 7 :: 8 :: 9 :: 10 :: 11 :: 12 :: 13 :: 14 :: 15 :: 16 :: 17 :: 18 :: []), [(99, (.bool false))]⟩ :: [])) (W := (fun j => match j with | 0 => w100 | 1 => w109 | _ => w116)) (by kernel_rfl) ha (dr_w e101) (by kernel_rfl) ?_ (reads_of (by kernel_rfl)) (by kernel_rfl) (m := 2) (by kernel_rfl) (fun a ha => ?_)
                · refine ⟨?_, ?_, ?_, ?_, ?_, ?_, ?_, ?_, ?_, ?_, ?_, ?_, ?_, ?_, ?_, ?_, ?_, ?_, ?_, ?_, trivial⟩
                  · intro j _ _; exact ok_do rfl fun a ha => d_move ha rfl
                  · intro j _ _; exact ok_do rfl fun a ha => d_nilp ha rfl e103
                  · intro j _ _; exact ok_do rfl fun a ha => d_fa ha rfl Try.runUnderlying75 rfl rfl Try.sizeOf22 (by decide)
                  · intro j h1 h2; obtain rfl : j = 0 := Nat.le_antisymm h2 h1; exact ok_do rfl fun a ha => d_ld ha rfl Try.isAgg22 (ldP_c e105)
                  · intro j _ _; exact ok_do rfl fun a ha => d_fa ha rfl Try.runUnderlying78 rfl rfl Try.sizeOf35 (by decide)
                  · intro j h1 h2; obtain rfl : j = 0 := Nat.le_antisymm h2 h1; exact ok_do rfl fun a ha => d_ld ha rfl Try.isAgg35 (ldL_c e107)
                  · intro j h1 h2; obtain rfl : j = 0 := Nat.le_antisymm h2 h1; exact ok_do rfl fun a ha => d_call (xs := [_, _]) (vs := [(.pointer v104), (Sl.v v106)]) ha ⟨rfl, rfl, trivial⟩ Try.call26 (sector_Disk_Crash_ok e110)
                  · intro j _ _; exact ok_do rfl fun a ha => d_move ha rfl
                  · intro j _ _; exact ok_do rfl fun a ha => d_nilp ha rfl e103
                  · intro j _ _; exact ok_do rfl fun a ha => d_fa ha rfl Try.runUnderlying75 rfl rfl Try.sizeOf44 (by decide)
                  · intro j h1 h2; have h1 : 0 ≤ j := h1; have h2 : j ≤ 1 := h2; rcases (by omega : j = 0 ∨ j = 1) with rfl | rfl
                    · exact ok_do rfl fun a ha => d_ld ha rfl Try.isAgg44 (ldP_c e124)
                    · exact ok_do rfl fun a ha => d_ld ha rfl Try.isAgg44 (ldP_c e112)
                  · intro j _ _; exact ok_do rfl fun a ha => d_fa ha rfl Try.runUnderlying78 rfl rfl Try.sizeOf35 (by decide)
                  · intro j h1 h2; have h1 : 0 ≤ j := h1; have h2 : j ≤ 1 := h2; rcases (by omega : j = 0 ∨ j = 1) with rfl | rfl
                    · exact ok_do rfl fun a ha => d_ld ha rfl Try.isAgg35 (ldL_c e125)
                    · exact ok_do rfl fun a ha => d_ld ha rfl Try.isAgg35 (ldL_c e114)
                  · intro j h1 h2; obtain rfl : j = 1 := Nat.le_antisymm h2 h1; exact ok_do rfl fun a ha => d_call (xs := [_, _]) (vs := [(.pointer v111), (Sl.v v113)]) ha ⟨rfl, rfl, trivial⟩ Try.call51 (grapevineref09_Disk_Crash_ok e117)
                  · intro j _ _; exact ok_do rfl fun a ha => d_eq ha rfl rfl
                  · intro j _ _; exact ok_do rfl fun a ha => d_move ha rfl
                  · intro j _ _; exact ok_no_g rfl rfl (rfl : List.lookup 96 _ = _) (nn b118 _ rfl)
                  · intro j _ _; exact ok_no_g rfl rfl (rfl : List.lookup 96 _ = _) (nn b118 _ rfl)
                  · intro j _ _; exact ok_do rfl fun a ha => d_pick_f ha rfl b118 rfl
                  · intro j _ _; exact ok_do rfl fun a ha => d_assign ha rfl
                · have ha : Has 106 [(4, (.bool false))] a := ha.sub ⟨rfl, trivial⟩
                  have hS : Has 106 [(4, (.bool false))] _ := ha.sub ⟨rfl, trivial⟩
                  cases h
                  exact hk99 _ hS
          · refine wp_skip ?_
            refine b_n ?_
            refine t_n ?_
            replace ha : Has 106 [(0, (.pointer a0))] _ := ha.sub ⟨rfl, trivial⟩
            refine wp_seq ?_
            refine region_lit ?_
            refine s_do rfl ha (ltd rfl) (d_move ha rfl) (fun a ha => ?_)
            obtain ⟨p126, e127, h⟩ := bs1 h
            refine s_do rfl ha (ltd rfl) (d_nilp ha rfl e127) (fun a ha => ?_)
            refine s_do rfl ha (ltd rfl) (d_fa ha rfl Try.runUnderlying75 rfl rfl Try.sizeOf58 (by decide)) (fun a ha => ?_)
            obtain ⟨v128, e129, h⟩ := bs1 h
            refine s_do rfl ha (ltd rfl) (d_ld ha rfl Try.isAgg58 (ldP_c e129)) (fun a ha => ?_)
            obtain ⟨v130, w131, e132, h⟩ := bs2 h
            refine s_do rfl ha (ltd rfl) (d_call (xs := [_]) (vs := [(.pointer v128)]) ha ⟨rfl, trivial⟩ Try.call39 (mark_Cells_Count_ok e132)) (fun a ha => ?_)
            refine s_do rfl ha (ltd rfl) (d_eq ha rfl rfl) (fun a ha => ?_)
            refine s_do rfl ha (ltd rfl) (d_assign ha rfl) (fun a ha => ?_)
            refine s_nil ?_
            refine t_n ?_
            replace ha : Has 106 [(4, (.bool (v130 == 3)))] _ := ha.sub ⟨rfl, trivial⟩
            refine wp_ret ?_
            have hS := ha
            cases h
            exact ret1 Try.results55 hS rfl ⟨rfl, rfl⟩

noncomputable def grapevinelaw10_pair_same_l1 (a0 : Option Addr) (x1 : Int) (w2 : World) : Option ((Int × World) ⊕ ((World) ⊕ (Bool × World))) :=
  if (decide (x1 ≤ 3)) = true then
  ((a0).bind fun p12 =>
  (ldP w2 (p12.add 1)).bind fun v14 =>
  bind3 (mark_Cells_Get v14 x1 w2) fun v16 v17 w18 =>
  (ldP w18 (p12.add 3)).bind fun v20 =>
  bind3 (grapevineref10_Cells_Get v20 x1 w18) fun v22 v23 w24 =>
  bind2 (if (v16 != v22) = true then
  (some (true, w24))
  else
  (some ((v17 != v23), w24))) fun v26 w27 =>
  if v26 = true then
  (some (.inr (.inr (false, w27))))
  else
  (some (.inl ((IntKind.wrap .i64 (x1 + 1)), w27))))
  else
  (some (.inr (.inl w2)))
noncomputable def grapevinelaw10_pair_same_l2 (a0 : Option Addr) (x32 : Int) (w33 : World) : Option ((Int × World) ⊕ ((World) ⊕ (Bool × World))) :=
  if (decide (x32 < 8)) = true then
  ((a0).bind fun p43 =>
  (ldP w33 (p43.add 0)).bind fun v45 =>
  bind3 (sector_Disk_Sure v45 x32 w33) fun v47 v48 w49 =>
  (ldP w49 (p43.add 2)).bind fun v51 =>
  bind3 (grapevineref09_Disk_Sure v51 x32 w49) fun v53 v54 w55 =>
  bind2 (if (v48 != v54) = true then
  (some (true, w55))
  else
  ((b2s v47 w55).bind fun s62 =>
  (b2s v53 w55).bind fun s64 =>
  some ((!sEq s62 s64), w55))) fun v57 w58 =>
  if v57 = true then
  (some (.inr (.inr (false, w58))))
  else
  (some (.inl ((IntKind.wrap .i64 (x32 + 1)), w58))))
  else
  (some (.inr (.inl w33)))
noncomputable def grapevinelaw10_pair_same (a0 : Option Addr) (w : World) : Option (Bool × World) :=
  (loopF (fun s : Int × World => grapevinelaw10_pair_same_l1 a0 s.1 s.2) ((-1), w)).bind fun r3 => Sum.elim (fun (i : World) => u1 i fun w5 =>
  (loopF (fun s : Int × World => grapevinelaw10_pair_same_l2 a0 s.1 s.2) (0, w5)).bind fun r34 => Sum.elim (fun (i : World) => u1 i fun w36 =>
  (dr w36).bind fun w67 =>
  (a0).bind fun p69 =>
  (ldP w67 (p69.add 0)).bind fun v71 =>
  bind2 (sector_Disk_Down v71 w67) fun v73 w74 =>
  (ldP w74 (p69.add 2)).bind fun v76 =>
  (v76).bind fun p78 =>
  (ldB w74 (p78.add 3)).bind fun v80 =>
  chk (ldP w67 (p69.add 2) = some v76) <|
  chk (ldB w67 (p78.add 3) = some v80) <|
  some ((v73 == v80), w74)) (fun (i : Bool × World) => u2 i fun v37 w38 =>
  some (v37, w38)) r34) (fun (i : Bool × World) => u2 i fun v6 w7 =>
  some (v6, w7)) r3
set_option maxHeartbeats 1000000 in
set_option maxRecDepth 100000 in
theorem grapevinelaw10_pair_same_ok {a0 : Option Addr} {w w' : World} {r0 : Bool} (h : grapevinelaw10_pair_same a0 w = some (r0, w')) : Calls Try.prog 56 #[(.pointer a0)] w fun e w'' => e = .returned (.bool r0) ∧ w'' = w' := by
  refine calls_dec (n := 88) Try.func56 rfl Try.ntmps56 (by simp) (fun a ha => ?_)
  unfold grapevinelaw10_pair_same at h
  refine wp_seq ?_
  refine region_lit ?_
  refine s_do rfl ha (ltd rfl) (d_assign ha rfl) (fun a ha => ?_)
  refine s_nil ?_
  refine t_n ?_
  replace ha : Has 88 [(0, (.pointer a0))] _ := ha.sub ⟨rfl, trivial⟩
  refine wp_seq ?_
  refine wp_seq ?_
  refine region_lit ?_
  refine s_do rfl ha (ltd rfl) (d_assign ha rfl) (fun a ha => ?_)
  refine s_nil ?_
  refine t_n ?_
  replace ha : Has 88 [(0, (.pointer a0)), (3, (.int .i64 (-1)))] _ := ha.sub ⟨rfl, rfl, trivial⟩
  refine wp_block ?_
  obtain ⟨r3, e4, h⟩ := bs1 h
  refine s_loop2 (n := 88) (L1 := fun i => [(0, (.pointer a0))]) (w1 := fun i => i) (L2 := fun i => [(2, (.bool i.1))]) (w2 := fun i => i.2) (e1 := .exit 0) (e2 := .ret) (I := fun (s : Int × World) a w => Has 88 [(3, (.int .i64 s.1)), (0, (.pointer a0))] a ∧ w = s.2) ⟨ha.sub ⟨rfl, rfl, trivial⟩, rfl⟩ e4 (fun i hi a ha => ?_) (fun i hi a ha => ?_) (fun hk8 hk9 => ?_)
  · subst hi
    obtain w5 := i
    dsimp only [Sum.elim_inl, Sum.elim_inr, u1, u2, u3, u4, u5, u6] at h
    have ha : Has 88 [(0, (.pointer a0))] a := ha
    refine b_hit ?_
    refine t_n ?_
    replace ha : Has 88 [(0, (.pointer a0))] _ := ha.sub ⟨rfl, trivial⟩
    refine wp_seq ?_
    refine wp_seq ?_
    refine region_lit ?_
    refine s_do rfl ha (ltd rfl) (d_assign ha rfl) (fun a ha => ?_)
    refine s_nil ?_
    refine t_n ?_
    replace ha : Has 88 [(0, (.pointer a0)), (8, (.int .i64 0))] _ := ha.sub ⟨rfl, rfl, trivial⟩
    refine wp_block ?_
    obtain ⟨r34, e35, h⟩ := bs1 h
    refine s_loop2 (n := 88) (L1 := fun i => [(0, (.pointer a0))]) (w1 := fun i => i) (L2 := fun i => [(2, (.bool i.1))]) (w2 := fun i => i.2) (e1 := .exit 2) (e2 := .ret) (I := fun (s : Int × World) a w => Has 88 [(8, (.int .i64 s.1)), (0, (.pointer a0))] a ∧ w = s.2) ⟨ha.sub ⟨rfl, rfl, trivial⟩, rfl⟩ e35 (fun i hi a ha => ?_) (fun i hi a ha => ?_) (fun hk39 hk40 => ?_)
    · subst hi
      obtain w36 := i
      dsimp only [Sum.elim_inl, Sum.elim_inr, u1, u2, u3, u4, u5, u6] at h
      have ha : Has 88 [(0, (.pointer a0))] a := ha
      refine b_hit ?_
      refine t_n ?_
      replace ha : Has 88 [(0, (.pointer a0))] _ := ha.sub ⟨rfl, trivial⟩
      refine wp_seq ?_
      obtain ⟨w67, e68, h⟩ := bs1 h
      obtain ⟨p69, e70, h⟩ := bs1 h
      obtain ⟨v71, e72, h⟩ := bs1 h
      obtain ⟨v73, w74, e75, h⟩ := bs2 h
      obtain ⟨v76, e77, h⟩ := bs1 h
      obtain ⟨p78, e79, h⟩ := bs1 h
      obtain ⟨v80, e81, h⟩ := bs1 h
      obtain ⟨e82, h⟩ := chk_some h
      obtain ⟨e83, h⟩ := chk_some h
      have ha : Has 88 [(0, (.pointer a0))] a := ha.sub ⟨rfl, trivial⟩
      refine region_draw (n := 88) (ds := (⟨_, (.pointer a0), false, 0, 0, [], [(0, (.pointer a0))]⟩ :: ⟨_, (.pointer (some p69)), false, 0, 0, [0], [(75, (.pointer a0))]⟩ :: ⟨_, (.pointer (some (p69.add 0))), false, 0, 0, [0, 1], [(76, (.pointer (some p69)))]⟩ :: ⟨_, (.pointer v71), false, 0, 0, [0, 1, 2], [(77, (.pointer (some (p69.add 0))))]⟩ :: ⟨_, (.bool v73), true, 0, 0, [0, 1, 2, 3], [(78, (.pointer v71))]⟩ :: ⟨_, (.pointer a0), false, 0, 1, [], [(0, (.pointer a0))]⟩ :: ⟨_, (.pointer (some p69)), false, 0, 1, [5], [(80, (.pointer a0))]⟩ :: ⟨_, (.pointer (some (p69.add 2))), false, 0, 1, [5, 6], [(81, (.pointer (some p69)))]⟩ :: ⟨_, (.pointer v76), false, 0, 1, [5, 6, 7], [(82, (.pointer (some (p69.add 2))))]⟩ :: ⟨_, (.pointer (some p78)), false, 0, 1, [5, 6, 7, 8], [(83, (.pointer v76))]⟩ :: ⟨_, (.pointer (some (p78.add 3))), false, 0, 1, [5, 6, 7, 8, 9], [(84, (.pointer (some p78)))]⟩ :: ⟨_, (.bool v80), false, 0, 1, [5, 6, 7, 8, 9, 10], [(85, (.pointer (some (p78.add 3))))]⟩ :: ⟨_, (.bool (v73 == v80)), false, 1, 1, [0, 1, 2, 3, 4, 5, 6, 7, 8, 9, 10, 11], [(79, (.bool v73)), (86, (.bool v80))]⟩ :: ⟨_, (.bool (v73 == v80)), false, 1, 1, (0 :: 1 :: 2 :: 3 :: 4 :: 5 :: 6 :: 7 :: 8 :: 9 :: 10 :: 11 :: 12 :: []), [(87, (.bool (v73 == v80)))]⟩ :: [])) (W := (fun j => match j with | 0 => w67 | _ => w74)) (by kernel_rfl) ha (dr_w e68) (by kernel_rfl) ?_ (reads_of (by kernel_rfl)) (by kernel_rfl) (m := 1) (by kernel_rfl) (fun a ha => ?_)
      · refine ⟨?_, ?_, ?_, ?_, ?_, ?_, ?_, ?_, ?_, ?_, ?_, ?_, ?_, ?_, trivial⟩
        · intro j _ _; exact ok_do rfl fun a ha => d_move ha rfl
        · intro j _ _; exact ok_do rfl fun a ha => d_nilp ha rfl e70
        · intro j _ _; exact ok_do rfl fun a ha => d_fa ha rfl Try.runUnderlying75 rfl rfl Try.sizeOf22 (by decide)
        · intro j h1 h2; obtain rfl : j = 0 := Nat.le_antisymm h2 h1; exact ok_do rfl fun a ha => d_ld ha rfl Try.isAgg22 (ldP_c e72)
        · intro j h1 h2; obtain rfl : j = 0 := Nat.le_antisymm h2 h1; exact ok_do rfl fun a ha => d_call (xs := [_]) (vs := [(.pointer v71)]) ha ⟨rfl, trivial⟩ Try.call21 (sector_Disk_Down_ok e75)
        · intro j _ _; exact ok_do rfl fun a ha => d_move ha rfl
        · intro j _ _; exact ok_do rfl fun a ha => d_nilp ha rfl e70
        · intro j _ _; exact ok_do rfl fun a ha => d_fa ha rfl Try.runUnderlying75 rfl rfl Try.sizeOf44 (by decide)
        · intro j h1 h2; have h1 : 0 ≤ j := h1; have h2 : j ≤ 1 := h2; rcases (by omega : j = 0 ∨ j = 1) with rfl | rfl
          · exact ok_do rfl fun a ha => d_ld ha rfl Try.isAgg44 (ldP_c e82)
          · exact ok_do rfl fun a ha => d_ld ha rfl Try.isAgg44 (ldP_c e77)
        · intro j _ _; exact ok_do rfl fun a ha => d_nilp ha rfl e79
        · intro j _ _; exact ok_do rfl fun a ha => d_fa ha rfl Try.runUnderlying95 rfl rfl Try.sizeOf4 (by decide)
        · intro j h1 h2; have h1 : 0 ≤ j := h1; have h2 : j ≤ 1 := h2; rcases (by omega : j = 0 ∨ j = 1) with rfl | rfl
          · exact ok_do rfl fun a ha => d_ld ha rfl Try.isAgg4 (ldB_c e83)
          · exact ok_do rfl fun a ha => d_ld ha rfl Try.isAgg4 (ldB_c e81)
        · intro j _ _; exact ok_do rfl fun a ha => d_eqB ha rfl rfl Try.runUnderlying4
        · intro j _ _; exact ok_do rfl fun a ha => d_assign ha rfl
      · have ha : Has 88 [(2, (.bool (v73 == v80)))] a := ha.sub ⟨rfl, trivial⟩
        refine t_n ?_
        replace ha : Has 88 [(2, (.bool (v73 == v80)))] _ := ha.sub ⟨rfl, trivial⟩
        refine wp_ret ?_
        have hS := ha
        cases h
        exact ret1 Try.results56 hS rfl ⟨rfl, rfl⟩
    · subst hi
      obtain ⟨v37, w38⟩ := i
      dsimp only [Sum.elim_inl, Sum.elim_inr, u1, u2, u3, u4, u5, u6] at h
      have ha : Has 88 [(2, (.bool v37))] a := ha
      refine b_r ?_
      refine t_r ?_
      have hS := ha
      cases h
      exact ret1 Try.results56 hS rfl ⟨rfl, rfl⟩
    · clear h
      rintro ⟨x32, w33⟩ a wq o ⟨ha, hwq⟩ h hr41
      obtain rfl : w33 = wq := hwq.symm
      have ha : Has 88 [(8, (.int .i64 x32)), (0, (.pointer a0))] a := ha
      have h : grapevinelaw10_pair_same_l2 a0 x32 w33 = some o := h
      unfold grapevinelaw10_pair_same_l2 at h
      refine wp_seq ?_
      refine wp_seq ?_
      refine region_lit ?_
      refine s_do rfl ha (ltd rfl) (d_move ha rfl) (fun a ha => ?_)
      refine s_do rfl ha (ltd rfl) (d_lt ha rfl rfl) (fun a ha => ?_)
      refine s_nil ?_
      refine t_n ?_
      replace ha : Has 88 [(0, (.pointer a0)), (8, (.int .i64 x32)), (44, (.bool (decide (x32 < 8))))] _ := ha.sub ⟨rfl, rfl, rfl, trivial⟩
      refine s_cond ha rfl h (fun b42 h => ?_) (fun b42 h => ?_)
      · refine wp_skip ?_
        refine t_n ?_
        replace ha : Has 88 [(0, (.pointer a0)), (8, (.int .i64 x32))] _ := ha.sub ⟨rfl, rfl, trivial⟩
        refine wp_seq ?_
        refine wp_block ?_
        refine wp_seq ?_
        refine region_lit ?_
        refine s_do rfl ha (ltd rfl) (d_move ha rfl) (fun a ha => ?_)
        obtain ⟨p43, e44, h⟩ := bs1 h
        refine s_do rfl ha (ltd rfl) (d_nilp ha rfl e44) (fun a ha => ?_)
        refine s_do rfl ha (ltd rfl) (d_fa ha rfl Try.runUnderlying75 rfl rfl Try.sizeOf22 (by decide)) (fun a ha => ?_)
        obtain ⟨v45, e46, h⟩ := bs1 h
        refine s_do rfl ha (ltd rfl) (d_ld ha rfl Try.isAgg22 (ldP_c e46)) (fun a ha => ?_)
        refine s_do rfl ha (ltd rfl) (d_move ha rfl) (fun a ha => ?_)
        obtain ⟨v47, v48, w49, e50, h⟩ := bs3 h
        refine s_do rfl ha (ltd rfl) (d_call (xs := [_, _]) (vs := [(.pointer v45), (.int .i64 x32)]) ha ⟨rfl, rfl, trivial⟩ Try.call24 (sector_Disk_Sure_ok e50)) (fun a ha => ?_)
        refine s_do rfl ha (ltd rfl) (d_move ha rfl) (fun a ha => ?_)
        refine s_do rfl ha (ltd rfl) (d_ext ha rfl rfl) (fun a ha => ?_)
        refine s_do rfl ha (ltd rfl) (d_ext ha rfl rfl) (fun a ha => ?_)
        refine s_do rfl ha (ltd rfl) (d_assign ha rfl) (fun a ha => ?_)
        refine s_do rfl ha (ltd rfl) (d_assign ha rfl) (fun a ha => ?_)
        refine s_nil ?_
        refine t_n ?_
        replace ha : Has 88 [(0, (.pointer a0)), (8, (.int .i64 x32)), (9, (Sl.v v47)), (10, (.int .i64 v48))] _ := ha.sub ⟨rfl, rfl, rfl, rfl, trivial⟩
        refine wp_seq ?_
        refine region_lit ?_
        refine s_do rfl ha (ltd rfl) (d_move ha rfl) (fun a ha => ?_)
        refine s_do rfl ha (ltd rfl) (d_nilp ha rfl e44) (fun a ha => ?_)
        refine s_do rfl ha (ltd rfl) (d_fa ha rfl Try.runUnderlying75 rfl rfl Try.sizeOf44 (by decide)) (fun a ha => ?_)
        obtain ⟨v51, e52, h⟩ := bs1 h
        refine s_do rfl ha (ltd rfl) (d_ld ha rfl Try.isAgg44 (ldP_c e52)) (fun a ha => ?_)
        refine s_do rfl ha (ltd rfl) (d_move ha rfl) (fun a ha => ?_)
        obtain ⟨v53, v54, w55, e56, h⟩ := bs3 h
        refine s_do rfl ha (ltd rfl) (d_call (xs := [_, _]) (vs := [(.pointer v51), (.int .i64 x32)]) ha ⟨rfl, rfl, trivial⟩ Try.call45 (grapevineref09_Disk_Sure_ok e56)) (fun a ha => ?_)
        refine s_do rfl ha (ltd rfl) (d_move ha rfl) (fun a ha => ?_)
        refine s_do rfl ha (ltd rfl) (d_ext ha rfl rfl) (fun a ha => ?_)
        refine s_do rfl ha (ltd rfl) (d_ext ha rfl rfl) (fun a ha => ?_)
        refine s_do rfl ha (ltd rfl) (d_assign ha rfl) (fun a ha => ?_)
        refine s_do rfl ha (ltd rfl) (d_assign ha rfl) (fun a ha => ?_)
        refine s_nil ?_
        refine t_n ?_
        replace ha : Has 88 [(0, (.pointer a0)), (8, (.int .i64 x32)), (9, (Sl.v v47)), (10, (.int .i64 v48)), (11, (Sl.v v53)), (12, (.int .i64 v54))] _ := ha.sub ⟨rfl, rfl, rfl, rfl, rfl, rfl, trivial⟩
        refine wp_seq ?_
        obtain ⟨v57, w58, e59, h⟩ := bs2 h
        refine reg_join (n := 88) (L := [(74, (.bool v57)), (0, (.pointer a0)), (8, (.int .i64 x32))]) (w' := w58) (fun a ha => ?_) (fun hk60 => ?_)
        · refine t_n ?_
          replace ha : Has 88 [(0, (.pointer a0)), (8, (.int .i64 x32)), (74, (.bool v57))] _ := ha.sub ⟨rfl, rfl, rfl, trivial⟩
          refine s_cond ha rfl h (fun b66 h => ?_) (fun b66 h => ?_)
          · refine wp_seq ?_
            refine region_lit ?_
            refine s_do rfl ha (ltd rfl) (d_assign ha rfl) (fun a ha => ?_)
            refine s_nil ?_
            refine t_n ?_
            replace ha : Has 88 [(2, (.bool false))] _ := ha.sub ⟨rfl, trivial⟩
            refine wp_ret ?_
            refine b_r ?_
            refine t_r ?_
            have hS : Has 88 [(2, (.bool false))] _ := ha.sub ⟨rfl, trivial⟩
            cases h
            cases hr41 _ rfl
            refine lp_r ?_
            exact hk40 _ rfl _ hS
          · refine wp_skip ?_
            refine b_n ?_
            refine t_n ?_
            replace ha : Has 88 [(0, (.pointer a0)), (8, (.int .i64 x32))] _ := ha.sub ⟨rfl, rfl, trivial⟩
            refine region_lit ?_
            refine s_do rfl ha (ltd rfl) (d_move ha rfl) (fun a ha => ?_)
            refine s_do rfl ha (ltd rfl) (d_add ha rfl rfl) (fun a ha => ?_)
            refine s_do rfl ha (ltd rfl) (d_assign ha rfl) (fun a ha => ?_)
            refine s_nil ?_
            have hS : Has 88 [(8, (.int .i64 (IntKind.wrap .i64 (x32 + 1)))), (0, (.pointer a0))] _ := ha.sub ⟨rfl, rfl, trivial⟩
            cases h
            exact lp_next ⟨hS, rfl⟩
        · clear h
          have h := e59
          refine region_lit ?_
          refine s_do rfl ha (ltd rfl) (d_move ha rfl) (fun a ha => ?_)
          refine s_do rfl ha (ltd rfl) (d_move ha rfl) (fun a ha => ?_)
          refine s_do rfl ha (ltd rfl) (d_ne ha rfl rfl) (fun a ha => ?_)
          refine s_do rfl ha (ltd rfl) (d_move ha rfl) (fun a ha => ?_)
          refine ite_s h (fun b61 h => ?_) (fun b61 h => ?_)
          · refine s_no_g rfl rfl ha (rfl : List.lookup 68 _ = _) (tn b61) (ltd rfl) (fun a ha => ?_)
            refine s_no_g rfl rfl ha (rfl : List.lookup 68 _ = _) (tn b61) (ltd rfl) (fun a ha => ?_)
            refine s_no_g rfl rfl ha (rfl : List.lookup 68 _ = _) (tn b61) (ltd rfl) (fun a ha => ?_)
            refine s_no_g rfl rfl ha (rfl : List.lookup 68 _ = _) (tn b61) (ltd rfl) (fun a ha => ?_)
            refine s_no_g rfl rfl ha (rfl : List.lookup 68 _ = _) (tn b61) (ltd rfl) (fun a ha => ?_)
            refine s_do rfl ha (ltd rfl) (d_pick_t ha rfl b61 rfl) (fun a ha => ?_)
            refine s_nil ?_
            have hS : Has 88 [(74, (.bool true)), (0, (.pointer a0)), (8, (.int .i64 x32))] _ := ha.sub ⟨rfl, rfl, rfl, trivial⟩
            cases h
            exact hk60 _ hS
          · refine s_do_g2 rfl rfl ha (rfl : List.lookup 68 _ = _) (nt b61) (ltd rfl) (d_move ha rfl) (fun a ha => ?_)
            obtain ⟨s62, e63, h⟩ := bs1 h
            refine s_do_g2 rfl rfl ha (rfl : List.lookup 68 _ = _) (nt b61) (ltd rfl) (d_b2s ha rfl Try.runUnderlying29 Try.runUnderlying9 Try.runUnderlying5 e63) (fun a ha => ?_)
            refine s_do_g2 rfl rfl ha (rfl : List.lookup 68 _ = _) (nt b61) (ltd rfl) (d_move ha rfl) (fun a ha => ?_)
            obtain ⟨s64, e65, h⟩ := bs1 h
            refine s_do_g2 rfl rfl ha (rfl : List.lookup 68 _ = _) (nt b61) (ltd rfl) (d_b2s ha rfl Try.runUnderlying29 Try.runUnderlying9 Try.runUnderlying5 e65) (fun a ha => ?_)
            refine s_do_g2 rfl rfl ha (rfl : List.lookup 68 _ = _) (nt b61) (ltd rfl) (d_neT ha rfl rfl) (fun a ha => ?_)
            refine s_do rfl ha (ltd rfl) (d_pick_f ha rfl b61 rfl) (fun a ha => ?_)
            refine s_nil ?_
            have hS : Has 88 [(74, (.bool (!sEq s62 s64))), (0, (.pointer a0)), (8, (.int .i64 x32))] _ := ha.sub ⟨rfl, rfl, rfl, trivial⟩
            cases h
            exact hk60 _ hS
      · refine wp_exit ?_
        refine t_x ?_
        have hS : Has 88 [(0, (.pointer a0))] _ := ha.sub ⟨rfl, trivial⟩
        cases h
        cases hr41 _ rfl
        refine lp_x ?_
        exact hk39 _ rfl _ hS
  · subst hi
    obtain ⟨v6, w7⟩ := i
    dsimp only [Sum.elim_inl, Sum.elim_inr, u1, u2, u3, u4, u5, u6] at h
    have ha : Has 88 [(2, (.bool v6))] a := ha
    refine b_r ?_
    refine t_r ?_
    have hS := ha
    cases h
    exact ret1 Try.results56 hS rfl ⟨rfl, rfl⟩
  · clear h
    rintro ⟨x1, w2⟩ a wq o ⟨ha, hwq⟩ h hr10
    obtain rfl : w2 = wq := hwq.symm
    have ha : Has 88 [(3, (.int .i64 x1)), (0, (.pointer a0))] a := ha
    have h : grapevinelaw10_pair_same_l1 a0 x1 w2 = some o := h
    unfold grapevinelaw10_pair_same_l1 at h
    refine wp_seq ?_
    refine wp_seq ?_
    refine region_lit ?_
    refine s_do rfl ha (ltd rfl) (d_move ha rfl) (fun a ha => ?_)
    refine s_do rfl ha (ltd rfl) (d_le ha rfl rfl) (fun a ha => ?_)
    refine s_nil ?_
    refine t_n ?_
    replace ha : Has 88 [(0, (.pointer a0)), (3, (.int .i64 x1)), (14, (.bool (decide (x1 ≤ 3))))] _ := ha.sub ⟨rfl, rfl, rfl, trivial⟩
    refine s_cond ha rfl h (fun b11 h => ?_) (fun b11 h => ?_)
    · refine wp_skip ?_
      refine t_n ?_
      replace ha : Has 88 [(0, (.pointer a0)), (3, (.int .i64 x1))] _ := ha.sub ⟨rfl, rfl, trivial⟩
      refine wp_seq ?_
      refine wp_block ?_
      refine wp_seq ?_
      refine region_lit ?_
      refine s_do rfl ha (ltd rfl) (d_move ha rfl) (fun a ha => ?_)
      obtain ⟨p12, e13, h⟩ := bs1 h
      refine s_do rfl ha (ltd rfl) (d_nilp ha rfl e13) (fun a ha => ?_)
      refine s_do rfl ha (ltd rfl) (d_fa ha rfl Try.runUnderlying75 rfl rfl Try.sizeOf58 (by decide)) (fun a ha => ?_)
      obtain ⟨v14, e15, h⟩ := bs1 h
      refine s_do rfl ha (ltd rfl) (d_ld ha rfl Try.isAgg58 (ldP_c e15)) (fun a ha => ?_)
      refine s_do rfl ha (ltd rfl) (d_move ha rfl) (fun a ha => ?_)
      obtain ⟨v16, v17, w18, e19, h⟩ := bs3 h
      refine s_do rfl ha (ltd rfl) (d_call (xs := [_, _]) (vs := [(.pointer v14), (.int .i64 x1)]) ha ⟨rfl, rfl, trivial⟩ Try.call35 (mark_Cells_Get_ok e19)) (fun a ha => ?_)
      refine s_do rfl ha (ltd rfl) (d_move ha rfl) (fun a ha => ?_)
      refine s_do rfl ha (ltd rfl) (d_ext ha rfl rfl) (fun a ha => ?_)
      refine s_do rfl ha (ltd rfl) (d_ext ha rfl rfl) (fun a ha => ?_)
      refine s_do rfl ha (ltd rfl) (d_assign ha rfl) (fun a ha => ?_)
      refine s_do rfl ha (ltd rfl) (d_assign ha rfl) (fun a ha => ?_)
      refine s_nil ?_
      refine t_n ?_
      replace ha : Has 88 [(0, (.pointer a0)), (3, (.int .i64 x1)), (4, (.int .i64 v16)), (5, (.bool v17))] _ := ha.sub ⟨rfl, rfl, rfl, rfl, trivial⟩
      refine wp_seq ?_
      refine region_lit ?_
      refine s_do rfl ha (ltd rfl) (d_move ha rfl) (fun a ha => ?_)
      refine s_do rfl ha (ltd rfl) (d_nilp ha rfl e13) (fun a ha => ?_)
      refine s_do rfl ha (ltd rfl) (d_fa ha rfl Try.runUnderlying75 rfl rfl Try.sizeOf73 (by decide)) (fun a ha => ?_)
      obtain ⟨v20, e21, h⟩ := bs1 h
      refine s_do rfl ha (ltd rfl) (d_ld ha rfl Try.isAgg73 (ldP_c e21)) (fun a ha => ?_)
      refine s_do rfl ha (ltd rfl) (d_move ha rfl) (fun a ha => ?_)
      obtain ⟨v22, v23, w24, e25, h⟩ := bs3 h
      refine s_do rfl ha (ltd rfl) (d_call (xs := [_, _]) (vs := [(.pointer v20), (.int .i64 x1)]) ha ⟨rfl, rfl, trivial⟩ Try.call63 (grapevineref10_Cells_Get_ok e25)) (fun a ha => ?_)
      refine s_do rfl ha (ltd rfl) (d_move ha rfl) (fun a ha => ?_)
      refine s_do rfl ha (ltd rfl) (d_ext ha rfl rfl) (fun a ha => ?_)
      refine s_do rfl ha (ltd rfl) (d_ext ha rfl rfl) (fun a ha => ?_)
      refine s_do rfl ha (ltd rfl) (d_assign ha rfl) (fun a ha => ?_)
      refine s_do rfl ha (ltd rfl) (d_assign ha rfl) (fun a ha => ?_)
      refine s_nil ?_
      refine t_n ?_
      replace ha : Has 88 [(0, (.pointer a0)), (3, (.int .i64 x1)), (4, (.int .i64 v16)), (5, (.bool v17)), (6, (.int .i64 v22)), (7, (.bool v23))] _ := ha.sub ⟨rfl, rfl, rfl, rfl, rfl, rfl, trivial⟩
      refine wp_seq ?_
      obtain ⟨v26, w27, e28, h⟩ := bs2 h
      refine reg_join (n := 88) (L := [(42, (.bool v26)), (0, (.pointer a0)), (3, (.int .i64 x1))]) (w' := w27) (fun a ha => ?_) (fun hk29 => ?_)
      · refine t_n ?_
        replace ha : Has 88 [(0, (.pointer a0)), (3, (.int .i64 x1)), (42, (.bool v26))] _ := ha.sub ⟨rfl, rfl, rfl, trivial⟩
        refine s_cond ha rfl h (fun b31 h => ?_) (fun b31 h => ?_)
        · refine wp_seq ?_
          refine region_lit ?_
          refine s_do rfl ha (ltd rfl) (d_assign ha rfl) (fun a ha => ?_)
          refine s_nil ?_
          refine t_n ?_
          replace ha : Has 88 [(2, (.bool false))] _ := ha.sub ⟨rfl, trivial⟩
          refine wp_ret ?_
          refine b_r ?_
          refine t_r ?_
          have hS : Has 88 [(2, (.bool false))] _ := ha.sub ⟨rfl, trivial⟩
          cases h
          cases hr10 _ rfl
          refine lp_r ?_
          exact hk9 _ rfl _ hS
        · refine wp_skip ?_
          refine b_n ?_
          refine t_n ?_
          replace ha : Has 88 [(0, (.pointer a0)), (3, (.int .i64 x1))] _ := ha.sub ⟨rfl, rfl, trivial⟩
          refine region_lit ?_
          refine s_do rfl ha (ltd rfl) (d_move ha rfl) (fun a ha => ?_)
          refine s_do rfl ha (ltd rfl) (d_add ha rfl rfl) (fun a ha => ?_)
          refine s_do rfl ha (ltd rfl) (d_assign ha rfl) (fun a ha => ?_)
          refine s_nil ?_
          have hS : Has 88 [(3, (.int .i64 (IntKind.wrap .i64 (x1 + 1)))), (0, (.pointer a0))] _ := ha.sub ⟨rfl, rfl, trivial⟩
          cases h
          exact lp_next ⟨hS, rfl⟩
      · clear h
        have h := e28
        refine region_lit ?_
        refine s_do rfl ha (ltd rfl) (d_move ha rfl) (fun a ha => ?_)
        refine s_do rfl ha (ltd rfl) (d_move ha rfl) (fun a ha => ?_)
        refine s_do rfl ha (ltd rfl) (d_ne ha rfl rfl) (fun a ha => ?_)
        refine s_do rfl ha (ltd rfl) (d_move ha rfl) (fun a ha => ?_)
        refine ite_s h (fun b30 h => ?_) (fun b30 h => ?_)
        · refine s_no_g rfl rfl ha (rfl : List.lookup 38 _ = _) (tn b30) (ltd rfl) (fun a ha => ?_)
          refine s_no_g rfl rfl ha (rfl : List.lookup 38 _ = _) (tn b30) (ltd rfl) (fun a ha => ?_)
          refine s_no_g rfl rfl ha (rfl : List.lookup 38 _ = _) (tn b30) (ltd rfl) (fun a ha => ?_)
          refine s_do rfl ha (ltd rfl) (d_pick_t ha rfl b30 rfl) (fun a ha => ?_)
          refine s_nil ?_
          have hS : Has 88 [(42, (.bool true)), (0, (.pointer a0)), (3, (.int .i64 x1))] _ := ha.sub ⟨rfl, rfl, rfl, trivial⟩
          cases h
          exact hk29 _ hS
        · refine s_do_g2 rfl rfl ha (rfl : List.lookup 38 _ = _) (nt b30) (ltd rfl) (d_move ha rfl) (fun a ha => ?_)
          refine s_do_g2 rfl rfl ha (rfl : List.lookup 38 _ = _) (nt b30) (ltd rfl) (d_move ha rfl) (fun a ha => ?_)
          refine s_do_g2 rfl rfl ha (rfl : List.lookup 38 _ = _) (nt b30) (ltd rfl) (d_neB ha rfl rfl Try.runUnderlying4) (fun a ha => ?_)
          refine s_do rfl ha (ltd rfl) (d_pick_f ha rfl b30 rfl) (fun a ha => ?_)
          refine s_nil ?_
          have hS : Has 88 [(42, (.bool (v17 != v23))), (0, (.pointer a0)), (3, (.int .i64 x1))] _ := ha.sub ⟨rfl, rfl, rfl, trivial⟩
          cases h
          exact hk29 _ hS
    · refine wp_exit ?_
      refine t_x ?_
      have hS : Has 88 [(0, (.pointer a0))] _ := ha.sub ⟨rfl, trivial⟩
      cases h
      cases hr10 _ rfl
      refine lp_x ?_
      exact hk8 _ rfl _ hS

noncomputable def grapevinelaw10_play_l1 (a0 : Sl) (v1 : Option Addr) (x5 : Bool) (x6 : Int) (w7 : World) : Option ((Bool × Int × World) ⊕ (Bool × World)) :=
  bind2 (if x5 = true then
  (if (decide (x6 < (a0.n : Int))) = true then
  (some ((decide (x6 < 200)), w7))
  else
  (some (false, w7)))
  else
  (some (false, w7))) fun v14 w15 =>
  if v14 = true then
  (bind2 ((ix a0 x6 5).bind fun p25 =>
  (ldA 5 w15 p25 0).bind fun c27 =>
  bind2 (grapevinelaw10_pair_do v1 c27 w15) fun v29 w30 =>
  if v29 = true then
  (bind2 (grapevinelaw10_pair_same v1 w30) fun v33 w34 =>
  some (v33, w34))
  else
  (some (false, w30))) fun v21 w22 =>
  some (.inl (v21, (IntKind.wrap .i64 (x6 + 1)), w22)))
  else
  (some (.inr (x5, w15)))
noncomputable def grapevinelaw10_play (a0 : Sl) (w : World) : Option ((Option Addr) × Bool × World) :=
  bind3 (grapevinelaw10_start w) fun v1 v2 w3 =>
  bind2 (loopF (fun s : Bool × Int × World => grapevinelaw10_play_l1 a0 v1 s.1 s.2.1 s.2.2) (v2, 0, w3)) fun v10 w11 =>
  some (v1, v10, w11)
set_option maxHeartbeats 1000000 in
set_option maxRecDepth 100000 in
theorem grapevinelaw10_play_ok {a0 : Sl} {w w' : World} {r0 : Option Addr} {r1 : Bool} (h : grapevinelaw10_play a0 w = some (r0, r1, w')) : Calls Try.prog 40 #[(Sl.v a0)] w fun e w'' => e = .returned (.tuple #[(.pointer r0), (.bool r1)]) ∧ w'' = w' := by
  refine calls_dec (n := 36) Try.func40 rfl Try.ntmps40 (by simp) (fun a ha => ?_)
  unfold grapevinelaw10_play at h
  refine wp_seq ?_
  refine region_lit ?_
  refine s_do rfl ha (ltd rfl) (d_assign ha rfl) (fun a ha => ?_)
  refine s_do rfl ha (ltd rfl) (d_assign ha rfl) (fun a ha => ?_)
  refine s_nil ?_
  refine t_n ?_
  replace ha : Has 36 [(0, (Sl.v a0))] _ := ha.sub ⟨rfl, trivial⟩
  refine wp_seq ?_
  refine region_lit ?_
  obtain ⟨v1, v2, w3, e4, h⟩ := bs3 h
  refine s_do rfl ha (ltd rfl) (d_call (xs := []) (vs := []) ha trivial Try.call54 (grapevinelaw10_start_ok e4)) (fun a ha => ?_)
  refine s_do rfl ha (ltd rfl) (d_move ha rfl) (fun a ha => ?_)
  refine s_do rfl ha (ltd rfl) (d_ext ha rfl rfl) (fun a ha => ?_)
  refine s_do rfl ha (ltd rfl) (d_ext ha rfl rfl) (fun a ha => ?_)
  refine s_do rfl ha (ltd rfl) (d_assign ha rfl) (fun a ha => ?_)
  refine s_do rfl ha (ltd rfl) (d_assign ha rfl) (fun a ha => ?_)
  refine s_nil ?_
  refine t_n ?_
  replace ha : Has 36 [(0, (Sl.v a0)), (4, (.pointer v1)), (5, (.bool v2))] _ := ha.sub ⟨rfl, rfl, rfl, trivial⟩
  refine wp_seq ?_
  refine wp_seq ?_
  refine region_lit ?_
  refine s_do rfl ha (ltd rfl) (d_assign ha rfl) (fun a ha => ?_)
  refine s_nil ?_
  refine t_n ?_
  replace ha : Has 36 [(0, (Sl.v a0)), (4, (.pointer v1)), (5, (.bool v2)), (6, (.int .i64 0))] _ := ha.sub ⟨rfl, rfl, rfl, rfl, trivial⟩
  refine wp_block ?_
  obtain ⟨v10, w11, e9, h⟩ := bs2 h
  refine s_loop1 (n := 36) (L := [(5, (.bool v10)), (4, (.pointer v1))]) (w' := w11) (e := .exit 0) (I := fun (s : Bool × Int × World) a w => Has 36 [(5, (.bool s.1)), (6, (.int .i64 s.2.1)), (0, (Sl.v a0)), (4, (.pointer v1))] a ∧ w = s.2.2) ⟨ha.sub ⟨rfl, rfl, rfl, rfl, trivial⟩, rfl⟩ e9 (fun a ha => ?_) (fun hk12 => ?_)
  · refine b_hit ?_
    refine t_n ?_
    replace ha : Has 36 [(4, (.pointer v1)), (5, (.bool v10))] _ := ha.sub ⟨rfl, rfl, trivial⟩
    refine wp_seq ?_
    refine region_lit ?_
    refine s_do rfl ha (ltd rfl) (d_move ha rfl) (fun a ha => ?_)
    refine s_do rfl ha (ltd rfl) (d_move ha rfl) (fun a ha => ?_)
    refine s_do rfl ha (ltd rfl) (d_assign ha rfl) (fun a ha => ?_)
    refine s_do rfl ha (ltd rfl) (d_assign ha rfl) (fun a ha => ?_)
    refine s_nil ?_
    refine t_n ?_
    replace ha : Has 36 [(2, (.pointer v1)), (3, (.bool v10))] _ := ha.sub ⟨rfl, rfl, trivial⟩
    refine wp_ret ?_
    have hS := ha
    cases h
    exact ret2 Try.results40 hS rfl rfl ⟨rfl, rfl⟩
  · clear h
    rintro ⟨x5, x6, w7⟩ a wq o ⟨ha, hwq⟩ h hr13
    obtain rfl : w7 = wq := hwq.symm
    have ha : Has 36 [(5, (.bool x5)), (6, (.int .i64 x6)), (0, (Sl.v a0)), (4, (.pointer v1))] a := ha
    have h : grapevinelaw10_play_l1 a0 v1 x5 x6 w7 = some o := h
    unfold grapevinelaw10_play_l1 at h
    refine wp_seq ?_
    refine wp_seq ?_
    obtain ⟨v14, w15, e16, h⟩ := bs2 h
    refine reg_join (n := 36) (L := [(21, (.bool v14)), (0, (Sl.v a0)), (4, (.pointer v1)), (5, (.bool x5)), (6, (.int .i64 x6))]) (w' := w15) (fun a ha => ?_) (fun hk17 => ?_)
    · refine t_n ?_
      replace ha : Has 36 [(0, (Sl.v a0)), (4, (.pointer v1)), (5, (.bool x5)), (6, (.int .i64 x6)), (21, (.bool v14))] _ := ha.sub ⟨rfl, rfl, rfl, rfl, rfl, trivial⟩
      refine s_cond ha rfl h (fun b20 h => ?_) (fun b20 h => ?_)
      · refine wp_skip ?_
        refine t_n ?_
        replace ha : Has 36 [(0, (Sl.v a0)), (4, (.pointer v1)), (6, (.int .i64 x6))] _ := ha.sub ⟨rfl, rfl, rfl, trivial⟩
        refine wp_seq ?_
        refine wp_block ?_
        obtain ⟨v21, w22, e23, h⟩ := bs2 h
        refine reg_join (n := 36) (L := [(5, (.bool v21)), (0, (Sl.v a0)), (4, (.pointer v1)), (6, (.int .i64 x6))]) (w' := w22) (fun a ha => ?_) (fun hk24 => ?_)
        · refine b_n ?_
          refine t_n ?_
          replace ha : Has 36 [(0, (Sl.v a0)), (4, (.pointer v1)), (5, (.bool v21)), (6, (.int .i64 x6))] _ := ha.sub ⟨rfl, rfl, rfl, rfl, trivial⟩
          refine region_lit ?_
          refine s_do rfl ha (ltd rfl) (d_move ha rfl) (fun a ha => ?_)
          refine s_do rfl ha (ltd rfl) (d_add ha rfl rfl) (fun a ha => ?_)
          refine s_do rfl ha (ltd rfl) (d_assign ha rfl) (fun a ha => ?_)
          refine s_nil ?_
          have hS : Has 36 [(5, (.bool v21)), (6, (.int .i64 (IntKind.wrap .i64 (x6 + 1)))), (0, (Sl.v a0)), (4, (.pointer v1))] _ := ha.sub ⟨rfl, rfl, rfl, rfl, trivial⟩
          cases h
          exact lp_next ⟨hS, rfl⟩
        · clear h
          have h := e23
          refine region_lit ?_
          refine s_do rfl ha (ltd rfl) (d_move ha rfl) (fun a ha => ?_)
          refine s_do rfl ha (ltd rfl) (d_move ha rfl) (fun a ha => ?_)
          refine s_do rfl ha (ltd rfl) (d_move ha rfl) (fun a ha => ?_)
          obtain ⟨p25, e26, h⟩ := bs1 h
          refine s_do rfl ha (ltd rfl) (d_ix ha rfl rfl Try.runUnderlying66 Try.sizeOf78 e26) (fun a ha => ?_)
          obtain ⟨c27, e28, h⟩ := bs1 h
          refine s_do rfl ha (ltd rfl) (d_ldA ha rfl Try.isAgg78 Try.sizeOf78 e28) (fun a ha => ?_)
          obtain ⟨v29, w30, e31, h⟩ := bs2 h
          refine s_do rfl ha (ltd rfl) (d_call (xs := [_, _]) (vs := [(.pointer v1), (.agg (List.toArray c27))]) ha ⟨rfl, rfl, trivial⟩ Try.call55 (grapevinelaw10_pair_do_ok e31)) (fun a ha => ?_)
          refine s_do rfl ha (ltd rfl) (d_move ha rfl) (fun a ha => ?_)
          refine ite_s h (fun b32 h => ?_) (fun b32 h => ?_)
          · refine s_do_g2 rfl rfl ha (rfl : List.lookup 30 _ = _) b32 (ltd rfl) (d_move ha rfl) (fun a ha => ?_)
            obtain ⟨v33, w34, e35, h⟩ := bs2 h
            refine s_do_g2 rfl rfl ha (rfl : List.lookup 30 _ = _) b32 (ltd rfl) (d_call (xs := [_]) (vs := [(.pointer v1)]) ha ⟨rfl, trivial⟩ Try.call56 (grapevinelaw10_pair_same_ok e35)) (fun a ha => ?_)
            refine s_do rfl ha (ltd rfl) (d_pick_t ha rfl b32 rfl) (fun a ha => ?_)
            refine s_do rfl ha (ltd rfl) (d_assign ha rfl) (fun a ha => ?_)
            refine s_nil ?_
            have hS : Has 36 [(5, (.bool v33)), (0, (Sl.v a0)), (4, (.pointer v1)), (6, (.int .i64 x6))] _ := ha.sub ⟨rfl, rfl, rfl, rfl, trivial⟩
            cases h
            exact hk24 _ hS
          · refine s_no_g rfl rfl ha (rfl : List.lookup 30 _ = _) (nn b32 _ rfl) (ltd rfl) (fun a ha => ?_)
            refine s_no_g rfl rfl ha (rfl : List.lookup 30 _ = _) (nn b32 _ rfl) (ltd rfl) (fun a ha => ?_)
            refine s_do rfl ha (ltd rfl) (d_pick_f ha rfl b32 rfl) (fun a ha => ?_)
            refine s_do rfl ha (ltd rfl) (d_assign ha rfl) (fun a ha => ?_)
            refine s_nil ?_
            have hS : Has 36 [(5, (.bool false)), (0, (Sl.v a0)), (4, (.pointer v1)), (6, (.int .i64 x6))] _ := ha.sub ⟨rfl, rfl, rfl, rfl, trivial⟩
            cases h
            exact hk24 _ hS
      · refine wp_exit ?_
        refine t_x ?_
        have hS : Has 36 [(5, (.bool x5)), (4, (.pointer v1))] _ := ha.sub ⟨rfl, rfl, trivial⟩
        cases h
        cases hr13 _ rfl
        refine lp_x ?_
        exact hk12 _ hS
    · clear h
      have h := e16
      refine region_lit ?_
      refine s_do rfl ha (ltd rfl) (d_move ha rfl) (fun a ha => ?_)
      refine s_do rfl ha (ltd rfl) (d_move ha rfl) (fun a ha => ?_)
      refine ite_s h (fun b18 h => ?_) (fun b18 h => ?_)
      · refine s_do_g2 rfl rfl ha (rfl : List.lookup 12 _ = _) b18 (ltd rfl) (d_move ha rfl) (fun a ha => ?_)
        refine s_do_g2 rfl rfl ha (rfl : List.lookup 12 _ = _) b18 (ltd rfl) (d_move ha rfl) (fun a ha => ?_)
        refine s_do_g2 rfl rfl ha (rfl : List.lookup 12 _ = _) b18 (ltd rfl) (d_lenS ha rfl Try.runUnderlying66) (fun a ha => ?_)
        refine s_do_g2 rfl rfl ha (rfl : List.lookup 12 _ = _) b18 (ltd rfl) (d_lt ha rfl rfl) (fun a ha => ?_)
        refine s_do rfl ha (ltd rfl) (d_pick_t ha rfl b18 rfl) (fun a ha => ?_)
        refine s_do rfl ha (ltd rfl) (d_move ha rfl) (fun a ha => ?_)
        refine ite_s h (fun b19 h => ?_) (fun b19 h => ?_)
        · refine s_do_g2 rfl rfl ha (rfl : List.lookup 18 _ = _) b19 (ltd rfl) (d_move ha rfl) (fun a ha => ?_)
          refine s_do_g2 rfl rfl ha (rfl : List.lookup 18 _ = _) b19 (ltd rfl) (d_lt ha rfl rfl) (fun a ha => ?_)
          refine s_do rfl ha (ltd rfl) (d_pick_t ha rfl b19 rfl) (fun a ha => ?_)
          refine s_nil ?_
          have hS : Has 36 [(21, (.bool (decide (x6 < 200)))), (0, (Sl.v a0)), (4, (.pointer v1)), (5, (.bool x5)), (6, (.int .i64 x6))] _ := ha.sub ⟨rfl, rfl, rfl, rfl, rfl, trivial⟩
          cases h
          exact hk17 _ hS
        · refine s_no_g rfl rfl ha (rfl : List.lookup 18 _ = _) (nn b19 _ rfl) (ltd rfl) (fun a ha => ?_)
          refine s_no_g rfl rfl ha (rfl : List.lookup 18 _ = _) (nn b19 _ rfl) (ltd rfl) (fun a ha => ?_)
          refine s_do rfl ha (ltd rfl) (d_pick_f ha rfl b19 rfl) (fun a ha => ?_)
          refine s_nil ?_
          have hS : Has 36 [(21, (.bool false)), (0, (Sl.v a0)), (4, (.pointer v1)), (5, (.bool x5)), (6, (.int .i64 x6))] _ := ha.sub ⟨rfl, rfl, rfl, rfl, rfl, trivial⟩
          cases h
          exact hk17 _ hS
      · refine s_no_g rfl rfl ha (rfl : List.lookup 12 _ = _) (nn b18 _ rfl) (ltd rfl) (fun a ha => ?_)
        refine s_no_g rfl rfl ha (rfl : List.lookup 12 _ = _) (nn b18 _ rfl) (ltd rfl) (fun a ha => ?_)
        refine s_no_g rfl rfl ha (rfl : List.lookup 12 _ = _) (nn b18 _ rfl) (ltd rfl) (fun a ha => ?_)
        refine s_no_g rfl rfl ha (rfl : List.lookup 12 _ = _) (nn b18 _ rfl) (ltd rfl) (fun a ha => ?_)
        refine s_do rfl ha (ltd rfl) (d_pick_f ha rfl b18 rfl) (fun a ha => ?_)
        refine s_do rfl ha (ltd rfl) (d_move ha rfl) (fun a ha => ?_)
        refine s_no_g rfl rfl ha (rfl : List.lookup 18 _ = _) (nn (by decide) _ rfl) (ltd rfl) (fun a ha => ?_)
        refine s_no_g rfl rfl ha (rfl : List.lookup 18 _ = _) (nn (by decide) _ rfl) (ltd rfl) (fun a ha => ?_)
        refine s_do rfl ha (ltd rfl) (d_pick_f ha rfl (by decide) rfl) (fun a ha => ?_)
        refine s_nil ?_
        have hS : Has 36 [(21, (.bool false)), (0, (Sl.v a0)), (4, (.pointer v1)), (5, (.bool x5)), (6, (.int .i64 x6))] _ := ha.sub ⟨rfl, rfl, rfl, rfl, rfl, trivial⟩
        cases h
        exact hk17 _ hS

noncomputable def grapevinelaw10_MarkPlays (a0 : Sl) (w : World) : Option (Bool × World) :=
  bind3 (grapevinelaw10_play a0 w) fun v1 v2 w3 =>
  bind2 (bind2 (grapevinelaw10_live w3) fun v9 w10 =>
  if v9 = true then
  (some (v2, w10))
  else
  (some (false, w10))) fun v5 w6 =>
  some (v5, w6)
set_option maxHeartbeats 1000000 in
set_option maxRecDepth 100000 in
theorem grapevinelaw10_MarkPlays_ok {a0 : Sl} {w w' : World} {r0 : Bool} (h : grapevinelaw10_MarkPlays a0 w = some (r0, w')) : Calls Try.prog 13 #[(Sl.v a0)] w fun e w'' => e = .returned (.bool r0) ∧ w'' = w' := by
  refine calls_dec (n := 14) Try.func13 rfl Try.ntmps13 (by simp) (fun a ha => ?_)
  unfold grapevinelaw10_MarkPlays at h
  refine wp_seq ?_
  refine region_lit ?_
  refine s_do rfl ha (ltd rfl) (d_assign ha rfl) (fun a ha => ?_)
  refine s_nil ?_
  refine t_n ?_
  replace ha : Has 14 [(0, (Sl.v a0))] _ := ha.sub ⟨rfl, trivial⟩
  refine wp_seq ?_
  refine region_lit ?_
  refine s_do rfl ha (ltd rfl) (d_move ha rfl) (fun a ha => ?_)
  obtain ⟨v1, v2, w3, e4, h⟩ := bs3 h
  refine s_do rfl ha (ltd rfl) (d_call (xs := [_]) (vs := [(Sl.v a0)]) ha ⟨rfl, trivial⟩ Try.call40 (grapevinelaw10_play_ok e4)) (fun a ha => ?_)
  refine s_do rfl ha (ltd rfl) (d_move ha rfl) (fun a ha => ?_)
  refine s_do rfl ha (ltd rfl) (d_ext ha rfl rfl) (fun a ha => ?_)
  refine s_do rfl ha (ltd rfl) (d_ext ha rfl rfl) (fun a ha => ?_)
  refine s_do rfl ha (ltd rfl) (d_assign ha rfl) (fun a ha => ?_)
  refine s_do rfl ha (ltd rfl) (d_assign ha rfl) (fun a ha => ?_)
  refine s_nil ?_
  refine t_n ?_
  replace ha : Has 14 [(4, (.bool v2))] _ := ha.sub ⟨rfl, trivial⟩
  refine wp_seq ?_
  obtain ⟨v5, w6, e7, h⟩ := bs2 h
  refine reg_join (n := 14) (L := [(2, (.bool v5))]) (w' := w6) (fun a ha => ?_) (fun hk8 => ?_)
  · refine t_n ?_
    replace ha : Has 14 [(2, (.bool v5))] _ := ha.sub ⟨rfl, trivial⟩
    refine wp_ret ?_
    have hS := ha
    cases h
    exact ret1 Try.results13 hS rfl ⟨rfl, rfl⟩
  · clear h
    have h := e7
    refine region_lit ?_
    obtain ⟨v9, w10, e11, h⟩ := bs2 h
    refine s_do rfl ha (ltd rfl) (d_call (xs := []) (vs := []) ha trivial Try.call37 (grapevinelaw10_live_ok e11)) (fun a ha => ?_)
    refine s_do rfl ha (ltd rfl) (d_move ha rfl) (fun a ha => ?_)
    refine ite_s h (fun b12 h => ?_) (fun b12 h => ?_)
    · refine s_do_g2 rfl rfl ha (rfl : List.lookup 11 _ = _) b12 (ltd rfl) (d_move ha rfl) (fun a ha => ?_)
      refine s_do rfl ha (ltd rfl) (d_pick_t ha rfl b12 rfl) (fun a ha => ?_)
      refine s_do rfl ha (ltd rfl) (d_assign ha rfl) (fun a ha => ?_)
      refine s_nil ?_
      have hS : Has 14 [(2, (.bool v2))] _ := ha.sub ⟨rfl, trivial⟩
      cases h
      exact hk8 _ hS
    · refine s_no_g rfl rfl ha (rfl : List.lookup 11 _ = _) (nn b12 _ rfl) (ltd rfl) (fun a ha => ?_)
      refine s_do rfl ha (ltd rfl) (d_pick_f ha rfl b12 rfl) (fun a ha => ?_)
      refine s_do rfl ha (ltd rfl) (d_assign ha rfl) (fun a ha => ?_)
      refine s_nil ?_
      have hS : Has 14 [(2, (.bool false))] _ := ha.sub ⟨rfl, trivial⟩
      cases h
      exact hk8 _ hS

noncomputable def grapevinelaw10_MarkTorn (a0 : Sl) (a1 : List Value) (a2 : Int) (w : World) : Option (Bool × World) :=
  bind2 (mk w 78 a1) fun p1 w2 =>
  bind3 (grapevinelaw10_play a0 w2) fun v4 v5 w6 =>
  if (!v5) = true then
  (some (false, w6))
  else
  ((v4).bind fun p9 =>
  (ldP w6 (p9.add 0)).bind fun v11 =>
  bind2 (sector_Disk_Crash v11 Sl.nil w6) fun v13 w14 =>
  (dr w14).bind fun w16 =>
  (ldP w16 (p9.add 1)).bind fun v18 =>
  (ldI .i64 w16 (p1.add 1)).bind fun v20 =>
  bind3 (mark_Cells_Get v18 v20 w16) fun v22 v23 w24 =>
  (ldP w24 (p9.add 0)).bind fun v26 =>
  (rmI (IntKind.wrap .i64 a2) 4).bind fun v28 =>
  bind2 (sector_Disk_Trip v26 v28 w24) fun v30 w31 =>
  (dr w31).bind fun w33 =>
  (ldP w33 (p9.add 1)).bind fun v35 =>
  (ldI .i64 w33 (p1.add 1)).bind fun v37 =>
  (ldI .i64 w33 (p1.add 2)).bind fun v39 =>
  bind2 (mark_Cells_Put v35 v37 v39 w33) fun v41 w42 =>
  (dr w42).bind fun w44 =>
  (ldP w44 (p9.add 0)).bind fun v46 =>
  (ldL w44 (p1.add 4)).bind fun v48 =>
  bind2 (sector_Disk_Crash v46 v48 w44) fun v50 w51 =>
  (ldP w51 (p9.add 0)).bind fun v53 =>
  bind3 (mark_Open v53 1 3 w51) fun v55 v56 w57 =>
  if (v56 != 0) = true then
  (some (false, w57))
  else
  ((ldI .i64 w57 (p1.add 1)).bind fun v60 =>
  bind3 (mark_Cells_Get v55 v60 w57) fun v62 v63 w64 =>
  if (v41 == 0) = true then
  (bind2 (bind2 (grapevinelaw10_live w64) fun v71 w72 =>
  if v71 = true then
  (if v63 = true then
  ((ldI .i64 w72 (p1.add 2)).bind fun v76 =>
  some ((v62 == v76), w72))
  else
  (some (false, w72)))
  else
  (some (false, w72))) fun v67 w68 =>
  some (v67, w68))
  else
  (bind2 (bind2 (grapevinelaw10_live w64) fun v82 w83 =>
  if v82 = true then
  (if (v62 == v22) = true then
  (if (v63 == v23) = true then
  (some (true, w83))
  else
  (if v63 = true then
  ((ldI .i64 w83 (p1.add 2)).bind fun v89 =>
  some ((v62 == v89), w83))
  else
  (some (false, w83))))
  else
  (if v63 = true then
  ((ldI .i64 w83 (p1.add 2)).bind fun v92 =>
  some ((v62 == v92), w83))
  else
  (some (false, w83))))
  else
  (some (false, w83))) fun v78 w79 =>
  some (v78, w79))))
set_option maxHeartbeats 1000000 in
set_option maxRecDepth 100000 in
theorem grapevinelaw10_MarkTorn_ok {a0 : Sl} {a1 : List Value} {a2 : Int} {w w' : World} {r0 : Bool} (h : grapevinelaw10_MarkTorn a0 a1 a2 w = some (r0, w')) : Calls Try.prog 15 #[(Sl.v a0), (.agg (List.toArray a1)), (.int .u8 a2)] w fun e w'' => e = .returned (.bool r0) ∧ w'' = w' := by
  refine calls_dec (n := 111) Try.func15 rfl Try.ntmps15 (by simp) (fun a ha => ?_)
  unfold grapevinelaw10_MarkTorn at h
  refine wp_seq ?_
  refine region_lit ?_
  obtain ⟨p1, w2, e3, h⟩ := bs2 h
  refine s_do rfl ha (ltd rfl) (d_box ha rfl rfl e3) (fun a ha => ?_)
  refine s_do rfl ha (ltd rfl) (d_assign ha rfl) (fun a ha => ?_)
  refine s_nil ?_
  refine t_n ?_
  replace ha : Has 111 [(0, (Sl.v a0)), (2, (.int .u8 a2)), (4, (.pointer (some p1)))] _ := ha.sub ⟨rfl, rfl, rfl, trivial⟩
  refine wp_seq ?_
  refine region_lit ?_
  refine s_do rfl ha (ltd rfl) (d_move ha rfl) (fun a ha => ?_)
  obtain ⟨v4, v5, w6, e7, h⟩ := bs3 h
  refine s_do rfl ha (ltd rfl) (d_call (xs := [_]) (vs := [(Sl.v a0)]) ha ⟨rfl, trivial⟩ Try.call40 (grapevinelaw10_play_ok e7)) (fun a ha => ?_)
  refine s_do rfl ha (ltd rfl) (d_move ha rfl) (fun a ha => ?_)
  refine s_do rfl ha (ltd rfl) (d_ext ha rfl rfl) (fun a ha => ?_)
  refine s_do rfl ha (ltd rfl) (d_ext ha rfl rfl) (fun a ha => ?_)
  refine s_do rfl ha (ltd rfl) (d_assign ha rfl) (fun a ha => ?_)
  refine s_do rfl ha (ltd rfl) (d_assign ha rfl) (fun a ha => ?_)
  refine s_nil ?_
  refine t_n ?_
  replace ha : Has 111 [(2, (.int .u8 a2)), (4, (.pointer (some p1))), (7, (.pointer v4)), (8, (.bool v5))] _ := ha.sub ⟨rfl, rfl, rfl, rfl, trivial⟩
  refine wp_seq ?_
  refine wp_seq ?_
  refine region_lit ?_
  refine s_do rfl ha (ltd rfl) (d_move ha rfl) (fun a ha => ?_)
  refine s_do rfl ha (ltd rfl) (d_not ha rfl) (fun a ha => ?_)
  refine s_nil ?_
  refine t_n ?_
  replace ha : Has 111 [(2, (.int .u8 a2)), (4, (.pointer (some p1))), (7, (.pointer v4)), (22, (.bool (!v5)))] _ := ha.sub ⟨rfl, rfl, rfl, rfl, trivial⟩
  refine s_cond ha rfl h (fun b8 h => ?_) (fun b8 h => ?_)
  · refine wp_seq ?_
    refine region_lit ?_
    refine s_do rfl ha (ltd rfl) (d_assign ha rfl) (fun a ha => ?_)
    refine s_nil ?_
    refine t_n ?_
    replace ha : Has 111 [(6, (.bool false))] _ := ha.sub ⟨rfl, trivial⟩
    refine wp_ret ?_
    refine t_r ?_
    have hS := ha
    cases h
    exact ret1 Try.results15 hS rfl ⟨rfl, rfl⟩
  · refine wp_skip ?_
    refine t_n ?_
    replace ha : Has 111 [(2, (.int .u8 a2)), (4, (.pointer (some p1))), (7, (.pointer v4))] _ := ha.sub ⟨rfl, rfl, rfl, trivial⟩
    refine wp_seq ?_
    refine region_lit ?_
    refine s_do rfl ha (ltd rfl) (d_move ha rfl) (fun a ha => ?_)
    obtain ⟨p9, e10, h⟩ := bs1 h
    refine s_do rfl ha (ltd rfl) (d_nilp ha rfl e10) (fun a ha => ?_)
    refine s_do rfl ha (ltd rfl) (d_fa ha rfl Try.runUnderlying75 rfl rfl Try.sizeOf22 (by decide)) (fun a ha => ?_)
    obtain ⟨v11, e12, h⟩ := bs1 h
    refine s_do rfl ha (ltd rfl) (d_ld ha rfl Try.isAgg22 (ldP_c e12)) (fun a ha => ?_)
    obtain ⟨v13, w14, e15, h⟩ := bs2 h
    refine s_do rfl ha (ltd rfl) (d_call (xs := [_, _]) (vs := [(.pointer v11), (Sl.v Sl.nil)]) ha ⟨rfl, rfl, trivial⟩ Try.call26 (sector_Disk_Crash_ok e15)) (fun a ha => ?_)
    refine s_nil ?_
    refine t_n ?_
    replace ha : Has 111 [(2, (.int .u8 a2)), (4, (.pointer (some p1))), (7, (.pointer v4))] _ := ha.sub ⟨rfl, rfl, rfl, trivial⟩
    refine wp_seq ?_
    obtain ⟨w16, e17, h⟩ := bs1 h
    obtain ⟨v18, e19, h⟩ := bs1 h
    obtain ⟨v20, e21, h⟩ := bs1 h
    obtain ⟨v22, v23, w24, e25, h⟩ := bs3 h
    have ha : Has 111 [(2, (.int .u8 a2)), (4, (.pointer (some p1))), (7, (.pointer v4))] a := ha.sub ⟨rfl, rfl, rfl, trivial⟩
    refine region_draw (n := 111) (ds := (⟨_, (.pointer v4), false, 0, 0, [], [(7, (.pointer v4))]⟩ :: ⟨_, (.pointer (some p9)), false, 0, 0, [0], [(29, (.pointer v4))]⟩ :: ⟨_, (.pointer (some (p9.add 1))), false, 0, 0, [0, 1], [(30, (.pointer (some p9)))]⟩ :: ⟨_, (.pointer v18), false, 0, 0, [0, 1, 2], [(31, (.pointer (some (p9.add 1))))]⟩ :: ⟨_, (.pointer (some (p1.add 1))), false, 0, 0, [], [(4, (.pointer (some p1)))]⟩ :: ⟨_, (.int .i64 v20), false, 0, 0, [4], [(33, (.pointer (some (p1.add 1))))]⟩ :: ⟨_, (.tuple #[(.int .i64 v22), (.bool v23)]), true, 0, 0, [0, 1, 2, 3, 4, 5], [(32, (.pointer v18)), (34, (.int .i64 v20))]⟩ :: ⟨_, (.tuple #[(.int .i64 v22), (.bool v23)]), false, 1, 1, [0, 1, 2, 3, 4, 5, 6], [(35, (.tuple #[(.int .i64 v22), (.bool v23)]))]⟩ :: ⟨_, (.int .i64 v22), false, 1, 1, [0, 1, 2, 3, 4, 5, 6, 7], [(28, (.tuple #[(.int .i64 v22), (.bool v23)]))]⟩ :: ⟨_, (.bool v23), false, 1, 1, [0, 1, 2, 3, 4, 5, 6, 7], [(28, (.tuple #[(.int .i64 v22), (.bool v23)]))]⟩ :: ⟨_, (.int .i64 v22), false, 1, 1, [0, 1, 2, 3, 4, 5, 6, 7, 8], [(36, (.int .i64 v22))]⟩ :: ⟨_, (.bool v23), false, 1, 1, [0, 1, 2, 3, 4, 5, 6, 7, 8, 9, 10], [(37, (.bool v23))]⟩ :: [])) (W := (fun j => match j with | 0 => w16 | _ => w24)) (by kernel_rfl) ha (dr_w e17) (by kernel_rfl) ?_ (reads_of (by kernel_rfl)) (by kernel_rfl) (m := 1) (by kernel_rfl) (fun a ha => ?_)
    · refine ⟨?_, ?_, ?_, ?_, ?_, ?_, ?_, ?_, ?_, ?_, ?_, ?_, trivial⟩
      · intro j _ _; exact ok_do rfl fun a ha => d_move ha rfl
      · intro j _ _; exact ok_do rfl fun a ha => d_nilp ha rfl e10
      · intro j _ _; exact ok_do rfl fun a ha => d_fa ha rfl Try.runUnderlying75 rfl rfl Try.sizeOf58 (by decide)
      · intro j h1 h2; obtain rfl : j = 0 := Nat.le_antisymm h2 h1; exact ok_do rfl fun a ha => d_ld ha rfl Try.isAgg58 (ldP_c e19)
      · intro j _ _; exact ok_do rfl fun a ha => d_fa ha rfl Try.runUnderlying78 rfl rfl Try.sizeOf3 (by decide)
      · intro j h1 h2; obtain rfl : j = 0 := Nat.le_antisymm h2 h1; exact ok_do rfl fun a ha => d_ld ha rfl Try.isAgg3 (ldI_c e21)
      · intro j h1 h2; obtain rfl : j = 0 := Nat.le_antisymm h2 h1; exact ok_do rfl fun a ha => d_call (xs := [_, _]) (vs := [(.pointer v18), (.int .i64 v20)]) ha ⟨rfl, rfl, trivial⟩ Try.call35 (mark_Cells_Get_ok e25)
      · intro j _ _; exact ok_do rfl fun a ha => d_move ha rfl
      · intro j _ _; exact ok_do rfl fun a ha => d_ext ha rfl rfl
      · intro j _ _; exact ok_do rfl fun a ha => d_ext ha rfl rfl
      · intro j _ _; exact ok_do rfl fun a ha => d_assign ha rfl
      · intro j _ _; exact ok_do rfl fun a ha => d_assign ha rfl
    · have ha : Has 111 [(2, (.int .u8 a2)), (4, (.pointer (some p1))), (7, (.pointer v4)), (9, (.int .i64 v22)), (10, (.bool v23))] a := ha.sub ⟨rfl, rfl, rfl, rfl, rfl, trivial⟩
      refine t_n ?_
      replace ha : Has 111 [(2, (.int .u8 a2)), (4, (.pointer (some p1))), (7, (.pointer v4)), (9, (.int .i64 v22)), (10, (.bool v23))] _ := ha.sub ⟨rfl, rfl, rfl, rfl, rfl, trivial⟩
      refine wp_seq ?_
      refine region_lit ?_
      refine s_do rfl ha (ltd rfl) (d_move ha rfl) (fun a ha => ?_)
      refine s_do rfl ha (ltd rfl) (d_nilp ha rfl e10) (fun a ha => ?_)
      refine s_do rfl ha (ltd rfl) (d_fa ha rfl Try.runUnderlying75 rfl rfl Try.sizeOf22 (by decide)) (fun a ha => ?_)
      obtain ⟨v26, e27, h⟩ := bs1 h
      refine s_do rfl ha (ltd rfl) (d_ld ha rfl Try.isAgg22 (ldP_c e27)) (fun a ha => ?_)
      refine s_do rfl ha (ltd rfl) (d_move ha rfl) (fun a ha => ?_)
      refine s_do rfl ha (ltd rfl) (d_conv ha rfl Try.runUnderlying5 Try.runUnderlying3) (fun a ha => ?_)
      obtain ⟨v28, e29, h⟩ := bs1 h
      refine s_do rfl ha (ltd rfl) (d_rem ha rfl rfl e29) (fun a ha => ?_)
      obtain ⟨v30, w31, e32, h⟩ := bs2 h
      refine s_do rfl ha (ltd rfl) (d_call (xs := [_, _]) (vs := [(.pointer v26), (.int .i64 v28)]) ha ⟨rfl, rfl, trivial⟩ Try.call27 (sector_Disk_Trip_ok e32)) (fun a ha => ?_)
      refine s_nil ?_
      refine t_n ?_
      replace ha : Has 111 [(4, (.pointer (some p1))), (7, (.pointer v4)), (9, (.int .i64 v22)), (10, (.bool v23))] _ := ha.sub ⟨rfl, rfl, rfl, rfl, trivial⟩
      refine wp_seq ?_
      obtain ⟨w33, e34, h⟩ := bs1 h
      obtain ⟨v35, e36, h⟩ := bs1 h
      obtain ⟨v37, e38, h⟩ := bs1 h
      obtain ⟨v39, e40, h⟩ := bs1 h
      obtain ⟨v41, w42, e43, h⟩ := bs2 h
      have ha : Has 111 [(4, (.pointer (some p1))), (7, (.pointer v4)), (9, (.int .i64 v22)), (10, (.bool v23))] a := ha.sub ⟨rfl, rfl, rfl, rfl, trivial⟩
      refine region_draw (n := 111) (ds := (⟨_, (.pointer v4), false, 0, 0, [], [(7, (.pointer v4))]⟩ :: ⟨_, (.pointer (some p9)), false, 0, 0, [0], [(46, (.pointer v4))]⟩ :: ⟨_, (.pointer (some (p9.add 1))), false, 0, 0, [0, 1], [(47, (.pointer (some p9)))]⟩ :: ⟨_, (.pointer v35), false, 0, 0, [0, 1, 2], [(48, (.pointer (some (p9.add 1))))]⟩ :: ⟨_, (.pointer (some (p1.add 1))), false, 0, 0, [], [(4, (.pointer (some p1)))]⟩ :: ⟨_, (.int .i64 v37), false, 0, 0, [4], [(50, (.pointer (some (p1.add 1))))]⟩ :: ⟨_, (.pointer (some (p1.add 2))), false, 0, 0, [], [(4, (.pointer (some p1)))]⟩ :: ⟨_, (.int .i64 v39), false, 0, 0, [6], [(52, (.pointer (some (p1.add 2))))]⟩ :: ⟨_, (.int .i64 v41), true, 0, 0, [0, 1, 2, 3, 4, 5, 6, 7], [(49, (.pointer v35)), (51, (.int .i64 v37)), (53, (.int .i64 v39))]⟩ :: ⟨_, (.int .i64 v41), false, 1, 1, [0, 1, 2, 3, 4, 5, 6, 7, 8], [(54, (.int .i64 v41))]⟩ :: [])) (W := (fun j => match j with | 0 => w33 | _ => w42)) (by kernel_rfl) ha (dr_w e34) (by kernel_rfl) ?_ (reads_of (by kernel_rfl)) (by kernel_rfl) (m := 1) (by kernel_rfl) (fun a ha => ?_)
      · refine ⟨?_, ?_, ?_, ?_, ?_, ?_, ?_, ?_, ?_, ?_, trivial⟩
        · intro j _ _; exact ok_do rfl fun a ha => d_move ha rfl
        · intro j _ _; exact ok_do rfl fun a ha => d_nilp ha rfl e10
        · intro j _ _; exact ok_do rfl fun a ha => d_fa ha rfl Try.runUnderlying75 rfl rfl Try.sizeOf58 (by decide)
        · intro j h1 h2; obtain rfl : j = 0 := Nat.le_antisymm h2 h1; exact ok_do rfl fun a ha => d_ld ha rfl Try.isAgg58 (ldP_c e36)
        · intro j _ _; exact ok_do rfl fun a ha => d_fa ha rfl Try.runUnderlying78 rfl rfl Try.sizeOf3 (by decide)
        · intro j h1 h2; obtain rfl : j = 0 := Nat.le_antisymm h2 h1; exact ok_do rfl fun a ha => d_ld ha rfl Try.isAgg3 (ldI_c e38)
        · intro j _ _; exact ok_do rfl fun a ha => d_fa ha rfl Try.runUnderlying78 rfl rfl Try.sizeOf3 (by decide)
        · intro j h1 h2; obtain rfl : j = 0 := Nat.le_antisymm h2 h1; exact ok_do rfl fun a ha => d_ld ha rfl Try.isAgg3 (ldI_c e40)
        · intro j h1 h2; obtain rfl : j = 0 := Nat.le_antisymm h2 h1; exact ok_do rfl fun a ha => d_call (xs := [_, _, _]) (vs := [(.pointer v35), (.int .i64 v37), (.int .i64 v39)]) ha ⟨rfl, rfl, rfl, trivial⟩ Try.call38 (mark_Cells_Put_ok e43)
        · intro j _ _; exact ok_do rfl fun a ha => d_assign ha rfl
      · have ha : Has 111 [(4, (.pointer (some p1))), (7, (.pointer v4)), (9, (.int .i64 v22)), (10, (.bool v23)), (11, (.int .i64 v41))] a := ha.sub ⟨rfl, rfl, rfl, rfl, rfl, trivial⟩
        refine t_n ?_
        replace ha : Has 111 [(4, (.pointer (some p1))), (7, (.pointer v4)), (9, (.int .i64 v22)), (10, (.bool v23)), (11, (.int .i64 v41))] _ := ha.sub ⟨rfl, rfl, rfl, rfl, rfl, trivial⟩
        refine wp_seq ?_
        obtain ⟨w44, e45, h⟩ := bs1 h
        obtain ⟨v46, e47, h⟩ := bs1 h
        obtain ⟨v48, e49, h⟩ := bs1 h
        obtain ⟨v50, w51, e52, h⟩ := bs2 h
        have ha : Has 111 [(4, (.pointer (some p1))), (7, (.pointer v4)), (9, (.int .i64 v22)), (10, (.bool v23)), (11, (.int .i64 v41))] a := ha.sub ⟨rfl, rfl, rfl, rfl, rfl, trivial⟩
        refine region_draw (n := 111) (ds := (⟨_, (.pointer v4), false, 0, 0, [], [(7, (.pointer v4))]⟩ :: ⟨_, (.pointer (some p9)), false, 0, 0, [0], [(55, (.pointer v4))]⟩ :: ⟨_, (.pointer (some (p9.add 0))), false, 0, 0, [0, 1], [(56, (.pointer (some p9)))]⟩ :: ⟨_, (.pointer v46), false, 0, 0, [0, 1, 2], [(57, (.pointer (some (p9.add 0))))]⟩ :: ⟨_, (.pointer (some (p1.add 4))), false, 0, 0, [], [(4, (.pointer (some p1)))]⟩ :: ⟨_, (Sl.v v48), false, 0, 0, [4], [(59, (.pointer (some (p1.add 4))))]⟩ :: ⟨_, (.int .i64 v50), true, 0, 0, [0, 1, 2, 3, 4, 5], [(58, (.pointer v46)), (60, (Sl.v v48))]⟩ :: [])) (W := (fun j => match j with | 0 => w44 | _ => w51)) (by kernel_rfl) ha (dr_w e45) (by kernel_rfl) ?_ (reads_of (by kernel_rfl)) (by kernel_rfl) (m := 1) (by kernel_rfl) (fun a ha => ?_)
        · refine ⟨?_, ?_, ?_, ?_, ?_, ?_, ?_, trivial⟩
          · intro j _ _; exact ok_do rfl fun a ha => d_move ha rfl
          · intro j _ _; exact ok_do rfl fun a ha => d_nilp ha rfl e10
          · intro j _ _; exact ok_do rfl fun a ha => d_fa ha rfl Try.runUnderlying75 rfl rfl Try.sizeOf22 (by decide)
          · intro j h1 h2; obtain rfl : j = 0 := Nat.le_antisymm h2 h1; exact ok_do rfl fun a ha => d_ld ha rfl Try.isAgg22 (ldP_c e47)
          · intro j _ _; exact ok_do rfl fun a ha => d_fa ha rfl Try.runUnderlying78 rfl rfl Try.sizeOf35 (by decide)
          · intro j h1 h2; obtain rfl : j = 0 := Nat.le_antisymm h2 h1; exact ok_do rfl fun a ha => d_ld ha rfl Try.isAgg35 (ldL_c e49)
          · intro j h1 h2; obtain rfl : j = 0 := Nat.le_antisymm h2 h1; exact ok_do rfl fun a ha => d_call (xs := [_, _]) (vs := [(.pointer v46), (Sl.v v48)]) ha ⟨rfl, rfl, trivial⟩ Try.call26 (sector_Disk_Crash_ok e52)
        · have ha : Has 111 [(4, (.pointer (some p1))), (7, (.pointer v4)), (9, (.int .i64 v22)), (10, (.bool v23)), (11, (.int .i64 v41))] a := ha.sub ⟨rfl, rfl, rfl, rfl, rfl, trivial⟩
          refine t_n ?_
          replace ha : Has 111 [(4, (.pointer (some p1))), (7, (.pointer v4)), (9, (.int .i64 v22)), (10, (.bool v23)), (11, (.int .i64 v41))] _ := ha.sub ⟨rfl, rfl, rfl, rfl, rfl, trivial⟩
          refine wp_seq ?_
          refine region_lit ?_
          refine s_do rfl ha (ltd rfl) (d_move ha rfl) (fun a ha => ?_)
          refine s_do rfl ha (ltd rfl) (d_nilp ha rfl e10) (fun a ha => ?_)
          refine s_do rfl ha (ltd rfl) (d_fa ha rfl Try.runUnderlying75 rfl rfl Try.sizeOf22 (by decide)) (fun a ha => ?_)
          obtain ⟨v53, e54, h⟩ := bs1 h
          refine s_do rfl ha (ltd rfl) (d_ld ha rfl Try.isAgg22 (ldP_c e54)) (fun a ha => ?_)
          obtain ⟨v55, v56, w57, e58, h⟩ := bs3 h
          refine s_do rfl ha (ltd rfl) (d_call (xs := [_, _, _]) (vs := [(.pointer v53), (.int .i64 1), (.int .i64 3)]) ha ⟨rfl, rfl, rfl, trivial⟩ Try.call36 (mark_Open_ok e58)) (fun a ha => ?_)
          refine s_do rfl ha (ltd rfl) (d_move ha rfl) (fun a ha => ?_)
          refine s_do rfl ha (ltd rfl) (d_ext ha rfl rfl) (fun a ha => ?_)
          refine s_do rfl ha (ltd rfl) (d_ext ha rfl rfl) (fun a ha => ?_)
          refine s_do rfl ha (ltd rfl) (d_assign ha rfl) (fun a ha => ?_)
          refine s_do rfl ha (ltd rfl) (d_assign ha rfl) (fun a ha => ?_)
          refine s_nil ?_
          refine t_n ?_
          replace ha : Has 111 [(4, (.pointer (some p1))), (9, (.int .i64 v22)), (10, (.bool v23)), (11, (.int .i64 v41)), (12, (.pointer v55)), (13, (.int .i64 v56))] _ := ha.sub ⟨rfl, rfl, rfl, rfl, rfl, rfl, trivial⟩
          refine wp_seq ?_
          refine wp_seq ?_
          refine region_lit ?_
          refine s_do rfl ha (ltd rfl) (d_move ha rfl) (fun a ha => ?_)
          refine s_do rfl ha (ltd rfl) (d_ne ha rfl rfl) (fun a ha => ?_)
          refine s_nil ?_
          refine t_n ?_
          replace ha : Has 111 [(4, (.pointer (some p1))), (9, (.int .i64 v22)), (10, (.bool v23)), (11, (.int .i64 v41)), (12, (.pointer v55)), (71, (.bool (v56 != 0)))] _ := ha.sub ⟨rfl, rfl, rfl, rfl, rfl, rfl, trivial⟩
          refine s_cond ha rfl h (fun b59 h => ?_) (fun b59 h => ?_)
          · refine wp_seq ?_
            refine region_lit ?_
            refine s_do rfl ha (ltd rfl) (d_assign ha rfl) (fun a ha => ?_)
            refine s_nil ?_
            refine t_n ?_
            replace ha : Has 111 [(6, (.bool false))] _ := ha.sub ⟨rfl, trivial⟩
            refine wp_ret ?_
            refine t_r ?_
            have hS := ha
            cases h
            exact ret1 Try.results15 hS rfl ⟨rfl, rfl⟩
          · refine wp_skip ?_
            refine t_n ?_
            replace ha : Has 111 [(4, (.pointer (some p1))), (9, (.int .i64 v22)), (10, (.bool v23)), (11, (.int .i64 v41)), (12, (.pointer v55))] _ := ha.sub ⟨rfl, rfl, rfl, rfl, rfl, trivial⟩
            refine wp_seq ?_
            refine region_lit ?_
            refine s_do rfl ha (ltd rfl) (d_move ha rfl) (fun a ha => ?_)
            refine s_do rfl ha (ltd rfl) (d_fa ha rfl Try.runUnderlying78 rfl rfl Try.sizeOf3 (by decide)) (fun a ha => ?_)
            obtain ⟨v60, e61, h⟩ := bs1 h
            refine s_do rfl ha (ltd rfl) (d_ld ha rfl Try.isAgg3 (ldI_c e61)) (fun a ha => ?_)
            obtain ⟨v62, v63, w64, e65, h⟩ := bs3 h
            refine s_do rfl ha (ltd rfl) (d_call (xs := [_, _]) (vs := [(.pointer v55), (.int .i64 v60)]) ha ⟨rfl, rfl, trivial⟩ Try.call35 (mark_Cells_Get_ok e65)) (fun a ha => ?_)
            refine s_do rfl ha (ltd rfl) (d_move ha rfl) (fun a ha => ?_)
            refine s_do rfl ha (ltd rfl) (d_ext ha rfl rfl) (fun a ha => ?_)
            refine s_do rfl ha (ltd rfl) (d_ext ha rfl rfl) (fun a ha => ?_)
            refine s_do rfl ha (ltd rfl) (d_assign ha rfl) (fun a ha => ?_)
            refine s_do rfl ha (ltd rfl) (d_assign ha rfl) (fun a ha => ?_)
            refine s_nil ?_
            refine t_n ?_
            replace ha : Has 111 [(4, (.pointer (some p1))), (9, (.int .i64 v22)), (10, (.bool v23)), (11, (.int .i64 v41)), (14, (.int .i64 v62)), (15, (.bool v63))] _ := ha.sub ⟨rfl, rfl, rfl, rfl, rfl, rfl, trivial⟩
            refine wp_seq ?_
            refine wp_seq ?_
            refine region_lit ?_
            refine s_do rfl ha (ltd rfl) (d_move ha rfl) (fun a ha => ?_)
            refine s_do rfl ha (ltd rfl) (d_eq ha rfl rfl) (fun a ha => ?_)
            refine s_nil ?_
            refine t_n ?_
            replace ha : Has 111 [(4, (.pointer (some p1))), (9, (.int .i64 v22)), (10, (.bool v23)), (14, (.int .i64 v62)), (15, (.bool v63)), (80, (.bool (v41 == 0)))] _ := ha.sub ⟨rfl, rfl, rfl, rfl, rfl, rfl, trivial⟩
            refine s_cond ha rfl h (fun b66 h => ?_) (fun b66 h => ?_)
            · refine wp_seq ?_
              obtain ⟨v67, w68, e69, h⟩ := bs2 h
              refine reg_join (n := 111) (L := [(6, (.bool v67))]) (w' := w68) (fun a ha => ?_) (fun hk70 => ?_)
              · refine t_n ?_
                replace ha : Has 111 [(6, (.bool v67))] _ := ha.sub ⟨rfl, trivial⟩
                refine wp_ret ?_
                refine t_r ?_
                have hS := ha
                cases h
                exact ret1 Try.results15 hS rfl ⟨rfl, rfl⟩
              · clear h
                have h := e69
                refine region_lit ?_
                obtain ⟨v71, w72, e73, h⟩ := bs2 h
                refine s_do rfl ha (ltd rfl) (d_call (xs := []) (vs := []) ha trivial Try.call37 (grapevinelaw10_live_ok e73)) (fun a ha => ?_)
                refine s_do rfl ha (ltd rfl) (d_move ha rfl) (fun a ha => ?_)
                refine ite_s h (fun b74 h => ?_) (fun b74 h => ?_)
                · refine s_do_g2 rfl rfl ha (rfl : List.lookup 82 _ = _) b74 (ltd rfl) (d_move ha rfl) (fun a ha => ?_)
                  refine s_do rfl ha (ltd rfl) (d_pick_t ha rfl b74 rfl) (fun a ha => ?_)
                  refine s_do rfl ha (ltd rfl) (d_move ha rfl) (fun a ha => ?_)
                  refine ite_s h (fun b75 h => ?_) (fun b75 h => ?_)
                  · refine s_do_g2 rfl rfl ha (rfl : List.lookup 85 _ = _) b75 (ltd rfl) (d_move ha rfl) (fun a ha => ?_)
                    refine s_do_g2 rfl rfl ha (rfl : List.lookup 85 _ = _) b75 (ltd rfl) (d_fa ha rfl Try.runUnderlying78 rfl rfl Try.sizeOf3 (by decide)) (fun a ha => ?_)
                    obtain ⟨v76, e77, h⟩ := bs1 h
                    refine s_do_g2 rfl rfl ha (rfl : List.lookup 85 _ = _) b75 (ltd rfl) (d_ld ha rfl Try.isAgg3 (ldI_c e77)) (fun a ha => ?_)
                    refine s_do_g2 rfl rfl ha (rfl : List.lookup 85 _ = _) b75 (ltd rfl) (d_eq ha rfl rfl) (fun a ha => ?_)
                    refine s_do rfl ha (ltd rfl) (d_pick_t ha rfl b75 rfl) (fun a ha => ?_)
                    refine s_do rfl ha (ltd rfl) (d_assign ha rfl) (fun a ha => ?_)
                    refine s_nil ?_
                    have hS : Has 111 [(6, (.bool (v62 == v76)))] _ := ha.sub ⟨rfl, trivial⟩
                    cases h
                    exact hk70 _ hS
                  · refine s_no_g rfl rfl ha (rfl : List.lookup 85 _ = _) (nn b75 _ rfl) (ltd rfl) (fun a ha => ?_)
                    refine s_no_g rfl rfl ha (rfl : List.lookup 85 _ = _) (nn b75 _ rfl) (ltd rfl) (fun a ha => ?_)
                    refine s_no_g rfl rfl ha (rfl : List.lookup 85 _ = _) (nn b75 _ rfl) (ltd rfl) (fun a ha => ?_)
                    refine s_no_g rfl rfl ha (rfl : List.lookup 85 _ = _) (nn b75 _ rfl) (ltd rfl) (fun a ha => ?_)
                    refine s_do rfl ha (ltd rfl) (d_pick_f ha rfl b75 rfl) (fun a ha => ?_)
                    refine s_do rfl ha (ltd rfl) (d_assign ha rfl) (fun a ha => ?_)
                    refine s_nil ?_
                    have hS : Has 111 [(6, (.bool false))] _ := ha.sub ⟨rfl, trivial⟩
                    cases h
                    exact hk70 _ hS
                · refine s_no_g rfl rfl ha (rfl : List.lookup 82 _ = _) (nn b74 _ rfl) (ltd rfl) (fun a ha => ?_)
                  refine s_do rfl ha (ltd rfl) (d_pick_f ha rfl b74 rfl) (fun a ha => ?_)
                  refine s_do rfl ha (ltd rfl) (d_move ha rfl) (fun a ha => ?_)
                  refine s_no_g rfl rfl ha (rfl : List.lookup 85 _ = _) (nn (by decide) _ rfl) (ltd rfl) (fun a ha => ?_)
                  refine s_no_g rfl rfl ha (rfl : List.lookup 85 _ = _) (nn (by decide) _ rfl) (ltd rfl) (fun a ha => ?_)
                  refine s_no_g rfl rfl ha (rfl : List.lookup 85 _ = _) (nn (by decide) _ rfl) (ltd rfl) (fun a ha => ?_)
                  refine s_no_g rfl rfl ha (rfl : List.lookup 85 _ = _) (nn (by decide) _ rfl) (ltd rfl) (fun a ha => ?_)
                  refine s_do rfl ha (ltd rfl) (d_pick_f ha rfl (by decide) rfl) (fun a ha => ?_)
                  refine s_do rfl ha (ltd rfl) (d_assign ha rfl) (fun a ha => ?_)
                  refine s_nil ?_
                  have hS : Has 111 [(6, (.bool false))] _ := ha.sub ⟨rfl, trivial⟩
                  cases h
                  exact hk70 _ hS
            · refine wp_skip ?_
              refine t_n ?_
              replace ha : Has 111 [(4, (.pointer (some p1))), (9, (.int .i64 v22)), (10, (.bool v23)), (14, (.int .i64 v62)), (15, (.bool v63))] _ := ha.sub ⟨rfl, rfl, rfl, rfl, rfl, trivial⟩
              refine wp_seq ?_
              obtain ⟨v78, w79, e80, h⟩ := bs2 h
              refine reg_join (n := 111) (L := [(6, (.bool v78))]) (w' := w79) (fun a ha => ?_) (fun hk81 => ?_)
              · refine t_n ?_
                replace ha : Has 111 [(6, (.bool v78))] _ := ha.sub ⟨rfl, trivial⟩
                refine wp_ret ?_
                have hS := ha
                cases h
                exact ret1 Try.results15 hS rfl ⟨rfl, rfl⟩
              · clear h
                have h := e80
                refine region_lit ?_
                obtain ⟨v82, w83, e84, h⟩ := bs2 h
                refine s_do rfl ha (ltd rfl) (d_call (xs := []) (vs := []) ha trivial Try.call37 (grapevinelaw10_live_ok e84)) (fun a ha => ?_)
                refine s_do rfl ha (ltd rfl) (d_move ha rfl) (fun a ha => ?_)
                refine ite_s h (fun b85 h => ?_) (fun b85 h => ?_)
                · refine s_do_g2 rfl rfl ha (rfl : List.lookup 92 _ = _) b85 (ltd rfl) (d_move ha rfl) (fun a ha => ?_)
                  refine s_do_g2 rfl rfl ha (rfl : List.lookup 92 _ = _) b85 (ltd rfl) (d_move ha rfl) (fun a ha => ?_)
                  refine s_do_g2 rfl rfl ha (rfl : List.lookup 92 _ = _) b85 (ltd rfl) (d_eq ha rfl rfl) (fun a ha => ?_)
                  refine s_do_g2 rfl rfl ha (rfl : List.lookup 92 _ = _) b85 (ltd rfl) (d_move ha rfl) (fun a ha => ?_)
                  refine ite_s h (fun b86 h => ?_) (fun b86 h => ?_)
                  · refine s_do_g2 rfl rfl ha (rfl : List.lookup 96 _ = _) b86 (ltd rfl) (d_move ha rfl) (fun a ha => ?_)
                    refine s_do_g2 rfl rfl ha (rfl : List.lookup 96 _ = _) b86 (ltd rfl) (d_move ha rfl) (fun a ha => ?_)
                    refine s_do_g2 rfl rfl ha (rfl : List.lookup 96 _ = _) b86 (ltd rfl) (d_eqB ha rfl rfl Try.runUnderlying4) (fun a ha => ?_)
                    refine s_do_g2 rfl rfl ha (rfl : List.lookup 92 _ = _) b85 (ltd rfl) (d_pick_t ha rfl b86 rfl) (fun a ha => ?_)
                    refine s_do_g2 rfl rfl ha (rfl : List.lookup 92 _ = _) b85 (ltd rfl) (d_move ha rfl) (fun a ha => ?_)
                    refine ite_s h (fun b87 h => ?_) (fun b87 h => ?_)
                    · refine s_no_g rfl rfl ha (rfl : List.lookup 101 _ = _) (tn b87) (ltd rfl) (fun a ha => ?_)
                      refine s_no_g rfl rfl ha (rfl : List.lookup 101 _ = _) (tn b87) (ltd rfl) (fun a ha => ?_)
                      refine s_no_u rfl rfl ha (rfl : List.lookup 103 _ = _) (ltd rfl) (fun a ha => ?_)
                      refine s_no_u rfl rfl ha (rfl : List.lookup 103 _ = _) (ltd rfl) (fun a ha => ?_)
                      refine s_no_u rfl rfl ha (rfl : List.lookup 103 _ = _) (ltd rfl) (fun a ha => ?_)
                      refine s_no_u rfl rfl ha (rfl : List.lookup 103 _ = _) (ltd rfl) (fun a ha => ?_)
                      refine s_no_g rfl rfl ha (rfl : List.lookup 101 _ = _) (tn b87) (ltd rfl) (fun a ha => ?_)
                      refine s_do_g2 rfl rfl ha (rfl : List.lookup 92 _ = _) b85 (ltd rfl) (d_pick_t ha rfl b87 rfl) (fun a ha => ?_)
                      refine s_do rfl ha (ltd rfl) (d_pick_t ha rfl b85 rfl) (fun a ha => ?_)
                      refine s_do rfl ha (ltd rfl) (d_assign ha rfl) (fun a ha => ?_)
                      refine s_nil ?_
                      have hS : Has 111 [(6, (.bool true))] _ := ha.sub ⟨rfl, trivial⟩
                      cases h
                      exact hk81 _ hS
                    · refine s_do_g2 rfl rfl ha (rfl : List.lookup 101 _ = _) (nt b87) (ltd rfl) (d_move ha rfl) (fun a ha => ?_)
                      refine s_do_g2 rfl rfl ha (rfl : List.lookup 101 _ = _) (nt b87) (ltd rfl) (d_move ha rfl) (fun a ha => ?_)
                      refine ite_s h (fun b88 h => ?_) (fun b88 h => ?_)
                      · refine s_do_g2 rfl rfl ha (rfl : List.lookup 103 _ = _) b88 (ltd rfl) (d_move ha rfl) (fun a ha => ?_)
                        refine s_do_g2 rfl rfl ha (rfl : List.lookup 103 _ = _) b88 (ltd rfl) (d_fa ha rfl Try.runUnderlying78 rfl rfl Try.sizeOf3 (by decide)) (fun a ha => ?_)
                        obtain ⟨v89, e90, h⟩ := bs1 h
                        refine s_do_g2 rfl rfl ha (rfl : List.lookup 103 _ = _) b88 (ltd rfl) (d_ld ha rfl Try.isAgg3 (ldI_c e90)) (fun a ha => ?_)
                        refine s_do_g2 rfl rfl ha (rfl : List.lookup 103 _ = _) b88 (ltd rfl) (d_eq ha rfl rfl) (fun a ha => ?_)
                        refine s_do_g2 rfl rfl ha (rfl : List.lookup 101 _ = _) (nt b87) (ltd rfl) (d_pick_t ha rfl b88 rfl) (fun a ha => ?_)
                        refine s_do_g2 rfl rfl ha (rfl : List.lookup 92 _ = _) b85 (ltd rfl) (d_pick_f ha rfl b87 rfl) (fun a ha => ?_)
                        refine s_do rfl ha (ltd rfl) (d_pick_t ha rfl b85 rfl) (fun a ha => ?_)
                        refine s_do rfl ha (ltd rfl) (d_assign ha rfl) (fun a ha => ?_)
                        refine s_nil ?_
                        have hS : Has 111 [(6, (.bool (v62 == v89)))] _ := ha.sub ⟨rfl, trivial⟩
                        cases h
                        exact hk81 _ hS
                      · refine s_no_g rfl rfl ha (rfl : List.lookup 103 _ = _) (nn b88 _ rfl) (ltd rfl) (fun a ha => ?_)
                        refine s_no_g rfl rfl ha (rfl : List.lookup 103 _ = _) (nn b88 _ rfl) (ltd rfl) (fun a ha => ?_)
                        refine s_no_g rfl rfl ha (rfl : List.lookup 103 _ = _) (nn b88 _ rfl) (ltd rfl) (fun a ha => ?_)
                        refine s_no_g rfl rfl ha (rfl : List.lookup 103 _ = _) (nn b88 _ rfl) (ltd rfl) (fun a ha => ?_)
                        refine s_do_g2 rfl rfl ha (rfl : List.lookup 101 _ = _) (nt b87) (ltd rfl) (d_pick_f ha rfl b88 rfl) (fun a ha => ?_)
                        refine s_do_g2 rfl rfl ha (rfl : List.lookup 92 _ = _) b85 (ltd rfl) (d_pick_f ha rfl b87 rfl) (fun a ha => ?_)
                        refine s_do rfl ha (ltd rfl) (d_pick_t ha rfl b85 rfl) (fun a ha => ?_)
                        refine s_do rfl ha (ltd rfl) (d_assign ha rfl) (fun a ha => ?_)
                        refine s_nil ?_
                        have hS : Has 111 [(6, (.bool false))] _ := ha.sub ⟨rfl, trivial⟩
                        cases h
                        exact hk81 _ hS
                  · refine s_no_g rfl rfl ha (rfl : List.lookup 96 _ = _) (nn b86 _ rfl) (ltd rfl) (fun a ha => ?_)
                    refine s_no_g rfl rfl ha (rfl : List.lookup 96 _ = _) (nn b86 _ rfl) (ltd rfl) (fun a ha => ?_)
                    refine s_no_g rfl rfl ha (rfl : List.lookup 96 _ = _) (nn b86 _ rfl) (ltd rfl) (fun a ha => ?_)
                    refine s_do_g2 rfl rfl ha (rfl : List.lookup 92 _ = _) b85 (ltd rfl) (d_pick_f ha rfl b86 rfl) (fun a ha => ?_)
                    refine s_do_g2 rfl rfl ha (rfl : List.lookup 92 _ = _) b85 (ltd rfl) (d_move ha rfl) (fun a ha => ?_)
                    refine s_do_g2 rfl rfl ha (rfl : List.lookup 101 _ = _) (nt (by decide)) (ltd rfl) (d_move ha rfl) (fun a ha => ?_)
                    refine s_do_g2 rfl rfl ha (rfl : List.lookup 101 _ = _) (nt (by decide)) (ltd rfl) (d_move ha rfl) (fun a ha => ?_)
                    refine ite_s h (fun b91 h => ?_) (fun b91 h => ?_)
                    · refine s_do_g2 rfl rfl ha (rfl : List.lookup 103 _ = _) b91 (ltd rfl) (d_move ha rfl) (fun a ha => ?_)
                      refine s_do_g2 rfl rfl ha (rfl : List.lookup 103 _ = _) b91 (ltd rfl) (d_fa ha rfl Try.runUnderlying78 rfl rfl Try.sizeOf3 (by decide)) (fun a ha => ?_)
                      obtain ⟨v92, e93, h⟩ := bs1 h
                      refine s_do_g2 rfl rfl ha (rfl : List.lookup 103 _ = _) b91 (ltd rfl) (d_ld ha rfl Try.isAgg3 (ldI_c e93)) (fun a ha => ?_)
                      refine s_do_g2 rfl rfl ha (rfl : List.lookup 103 _ = _) b91 (ltd rfl) (d_eq ha rfl rfl) (fun a ha => ?_)
                      refine s_do_g2 rfl rfl ha (rfl : List.lookup 101 _ = _) (nt (by decide)) (ltd rfl) (d_pick_t ha rfl b91 rfl) (fun a ha => ?_)
                      refine s_do_g2 rfl rfl ha (rfl : List.lookup 92 _ = _) b85 (ltd rfl) (d_pick_f ha rfl (by decide) rfl) (fun a ha => ?_)
                      refine s_do rfl ha (ltd rfl) (d_pick_t ha rfl b85 rfl) (fun a ha => ?_)
                      refine s_do rfl ha (ltd rfl) (d_assign ha rfl) (fun a ha => ?_)
                      refine s_nil ?_
                      have hS : Has 111 [(6, (.bool (v62 == v92)))] _ := ha.sub ⟨rfl, trivial⟩
                      cases h
                      exact hk81 _ hS
                    · refine s_no_g rfl rfl ha (rfl : List.lookup 103 _ = _) (nn b91 _ rfl) (ltd rfl) (fun a ha => ?_)
                      refine s_no_g rfl rfl ha (rfl : List.lookup 103 _ = _) (nn b91 _ rfl) (ltd rfl) (fun a ha => ?_)
                      refine s_no_g rfl rfl ha (rfl : List.lookup 103 _ = _) (nn b91 _ rfl) (ltd rfl) (fun a ha => ?_)
                      refine s_no_g rfl rfl ha (rfl : List.lookup 103 _ = _) (nn b91 _ rfl) (ltd rfl) (fun a ha => ?_)
                      refine s_do_g2 rfl rfl ha (rfl : List.lookup 101 _ = _) (nt (by decide)) (ltd rfl) (d_pick_f ha rfl b91 rfl) (fun a ha => ?_)
                      refine s_do_g2 rfl rfl ha (rfl : List.lookup 92 _ = _) b85 (ltd rfl) (d_pick_f ha rfl (by decide) rfl) (fun a ha => ?_)
                      refine s_do rfl ha (ltd rfl) (d_pick_t ha rfl b85 rfl) (fun a ha => ?_)
                      refine s_do rfl ha (ltd rfl) (d_assign ha rfl) (fun a ha => ?_)
                      refine s_nil ?_
                      have hS : Has 111 [(6, (.bool false))] _ := ha.sub ⟨rfl, trivial⟩
                      cases h
                      exact hk81 _ hS
                · refine s_no_g rfl rfl ha (rfl : List.lookup 92 _ = _) (nn b85 _ rfl) (ltd rfl) (fun a ha => ?_)
                  refine s_no_g rfl rfl ha (rfl : List.lookup 92 _ = _) (nn b85 _ rfl) (ltd rfl) (fun a ha => ?_)
                  refine s_no_g rfl rfl ha (rfl : List.lookup 92 _ = _) (nn b85 _ rfl) (ltd rfl) (fun a ha => ?_)
                  refine s_no_g rfl rfl ha (rfl : List.lookup 92 _ = _) (nn b85 _ rfl) (ltd rfl) (fun a ha => ?_)
                  refine s_no_u rfl rfl ha (rfl : List.lookup 96 _ = _) (ltd rfl) (fun a ha => ?_)
                  refine s_no_u rfl rfl ha (rfl : List.lookup 96 _ = _) (ltd rfl) (fun a ha => ?_)
                  refine s_no_u rfl rfl ha (rfl : List.lookup 96 _ = _) (ltd rfl) (fun a ha => ?_)
                  refine s_no_g rfl rfl ha (rfl : List.lookup 92 _ = _) (nn b85 _ rfl) (ltd rfl) (fun a ha => ?_)
                  refine s_no_g rfl rfl ha (rfl : List.lookup 92 _ = _) (nn b85 _ rfl) (ltd rfl) (fun a ha => ?_)
                  refine s_no_u rfl rfl ha (rfl : List.lookup 101 _ = _) (ltd rfl) (fun a ha => ?_)
                  refine s_no_u rfl rfl ha (rfl : List.lookup 101 _ = _) (ltd rfl) (fun a ha => ?_)
                  refine s_no_u rfl rfl ha (rfl : List.lookup 103 _ = _) (ltd rfl) (fun a ha => ?_)
                  refine s_no_u rfl rfl ha (rfl : List.lookup 103 _ = _) (ltd rfl) (fun a ha => ?_)
                  refine s_no_u rfl rfl ha (rfl : List.lookup 103 _ = _) (ltd rfl) (fun a ha => ?_)
                  refine s_no_u rfl rfl ha (rfl : List.lookup 103 _ = _) (ltd rfl) (fun a ha => ?_)
                  refine s_no_u rfl rfl ha (rfl : List.lookup 101 _ = _) (ltd rfl) (fun a ha => ?_)
                  refine s_no_g rfl rfl ha (rfl : List.lookup 92 _ = _) (nn b85 _ rfl) (ltd rfl) (fun a ha => ?_)
                  refine s_do rfl ha (ltd rfl) (d_pick_f ha rfl b85 rfl) (fun a ha => ?_)
                  refine s_do rfl ha (ltd rfl) (d_assign ha rfl) (fun a ha => ?_)
                  refine s_nil ?_
                  have hS : Has 111 [(6, (.bool false))] _ := ha.sub ⟨rfl, trivial⟩
                  cases h
                  exact hk81 _ hS
end Go.Proofs.Ytoanmomopcaikaa.D
