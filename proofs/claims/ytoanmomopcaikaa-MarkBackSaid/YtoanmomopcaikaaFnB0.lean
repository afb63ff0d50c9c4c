/- Written by dec.py of this project: Go functions as plain functions over the memory, and that the Go calls come to these. -/
import Derived.Test.YtoanmomopcaikaaGlue
import Derived.Test.YtoanmomopcaikaaArr
import Derived.Test.YtoanmomopcaikaaFnM
import Derived.Test.YtoanmomopcaikaaFnN
namespace Go.Proofs.Ytoanmomopcaikaa.D
open Go
set_option linter.unusedVariables false
set_option linter.unusedSimpArgs false

noncomputable def grapevinelaw10_MarkBack_l1 (v1 : Option Addr) (p6 : Addr) (p9 : Addr) (x16 : Int) (w17 : World) : Option ((Int × World) ⊕ (World)) :=
  if (decide (x16 < 3)) = true then
  ((v1).bind fun p24 =>
  (ldP w17 (p24.add 1)).bind fun v26 =>
  bind3 (mark_Cells_Get v26 x16 w17) fun v28 v29 w30 =>
  (ixA p6 x16 3 1).bind fun p32 =>
  (stV w30 p32 (.int .i64 v28)).bind fun w34 =>
  (ixA p9 x16 3 1).bind fun p36 =>
  (stV w34 p36 (.bool v29)).bind fun w38 =>
  some (.inl ((IntKind.wrap .i64 (x16 + 1)), w38)))
  else
  (some (.inr w17))
noncomputable def grapevinelaw10_MarkBack_l2 (v1 : Option Addr) (a1 : Int) (p6 : Addr) (p9 : Addr) (x57 : Int) (w58 : World) : Option ((Int × World) ⊕ ((World) ⊕ (Bool × World))) :=
  if (decide (x57 < 3)) = true then
  ((v1).bind fun p68 =>
  (ldP w58 (p68.add 1)).bind fun v70 =>
  bind3 (mark_Cells_Get v70 x57 w58) fun v72 v73 w74 =>
  bind2 (if (x57 != a1) = true then
  ((ixA p6 x57 3 1).bind fun p81 =>
  (ldI .i64 w74 p81).bind fun v83 =>
  if (v72 != v83) = true then
  (some (true, w74))
  else
  ((ixA p9 x57 3 1).bind fun p86 =>
  (ldB w74 p86).bind fun v88 =>
  some ((v73 != v88), w74)))
  else
  (some (false, w74))) fun v76 w77 =>
  if v76 = true then
  (some (.inr (.inr (false, w77))))
  else
  (some (.inl ((IntKind.wrap .i64 (x57 + 1)), w77))))
  else
  (some (.inr (.inl w58)))
noncomputable def grapevinelaw10_MarkBack (a0 : Sl) (a1 : Int) (a2 : Int) (w : World) : Option (Bool × World) :=
  bind3 (grapevinelaw10_play a0 w) fun v1 v2 w3 =>
  if (!v2) = true then
  (some (false, w3))
  else
  (bind2 (mk w3 71 ([.int .i64 0, .int .i64 0, .int .i64 0])) fun p6 w7 =>
  bind2 (mk w7 72 ([.bool false, .bool false, .bool false])) fun p9 w10 =>
  (stA w10 p6 0 ([.int .i64 0, .int .i64 0, .int .i64 0])).bind fun w12 =>
  (stA w12 p9 0 ([.bool false, .bool false, .bool false])).bind fun w14 =>
  (loopF (fun s : Int × World => grapevinelaw10_MarkBack_l1 v1 p6 p9 s.1 s.2) (0, w14)).bind fun w20 =>
  (v1).bind fun p40 =>
  (ldP w20 (p40.add 1)).bind fun v42 =>
  bind2 (mark_Cells_Put v42 a1 a2 w20) fun v44 w45 =>
  if (v44 != 0) = true then
  (bind2 (grapevinelaw10_live w45) fun v48 w49 =>
  some (v48, w49))
  else
  ((ldP w45 (p40.add 1)).bind fun v51 =>
  bind3 (mark_Cells_Get v51 a1 w45) fun v53 v54 w55 =>
  (loopF (fun s : Int × World => grapevinelaw10_MarkBack_l2 v1 a1 p6 p9 s.1 s.2) (0, w55)).bind fun r59 => Sum.elim (fun (i : World) => u1 i fun w61 =>
  bind2 (bind2 (grapevinelaw10_live w61) fun v95 w96 =>
  if v95 = true then
  (if v54 = true then
  (if (v53 == a2) = true then
  (if (decide (0 ≤ a1)) = true then
  (if (decide (a1 < 3)) = true then
  (if (decide (0 ≤ a2)) = true then
  (some ((decide (a2 ≤ 1099511627776)), w96))
  else
  (some (false, w96)))
  else
  (some (false, w96)))
  else
  (some (false, w96)))
  else
  (some (false, w96)))
  else
  (some (false, w96)))
  else
  (some (false, w96))) fun v91 w92 =>
  some (v91, w92)) (fun (i : Bool × World) => u2 i fun v62 w63 =>
  some (v62, w63)) r59))
set_option maxHeartbeats 1000000 in
set_option maxRecDepth 100000 in
theorem grapevinelaw10_MarkBack_ok {a0 : Sl} {a1 : Int} {a2 : Int} {w w' : World} {r0 : Bool} (h : grapevinelaw10_MarkBack a0 a1 a2 w = some (r0, w')) : Calls Try.prog 14 #[(Sl.v a0), (.int .i64 a1), (.int .i64 a2)] w fun e w'' => e = .returned (.bool r0) ∧ w'' = w' := by
  refine calls_dec (n := 116) Try.func14 rfl Try.ntmps14 (by simp) (fun a ha => ?_)
  unfold grapevinelaw10_MarkBack at h
  refine wp_seq ?_
  refine region_lit ?_
  refine s_do rfl ha (ltd rfl) (d_assign ha rfl) (fun a ha => ?_)
  refine s_nil ?_
  refine t_n ?_
  replace ha : Has 116 [(0, (Sl.v a0)), (1, (.int .i64 a1)), (2, (.int .i64 a2))] _ := ha.sub ⟨rfl, rfl, rfl, trivial⟩
  refine wp_seq ?_
  refine region_lit ?_
  refine s_do rfl ha (ltd rfl) (d_move ha rfl) (fun a ha => ?_)
  obtain ⟨v1, v2, w3, e4, h⟩ := bs3 h
  refine s_do rfl ha (ltd rfl) (d_call (xs := [_]) (vs := [(Sl.v a0)]) ha ⟨rfl, trivial⟩ Try.call40 (grapevinelaw10_play_ok e4)) (fun a ha => ?_)
  refine s_do rfl ha (ltd rfl) (d_move ha rfl) (fun a ha => ?_)
  refine s_do rfl ha (ltd rfl) (d_ext ha rfl rfl) (fun a ha => ?_)
  refine s_do rfl ha (ltd rfl) (d_ext ha rfl rfl) (fun a ha => ?_)
  refine s_do rfl ha (ltd rfl) (d_assign ha rfl) (fun a ha => ?_)
  refine s_do rfl ha (ltd rfl) (d_assign ha rfl) (fun a ha => ?_)
  refine s_nil ?_
  refine t_n ?_
  replace ha : Has 116 [(1, (.int .i64 a1)), (2, (.int .i64 a2)), (7, (.pointer v1)), (8, (.bool v2))] _ := ha.sub ⟨rfl, rfl, rfl, rfl, trivial⟩
  refine wp_seq ?_
  refine wp_seq ?_
  refine region_lit ?_
  refine s_do rfl ha (ltd rfl) (d_move ha rfl) (fun a ha => ?_)
  refine s_do rfl ha (ltd rfl) (d_not ha rfl) (fun a ha => ?_)
  refine s_nil ?_
  refine t_n ?_
  replace ha : Has 116 [(1, (.int .i64 a1)), (2, (.int .i64 a2)), (7, (.pointer v1)), (23, (.bool (!v2)))] _ := ha.sub ⟨rfl, rfl, rfl, rfl, trivial⟩
  refine s_cond ha rfl h (fun b5 h => ?_) (fun b5 h => ?_)
  · refine wp_seq ?_
    refine region_lit ?_
    refine s_do rfl ha (ltd rfl) (d_assign ha rfl) (fun a ha => ?_)
    refine s_nil ?_
    refine t_n ?_
    replace ha : Has 116 [(6, (.bool false))] _ := ha.sub ⟨rfl, trivial⟩
    refine wp_ret ?_
    refine t_r ?_
    have hS := ha
    cases h
    exact ret1 Try.results14 hS rfl ⟨rfl, rfl⟩
  · refine wp_skip ?_
    refine t_n ?_
    replace ha : Has 116 [(1, (.int .i64 a1)), (2, (.int .i64 a2)), (7, (.pointer v1))] _ := ha.sub ⟨rfl, rfl, rfl, trivial⟩
    refine wp_seq ?_
    refine region_lit ?_
    refine s_do rfl ha (ltd rfl) (d_buildA (vs := []) (cs := ([.int .i64 0, .int .i64 0, .int .i64 0])) ha trivial Try.zeroValue71 Try.runUnderlying71 Try.sizeOf3 (by kernel_rfl)) (fun a ha => ?_)
    refine s_do rfl ha (ltd rfl) (d_buildA (vs := []) (cs := ([.bool false, .bool false, .bool false])) ha trivial Try.zeroValue72 Try.runUnderlying72 Try.sizeOf4 (by kernel_rfl)) (fun a ha => ?_)
    obtain ⟨p6, w7, e8, h⟩ := bs2 h
    refine s_do rfl ha (ltd rfl) (d_alloc Try.zeroValue71 (by kernel_rfl) e8) (fun a ha => ?_)
    obtain ⟨p9, w10, e11, h⟩ := bs2 h
    refine s_do rfl ha (ltd rfl) (d_alloc Try.zeroValue72 (by kernel_rfl) e11) (fun a ha => ?_)
    obtain ⟨w12, e13, h⟩ := bs1 h
    refine s_do rfl ha (ltd rfl) (d_stA ha rfl rfl Try.sizeOf71 rfl e13) (fun a ha => ?_)
    obtain ⟨w14, e15, h⟩ := bs1 h
    refine s_do rfl ha (ltd rfl) (d_stA ha rfl rfl Try.sizeOf72 rfl e15) (fun a ha => ?_)
    refine s_nil ?_
    refine t_n ?_
    replace ha : Has 116 [(1, (.int .i64 a1)), (2, (.int .i64 a2)), (7, (.pointer v1)), (9, (.pointer (some p6))), (10, (.pointer (some p9)))] _ := ha.sub ⟨rfl, rfl, rfl, rfl, rfl, trivial⟩
    refine wp_seq ?_
    refine wp_seq ?_
    refine region_lit ?_
    refine s_do rfl ha (ltd rfl) (d_assign ha rfl) (fun a ha => ?_)
    refine s_nil ?_
    refine t_n ?_
    replace ha : Has 116 [(1, (.int .i64 a1)), (2, (.int .i64 a2)), (7, (.pointer v1)), (9, (.pointer (some p6))), (10, (.pointer (some p9))), (11, (.int .i64 0))] _ := ha.sub ⟨rfl, rfl, rfl, rfl, rfl, rfl, trivial⟩
    refine wp_block ?_
    obtain ⟨w20, e19, h⟩ := bs1 h
    refine s_loop1 (n := 116) (L := [(1, (.int .i64 a1)), (2, (.int .i64 a2)), (7, (.pointer v1)), (9, (.pointer (some p6))), (10, (.pointer (some p9)))]) (w' := w20) (e := .exit 0) (I := fun (s : Int × World) a w => Has 116 [(11, (.int .i64 s.1)), (1, (.int .i64 a1)), (2, (.int .i64 a2)), (7, (.pointer v1)), (9, (.pointer (some p6))), (10, (.pointer (some p9)))] a ∧ w = s.2) ⟨ha.sub ⟨rfl, rfl, rfl, rfl, rfl, rfl, trivial⟩, rfl⟩ e19 (fun a ha => ?_) (fun hk21 => ?_)
    · refine b_hit ?_
      refine t_n ?_
      replace ha : Has 116 [(1, (.int .i64 a1)), (2, (.int .i64 a2)), (7, (.pointer v1)), (9, (.pointer (some p6))), (10, (.pointer (some p9)))] _ := ha.sub ⟨rfl, rfl, rfl, rfl, rfl, trivial⟩
      refine wp_seq ?_
      refine wp_seq ?_
      refine region_lit ?_
      refine s_do rfl ha (ltd rfl) (d_move ha rfl) (fun a ha => ?_)
      obtain ⟨p40, e41, h⟩ := bs1 h
      refine s_do rfl ha (ltd rfl) (d_nilp ha rfl e41) (fun a ha => ?_)
      refine s_do rfl ha (ltd rfl) (d_fa ha rfl Try.runUnderlying75 rfl rfl Try.sizeOf58 (by decide)) (fun a ha => ?_)
      obtain ⟨v42, e43, h⟩ := bs1 h
      refine s_do rfl ha (ltd rfl) (d_ld ha rfl Try.isAgg58 (ldP_c e43)) (fun a ha => ?_)
      refine s_do rfl ha (ltd rfl) (d_move ha rfl) (fun a ha => ?_)
      refine s_do rfl ha (ltd rfl) (d_move ha rfl) (fun a ha => ?_)
      obtain ⟨v44, w45, e46, h⟩ := bs2 h
      refine s_do rfl ha (ltd rfl) (d_call (xs := [_, _, _]) (vs := [(.pointer v42), (.int .i64 a1), (.int .i64 a2)]) ha ⟨rfl, rfl, rfl, trivial⟩ Try.call38 (mark_Cells_Put_ok e46)) (fun a ha => ?_)
      refine s_do rfl ha (ltd rfl) (d_ne ha rfl rfl) (fun a ha => ?_)
      refine s_nil ?_
      refine t_n ?_
      replace ha : Has 116 [(1, (.int .i64 a1)), (2, (.int .i64 a2)), (7, (.pointer v1)), (9, (.pointer (some p6))), (10, (.pointer (some p9))), (50, (.bool (v44 != 0)))] _ := ha.sub ⟨rfl, rfl, rfl, rfl, rfl, rfl, trivial⟩
      refine s_cond ha rfl h (fun b47 h => ?_) (fun b47 h => ?_)
      · refine wp_seq ?_
        refine region_lit ?_
        obtain ⟨v48, w49, e50, h⟩ := bs2 h
        refine s_do rfl ha (ltd rfl) (d_call (xs := []) (vs := []) ha trivial Try.call37 (grapevinelaw10_live_ok e50)) (fun a ha => ?_)
        refine s_do rfl ha (ltd rfl) (d_assign ha rfl) (fun a ha => ?_)
        refine s_nil ?_
        refine t_n ?_
        replace ha : Has 116 [(6, (.bool v48))] _ := ha.sub ⟨rfl, trivial⟩
        refine wp_ret ?_
        refine t_r ?_
        have hS := ha
        cases h
        exact ret1 Try.results14 hS rfl ⟨rfl, rfl⟩
      · refine wp_skip ?_
        refine t_n ?_
        replace ha : Has 116 [(1, (.int .i64 a1)), (2, (.int .i64 a2)), (7, (.pointer v1)), (9, (.pointer (some p6))), (10, (.pointer (some p9)))] _ := ha.sub ⟨rfl, rfl, rfl, rfl, rfl, trivial⟩
        refine wp_seq ?_
        refine region_lit ?_
        refine s_do rfl ha (ltd rfl) (d_move ha rfl) (fun a ha => ?_)
        refine s_do rfl ha (ltd rfl) (d_nilp ha rfl e41) (fun a ha => ?_)
        refine s_do rfl ha (ltd rfl) (d_fa ha rfl Try.runUnderlying75 rfl rfl Try.sizeOf58 (by decide)) (fun a ha => ?_)
        obtain ⟨v51, e52, h⟩ := bs1 h
        refine s_do rfl ha (ltd rfl) (d_ld ha rfl Try.isAgg58 (ldP_c e52)) (fun a ha => ?_)
        refine s_do rfl ha (ltd rfl) (d_move ha rfl) (fun a ha => ?_)
        obtain ⟨v53, v54, w55, e56, h⟩ := bs3 h
        refine s_do rfl ha (ltd rfl) (d_call (xs := [_, _]) (vs := [(.pointer v51), (.int .i64 a1)]) ha ⟨rfl, rfl, trivial⟩ Try.call35 (mark_Cells_Get_ok e56)) (fun a ha => ?_)
        refine s_do rfl ha (ltd rfl) (d_move ha rfl) (fun a ha => ?_)
        refine s_do rfl ha (ltd rfl) (d_ext ha rfl rfl) (fun a ha => ?_)
        refine s_do rfl ha (ltd rfl) (d_ext ha rfl rfl) (fun a ha => ?_)
        refine s_do rfl ha (ltd rfl) (d_assign ha rfl) (fun a ha => ?_)
        refine s_do rfl ha (ltd rfl) (d_assign ha rfl) (fun a ha => ?_)
        refine s_nil ?_
        refine t_n ?_
        replace ha : Has 116 [(1, (.int .i64 a1)), (2, (.int .i64 a2)), (7, (.pointer v1)), (9, (.pointer (some p6))), (10, (.pointer (some p9))), (12, (.int .i64 v53)), (13, (.bool v54))] _ := ha.sub ⟨rfl, rfl, rfl, rfl, rfl, rfl, rfl, trivial⟩
        refine wp_seq ?_
        refine wp_seq ?_
        refine region_lit ?_
        refine s_do rfl ha (ltd rfl) (d_assign ha rfl) (fun a ha => ?_)
        refine s_nil ?_
        refine t_n ?_
        replace ha : Has 116 [(1, (.int .i64 a1)), (2, (.int .i64 a2)), (7, (.pointer v1)), (9, (.pointer (some p6))), (10, (.pointer (some p9))), (12, (.int .i64 v53)), (13, (.bool v54)), (14, (.int .i64 0))] _ := ha.sub ⟨rfl, rfl, rfl, rfl, rfl, rfl, rfl, rfl, trivial⟩
        refine wp_block ?_
        obtain ⟨r59, e60, h⟩ := bs1 h
        refine s_loop2 (n := 116) (L1 := fun i => [(1, (.int .i64 a1)), (2, (.int .i64 a2)), (12, (.int .i64 v53)), (13, (.bool v54))]) (w1 := fun i => i) (L2 := fun i => [(6, (.bool i.1))]) (w2 := fun i => i.2) (e1 := .exit 2) (e2 := .ret) (I := fun (s : Int × World) a w => Has 116 [(14, (.int .i64 s.1)), (1, (.int .i64 a1)), (2, (.int .i64 a2)), (7, (.pointer v1)), (9, (.pointer (some p6))), (10, (.pointer (some p9))), (12, (.int .i64 v53)), (13, (.bool v54))] a ∧ w = s.2) ⟨ha.sub ⟨rfl, rfl, rfl, rfl, rfl, rfl, rfl, rfl, trivial⟩, rfl⟩ e60 (fun i hi a ha => ?_) (fun i hi a ha => ?_) (fun hk64 hk65 => ?_)
        · subst hi
          obtain w61 := i
          dsimp only [Sum.elim_inl, Sum.elim_inr, u1, u2, u3, u4, u5, u6] at h
          have ha : Has 116 [(1, (.int .i64 a1)), (2, (.int .i64 a2)), (12, (.int .i64 v53)), (13, (.bool v54))] a := ha
          refine b_hit ?_
          refine t_n ?_
          replace ha : Has 116 [(1, (.int .i64 a1)), (2, (.int .i64 a2)), (12, (.int .i64 v53)), (13, (.bool v54))] _ := ha.sub ⟨rfl, rfl, rfl, rfl, trivial⟩
          refine wp_seq ?_
          obtain ⟨v91, w92, e93, h⟩ := bs2 h
          refine reg_join (n := 116) (L := [(6, (.bool v91))]) (w' := w92) (fun a ha => ?_) (fun hk94 => ?_)
          · refine t_n ?_
            replace ha : Has 116 [(6, (.bool v91))] _ := ha.sub ⟨rfl, trivial⟩
            refine wp_ret ?_
            have hS := ha
            cases h
            exact ret1 Try.results14 hS rfl ⟨rfl, rfl⟩
          · clear h
            have h := e93
            refine region_lit ?_
            obtain ⟨v95, w96, e97, h⟩ := bs2 h
            refine s_do rfl ha (ltd rfl) (d_call (xs := []) (vs := []) ha trivial Try.call37 (grapevinelaw10_live_ok e97)) (fun a ha => ?_)
            refine s_do rfl ha (ltd rfl) (d_move ha rfl) (fun a ha => ?_)
            refine ite_s h (fun b98 h => ?_) (fun b98 h => ?_)
            · refine s_do_g2 rfl rfl ha (rfl : List.lookup 92 _ = _) b98 (ltd rfl) (d_move ha rfl) (fun a ha => ?_)
              refine s_do rfl ha (ltd rfl) (d_pick_t ha rfl b98 rfl) (fun a ha => ?_)
              refine s_do rfl ha (ltd rfl) (d_move ha rfl) (fun a ha => ?_)
              refine ite_s h (fun b99 h => ?_) (fun b99 h => ?_)
              · refine s_do_g2 rfl rfl ha (rfl : List.lookup 95 _ = _) b99 (ltd rfl) (d_move ha rfl) (fun a ha => ?_)
                refine s_do_g2 rfl rfl ha (rfl : List.lookup 95 _ = _) b99 (ltd rfl) (d_move ha rfl) (fun a ha => ?_)
                refine s_do_g2 rfl rfl ha (rfl : List.lookup 95 _ = _) b99 (ltd rfl) (d_eq ha rfl rfl) (fun a ha => ?_)
                refine s_do rfl ha (ltd rfl) (d_pick_t ha rfl b99 rfl) (fun a ha => ?_)
                refine s_do rfl ha (ltd rfl) (d_move ha rfl) (fun a ha => ?_)
                refine ite_s h (fun b100 h => ?_) (fun b100 h => ?_)
                · refine s_do_g2 rfl rfl ha (rfl : List.lookup 100 _ = _) b100 (ltd rfl) (d_move ha rfl) (fun a ha => ?_)
                  refine s_do_g2 rfl rfl ha (rfl : List.lookup 100 _ = _) b100 (ltd rfl) (d_ge ha rfl rfl) (fun a ha => ?_)
                  refine s_do rfl ha (ltd rfl) (d_pick_t ha rfl b100 rfl) (fun a ha => ?_)
                  refine s_do rfl ha (ltd rfl) (d_move ha rfl) (fun a ha => ?_)
                  refine ite_s h (fun b101 h => ?_) (fun b101 h => ?_)
                  · refine s_do_g2 rfl rfl ha (rfl : List.lookup 104 _ = _) b101 (ltd rfl) (d_move ha rfl) (fun a ha => ?_)
                    refine s_do_g2 rfl rfl ha (rfl : List.lookup 104 _ = _) b101 (ltd rfl) (d_lt ha rfl rfl) (fun a ha => ?_)
                    refine s_do rfl ha (ltd rfl) (d_pick_t ha rfl b101 rfl) (fun a ha => ?_)
                    refine s_do rfl ha (ltd rfl) (d_move ha rfl) (fun a ha => ?_)
                    refine ite_s h (fun b102 h => ?_) (fun b102 h => ?_)
                    · refine s_do_g2 rfl rfl ha (rfl : List.lookup 108 _ = _) b102 (ltd rfl) (d_move ha rfl) (fun a ha => ?_)
                      refine s_do_g2 rfl rfl ha (rfl : List.lookup 108 _ = _) b102 (ltd rfl) (d_ge ha rfl rfl) (fun a ha => ?_)
                      refine s_do rfl ha (ltd rfl) (d_pick_t ha rfl b102 rfl) (fun a ha => ?_)
                      refine s_do rfl ha (ltd rfl) (d_move ha rfl) (fun a ha => ?_)
                      refine ite_s h (fun b103 h => ?_) (fun b103 h => ?_)
                      · refine s_do_g2 rfl rfl ha (rfl : List.lookup 112 _ = _) b103 (ltd rfl) (d_move ha rfl) (fun a ha => ?_)
                        refine s_do_g2 rfl rfl ha (rfl : List.lookup 112 _ = _) b103 (ltd rfl) (d_le ha rfl rfl) (fun a ha => ?_)
                        refine s_do rfl ha (ltd rfl) (d_pick_t ha rfl b103 rfl) (fun a ha => ?_)
                        refine s_do rfl ha (ltd rfl) (d_assign ha rfl) (fun a ha => ?_)
                        refine s_nil ?_
                        have hS : Has 116 [(6, (.bool (decide (a2 ≤ 1099511627776))))] _ := ha.sub ⟨rfl, trivial⟩
                        cases h
                        exact hk94 _ hS
                      · refine s_no_g rfl rfl ha (rfl : List.lookup 112 _ = _) (nn b103 _ rfl) (ltd rfl) (fun a ha => ?_)
                        refine s_no_g rfl rfl ha (rfl : List.lookup 112 _ = _) (nn b103 _ rfl) (ltd rfl) (fun a ha => ?_)
                        refine s_do rfl ha (ltd rfl) (d_pick_f ha rfl b103 rfl) (fun a ha => ?_)
                        refine s_do rfl ha (ltd rfl) (d_assign ha rfl) (fun a ha => ?_)
                        refine s_nil ?_
                        have hS : Has 116 [(6, (.bool false))] _ := ha.sub ⟨rfl, trivial⟩
                        cases h
                        exact hk94 _ hS
                    · refine s_no_g rfl rfl ha (rfl : List.lookup 108 _ = _) (nn b102 _ rfl) (ltd rfl) (fun a ha => ?_)
                      refine s_no_g rfl rfl ha (rfl : List.lookup 108 _ = _) (nn b102 _ rfl) (ltd rfl) (fun a ha => ?_)
                      refine s_do rfl ha (ltd rfl) (d_pick_f ha rfl b102 rfl) (fun a ha => ?_)
                      refine s_do rfl ha (ltd rfl) (d_move ha rfl) (fun a ha => ?_)
                      refine s_no_g rfl rfl ha (rfl : List.lookup 112 _ = _) (nn (by decide) _ rfl) (ltd rfl) (fun a ha => ?_)
                      refine s_no_g rfl rfl ha (rfl : List.lookup 112 _ = _) (nn (by decide) _ rfl) (ltd rfl) (fun a ha => ?_)
                      refine s_do rfl ha (ltd rfl) (d_pick_f ha rfl (by decide) rfl) (fun a ha => ?_)
                      refine s_do rfl ha (ltd rfl) (d_assign ha rfl) (fun a ha => ?_)
                      refine s_nil ?_
                      have hS : Has 116 [(6, (.bool false))] _ := ha.sub ⟨rfl, trivial⟩
                      cases h
                      exact hk94 _ hS
                  · refine s_no_g rfl rfl ha (rfl : List.lookup 104 _ = _) (nn b101 _ rfl) (ltd rfl) (fun a ha => ?_)
                    refine s_no_g rfl rfl ha (rfl : List.lookup 104 _ = _) (nn b101 _ rfl) (ltd rfl) (fun a ha => ?_)
                    refine s_do rfl ha (ltd rfl) (d_pick_f ha rfl b101 rfl) (fun a ha => ?_)
                    refine s_do rfl ha (ltd rfl) (d_move ha rfl) (fun a ha => ?_)
                    refine s_no_g rfl rfl ha (rfl : List.lookup 108 _ = _) (nn (by decide) _ rfl) (ltd rfl) (fun a ha => ?_)
                    refine s_no_g rfl rfl ha (rfl : List.lookup 108 _ = _) (nn (by decide) _ rfl) (ltd rfl) (fun a ha => ?_)
                    refine s_do rfl ha (ltd rfl) (d_pick_f ha rfl (by decide) rfl) (fun a ha => ?_)
                    refine s_do rfl ha (ltd rfl) (d_move ha rfl) (fun a ha => ?_)
                    refine s_no_g rfl rfl ha (rfl : List.lookup 112 _ = _) (nn (by decide) _ rfl) (ltd rfl) (fun a ha => ?_)
                    refine s_no_g rfl rfl ha (rfl : List.lookup 112 _ = _) (nn (by decide) _ rfl) (ltd rfl) (fun a ha => ?_)
                    refine s_do rfl ha (ltd rfl) (d_pick_f ha rfl (by decide) rfl) (fun a ha => ?_)
                    refine s_do rfl ha (ltd rfl) (d_assign ha rfl) (fun a ha => ?_)
                    refine s_nil ?_
                    have hS : Has 116 [(6, (.bool false))] _ := ha.sub ⟨rfl, trivial⟩
                    cases h
                    exact hk94 _ hS
                · refine s_no_g rfl rfl ha (rfl : List.lookup 100 _ = _) (nn b100 _ rfl) (ltd rfl) (fun a ha => ?_)
                  refine s_no_g rfl rfl ha (rfl : List.lookup 100 _ = _) (nn b100 _ rfl) (ltd rfl) (fun a ha => ?_)
                  refine s_do rfl ha (ltd rfl) (d_pick_f ha rfl b100 rfl) (fun a ha => ?_)
                  refine s_do rfl ha (ltd rfl) (d_move ha rfl) (fun a ha => ?_)
                  refine s_no_g rfl rfl ha (rfl : List.lookup 104 _ = _) (nn (by decide) _ rfl) (ltd rfl) (fun a ha => ?_)
                  refine s_no_g rfl rfl ha (rfl : List.lookup 104 _ = _) (nn (by decide) _ rfl) (ltd rfl) (fun a ha => ?_)
                  refine s_do rfl ha (ltd rfl) (d_pick_f ha rfl (by decide) rfl) (fun a ha => ?_)
                  refine s_do rfl ha (ltd rfl) (d_move ha rfl) (fun a ha => ?_)
                  refine s_no_g rfl rfl ha (rfl : List.lookup 108 _ = _) (nn (by decide) _ rfl) (ltd rfl) (fun a ha => ?_)
                  refine s_no_g rfl rfl ha (rfl : List.lookup 108 _ = _) (nn (by decide) _ rfl) (ltd rfl) (fun a ha => ?_)
                  refine s_do rfl ha (ltd rfl) (d_pick_f ha rfl (by decide) rfl) (fun a ha => ?_)
                  refine s_do rfl ha (ltd rfl) (d_move ha rfl) (fun a ha => ?_)
                  refine s_no_g rfl rfl ha (rfl : List.lookup 112 _ = _) (nn (by decide) _ rfl) (ltd rfl) (fun a ha => ?_)
                  refine s_no_g rfl rfl ha (rfl : List.lookup 112 _ = _) (nn (by decide) _ rfl) (ltd rfl) (fun a ha => ?_)
                  refine s_do rfl ha (ltd rfl) (d_pick_f ha rfl (by decide) rfl) (fun a ha => ?_)
                  refine s_do rfl ha (ltd rfl) (d_assign ha rfl) (fun a ha => ?_)
                  refine s_nil ?_
                  have hS : Has 116 [(6, (.bool false))] _ := ha.sub ⟨rfl, trivial⟩
                  cases h
                  exact hk94 _ hS
              · refine s_no_g rfl rfl ha (rfl : List.lookup 95 _ = _) (nn b99 _ rfl) (ltd rfl) (fun a ha => ?_)
                refine s_no_g rfl rfl ha (rfl : List.lookup 95 _ = _) (nn b99 _ rfl) (ltd rfl) (fun a ha => ?_)
                refine s_no_g rfl rfl ha (rfl : List.lookup 95 _ = _) (nn b99 _ rfl) (ltd rfl) (fun a ha => ?_)
                refine s_do rfl ha (ltd rfl) (d_pick_f ha rfl b99 rfl) (fun a ha => ?_)
                refine s_do rfl ha (ltd rfl) (d_move ha rfl) (fun a ha => ?_)
                refine s_no_g rfl rfl ha (rfl : List.lookup 100 _ = _) (nn (by decide) _ rfl) (ltd rfl) (fun a ha => ?_)
                refine s_no_g rfl rfl ha (rfl : List.lookup 100 _ = _) (nn (by decide) _ rfl) (ltd rfl) (fun a ha => ?_)
                refine s_do rfl ha (ltd rfl) (d_pick_f ha rfl (by decide) rfl) (fun a ha => ?_)
                refine s_do rfl ha (ltd rfl) (d_move ha rfl) (fun a ha => ?_)
                refine s_no_g rfl rfl ha (rfl : List.lookup 104 _ = _) (nn (by decide) _ rfl) (ltd rfl) (fun a ha => ?_)
                refine s_no_g rfl rfl ha (rfl : List.lookup 104 _ = _) (nn (by decide) _ rfl) (ltd rfl) (fun a ha => ?_)
                refine s_do rfl ha (ltd rfl) (d_pick_f ha rfl (by decide) rfl) (fun a ha => ?_)
                refine s_do rfl ha (ltd rfl) (d_move ha rfl) (fun a ha => ?_)
                refine s_no_g rfl rfl ha (rfl : List.lookup 108 _ = _) (nn (by decide) _ rfl) (ltd rfl) (fun a ha => ?_)
                refine s_no_g rfl rfl ha (rfl : List.lookup 108 _ = _) (nn (by decide) _ rfl) (ltd rfl) (fun a ha => ?_)
                refine s_do rfl ha (ltd rfl) (d_pick_f ha rfl (by decide) rfl) (fun a ha => ?_)
                refine s_do rfl ha (ltd rfl) (d_move ha rfl) (fun a ha => ?_)
                refine s_no_g rfl rfl ha (rfl : List.lookup 112 _ = _) (nn (by decide) _ rfl) (ltd rfl) (fun a ha => ?_)
                refine s_no_g rfl rfl ha (rfl : List.lookup 112 _ = _) (nn (by decide) _ rfl) (ltd rfl) (fun a ha => ?_)
                refine s_do rfl ha (ltd rfl) (d_pick_f ha rfl (by decide) rfl) (fun a ha => ?_)
                refine s_do rfl ha (ltd rfl) (d_assign ha rfl) (fun a ha => ?_)
                refine s_nil ?_
                have hS : Has 116 [(6, (.bool false))] _ := ha.sub ⟨rfl, trivial⟩
                cases h
                exact hk94 _ hS
            · refine s_no_g rfl rfl ha (rfl : List.lookup 92 _ = _) (nn b98 _ rfl) (ltd rfl) (fun a ha => ?_)
              refine s_do rfl ha (ltd rfl) (d_pick_f ha rfl b98 rfl) (fun a ha => ?_)
              refine s_do rfl ha (ltd rfl) (d_move ha rfl) (fun a ha => ?_)
              refine s_no_g rfl rfl ha (rfl : List.lookup 95 _ = _) (nn (by decide) _ rfl) (ltd rfl) (fun a ha => ?_)
              refine s_no_g rfl rfl ha (rfl : List.lookup 95 _ = _) (nn (by decide) _ rfl) (ltd rfl) (fun a ha => ?_)
              refine s_no_g rfl rfl ha (rfl : List.lookup 95 _ = _) (nn (by decide) _ rfl) (ltd rfl) (fun a ha => ?_)
              refine s_do rfl ha (ltd rfl) (d_pick_f ha rfl (by decide) rfl) (fun a ha => ?_)
              refine s_do rfl ha (ltd rfl) (d_move ha rfl) (fun a ha => ?_)
              refine s_no_g rfl rfl ha (rfl : List.lookup 100 _ = _) (nn (by decide) _ rfl) (ltd rfl) (fun a ha => ?_)
              refine s_no_g rfl rfl ha (rfl : List.lookup 100 _ = _) (nn (by decide) _ rfl) (ltd rfl) (fun a ha => ?_)
              refine s_do rfl ha (ltd rfl) (d_pick_f ha rfl (by decide) rfl) (fun a ha => ?_)
              refine s_do rfl ha (ltd rfl) (d_move ha rfl) (fun a ha => ?_)
              refine s_no_g rfl rfl ha (rfl : List.lookup 104 _ = _) (nn (by decide) _ rfl) (ltd rfl) (fun a ha => ?_)
              refine s_no_g rfl rfl ha (rfl : List.lookup 104 _ = _) (nn (by decide) _ rfl) (ltd rfl) (fun a ha => ?_)
              refine s_do rfl ha (ltd rfl) (d_pick_f ha rfl (by decide) rfl) (fun a ha => ?_)
              refine s_do rfl ha (ltd rfl) (d_move ha rfl) (fun a ha => ?_)
              refine s_no_g rfl rfl ha (rfl : List.lookup 108 _ = _) (nn (by decide) _ rfl) (ltd rfl) (fun a ha => ?_)
              refine s_no_g rfl rfl ha (rfl : List.lookup 108 _ = _) (nn (by decide) _ rfl) (ltd rfl) (fun a ha => ?_)
              refine s_do rfl ha (ltd rfl) (d_pick_f ha rfl (by decide) rfl) (fun a ha => ?_)
              refine s_do rfl ha (ltd rfl) (d_move ha rfl) (fun a ha => ?_)
              refine s_no_g rfl rfl ha (rfl : List.lookup 112 _ = _) (nn (by decide) _ rfl) (ltd rfl) (fun a ha => ?_)
              refine s_no_g rfl rfl ha (rfl : List.lookup 112 _ = _) (nn (by decide) _ rfl) (ltd rfl) (fun a ha => ?_)
              refine s_do rfl ha (ltd rfl) (d_pick_f ha rfl (by decide) rfl) (fun a ha => ?_)
              refine s_do rfl ha (ltd rfl) (d_assign ha rfl) (fun a ha => ?_)
              refine s_nil ?_
              have hS : Has 116 [(6, (.bool false))] _ := ha.sub ⟨rfl, trivial⟩
              cases h
              exact hk94 _ hS
        · subst hi
          obtain ⟨v62, w63⟩ := i
          dsimp only [Sum.elim_inl, Sum.elim_inr, u1, u2, u3, u4, u5, u6] at h
          have ha : Has 116 [(6, (.bool v62))] a := ha
          refine b_r ?_
          refine t_r ?_
          have hS := ha
          cases h
          exact ret1 Try.results14 hS rfl ⟨rfl, rfl⟩
        · clear h
          rintro ⟨x57, w58⟩ a wq o ⟨ha, hwq⟩ h hr66
          obtain rfl : w58 = wq := hwq.symm
          have ha : Has 116 [(14, (.int .i64 x57)), (1, (.int .i64 a1)), (2, (.int .i64 a2)), (7, (.pointer v1)), (9, (.pointer (some p6))), (10, (.pointer (some p9))), (12, (.int .i64 v53)), (13, (.bool v54))] a := ha
          have h : grapevinelaw10_MarkBack_l2 v1 a1 p6 p9 x57 w58 = some o := h
          unfold grapevinelaw10_MarkBack_l2 at h
          refine wp_seq ?_
          refine wp_seq ?_
          refine region_lit ?_
          refine s_do rfl ha (ltd rfl) (d_move ha rfl) (fun a ha => ?_)
          refine s_do rfl ha (ltd rfl) (d_lt ha rfl rfl) (fun a ha => ?_)
          refine s_nil ?_
          refine t_n ?_
          replace ha : Has 116 [(1, (.int .i64 a1)), (2, (.int .i64 a2)), (7, (.pointer v1)), (9, (.pointer (some p6))), (10, (.pointer (some p9))), (12, (.int .i64 v53)), (13, (.bool v54)), (14, (.int .i64 x57)), (62, (.bool (decide (x57 < 3))))] _ := ha.sub ⟨rfl, rfl, rfl, rfl, rfl, rfl, rfl, rfl, rfl, trivial⟩
          refine s_cond ha rfl h (fun b67 h => ?_) (fun b67 h => ?_)
          · refine wp_skip ?_
            refine t_n ?_
            replace ha : Has 116 [(1, (.int .i64 a1)), (2, (.int .i64 a2)), (7, (.pointer v1)), (9, (.pointer (some p6))), (10, (.pointer (some p9))), (12, (.int .i64 v53)), (13, (.bool v54)), (14, (.int .i64 x57))] _ := ha.sub ⟨rfl, rfl, rfl, rfl, rfl, rfl, rfl, rfl, trivial⟩
            refine wp_seq ?_
            refine wp_block ?_
            refine wp_seq ?_
            refine region_lit ?_
            refine s_do rfl ha (ltd rfl) (d_move ha rfl) (fun a ha => ?_)
            obtain ⟨p68, e69, h⟩ := bs1 h
            refine s_do rfl ha (ltd rfl) (d_nilp ha rfl e69) (fun a ha => ?_)
            refine s_do rfl ha (ltd rfl) (d_fa ha rfl Try.runUnderlying75 rfl rfl Try.sizeOf58 (by decide)) (fun a ha => ?_)
            obtain ⟨v70, e71, h⟩ := bs1 h
            refine s_do rfl ha (ltd rfl) (d_ld ha rfl Try.isAgg58 (ldP_c e71)) (fun a ha => ?_)
            refine s_do rfl ha (ltd rfl) (d_move ha rfl) (fun a ha => ?_)
            obtain ⟨v72, v73, w74, e75, h⟩ := bs3 h
            refine s_do rfl ha (ltd rfl) (d_call (xs := [_, _]) (vs := [(.pointer v70), (.int .i64 x57)]) ha ⟨rfl, rfl, trivial⟩ Try.call35 (mark_Cells_Get_ok e75)) (fun a ha => ?_)
            refine s_do rfl ha (ltd rfl) (d_move ha rfl) (fun a ha => ?_)
            refine s_do rfl ha (ltd rfl) (d_ext ha rfl rfl) (fun a ha => ?_)
            refine s_do rfl ha (ltd rfl) (d_ext ha rfl rfl) (fun a ha => ?_)
            refine s_do rfl ha (ltd rfl) (d_assign ha rfl) (fun a ha => ?_)
            refine s_do rfl ha (ltd rfl) (d_assign ha rfl) (fun a ha => ?_)
            refine s_nil ?_
            refine t_n ?_
            replace ha : Has 116 [(1, (.int .i64 a1)), (2, (.int .i64 a2)), (7, (.pointer v1)), (9, (.pointer (some p6))), (10, (.pointer (some p9))), (12, (.int .i64 v53)), (13, (.bool v54)), (14, (.int .i64 x57)), (15, (.int .i64 v72)), (16, (.bool v73))] _ := ha.sub ⟨rfl, rfl, rfl, rfl, rfl, rfl, rfl, rfl, rfl, rfl, trivial⟩
            refine wp_seq ?_
            obtain ⟨v76, w77, e78, h⟩ := bs2 h
            refine reg_join (n := 116) (L := [(90, (.bool v76)), (1, (.int .i64 a1)), (2, (.int .i64 a2)), (7, (.pointer v1)), (9, (.pointer (some p6))), (10, (.pointer (some p9))), (12, (.int .i64 v53)), (13, (.bool v54)), (14, (.int .i64 x57))]) (w' := w77) (fun a ha => ?_) (fun hk79 => ?_)
            · refine t_n ?_
              replace ha : Has 116 [(1, (.int .i64 a1)), (2, (.int .i64 a2)), (7, (.pointer v1)), (9, (.pointer (some p6))), (10, (.pointer (some p9))), (12, (.int .i64 v53)), (13, (.bool v54)), (14, (.int .i64 x57)), (90, (.bool v76))] _ := ha.sub ⟨rfl, rfl, rfl, rfl, rfl, rfl, rfl, rfl, rfl, trivial⟩
              refine s_cond ha rfl h (fun b90 h => ?_) (fun b90 h => ?_)
              · refine wp_seq ?_
                refine region_lit ?_
                refine s_do rfl ha (ltd rfl) (d_assign ha rfl) (fun a ha => ?_)
                refine s_nil ?_
                refine t_n ?_
                replace ha : Has 116 [(6, (.bool false))] _ := ha.sub ⟨rfl, trivial⟩
                refine wp_ret ?_
                refine b_r ?_
                refine t_r ?_
                have hS : Has 116 [(6, (.bool false))] _ := ha.sub ⟨rfl, trivial⟩
                cases h
                cases hr66 _ rfl
                refine lp_r ?_
                exact hk65 _ rfl _ hS
              · refine wp_skip ?_
                refine b_n ?_
                refine t_n ?_
                replace ha : Has 116 [(1, (.int .i64 a1)), (2, (.int .i64 a2)), (7, (.pointer v1)), (9, (.pointer (some p6))), (10, (.pointer (some p9))), (12, (.int .i64 v53)), (13, (.bool v54)), (14, (.int .i64 x57))] _ := ha.sub ⟨rfl, rfl, rfl, rfl, rfl, rfl, rfl, rfl, trivial⟩
                refine region_lit ?_
                refine s_do rfl ha (ltd rfl) (d_move ha rfl) (fun a ha => ?_)
                refine s_do rfl ha (ltd rfl) (d_add ha rfl rfl) (fun a ha => ?_)
                refine s_do rfl ha (ltd rfl) (d_assign ha rfl) (fun a ha => ?_)
                refine s_nil ?_
                have hS : Has 116 [(14, (.int .i64 (IntKind.wrap .i64 (x57 + 1)))), (1, (.int .i64 a1)), (2, (.int .i64 a2)), (7, (.pointer v1)), (9, (.pointer (some p6))), (10, (.pointer (some p9))), (12, (.int .i64 v53)), (13, (.bool v54))] _ := ha.sub ⟨rfl, rfl, rfl, rfl, rfl, rfl, rfl, rfl, trivial⟩
                cases h
                exact lp_next ⟨hS, rfl⟩
            · clear h
              have h := e78
              refine region_lit ?_
              refine s_do rfl ha (ltd rfl) (d_move ha rfl) (fun a ha => ?_)
              refine s_do rfl ha (ltd rfl) (d_move ha rfl) (fun a ha => ?_)
              refine s_do rfl ha (ltd rfl) (d_ne ha rfl rfl) (fun a ha => ?_)
              refine s_do rfl ha (ltd rfl) (d_move ha rfl) (fun a ha => ?_)
              refine ite_s h (fun b80 h => ?_) (fun b80 h => ?_)
              · refine s_do_g2 rfl rfl ha (rfl : List.lookup 77 _ = _) b80 (ltd rfl) (d_move ha rfl) (fun a ha => ?_)
                refine s_do_g2 rfl rfl ha (rfl : List.lookup 77 _ = _) b80 (ltd rfl) (d_move ha rfl) (fun a ha => ?_)
                obtain ⟨p81, e82, h⟩ := bs1 h
                refine s_do_g2 rfl rfl ha (rfl : List.lookup 77 _ = _) b80 (ltd rfl) (d_ixA ha rfl rfl Try.runUnderlying71 Try.sizeOf3 e82) (fun a ha => ?_)
                obtain ⟨v83, e84, h⟩ := bs1 h
                refine s_do_g2 rfl rfl ha (rfl : List.lookup 77 _ = _) b80 (ltd rfl) (d_ld ha rfl Try.isAgg3 (ldI_c e84)) (fun a ha => ?_)
                refine s_do_g2 rfl rfl ha (rfl : List.lookup 77 _ = _) b80 (ltd rfl) (d_ne ha rfl rfl) (fun a ha => ?_)
                refine s_do_g2 rfl rfl ha (rfl : List.lookup 77 _ = _) b80 (ltd rfl) (d_move ha rfl) (fun a ha => ?_)
                refine ite_s h (fun b85 h => ?_) (fun b85 h => ?_)
                · refine s_no_g rfl rfl ha (rfl : List.lookup 83 _ = _) (tn b85) (ltd rfl) (fun a ha => ?_)
                  refine s_no_g rfl rfl ha (rfl : List.lookup 83 _ = _) (tn b85) (ltd rfl) (fun a ha => ?_)
                  refine s_no_g rfl rfl ha (rfl : List.lookup 83 _ = _) (tn b85) (ltd rfl) (fun a ha => ?_)
                  refine s_no_g rfl rfl ha (rfl : List.lookup 83 _ = _) (tn b85) (ltd rfl) (fun a ha => ?_)
                  refine s_no_g rfl rfl ha (rfl : List.lookup 83 _ = _) (tn b85) (ltd rfl) (fun a ha => ?_)
                  refine s_do_g2 rfl rfl ha (rfl : List.lookup 77 _ = _) b80 (ltd rfl) (d_pick_t ha rfl b85 rfl) (fun a ha => ?_)
                  refine s_do rfl ha (ltd rfl) (d_pick_t ha rfl b80 rfl) (fun a ha => ?_)
                  refine s_nil ?_
                  have hS : Has 116 [(90, (.bool true)), (1, (.int .i64 a1)), (2, (.int .i64 a2)), (7, (.pointer v1)), (9, (.pointer (some p6))), (10, (.pointer (some p9))), (12, (.int .i64 v53)), (13, (.bool v54)), (14, (.int .i64 x57))] _ := ha.sub ⟨rfl, rfl, rfl, rfl, rfl, rfl, rfl, rfl, rfl, trivial⟩
                  cases h
                  exact hk79 _ hS
                · refine s_do_g2 rfl rfl ha (rfl : List.lookup 83 _ = _) (nt b85) (ltd rfl) (d_move ha rfl) (fun a ha => ?_)
                  refine s_do_g2 rfl rfl ha (rfl : List.lookup 83 _ = _) (nt b85) (ltd rfl) (d_move ha rfl) (fun a ha => ?_)
                  obtain ⟨p86, e87, h⟩ := bs1 h
                  refine s_do_g2 rfl rfl ha (rfl : List.lookup 83 _ = _) (nt b85) (ltd rfl) (d_ixA ha rfl rfl Try.runUnderlying72 Try.sizeOf4 e87) (fun a ha => ?_)
                  obtain ⟨v88, e89, h⟩ := bs1 h
                  refine s_do_g2 rfl rfl ha (rfl : List.lookup 83 _ = _) (nt b85) (ltd rfl) (d_ld ha rfl Try.isAgg4 (ldB_c e89)) (fun a ha => ?_)
                  refine s_do_g2 rfl rfl ha (rfl : List.lookup 83 _ = _) (nt b85) (ltd rfl) (d_neB ha rfl rfl Try.runUnderlying4) (fun a ha => ?_)
                  refine s_do_g2 rfl rfl ha (rfl : List.lookup 77 _ = _) b80 (ltd rfl) (d_pick_f ha rfl b85 rfl) (fun a ha => ?_)
                  refine s_do rfl ha (ltd rfl) (d_pick_t ha rfl b80 rfl) (fun a ha => ?_)
                  refine s_nil ?_
                  have hS : Has 116 [(90, (.bool (v73 != v88))), (1, (.int .i64 a1)), (2, (.int .i64 a2)), (7, (.pointer v1)), (9, (.pointer (some p6))), (10, (.pointer (some p9))), (12, (.int .i64 v53)), (13, (.bool v54)), (14, (.int .i64 x57))] _ := ha.sub ⟨rfl, rfl, rfl, rfl, rfl, rfl, rfl, rfl, rfl, trivial⟩
                  cases h
                  exact hk79 _ hS
              · refine s_no_g rfl rfl ha (rfl : List.lookup 77 _ = _) (nn b80 _ rfl) (ltd rfl) (fun a ha => ?_)
                refine s_no_g rfl rfl ha (rfl : List.lookup 77 _ = _) (nn b80 _ rfl) (ltd rfl) (fun a ha => ?_)
                refine s_no_g rfl rfl ha (rfl : List.lookup 77 _ = _) (nn b80 _ rfl) (ltd rfl) (fun a ha => ?_)
                refine s_no_g rfl rfl ha (rfl : List.lookup 77 _ = _) (nn b80 _ rfl) (ltd rfl) (fun a ha => ?_)
                refine s_no_g rfl rfl ha (rfl : List.lookup 77 _ = _) (nn b80 _ rfl) (ltd rfl) (fun a ha => ?_)
                refine s_no_g rfl rfl ha (rfl : List.lookup 77 _ = _) (nn b80 _ rfl) (ltd rfl) (fun a ha => ?_)
                refine s_no_u rfl rfl ha (rfl : List.lookup 83 _ = _) (ltd rfl) (fun a ha => ?_)
                refine s_no_u rfl rfl ha (rfl : List.lookup 83 _ = _) (ltd rfl) (fun a ha => ?_)
                refine s_no_u rfl rfl ha (rfl : List.lookup 83 _ = _) (ltd rfl) (fun a ha => ?_)
                refine s_no_u rfl rfl ha (rfl : List.lookup 83 _ = _) (ltd rfl) (fun a ha => ?_)
                refine s_no_u rfl rfl ha (rfl : List.lookup 83 _ = _) (ltd rfl) (fun a ha => ?_)
                refine s_no_g rfl rfl ha (rfl : List.lookup 77 _ = _) (nn b80 _ rfl) (ltd rfl) (fun a ha => ?_)
                refine s_do rfl ha (ltd rfl) (d_pick_f ha rfl b80 rfl) (fun a ha => ?_)
                refine s_nil ?_
                have hS : Has 116 [(90, (.bool false)), (1, (.int .i64 a1)), (2, (.int .i64 a2)), (7, (.pointer v1)), (9, (.pointer (some p6))), (10, (.pointer (some p9))), (12, (.int .i64 v53)), (13, (.bool v54)), (14, (.int .i64 x57))] _ := ha.sub ⟨rfl, rfl, rfl, rfl, rfl, rfl, rfl, rfl, rfl, trivial⟩
                cases h
                exact hk79 _ hS
          · refine wp_exit ?_
            refine t_x ?_
            have hS : Has 116 [(1, (.int .i64 a1)), (2, (.int .i64 a2)), (12, (.int .i64 v53)), (13, (.bool v54))] _ := ha.sub ⟨rfl, rfl, rfl, rfl, trivial⟩
            cases h
            cases hr66 _ rfl
            refine lp_x ?_
            exact hk64 _ rfl _ hS
    · clear h
      rintro ⟨x16, w17⟩ a wq o ⟨ha, hwq⟩ h hr22
      obtain rfl : w17 = wq := hwq.symm
      have ha : Has 116 [(11, (.int .i64 x16)), (1, (.int .i64 a1)), (2, (.int .i64 a2)), (7, (.pointer v1)), (9, (.pointer (some p6))), (10, (.pointer (some p9)))] a := ha
      have h : grapevinelaw10_MarkBack_l1 v1 p6 p9 x16 w17 = some o := h
      unfold grapevinelaw10_MarkBack_l1 at h
      refine wp_seq ?_
      refine wp_seq ?_
      refine region_lit ?_
      refine s_do rfl ha (ltd rfl) (d_move ha rfl) (fun a ha => ?_)
      refine s_do rfl ha (ltd rfl) (d_lt ha rfl rfl) (fun a ha => ?_)
      refine s_nil ?_
      refine t_n ?_
      replace ha : Has 116 [(1, (.int .i64 a1)), (2, (.int .i64 a2)), (7, (.pointer v1)), (9, (.pointer (some p6))), (10, (.pointer (some p9))), (11, (.int .i64 x16)), (27, (.bool (decide (x16 < 3))))] _ := ha.sub ⟨rfl, rfl, rfl, rfl, rfl, rfl, rfl, trivial⟩
      refine s_cond ha rfl h (fun b23 h => ?_) (fun b23 h => ?_)
      · refine wp_skip ?_
        refine t_n ?_
        replace ha : Has 116 [(1, (.int .i64 a1)), (2, (.int .i64 a2)), (7, (.pointer v1)), (9, (.pointer (some p6))), (10, (.pointer (some p9))), (11, (.int .i64 x16))] _ := ha.sub ⟨rfl, rfl, rfl, rfl, rfl, rfl, trivial⟩
        refine wp_seq ?_
        refine wp_block ?_
        refine region_lit ?_
        refine s_do rfl ha (ltd rfl) (d_move ha rfl) (fun a ha => ?_)
        refine s_do rfl ha (ltd rfl) (d_move ha rfl) (fun a ha => ?_)
        refine s_do rfl ha (ltd rfl) (d_move ha rfl) (fun a ha => ?_)
        obtain ⟨p24, e25, h⟩ := bs1 h
        refine s_do rfl ha (ltd rfl) (d_nilp ha rfl e25) (fun a ha => ?_)
        refine s_do rfl ha (ltd rfl) (d_fa ha rfl Try.runUnderlying75 rfl rfl Try.sizeOf58 (by decide)) (fun a ha => ?_)
        obtain ⟨v26, e27, h⟩ := bs1 h
        refine s_do rfl ha (ltd rfl) (d_ld ha rfl Try.isAgg58 (ldP_c e27)) (fun a ha => ?_)
        refine s_do rfl ha (ltd rfl) (d_move ha rfl) (fun a ha => ?_)
        obtain ⟨v28, v29, w30, e31, h⟩ := bs3 h
        refine s_do rfl ha (ltd rfl) (d_call (xs := [_, _]) (vs := [(.pointer v26), (.int .i64 x16)]) ha ⟨rfl, rfl, trivial⟩ Try.call35 (mark_Cells_Get_ok e31)) (fun a ha => ?_)
        refine s_do rfl ha (ltd rfl) (d_move ha rfl) (fun a ha => ?_)
        refine s_do rfl ha (ltd rfl) (d_ext ha rfl rfl) (fun a ha => ?_)
        refine s_do rfl ha (ltd rfl) (d_ext ha rfl rfl) (fun a ha => ?_)
        obtain ⟨p32, e33, h⟩ := bs1 h
        refine s_do rfl ha (ltd rfl) (d_ixA ha rfl rfl Try.runUnderlying71 Try.sizeOf3 e33) (fun a ha => ?_)
        obtain ⟨w34, e35, h⟩ := bs1 h
        refine s_do rfl ha (ltd rfl) (d_st ha rfl rfl Try.sizeOf3 e35) (fun a ha => ?_)
        obtain ⟨p36, e37, h⟩ := bs1 h
        refine s_do rfl ha (ltd rfl) (d_ixA ha rfl rfl Try.runUnderlying72 Try.sizeOf4 e37) (fun a ha => ?_)
        obtain ⟨w38, e39, h⟩ := bs1 h
        refine s_do rfl ha (ltd rfl) (d_st ha rfl rfl Try.sizeOf4 e39) (fun a ha => ?_)
        refine s_nil ?_
        refine b_n ?_
        refine t_n ?_
        replace ha : Has 116 [(1, (.int .i64 a1)), (2, (.int .i64 a2)), (7, (.pointer v1)), (9, (.pointer (some p6))), (10, (.pointer (some p9))), (11, (.int .i64 x16))] _ := ha.sub ⟨rfl, rfl, rfl, rfl, rfl, rfl, trivial⟩
        refine region_lit ?_
        refine s_do rfl ha (ltd rfl) (d_move ha rfl) (fun a ha => ?_)
        refine s_do rfl ha (ltd rfl) (d_add ha rfl rfl) (fun a ha => ?_)
        refine s_do rfl ha (ltd rfl) (d_assign ha rfl) (fun a ha => ?_)
        refine s_nil ?_
        have hS : Has 116 [(11, (.int .i64 (IntKind.wrap .i64 (x16 + 1)))), (1, (.int .i64 a1)), (2, (.int .i64 a2)), (7, (.pointer v1)), (9, (.pointer (some p6))), (10, (.pointer (some p9)))] _ := ha.sub ⟨rfl, rfl, rfl, rfl, rfl, rfl, trivial⟩
        cases h
        exact lp_next ⟨hS, rfl⟩
      · refine wp_exit ?_
        refine t_x ?_
        have hS : Has 116 [(1, (.int .i64 a1)), (2, (.int .i64 a2)), (7, (.pointer v1)), (9, (.pointer (some p6))), (10, (.pointer (some p9)))] _ := ha.sub ⟨rfl, rfl, rfl, rfl, rfl, trivial⟩
        cases h
        cases hr22 _ rfl
        refine lp_x ?_
        exact hk21 _ hS
end Go.Proofs.Ytoanmomopcaikaa.D
