/- Written by dec.py of this project: Go functions as plain functions over the memory, and that the Go calls come to these. -/
import Derived.Test.YtejkaciimmfgcaaClo
namespace Go.Proofs.Ytejkaciimmfgcaa.D
open Go
set_option linter.unusedVariables false
set_option linter.unusedSimpArgs false

noncomputable def cmp_Or_int_l1 (a0 : Sl) (x1 : Int) (w2 : World) : Option ((Int × World) ⊕ ((World) ⊕ (Int × World))) :=
  if (decide (x1 < (a0.n : Int))) = true then
  ((ix a0 x1 1).bind fun p12 =>
  (ldI .i64 w2 p12).bind fun v14 =>
  if (v14 != 0) = true then
  (some (.inr (.inr (v14, w2))))
  else
  (some (.inl ((IntKind.wrap .i64 (x1 + 1)), w2))))
  else
  (some (.inr (.inl w2)))
noncomputable def cmp_Or_int (a0 : Sl) (w : World) : Option (Int × World) :=
  (loopF (fun s : Int × World => cmp_Or_int_l1 a0 s.1 s.2) (0, w)).bind fun r3 => Sum.elim (fun (i : World) => u1 i fun w5 =>
  some (0, w5)) (fun (i : Int × World) => u2 i fun v6 w7 =>
  some (v6, w7)) r3
set_option maxHeartbeats 1000000 in
set_option maxRecDepth 100000 in
theorem cmp_Or_int_ok {a0 : Sl} {w w' : World} {r0 : Int} (h : cmp_Or_int a0 w = some (r0, w')) : Calls Try.prog 57 #[(Sl.v a0)] w fun e w'' => e = .returned (.int .i64 r0) ∧ w'' = w' := by
  refine calls_dec (n := 18) Try.func57 rfl Try.ntmps57 (by simp) fun a ha => ?_
  unfold cmp_Or_int at h
  refine wp_seq <| region_lit <| qa ha rfl fun a ha => s_nil <| t_n <| wp_seq <| region_lit <| qa ha rfl fun a ha => s_nil <| t_n <| wp_seq <| wp_seq <| region_lit <| qm ha rfl fun a ha => q ha (d_lenS ha rfl Try.runUnderlying34) fun a ha => qm ha rfl fun a ha => s_nil <| t_n <| wp_block <| ?_
  obtain ⟨r3, e4, h⟩ := bs1 h
  refine s_loop2 (n := 18) (L1 := fun i => [(3, (.int .i64 0))]) (w1 := fun i => i) (L2 := fun i => [(2, (.int .i64 i.1))]) (w2 := fun i => i.2) (e1 := .exit 0) (e2 := .ret) (I := fun (s : Int × World) a w => Has 18 [(8, (.int .i64 s.1)), (3, (.int .i64 0)), (6, (Sl.v a0)), (7, (.int .i64 (a0.n : Int)))] a ∧ w = s.2) ⟨ha.sub ⟨rfl, rfl, rfl, rfl, trivial⟩, rfl⟩ e4 (fun i hi a ha => ?_) (fun i hi a ha => ?_) (fun hk8 hk9 => ?_)
  · subst hi
    obtain ⟨w5, rfl⟩ : ∃ x, x = i := ⟨i, rfl⟩
    dsimp only [Sum.elim_inl, Sum.elim_inr, u1, u2, u3, u4, u5, u6] at h
    have ha : Has 18 [(3, (.int .i64 0))] a := ha
    refine b_hit <| t_n <| wp_seq <| region_lit <| qm ha rfl fun a ha => qa ha rfl fun a ha => s_nil <| t_n <| wp_ret <| ?_
    have hS := ha
    cases h
    exact ret1 Try.results57 hS rfl ⟨rfl, rfl⟩
  · subst hi
    obtain ⟨v6, w7⟩ := i
    dsimp only [Sum.elim_inl, Sum.elim_inr, u1, u2, u3, u4, u5, u6] at h
    have ha : Has 18 [(2, (.int .i64 v6))] a := ha
    refine b_r <| t_r <| ?_
    have hS := ha
    cases h
    exact ret1 Try.results57 hS rfl ⟨rfl, rfl⟩
  · clear h
    rintro ⟨x1, w2⟩ a wq o ⟨ha, hwq⟩ h hr10
    obtain rfl : w2 = wq := hwq.symm
    have ha : Has 18 [(8, (.int .i64 x1)), (3, (.int .i64 0)), (6, (Sl.v a0)), (7, (.int .i64 (a0.n : Int)))] a := ha
    have h : cmp_Or_int_l1 a0 x1 w2 = some o := h
    unfold cmp_Or_int_l1 at h
    refine wp_seq <| region_lit <| q ha (d_lt ha rfl rfl) fun a ha => s_nil <| t_n <| wp_seq <| ?_
    refine s_cond ha rfl h (fun b11 h => ?_) (fun b11 h => ?_)
    · refine wp_skip <| t_n <| wp_seq <| wp_block <| wp_seq <| region_lit <| ?_
      obtain ⟨p12, e13, h⟩ := bs1 h
      refine q ha (d_ix ha rfl rfl Try.runUnderlying34 Try.sizeOf3 e13) fun a ha => ?_
      obtain ⟨v14, e15, h⟩ := bs1 h
      refine q ha (d_ld ha rfl Try.isAgg3 (ldI_c e15)) fun a ha => qa ha rfl fun a ha => s_nil <| t_n <| wp_seq <| region_lit <| qm ha rfl fun a ha => qm ha rfl fun a ha => q ha (d_ne ha rfl rfl) fun a ha => s_nil <| t_n <| ?_
      refine s_cond ha rfl h (fun b16 h => ?_) (fun b16 h => ?_)
      · refine wp_seq <| region_lit <| qm ha rfl fun a ha => qa ha rfl fun a ha => s_nil <| t_n <| wp_ret <| b_r <| t_r <| ?_
        have hS : Has 18 [(2, (.int .i64 v14))] _ := ha.sub ⟨rfl, trivial⟩
        cases h
        cases hr10 _ rfl
        refine lp_r <| ?_
        exact hk9 _ rfl _ hS
      · refine wp_skip <| b_n <| t_n <| region_lit <| q ha (d_add ha rfl rfl) fun a ha => qm ha rfl fun a ha => s_nil <| ?_
        have hS : Has 18 [(8, (.int .i64 (IntKind.wrap .i64 (x1 + 1)))), (3, (.int .i64 0)), (6, (Sl.v a0)), (7, (.int .i64 (a0.n : Int)))] _ := ha.sub ⟨rfl, rfl, rfl, rfl, trivial⟩
        cases h
        exact lp_next ⟨hS, rfl⟩
    · refine wp_exit <| t_x <| ?_
      have hS : Has 18 [(3, (.int .i64 0))] _ := ha.sub ⟨rfl, trivial⟩
      cases h
      cases hr10 _ rfl
      refine lp_x <| ?_
      exact hk8 _ rfl _ hS

noncomputable def wheel_Wheel_Advance_1 (a0 : Int) (a1 : Int) (a2 : Addr) (w : World) : Option (Int × World) :=
  (dr w).bind fun w1 =>
  (ldP w1 a2).bind fun v3 =>
  (v3).bind fun p5 =>
  (ixA (p5.add 1) a0 65 1).bind fun p7 =>
  (ldI .i64 w1 p7).bind fun v9 =>
  (ldP w1 a2).bind fun v11 =>
  (v11).bind fun p13 =>
  (ixA (p13.add 1) a1 65 1).bind fun p15 =>
  (ldI .i64 w1 p15).bind fun v17 =>
  bind2 (bsl w1 3 1 [[(.int .i64 (IntKind.wrap .i64 (v9 - v17)))], [(.int .i64 (IntKind.wrap .i64 (a0 - a1)))]]) fun s19 w20 =>
  bind2 (cmp_Or_int s19 w20) fun v22 w23 =>
  some (v22, w23)
set_option maxHeartbeats 1000000 in
set_option maxRecDepth 100000 in
theorem wheel_Wheel_Advance_1_ok {a0 : Int} {a1 : Int} {a2 : Addr} {w w' : World} {r0 : Int} (h : wheel_Wheel_Advance_1 a0 a1 a2 w = some (r0, w')) : Calls Try.prog 56 #[(.int .i64 a0), (.int .i64 a1), (.pointer (some a2))] w fun e w'' => e = .returned (.int .i64 r0) ∧ w'' = w' := by
  refine calls_dec (n := 24) Try.func56 rfl Try.ntmps56 (by simp) fun a ha => ?_
  unfold wheel_Wheel_Advance_1 at h
  refine wp_seq <| region_lit <| qa ha rfl fun a ha => s_nil <| t_n <| wp_seq <| ?_
  obtain ⟨w1, e2, h⟩ := bs1 h
  obtain ⟨v3, e4, h⟩ := bs1 h
  obtain ⟨p5, e6, h⟩ := bs1 h
  obtain ⟨p7, e8, h⟩ := bs1 h
  obtain ⟨v9, e10, h⟩ := bs1 h
  obtain ⟨v11, e12, h⟩ := bs1 h
  obtain ⟨p13, e14, h⟩ := bs1 h
  obtain ⟨p15, e16, h⟩ := bs1 h
  obtain ⟨v17, e18, h⟩ := bs1 h
  obtain ⟨s19, w20, e21, h⟩ := bs2 h
  obtain ⟨v22, w23, e24, h⟩ := bs2 h
  have ha : Has 24 [(0, (.int .i64 a0)), (1, (.int .i64 a1)), (2, (.pointer (some a2)))] a := ha.sub ⟨rfl, rfl, rfl, trivial⟩
  refine region_draw (n := 24) (ds := (⟨_, (.pointer v3), false, 0, 0, [], [(2, (.pointer (some a2)))]⟩ :: ⟨_, (.int .i64 a0), false, 0, 0, [], [(0, (.int .i64 a0))]⟩ :: ⟨_, (.pointer (some p5)), false, 0, 0, [0], [(6, (.pointer v3))]⟩ :: ⟨_, (.pointer (some (p5.add 1))), false, 0, 0, [0, 2], [(8, (.pointer (some p5)))]⟩ :: ⟨_, (.pointer (some p7)), false, 0, 0, [0, 1, 2, 3], [(9, (.pointer (some (p5.add 1)))), (7, (.int .i64 a0))]⟩ :: ⟨_, (.int .i64 v9), false, 0, 0, [0, 1, 2, 3, 4], [(10, (.pointer (some p7)))]⟩ :: ⟨_, (.pointer v11), false, 0, 0, [], [(2, (.pointer (some a2)))]⟩ :: ⟨_, (.int .i64 a1), false, 0, 0, [], [(1, (.int .i64 a1))]⟩ :: ⟨_, (.pointer (some p13)), false, 0, 0, [6], [(12, (.pointer v11))]⟩ :: ⟨_, (.pointer (some (p13.add 1))), false, 0, 0, [6, 8], [(14, (.pointer (some p13)))]⟩ :: ⟨_, (.pointer (some p15)), false, 0, 0, [6, 7, 8, 9], [(15, (.pointer (some (p13.add 1)))), (13, (.int .i64 a1))]⟩ :: ⟨_, (.int .i64 v17), false, 0, 0, [6, 7, 8, 9, 10], [(16, (.pointer (some p15)))]⟩ :: ⟨_, (.int .i64 (IntKind.wrap .i64 (v9 - v17))), false, 0, 0, [0, 1, 2, 3, 4, 5, 6, 7, 8, 9, 10, 11], [(11, (.int .i64 v9)), (17, (.int .i64 v17))]⟩ :: ⟨_, (.int .i64 a0), false, 0, 0, [], [(0, (.int .i64 a0))]⟩ :: ⟨_, (.int .i64 a1), false, 0, 0, [], [(1, (.int .i64 a1))]⟩ :: ⟨_, (.int .i64 (IntKind.wrap .i64 (a0 - a1))), false, 0, 0, [13, 14], [(19, (.int .i64 a0)), (20, (.int .i64 a1))]⟩ :: ⟨_, (Sl.v s19), true, 0, 0, (0 :: 1 :: 2 :: 3 :: 4 :: 5 :: 6 :: 7 :: 8 :: 9 :: 10 :: 11 :: 12 :: 13 :: 14 :: 15 :: []), [(18, (.int .i64 (IntKind.wrap .i64 (v9 - v17)))), (21, (.int .i64 (IntKind.wrap .i64 (a0 - a1))))]⟩ :: ⟨_, (.int .i64 v22), true, 1, 1, (0 :: 1 :: 2 :: 3 :: 4 :: 5 :: 6 :: 7 :: 8 :: 9 :: 10 :: 11 :: 12 :: 13 :: 14 :: 15 :: 16 :: []), [(22, (Sl.v s19))]⟩ :: ⟨_, (.int .i64 v22), false, 2, 2, (0 :: 1 :: 2 :: 3 :: 4 :: 5 :: 6 :: 7 :: 8 :: 9 :: 10 :: 11 :: 12 :: 13 :: 14 :: 15 :: 16 :: 17 :: []), [(23, (.int .i64 v22))]⟩ :: [])) (W := (fun j => match j with | 0 => w1 | 1 => w20 | 2 => w23 | _ => w23)) (by kernel_rfl) ha (dr_w e2) (by kernel_rfl) ?_ (reads_of (by kernel_rfl)) (by kernel_rfl) (m := 2) (by kernel_rfl) (fun a ha => ?_)
  · refine ⟨?_, ?_, ?_, ?_, ?_, ?_, ?_, ?_, ?_, ?_, ?_, ?_, ?_, ?_, ?_, ?_, ?_, ?_, ?_, trivial⟩
    · exact oc 0 (ok_do rfl fun a ha => d_ld ha rfl Try.isAgg24 (ldP_c e4))
    · exact oa fun j a ha => d_move ha rfl
    · exact oa fun j a ha => d_nilp ha rfl e6
    · exact oa fun j a ha => d_fa ha rfl Try.runUnderlying95 rfl rfl Try.sizeOf28 (by decide)
    · exact oa fun j a ha => d_ixA ha rfl rfl Try.runUnderlying28 Try.sizeOf3 e8
    · exact oc 0 (ok_do rfl fun a ha => d_ld ha rfl Try.isAgg3 (ldI_c e10))
    · exact oc 0 (ok_do rfl fun a ha => d_ld ha rfl Try.isAgg24 (ldP_c e12))
    · exact oa fun j a ha => d_move ha rfl
    · exact oa fun j a ha => d_nilp ha rfl e14
    · exact oa fun j a ha => d_fa ha rfl Try.runUnderlying95 rfl rfl Try.sizeOf28 (by decide)
    · exact oa fun j a ha => d_ixA ha rfl rfl Try.runUnderlying28 Try.sizeOf3 e16
    · exact oc 0 (ok_do rfl fun a ha => d_ld ha rfl Try.isAgg3 (ldI_c e18))
    · exact oa fun j a ha => d_sub ha rfl rfl
    · exact oa fun j a ha => d_move ha rfl
    · exact oa fun j a ha => d_move ha rfl
    · exact oa fun j a ha => d_sub ha rfl rfl
    · exact oc 0 (ok_do rfl fun a ha => d_bsl (vs := [(0, (.int .i64 (IntKind.wrap .i64 (v9 - v17)))), (1, (.int .i64 (IntKind.wrap .i64 (a0 - a1))))]) (ps := [[(.int .i64 (IntKind.wrap .i64 (v9 - v17)))], [(.int .i64 (IntKind.wrap .i64 (a0 - a1)))]]) ha ⟨rfl, rfl, rfl, rfl, trivial⟩ ⟨rfl, rfl, rfl, rfl, trivial⟩ rfl Try.runUnderlying34 Try.sizeOf3 Try.zeroValue3 (by decide) e21)
    · exact oc 1 (ok_do rfl fun a ha => d_call (xs := [_]) (vs := [(Sl.v s19)]) ha ⟨rfl, trivial⟩ Try.call57 (cmp_Or_int_ok e24))
    · exact oa fun j a ha => d_assign ha rfl
  · have ha : Has 24 [(5, (.int .i64 v22))] a := ha.sub ⟨rfl, trivial⟩
    refine t_n <| wp_ret <| ?_
    have hS := ha
    cases h
    exact ret1 Try.results56 hS rfl ⟨rfl, rfl⟩
end Go.Proofs.Ytejkaciimmfgcaa.D
