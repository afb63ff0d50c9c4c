/- Written by dec.py of this project: Go functions as plain functions over the memory, and that the Go calls come to these. -/
import Derived.Test.YtejkaciimmfgcaaClo
namespace Go.Proofs.Ytejkaciimmfgcaa.D
open Go
set_option linter.unusedVariables false
set_option linter.unusedSimpArgs false

noncomputable def grapevineref12_Same_l1 (a0 : Sl) (a1 : Sl) (x2 : Int) (w3 : World) : Option ((Int × World) ⊕ ((World) ⊕ (Bool × World))) :=
  if (decide (x2 < (a0.n : Int))) = true then
  ((dr w3).bind fun w13 =>
  (ix a0 x2 1).bind fun p15 =>
  (ldI .i64 w13 p15).bind fun v17 =>
  (ix a1 x2 1).bind fun p19 =>
  (ldI .i64 w13 p19).bind fun v21 =>
  if (v17 != v21) = true then
  (some (.inr (.inr (false, w13))))
  else
  (some (.inl ((IntKind.wrap .i64 (x2 + 1)), w13))))
  else
  (some (.inr (.inl w3)))
noncomputable def grapevineref12_Same (a0 : Sl) (a1 : Sl) (w : World) : Option (Bool × World) :=
  if ((a0.n : Int) != (a1.n : Int)) = true then
  (some (false, w))
  else
  ((loopF (fun s : Int × World => grapevineref12_Same_l1 a0 a1 s.1 s.2) (0, w)).bind fun r4 => Sum.elim (fun (i : World) => u1 i fun w6 =>
  some (true, w6)) (fun (i : Bool × World) => u2 i fun v7 w8 =>
  some (v7, w8)) r4)
set_option maxHeartbeats 1000000 in
set_option maxRecDepth 100000 in
theorem grapevineref12_Same_ok {a0 : Sl} {a1 : Sl} {w w' : World} {r0 : Bool} (h : grapevineref12_Same a0 a1 w = some (r0, w')) : Calls Try.prog 24 #[(Sl.v a0), (Sl.v a1)] w fun e w'' => e = .returned (.bool r0) ∧ w'' = w' := by
  refine calls_dec (n := 26) Try.func24 rfl Try.ntmps24 (by simp) fun a ha => ?_
  unfold grapevineref12_Same at h
  refine wp_seq <| region_lit <| qa ha rfl fun a ha => s_nil <| t_n <| wp_seq <| wp_seq <| region_lit <| qm ha rfl fun a ha => q ha (d_lenS ha rfl Try.runUnderlying34) fun a ha => qm ha rfl fun a ha => q ha (d_lenS ha rfl Try.runUnderlying34) fun a ha => q ha (d_ne ha rfl rfl) fun a ha => s_nil <| t_n <| ?_
  refine s_cond ha rfl h (fun b1 h => ?_) (fun b1 h => ?_)
  · refine wp_seq <| region_lit <| qa ha rfl fun a ha => s_nil <| t_n <| wp_ret <| t_r <| ?_
    have hS := ha
    cases h
    exact ret1 Try.results24 hS rfl ⟨rfl, rfl⟩
  · refine wp_skip <| t_n <| wp_seq <| wp_seq <| region_lit <| qa ha rfl fun a ha => s_nil <| t_n <| wp_block <| ?_
    obtain ⟨r4, e5, h⟩ := bs1 h
    refine s_loop2 (n := 26) (L1 := fun i => []) (w1 := fun i => i) (L2 := fun i => [(4, (.bool i.1))]) (w2 := fun i => i.2) (e1 := .exit 0) (e2 := .ret) (I := fun (s : Int × World) a w => Has 26 [(5, (.int .i64 s.1)), (0, (Sl.v a0)), (1, (Sl.v a1))] a ∧ w = s.2) ⟨ha.sub ⟨rfl, rfl, rfl, trivial⟩, rfl⟩ e5 (fun i hi a ha => ?_) (fun i hi a ha => ?_) (fun hk9 hk10 => ?_)
    · subst hi
      obtain ⟨w6, rfl⟩ : ∃ x, x = i := ⟨i, rfl⟩
      dsimp only [Sum.elim_inl, Sum.elim_inr, u1, u2, u3, u4, u5, u6] at h
      have ha : Has 26 [] a := ha
      refine b_hit <| t_n <| wp_seq <| region_lit <| qa ha rfl fun a ha => s_nil <| t_n <| wp_ret <| ?_
      have hS := ha
      cases h
      exact ret1 Try.results24 hS rfl ⟨rfl, rfl⟩
    · subst hi
      obtain ⟨v7, w8⟩ := i
      dsimp only [Sum.elim_inl, Sum.elim_inr, u1, u2, u3, u4, u5, u6] at h
      have ha : Has 26 [(4, (.bool v7))] a := ha
      refine b_r <| t_r <| ?_
      have hS := ha
      cases h
      exact ret1 Try.results24 hS rfl ⟨rfl, rfl⟩
    · clear h
      rintro ⟨x2, w3⟩ a wq o ⟨ha, hwq⟩ h hr11
      obtain rfl : w3 = wq := hwq.symm
      have ha : Has 26 [(5, (.int .i64 x2)), (0, (Sl.v a0)), (1, (Sl.v a1))] a := ha
      have h : grapevineref12_Same_l1 a0 a1 x2 w3 = some o := h
      unfold grapevineref12_Same_l1 at h
      refine wp_seq <| wp_seq <| region_lit <| qm ha rfl fun a ha => qm ha rfl fun a ha => q ha (d_lenS ha rfl Try.runUnderlying34) fun a ha => q ha (d_lt ha rfl rfl) fun a ha => s_nil <| t_n <| ?_
      refine s_cond ha rfl h (fun b12 h => ?_) (fun b12 h => ?_)
      · refine wp_skip <| t_n <| wp_seq <| wp_block <| wp_seq <| ?_
        obtain ⟨w13, e14, h⟩ := bs1 h
        obtain ⟨p15, e16, h⟩ := bs1 h
        obtain ⟨v17, e18, h⟩ := bs1 h
        obtain ⟨p19, e20, h⟩ := bs1 h
        obtain ⟨v21, e22, h⟩ := bs1 h
        have ha : Has 26 [(0, (Sl.v a0)), (1, (Sl.v a1)), (5, (.int .i64 x2))] a := ha.sub ⟨rfl, rfl, rfl, trivial⟩
        refine region_draw (n := 26) (ds := (⟨_, (Sl.v a0), false, 0, 0, [], [(0, (Sl.v a0))]⟩ :: ⟨_, (.int .i64 x2), false, 0, 0, [], [(5, (.int .i64 x2))]⟩ :: ⟨_, (.pointer (some p15)), false, 0, 0, [0, 1], [(17, (Sl.v a0)), (18, (.int .i64 x2))]⟩ :: ⟨_, (.int .i64 v17), false, 0, 0, [0, 1, 2], [(19, (.pointer (some p15)))]⟩ :: ⟨_, (Sl.v a1), false, 0, 0, [], [(1, (Sl.v a1))]⟩ :: ⟨_, (.int .i64 x2), false, 0, 0, [], [(5, (.int .i64 x2))]⟩ :: ⟨_, (.pointer (some p19)), false, 0, 0, [4, 5], [(21, (Sl.v a1)), (22, (.int .i64 x2))]⟩ :: ⟨_, (.int .i64 v21), false, 0, 0, [4, 5, 6], [(23, (.pointer (some p19)))]⟩ :: ⟨_, (.bool (v17 != v21)), false, 0, 0, [0, 1, 2, 3, 4, 5, 6, 7], [(20, (.int .i64 v17)), (24, (.int .i64 v21))]⟩ :: [])) (W := (fun _ => w13)) (by kernel_rfl) ha (dr_w e14) (by kernel_rfl) ?_ (reads_of (by kernel_rfl)) (by kernel_rfl) (m := 0) (by kernel_rfl) (fun a ha => ?_)
        · refine ⟨?_, ?_, ?_, ?_, ?_, ?_, ?_, ?_, ?_, trivial⟩
          · exact oa fun j a ha => d_move ha rfl
          · exact oa fun j a ha => d_move ha rfl
          · exact oa fun j a ha => d_ix ha rfl rfl Try.runUnderlying34 Try.sizeOf3 e16
          · exact oc (e := false) 0 (ok_do rfl fun a ha => d_ld ha rfl Try.isAgg3 (ldI_c e18))
          · exact oa fun j a ha => d_move ha rfl
          · exact oa fun j a ha => d_move ha rfl
          · exact oa fun j a ha => d_ix ha rfl rfl Try.runUnderlying34 Try.sizeOf3 e20
          · exact oc (e := false) 0 (ok_do rfl fun a ha => d_ld ha rfl Try.isAgg3 (ldI_c e22))
          · exact oa fun j a ha => d_ne ha rfl rfl
        · have ha : Has 26 [(0, (Sl.v a0)), (1, (Sl.v a1)), (5, (.int .i64 x2)), (25, (.bool (v17 != v21)))] a := ha.sub ⟨rfl, rfl, rfl, rfl, trivial⟩
          refine t_n <| ?_
          refine s_cond ha rfl h (fun b23 h => ?_) (fun b23 h => ?_)
          · refine wp_seq <| region_lit <| qa ha rfl fun a ha => s_nil <| t_n <| wp_ret <| b_r <| t_r <| ?_
            have hS : Has 26 [(4, (.bool false))] _ := ha.sub ⟨rfl, trivial⟩
            cases h
            cases hr11 _ rfl
            refine lp_r <| ?_
            exact hk10 _ rfl _ hS
          · refine wp_skip <| b_n <| t_n <| region_lit <| qm ha rfl fun a ha => q ha (d_add ha rfl rfl) fun a ha => qa ha rfl fun a ha => s_nil <| ?_
            have hS : Has 26 [(5, (.int .i64 (IntKind.wrap .i64 (x2 + 1)))), (0, (Sl.v a0)), (1, (Sl.v a1))] _ := ha.sub ⟨rfl, rfl, rfl, trivial⟩
            cases h
            exact lp_next ⟨hS, rfl⟩
      · refine wp_exit <| t_x <| ?_
        have hS : Has 26 [] _ := ha.sub trivial
        cases h
        cases hr11 _ rfl
        refine lp_x <| ?_
        exact hk9 _ rfl _ hS

noncomputable def grapevineref12_Wheel_Fork (a0 : Option Addr) (w : World) : Option ((Option Addr) × World) :=
  if (a0.isNone) = true then
  (some (none, w))
  else
  ((a0).bind fun p2 =>
  (ldA 131 w p2 0).bind fun c4 =>
  bind2 (mk w 107 ([.int .i64 0] ++ List.replicate 65 (.bool false) ++ List.replicate 65 (.int .i64 0))) fun p6 w7 =>
  (stA w7 p6 0 c4).bind fun w9 =>
  some ((some p6), w9))
set_option maxHeartbeats 1000000 in
set_option maxRecDepth 100000 in
theorem grapevineref12_Wheel_Fork_ok {a0 : Option Addr} {w w' : World} {r0 : Option Addr} (h : grapevineref12_Wheel_Fork a0 w = some (r0, w')) : Calls Try.prog 27 #[(.pointer a0)] w fun e w'' => e = .returned (.pointer r0) ∧ w'' = w' := by
  refine calls_dec (n := 9) Try.func27 rfl Try.ntmps27 (by simp) fun a ha => ?_
  unfold grapevineref12_Wheel_Fork at h
  refine wp_seq <| region_lit <| qa ha rfl fun a ha => s_nil <| t_n <| wp_seq <| wp_seq <| region_lit <| qm ha rfl fun a ha => q ha (d_eqN ha rfl rfl Try.runUnderlying40) fun a ha => s_nil <| t_n <| ?_
  refine s_cond ha rfl h (fun b1 h => ?_) (fun b1 h => ?_)
  · refine wp_seq <| region_lit <| qa ha rfl fun a ha => s_nil <| t_n <| wp_ret <| t_r <| ?_
    have hS := ha
    cases h
    exact ret1 Try.results27 hS rfl ⟨rfl, rfl⟩
  · refine wp_skip <| t_n <| wp_seq <| region_lit <| qm ha rfl fun a ha => ?_
    obtain ⟨p2, e3, h⟩ := bs1 h
    refine q ha (d_nilp ha rfl e3) fun a ha => ?_
    obtain ⟨c4, e5, h⟩ := bs1 h
    refine q ha (d_ldA ha rfl Try.isAgg107 Try.sizeOf107 e5) fun a ha => ?_
    obtain ⟨p6, w7, e8, h⟩ := bs2 h
    refine q ha (d_alloc Try.zeroValue107 (by kernel_rfl) e8) fun a ha => ?_
    obtain ⟨w9, e10, h⟩ := bs1 h
    refine q ha (d_stA ha rfl rfl Try.sizeOf107 ((ldA_c e5).1) e10) fun a ha => s_nil <| t_n <| wp_seq <| region_lit <| qa ha rfl fun a ha => s_nil <| t_n <| wp_ret <| ?_
    have hS := ha
    cases h
    exact ret1 Try.results27 hS rfl ⟨rfl, rfl⟩

noncomputable def grapevineref12_New (a0 : Int) (w : World) : Option ((Option Addr) × Int × World) :=
  bind2 (if (decide (a0 < 0)) = true then
  (some (true, w))
  else
  (some ((decide (1099511627776 < a0)), w))) fun v1 w2 =>
  if v1 = true then
  (some (none, 2, w2))
  else
  (bind2 (mk w2 107 ([.int .i64 a0] ++ List.replicate 65 (.bool false) ++ List.replicate 65 (.int .i64 0))) fun p7 w8 =>
  some ((some p7), 0, w8))
set_option maxHeartbeats 1000000 in
set_option maxRecDepth 100000 in
theorem grapevineref12_New_ok {a0 : Int} {w w' : World} {r0 : Option Addr} {r1 : Int} (h : grapevineref12_New a0 w = some (r0, r1, w')) : Calls Try.prog 58 #[(.int .i64 a0)] w fun e w'' => e = .returned (.tuple #[(.pointer r0), (.int .i64 r1)]) ∧ w'' = w' := by
  refine calls_dec (n := 13) Try.func58 rfl Try.ntmps58 (by simp) fun a ha => ?_
  unfold grapevineref12_New at h
  refine wp_seq <| region_lit <| qa ha rfl fun a ha => qa ha rfl fun a ha => s_nil <| t_n <| wp_seq <| wp_seq <| ?_
  obtain ⟨v1, w2, e3, h⟩ := bs2 h
  refine reg_join (n := 13) (L := [(9, (.bool v1)), (0, (.int .i64 a0))]) (w' := w2) (fun a ha => ?_) (fun hk4 => ?_)
  · refine t_n <| ?_
    refine s_cond ha rfl h (fun b6 h => ?_) (fun b6 h => ?_)
    · refine wp_seq <| region_lit <| qa ha rfl fun a ha => qa ha rfl fun a ha => s_nil <| t_n <| wp_ret <| t_r <| ?_
      have hS := ha
      cases h
      exact ret2 Try.results58 hS rfl rfl ⟨rfl, rfl⟩
    · refine wp_skip <| t_n <| wp_seq <| region_lit <| qm ha rfl fun a ha => q ha (d_build (vs := [(0, (.int .i64 a0))]) (pl := #[(0, 1), (1, 65), (66, 65)]) (cs := ([.int .i64 a0] ++ List.replicate 65 (.bool false) ++ List.replicate 65 (.int .i64 0))) ha ⟨rfl, rfl, trivial⟩ Try.zeroValue107 Try.runUnderlying107 (by intro w; kernel_rfl) (by kernel_rfl)) fun a ha => ?_
      obtain ⟨p7, w8, e9, h⟩ := bs2 h
      refine q ha (d_box ha rfl rfl e9) fun a ha => qa ha rfl fun a ha => qa ha rfl fun a ha => s_nil <| t_n <| wp_ret <| ?_
      have hS := ha
      cases h
      exact ret2 Try.results58 hS rfl rfl ⟨rfl, rfl⟩
  · clear h
    have h := e3
    refine region_lit <| qm ha rfl fun a ha => q ha (d_lt ha rfl rfl) fun a ha => qm ha rfl fun a ha => ?_
    refine ite_s h (fun b5 h => ?_) (fun b5 h => ?_)
    · refine qn ha 6 (tn b5) fun a ha => qn ha 6 (tn b5) fun a ha => q ha (d_pick_t ha rfl b5 rfl) fun a ha => s_nil <| ?_
      have hS : Has 13 [(9, (.bool true)), (0, (.int .i64 a0))] _ := ha.sub ⟨rfl, rfl, trivial⟩
      cases h
      exact hk4 _ hS
    · refine qg ha 6 (nt b5) (d_move ha rfl) fun a ha => qg ha 6 (nt b5) (d_gt ha rfl rfl) fun a ha => q ha (d_pick_f ha rfl b5 rfl) fun a ha => s_nil <| ?_
      have hS : Has 13 [(9, (.bool (decide (1099511627776 < a0)))), (0, (.int .i64 a0))] _ := ha.sub ⟨rfl, rfl, trivial⟩
      cases h
      exact hk4 _ hS

noncomputable def grapevineref12_Wheel_Next_l1 (a0 : Option Addr) (x1 : Int) (x2 : Bool) (x3 : Int) (w4 : World) : Option ((Int × Bool × Int × World) ⊕ (Int × Bool × World)) :=
  bind2 (if (!(a0.isNone)) = true then
  (some ((decide (x3 ≤ 64)), w4))
  else
  (some (false, w4))) fun v12 w13 =>
  if v12 = true then
  (bind3 (bind2 ((a0).bind fun p27 =>
  (ixA (p27.add 1) x3 65 1).bind fun p29 =>
  (ldB w13 p29).bind fun v31 =>
  if v31 = true then
  (if (!x2) = true then
  (some (true, w13))
  else
  ((ixA (p27.add 66) x3 65 1).bind fun p35 =>
  (ldI .i64 w13 p35).bind fun v37 =>
  some ((decide (v37 < x1)), w13)))
  else
  (some (false, w13))) fun v23 w24 =>
  if v23 = true then
  ((a0).bind fun p40 =>
  (ixA (p40.add 66) x3 65 1).bind fun p42 =>
  (ldI .i64 w24 p42).bind fun v44 =>
  some (v44, true, w24))
  else
  (some (x1, x2, w24))) fun v18 v19 w20 =>
  some (.inl (v18, v19, (IntKind.wrap .i64 (x3 + 1)), w20)))
  else
  (some (.inr (x1, x2, w13)))
noncomputable def grapevineref12_Wheel_Next (a0 : Option Addr) (w : World) : Option (Int × Bool × World) :=
  bind3 (loopF (fun s : Int × Bool × Int × World => grapevineref12_Wheel_Next_l1 a0 s.1 s.2.1 s.2.2.1 s.2.2.2) (0, false, 1, w)) fun v7 v8 w9 =>
  some (v7, v8, w9)
set_option maxHeartbeats 1000000 in
set_option maxRecDepth 100000 in
theorem grapevineref12_Wheel_Next_ok {a0 : Option Addr} {w w' : World} {r0 : Int} {r1 : Bool} (h : grapevineref12_Wheel_Next a0 w = some (r0, r1, w')) : Calls Try.prog 61 #[(.pointer a0)] w fun e w'' => e = .returned (.tuple #[(.int .i64 r0), (.bool r1)]) ∧ w'' = w' := by
  refine calls_dec (n := 43) Try.func61 rfl Try.ntmps61 (by simp) fun a ha => ?_
  unfold grapevineref12_Wheel_Next at h
  refine wp_seq <| region_lit <| qa ha rfl fun a ha => qa ha rfl fun a ha => s_nil <| t_n <| wp_seq <| region_lit <| qa ha rfl fun a ha => s_nil <| t_n <| wp_seq <| region_lit <| qa ha rfl fun a ha => s_nil <| t_n <| wp_seq <| wp_seq <| region_lit <| qa ha rfl fun a ha => s_nil <| t_n <| wp_block <| ?_
  obtain ⟨v7, v8, w9, e6, h⟩ := bs3 h
  refine s_loop1 (n := 43) (L := [(4, (.int .i64 v7)), (5, (.bool v8))]) (w' := w9) (e := .exit 0) (I := fun (s : Int × Bool × Int × World) a w => Has 43 [(4, (.int .i64 s.1)), (5, (.bool s.2.1)), (6, (.int .i64 s.2.2.1)), (0, (.pointer a0))] a ∧ w = s.2.2.2) ⟨ha.sub ⟨rfl, rfl, rfl, rfl, trivial⟩, rfl⟩ e6 (fun a ha => ?_) (fun hk10 => ?_)
  · refine b_hit <| t_n <| wp_seq <| region_lit <| qm ha rfl fun a ha => qm ha rfl fun a ha => qa ha rfl fun a ha => qa ha rfl fun a ha => s_nil <| t_n <| wp_ret <| ?_
    have hS := ha
    cases h
    exact ret2 Try.results61 hS rfl rfl ⟨rfl, rfl⟩
  · clear h
    rintro ⟨x1, x2, x3, w4⟩ a wq o ⟨ha, hwq⟩ h hr11
    obtain rfl : w4 = wq := hwq.symm
    have ha : Has 43 [(4, (.int .i64 x1)), (5, (.bool x2)), (6, (.int .i64 x3)), (0, (.pointer a0))] a := ha
    have h : grapevineref12_Wheel_Next_l1 a0 x1 x2 x3 w4 = some o := h
    unfold grapevineref12_Wheel_Next_l1 at h
    refine wp_seq <| wp_seq <| ?_
    obtain ⟨v12, w13, e14, h⟩ := bs2 h
    refine reg_join (n := 43) (L := [(12, (.bool v12)), (0, (.pointer a0)), (4, (.int .i64 x1)), (5, (.bool x2)), (6, (.int .i64 x3))]) (w' := w13) (fun a ha => ?_) (fun hk15 => ?_)
    · refine t_n <| ?_
      refine s_cond ha rfl h (fun b17 h => ?_) (fun b17 h => ?_)
      · refine wp_skip <| t_n <| ?_
        obtain ⟨v18, v19, w20, e21, h⟩ := bs3 h
        refine seq_join (n := 43) (L := [(4, (.int .i64 v18)), (5, (.bool v19)), (0, (.pointer a0)), (6, (.int .i64 x3))]) (w' := w20) (fun a ha => ?_) (fun hk22 => ?_)
        · refine region_lit <| qm ha rfl fun a ha => q ha (d_add ha rfl rfl) fun a ha => qa ha rfl fun a ha => s_nil <| ?_
          have hS : Has 43 [(4, (.int .i64 v18)), (5, (.bool v19)), (6, (.int .i64 (IntKind.wrap .i64 (x3 + 1)))), (0, (.pointer a0))] _ := ha.sub ⟨rfl, rfl, rfl, rfl, trivial⟩
          cases h
          exact lp_next ⟨hS, rfl⟩
        · clear h
          have h := e21
          refine wp_block <| wp_seq <| ?_
          obtain ⟨v23, w24, e25, h⟩ := bs2 h
          refine reg_join (n := 43) (L := [(34, (.bool v23)), (0, (.pointer a0)), (4, (.int .i64 x1)), (5, (.bool x2)), (6, (.int .i64 x3))]) (w' := w24) (fun a ha => ?_) (fun hk26 => ?_)
          · refine t_n <| ?_
            refine s_cond ha rfl h (fun b39 h => ?_) (fun b39 h => ?_)
            · refine wp_seq <| region_lit <| qm ha rfl fun a ha => qm ha rfl fun a ha => ?_
              obtain ⟨p40, e41, h⟩ := bs1 h
              refine q ha (d_nilp ha rfl e41) fun a ha => q ha (d_fa ha rfl Try.runUnderlying107 rfl rfl Try.sizeOf28 (by decide)) fun a ha => ?_
              obtain ⟨p42, e43, h⟩ := bs1 h
              refine q ha (d_ixA ha rfl rfl Try.runUnderlying28 Try.sizeOf3 e43) fun a ha => ?_
              obtain ⟨v44, e45, h⟩ := bs1 h
              refine q ha (d_ld ha rfl Try.isAgg3 (ldI_c e45)) fun a ha => qa ha rfl fun a ha => s_nil <| t_n <| region_lit <| qa ha rfl fun a ha => s_nil <| b_n <| ?_
              have hS : Has 43 [(4, (.int .i64 v44)), (5, (.bool true)), (0, (.pointer a0)), (6, (.int .i64 x3))] _ := ha.sub ⟨rfl, rfl, rfl, rfl, trivial⟩
              cases h
              exact hk22 _ hS
            · refine wp_skip <| b_n <| ?_
              have hS : Has 43 [(4, (.int .i64 x1)), (5, (.bool x2)), (0, (.pointer a0)), (6, (.int .i64 x3))] _ := ha.sub ⟨rfl, rfl, rfl, rfl, trivial⟩
              cases h
              exact hk22 _ hS
          · clear h
            have h := e25
            refine region_lit <| qm ha rfl fun a ha => qm ha rfl fun a ha => ?_
            obtain ⟨p27, e28, h⟩ := bs1 h
            refine q ha (d_nilp ha rfl e28) fun a ha => q ha (d_fa ha rfl Try.runUnderlying107 rfl rfl Try.sizeOf105 (by decide)) fun a ha => ?_
            obtain ⟨p29, e30, h⟩ := bs1 h
            refine q ha (d_ixA ha rfl rfl Try.runUnderlying105 Try.sizeOf4 e30) fun a ha => ?_
            obtain ⟨v31, e32, h⟩ := bs1 h
            refine q ha (d_ld ha rfl Try.isAgg4 (ldB_c e32)) fun a ha => qm ha rfl fun a ha => ?_
            refine ite_s h (fun b33 h => ?_) (fun b33 h => ?_)
            · refine qg ha 21 b33 (d_move ha rfl) fun a ha => qg ha 21 b33 (d_not ha rfl) fun a ha => qg ha 21 b33 (d_move ha rfl) fun a ha => ?_
              refine ite_s h (fun b34 h => ?_) (fun b34 h => ?_)
              · refine qn ha 24 (tn b34) fun a ha => qn ha 24 (tn b34) fun a ha => qn ha 24 (tn b34) fun a ha => qn ha 24 (tn b34) fun a ha => qn ha 24 (tn b34) fun a ha => qn ha 24 (tn b34) fun a ha => qn ha 24 (tn b34) fun a ha => qn ha 24 (tn b34) fun a ha => qg ha 21 b33 (d_pick_t ha rfl b34 rfl) fun a ha => q ha (d_pick_t ha rfl b33 rfl) fun a ha => s_nil <| ?_
                have hS : Has 43 [(34, (.bool true)), (0, (.pointer a0)), (4, (.int .i64 x1)), (5, (.bool x2)), (6, (.int .i64 x3))] _ := ha.sub ⟨rfl, rfl, rfl, rfl, rfl, trivial⟩
                cases h
                exact hk26 _ hS
              · refine qg ha 24 (nt b34) (d_move ha rfl) fun a ha => qg ha 24 (nt b34) (d_move ha rfl) fun a ha => qg ha 24 (nt b34) (d_nilp ha rfl e28) fun a ha => qg ha 24 (nt b34) (d_fa ha rfl Try.runUnderlying107 rfl rfl Try.sizeOf28 (by decide)) fun a ha => ?_
                obtain ⟨p35, e36, h⟩ := bs1 h
                refine qg ha 24 (nt b34) (d_ixA ha rfl rfl Try.runUnderlying28 Try.sizeOf3 e36) fun a ha => ?_
                obtain ⟨v37, e38, h⟩ := bs1 h
                refine qg ha 24 (nt b34) (d_ld ha rfl Try.isAgg3 (ldI_c e38)) fun a ha => qg ha 24 (nt b34) (d_move ha rfl) fun a ha => qg ha 24 (nt b34) (d_lt ha rfl rfl) fun a ha => qg ha 21 b33 (d_pick_f ha rfl b34 rfl) fun a ha => q ha (d_pick_t ha rfl b33 rfl) fun a ha => s_nil <| ?_
                have hS : Has 43 [(34, (.bool (decide (v37 < x1)))), (0, (.pointer a0)), (4, (.int .i64 x1)), (5, (.bool x2)), (6, (.int .i64 x3))] _ := ha.sub ⟨rfl, rfl, rfl, rfl, rfl, trivial⟩
                cases h
                exact hk26 _ hS
            · refine qn ha 21 (nn b33 _ rfl) fun a ha => qn ha 21 (nn b33 _ rfl) fun a ha => qn ha 21 (nn b33 _ rfl) fun a ha => qu ha 24 fun a ha => qu ha 24 fun a ha => qu ha 24 fun a ha => qu ha 24 fun a ha => qu ha 24 fun a ha => qu ha 24 fun a ha => qu ha 24 fun a ha => qu ha 24 fun a ha => qn ha 21 (nn b33 _ rfl) fun a ha => q ha (d_pick_f ha rfl b33 rfl) fun a ha => s_nil <| ?_
              have hS : Has 43 [(34, (.bool false)), (0, (.pointer a0)), (4, (.int .i64 x1)), (5, (.bool x2)), (6, (.int .i64 x3))] _ := ha.sub ⟨rfl, rfl, rfl, rfl, rfl, trivial⟩
              cases h
              exact hk26 _ hS
      · refine wp_exit <| t_x <| ?_
        have hS : Has 43 [(4, (.int .i64 x1)), (5, (.bool x2))] _ := ha.sub ⟨rfl, rfl, trivial⟩
        cases h
        cases hr11 _ rfl
        refine lp_x <| ?_
        exact hk10 _ hS
    · clear h
      have h := e14
      refine region_lit <| qm ha rfl fun a ha => q ha (d_neN ha rfl rfl Try.runUnderlying40) fun a ha => qm ha rfl fun a ha => ?_
      refine ite_s h (fun b16 h => ?_) (fun b16 h => ?_)
      · refine qg ha 9 b16 (d_move ha rfl) fun a ha => qg ha 9 b16 (d_le ha rfl rfl) fun a ha => q ha (d_pick_t ha rfl b16 rfl) fun a ha => s_nil <| ?_
        have hS : Has 43 [(12, (.bool (decide (x3 ≤ 64)))), (0, (.pointer a0)), (4, (.int .i64 x1)), (5, (.bool x2)), (6, (.int .i64 x3))] _ := ha.sub ⟨rfl, rfl, rfl, rfl, rfl, trivial⟩
        cases h
        exact hk15 _ hS
      · refine qn ha 9 (nn b16 _ rfl) fun a ha => qn ha 9 (nn b16 _ rfl) fun a ha => q ha (d_pick_f ha rfl b16 rfl) fun a ha => s_nil <| ?_
        have hS : Has 43 [(12, (.bool false)), (0, (.pointer a0)), (4, (.int .i64 x1)), (5, (.bool x2)), (6, (.int .i64 x3))] _ := ha.sub ⟨rfl, rfl, rfl, rfl, rfl, trivial⟩
        cases h
        exact hk15 _ hS

noncomputable def grapevineref12_Wheel_Ids_l1 (a0 : Option Addr) (x4 : Sl) (x5 : Int) (w6 : World) : Option ((Sl × Int × World) ⊕ (Sl × World)) :=
  bind2 (if (!(a0.isNone)) = true then
  (some ((decide (x5 ≤ 64)), w6))
  else
  (some (false, w6))) fun v13 w14 =>
  if v13 = true then
  (bind2 ((a0).bind fun p23 =>
  (ixA (p23.add 1) x5 65 1).bind fun p25 =>
  (ldB w14 p25).bind fun v27 =>
  if v27 = true then
  (bind2 (bsl w14 3 1 [[(.int .i64 x5)]]) fun s30 w31 =>
  bind2 (apS Try.prog 34 x4 s30 w31) fun s33 w34 =>
  some (s33, w34))
  else
  (some (x4, w14))) fun v19 w20 =>
  some (.inl (v19, (IntKind.wrap .i64 (x5 + 1)), w20)))
  else
  (some (.inr (x4, w14)))
noncomputable def grapevineref12_Wheel_Ids (a0 : Option Addr) (w : World) : Option (Sl × World) :=
  bind2 (bsl w 3 1 []) fun s1 w2 =>
  bind2 (loopF (fun s : Sl × Int × World => grapevineref12_Wheel_Ids_l1 a0 s.1 s.2.1 s.2.2) (s1, 1, w2)) fun v9 w10 =>
  some (v9, w10)
set_option maxHeartbeats 1000000 in
set_option maxRecDepth 100000 in
theorem grapevineref12_Wheel_Ids_ok {a0 : Option Addr} {w w' : World} {r0 : Sl} (h : grapevineref12_Wheel_Ids a0 w = some (r0, w')) : Calls Try.prog 62 #[(.pointer a0)] w fun e w'' => e = .returned (Sl.v r0) ∧ w'' = w' := by
  refine calls_dec (n := 25) Try.func62 rfl Try.ntmps62 (by simp) fun a ha => ?_
  unfold grapevineref12_Wheel_Ids at h
  refine wp_seq <| region_lit <| qa ha rfl fun a ha => s_nil <| t_n <| wp_seq <| region_lit <| ?_
  obtain ⟨s1, w2, e3, h⟩ := bs2 h
  refine q ha (d_bsl (vs := []) (ps := []) ha trivial trivial rfl Try.runUnderlying34 Try.sizeOf3 Try.zeroValue3 (by decide) e3) fun a ha => qa ha rfl fun a ha => s_nil <| t_n <| wp_seq <| wp_seq <| region_lit <| qa ha rfl fun a ha => s_nil <| t_n <| wp_block <| ?_
  obtain ⟨v9, w10, e8, h⟩ := bs2 h
  refine s_loop1 (n := 25) (L := [(3, (Sl.v v9))]) (w' := w10) (e := .exit 0) (I := fun (s : Sl × Int × World) a w => Has 25 [(3, (Sl.v s.1)), (4, (.int .i64 s.2.1)), (0, (.pointer a0))] a ∧ w = s.2.2) ⟨ha.sub ⟨rfl, rfl, rfl, trivial⟩, rfl⟩ e8 (fun a ha => ?_) (fun hk11 => ?_)
  · refine b_hit <| t_n <| wp_seq <| region_lit <| qm ha rfl fun a ha => qa ha rfl fun a ha => s_nil <| t_n <| wp_ret <| ?_
    have hS := ha
    cases h
    exact ret1 Try.results62 hS rfl ⟨rfl, rfl⟩
  · clear h
    rintro ⟨x4, x5, w6⟩ a wq o ⟨ha, hwq⟩ h hr12
    obtain rfl : w6 = wq := hwq.symm
    have ha : Has 25 [(3, (Sl.v x4)), (4, (.int .i64 x5)), (0, (.pointer a0))] a := ha
    have h : grapevineref12_Wheel_Ids_l1 a0 x4 x5 w6 = some o := h
    unfold grapevineref12_Wheel_Ids_l1 at h
    refine wp_seq <| wp_seq <| ?_
    obtain ⟨v13, w14, e15, h⟩ := bs2 h
    refine reg_join (n := 25) (L := [(11, (.bool v13)), (0, (.pointer a0)), (3, (Sl.v x4)), (4, (.int .i64 x5))]) (w' := w14) (fun a ha => ?_) (fun hk16 => ?_)
    · refine t_n <| ?_
      refine s_cond ha rfl h (fun b18 h => ?_) (fun b18 h => ?_)
      · refine wp_skip <| t_n <| ?_
        obtain ⟨v19, w20, e21, h⟩ := bs2 h
        refine seq_join (n := 25) (L := [(3, (Sl.v v19)), (0, (.pointer a0)), (4, (.int .i64 x5))]) (w' := w20) (fun a ha => ?_) (fun hk22 => ?_)
        · refine region_lit <| qm ha rfl fun a ha => q ha (d_add ha rfl rfl) fun a ha => qa ha rfl fun a ha => s_nil <| ?_
          have hS : Has 25 [(3, (Sl.v v19)), (4, (.int .i64 (IntKind.wrap .i64 (x5 + 1)))), (0, (.pointer a0))] _ := ha.sub ⟨rfl, rfl, rfl, trivial⟩
          cases h
          exact lp_next ⟨hS, rfl⟩
        · clear h
          have h := e21
          refine wp_block <| wp_seq <| region_lit <| qm ha rfl fun a ha => qm ha rfl fun a ha => ?_
          obtain ⟨p23, e24, h⟩ := bs1 h
          refine q ha (d_nilp ha rfl e24) fun a ha => q ha (d_fa ha rfl Try.runUnderlying107 rfl rfl Try.sizeOf105 (by decide)) fun a ha => ?_
          obtain ⟨p25, e26, h⟩ := bs1 h
          refine q ha (d_ixA ha rfl rfl Try.runUnderlying105 Try.sizeOf4 e26) fun a ha => ?_
          obtain ⟨v27, e28, h⟩ := bs1 h
          refine q ha (d_ld ha rfl Try.isAgg4 (ldB_c e28)) fun a ha => s_nil <| t_n <| ?_
          refine s_cond ha rfl h (fun b29 h => ?_) (fun b29 h => ?_)
          · refine region_lit <| qm ha rfl fun a ha => qm ha rfl fun a ha => ?_
            obtain ⟨s30, w31, e32, h⟩ := bs2 h
            refine q ha (d_bsl (vs := [(0, (.int .i64 x5))]) (ps := [[(.int .i64 x5)]]) ha ⟨rfl, rfl, trivial⟩ ⟨rfl, rfl, trivial⟩ rfl Try.runUnderlying34 Try.sizeOf3 Try.zeroValue3 (by decide) e32) fun a ha => ?_
            obtain ⟨s33, w34, e35, h⟩ := bs2 h
            refine q ha (d_apS ha rfl rfl e35) fun a ha => qa ha rfl fun a ha => s_nil <| b_n <| ?_
            have hS : Has 25 [(3, (Sl.v s33)), (0, (.pointer a0)), (4, (.int .i64 x5))] _ := ha.sub ⟨rfl, rfl, rfl, trivial⟩
            cases h
            exact hk22 _ hS
          · refine wp_skip <| b_n <| ?_
            have hS : Has 25 [(3, (Sl.v x4)), (0, (.pointer a0)), (4, (.int .i64 x5))] _ := ha.sub ⟨rfl, rfl, rfl, trivial⟩
            cases h
            exact hk22 _ hS
      · refine wp_exit <| t_x <| ?_
        have hS : Has 25 [(3, (Sl.v x4))] _ := ha.sub ⟨rfl, trivial⟩
        cases h
        cases hr12 _ rfl
        refine lp_x <| ?_
        exact hk11 _ hS
    · clear h
      have h := e15
      refine region_lit <| qm ha rfl fun a ha => q ha (d_neN ha rfl rfl Try.runUnderlying40) fun a ha => qm ha rfl fun a ha => ?_
      refine ite_s h (fun b17 h => ?_) (fun b17 h => ?_)
      · refine qg ha 8 b17 (d_move ha rfl) fun a ha => qg ha 8 b17 (d_le ha rfl rfl) fun a ha => q ha (d_pick_t ha rfl b17 rfl) fun a ha => s_nil <| ?_
        have hS : Has 25 [(11, (.bool (decide (x5 ≤ 64)))), (0, (.pointer a0)), (3, (Sl.v x4)), (4, (.int .i64 x5))] _ := ha.sub ⟨rfl, rfl, rfl, rfl, trivial⟩
        cases h
        exact hk16 _ hS
      · refine qn ha 8 (nn b17 _ rfl) fun a ha => qn ha 8 (nn b17 _ rfl) fun a ha => q ha (d_pick_f ha rfl b17 rfl) fun a ha => s_nil <| ?_
        have hS : Has 25 [(11, (.bool false)), (0, (.pointer a0)), (3, (Sl.v x4)), (4, (.int .i64 x5))] _ := ha.sub ⟨rfl, rfl, rfl, rfl, trivial⟩
        cases h
        exact hk16 _ hS

noncomputable def grapevineref12_Wheel_At (a0 : Option Addr) (a1 : Int) (w : World) : Option (Int × Bool × World) :=
  bind2 (if (a0.isNone) = true then
  (some (true, w))
  else
  (if (decide (a1 < 1)) = true then
  (some (true, w))
  else
  (if (decide (64 < a1)) = true then
  (some (true, w))
  else
  ((a0).bind fun p8 =>
  (ixA (p8.add 1) a1 65 1).bind fun p10 =>
  (ldB w p10).bind fun v12 =>
  some ((!v12), w))))) fun v1 w2 =>
  if v1 = true then
  (some (0, false, w2))
  else
  ((a0).bind fun p15 =>
  (ixA (p15.add 66) a1 65 1).bind fun p17 =>
  (ldI .i64 w2 p17).bind fun v19 =>
  some (v19, true, w2))
set_option maxHeartbeats 1000000 in
set_option maxRecDepth 100000 in
theorem grapevineref12_Wheel_At_ok {a0 : Option Addr} {a1 : Int} {w w' : World} {r0 : Int} {r1 : Bool} (h : grapevineref12_Wheel_At a0 a1 w = some (r0, r1, w')) : Calls Try.prog 63 #[(.pointer a0), (.int .i64 a1)] w fun e w'' => e = .returned (.tuple #[(.int .i64 r0), (.bool r1)]) ∧ w'' = w' := by
  refine calls_dec (n := 31) Try.func63 rfl Try.ntmps63 (by simp) fun a ha => ?_
  unfold grapevineref12_Wheel_At at h
  refine wp_seq <| region_lit <| qa ha rfl fun a ha => qa ha rfl fun a ha => s_nil <| t_n <| wp_seq <| wp_seq <| ?_
  obtain ⟨v1, w2, e3, h⟩ := bs2 h
  refine reg_join (n := 31) (L := [(24, (.bool v1)), (0, (.pointer a0)), (1, (.int .i64 a1))]) (w' := w2) (fun a ha => ?_) (fun hk4 => ?_)
  · refine t_n <| ?_
    refine s_cond ha rfl h (fun b14 h => ?_) (fun b14 h => ?_)
    · refine wp_seq <| region_lit <| qa ha rfl fun a ha => qa ha rfl fun a ha => s_nil <| t_n <| wp_ret <| t_r <| ?_
      have hS := ha
      cases h
      exact ret2 Try.results63 hS rfl rfl ⟨rfl, rfl⟩
    · refine wp_skip <| t_n <| wp_seq <| region_lit <| qm ha rfl fun a ha => qm ha rfl fun a ha => ?_
      obtain ⟨p15, e16, h⟩ := bs1 h
      refine q ha (d_nilp ha rfl e16) fun a ha => q ha (d_fa ha rfl Try.runUnderlying107 rfl rfl Try.sizeOf28 (by decide)) fun a ha => ?_
      obtain ⟨p17, e18, h⟩ := bs1 h
      refine q ha (d_ixA ha rfl rfl Try.runUnderlying28 Try.sizeOf3 e18) fun a ha => ?_
      obtain ⟨v19, e20, h⟩ := bs1 h
      refine q ha (d_ld ha rfl Try.isAgg3 (ldI_c e20)) fun a ha => qa ha rfl fun a ha => qa ha rfl fun a ha => s_nil <| t_n <| wp_ret <| ?_
      have hS := ha
      cases h
      exact ret2 Try.results63 hS rfl rfl ⟨rfl, rfl⟩
  · clear h
    have h := e3
    refine region_lit <| qm ha rfl fun a ha => q ha (d_eqN ha rfl rfl Try.runUnderlying40) fun a ha => qm ha rfl fun a ha => ?_
    refine ite_s h (fun b5 h => ?_) (fun b5 h => ?_)
    · refine qn ha 8 (tn b5) fun a ha => qn ha 8 (tn b5) fun a ha => q ha (d_pick_t ha rfl b5 rfl) fun a ha => qm ha rfl fun a ha => qn ha 12 (tn rfl) fun a ha => qn ha 12 (tn rfl) fun a ha => q ha (d_pick_t ha rfl rfl rfl) fun a ha => qm ha rfl fun a ha => qn ha 16 (tn rfl) fun a ha => qn ha 16 (tn rfl) fun a ha => qn ha 16 (tn rfl) fun a ha => qn ha 16 (tn rfl) fun a ha => qn ha 16 (tn rfl) fun a ha => qn ha 16 (tn rfl) fun a ha => qn ha 16 (tn rfl) fun a ha => q ha (d_pick_t ha rfl rfl rfl) fun a ha => s_nil <| ?_
      have hS : Has 31 [(24, (.bool true)), (0, (.pointer a0)), (1, (.int .i64 a1))] _ := ha.sub ⟨rfl, rfl, rfl, trivial⟩
      cases h
      exact hk4 _ hS
    · refine qg ha 8 (nt b5) (d_move ha rfl) fun a ha => qg ha 8 (nt b5) (d_lt ha rfl rfl) fun a ha => q ha (d_pick_f ha rfl b5 rfl) fun a ha => qm ha rfl fun a ha => ?_
      refine ite_s h (fun b6 h => ?_) (fun b6 h => ?_)
      · refine qn ha 12 (tn b6) fun a ha => qn ha 12 (tn b6) fun a ha => q ha (d_pick_t ha rfl b6 rfl) fun a ha => qm ha rfl fun a ha => qn ha 16 (tn rfl) fun a ha => qn ha 16 (tn rfl) fun a ha => qn ha 16 (tn rfl) fun a ha => qn ha 16 (tn rfl) fun a ha => qn ha 16 (tn rfl) fun a ha => qn ha 16 (tn rfl) fun a ha => qn ha 16 (tn rfl) fun a ha => q ha (d_pick_t ha rfl rfl rfl) fun a ha => s_nil <| ?_
        have hS : Has 31 [(24, (.bool true)), (0, (.pointer a0)), (1, (.int .i64 a1))] _ := ha.sub ⟨rfl, rfl, rfl, trivial⟩
        cases h
        exact hk4 _ hS
      · refine qg ha 12 (nt b6) (d_move ha rfl) fun a ha => qg ha 12 (nt b6) (d_gt ha rfl rfl) fun a ha => q ha (d_pick_f ha rfl b6 rfl) fun a ha => qm ha rfl fun a ha => ?_
        refine ite_s h (fun b7 h => ?_) (fun b7 h => ?_)
        · refine qn ha 16 (tn b7) fun a ha => qn ha 16 (tn b7) fun a ha => qn ha 16 (tn b7) fun a ha => qn ha 16 (tn b7) fun a ha => qn ha 16 (tn b7) fun a ha => qn ha 16 (tn b7) fun a ha => qn ha 16 (tn b7) fun a ha => q ha (d_pick_t ha rfl b7 rfl) fun a ha => s_nil <| ?_
          have hS : Has 31 [(24, (.bool true)), (0, (.pointer a0)), (1, (.int .i64 a1))] _ := ha.sub ⟨rfl, rfl, rfl, trivial⟩
          cases h
          exact hk4 _ hS
        · refine qg ha 16 (nt b7) (d_move ha rfl) fun a ha => qg ha 16 (nt b7) (d_move ha rfl) fun a ha => ?_
          obtain ⟨p8, e9, h⟩ := bs1 h
          refine qg ha 16 (nt b7) (d_nilp ha rfl e9) fun a ha => qg ha 16 (nt b7) (d_fa ha rfl Try.runUnderlying107 rfl rfl Try.sizeOf105 (by decide)) fun a ha => ?_
          obtain ⟨p10, e11, h⟩ := bs1 h
          refine qg ha 16 (nt b7) (d_ixA ha rfl rfl Try.runUnderlying105 Try.sizeOf4 e11) fun a ha => ?_
          obtain ⟨v12, e13, h⟩ := bs1 h
          refine qg ha 16 (nt b7) (d_ld ha rfl Try.isAgg4 (ldB_c e13)) fun a ha => qg ha 16 (nt b7) (d_not ha rfl) fun a ha => q ha (d_pick_f ha rfl b7 rfl) fun a ha => s_nil <| ?_
          have hS : Has 31 [(24, (.bool (!v12))), (0, (.pointer a0)), (1, (.int .i64 a1))] _ := ha.sub ⟨rfl, rfl, rfl, trivial⟩
          cases h
          exact hk4 _ hS

noncomputable def grapevineref12_Wheel_Set (a0 : Option Addr) (a1 : Int) (a2 : Int) (w : World) : Option (Int × World) :=
  if (a0.isNone) = true then
  (some (1, w))
  else
  (bind2 (if (decide (a1 < 1)) = true then
  (some (true, w))
  else
  (if (decide (64 < a1)) = true then
  (some (true, w))
  else
  (if (decide (a2 < 0)) = true then
  (some (true, w))
  else
  (some ((decide (1099511627776 < a2)), w))))) fun v2 w3 =>
  if v2 = true then
  (some (2, w3))
  else
  ((a0).bind fun p10 =>
  (ixA (p10.add 1) a1 65 1).bind fun p12 =>
  (stV w3 p12 (.bool true)).bind fun w14 =>
  (ixA (p10.add 66) a1 65 1).bind fun p16 =>
  (stV w14 p16 (.int .i64 a2)).bind fun w18 =>
  some (0, w18)))
set_option maxHeartbeats 1000000 in
set_option maxRecDepth 100000 in
theorem grapevineref12_Wheel_Set_ok {a0 : Option Addr} {a1 : Int} {a2 : Int} {w w' : World} {r0 : Int} (h : grapevineref12_Wheel_Set a0 a1 a2 w = some (r0, w')) : Calls Try.prog 64 #[(.pointer a0), (.int .i64 a1), (.int .i64 a2)] w fun e w'' => e = .returned (.int .i64 r0) ∧ w'' = w' := by
  refine calls_dec (n := 34) Try.func64 rfl Try.ntmps64 (by simp) fun a ha => ?_
  unfold grapevineref12_Wheel_Set at h
  refine wp_seq <| region_lit <| qa ha rfl fun a ha => s_nil <| t_n <| wp_seq <| wp_seq <| region_lit <| qm ha rfl fun a ha => q ha (d_eqN ha rfl rfl Try.runUnderlying40) fun a ha => s_nil <| t_n <| ?_
  refine s_cond ha rfl h (fun b1 h => ?_) (fun b1 h => ?_)
  · refine wp_seq <| region_lit <| qa ha rfl fun a ha => s_nil <| t_n <| wp_ret <| t_r <| ?_
    have hS := ha
    cases h
    exact ret1 Try.results64 hS rfl ⟨rfl, rfl⟩
  · refine wp_skip <| t_n <| wp_seq <| wp_seq <| ?_
    obtain ⟨v2, w3, e4, h⟩ := bs2 h
    refine reg_join (n := 34) (L := [(22, (.bool v2)), (0, (.pointer a0)), (1, (.int .i64 a1)), (2, (.int .i64 a2))]) (w' := w3) (fun a ha => ?_) (fun hk5 => ?_)
    · refine t_n <| ?_
      refine s_cond ha rfl h (fun b9 h => ?_) (fun b9 h => ?_)
      · refine wp_seq <| region_lit <| qa ha rfl fun a ha => s_nil <| t_n <| wp_ret <| t_r <| ?_
        have hS := ha
        cases h
        exact ret1 Try.results64 hS rfl ⟨rfl, rfl⟩
      · refine wp_skip <| t_n <| wp_seq <| region_lit <| qm ha rfl fun a ha => qm ha rfl fun a ha => ?_
        obtain ⟨p10, e11, h⟩ := bs1 h
        refine q ha (d_nilp ha rfl e11) fun a ha => q ha (d_fa ha rfl Try.runUnderlying107 rfl rfl Try.sizeOf105 (by decide)) fun a ha => ?_
        obtain ⟨p12, e13, h⟩ := bs1 h
        refine q ha (d_ixA ha rfl rfl Try.runUnderlying105 Try.sizeOf4 e13) fun a ha => ?_
        obtain ⟨w14, e15, h⟩ := bs1 h
        refine q ha (d_st ha rfl rfl Try.sizeOf4 e15) fun a ha => s_nil <| t_n <| wp_seq <| region_lit <| qm ha rfl fun a ha => qm ha rfl fun a ha => qm ha rfl fun a ha => q ha (d_nilp ha rfl e11) fun a ha => q ha (d_fa ha rfl Try.runUnderlying107 rfl rfl Try.sizeOf28 (by decide)) fun a ha => ?_
        obtain ⟨p16, e17, h⟩ := bs1 h
        refine q ha (d_ixA ha rfl rfl Try.runUnderlying28 Try.sizeOf3 e17) fun a ha => ?_
        obtain ⟨w18, e19, h⟩ := bs1 h
        refine q ha (d_st ha rfl rfl Try.sizeOf3 e19) fun a ha => s_nil <| t_n <| wp_seq <| region_lit <| qa ha rfl fun a ha => s_nil <| t_n <| wp_ret <| ?_
        have hS := ha
        cases h
        exact ret1 Try.results64 hS rfl ⟨rfl, rfl⟩
    · clear h
      have h := e4
      refine region_lit <| qm ha rfl fun a ha => q ha (d_lt ha rfl rfl) fun a ha => qm ha rfl fun a ha => ?_
      refine ite_s h (fun b6 h => ?_) (fun b6 h => ?_)
      · refine qn ha 11 (tn b6) fun a ha => qn ha 11 (tn b6) fun a ha => q ha (d_pick_t ha rfl b6 rfl) fun a ha => qm ha rfl fun a ha => qn ha 15 (tn rfl) fun a ha => qn ha 15 (tn rfl) fun a ha => q ha (d_pick_t ha rfl rfl rfl) fun a ha => qm ha rfl fun a ha => qn ha 19 (tn rfl) fun a ha => qn ha 19 (tn rfl) fun a ha => q ha (d_pick_t ha rfl rfl rfl) fun a ha => s_nil <| ?_
        have hS : Has 34 [(22, (.bool true)), (0, (.pointer a0)), (1, (.int .i64 a1)), (2, (.int .i64 a2))] _ := ha.sub ⟨rfl, rfl, rfl, rfl, trivial⟩
        cases h
        exact hk5 _ hS
      · refine qg ha 11 (nt b6) (d_move ha rfl) fun a ha => qg ha 11 (nt b6) (d_gt ha rfl rfl) fun a ha => q ha (d_pick_f ha rfl b6 rfl) fun a ha => qm ha rfl fun a ha => ?_
        refine ite_s h (fun b7 h => ?_) (fun b7 h => ?_)
        · refine qn ha 15 (tn b7) fun a ha => qn ha 15 (tn b7) fun a ha => q ha (d_pick_t ha rfl b7 rfl) fun a ha => qm ha rfl fun a ha => qn ha 19 (tn rfl) fun a ha => qn ha 19 (tn rfl) fun a ha => q ha (d_pick_t ha rfl rfl rfl) fun a ha => s_nil <| ?_
          have hS : Has 34 [(22, (.bool true)), (0, (.pointer a0)), (1, (.int .i64 a1)), (2, (.int .i64 a2))] _ := ha.sub ⟨rfl, rfl, rfl, rfl, trivial⟩
          cases h
          exact hk5 _ hS
        · refine qg ha 15 (nt b7) (d_move ha rfl) fun a ha => qg ha 15 (nt b7) (d_lt ha rfl rfl) fun a ha => q ha (d_pick_f ha rfl b7 rfl) fun a ha => qm ha rfl fun a ha => ?_
          refine ite_s h (fun b8 h => ?_) (fun b8 h => ?_)
          · refine qn ha 19 (tn b8) fun a ha => qn ha 19 (tn b8) fun a ha => q ha (d_pick_t ha rfl b8 rfl) fun a ha => s_nil <| ?_
            have hS : Has 34 [(22, (.bool true)), (0, (.pointer a0)), (1, (.int .i64 a1)), (2, (.int .i64 a2))] _ := ha.sub ⟨rfl, rfl, rfl, rfl, trivial⟩
            cases h
            exact hk5 _ hS
          · refine qg ha 19 (nt b8) (d_move ha rfl) fun a ha => qg ha 19 (nt b8) (d_gt ha rfl rfl) fun a ha => q ha (d_pick_f ha rfl b8 rfl) fun a ha => s_nil <| ?_
            have hS : Has 34 [(22, (.bool (decide (1099511627776 < a2)))), (0, (.pointer a0)), (1, (.int .i64 a1)), (2, (.int .i64 a2))] _ := ha.sub ⟨rfl, rfl, rfl, rfl, trivial⟩
            cases h
            exact hk5 _ hS

noncomputable def grapevineref12_Wheel_Drop (a0 : Option Addr) (a1 : Int) (w : World) : Option (Int × World) :=
  if (a0.isNone) = true then
  (some (1, w))
  else
  (bind3 (grapevineref12_Wheel_At a0 a1 w) fun v2 v3 w4 =>
  if (!v3) = true then
  (some (8, w4))
  else
  ((a0).bind fun p7 =>
  (ixA (p7.add 1) a1 65 1).bind fun p9 =>
  (stV w4 p9 (.bool false)).bind fun w11 =>
  some (0, w11)))
set_option maxHeartbeats 1000000 in
set_option maxRecDepth 100000 in
theorem grapevineref12_Wheel_Drop_ok {a0 : Option Addr} {a1 : Int} {w w' : World} {r0 : Int} (h : grapevineref12_Wheel_Drop a0 a1 w = some (r0, w')) : Calls Try.prog 65 #[(.pointer a0), (.int .i64 a1)] w fun e w'' => e = .returned (.int .i64 r0) ∧ w'' = w' := by
  refine calls_dec (n := 22) Try.func65 rfl Try.ntmps65 (by simp) fun a ha => ?_
  unfold grapevineref12_Wheel_Drop at h
  refine wp_seq <| region_lit <| qa ha rfl fun a ha => s_nil <| t_n <| wp_seq <| wp_seq <| region_lit <| qm ha rfl fun a ha => q ha (d_eqN ha rfl rfl Try.runUnderlying40) fun a ha => s_nil <| t_n <| ?_
  refine s_cond ha rfl h (fun b1 h => ?_) (fun b1 h => ?_)
  · refine wp_seq <| region_lit <| qa ha rfl fun a ha => s_nil <| t_n <| wp_ret <| t_r <| ?_
    have hS := ha
    cases h
    exact ret1 Try.results65 hS rfl ⟨rfl, rfl⟩
  · refine wp_skip <| t_n <| wp_seq <| region_lit <| qm ha rfl fun a ha => qm ha rfl fun a ha => ?_
    obtain ⟨v2, v3, w4, e5, h⟩ := bs3 h
    refine q ha (d_call (xs := [_, _]) (vs := [(.pointer a0), (.int .i64 a1)]) ha ⟨rfl, rfl, trivial⟩ Try.call63 (grapevineref12_Wheel_At_ok e5)) fun a ha => qm ha rfl fun a ha => q ha (d_ext ha rfl rfl) fun a ha => q ha (d_ext ha rfl rfl) fun a ha => qa ha rfl fun a ha => qa ha rfl fun a ha => s_nil <| t_n <| wp_seq <| wp_seq <| region_lit <| qm ha rfl fun a ha => q ha (d_not ha rfl) fun a ha => s_nil <| t_n <| ?_
    refine s_cond ha rfl h (fun b6 h => ?_) (fun b6 h => ?_)
    · refine wp_seq <| region_lit <| qa ha rfl fun a ha => s_nil <| t_n <| wp_ret <| t_r <| ?_
      have hS := ha
      cases h
      exact ret1 Try.results65 hS rfl ⟨rfl, rfl⟩
    · refine wp_skip <| t_n <| wp_seq <| region_lit <| qm ha rfl fun a ha => qm ha rfl fun a ha => ?_
      obtain ⟨p7, e8, h⟩ := bs1 h
      refine q ha (d_nilp ha rfl e8) fun a ha => q ha (d_fa ha rfl Try.runUnderlying107 rfl rfl Try.sizeOf105 (by decide)) fun a ha => ?_
      obtain ⟨p9, e10, h⟩ := bs1 h
      refine q ha (d_ixA ha rfl rfl Try.runUnderlying105 Try.sizeOf4 e10) fun a ha => ?_
      obtain ⟨w11, e12, h⟩ := bs1 h
      refine q ha (d_st ha rfl rfl Try.sizeOf4 e12) fun a ha => s_nil <| t_n <| wp_seq <| region_lit <| qa ha rfl fun a ha => s_nil <| t_n <| wp_ret <| ?_
      have hS := ha
      cases h
      exact ret1 Try.results65 hS rfl ⟨rfl, rfl⟩

noncomputable def grapevineref12_Wheel_Advance_l2 (a0 : Option Addr) (a1 : Int) (x28 : Int) (x29 : Int) (w30 : World) : Option ((Int × Int × World) ⊕ (Int × World)) :=
  if (decide (1 ≤ x29)) = true then
  (bind2 (bind2 ((dr w30).bind fun w46 =>
  (a0).bind fun p48 =>
  (ixA (p48.add 1) x29 65 1).bind fun p50 =>
  (ldB w46 p50).bind fun v52 =>
  if v52 = true then
  ((ixA (p48.add 66) x29 65 1).bind fun p55 =>
  (ldI .i64 w46 p55).bind fun v57 =>
  if (decide (v57 ≤ a1)) = true then
  (if (x28 == 0) = true then
  (some (true, w46))
  else
  ((ixA (p48.add 66) x29 65 1).bind fun p61 =>
  (ldI .i64 w46 p61).bind fun v63 =>
  (ixA (p48.add 66) x28 65 1).bind fun p65 =>
  (ldI .i64 w46 p65).bind fun v67 =>
  some ((decide (v63 ≤ v67)), w46)))
  else
  (some (false, w46)))
  else
  (some (false, w46))) fun v42 w43 =>
  if v42 = true then
  (some (x29, w43))
  else
  (some (x28, w43))) fun v38 w39 =>
  some (.inl (v38, (IntKind.wrap .i64 (x29 - 1)), w39)))
  else
  (some (.inr (x28, w30)))
noncomputable def grapevineref12_Wheel_Advance_l1 (a0 : Option Addr) (a1 : Int) (x19 : Sl) (w20 : World) : Option ((Sl × World) ⊕ (Sl × Int × World)) :=
  bind2 (loopF (fun s : Int × Int × World => grapevineref12_Wheel_Advance_l2 a0 a1 s.1 s.2.1 s.2.2) (0, 64, w20)) fun v33 w34 =>
  if (v33 == 0) = true then
  (some (.inr (x19, 0, w34)))
  else
  ((a0).bind fun p71 =>
  (ixA (p71.add 1) v33 65 1).bind fun p73 =>
  (stV w34 p73 (.bool false)).bind fun w75 =>
  bind2 (bsl w75 3 1 [[(.int .i64 v33)]]) fun s77 w78 =>
  bind2 (apS Try.prog 34 x19 s77 w78) fun s80 w81 =>
  some (.inl (s80, w81)))
noncomputable def grapevineref12_Wheel_Advance (a0 : Option Addr) (a1 : Int) (w : World) : Option (Sl × Int × World) :=
  if (a0.isNone) = true then
  (some (Sl.nil, 1, w))
  else
  (bind2 ((a0).bind fun p6 =>
  (ldI .i64 w (p6.add 0)).bind fun v8 =>
  if (decide (a1 < v8)) = true then
  (some (true, w))
  else
  (some ((decide (1099511627776 < a1)), w))) fun v2 w3 =>
  if v2 = true then
  (some (Sl.nil, 2, w3))
  else
  ((a0).bind fun p12 =>
  (stV w3 (p12.add 0) (.int .i64 a1)).bind fun w14 =>
  bind2 (bsl w14 3 1 []) fun s16 w17 =>
  bind3 (loopF (fun s : Sl × World => grapevineref12_Wheel_Advance_l1 a0 a1 s.1 s.2) (s16, w17)) fun v23 v24 w25 =>
  some (v23, v24, w25)))
set_option maxHeartbeats 1000000 in
set_option maxRecDepth 100000 in
theorem grapevineref12_Wheel_Advance_ok {a0 : Option Addr} {a1 : Int} {w w' : World} {r0 : Sl} {r1 : Int} (h : grapevineref12_Wheel_Advance a0 a1 w = some (r0, r1, w')) : Calls Try.prog 66 #[(.pointer a0), (.int .i64 a1)] w fun e w'' => e = .returned (.tuple #[(Sl.v r0), (.int .i64 r1)]) ∧ w'' = w' := by
  refine calls_dec (n := 78) Try.func66 rfl Try.ntmps66 (by simp) fun a ha => ?_
  unfold grapevineref12_Wheel_Advance at h
  refine wp_seq <| region_lit <| qa ha rfl fun a ha => qa ha rfl fun a ha => s_nil <| t_n <| wp_seq <| wp_seq <| region_lit <| qm ha rfl fun a ha => q ha (d_eqN ha rfl rfl Try.runUnderlying40) fun a ha => s_nil <| t_n <| ?_
  refine s_cond ha rfl h (fun b1 h => ?_) (fun b1 h => ?_)
  · refine wp_seq <| region_lit <| qa ha rfl fun a ha => qa ha rfl fun a ha => s_nil <| t_n <| wp_ret <| t_r <| ?_
    have hS := ha
    cases h
    exact ret2 Try.results66 hS rfl rfl ⟨rfl, rfl⟩
  · refine wp_skip <| t_n <| wp_seq <| wp_seq <| ?_
    obtain ⟨v2, w3, e4, h⟩ := bs2 h
    refine reg_join (n := 78) (L := [(20, (.bool v2)), (0, (.pointer a0)), (1, (.int .i64 a1))]) (w' := w3) (fun a ha => ?_) (fun hk5 => ?_)
    · refine t_n <| ?_
      refine s_cond ha rfl h (fun b11 h => ?_) (fun b11 h => ?_)
      · refine wp_seq <| region_lit <| qa ha rfl fun a ha => qa ha rfl fun a ha => s_nil <| t_n <| wp_ret <| t_r <| ?_
        have hS := ha
        cases h
        exact ret2 Try.results66 hS rfl rfl ⟨rfl, rfl⟩
      · refine wp_skip <| t_n <| wp_seq <| region_lit <| qm ha rfl fun a ha => qm ha rfl fun a ha => ?_
        obtain ⟨p12, e13, h⟩ := bs1 h
        refine q ha (d_nilp ha rfl e13) fun a ha => q ha (d_fa ha rfl Try.runUnderlying107 rfl rfl Try.sizeOf3 (by decide)) fun a ha => ?_
        obtain ⟨w14, e15, h⟩ := bs1 h
        refine q ha (d_st ha rfl rfl Try.sizeOf3 e15) fun a ha => s_nil <| t_n <| wp_seq <| region_lit <| ?_
        obtain ⟨s16, w17, e18, h⟩ := bs2 h
        refine q ha (d_bsl (vs := []) (ps := []) ha trivial trivial rfl Try.runUnderlying34 Try.sizeOf3 Try.zeroValue3 (by decide) e18) fun a ha => qa ha rfl fun a ha => s_nil <| t_n <| wp_block <| ?_
        obtain ⟨v23, v24, w25, e22, h⟩ := bs3 h
        refine s_loop1 (n := 78) (L := [(4, (Sl.v v23)), (5, (.int .i64 v24))]) (w' := w25) (e := .ret) (I := fun (s : Sl × World) a w => Has 78 [(6, (Sl.v s.1)), (0, (.pointer a0)), (1, (.int .i64 a1))] a ∧ w = s.2) ⟨ha.sub ⟨rfl, rfl, rfl, trivial⟩, rfl⟩ e22 (fun a ha => ?_) (fun hk26 => ?_)
        · refine b_r <| ?_
          have hS := ha
          cases h
          exact ret2 Try.results66 hS rfl rfl ⟨rfl, rfl⟩
        · clear h
          rintro ⟨x19, w20⟩ a wq o ⟨ha, hwq⟩ h hr27
          obtain rfl : w20 = wq := hwq.symm
          have ha : Has 78 [(6, (Sl.v x19)), (0, (.pointer a0)), (1, (.int .i64 a1))] a := ha
          have h : grapevineref12_Wheel_Advance_l1 a0 a1 x19 w20 = some o := h
          unfold grapevineref12_Wheel_Advance_l1 at h
          refine wp_block <| wp_seq <| region_lit <| qa ha rfl fun a ha => s_nil <| t_n <| wp_seq <| wp_seq <| region_lit <| qa ha rfl fun a ha => s_nil <| t_n <| wp_block <| ?_
          obtain ⟨v33, w34, e32, h⟩ := bs2 h
          refine s_loop1 (n := 78) (L := [(7, (.int .i64 v33)), (0, (.pointer a0)), (1, (.int .i64 a1)), (6, (Sl.v x19))]) (w' := w34) (e := .exit 2) (I := fun (s : Int × Int × World) a w => Has 78 [(7, (.int .i64 s.1)), (8, (.int .i64 s.2.1)), (0, (.pointer a0)), (1, (.int .i64 a1)), (6, (Sl.v x19))] a ∧ w = s.2.2) ⟨ha.sub ⟨rfl, rfl, rfl, rfl, rfl, trivial⟩, rfl⟩ e32 (fun a ha => ?_) (fun hk35 => ?_)
          · refine b_hit <| t_n <| wp_seq <| wp_seq <| region_lit <| qm ha rfl fun a ha => q ha (d_eq ha rfl rfl) fun a ha => s_nil <| t_n <| ?_
            refine s_cond ha rfl h (fun b70 h => ?_) (fun b70 h => ?_)
            · refine wp_seq <| region_lit <| qm ha rfl fun a ha => qa ha rfl fun a ha => qa ha rfl fun a ha => s_nil <| t_n <| wp_ret <| t_r <| b_r <| ?_
              have hS : Has 78 [(4, (Sl.v x19)), (5, (.int .i64 0))] _ := ha.sub ⟨rfl, rfl, trivial⟩
              cases h
              cases hr27 _ rfl
              refine lp_r <| ?_
              exact hk26 _ hS
            · refine wp_skip <| t_n <| wp_seq <| region_lit <| qm ha rfl fun a ha => qm ha rfl fun a ha => ?_
              obtain ⟨p71, e72, h⟩ := bs1 h
              refine q ha (d_nilp ha rfl e72) fun a ha => q ha (d_fa ha rfl Try.runUnderlying107 rfl rfl Try.sizeOf105 (by decide)) fun a ha => ?_
              obtain ⟨p73, e74, h⟩ := bs1 h
              refine q ha (d_ixA ha rfl rfl Try.runUnderlying105 Try.sizeOf4 e74) fun a ha => ?_
              obtain ⟨w75, e76, h⟩ := bs1 h
              refine q ha (d_st ha rfl rfl Try.sizeOf4 e76) fun a ha => s_nil <| t_n <| region_lit <| qm ha rfl fun a ha => qm ha rfl fun a ha => ?_
              obtain ⟨s77, w78, e79, h⟩ := bs2 h
              refine q ha (d_bsl (vs := [(0, (.int .i64 v33))]) (ps := [[(.int .i64 v33)]]) ha ⟨rfl, rfl, trivial⟩ ⟨rfl, rfl, trivial⟩ rfl Try.runUnderlying34 Try.sizeOf3 Try.zeroValue3 (by decide) e79) fun a ha => ?_
              obtain ⟨s80, w81, e82, h⟩ := bs2 h
              refine q ha (d_apS ha rfl rfl e82) fun a ha => qa ha rfl fun a ha => s_nil <| b_n <| ?_
              have hS : Has 78 [(6, (Sl.v s80)), (0, (.pointer a0)), (1, (.int .i64 a1))] _ := ha.sub ⟨rfl, rfl, rfl, trivial⟩
              cases h
              exact lp_next ⟨hS, rfl⟩
          · clear h
            rintro ⟨x28, x29, w30⟩ a wq o ⟨ha, hwq⟩ h hr36
            obtain rfl : w30 = wq := hwq.symm
            have ha : Has 78 [(7, (.int .i64 x28)), (8, (.int .i64 x29)), (0, (.pointer a0)), (1, (.int .i64 a1)), (6, (Sl.v x19))] a := ha
            have h : grapevineref12_Wheel_Advance_l2 a0 a1 x28 x29 w30 = some o := h
            unfold grapevineref12_Wheel_Advance_l2 at h
            refine wp_seq <| wp_seq <| region_lit <| qm ha rfl fun a ha => q ha (d_ge ha rfl rfl) fun a ha => s_nil <| t_n <| ?_
            refine s_cond ha rfl h (fun b37 h => ?_) (fun b37 h => ?_)
            · refine wp_skip <| t_n <| ?_
              obtain ⟨v38, w39, e40, h⟩ := bs2 h
              refine seq_join (n := 78) (L := [(7, (.int .i64 v38)), (0, (.pointer a0)), (1, (.int .i64 a1)), (6, (Sl.v x19)), (8, (.int .i64 x29))]) (w' := w39) (fun a ha => ?_) (fun hk41 => ?_)
              · refine region_lit <| qm ha rfl fun a ha => q ha (d_sub ha rfl rfl) fun a ha => qa ha rfl fun a ha => s_nil <| ?_
                have hS : Has 78 [(7, (.int .i64 v38)), (8, (.int .i64 (IntKind.wrap .i64 (x29 - 1)))), (0, (.pointer a0)), (1, (.int .i64 a1)), (6, (Sl.v x19))] _ := ha.sub ⟨rfl, rfl, rfl, rfl, rfl, trivial⟩
                cases h
                exact lp_next ⟨hS, rfl⟩
              · clear h
                have h := e40
                refine wp_block <| wp_seq <| ?_
                obtain ⟨v42, w43, e44, h⟩ := bs2 h
                refine reg_join (n := 78) (L := [(64, (.bool v42)), (0, (.pointer a0)), (1, (.int .i64 a1)), (6, (Sl.v x19)), (7, (.int .i64 x28)), (8, (.int .i64 x29))]) (w' := w43) (fun a ha => ?_) (fun hk45 => ?_)
                · refine t_n <| ?_
                  refine s_cond ha rfl h (fun b69 h => ?_) (fun b69 h => ?_)
                  · refine region_lit <| qm ha rfl fun a ha => qa ha rfl fun a ha => s_nil <| b_n <| ?_
                    have hS : Has 78 [(7, (.int .i64 x29)), (0, (.pointer a0)), (1, (.int .i64 a1)), (6, (Sl.v x19)), (8, (.int .i64 x29))] _ := ha.sub ⟨rfl, rfl, rfl, rfl, rfl, trivial⟩
                    cases h
                    exact hk41 _ hS
                  · refine wp_skip <| b_n <| ?_
                    have hS : Has 78 [(7, (.int .i64 x28)), (0, (.pointer a0)), (1, (.int .i64 a1)), (6, (Sl.v x19)), (8, (.int .i64 x29))] _ := ha.sub ⟨rfl, rfl, rfl, rfl, rfl, trivial⟩
                    cases h
                    exact hk41 _ hS
                · clear h
                  have h := e44
                  obtain ⟨w46, e47, h⟩ := bs1 h
                  obtain ⟨p48, e49, h⟩ := bs1 h
                  obtain ⟨p50, e51, h⟩ := bs1 h
                  obtain ⟨v52, e53, h⟩ := bs1 h
                  refine ite_s h (fun b54 h => ?_) (fun b54 h => ?_)
                  · obtain ⟨p55, e56, h⟩ := bs1 h
                    obtain ⟨v57, e58, h⟩ := bs1 h
                    refine ite_s h (fun b59 h => ?_) (fun b59 h => ?_)
                    · refine ite_s h (fun b60 h => ?_) (fun b60 h => ?_)
                      · have ha : Has 78 [(0, (.pointer a0)), (1, (.int .i64 a1)), (6, (Sl.v x19)), (7, (.int .i64 x28)), (8, (.int .i64 x29))] a := ha.sub ⟨rfl, rfl, rfl, rfl, rfl, trivial⟩
                        refine region_draw (n := 78) (ds := (⟨_, (.pointer a0), false, 0, 0, [], [(0, (.pointer a0))]⟩ :: ⟨_, (.int .i64 x29), false, 0, 0, [], [(8, (.int .i64 x29))]⟩ :: ⟨_, (.pointer (some p48)), false, 0, 0, [0], [(30, (.pointer a0))]⟩ :: ⟨_, (.pointer (some (p48.add 1))), false, 0, 0, [0, 2], [(32, (.pointer (some p48)))]⟩ :: ⟨_, (.pointer (some p50)), false, 0, 0, [0, 1, 2, 3], [(33, (.pointer (some (p48.add 1)))), (31, (.int .i64 x29))]⟩ :: ⟨_, (.bool v52), false, 0, 0, [0, 1, 2, 3, 4], [(34, (.pointer (some p50)))]⟩ :: ⟨_, (.bool v52), false, 0, 0, [0, 1, 2, 3, 4, 5], [(35, (.bool v52))]⟩ :: ⟨_, (.pointer a0), false, 0, 0, [0, 1, 2, 3, 4, 5, 6], [(0, (.pointer a0)), (36, (.bool v52))]⟩ :: ⟨_, (.int .i64 x29), false, 0, 0, [0, 1, 2, 3, 4, 5, 6], [(8, (.int .i64 x29)), (36, (.bool v52))]⟩ :: ⟨_, (.pointer (some p48)), false, 0, 0, [0, 1, 2, 3, 4, 5, 6, 7], [(37, (.pointer a0)), (36, (.bool v52))]⟩ :: ⟨_, (.pointer (some (p48.add 66))), false, 0, 0, [0, 1, 2, 3, 4, 5, 6, 7, 9], [(39, (.pointer (some p48))), (36, (.bool v52))]⟩ :: ⟨_, (.pointer (some p55)), false, 0, 0, [0, 1, 2, 3, 4, 5, 6, 7, 8, 9, 10], [(40, (.pointer (some (p48.add 66)))), (38, (.int .i64 x29)), (36, (.bool v52))]⟩ :: ⟨_, (.int .i64 v57), false, 0, 0, [0, 1, 2, 3, 4, 5, 6, 7, 8, 9, 10, 11], [(41, (.pointer (some p55))), (36, (.bool v52))]⟩ :: ⟨_, (.int .i64 a1), false, 0, 0, [0, 1, 2, 3, 4, 5, 6], [(1, (.int .i64 a1)), (36, (.bool v52))]⟩ :: ⟨_, (.bool (decide (v57 ≤ a1))), false, 0, 0, (0 :: 1 :: 2 :: 3 :: 4 :: 5 :: 6 :: 7 :: 8 :: 9 :: 10 :: 11 :: 12 :: 13 :: []), [(42, (.int .i64 v57)), (43, (.int .i64 a1)), (36, (.bool v52))]⟩ :: ⟨_, (.bool (decide (v57 ≤ a1))), false, 0, 0, (0 :: 1 :: 2 :: 3 :: 4 :: 5 :: 6 :: 7 :: 8 :: 9 :: 10 :: 11 :: 12 :: 13 :: 14 :: []), [(36, (.bool v52)), (44, (.bool (decide (v57 ≤ a1))))]⟩ :: ⟨_, (.bool (decide (v57 ≤ a1))), false, 0, 0, (0 :: 1 :: 2 :: 3 :: 4 :: 5 :: 6 :: 7 :: 8 :: 9 :: 10 :: 11 :: 12 :: 13 :: 14 :: 15 :: []), [(45, (.bool (decide (v57 ≤ a1))))]⟩ :: ⟨_, (.int .i64 x28), false, 0, 0, (0 :: 1 :: 2 :: 3 :: 4 :: 5 :: 6 :: 7 :: 8 :: 9 :: 10 :: 11 :: 12 :: 13 :: 14 :: 15 :: 16 :: []), [(7, (.int .i64 x28)), (46, (.bool (decide (v57 ≤ a1))))]⟩ :: ⟨_, (.bool (x28 == 0)), false, 0, 0, (0 :: 1 :: 2 :: 3 :: 4 :: 5 :: 6 :: 7 :: 8 :: 9 :: 10 :: 11 :: 12 :: 13 :: 14 :: 15 :: 16 :: 17 :: []), [(47, (.int .i64 x28)), (46, (.bool (decide (v57 ≤ a1))))]⟩ :: ⟨_, (.bool (x28 == 0)), false, 0, 0, (0 :: 1 :: 2 :: 3 :: 4 :: 5 :: 6 :: 7 :: 8 :: 9 :: 10 :: 11 :: 12 :: 13 :: 14 :: 15 :: 16 :: 17 :: 18 :: []), [(48, (.bool (x28 == 0))), (46, (.bool (decide (v57 ≤ a1))))]⟩ :: ⟨_, undef, false, 0, 0, (0 :: 1 :: 2 :: 3 :: 4 :: 5 :: 6 :: 7 :: 8 :: 9 :: 10 :: 11 :: 12 :: 13 :: 14 :: 15 :: 16 :: 17 :: 18 :: 19 :: []), [(49, (.bool (x28 == 0)))]⟩ :: ⟨_, undef, false, 0, 0, (0 :: 1 :: 2 :: 3 :: 4 :: 5 :: 6 :: 7 :: 8 :: 9 :: 10 :: 11 :: 12 :: 13 :: 14 :: 15 :: 16 :: 17 :: 18 :: 19 :: []), [(49, (.bool (x28 == 0)))]⟩ :: ⟨_, undef, false, 0, 0, (0 :: 1 :: 2 :: 3 :: 4 :: 5 :: 6 :: 7 :: 8 :: 9 :: 10 :: 11 :: 12 :: 13 :: 14 :: 15 :: 16 :: 17 :: 18 :: 19 :: 20 :: []), [(49, (.bool (x28 == 0)))]⟩ :: ⟨_, undef, false, 0, 0, (0 :: 1 :: 2 :: 3 :: 4 :: 5 :: 6 :: 7 :: 8 :: 9 :: 10 :: 11 :: 12 :: 13 :: 14 :: 15 :: 16 :: 17 :: 18 :: 19 :: 20 :: 22 :: []), [(49, (.bool (x28 == 0)))]⟩ :: ⟨_, undef, false, 0, 0, (0 :: 1 :: 2 :: 3 :: 4 :: 5 :: 6 :: 7 :: 8 :: 9 :: 10 :: 11 :: 12 :: 13 :: 14 :: 15 :: 16 :: 17 :: 18 :: 19 :: 20 :: 21 :: 22 :: 23 :: []), [(49, (.bool (x28 == 0)))]⟩ :: ⟨_, undef, false, 0, 0, (0 :: 1 :: 2 :: 3 :: 4 :: 5 :: 6 :: 7 :: 8 :: 9 :: 10 :: 11 :: 12 :: 13 :: 14 :: 15 :: 16 :: 17 :: 18 :: 19 :: 20 :: 21 :: 22 :: 23 :: 24 :: []), [(49, (.bool (x28 == 0)))]⟩ :: ⟨_, undef, false, 0, 0, (0 :: 1 :: 2 :: 3 :: 4 :: 5 :: 6 :: 7 :: 8 :: 9 :: 10 :: 11 :: 12 :: 13 :: 14 :: 15 :: 16 :: 17 :: 18 :: 19 :: []), [(49, (.bool (x28 == 0)))]⟩ :: ⟨_, undef, false, 0, 0, (0 :: 1 :: 2 :: 3 :: 4 :: 5 :: 6 :: 7 :: 8 :: 9 :: 10 :: 11 :: 12 :: 13 :: 14 :: 15 :: 16 :: 17 :: 18 :: 19 :: []), [(49, (.bool (x28 == 0)))]⟩ :: ⟨_, undef, false, 0, 0, (0 :: 1 :: 2 :: 3 :: 4 :: 5 :: 6 :: 7 :: 8 :: 9 :: 10 :: 11 :: 12 :: 13 :: 14 :: 15 :: 16 :: 17 :: 18 :: 19 :: 26 :: []), [(49, (.bool (x28 == 0)))]⟩ :: ⟨_, undef, false, 0, 0, (0 :: 1 :: 2 :: 3 :: 4 :: 5 :: 6 :: 7 :: 8 :: 9 :: 10 :: 11 :: 12 :: 13 :: 14 :: 15 :: 16 :: 17 :: 18 :: 19 :: 26 :: 28 :: []), [(49, (.bool (x28 == 0)))]⟩ :: ⟨_, undef, false, 0, 0, (0 :: 1 :: 2 :: 3 :: 4 :: 5 :: 6 :: 7 :: 8 :: 9 :: 10 :: 11 :: 12 :: 13 :: 14 :: 15 :: 16 :: 17 :: 18 :: 19 :: 26 :: 27 :: 28 :: 29 :: []), [(49, (.bool (x28 == 0)))]⟩ :: ⟨_, undef, false, 0, 0, (0 :: 1 :: 2 :: 3 :: 4 :: 5 :: 6 :: 7 :: 8 :: 9 :: 10 :: 11 :: 12 :: 13 :: 14 :: 15 :: 16 :: 17 :: 18 :: 19 :: 26 :: 27 :: 28 :: 29 :: 30 :: []), [(49, (.bool (x28 == 0)))]⟩ :: ⟨_, undef, false, 0, 0, (0 :: 1 :: 2 :: 3 :: 4 :: 5 :: 6 :: 7 :: 8 :: 9 :: 10 :: 11 :: 12 :: 13 :: 14 :: 15 :: 16 :: 17 :: 18 :: 19 :: 20 :: 21 :: 22 :: 23 :: 24 :: 25 :: 26 :: 27 :: 28 :: 29 :: 30 :: 31 :: []), [(49, (.bool (x28 == 0)))]⟩ :: ⟨_, (.bool true), false, 0, 0, (0 :: 1 :: 2 :: 3 :: 4 :: 5 :: 6 :: 7 :: 8 :: 9 :: 10 :: 11 :: 12 :: 13 :: 14 :: 15 :: 16 :: 17 :: 18 :: 19 :: 20 :: 21 :: 22 :: 23 :: 24 :: 25 :: 26 :: 27 :: 28 :: 29 :: 30 :: 31 :: 32 :: []), [(49, (.bool (x28 == 0))), (62, undef), (46, (.bool (decide (v57 ≤ a1))))]⟩ :: ⟨_, (.bool true), false, 0, 0, (0 :: 1 :: 2 :: 3 :: 4 :: 5 :: 6 :: 7 :: 8 :: 9 :: 10 :: 11 :: 12 :: 13 :: 14 :: 15 :: 16 :: 17 :: 18 :: 19 :: 20 :: 21 :: 22 :: 23 :: 24 :: 25 :: 26 :: 27 :: 28 :: 29 :: 30 :: 31 :: 32 :: 33 :: []), [(46, (.bool (decide (v57 ≤ a1)))), (63, (.bool true))]⟩ :: [])) (W := (fun _ => w46)) (by kernel_rfl) ha (dr_w e47) (by kernel_rfl) ?_ (reads_of (by kernel_rfl)) (by kernel_rfl) (m := 0) (by kernel_rfl) (fun a ha => ?_)
                        · refine ⟨?_, ?_, ?_, ?_, ?_, ?_, ?_, ?_, ?_, ?_, ?_, ?_, ?_, ?_, ?_, ?_, ?_, ?_, ?_, ?_, ?_, ?_, ?_, ?_, ?_, ?_, ?_, ?_, ?_, ?_, ?_, ?_, ?_, ?_, ?_, trivial⟩
                          · exact oa fun j a ha => d_move ha rfl
                          · exact oa fun j a ha => d_move ha rfl
                          · exact oa fun j a ha => d_nilp ha rfl e49
                          · exact oa fun j a ha => d_fa ha rfl Try.runUnderlying107 rfl rfl Try.sizeOf105 (by decide)
                          · exact oa fun j a ha => d_ixA ha rfl rfl Try.runUnderlying105 Try.sizeOf4 e51
                          · exact oc (e := false) 0 (ok_do rfl fun a ha => d_ld ha rfl Try.isAgg4 (ldB_c e53))
                          · exact oa fun j a ha => d_move ha rfl
                          · exact oag 36 b54 fun j a ha => d_move ha rfl
                          · exact oag 36 b54 fun j a ha => d_move ha rfl
                          · exact oag 36 b54 fun j a ha => d_nilp ha rfl e49
                          · exact oag 36 b54 fun j a ha => d_fa ha rfl Try.runUnderlying107 rfl rfl Try.sizeOf28 (by decide)
                          · exact oag 36 b54 fun j a ha => d_ixA ha rfl rfl Try.runUnderlying28 Try.sizeOf3 e56
                          · exact oc (e := false) 0 (ok_do_g rfl rfl (rfl : List.lookup 36 _ = _) b54 fun a ha => d_ld ha rfl Try.isAgg3 (ldI_c e58))
                          · exact oag 36 b54 fun j a ha => d_move ha rfl
                          · exact oag 36 b54 fun j a ha => d_le ha rfl rfl
                          · exact oa fun j a ha => d_pick_t ha rfl b54 rfl
                          · exact oa fun j a ha => d_move ha rfl
                          · exact oag 46 b59 fun j a ha => d_move ha rfl
                          · exact oag 46 b59 fun j a ha => d_eq ha rfl rfl
                          · exact oag 46 b59 fun j a ha => d_move ha rfl
                          · exact on 49 (tn b60)
                          · exact on 49 (tn b60)
                          · exact on 49 (tn b60)
                          · exact on 49 (tn b60)
                          · exact on 49 (tn b60)
                          · exact on 49 (tn b60)
                          · exact on 49 (tn b60)
                          · exact on 49 (tn b60)
                          · exact on 49 (tn b60)
                          · exact on 49 (tn b60)
                          · exact on 49 (tn b60)
                          · exact on 49 (tn b60)
                          · exact on 49 (tn b60)
                          · exact oag 46 b59 fun j a ha => d_pick_t ha rfl b60 rfl
                          · exact oa fun j a ha => d_pick_t ha rfl b59 rfl
                        · have ha : Has 78 [(0, (.pointer a0)), (1, (.int .i64 a1)), (6, (Sl.v x19)), (7, (.int .i64 x28)), (8, (.int .i64 x29)), (64, (.bool true))] a := ha.sub ⟨rfl, rfl, rfl, rfl, rfl, rfl, trivial⟩
                          have hS : Has 78 [(64, (.bool true)), (0, (.pointer a0)), (1, (.int .i64 a1)), (6, (Sl.v x19)), (7, (.int .i64 x28)), (8, (.int .i64 x29))] _ := ha.sub ⟨rfl, rfl, rfl, rfl, rfl, rfl, trivial⟩
                          cases h
                          exact hk45 _ hS
                      · obtain ⟨p61, e62, h⟩ := bs1 h
                        obtain ⟨v63, e64, h⟩ := bs1 h
                        obtain ⟨p65, e66, h⟩ := bs1 h
                        obtain ⟨v67, e68, h⟩ := bs1 h
                        have ha : Has 78 [(0, (.pointer a0)), (1, (.int .i64 a1)), (6, (Sl.v x19)), (7, (.int .i64 x28)), (8, (.int .i64 x29))] a := ha.sub ⟨rfl, rfl, rfl, rfl, rfl, trivial⟩
                        refine region_draw (n := 78) (ds := (⟨_, (.pointer a0), false, 0, 0, [], [(0, (.pointer a0))]⟩ :: ⟨_, (.int .i64 x29), false, 0, 0, [], [(8, (.int .i64 x29))]⟩ :: ⟨_, (.pointer (some p48)), false, 0, 0, [0], [(30, (.pointer a0))]⟩ :: ⟨_, (.pointer (some (p48.add 1))), false, 0, 0, [0, 2], [(32, (.pointer (some p48)))]⟩ :: ⟨_, (.pointer (some p50)), false, 0, 0, [0, 1, 2, 3], [(33, (.pointer (some (p48.add 1)))), (31, (.int .i64 x29))]⟩ :: ⟨_, (.bool v52), false, 0, 0, [0, 1, 2, 3, 4], [(34, (.pointer (some p50)))]⟩ :: ⟨_, (.bool v52), false, 0, 0, [0, 1, 2, 3, 4, 5], [(35, (.bool v52))]⟩ :: ⟨_, (.pointer a0), false, 0, 0, [0, 1, 2, 3, 4, 5, 6], [(0, (.pointer a0)), (36, (.bool v52))]⟩ :: ⟨_, (.int .i64 x29), false, 0, 0, [0, 1, 2, 3, 4, 5, 6], [(8, (.int .i64 x29)), (36, (.bool v52))]⟩ :: ⟨_, (.pointer (some p48)), false, 0, 0, [0, 1, 2, 3, 4, 5, 6, 7], [(37, (.pointer a0)), (36, (.bool v52))]⟩ :: ⟨_, (.pointer (some (p48.add 66))), false, 0, 0, [0, 1, 2, 3, 4, 5, 6, 7, 9], [(39, (.pointer (some p48))), (36, (.bool v52))]⟩ :: ⟨_, (.pointer (some p55)), false, 0, 0, [0, 1, 2, 3, 4, 5, 6, 7, 8, 9, 10], [(40, (.pointer (some (p48.add 66)))), (38, (.int .i64 x29)), (36, (.bool v52))]⟩ :: ⟨_, (.int .i64 v57), false, 0, 0, [0, 1, 2, 3, 4, 5, 6, 7, 8, 9, 10, 11], [(41, (.pointer (some p55))), (36, (.bool v52))]⟩ :: ⟨_, (.int .i64 a1), false, 0, 0, [0, 1, 2, 3, 4, 5, 6], [(1, (.int .i64 a1)), (36, (.bool v52))]⟩ :: ⟨_, (.bool (decide (v57 ≤ a1))), false, 0, 0, (0 :: 1 :: 2 :: 3 :: 4 :: 5 :: 6 :: 7 :: 8 :: 9 :: 10 :: 11 :: 12 :: 13 :: []), [(42, (.int .i64 v57)), (43, (.int .i64 a1)), (36, (.bool v52))]⟩ :: ⟨_, (.bool (decide (v57 ≤ a1))), false, 0, 0, (0 :: 1 :: 2 :: 3 :: 4 :: 5 :: 6 :: 7 :: 8 :: 9 :: 10 :: 11 :: 12 :: 13 :: 14 :: []), [(36, (.bool v52)), (44, (.bool (decide (v57 ≤ a1))))]⟩ :: ⟨_, (.bool (decide (v57 ≤ a1))), false, 0, 0, (0 :: 1 :: 2 :: 3 :: 4 :: 5 :: 6 :: 7 :: 8 :: 9 :: 10 :: 11 :: 12 :: 13 :: 14 :: 15 :: []), [(45, (.bool (decide (v57 ≤ a1))))]⟩ :: ⟨_, (.int .i64 x28), false, 0, 0, (0 :: 1 :: 2 :: 3 :: 4 :: 5 :: 6 :: 7 :: 8 :: 9 :: 10 :: 11 :: 12 :: 13 :: 14 :: 15 :: 16 :: []), [(7, (.int .i64 x28)), (46, (.bool (decide (v57 ≤ a1))))]⟩ :: ⟨_, (.bool (x28 == 0)), false, 0, 0, (0 :: 1 :: 2 :: 3 :: 4 :: 5 :: 6 :: 7 :: 8 :: 9 :: 10 :: 11 :: 12 :: 13 :: 14 :: 15 :: 16 :: 17 :: []), [(47, (.int .i64 x28)), (46, (.bool (decide (v57 ≤ a1))))]⟩ :: ⟨_, (.bool (x28 == 0)), false, 0, 0, (0 :: 1 :: 2 :: 3 :: 4 :: 5 :: 6 :: 7 :: 8 :: 9 :: 10 :: 11 :: 12 :: 13 :: 14 :: 15 :: 16 :: 17 :: 18 :: []), [(48, (.bool (x28 == 0))), (46, (.bool (decide (v57 ≤ a1))))]⟩ :: ⟨_, (.pointer a0), false, 0, 0, (0 :: 1 :: 2 :: 3 :: 4 :: 5 :: 6 :: 7 :: 8 :: 9 :: 10 :: 11 :: 12 :: 13 :: 14 :: 15 :: 16 :: 17 :: 18 :: 19 :: []), [(0, (.pointer a0)), (49, (.bool (x28 == 0)))]⟩ :: ⟨_, (.int .i64 x29), false, 0, 0, (0 :: 1 :: 2 :: 3 :: 4 :: 5 :: 6 :: 7 :: 8 :: 9 :: 10 :: 11 :: 12 :: 13 :: 14 :: 15 :: 16 :: 17 :: 18 :: 19 :: []), [(8, (.int .i64 x29)), (49, (.bool (x28 == 0)))]⟩ :: ⟨_, (.pointer (some p48)), false, 0, 0, (0 :: 1 :: 2 :: 3 :: 4 :: 5 :: 6 :: 7 :: 8 :: 9 :: 10 :: 11 :: 12 :: 13 :: 14 :: 15 :: 16 :: 17 :: 18 :: 19 :: 20 :: []), [(50, (.pointer a0)), (49, (.bool (x28 == 0)))]⟩ :: ⟨_, (.pointer (some (p48.add 66))), false, 0, 0, (0 :: 1 :: 2 :: 3 :: 4 :: 5 :: 6 :: 7 :: 8 :: 9 :: 10 :: 11 :: 12 :: 13 :: 14 :: 15 :: 16 :: 17 :: 18 :: 19 :: 20 :: 22 :: []), [(52, (.pointer (some p48))), (49, (.bool (x28 == 0)))]⟩ :: ⟨_, (.pointer (some p61)), false, 0, 0, (0 :: 1 :: 2 :: 3 :: 4 :: 5 :: 6 :: 7 :: 8 :: 9 :: 10 :: 11 :: 12 :: 13 :: 14 :: 15 :: 16 :: 17 :: 18 :: 19 :: 20 :: 21 :: 22 :: 23 :: []), [(53, (.pointer (some (p48.add 66)))), (51, (.int .i64 x29)), (49, (.bool (x28 == 0)))]⟩ :: ⟨_, (.int .i64 v63), false, 0, 0, (0 :: 1 :: 2 :: 3 :: 4 :: 5 :: 6 :: 7 :: 8 :: 9 :: 10 :: 11 :: 12 :: 13 :: 14 :: 15 :: 16 :: 17 :: 18 :: 19 :: 20 :: 21 :: 22 :: 23 :: 24 :: []), [(54, (.pointer (some p61))), (49, (.bool (x28 == 0)))]⟩ :: ⟨_, (.pointer a0), false, 0, 0, (0 :: 1 :: 2 :: 3 :: 4 :: 5 :: 6 :: 7 :: 8 :: 9 :: 10 :: 11 :: 12 :: 13 :: 14 :: 15 :: 16 :: 17 :: 18 :: 19 :: []), [(0, (.pointer a0)), (49, (.bool (x28 == 0)))]⟩ :: ⟨_, (.int .i64 x28), false, 0, 0, (0 :: 1 :: 2 :: 3 :: 4 :: 5 :: 6 :: 7 :: 8 :: 9 :: 10 :: 11 :: 12 :: 13 :: 14 :: 15 :: 16 :: 17 :: 18 :: 19 :: []), [(7, (.int .i64 x28)), (49, (.bool (x28 == 0)))]⟩ :: ⟨_, (.pointer (some p48)), false, 0, 0, (0 :: 1 :: 2 :: 3 :: 4 :: 5 :: 6 :: 7 :: 8 :: 9 :: 10 :: 11 :: 12 :: 13 :: 14 :: 15 :: 16 :: 17 :: 18 :: 19 :: 26 :: []), [(56, (.pointer a0)), (49, (.bool (x28 == 0)))]⟩ :: ⟨_, (.pointer (some (p48.add 66))), false, 0, 0, (0 :: 1 :: 2 :: 3 :: 4 :: 5 :: 6 :: 7 :: 8 :: 9 :: 10 :: 11 :: 12 :: 13 :: 14 :: 15 :: 16 :: 17 :: 18 :: 19 :: 26 :: 28 :: []), [(58, (.pointer (some p48))), (49, (.bool (x28 == 0)))]⟩ :: ⟨_, (.pointer (some p65)), false, 0, 0, (0 :: 1 :: 2 :: 3 :: 4 :: 5 :: 6 :: 7 :: 8 :: 9 :: 10 :: 11 :: 12 :: 13 :: 14 :: 15 :: 16 :: 17 :: 18 :: 19 :: 26 :: 27 :: 28 :: 29 :: []), [(59, (.pointer (some (p48.add 66)))), (57, (.int .i64 x28)), (49, (.bool (x28 == 0)))]⟩ :: ⟨_, (.int .i64 v67), false, 0, 0, (0 :: 1 :: 2 :: 3 :: 4 :: 5 :: 6 :: 7 :: 8 :: 9 :: 10 :: 11 :: 12 :: 13 :: 14 :: 15 :: 16 :: 17 :: 18 :: 19 :: 26 :: 27 :: 28 :: 29 :: 30 :: []), [(60, (.pointer (some p65))), (49, (.bool (x28 == 0)))]⟩ :: ⟨_, (.bool (decide (v63 ≤ v67))), false, 0, 0, (0 :: 1 :: 2 :: 3 :: 4 :: 5 :: 6 :: 7 :: 8 :: 9 :: 10 :: 11 :: 12 :: 13 :: 14 :: 15 :: 16 :: 17 :: 18 :: 19 :: 20 :: 21 :: 22 :: 23 :: 24 :: 25 :: 26 :: 27 :: 28 :: 29 :: 30 :: 31 :: []), [(55, (.int .i64 v63)), (61, (.int .i64 v67)), (49, (.bool (x28 == 0)))]⟩ :: ⟨_, (.bool (decide (v63 ≤ v67))), false, 0, 0, (0 :: 1 :: 2 :: 3 :: 4 :: 5 :: 6 :: 7 :: 8 :: 9 :: 10 :: 11 :: 12 :: 13 :: 14 :: 15 :: 16 :: 17 :: 18 :: 19 :: 20 :: 21 :: 22 :: 23 :: 24 :: 25 :: 26 :: 27 :: 28 :: 29 :: 30 :: 31 :: 32 :: []), [(49, (.bool (x28 == 0))), (62, (.bool (decide (v63 ≤ v67)))), (46, (.bool (decide (v57 ≤ a1))))]⟩ :: ⟨_, (.bool (decide (v63 ≤ v67))), false, 0, 0, (0 :: 1 :: 2 :: 3 :: 4 :: 5 :: 6 :: 7 :: 8 :: 9 :: 10 :: 11 :: 12 :: 13 :: 14 :: 15 :: 16 :: 17 :: 18 :: 19 :: 20 :: 21 :: 22 :: 23 :: 24 :: 25 :: 26 :: 27 :: 28 :: 29 :: 30 :: 31 :: 32 :: 33 :: []), [(46, (.bool (decide (v57 ≤ a1)))), (63, (.bool (decide (v63 ≤ v67))))]⟩ :: [])) (W := (fun _ => w46)) (by kernel_rfl) ha (dr_w e47) (by kernel_rfl) ?_ (reads_of (by kernel_rfl)) (by kernel_rfl) (m := 0) (by kernel_rfl) (fun a ha => ?_)
                        · refine ⟨?_, ?_, ?_, ?_, ?_, ?_, ?_, ?_, ?_, ?_, ?_, ?_, ?_, ?_, ?_, ?_, ?_, ?_, ?_, ?_, ?_, ?_, ?_, ?_, ?_, ?_, ?_, ?_, ?_, ?_, ?_, ?_, ?_, ?_, ?_, trivial⟩
                          · exact oa fun j a ha => d_move ha rfl
                          · exact oa fun j a ha => d_move ha rfl
                          · exact oa fun j a ha => d_nilp ha rfl e49
                          · exact oa fun j a ha => d_fa ha rfl Try.runUnderlying107 rfl rfl Try.sizeOf105 (by decide)
                          · exact oa fun j a ha => d_ixA ha rfl rfl Try.runUnderlying105 Try.sizeOf4 e51
                          · exact oc (e := false) 0 (ok_do rfl fun a ha => d_ld ha rfl Try.isAgg4 (ldB_c e53))
                          · exact oa fun j a ha => d_move ha rfl
                          · exact oag 36 b54 fun j a ha => d_move ha rfl
                          · exact oag 36 b54 fun j a ha => d_move ha rfl
                          · exact oag 36 b54 fun j a ha => d_nilp ha rfl e49
                          · exact oag 36 b54 fun j a ha => d_fa ha rfl Try.runUnderlying107 rfl rfl Try.sizeOf28 (by decide)
                          · exact oag 36 b54 fun j a ha => d_ixA ha rfl rfl Try.runUnderlying28 Try.sizeOf3 e56
                          · exact oc (e := false) 0 (ok_do_g rfl rfl (rfl : List.lookup 36 _ = _) b54 fun a ha => d_ld ha rfl Try.isAgg3 (ldI_c e58))
                          · exact oag 36 b54 fun j a ha => d_move ha rfl
                          · exact oag 36 b54 fun j a ha => d_le ha rfl rfl
                          · exact oa fun j a ha => d_pick_t ha rfl b54 rfl
                          · exact oa fun j a ha => d_move ha rfl
                          · exact oag 46 b59 fun j a ha => d_move ha rfl
                          · exact oag 46 b59 fun j a ha => d_eq ha rfl rfl
                          · exact oag 46 b59 fun j a ha => d_move ha rfl
                          · exact oag 49 (nt b60) fun j a ha => d_move ha rfl
                          · exact oag 49 (nt b60) fun j a ha => d_move ha rfl
                          · exact oag 49 (nt b60) fun j a ha => d_nilp ha rfl e49
                          · exact oag 49 (nt b60) fun j a ha => d_fa ha rfl Try.runUnderlying107 rfl rfl Try.sizeOf28 (by decide)
                          · exact oag 49 (nt b60) fun j a ha => d_ixA ha rfl rfl Try.runUnderlying28 Try.sizeOf3 e62
                          · exact oc (e := false) 0 (ok_do_g rfl rfl (rfl : List.lookup 49 _ = _) (nt b60) fun a ha => d_ld ha rfl Try.isAgg3 (ldI_c e64))
                          · exact oag 49 (nt b60) fun j a ha => d_move ha rfl
                          · exact oag 49 (nt b60) fun j a ha => d_move ha rfl
                          · exact oag 49 (nt b60) fun j a ha => d_nilp ha rfl e49
                          · exact oag 49 (nt b60) fun j a ha => d_fa ha rfl Try.runUnderlying107 rfl rfl Try.sizeOf28 (by decide)
                          · exact oag 49 (nt b60) fun j a ha => d_ixA ha rfl rfl Try.runUnderlying28 Try.sizeOf3 e66
                          · exact oc (e := false) 0 (ok_do_g rfl rfl (rfl : List.lookup 49 _ = _) (nt b60) fun a ha => d_ld ha rfl Try.isAgg3 (ldI_c e68))
                          · exact oag 49 (nt b60) fun j a ha => d_le ha rfl rfl
                          · exact oag 46 b59 fun j a ha => d_pick_f ha rfl b60 rfl
                          · exact oa fun j a ha => d_pick_t ha rfl b59 rfl
                        · have ha : Has 78 [(0, (.pointer a0)), (1, (.int .i64 a1)), (6, (Sl.v x19)), (7, (.int .i64 x28)), (8, (.int .i64 x29)), (64, (.bool (decide (v63 ≤ v67))))] a := ha.sub ⟨rfl, rfl, rfl, rfl, rfl, rfl, trivial⟩
                          have hS : Has 78 [(64, (.bool (decide (v63 ≤ v67)))), (0, (.pointer a0)), (1, (.int .i64 a1)), (6, (Sl.v x19)), (7, (.int .i64 x28)), (8, (.int .i64 x29))] _ := ha.sub ⟨rfl, rfl, rfl, rfl, rfl, rfl, trivial⟩
                          cases h
                          exact hk45 _ hS
                    · have ha : Has 78 [(0, (.pointer a0)), (1, (.int .i64 a1)), (6, (Sl.v x19)), (7, (.int .i64 x28)), (8, (.int .i64 x29))] a := ha.sub ⟨rfl, rfl, rfl, rfl, rfl, trivial⟩
                      refine region_draw (n := 78) (ds := (⟨_, (.pointer a0), false, 0, 0, [], [(0, (.pointer a0))]⟩ :: ⟨_, (.int .i64 x29), false, 0, 0, [], [(8, (.int .i64 x29))]⟩ :: ⟨_, (.pointer (some p48)), false, 0, 0, [0], [(30, (.pointer a0))]⟩ :: ⟨_, (.pointer (some (p48.add 1))), false, 0, 0, [0, 2], [(32, (.pointer (some p48)))]⟩ :: ⟨_, (.pointer (some p50)), false, 0, 0, [0, 1, 2, 3], [(33, (.pointer (some (p48.add 1)))), (31, (.int .i64 x29))]⟩ :: ⟨_, (.bool v52), false, 0, 0, [0, 1, 2, 3, 4], [(34, (.pointer (some p50)))]⟩ :: ⟨_, (.bool v52), false, 0, 0, [0, 1, 2, 3, 4, 5], [(35, (.bool v52))]⟩ :: ⟨_, (.pointer a0), false, 0, 0, [0, 1, 2, 3, 4, 5, 6], [(0, (.pointer a0)), (36, (.bool v52))]⟩ :: ⟨_, (.int .i64 x29), false, 0, 0, [0, 1, 2, 3, 4, 5, 6], [(8, (.int .i64 x29)), (36, (.bool v52))]⟩ :: ⟨_, (.pointer (some p48)), false, 0, 0, [0, 1, 2, 3, 4, 5, 6, 7], [(37, (.pointer a0)), (36, (.bool v52))]⟩ :: ⟨_, (.pointer (some (p48.add 66))), false, 0, 0, [0, 1, 2, 3, 4, 5, 6, 7, 9], [(39, (.pointer (some p48))), (36, (.bool v52))]⟩ :: ⟨_, (.pointer (some p55)), false, 0, 0, [0, 1, 2, 3, 4, 5, 6, 7, 8, 9, 10], [(40, (.pointer (some (p48.add 66)))), (38, (.int .i64 x29)), (36, (.bool v52))]⟩ :: ⟨_, (.int .i64 v57), false, 0, 0, [0, 1, 2, 3, 4, 5, 6, 7, 8, 9, 10, 11], [(41, (.pointer (some p55))), (36, (.bool v52))]⟩ :: ⟨_, (.int .i64 a1), false, 0, 0, [0, 1, 2, 3, 4, 5, 6], [(1, (.int .i64 a1)), (36, (.bool v52))]⟩ :: ⟨_, (.bool (decide (v57 ≤ a1))), false, 0, 0, (0 :: 1 :: 2 :: 3 :: 4 :: 5 :: 6 :: 7 :: 8 :: 9 :: 10 :: 11 :: 12 :: 13 :: []), [(42, (.int .i64 v57)), (43, (.int .i64 a1)), (36, (.bool v52))]⟩ :: ⟨_, (.bool (decide (v57 ≤ a1))), false, 0, 0, (0 :: 1 :: 2 :: 3 :: 4 :: 5 :: 6 :: 7 :: 8 :: 9 :: 10 :: 11 :: 12 :: 13 :: 14 :: []), [(36, (.bool v52)), (44, (.bool (decide (v57 ≤ a1))))]⟩ :: ⟨_, (.bool (decide (v57 ≤ a1))), false, 0, 0, (0 :: 1 :: 2 :: 3 :: 4 :: 5 :: 6 :: 7 :: 8 :: 9 :: 10 :: 11 :: 12 :: 13 :: 14 :: 15 :: []), [(45, (.bool (decide (v57 ≤ a1))))]⟩ :: ⟨_, undef, false, 0, 0, (0 :: 1 :: 2 :: 3 :: 4 :: 5 :: 6 :: 7 :: 8 :: 9 :: 10 :: 11 :: 12 :: 13 :: 14 :: 15 :: 16 :: []), [(46, (.bool (decide (v57 ≤ a1))))]⟩ :: ⟨_, undef, false, 0, 0, (0 :: 1 :: 2 :: 3 :: 4 :: 5 :: 6 :: 7 :: 8 :: 9 :: 10 :: 11 :: 12 :: 13 :: 14 :: 15 :: 16 :: 17 :: []), [(46, (.bool (decide (v57 ≤ a1))))]⟩ :: ⟨_, undef, false, 0, 0, (0 :: 1 :: 2 :: 3 :: 4 :: 5 :: 6 :: 7 :: 8 :: 9 :: 10 :: 11 :: 12 :: 13 :: 14 :: 15 :: 16 :: 17 :: 18 :: []), [(46, (.bool (decide (v57 ≤ a1))))]⟩ :: ⟨_, undef, false, 0, 0, (0 :: 1 :: 2 :: 3 :: 4 :: 5 :: 6 :: 7 :: 8 :: 9 :: 10 :: 11 :: 12 :: 13 :: 14 :: 15 :: 16 :: 17 :: 18 :: 19 :: []), [(49, undef)]⟩ :: ⟨_, undef, false, 0, 0, (0 :: 1 :: 2 :: 3 :: 4 :: 5 :: 6 :: 7 :: 8 :: 9 :: 10 :: 11 :: 12 :: 13 :: 14 :: 15 :: 16 :: 17 :: 18 :: 19 :: []), [(49, undef)]⟩ :: ⟨_, undef, false, 0, 0, (0 :: 1 :: 2 :: 3 :: 4 :: 5 :: 6 :: 7 :: 8 :: 9 :: 10 :: 11 :: 12 :: 13 :: 14 :: 15 :: 16 :: 17 :: 18 :: 19 :: 20 :: []), [(49, undef)]⟩ :: ⟨_, undef, false, 0, 0, (0 :: 1 :: 2 :: 3 :: 4 :: 5 :: 6 :: 7 :: 8 :: 9 :: 10 :: 11 :: 12 :: 13 :: 14 :: 15 :: 16 :: 17 :: 18 :: 19 :: 20 :: 22 :: []), [(49, undef)]⟩ :: ⟨_, undef, false, 0, 0, (0 :: 1 :: 2 :: 3 :: 4 :: 5 :: 6 :: 7 :: 8 :: 9 :: 10 :: 11 :: 12 :: 13 :: 14 :: 15 :: 16 :: 17 :: 18 :: 19 :: 20 :: 21 :: 22 :: 23 :: []), [(49, undef)]⟩ :: ⟨_, undef, false, 0, 0, (0 :: 1 :: 2 :: 3 :: 4 :: 5 :: 6 :: 7 :: 8 :: 9 :: 10 :: 11 :: 12 :: 13 :: 14 :: 15 :: 16 :: 17 :: 18 :: 19 :: 20 :: 21 :: 22 :: 23 :: 24 :: []), [(49, undef)]⟩ :: ⟨_, undef, false, 0, 0, (0 :: 1 :: 2 :: 3 :: 4 :: 5 :: 6 :: 7 :: 8 :: 9 :: 10 :: 11 :: 12 :: 13 :: 14 :: 15 :: 16 :: 17 :: 18 :: 19 :: []), [(49, undef)]⟩ :: ⟨_, undef, false, 0, 0, (0 :: 1 :: 2 :: 3 :: 4 :: 5 :: 6 :: 7 :: 8 :: 9 :: 10 :: 11 :: 12 :: 13 :: 14 :: 15 :: 16 :: 17 :: 18 :: 19 :: []), [(49, undef)]⟩ :: ⟨_, undef, false, 0, 0, (0 :: 1 :: 2 :: 3 :: 4 :: 5 :: 6 :: 7 :: 8 :: 9 :: 10 :: 11 :: 12 :: 13 :: 14 :: 15 :: 16 :: 17 :: 18 :: 19 :: 26 :: []), [(49, undef)]⟩ :: ⟨_, undef, false, 0, 0, (0 :: 1 :: 2 :: 3 :: 4 :: 5 :: 6 :: 7 :: 8 :: 9 :: 10 :: 11 :: 12 :: 13 :: 14 :: 15 :: 16 :: 17 :: 18 :: 19 :: 26 :: 28 :: []), [(49, undef)]⟩ :: ⟨_, undef, false, 0, 0, (0 :: 1 :: 2 :: 3 :: 4 :: 5 :: 6 :: 7 :: 8 :: 9 :: 10 :: 11 :: 12 :: 13 :: 14 :: 15 :: 16 :: 17 :: 18 :: 19 :: 26 :: 27 :: 28 :: 29 :: []), [(49, undef)]⟩ :: ⟨_, undef, false, 0, 0, (0 :: 1 :: 2 :: 3 :: 4 :: 5 :: 6 :: 7 :: 8 :: 9 :: 10 :: 11 :: 12 :: 13 :: 14 :: 15 :: 16 :: 17 :: 18 :: 19 :: 26 :: 27 :: 28 :: 29 :: 30 :: []), [(49, undef)]⟩ :: ⟨_, undef, false, 0, 0, (0 :: 1 :: 2 :: 3 :: 4 :: 5 :: 6 :: 7 :: 8 :: 9 :: 10 :: 11 :: 12 :: 13 :: 14 :: 15 :: 16 :: 17 :: 18 :: 19 :: 20 :: 21 :: 22 :: 23 :: 24 :: 25 :: 26 :: 27 :: 28 :: 29 :: 30 :: 31 :: []), [(49, undef)]⟩ :: ⟨_, undef, false, 0, 0, (0 :: 1 :: 2 :: 3 :: 4 :: 5 :: 6 :: 7 :: 8 :: 9 :: 10 :: 11 :: 12 :: 13 :: 14 :: 15 :: 16 :: 17 :: 18 :: 19 :: 20 :: 21 :: 22 :: 23 :: 24 :: 25 :: 26 :: 27 :: 28 :: 29 :: 30 :: 31 :: 32 :: []), [(46, (.bool (decide (v57 ≤ a1))))]⟩ :: ⟨_, (.bool false), false, 0, 0, (0 :: 1 :: 2 :: 3 :: 4 :: 5 :: 6 :: 7 :: 8 :: 9 :: 10 :: 11 :: 12 :: 13 :: 14 :: 15 :: 16 :: 17 :: 18 :: 19 :: 20 :: 21 :: 22 :: 23 :: 24 :: 25 :: 26 :: 27 :: 28 :: 29 :: 30 :: 31 :: 32 :: 33 :: []), [(46, (.bool (decide (v57 ≤ a1)))), (63, undef)]⟩ :: [])) (W := (fun _ => w46)) (by kernel_rfl) ha (dr_w e47) (by kernel_rfl) ?_ (reads_of (by kernel_rfl)) (by kernel_rfl) (m := 0) (by kernel_rfl) (fun a ha => ?_)
                      · refine ⟨?_, ?_, ?_, ?_, ?_, ?_, ?_, ?_, ?_, ?_, ?_, ?_, ?_, ?_, ?_, ?_, ?_, ?_, ?_, ?_, ?_, ?_, ?_, ?_, ?_, ?_, ?_, ?_, ?_, ?_, ?_, ?_, ?_, ?_, ?_, trivial⟩
                        · exact oa fun j a ha => d_move ha rfl
                        · exact oa fun j a ha => d_move ha rfl
                        · exact oa fun j a ha => d_nilp ha rfl e49
                        · exact oa fun j a ha => d_fa ha rfl Try.runUnderlying107 rfl rfl Try.sizeOf105 (by decide)
                        · exact oa fun j a ha => d_ixA ha rfl rfl Try.runUnderlying105 Try.sizeOf4 e51
                        · exact oc (e := false) 0 (ok_do rfl fun a ha => d_ld ha rfl Try.isAgg4 (ldB_c e53))
                        · exact oa fun j a ha => d_move ha rfl
                        · exact oag 36 b54 fun j a ha => d_move ha rfl
                        · exact oag 36 b54 fun j a ha => d_move ha rfl
                        · exact oag 36 b54 fun j a ha => d_nilp ha rfl e49
                        · exact oag 36 b54 fun j a ha => d_fa ha rfl Try.runUnderlying107 rfl rfl Try.sizeOf28 (by decide)
                        · exact oag 36 b54 fun j a ha => d_ixA ha rfl rfl Try.runUnderlying28 Try.sizeOf3 e56
                        · exact oc (e := false) 0 (ok_do_g rfl rfl (rfl : List.lookup 36 _ = _) b54 fun a ha => d_ld ha rfl Try.isAgg3 (ldI_c e58))
                        · exact oag 36 b54 fun j a ha => d_move ha rfl
                        · exact oag 36 b54 fun j a ha => d_le ha rfl rfl
                        · exact oa fun j a ha => d_pick_t ha rfl b54 rfl
                        · exact oa fun j a ha => d_move ha rfl
                        · exact on 46 (nn b59 _ rfl)
                        · exact on 46 (nn b59 _ rfl)
                        · exact on 46 (nn b59 _ rfl)
                        · intro j _ _; exact ok_no_u rfl rfl (rfl : List.lookup 49 _ = _)
                        · intro j _ _; exact ok_no_u rfl rfl (rfl : List.lookup 49 _ = _)
                        · intro j _ _; exact ok_no_u rfl rfl (rfl : List.lookup 49 _ = _)
                        · intro j _ _; exact ok_no_u rfl rfl (rfl : List.lookup 49 _ = _)
                        · intro j _ _; exact ok_no_u rfl rfl (rfl : List.lookup 49 _ = _)
                        · intro j _ _; exact ok_no_u rfl rfl (rfl : List.lookup 49 _ = _)
                        · intro j _ _; exact ok_no_u rfl rfl (rfl : List.lookup 49 _ = _)
                        · intro j _ _; exact ok_no_u rfl rfl (rfl : List.lookup 49 _ = _)
                        · intro j _ _; exact ok_no_u rfl rfl (rfl : List.lookup 49 _ = _)
                        · intro j _ _; exact ok_no_u rfl rfl (rfl : List.lookup 49 _ = _)
                        · intro j _ _; exact ok_no_u rfl rfl (rfl : List.lookup 49 _ = _)
                        · intro j _ _; exact ok_no_u rfl rfl (rfl : List.lookup 49 _ = _)
                        · intro j _ _; exact ok_no_u rfl rfl (rfl : List.lookup 49 _ = _)
                        · exact on 46 (nn b59 _ rfl)
                        · exact oa fun j a ha => d_pick_f ha rfl b59 rfl
                      · have ha : Has 78 [(0, (.pointer a0)), (1, (.int .i64 a1)), (6, (Sl.v x19)), (7, (.int .i64 x28)), (8, (.int .i64 x29)), (64, (.bool false))] a := ha.sub ⟨rfl, rfl, rfl, rfl, rfl, rfl, trivial⟩
                        have hS : Has 78 [(64, (.bool false)), (0, (.pointer a0)), (1, (.int .i64 a1)), (6, (Sl.v x19)), (7, (.int .i64 x28)), (8, (.int .i64 x29))] _ := ha.sub ⟨rfl, rfl, rfl, rfl, rfl, rfl, trivial⟩
                        cases h
                        exact hk45 _ hS
                  · have ha : Has 78 [(0, (.pointer a0)), (1, (.int .i64 a1)), (6, (Sl.v x19)), (7, (.int .i64 x28)), (8, (.int .i64 x29))] a := ha.sub ⟨rfl, rfl, rfl, rfl, rfl, trivial⟩
                    refine region_draw (n := 78) (ds := (⟨_, (.pointer a0), false, 0, 0, [], [(0, (.pointer a0))]⟩ :: ⟨_, (.int .i64 x29), false, 0, 0, [], [(8, (.int .i64 x29))]⟩ :: ⟨_, (.pointer (some p48)), false, 0, 0, [0], [(30, (.pointer a0))]⟩ :: ⟨_, (.pointer (some (p48.add 1))), false, 0, 0, [0, 2], [(32, (.pointer (some p48)))]⟩ :: ⟨_, (.pointer (some p50)), false, 0, 0, [0, 1, 2, 3], [(33, (.pointer (some (p48.add 1)))), (31, (.int .i64 x29))]⟩ :: ⟨_, (.bool v52), false, 0, 0, [0, 1, 2, 3, 4], [(34, (.pointer (some p50)))]⟩ :: ⟨_, (.bool v52), false, 0, 0, [0, 1, 2, 3, 4, 5], [(35, (.bool v52))]⟩ :: ⟨_, undef, false, 0, 0, [0, 1, 2, 3, 4, 5, 6], [(36, (.bool v52))]⟩ :: ⟨_, undef, false, 0, 0, [0, 1, 2, 3, 4, 5, 6], [(36, (.bool v52))]⟩ :: ⟨_, undef, false, 0, 0, [0, 1, 2, 3, 4, 5, 6, 7], [(36, (.bool v52))]⟩ :: ⟨_, undef, false, 0, 0, [0, 1, 2, 3, 4, 5, 6, 7, 9], [(36, (.bool v52))]⟩ :: ⟨_, undef, false, 0, 0, [0, 1, 2, 3, 4, 5, 6, 7, 8, 9, 10], [(36, (.bool v52))]⟩ :: ⟨_, undef, false, 0, 0, [0, 1, 2, 3, 4, 5, 6, 7, 8, 9, 10, 11], [(36, (.bool v52))]⟩ :: ⟨_, undef, false, 0, 0, [0, 1, 2, 3, 4, 5, 6], [(36, (.bool v52))]⟩ :: ⟨_, undef, false, 0, 0, (0 :: 1 :: 2 :: 3 :: 4 :: 5 :: 6 :: 7 :: 8 :: 9 :: 10 :: 11 :: 12 :: 13 :: []), [(36, (.bool v52))]⟩ :: ⟨_, (.bool false), false, 0, 0, (0 :: 1 :: 2 :: 3 :: 4 :: 5 :: 6 :: 7 :: 8 :: 9 :: 10 :: 11 :: 12 :: 13 :: 14 :: []), [(36, (.bool v52)), (44, undef)]⟩ :: ⟨_, (.bool false), false, 0, 0, (0 :: 1 :: 2 :: 3 :: 4 :: 5 :: 6 :: 7 :: 8 :: 9 :: 10 :: 11 :: 12 :: 13 :: 14 :: 15 :: []), [(45, (.bool false))]⟩ :: ⟨_, undef, false, 0, 0, (0 :: 1 :: 2 :: 3 :: 4 :: 5 :: 6 :: 7 :: 8 :: 9 :: 10 :: 11 :: 12 :: 13 :: 14 :: 15 :: 16 :: []), [(46, (.bool false))]⟩ :: ⟨_, undef, false, 0, 0, (0 :: 1 :: 2 :: 3 :: 4 :: 5 :: 6 :: 7 :: 8 :: 9 :: 10 :: 11 :: 12 :: 13 :: 14 :: 15 :: 16 :: 17 :: []), [(46, (.bool false))]⟩ :: ⟨_, undef, false, 0, 0, (0 :: 1 :: 2 :: 3 :: 4 :: 5 :: 6 :: 7 :: 8 :: 9 :: 10 :: 11 :: 12 :: 13 :: 14 :: 15 :: 16 :: 17 :: 18 :: []), [(46, (.bool false))]⟩ :: ⟨_, undef, false, 0, 0, (0 :: 1 :: 2 :: 3 :: 4 :: 5 :: 6 :: 7 :: 8 :: 9 :: 10 :: 11 :: 12 :: 13 :: 14 :: 15 :: 16 :: 17 :: 18 :: 19 :: []), [(49, undef)]⟩ :: ⟨_, undef, false, 0, 0, (0 :: 1 :: 2 :: 3 :: 4 :: 5 :: 6 :: 7 :: 8 :: 9 :: 10 :: 11 :: 12 :: 13 :: 14 :: 15 :: 16 :: 17 :: 18 :: 19 :: []), [(49, undef)]⟩ :: ⟨_, undef, false, 0, 0, (0 :: 1 :: 2 :: 3 :: 4 :: 5 :: 6 :: 7 :: 8 :: 9 :: 10 :: 11 :: 12 :: 13 :: 14 :: 15 :: 16 :: 17 :: 18 :: 19 :: 20 :: []), [(49, undef)]⟩ :: ⟨_, undef, false, 0, 0, (0 :: 1 :: 2 :: 3 :: 4 :: 5 :: 6 :: 7 :: 8 :: 9 :: 10 :: 11 :: 12 :: 13 :: 14 :: 15 :: 16 :: 17 :: 18 :: 19 :: 20 :: 22 :: []), [(49, undef)]⟩ :: ⟨_, undef, false, 0, 0, (0 :: 1 :: 2 :: 3 :: 4 :: 5 :: 6 :: 7 :: 8 :: 9 :: 10 :: 11 :: 12 :: 13 :: 14 :: 15 :: 16 :: 17 :: 18 :: 19 :: 20 :: 21 :: 22 :: 23 :: []), [(49, undef)]⟩ :: ⟨_, undef, false, 0, 0, (0 :: 1 :: 2 :: 3 :: 4 :: 5 :: 6 :: 7 :: 8 :: 9 :: 10 :: 11 :: 12 :: 13 :: 14 :: 15 :: 16 :: 17 :: 18 :: 19 :: 20 :: 21 :: 22 :: 23 :: 24 :: []), [(49, undef)]⟩ :: ⟨_, undef, false, 0, 0, (0 :: 1 :: 2 :: 3 :: 4 :: 5 :: 6 :: 7 :: 8 :: 9 :: 10 :: 11 :: 12 :: 13 :: 14 :: 15 :: 16 :: 17 :: 18 :: 19 :: []), [(49, undef)]⟩ :: ⟨_, undef, false, 0, 0, (0 :: 1 :: 2 :: 3 :: 4 :: 5 :: 6 :: 7 :: 8 :: 9 :: 10 :: 11 :: 12 :: 13 :: 14 :: 15 :: 16 :: 17 :: 18 :: 19 :: []), [(49, undef)]⟩ :: ⟨_, undef, false, 0, 0, (0 :: 1 :: 2 :: 3 :: 4 :: 5 :: 6 :: 7 :: 8 :: 9 :: 10 :: 11 :: 12 :: 13 :: 14 :: 15 :: 16 :: 17 :: 18 :: 19 :: 26 :: []), [(49, undef)]⟩ :: ⟨_, undef, false, 0, 0, (0 :: 1 :: 2 :: 3 :: 4 :: 5 :: 6 :: 7 :: 8 :: 9 :: 10 :: 11 :: 12 :: 13 :: 14 :: 15 :: 16 :: 17 :: 18 :: 19 :: 26 :: 28 :: []), [(49, undef)]⟩ :: ⟨_, undef, false, 0, 0, (0 :: 1 :: 2 :: 3 :: 4 :: 5 :: 6 :: 7 :: 8 :: 9 :: 10 :: 11 :: 12 :: 13 :: 14 :: 15 :: 16 :: 17 :: 18 :: 19 :: 26 :: 27 :: 28 :: 29 :: []), [(49, undef)]⟩ :: ⟨_, undef, false, 0, 0, (0 :: 1 :: 2 :: 3 :: 4 :: 5 :: 6 :: 7 :: 8 :: 9 :: 10 :: 11 :: 12 :: 13 :: 14 :: 15 :: 16 :: 17 :: 18 :: 19 :: 26 :: 27 :: 28 :: 29 :: 30 :: []), [(49, undef)]⟩ :: ⟨_, undef, false, 0, 0, (0 :: 1 :: 2 :: 3 :: 4 :: 5 :: 6 :: 7 :: 8 :: 9 :: 10 :: 11 :: 12 :: 13 :: 14 :: 15 :: 16 :: 17 :: 18 :: 19 :: 20 :: 21 :: 22 :: 23 :: 24 :: 25 :: 26 :: 27 :: 28 :: 29 :: 30 :: 31 :: []), [(49, undef)]⟩ :: ⟨_, undef, false, 0, 0, (0 :: 1 :: 2 :: 3 :: 4 :: 5 :: 6 :: 7 :: 8 :: 9 :: 10 :: 11 :: 12 :: 13 :: 14 :: 15 :: 16 :: 17 :: 18 :: 19 :: 20 :: 21 :: 22 :: 23 :: 24 :: 25 :: 26 :: 27 :: 28 :: 29 :: 30 :: 31 :: 32 :: []), [(46, (.bool false))]⟩ :: ⟨_, (.bool false), false, 0, 0, (0 :: 1 :: 2 :: 3 :: 4 :: 5 :: 6 :: 7 :: 8 :: 9 :: 10 :: 11 :: 12 :: 13 :: 14 :: 15 :: 16 :: 17 :: 18 :: 19 :: 20 :: 21 :: 22 :: 23 :: 24 :: 25 :: 26 :: 27 :: 28 :: 29 :: 30 :: 31 :: 32 :: 33 :: []), [(46, (.bool false)), (63, undef)]⟩ :: [])) (W := (fun _ => w46)) (by kernel_rfl) ha (dr_w e47) (by kernel_rfl) ?_ (reads_of (by kernel_rfl)) (by kernel_rfl) (m := 0) (by kernel_rfl) (fun a ha => ?_)
                    · refine ⟨?_, ?_, ?_, ?_, ?_, ?_, ?_, ?_, ?_, ?_, ?_, ?_, ?_, ?_, ?_, ?_, ?_, ?_, ?_, ?_, ?_, ?_, ?_, ?_, ?_, ?_, ?_, ?_, ?_, ?_, ?_, ?_, ?_, ?_, ?_, trivial⟩
                      · exact oa fun j a ha => d_move ha rfl
                      · exact oa fun j a ha => d_move ha rfl
                      · exact oa fun j a ha => d_nilp ha rfl e49
                      · exact oa fun j a ha => d_fa ha rfl Try.runUnderlying107 rfl rfl Try.sizeOf105 (by decide)
                      · exact oa fun j a ha => d_ixA ha rfl rfl Try.runUnderlying105 Try.sizeOf4 e51
                      · exact oc (e := false) 0 (ok_do rfl fun a ha => d_ld ha rfl Try.isAgg4 (ldB_c e53))
                      · exact oa fun j a ha => d_move ha rfl
                      · exact on 36 (nn b54 _ rfl)
                      · exact on 36 (nn b54 _ rfl)
                      · exact on 36 (nn b54 _ rfl)
                      · exact on 36 (nn b54 _ rfl)
                      · exact on 36 (nn b54 _ rfl)
                      · exact on 36 (nn b54 _ rfl)
                      · exact on 36 (nn b54 _ rfl)
                      · exact on 36 (nn b54 _ rfl)
                      · exact oa fun j a ha => d_pick_f ha rfl b54 rfl
                      · exact oa fun j a ha => d_move ha rfl
                      · exact on 46 (nn Bool.false_ne_true _ rfl)
                      · exact on 46 (nn Bool.false_ne_true _ rfl)
                      · exact on 46 (nn Bool.false_ne_true _ rfl)
                      · intro j _ _; exact ok_no_u rfl rfl (rfl : List.lookup 49 _ = _)
                      · intro j _ _; exact ok_no_u rfl rfl (rfl : List.lookup 49 _ = _)
                      · intro j _ _; exact ok_no_u rfl rfl (rfl : List.lookup 49 _ = _)
                      · intro j _ _; exact ok_no_u rfl rfl (rfl : List.lookup 49 _ = _)
                      · intro j _ _; exact ok_no_u rfl rfl (rfl : List.lookup 49 _ = _)
                      · intro j _ _; exact ok_no_u rfl rfl (rfl : List.lookup 49 _ = _)
                      · intro j _ _; exact ok_no_u rfl rfl (rfl : List.lookup 49 _ = _)
                      · intro j _ _; exact ok_no_u rfl rfl (rfl : List.lookup 49 _ = _)
                      · intro j _ _; exact ok_no_u rfl rfl (rfl : List.lookup 49 _ = _)
                      · intro j _ _; exact ok_no_u rfl rfl (rfl : List.lookup 49 _ = _)
                      · intro j _ _; exact ok_no_u rfl rfl (rfl : List.lookup 49 _ = _)
                      · intro j _ _; exact ok_no_u rfl rfl (rfl : List.lookup 49 _ = _)
                      · intro j _ _; exact ok_no_u rfl rfl (rfl : List.lookup 49 _ = _)
                      · exact on 46 (nn Bool.false_ne_true _ rfl)
                      · exact oa fun j a ha => d_pick_f ha rfl Bool.false_ne_true rfl
                    · have ha : Has 78 [(0, (.pointer a0)), (1, (.int .i64 a1)), (6, (Sl.v x19)), (7, (.int .i64 x28)), (8, (.int .i64 x29)), (64, (.bool false))] a := ha.sub ⟨rfl, rfl, rfl, rfl, rfl, rfl, trivial⟩
                      have hS : Has 78 [(64, (.bool false)), (0, (.pointer a0)), (1, (.int .i64 a1)), (6, (Sl.v x19)), (7, (.int .i64 x28)), (8, (.int .i64 x29))] _ := ha.sub ⟨rfl, rfl, rfl, rfl, rfl, rfl, trivial⟩
                      cases h
                      exact hk45 _ hS
            · refine wp_exit <| t_x <| ?_
              have hS : Has 78 [(7, (.int .i64 x28)), (0, (.pointer a0)), (1, (.int .i64 a1)), (6, (Sl.v x19))] _ := ha.sub ⟨rfl, rfl, rfl, rfl, trivial⟩
              cases h
              cases hr36 _ rfl
              refine lp_x <| ?_
              exact hk35 _ hS
    · clear h
      have h := e4
      refine region_lit <| qm ha rfl fun a ha => qm ha rfl fun a ha => ?_
      obtain ⟨p6, e7, h⟩ := bs1 h
      refine q ha (d_nilp ha rfl e7) fun a ha => q ha (d_fa ha rfl Try.runUnderlying107 rfl rfl Try.sizeOf3 (by decide)) fun a ha => ?_
      obtain ⟨v8, e9, h⟩ := bs1 h
      refine q ha (d_ld ha rfl Try.isAgg3 (ldI_c e9)) fun a ha => q ha (d_lt ha rfl rfl) fun a ha => qm ha rfl fun a ha => ?_
      refine ite_s h (fun b10 h => ?_) (fun b10 h => ?_)
      · refine qn ha 17 (tn b10) fun a ha => qn ha 17 (tn b10) fun a ha => q ha (d_pick_t ha rfl b10 rfl) fun a ha => s_nil <| ?_
        have hS : Has 78 [(20, (.bool true)), (0, (.pointer a0)), (1, (.int .i64 a1))] _ := ha.sub ⟨rfl, rfl, rfl, trivial⟩
        cases h
        exact hk5 _ hS
      · refine qg ha 17 (nt b10) (d_move ha rfl) fun a ha => qg ha 17 (nt b10) (d_gt ha rfl rfl) fun a ha => q ha (d_pick_f ha rfl b10 rfl) fun a ha => s_nil <| ?_
        have hS : Has 78 [(20, (.bool (decide (1099511627776 < a1)))), (0, (.pointer a0)), (1, (.int .i64 a1))] _ := ha.sub ⟨rfl, rfl, rfl, trivial⟩
        cases h
        exact hk5 _ hS
end Go.Proofs.Ytejkaciimmfgcaa.D
