/- Written by dec.py of this project: Go functions as plain functions over the memory, and that the Go calls come to these. -/
import Derived.Test.YtejkaciimmfgcaaClo
import Derived.Test.YtejkaciimmfgcaaFnW0
namespace Go.Proofs.Ytejkaciimmfgcaa.D
open Go
set_option linter.unusedVariables false
set_option linter.unusedSimpArgs false

noncomputable def slices_Min_int_int_l1 (a0 : Sl) (x9 : Int) (x10 : Int) (w11 : World) : Option ((Int × Int × World) ⊕ (Int × World)) :=
  if (decide (x10 < (a0.n : Int))) = true then
  ((ix a0 x10 1).bind fun p19 =>
  (ldI .i64 w11 p19).bind fun v21 =>
  some (.inl ((mnI x9 v21), (IntKind.wrap .i64 (x10 + 1)), w11)))
  else
  (some (.inr (x9, w11)))
noncomputable def slices_Min_int_int (a0 : Sl) (w : World) : Option (Int × World) :=
  (if (decide ((a0.n : Int) < 1)) = true then
  none
  else
  (some w)).bind fun w1 =>
  (ix a0 0 1).bind fun p5 =>
  (ldI .i64 w1 p5).bind fun v7 =>
  bind2 (loopF (fun s : Int × Int × World => slices_Min_int_int_l1 a0 s.1 s.2.1 s.2.2) (v7, 1, w1)) fun v14 w15 =>
  some (v14, w15)
set_option maxHeartbeats 1000000 in
set_option maxRecDepth 100000 in
theorem slices_Min_int_int_ok {a0 : Sl} {w w' : World} {r0 : Int} (h : slices_Min_int_int a0 w = some (r0, w')) : Calls Try.prog 60 #[(Sl.v a0)] w fun e w'' => e = .returned (.int .i64 r0) ∧ w'' = w' := by
  refine calls_dec (n := 25) Try.func60 rfl Try.ntmps60 (by simp) fun a ha => ?_
  unfold slices_Min_int_int at h
  refine wp_seq <| region_lit <| qa ha rfl fun a ha => s_nil <| t_n <| ?_
  obtain ⟨w1, e2, h⟩ := bs1 h
  refine seq_join (n := 25) (L := [(0, (Sl.v a0))]) (w' := w1) (fun a ha => ?_) (fun hk3 => ?_)
  · refine wp_seq <| region_lit <| qm ha rfl fun a ha => ?_
    obtain ⟨p5, e6, h⟩ := bs1 h
    refine q ha (d_ix ha rfl rfl Try.runUnderlying34 Try.sizeOf3 e6) fun a ha => ?_
    obtain ⟨v7, e8, h⟩ := bs1 h
    refine q ha (d_ld ha rfl Try.isAgg3 (ldI_c e8)) fun a ha => qa ha rfl fun a ha => s_nil <| t_n <| wp_seq <| wp_seq <| region_lit <| qa ha rfl fun a ha => s_nil <| t_n <| wp_block <| ?_
    obtain ⟨v14, w15, e13, h⟩ := bs2 h
    refine s_loop1 (n := 25) (L := [(3, (.int .i64 v14))]) (w' := w15) (e := .exit 0) (I := fun (s : Int × Int × World) a w => Has 25 [(3, (.int .i64 s.1)), (4, (.int .i64 s.2.1)), (0, (Sl.v a0))] a ∧ w = s.2.2) ⟨ha.sub ⟨rfl, rfl, rfl, trivial⟩, rfl⟩ e13 (fun a ha => ?_) (fun hk16 => ?_)
    · refine b_hit <| t_n <| wp_seq <| region_lit <| qm ha rfl fun a ha => qa ha rfl fun a ha => s_nil <| t_n <| wp_ret <| ?_
      have hS := ha
      cases h
      exact ret1 Try.results60 hS rfl ⟨rfl, rfl⟩
    · clear h
      rintro ⟨x9, x10, w11⟩ a wq o ⟨ha, hwq⟩ h hr17
      obtain rfl : w11 = wq := hwq.symm
      have ha : Has 25 [(3, (.int .i64 x9)), (4, (.int .i64 x10)), (0, (Sl.v a0))] a := ha
      have h : slices_Min_int_int_l1 a0 x9 x10 w11 = some o := h
      unfold slices_Min_int_int_l1 at h
      refine wp_seq <| wp_seq <| region_lit <| qm ha rfl fun a ha => qm ha rfl fun a ha => q ha (d_lenS ha rfl Try.runUnderlying34) fun a ha => q ha (d_lt ha rfl rfl) fun a ha => s_nil <| t_n <| ?_
      refine s_cond ha rfl h (fun b18 h => ?_) (fun b18 h => ?_)
      · refine wp_skip <| t_n <| wp_seq <| wp_block <| region_lit <| qm ha rfl fun a ha => qm ha rfl fun a ha => qm ha rfl fun a ha => ?_
        obtain ⟨p19, e20, h⟩ := bs1 h
        refine q ha (d_ix ha rfl rfl Try.runUnderlying34 Try.sizeOf3 e20) fun a ha => ?_
        obtain ⟨v21, e22, h⟩ := bs1 h
        refine q ha (d_ld ha rfl Try.isAgg3 (ldI_c e22)) fun a ha => q ha (d_min ha rfl rfl) fun a ha => qa ha rfl fun a ha => s_nil <| b_n <| t_n <| region_lit <| qm ha rfl fun a ha => q ha (d_add ha rfl rfl) fun a ha => qa ha rfl fun a ha => s_nil <| ?_
        have hS : Has 25 [(3, (.int .i64 (mnI x9 v21))), (4, (.int .i64 (IntKind.wrap .i64 (x10 + 1)))), (0, (Sl.v a0))] _ := ha.sub ⟨rfl, rfl, rfl, trivial⟩
        cases h
        exact lp_next ⟨hS, rfl⟩
      · refine wp_exit <| t_x <| ?_
        have hS : Has 25 [(3, (.int .i64 x9))] _ := ha.sub ⟨rfl, trivial⟩
        cases h
        cases hr17 _ rfl
        refine lp_x <| ?_
        exact hk16 _ hS
  · clear h
    have h := e2
    refine wp_seq <| region_lit <| qm ha rfl fun a ha => q ha (d_lenS ha rfl Try.runUnderlying34) fun a ha => q ha (d_lt ha rfl rfl) fun a ha => s_nil <| t_n <| ?_
    refine s_cond ha rfl h (fun b4 h => ?_) (fun b4 h => ?_)
    · cases h
    · refine wp_skip <| ?_
      have hS : Has 25 [(0, (Sl.v a0))] _ := ha.sub ⟨rfl, trivial⟩
      cases h
      exact hk3 _ hS

noncomputable def wheel_Wheel_Next_l2 (v18 : Sl) (a0 : Option Addr) (x24 : Sl) (x25 : Int) (w26 : World) : Option ((Sl × Int × World) ⊕ (Sl × World)) :=
  if (decide (x25 < (v18.n : Int))) = true then
  ((ix v18 x25 1).bind fun p34 =>
  (ldI .i64 w26 p34).bind fun v36 =>
  (a0).bind fun p38 =>
  (ixA (p38.add 1) v36 65 1).bind fun p40 =>
  (ldI .i64 w26 p40).bind fun v42 =>
  bind2 (bsl w26 3 1 [[(.int .i64 v42)]]) fun s44 w45 =>
  bind2 (apS Try.prog 34 x24 s44 w45) fun s47 w48 =>
  some (.inl (s47, (IntKind.wrap .i64 (x25 + 1)), w48)))
  else
  (some (.inr (x24, w26)))
noncomputable def wheel_Wheel_Next_l1 (c4 : List Value) (a0 : Option Addr) (x6 : Int) (w7 : World) : Option ((Int × World) ⊕ ((World) ⊕ (Int × Bool × World))) :=
  if (decide (x6 < 43)) = true then
  (((ixV c4 x6 43).bind (vL)).bind fun v18 =>
  if (decide (0 < (v18.n : Int))) = true then
  (bind2 (mkS Try.prog 34 0 (v18.n : Int) w7) fun s21 w22 =>
  bind2 (loopF (fun s : Sl × Int × World => wheel_Wheel_Next_l2 v18 a0 s.1 s.2.1 s.2.2) (s21, 0, w22)) fun v29 w30 =>
  bind2 (slices_Min_int_int v29 w30) fun v50 w51 =>
  some (.inr (.inr (v50, true, w51))))
  else
  (some (.inl ((IntKind.wrap .i64 (x6 + 1)), w7))))
  else
  (some (.inr (.inl w7)))
noncomputable def wheel_Wheel_Next (a0 : Option Addr) (w : World) : Option (Int × Bool × World) :=
  if (a0.isNone) = true then
  (some (0, false, w))
  else
  ((a0).bind fun p2 =>
  (ldA 43 w (p2.add 131) 0).bind fun c4 =>
  (loopF (fun s : Int × World => wheel_Wheel_Next_l1 c4 a0 s.1 s.2) (0, w)).bind fun r8 => Sum.elim (fun (i : World) => u1 i fun w10 =>
  some (0, false, w10)) (fun (i : Int × Bool × World) => u3 i fun v11 v12 w13 =>
  some (v11, v12, w13)) r8)
set_option maxHeartbeats 1000000 in
set_option maxRecDepth 100000 in
theorem wheel_Wheel_Next_ok {a0 : Option Addr} {w w' : World} {r0 : Int} {r1 : Bool} (h : wheel_Wheel_Next a0 w = some (r0, r1, w')) : Calls Try.prog 25 #[(.pointer a0)] w fun e w'' => e = .returned (.tuple #[(.int .i64 r0), (.bool r1)]) ∧ w'' = w' := by
  refine calls_dec (n := 43) Try.func25 rfl Try.ntmps25 (by simp) fun a ha => ?_
  unfold wheel_Wheel_Next at h
  refine wp_seq <| region_lit <| qa ha rfl fun a ha => qa ha rfl fun a ha => s_nil <| t_n <| wp_seq <| wp_seq <| region_lit <| qm ha rfl fun a ha => q ha (d_eqN ha rfl rfl Try.runUnderlying24) fun a ha => s_nil <| t_n <| ?_
  refine s_cond ha rfl h (fun b1 h => ?_) (fun b1 h => ?_)
  · refine wp_seq <| region_lit <| qa ha rfl fun a ha => qa ha rfl fun a ha => s_nil <| t_n <| wp_ret <| t_r <| ?_
    have hS := ha
    cases h
    exact ret2 Try.results25 hS rfl rfl ⟨rfl, rfl⟩
  · refine wp_skip <| t_n <| wp_seq <| wp_seq <| region_lit <| qm ha rfl fun a ha => ?_
    obtain ⟨p2, e3, h⟩ := bs1 h
    refine q ha (d_nilp ha rfl e3) fun a ha => q ha (d_fa ha rfl Try.runUnderlying95 rfl rfl Try.sizeOf93 (by decide)) fun a ha => ?_
    obtain ⟨c4, e5, h⟩ := bs1 h
    refine q ha (d_ldA ha rfl Try.isAgg93 Try.sizeOf93 e5) fun a ha => qm ha rfl fun a ha => s_nil <| t_n <| wp_block <| ?_
    obtain ⟨r8, e9, h⟩ := bs1 h
    refine s_loop2 (n := 43) (L1 := fun i => []) (w1 := fun i => i) (L2 := fun i => [(2, (.int .i64 i.1)), (3, (.bool i.2.1))]) (w2 := fun i => i.2.2) (e1 := .exit 0) (e2 := .ret) (I := fun (s : Int × World) a w => Has 43 [(15, (.int .i64 s.1)), (0, (.pointer a0)), (14, (.agg (List.toArray c4)))] a ∧ w = s.2) ⟨ha.sub ⟨rfl, rfl, rfl, trivial⟩, rfl⟩ e9 (fun i hi a ha => ?_) (fun i hi a ha => ?_) (fun hk14 hk15 => ?_)
    · subst hi
      obtain ⟨w10, rfl⟩ : ∃ x, x = i := ⟨i, rfl⟩
      dsimp only [Sum.elim_inl, Sum.elim_inr, u1, u2, u3, u4, u5, u6] at h
      have ha : Has 43 [] a := ha
      refine b_hit <| t_n <| wp_seq <| region_lit <| qa ha rfl fun a ha => qa ha rfl fun a ha => s_nil <| t_n <| wp_ret <| ?_
      have hS := ha
      cases h
      exact ret2 Try.results25 hS rfl rfl ⟨rfl, rfl⟩
    · subst hi
      obtain ⟨v11, v12, w13⟩ := i
      dsimp only [Sum.elim_inl, Sum.elim_inr, u1, u2, u3, u4, u5, u6] at h
      have ha : Has 43 [(2, (.int .i64 v11)), (3, (.bool v12))] a := ha
      refine b_r <| t_r <| ?_
      have hS := ha
      cases h
      exact ret2 Try.results25 hS rfl rfl ⟨rfl, rfl⟩
    · clear h
      rintro ⟨x6, w7⟩ a wq o ⟨ha, hwq⟩ h hr16
      obtain rfl : w7 = wq := hwq.symm
      have ha : Has 43 [(15, (.int .i64 x6)), (0, (.pointer a0)), (14, (.agg (List.toArray c4)))] a := ha
      have h : wheel_Wheel_Next_l1 c4 a0 x6 w7 = some o := h
      unfold wheel_Wheel_Next_l1 at h
      refine wp_seq <| region_lit <| q ha (d_lt ha rfl rfl) fun a ha => s_nil <| t_n <| wp_seq <| ?_
      refine s_cond ha rfl h (fun b17 h => ?_) (fun b17 h => ?_)
      · refine wp_skip <| t_n <| wp_seq <| wp_block <| wp_seq <| region_lit <| ?_
        obtain ⟨v18, e19, h⟩ := bs1 h
        refine q ha (d_ixV ha rfl rfl Try.runUnderlying93 Try.sizeOf34 Try.isAgg34 (vL_ix e19)) fun a ha => qa ha rfl fun a ha => s_nil <| t_n <| wp_seq <| region_lit <| qm ha rfl fun a ha => q ha (d_lenS ha rfl Try.runUnderlying34) fun a ha => q ha (d_gt ha rfl rfl) fun a ha => s_nil <| t_n <| ?_
        refine s_cond ha rfl h (fun b20 h => ?_) (fun b20 h => ?_)
        · refine wp_seq <| region_lit <| qm ha rfl fun a ha => q ha (d_lenS ha rfl Try.runUnderlying34) fun a ha => ?_
          obtain ⟨s21, w22, e23, h⟩ := bs2 h
          refine q ha (d_mkS ha rfl rfl e23) fun a ha => qa ha rfl fun a ha => s_nil <| t_n <| wp_seq <| wp_seq <| region_lit <| qm ha rfl fun a ha => q ha (d_lenS ha rfl Try.runUnderlying34) fun a ha => qm ha rfl fun a ha => s_nil <| t_n <| wp_block <| ?_
          obtain ⟨v29, w30, e28, h⟩ := bs2 h
          refine s_loop1 (n := 43) (L := [(6, (Sl.v v29))]) (w' := w30) (e := .exit 2) (I := fun (s : Sl × Int × World) a w => Has 43 [(6, (Sl.v s.1)), (26, (.int .i64 s.2.1)), (0, (.pointer a0)), (24, (Sl.v v18)), (25, (.int .i64 (v18.n : Int)))] a ∧ w = s.2.2) ⟨ha.sub ⟨rfl, rfl, rfl, rfl, rfl, trivial⟩, rfl⟩ e28 (fun a ha => ?_) (fun hk31 => ?_)
          · refine b_hit <| t_n <| wp_seq <| region_lit <| qm ha rfl fun a ha => ?_
            obtain ⟨v50, w51, e52, h⟩ := bs2 h
            refine q ha (d_call (xs := [_]) (vs := [(Sl.v v29)]) ha ⟨rfl, trivial⟩ Try.call60 (slices_Min_int_int_ok e52)) fun a ha => qa ha rfl fun a ha => qa ha rfl fun a ha => s_nil <| t_n <| wp_ret <| b_r <| t_r <| ?_
            have hS : Has 43 [(2, (.int .i64 v50)), (3, (.bool true))] _ := ha.sub ⟨rfl, rfl, trivial⟩
            cases h
            cases hr16 _ rfl
            refine lp_r <| ?_
            exact hk15 _ rfl _ hS
          · clear h
            rintro ⟨x24, x25, w26⟩ a wq o ⟨ha, hwq⟩ h hr32
            obtain rfl : w26 = wq := hwq.symm
            have ha : Has 43 [(6, (Sl.v x24)), (26, (.int .i64 x25)), (0, (.pointer a0)), (24, (Sl.v v18)), (25, (.int .i64 (v18.n : Int)))] a := ha
            have h : wheel_Wheel_Next_l2 v18 a0 x24 x25 w26 = some o := h
            unfold wheel_Wheel_Next_l2 at h
            refine wp_seq <| region_lit <| q ha (d_lt ha rfl rfl) fun a ha => s_nil <| t_n <| wp_seq <| ?_
            refine s_cond ha rfl h (fun b33 h => ?_) (fun b33 h => ?_)
            · refine wp_skip <| t_n <| wp_seq <| wp_block <| wp_seq <| region_lit <| ?_
              obtain ⟨p34, e35, h⟩ := bs1 h
              refine q ha (d_ix ha rfl rfl Try.runUnderlying34 Try.sizeOf3 e35) fun a ha => ?_
              obtain ⟨v36, e37, h⟩ := bs1 h
              refine q ha (d_ld ha rfl Try.isAgg3 (ldI_c e37)) fun a ha => qa ha rfl fun a ha => s_nil <| t_n <| region_lit <| qm ha rfl fun a ha => qm ha rfl fun a ha => qm ha rfl fun a ha => ?_
              obtain ⟨p38, e39, h⟩ := bs1 h
              refine q ha (d_nilp ha rfl e39) fun a ha => q ha (d_fa ha rfl Try.runUnderlying95 rfl rfl Try.sizeOf28 (by decide)) fun a ha => ?_
              obtain ⟨p40, e41, h⟩ := bs1 h
              refine q ha (d_ixA ha rfl rfl Try.runUnderlying28 Try.sizeOf3 e41) fun a ha => ?_
              obtain ⟨v42, e43, h⟩ := bs1 h
              refine q ha (d_ld ha rfl Try.isAgg3 (ldI_c e43)) fun a ha => ?_
              obtain ⟨s44, w45, e46, h⟩ := bs2 h
              refine q ha (d_bsl (vs := [(0, (.int .i64 v42))]) (ps := [[(.int .i64 v42)]]) ha ⟨rfl, rfl, trivial⟩ ⟨rfl, rfl, trivial⟩ rfl Try.runUnderlying34 Try.sizeOf3 Try.zeroValue3 (by decide) e46) fun a ha => ?_
              obtain ⟨s47, w48, e49, h⟩ := bs2 h
              refine q ha (d_apS ha rfl rfl e49) fun a ha => qa ha rfl fun a ha => s_nil <| b_n <| t_n <| region_lit <| q ha (d_add ha rfl rfl) fun a ha => qm ha rfl fun a ha => s_nil <| ?_
              have hS : Has 43 [(6, (Sl.v s47)), (26, (.int .i64 (IntKind.wrap .i64 (x25 + 1)))), (0, (.pointer a0)), (24, (Sl.v v18)), (25, (.int .i64 (v18.n : Int)))] _ := ha.sub ⟨rfl, rfl, rfl, rfl, rfl, trivial⟩
              cases h
              exact lp_next ⟨hS, rfl⟩
            · refine wp_exit <| t_x <| ?_
              have hS : Has 43 [(6, (Sl.v x24))] _ := ha.sub ⟨rfl, trivial⟩
              cases h
              cases hr32 _ rfl
              refine lp_x <| ?_
              exact hk31 _ hS
        · refine wp_skip <| b_n <| t_n <| region_lit <| q ha (d_add ha rfl rfl) fun a ha => qm ha rfl fun a ha => s_nil <| ?_
          have hS : Has 43 [(15, (.int .i64 (IntKind.wrap .i64 (x6 + 1)))), (0, (.pointer a0)), (14, (.agg (List.toArray c4)))] _ := ha.sub ⟨rfl, rfl, rfl, trivial⟩
          cases h
          exact lp_next ⟨hS, rfl⟩
      · refine wp_exit <| t_x <| ?_
        have hS : Has 43 [] _ := ha.sub trivial
        cases h
        cases hr16 _ rfl
        refine lp_x <| ?_
        exact hk14 _ rfl _ hS

noncomputable def wheel_Wheel_At (a0 : Option Addr) (a1 : Int) (w : World) : Option (Int × Bool × World) :=
  bind2 (wheel_Wheel_has a0 a1 w) fun v1 w2 =>
  if (!v1) = true then
  (some (0, false, w2))
  else
  ((a0).bind fun p5 =>
  (ixA (p5.add 1) a1 65 1).bind fun p7 =>
  (ldI .i64 w2 p7).bind fun v9 =>
  some (v9, true, w2))
set_option maxHeartbeats 1000000 in
set_option maxRecDepth 100000 in
theorem wheel_Wheel_At_ok {a0 : Option Addr} {a1 : Int} {w w' : World} {r0 : Int} {r1 : Bool} (h : wheel_Wheel_At a0 a1 w = some (r0, r1, w')) : Calls Try.prog 29 #[(.pointer a0), (.int .i64 a1)] w fun e w'' => e = .returned (.tuple #[(.int .i64 r0), (.bool r1)]) ∧ w'' = w' := by
  refine calls_dec (n := 16) Try.func29 rfl Try.ntmps29 (by simp) fun a ha => ?_
  unfold wheel_Wheel_At at h
  refine wp_seq <| region_lit <| qa ha rfl fun a ha => qa ha rfl fun a ha => s_nil <| t_n <| wp_seq <| wp_seq <| region_lit <| qm ha rfl fun a ha => qm ha rfl fun a ha => ?_
  obtain ⟨v1, w2, e3, h⟩ := bs2 h
  refine q ha (d_call (xs := [_, _]) (vs := [(.pointer a0), (.int .i64 a1)]) ha ⟨rfl, rfl, trivial⟩ Try.call52 (wheel_Wheel_has_ok e3)) fun a ha => q ha (d_not ha rfl) fun a ha => s_nil <| t_n <| ?_
  refine s_cond ha rfl h (fun b4 h => ?_) (fun b4 h => ?_)
  · refine wp_seq <| region_lit <| qa ha rfl fun a ha => qa ha rfl fun a ha => s_nil <| t_n <| wp_ret <| t_r <| ?_
    have hS := ha
    cases h
    exact ret2 Try.results29 hS rfl rfl ⟨rfl, rfl⟩
  · refine wp_skip <| t_n <| wp_seq <| region_lit <| qm ha rfl fun a ha => qm ha rfl fun a ha => ?_
    obtain ⟨p5, e6, h⟩ := bs1 h
    refine q ha (d_nilp ha rfl e6) fun a ha => q ha (d_fa ha rfl Try.runUnderlying95 rfl rfl Try.sizeOf28 (by decide)) fun a ha => ?_
    obtain ⟨p7, e8, h⟩ := bs1 h
    refine q ha (d_ixA ha rfl rfl Try.runUnderlying28 Try.sizeOf3 e8) fun a ha => ?_
    obtain ⟨v9, e10, h⟩ := bs1 h
    refine q ha (d_ld ha rfl Try.isAgg3 (ldI_c e10)) fun a ha => qa ha rfl fun a ha => qa ha rfl fun a ha => s_nil <| t_n <| wp_ret <| ?_
    have hS := ha
    cases h
    exact ret2 Try.results29 hS rfl rfl ⟨rfl, rfl⟩
end Go.Proofs.Ytejkaciimmfgcaa.D
