/- Written by dec.py of this project: Go functions as plain functions over the memory, and that the Go calls come to these. -/
import Derived.Test.YtejkaciimmfgcaaClo
import Derived.Test.YtejkaciimmfgcaaNd
import Derived.Test.YtejkaciimmfgcaaBits
import Derived.Test.YtejkaciimmfgcaaSort
namespace Go.Proofs.Ytejkaciimmfgcaa.D
open Go
set_option linter.unusedVariables false
set_option linter.unusedSimpArgs false

noncomputable def wheel_New (a0 : Int) (w : World) : Option ((Option Addr) × Int × World) :=
  bind2 (if (decide (a0 < 0)) = true then
  (some (true, w))
  else
  (some ((decide (1099511627776 < a0)), w))) fun v1 w2 =>
  if v1 = true then
  (some (none, 2, w2))
  else
  (bind2 (mk w2 95 ([.int .i64 a0] ++ List.replicate 130 (.int .i64 0) ++ List.replicate 43 (.slice none 0 0))) fun p7 w8 =>
  some ((some p7), 0, w8))
set_option maxHeartbeats 1000000 in
set_option maxRecDepth 100000 in
theorem wheel_New_ok {a0 : Int} {w w' : World} {r0 : Option Addr} {r1 : Int} (h : wheel_New a0 w = some (r0, r1, w')) : Calls Try.prog 15 #[(.int .i64 a0)] w fun e w'' => e = .returned (.tuple #[(.pointer r0), (.int .i64 r1)]) ∧ w'' = w' := by
  refine calls_dec (n := 13) Try.func15 rfl Try.ntmps15 (by simp) fun a ha => ?_
  unfold wheel_New at h
  refine wp_seq <| region_lit <| qa ha rfl fun a ha => qa ha rfl fun a ha => s_nil <| t_n <| wp_seq <| wp_seq <| ?_
  obtain ⟨v1, w2, e3, h⟩ := bs2 h
  refine reg_join (n := 13) (L := [(9, (.bool v1)), (0, (.int .i64 a0))]) (w' := w2) (fun a ha => ?_) (fun hk4 => ?_)
  · refine t_n <| ?_
    refine s_cond ha rfl h (fun b6 h => ?_) (fun b6 h => ?_)
    · refine wp_seq <| region_lit <| qa ha rfl fun a ha => qa ha rfl fun a ha => s_nil <| t_n <| wp_ret <| t_r <| ?_
      have hS := ha
      cases h
      exact ret2 Try.results15 hS rfl rfl ⟨rfl, rfl⟩
    · refine wp_skip <| t_n <| wp_seq <| region_lit <| qm ha rfl fun a ha => q ha (d_build (vs := [(0, (.int .i64 a0))]) (pl := #[(0, 1), (1, 65), (66, 65), (131, 43)]) (cs := ([.int .i64 a0] ++ List.replicate 130 (.int .i64 0) ++ List.replicate 43 (.slice none 0 0))) ha ⟨rfl, rfl, trivial⟩ Try.zeroValue95 Try.runUnderlying95 (by intro w; kernel_rfl) (by kernel_rfl)) fun a ha => ?_
      obtain ⟨p7, w8, e9, h⟩ := bs2 h
      refine q ha (d_box ha rfl rfl e9) fun a ha => qa ha rfl fun a ha => qa ha rfl fun a ha => s_nil <| t_n <| wp_ret <| ?_
      have hS := ha
      cases h
      exact ret2 Try.results15 hS rfl rfl ⟨rfl, rfl⟩
  · clear h
    have h := e3
    refine region_lit <| qm ha rfl fun a ha => q ha (d_lt ha rfl rfl) fun a ha => qm ha rfl fun a ha => ?_
    refine ite_s h (fun b5 h => ?_) (fun b5 h => ?_)
    · refine qn ha 6 (tn b5) fun a ha => qn ha 6 (tn b5) fun a ha => q ha (d_pick_t ha rfl b5 rfl) fun a ha => s_nil <| ?_
      have hS : Has 13 [(9, (.bool true)), (0, (.int .i64 a0))] _ := ha.sub ⟨rfl, rfl, trivial⟩
      cases h
      exact hk4 _ hS
    · refine qg ha 6 (nt b5) (d_move ha rfl) fun a ha => qg ha 6 (nt b5) (d_gt ha rfl rfl) fun a ha => q ha (d_pick_f ha rfl b5 rfl) fun a ha => s_nil <| ?_
      have hS : Has 13 [(9, (.bool (decide (1099511627776 < a0)))), (0, (.int .i64 a0))] _ := ha.sub ⟨rfl, rfl, trivial⟩
      cases h
      exact hk4 _ hS

noncomputable def wheel_Wheel_has (a0 : Option Addr) (a1 : Int) (w : World) : Option (Bool × World) :=
  bind2 (if (!(a0.isNone)) = true then
  (if (decide (1 ≤ a1)) = true then
  (if (decide (a1 ≤ 64)) = true then
  ((a0).bind fun p8 =>
  (ixA (p8.add 66) a1 65 1).bind fun p10 =>
  (ldI .i64 w p10).bind fun v12 =>
  some ((decide (0 < v12)), w))
  else
  (some (false, w)))
  else
  (some (false, w)))
  else
  (some (false, w))) fun v1 w2 =>
  some (v1, w2)
set_option maxHeartbeats 1000000 in
set_option maxRecDepth 100000 in
theorem wheel_Wheel_has_ok {a0 : Option Addr} {a1 : Int} {w w' : World} {r0 : Bool} (h : wheel_Wheel_has a0 a1 w = some (r0, w')) : Calls Try.prog 52 #[(.pointer a0), (.int .i64 a1)] w fun e w'' => e = .returned (.bool r0) ∧ w'' = w' := by
  refine calls_dec (n := 24) Try.func52 rfl Try.ntmps52 (by simp) fun a ha => ?_
  unfold wheel_Wheel_has at h
  refine wp_seq <| region_lit <| qa ha rfl fun a ha => s_nil <| t_n <| wp_seq <| ?_
  obtain ⟨v1, w2, e3, h⟩ := bs2 h
  refine reg_join (n := 24) (L := [(4, (.bool v1))]) (w' := w2) (fun a ha => ?_) (fun hk4 => ?_)
  · refine t_n <| wp_ret <| ?_
    have hS := ha
    cases h
    exact ret1 Try.results52 hS rfl ⟨rfl, rfl⟩
  · clear h
    have h := e3
    refine region_lit <| qm ha rfl fun a ha => q ha (d_neN ha rfl rfl Try.runUnderlying24) fun a ha => qm ha rfl fun a ha => ?_
    refine ite_s h (fun b5 h => ?_) (fun b5 h => ?_)
    · refine qg ha 7 b5 (d_move ha rfl) fun a ha => qg ha 7 b5 (d_ge ha rfl rfl) fun a ha => q ha (d_pick_t ha rfl b5 rfl) fun a ha => qm ha rfl fun a ha => ?_
      refine ite_s h (fun b6 h => ?_) (fun b6 h => ?_)
      · refine qg ha 11 b6 (d_move ha rfl) fun a ha => qg ha 11 b6 (d_le ha rfl rfl) fun a ha => q ha (d_pick_t ha rfl b6 rfl) fun a ha => qm ha rfl fun a ha => ?_
        refine ite_s h (fun b7 h => ?_) (fun b7 h => ?_)
        · refine qg ha 15 b7 (d_move ha rfl) fun a ha => qg ha 15 b7 (d_move ha rfl) fun a ha => ?_
          obtain ⟨p8, e9, h⟩ := bs1 h
          refine qg ha 15 b7 (d_nilp ha rfl e9) fun a ha => qg ha 15 b7 (d_fa ha rfl Try.runUnderlying95 rfl rfl Try.sizeOf28 (by decide)) fun a ha => ?_
          obtain ⟨p10, e11, h⟩ := bs1 h
          refine qg ha 15 b7 (d_ixA ha rfl rfl Try.runUnderlying28 Try.sizeOf3 e11) fun a ha => ?_
          obtain ⟨v12, e13, h⟩ := bs1 h
          refine qg ha 15 b7 (d_ld ha rfl Try.isAgg3 (ldI_c e13)) fun a ha => qg ha 15 b7 (d_gt ha rfl rfl) fun a ha => q ha (d_pick_t ha rfl b7 rfl) fun a ha => qa ha rfl fun a ha => s_nil <| ?_
          have hS : Has 24 [(4, (.bool (decide (0 < v12))))] _ := ha.sub ⟨rfl, trivial⟩
          cases h
          exact hk4 _ hS
        · refine qn ha 15 (nn b7 _ rfl) fun a ha => qn ha 15 (nn b7 _ rfl) fun a ha => qn ha 15 (nn b7 _ rfl) fun a ha => qn ha 15 (nn b7 _ rfl) fun a ha => qn ha 15 (nn b7 _ rfl) fun a ha => qn ha 15 (nn b7 _ rfl) fun a ha => qn ha 15 (nn b7 _ rfl) fun a ha => q ha (d_pick_f ha rfl b7 rfl) fun a ha => qa ha rfl fun a ha => s_nil <| ?_
          have hS : Has 24 [(4, (.bool false))] _ := ha.sub ⟨rfl, trivial⟩
          cases h
          exact hk4 _ hS
      · refine qn ha 11 (nn b6 _ rfl) fun a ha => qn ha 11 (nn b6 _ rfl) fun a ha => q ha (d_pick_f ha rfl b6 rfl) fun a ha => qm ha rfl fun a ha => qn ha 15 (nn Bool.false_ne_true _ rfl) fun a ha => qn ha 15 (nn Bool.false_ne_true _ rfl) fun a ha => qn ha 15 (nn Bool.false_ne_true _ rfl) fun a ha => qn ha 15 (nn Bool.false_ne_true _ rfl) fun a ha => qn ha 15 (nn Bool.false_ne_true _ rfl) fun a ha => qn ha 15 (nn Bool.false_ne_true _ rfl) fun a ha => qn ha 15 (nn Bool.false_ne_true _ rfl) fun a ha => q ha (d_pick_f ha rfl Bool.false_ne_true rfl) fun a ha => qa ha rfl fun a ha => s_nil <| ?_
        have hS : Has 24 [(4, (.bool false))] _ := ha.sub ⟨rfl, trivial⟩
        cases h
        exact hk4 _ hS
    · refine qn ha 7 (nn b5 _ rfl) fun a ha => qn ha 7 (nn b5 _ rfl) fun a ha => q ha (d_pick_f ha rfl b5 rfl) fun a ha => qm ha rfl fun a ha => qn ha 11 (nn Bool.false_ne_true _ rfl) fun a ha => qn ha 11 (nn Bool.false_ne_true _ rfl) fun a ha => q ha (d_pick_f ha rfl Bool.false_ne_true rfl) fun a ha => qm ha rfl fun a ha => qn ha 15 (nn Bool.false_ne_true _ rfl) fun a ha => qn ha 15 (nn Bool.false_ne_true _ rfl) fun a ha => qn ha 15 (nn Bool.false_ne_true _ rfl) fun a ha => qn ha 15 (nn Bool.false_ne_true _ rfl) fun a ha => qn ha 15 (nn Bool.false_ne_true _ rfl) fun a ha => qn ha 15 (nn Bool.false_ne_true _ rfl) fun a ha => qn ha 15 (nn Bool.false_ne_true _ rfl) fun a ha => q ha (d_pick_f ha rfl Bool.false_ne_true rfl) fun a ha => qa ha rfl fun a ha => s_nil <| ?_
      have hS : Has 24 [(4, (.bool false))] _ := ha.sub ⟨rfl, trivial⟩
      cases h
      exact hk4 _ hS

noncomputable def wheel_Wheel_take_1 (a0 : Int) (a1 : Addr) (w : World) : Option (Bool × World) :=
  (ldI .i64 w a1).bind fun v1 =>
  some ((a0 == v1), w)
set_option maxHeartbeats 1000000 in
set_option maxRecDepth 100000 in
theorem wheel_Wheel_take_1_ok {a0 : Int} {a1 : Addr} {w w' : World} {r0 : Bool} (h : wheel_Wheel_take_1 a0 a1 w = some (r0, w')) : Calls Try.prog 102 #[(.int .i64 a0), (.pointer (some a1))] w fun e w'' => e = .returned (.bool r0) ∧ w'' = w' := by
  refine calls_dec (n := 7) Try.func102 rfl Try.ntmps102 (by simp) fun a ha => ?_
  unfold wheel_Wheel_take_1 at h
  refine wp_seq <| region_lit <| qa ha rfl fun a ha => s_nil <| t_n <| wp_seq <| region_lit <| qm ha rfl fun a ha => ?_
  obtain ⟨v1, e2, h⟩ := bs1 h
  refine q ha (d_ld ha rfl Try.isAgg3 (ldI_c e2)) fun a ha => q ha (d_eq ha rfl rfl) fun a ha => qa ha rfl fun a ha => s_nil <| t_n <| wp_ret <| ?_
  have hS := ha
  cases h
  exact ret1 Try.results102 hS rfl ⟨rfl, rfl⟩

noncomputable def slices_IndexFunc_int_int_102_l1 (a0 : Sl) (a1_0 : Addr) (x1 : Int) (w2 : World) : Option ((Int × World) ⊕ ((World) ⊕ (Int × World))) :=
  if (decide (x1 < (a0.n : Int))) = true then
  ((ix a0 x1 1).bind fun p12 =>
  (ldI .i64 w2 p12).bind fun v14 =>
  bind2 (wheel_Wheel_take_1 v14 a1_0 w2) fun v16 w17 =>
  if v16 = true then
  (some (.inr (.inr (x1, w17))))
  else
  (some (.inl ((IntKind.wrap .i64 (x1 + 1)), w17))))
  else
  (some (.inr (.inl w2)))
noncomputable def slices_IndexFunc_int_int_102 (a0 : Sl) (a1_0 : Addr) (w : World) : Option (Int × World) :=
  (loopF (fun s : Int × World => slices_IndexFunc_int_int_102_l1 a0 a1_0 s.1 s.2) (0, w)).bind fun r3 => Sum.elim (fun (i : World) => u1 i fun w5 =>
  some ((-1), w5)) (fun (i : Int × World) => u2 i fun v6 w7 =>
  some (v6, w7)) r3
set_option maxHeartbeats 1000000 in
set_option maxRecDepth 100000 in
theorem slices_IndexFunc_int_int_102_ok {a0 : Sl} {a1_0 : Addr} {w w' : World} {r0 : Int} (h : slices_IndexFunc_int_int_102 a0 a1_0 w = some (r0, w')) : Calls Try.prog 129 #[(Sl.v a0), (.func (.func 102) #[] #[(.pointer (some a1_0))])] w fun e w'' => e = .returned (.int .i64 r0) ∧ w'' = w' := by
  refine calls_dec (n := 19) Try.func129 rfl Try.ntmps129 (by simp) fun a ha => ?_
  unfold slices_IndexFunc_int_int_102 at h
  refine wp_seq <| region_lit <| qa ha rfl fun a ha => s_nil <| t_n <| wp_seq <| wp_seq <| region_lit <| qm ha rfl fun a ha => q ha (d_lenS ha rfl Try.runUnderlying34) fun a ha => qm ha rfl fun a ha => s_nil <| t_n <| wp_block <| ?_
  obtain ⟨r3, e4, h⟩ := bs1 h
  refine s_loop2 (n := 19) (L1 := fun i => []) (w1 := fun i => i) (L2 := fun i => [(4, (.int .i64 i.1))]) (w2 := fun i => i.2) (e1 := .exit 0) (e2 := .ret) (I := fun (s : Int × World) a w => Has 19 [(8, (.int .i64 s.1)), (0, (Sl.v a0)), (1, (.func (.func 102) #[] #[(.pointer (some a1_0))])), (7, (.int .i64 (a0.n : Int)))] a ∧ w = s.2) ⟨ha.sub ⟨rfl, rfl, rfl, rfl, trivial⟩, rfl⟩ e4 (fun i hi a ha => ?_) (fun i hi a ha => ?_) (fun hk8 hk9 => ?_)
  · subst hi
    obtain ⟨w5, rfl⟩ : ∃ x, x = i := ⟨i, rfl⟩
    dsimp only [Sum.elim_inl, Sum.elim_inr, u1, u2, u3, u4, u5, u6] at h
    have ha : Has 19 [] a := ha
    refine b_hit <| t_n <| wp_seq <| region_lit <| qa ha rfl fun a ha => s_nil <| t_n <| wp_ret <| ?_
    have hS := ha
    cases h
    exact ret1 Try.results129 hS rfl ⟨rfl, rfl⟩
  · subst hi
    obtain ⟨v6, w7⟩ := i
    dsimp only [Sum.elim_inl, Sum.elim_inr, u1, u2, u3, u4, u5, u6] at h
    have ha : Has 19 [(4, (.int .i64 v6))] a := ha
    refine b_r <| t_r <| ?_
    have hS := ha
    cases h
    exact ret1 Try.results129 hS rfl ⟨rfl, rfl⟩
  · clear h
    rintro ⟨x1, w2⟩ a wq o ⟨ha, hwq⟩ h hr10
    obtain rfl : w2 = wq := hwq.symm
    have ha : Has 19 [(8, (.int .i64 x1)), (0, (Sl.v a0)), (1, (.func (.func 102) #[] #[(.pointer (some a1_0))])), (7, (.int .i64 (a0.n : Int)))] a := ha
    have h : slices_IndexFunc_int_int_102_l1 a0 a1_0 x1 w2 = some o := h
    unfold slices_IndexFunc_int_int_102_l1 at h
    refine wp_seq <| region_lit <| q ha (d_lt ha rfl rfl) fun a ha => s_nil <| t_n <| wp_seq <| ?_
    refine s_cond ha rfl h (fun b11 h => ?_) (fun b11 h => ?_)
    · refine wp_skip <| t_n <| wp_seq <| wp_block <| wp_seq <| region_lit <| qm ha rfl fun a ha => qa ha rfl fun a ha => s_nil <| t_n <| wp_seq <| region_lit <| qm ha rfl fun a ha => qm ha rfl fun a ha => qm ha rfl fun a ha => ?_
      obtain ⟨p12, e13, h⟩ := bs1 h
      refine q ha (d_ix ha rfl rfl Try.runUnderlying34 Try.sizeOf3 e13) fun a ha => ?_
      obtain ⟨v14, e15, h⟩ := bs1 h
      refine q ha (d_ld ha rfl Try.isAgg3 (ldI_c e15)) fun a ha => ?_
      obtain ⟨v16, w17, e18, h⟩ := bs2 h
      refine q ha (d_callF (xs := [_]) (vs := [(.int .i64 v14)]) (cv := [(.pointer (some a1_0))]) ha rfl ⟨rfl, trivial⟩ Try.call102 (wheel_Wheel_take_1_ok e18)) fun a ha => s_nil <| t_n <| ?_
      refine s_cond ha rfl h (fun b19 h => ?_) (fun b19 h => ?_)
      · refine wp_seq <| region_lit <| qm ha rfl fun a ha => qa ha rfl fun a ha => s_nil <| t_n <| wp_ret <| b_r <| t_r <| ?_
        have hS : Has 19 [(4, (.int .i64 x1))] _ := ha.sub ⟨rfl, trivial⟩
        cases h
        cases hr10 _ rfl
        refine lp_r <| ?_
        exact hk9 _ rfl _ hS
      · refine wp_skip <| b_n <| t_n <| region_lit <| q ha (d_add ha rfl rfl) fun a ha => qm ha rfl fun a ha => s_nil <| ?_
        have hS : Has 19 [(8, (.int .i64 (IntKind.wrap .i64 (x1 + 1)))), (0, (Sl.v a0)), (1, (.func (.func 102) #[] #[(.pointer (some a1_0))])), (7, (.int .i64 (a0.n : Int)))] _ := ha.sub ⟨rfl, rfl, rfl, rfl, trivial⟩
        cases h
        exact lp_next ⟨hS, rfl⟩
    · refine wp_exit <| t_x <| ?_
      have hS : Has 19 [] _ := ha.sub trivial
      cases h
      cases hr10 _ rfl
      refine lp_x <| ?_
      exact hk8 _ rfl _ hS

noncomputable def slices_DeleteFunc_int_int_102_l1 (a0 : Sl) (a1_0 : Addr) (x5 : Int) (x6 : Int) (w7 : World) : Option ((Int × Int × World) ⊕ (Int × World)) :=
  if (decide (x6 < (a0.n : Int))) = true then
  (bind2 ((ix a0 x6 1).bind fun p19 =>
  (ldI .i64 w7 p19).bind fun v21 =>
  bind2 (wheel_Wheel_take_1 v21 a1_0 w7) fun v23 w24 =>
  if (!v23) = true then
  ((ix a0 x5 1).bind fun p27 =>
  (stV w24 p27 (.int .i64 v21)).bind fun w29 =>
  some ((IntKind.wrap .i64 (x5 + 1)), w29))
  else
  (some (x5, w24))) fun v15 w16 =>
  some (.inl (v15, (IntKind.wrap .i64 (x6 + 1)), w16)))
  else
  (some (.inr (x5, w7)))
noncomputable def slices_DeleteFunc_int_int_102 (a0 : Sl) (a1_0 : Addr) (w : World) : Option (Sl × World) :=
  bind2 (slices_IndexFunc_int_int_102 a0 a1_0 w) fun v1 w2 =>
  if (v1 == (-1)) = true then
  (some (a0, w2))
  else
  (bind2 (loopF (fun s : Int × Int × World => slices_DeleteFunc_int_int_102_l1 a0 a1_0 s.1 s.2.1 s.2.2) (v1, (IntKind.wrap .i64 (v1 + 1)), w2)) fun v10 w11 =>
  (slS a0 v10 (a0.n : Int) (a0.c : Int) 1).bind fun s31 =>
  (clS Try.prog 34 s31 w11).bind fun w33 =>
  (slS a0 0 v10 (a0.c : Int) 1).bind fun s35 =>
  some (s35, w33))
set_option maxHeartbeats 1000000 in
set_option maxRecDepth 100000 in
theorem slices_DeleteFunc_int_int_102_ok {a0 : Sl} {a1_0 : Addr} {w w' : World} {r0 : Sl} (h : slices_DeleteFunc_int_int_102 a0 a1_0 w = some (r0, w')) : Calls Try.prog 101 #[(Sl.v a0), (.func (.func 102) #[] #[(.pointer (some a1_0))])] w fun e w'' => e = .returned (Sl.v r0) ∧ w'' = w' := by
  refine calls_dec (n := 42) Try.func101 rfl Try.ntmps101 (by simp) fun a ha => ?_
  unfold slices_DeleteFunc_int_int_102 at h
  refine wp_seq <| region_lit <| qa ha rfl fun a ha => s_nil <| t_n <| wp_seq <| region_lit <| qm ha rfl fun a ha => qm ha rfl fun a ha => ?_
  obtain ⟨v1, w2, e3, h⟩ := bs2 h
  refine q ha (d_call (xs := [_, _]) (vs := [(Sl.v a0), (.func (.func 102) #[] #[(.pointer (some a1_0))])]) ha ⟨rfl, rfl, trivial⟩ Try.call129 (slices_IndexFunc_int_int_102_ok e3)) fun a ha => qa ha rfl fun a ha => s_nil <| t_n <| wp_seq <| wp_seq <| region_lit <| qm ha rfl fun a ha => q ha (d_eq ha rfl rfl) fun a ha => s_nil <| t_n <| ?_
  refine s_cond ha rfl h (fun b4 h => ?_) (fun b4 h => ?_)
  · refine wp_seq <| region_lit <| qm ha rfl fun a ha => qa ha rfl fun a ha => s_nil <| t_n <| wp_ret <| t_r <| ?_
    have hS := ha
    cases h
    exact ret1 Try.results101 hS rfl ⟨rfl, rfl⟩
  · refine wp_skip <| t_n <| wp_seq <| wp_seq <| region_lit <| qm ha rfl fun a ha => q ha (d_add ha rfl rfl) fun a ha => qa ha rfl fun a ha => s_nil <| t_n <| wp_block <| ?_
    obtain ⟨v10, w11, e9, h⟩ := bs2 h
    refine s_loop1 (n := 42) (L := [(5, (.int .i64 v10)), (0, (Sl.v a0))]) (w' := w11) (e := .exit 0) (I := fun (s : Int × Int × World) a w => Has 42 [(5, (.int .i64 s.1)), (6, (.int .i64 s.2.1)), (0, (Sl.v a0)), (1, (.func (.func 102) #[] #[(.pointer (some a1_0))]))] a ∧ w = s.2.2) ⟨ha.sub ⟨rfl, rfl, rfl, rfl, trivial⟩, rfl⟩ e9 (fun a ha => ?_) (fun hk12 => ?_)
    · refine b_hit <| t_n <| wp_seq <| region_lit <| qm ha rfl fun a ha => qm ha rfl fun a ha => ?_
      obtain ⟨s31, e32, h⟩ := bs1 h
      refine q ha (d_slS ha rfl Try.runUnderlying34 Try.sizeOf3 ⟨_, rfl⟩ rfl rfl (by simp) e32) fun a ha => ?_
      obtain ⟨w33, e34, h⟩ := bs1 h
      refine q ha (d_clS ha rfl e34) fun a ha => s_nil <| t_n <| wp_seq <| region_lit <| qm ha rfl fun a ha => qm ha rfl fun a ha => ?_
      obtain ⟨s35, e36, h⟩ := bs1 h
      refine q ha (d_slS ha rfl Try.runUnderlying34 Try.sizeOf3 rfl ⟨_, rfl⟩ rfl (by simp) e36) fun a ha => qa ha rfl fun a ha => s_nil <| t_n <| wp_ret <| ?_
      have hS := ha
      cases h
      exact ret1 Try.results101 hS rfl ⟨rfl, rfl⟩
    · clear h
      rintro ⟨x5, x6, w7⟩ a wq o ⟨ha, hwq⟩ h hr13
      obtain rfl : w7 = wq := hwq.symm
      have ha : Has 42 [(5, (.int .i64 x5)), (6, (.int .i64 x6)), (0, (Sl.v a0)), (1, (.func (.func 102) #[] #[(.pointer (some a1_0))]))] a := ha
      have h : slices_DeleteFunc_int_int_102_l1 a0 a1_0 x5 x6 w7 = some o := h
      unfold slices_DeleteFunc_int_int_102_l1 at h
      refine wp_seq <| wp_seq <| region_lit <| qm ha rfl fun a ha => qm ha rfl fun a ha => q ha (d_lenS ha rfl Try.runUnderlying34) fun a ha => q ha (d_lt ha rfl rfl) fun a ha => s_nil <| t_n <| ?_
      refine s_cond ha rfl h (fun b14 h => ?_) (fun b14 h => ?_)
      · refine wp_skip <| t_n <| ?_
        obtain ⟨v15, w16, e17, h⟩ := bs2 h
        refine seq_join (n := 42) (L := [(5, (.int .i64 v15)), (0, (Sl.v a0)), (1, (.func (.func 102) #[] #[(.pointer (some a1_0))])), (6, (.int .i64 x6))]) (w' := w16) (fun a ha => ?_) (fun hk18 => ?_)
        · refine region_lit <| qm ha rfl fun a ha => q ha (d_add ha rfl rfl) fun a ha => qa ha rfl fun a ha => s_nil <| ?_
          have hS : Has 42 [(5, (.int .i64 v15)), (6, (.int .i64 (IntKind.wrap .i64 (x6 + 1)))), (0, (Sl.v a0)), (1, (.func (.func 102) #[] #[(.pointer (some a1_0))]))] _ := ha.sub ⟨rfl, rfl, rfl, rfl, trivial⟩
          cases h
          exact lp_next ⟨hS, rfl⟩
        · clear h
          have h := e17
          refine wp_block <| wp_seq <| region_lit <| qm ha rfl fun a ha => qm ha rfl fun a ha => ?_
          obtain ⟨p19, e20, h⟩ := bs1 h
          refine q ha (d_ix ha rfl rfl Try.runUnderlying34 Try.sizeOf3 e20) fun a ha => ?_
          obtain ⟨v21, e22, h⟩ := bs1 h
          refine q ha (d_ld ha rfl Try.isAgg3 (ldI_c e22)) fun a ha => qa ha rfl fun a ha => s_nil <| t_n <| wp_seq <| region_lit <| qm ha rfl fun a ha => qm ha rfl fun a ha => ?_
          obtain ⟨v23, w24, e25, h⟩ := bs2 h
          refine q ha (d_callF (xs := [_]) (vs := [(.int .i64 v21)]) (cv := [(.pointer (some a1_0))]) ha rfl ⟨rfl, trivial⟩ Try.call102 (wheel_Wheel_take_1_ok e25)) fun a ha => q ha (d_not ha rfl) fun a ha => s_nil <| t_n <| ?_
          refine s_cond ha rfl h (fun b26 h => ?_) (fun b26 h => ?_)
          · refine wp_seq <| region_lit <| qm ha rfl fun a ha => qm ha rfl fun a ha => qm ha rfl fun a ha => ?_
            obtain ⟨p27, e28, h⟩ := bs1 h
            refine q ha (d_ix ha rfl rfl Try.runUnderlying34 Try.sizeOf3 e28) fun a ha => ?_
            obtain ⟨w29, e30, h⟩ := bs1 h
            refine q ha (d_st ha rfl rfl Try.sizeOf3 e30) fun a ha => s_nil <| t_n <| region_lit <| qm ha rfl fun a ha => q ha (d_add ha rfl rfl) fun a ha => qa ha rfl fun a ha => s_nil <| b_n <| ?_
            have hS : Has 42 [(5, (.int .i64 (IntKind.wrap .i64 (x5 + 1)))), (0, (Sl.v a0)), (1, (.func (.func 102) #[] #[(.pointer (some a1_0))])), (6, (.int .i64 x6))] _ := ha.sub ⟨rfl, rfl, rfl, rfl, trivial⟩
            cases h
            exact hk18 _ hS
          · refine wp_skip <| b_n <| ?_
            have hS : Has 42 [(5, (.int .i64 x5)), (0, (Sl.v a0)), (1, (.func (.func 102) #[] #[(.pointer (some a1_0))])), (6, (.int .i64 x6))] _ := ha.sub ⟨rfl, rfl, rfl, rfl, trivial⟩
            cases h
            exact hk18 _ hS
      · refine wp_exit <| t_x <| ?_
        have hS : Has 42 [(5, (.int .i64 x5)), (0, (Sl.v a0))] _ := ha.sub ⟨rfl, rfl, trivial⟩
        cases h
        cases hr13 _ rfl
        refine lp_x <| ?_
        exact hk12 _ hS

noncomputable def wheel_Wheel_take (a0 : Option Addr) (a1 : Int) (w : World) : Option (World) :=
  bind2 (mk w 3 ([(.int .i64 a1)])) fun p1 w2 =>
  (dr w2).bind fun w4 =>
  (ldI .i64 w4 p1).bind fun v6 =>
  (a0).bind fun p8 =>
  (ixA (p8.add 66) v6 65 1).bind fun p10 =>
  (ldI .i64 w4 p10).bind fun v12 =>
  (dr w4).bind fun w14 =>
  (ixA (p8.add 131) v12 43 1).bind fun p16 =>
  (ldL w14 p16).bind fun v18 =>
  bind2 (slices_DeleteFunc_int_int_102 v18 p1 w14) fun v20 w21 =>
  (ixA (p8.add 131) v12 43 1).bind fun p23 =>
  (stV w21 p23 (Sl.v v20)).bind fun w25 =>
  (dr w25).bind fun w27 =>
  (ldI .i64 w27 p1).bind fun v29 =>
  (ixA (p8.add 66) v29 65 1).bind fun p31 =>
  (stV w27 p31 (.int .i64 0)).bind fun w33 =>
  some w33
set_option maxHeartbeats 1000000 in
set_option maxRecDepth 100000 in
theorem wheel_Wheel_take_ok {a0 : Option Addr} {a1 : Int} {w w' : World} (h : wheel_Wheel_take a0 a1 w = some w') : Calls Try.prog 53 #[(.pointer a0), (.int .i64 a1)] w fun e w'' => e = .returned (.tuple #[]) ∧ w'' = w' := by
  refine calls_dec (n := 29) Try.func53 rfl Try.ntmps53 (by simp) fun a ha => ?_
  unfold wheel_Wheel_take at h
  refine wp_seq <| region_lit <| ?_
  obtain ⟨p1, w2, e3, h⟩ := bs2 h
  refine q ha (d_box ha rfl rfl e3) fun a ha => s_nil <| t_n <| wp_seq <| ?_
  obtain ⟨w4, e5, h⟩ := bs1 h
  obtain ⟨v6, e7, h⟩ := bs1 h
  obtain ⟨p8, e9, h⟩ := bs1 h
  obtain ⟨p10, e11, h⟩ := bs1 h
  obtain ⟨v12, e13, h⟩ := bs1 h
  have ha : Has 29 [(0, (.pointer a0)), (3, (.pointer (some p1)))] a := ha.sub ⟨rfl, rfl, trivial⟩
  refine region_draw (n := 29) (ds := (⟨_, (.pointer a0), false, 0, 0, [], [(0, (.pointer a0))]⟩ :: ⟨_, (.int .i64 v6), false, 0, 0, [], [(3, (.pointer (some p1)))]⟩ :: ⟨_, (.pointer (some p8)), false, 0, 0, [0], [(5, (.pointer a0))]⟩ :: ⟨_, (.pointer (some (p8.add 66))), false, 0, 0, [0, 2], [(7, (.pointer (some p8)))]⟩ :: ⟨_, (.pointer (some p10)), false, 0, 0, [0, 1, 2, 3], [(8, (.pointer (some (p8.add 66)))), (6, (.int .i64 v6))]⟩ :: ⟨_, (.int .i64 v12), false, 0, 0, [0, 1, 2, 3, 4], [(9, (.pointer (some p10)))]⟩ :: ⟨_, (.int .i64 v12), false, 0, 0, [0, 1, 2, 3, 4, 5], [(10, (.int .i64 v12))]⟩ :: [])) (W := (fun _ => w4)) (by kernel_rfl) ha (dr_w e5) (by kernel_rfl) ?_ (reads_of (by kernel_rfl)) (by kernel_rfl) (m := 0) (by kernel_rfl) (fun a ha => ?_)
  · refine ⟨?_, ?_, ?_, ?_, ?_, ?_, ?_, trivial⟩
    · exact oa fun j a ha => d_move ha rfl
    · exact oc (e := false) 0 (ok_do rfl fun a ha => d_ld ha rfl Try.isAgg3 (ldI_c e7))
    · exact oa fun j a ha => d_nilp ha rfl e9
    · exact oa fun j a ha => d_fa ha rfl Try.runUnderlying95 rfl rfl Try.sizeOf28 (by decide)
    · exact oa fun j a ha => d_ixA ha rfl rfl Try.runUnderlying28 Try.sizeOf3 e11
    · exact oc (e := false) 0 (ok_do rfl fun a ha => d_ld ha rfl Try.isAgg3 (ldI_c e13))
    · exact oa fun j a ha => d_assign ha rfl
  · have ha : Has 29 [(0, (.pointer a0)), (3, (.pointer (some p1))), (4, (.int .i64 v12))] a := ha.sub ⟨rfl, rfl, rfl, trivial⟩
    refine t_n <| wp_seq <| ?_
    obtain ⟨w14, e15, h⟩ := bs1 h
    obtain ⟨p16, e17, h⟩ := bs1 h
    obtain ⟨v18, e19, h⟩ := bs1 h
    obtain ⟨v20, w21, e22, h⟩ := bs2 h
    obtain ⟨p23, e24, h⟩ := bs1 h
    obtain ⟨w25, e26, h⟩ := bs1 h
    have ha : Has 29 [(0, (.pointer a0)), (3, (.pointer (some p1))), (4, (.int .i64 v12))] a := ha.sub ⟨rfl, rfl, rfl, trivial⟩
    refine region_draw (n := 29) (ds := (⟨_, (.pointer a0), false, 0, 1, [], [(0, (.pointer a0))]⟩ :: ⟨_, (.int .i64 v12), false, 0, 1, [], [(4, (.int .i64 v12))]⟩ :: ⟨_, (.pointer a0), false, 0, 0, [], [(0, (.pointer a0))]⟩ :: ⟨_, (.int .i64 v12), false, 0, 0, [], [(4, (.int .i64 v12))]⟩ :: ⟨_, (.pointer (some p8)), false, 0, 0, [2], [(13, (.pointer a0))]⟩ :: ⟨_, (.pointer (some (p8.add 131))), false, 0, 0, [2, 4], [(15, (.pointer (some p8)))]⟩ :: ⟨_, (.pointer (some p16)), false, 0, 0, [2, 3, 4, 5], [(16, (.pointer (some (p8.add 131)))), (14, (.int .i64 v12))]⟩ :: ⟨_, (Sl.v v18), false, 0, 0, [2, 3, 4, 5, 6], [(17, (.pointer (some p16)))]⟩ :: ⟨_, (.func (.func 102) #[] #[(.pointer (some p1))]), false, 0, 0, [], [(3, (.pointer (some p1)))]⟩ :: ⟨_, (Sl.v v20), true, 0, 0, [2, 3, 4, 5, 6, 7, 8], [(18, (Sl.v v18)), (19, (.func (.func 102) #[] #[(.pointer (some p1))]))]⟩ :: ⟨_, (.pointer (some p8)), false, 0, 1, [0], [(11, (.pointer a0))]⟩ :: ⟨_, (.pointer (some (p8.add 131))), false, 0, 1, [0, 10], [(21, (.pointer (some p8)))]⟩ :: ⟨_, (.pointer (some p23)), false, 1, 1, [0, 1, 2, 3, 4, 5, 6, 7, 8, 9, 10, 11], [(22, (.pointer (some (p8.add 131)))), (12, (.int .i64 v12))]⟩ :: ⟨_, undef, true, 1, 1, (0 :: 1 :: 2 :: 3 :: 4 :: 5 :: 6 :: 7 :: 8 :: 9 :: 10 :: 11 :: 12 :: []), [(23, (.pointer (some p23))), (20, (Sl.v v20))]⟩ :: [])) (W := (fun j => match j with | 0 => w14 | 1 => w21 | 2 => w25 | _ => w25)) (by kernel_rfl) ha (dr_w e15) (by kernel_rfl) ?_ (reads_of (by kernel_rfl)) (by kernel_rfl) (m := 2) (by kernel_rfl) (fun a ha => ?_)
    · refine ⟨?_, ?_, ?_, ?_, ?_, ?_, ?_, ?_, ?_, ?_, ?_, ?_, ?_, ?_, trivial⟩
      · exact oa fun j a ha => d_move ha rfl
      · exact oa fun j a ha => d_move ha rfl
      · exact oa fun j a ha => d_move ha rfl
      · exact oa fun j a ha => d_move ha rfl
      · exact oa fun j a ha => d_nilp ha rfl e9
      · exact oa fun j a ha => d_fa ha rfl Try.runUnderlying95 rfl rfl Try.sizeOf93 (by decide)
      · exact oa fun j a ha => d_ixA ha rfl rfl Try.runUnderlying93 Try.sizeOf34 e17
      · exact oc 0 (ok_do rfl fun a ha => d_ld ha rfl Try.isAgg34 (ldL_c e19))
      · exact oa fun j a ha => d_mkF (vs := [(.pointer (some p1))]) ha ⟨rfl, trivial⟩
      · exact oc 0 (ok_do rfl fun a ha => d_call (xs := [_, _]) (vs := [(Sl.v v18), (.func (.func 102) #[] #[(.pointer (some p1))])]) ha ⟨rfl, rfl, trivial⟩ Try.call101 (slices_DeleteFunc_int_int_102_ok e22))
      · exact oa fun j a ha => d_nilp ha rfl e9
      · exact oa fun j a ha => d_fa ha rfl Try.runUnderlying95 rfl rfl Try.sizeOf93 (by decide)
      · exact oa fun j a ha => d_ixA ha rfl rfl Try.runUnderlying93 Try.sizeOf34 e24
      · exact oc 1 (ok_do rfl fun a ha => d_st ha rfl rfl Try.sizeOf34 e26)
    · have ha : Has 29 [(0, (.pointer a0)), (3, (.pointer (some p1)))] a := ha.sub ⟨rfl, rfl, trivial⟩
      refine t_n <| ?_
      obtain ⟨w27, e28, h⟩ := bs1 h
      obtain ⟨v29, e30, h⟩ := bs1 h
      obtain ⟨p31, e32, h⟩ := bs1 h
      obtain ⟨w33, e34, h⟩ := bs1 h
      have ha : Has 29 [(0, (.pointer a0)), (3, (.pointer (some p1)))] a := ha.sub ⟨rfl, rfl, trivial⟩
      refine region_draw (n := 29) (ds := (⟨_, (.pointer a0), false, 0, 0, [], [(0, (.pointer a0))]⟩ :: ⟨_, (.int .i64 v29), false, 0, 0, [], [(3, (.pointer (some p1)))]⟩ :: ⟨_, (.pointer (some p8)), false, 0, 0, [0], [(24, (.pointer a0))]⟩ :: ⟨_, (.pointer (some (p8.add 66))), false, 0, 0, [0, 2], [(26, (.pointer (some p8)))]⟩ :: ⟨_, (.pointer (some p31)), false, 0, 0, [0, 1, 2, 3], [(27, (.pointer (some (p8.add 66)))), (25, (.int .i64 v29))]⟩ :: ⟨_, undef, true, 0, 0, [0, 1, 2, 3, 4], [(28, (.pointer (some p31)))]⟩ :: [])) (W := (fun j => match j with | 0 => w27 | 1 => w33 | _ => w33)) (by kernel_rfl) ha (dr_w e28) (by kernel_rfl) ?_ (reads_of (by kernel_rfl)) (by kernel_rfl) (m := 1) (by kernel_rfl) (fun a ha => ?_)
      · refine ⟨?_, ?_, ?_, ?_, ?_, ?_, trivial⟩
        · exact oa fun j a ha => d_move ha rfl
        · exact oc 0 (ok_do rfl fun a ha => d_ld ha rfl Try.isAgg3 (ldI_c e30))
        · exact oa fun j a ha => d_nilp ha rfl e9
        · exact oa fun j a ha => d_fa ha rfl Try.runUnderlying95 rfl rfl Try.sizeOf28 (by decide)
        · exact oa fun j a ha => d_ixA ha rfl rfl Try.runUnderlying28 Try.sizeOf3 e32
        · exact oc 0 (ok_do rfl fun a ha => d_st ha rfl rfl Try.sizeOf3 e34)
      · have ha : Has 29 [] a := ha.sub trivial
        have hS := ha
        cases h
        exact end0 Try.results53 hS ⟨rfl, rfl⟩

noncomputable def wheel_Wheel_lay (a0 : Option Addr) (a1 : Int) (w : World) : Option (World) :=
  bind2 ((dr w).bind fun w5 =>
  (a0).bind fun p7 =>
  (ixA (p7.add 1) a1 65 1).bind fun p9 =>
  (ldI .i64 w5 p9).bind fun v11 =>
  (ldI .i64 w5 (p7.add 0)).bind fun v13 =>
  if (decide (v13 < v11)) = true then
  ((dr w5).bind fun w16 =>
  (ixA (p7.add 1) a1 65 1).bind fun p18 =>
  (ldI .i64 w16 p18).bind fun v20 =>
  (ldI .i64 w16 (p7.add 0)).bind fun v22 =>
  bind2 (bits_Len (IntKind.wrap .u64 (bxor .i64 v20 v22)) w16) fun v24 w25 =>
  some ((mnI (IntKind.wrap .i64 (1 + v24)) 42), w25))
  else
  (some (1, w5))) fun v1 w2 =>
  (a0).bind fun p27 =>
  (ixA (p27.add 66) a1 65 1).bind fun p29 =>
  (stV w2 p29 (.int .i64 v1)).bind fun w31 =>
  (dr w31).bind fun w33 =>
  (ixA (p27.add 131) v1 43 1).bind fun p35 =>
  (ldL w33 p35).bind fun v37 =>
  bind2 (bsl w33 3 1 [[(.int .i64 a1)]]) fun s39 w40 =>
  bind2 (apS Try.prog 34 v37 s39 w40) fun s42 w43 =>
  (ixA (p27.add 131) v1 43 1).bind fun p45 =>
  (stV w43 p45 (Sl.v s42)).bind fun w47 =>
  chk (ldL w40 p35 = some v37) <|
  some w47
set_option maxHeartbeats 1000000 in
set_option maxRecDepth 100000 in
theorem wheel_Wheel_lay_ok {a0 : Option Addr} {a1 : Int} {w w' : World} (h : wheel_Wheel_lay a0 a1 w = some w') : Calls Try.prog 54 #[(.pointer a0), (.int .i64 a1)] w fun e w'' => e = .returned (.tuple #[]) ∧ w'' = w' := by
  refine calls_dec (n := 52) Try.func54 rfl Try.ntmps54 (by simp) fun a ha => ?_
  unfold wheel_Wheel_lay at h
  refine wp_seq <| region_lit <| qa ha rfl fun a ha => s_nil <| t_n <| ?_
  obtain ⟨v1, w2, e3, h⟩ := bs2 h
  refine seq_join (n := 52) (L := [(4, (.int .i64 v1)), (0, (.pointer a0)), (1, (.int .i64 a1))]) (w' := w2) (fun a ha => ?_) (fun hk4 => ?_)
  · refine wp_seq <| region_lit <| qm ha rfl fun a ha => qm ha rfl fun a ha => qm ha rfl fun a ha => ?_
    obtain ⟨p27, e28, h⟩ := bs1 h
    refine q ha (d_nilp ha rfl e28) fun a ha => q ha (d_fa ha rfl Try.runUnderlying95 rfl rfl Try.sizeOf28 (by decide)) fun a ha => ?_
    obtain ⟨p29, e30, h⟩ := bs1 h
    refine q ha (d_ixA ha rfl rfl Try.runUnderlying28 Try.sizeOf3 e30) fun a ha => ?_
    obtain ⟨w31, e32, h⟩ := bs1 h
    refine q ha (d_st ha rfl rfl Try.sizeOf3 e32) fun a ha => s_nil <| t_n <| ?_
    obtain ⟨w33, e34, h⟩ := bs1 h
    obtain ⟨p35, e36, h⟩ := bs1 h
    obtain ⟨v37, e38, h⟩ := bs1 h
    obtain ⟨s39, w40, e41, h⟩ := bs2 h
    obtain ⟨s42, w43, e44, h⟩ := bs2 h
    obtain ⟨p45, e46, h⟩ := bs1 h
    obtain ⟨w47, e48, h⟩ := bs1 h
    obtain ⟨e49, h⟩ := chk_some h
    have ha : Has 52 [(0, (.pointer a0)), (1, (.int .i64 a1)), (4, (.int .i64 v1))] a := ha.sub ⟨rfl, rfl, rfl, trivial⟩
    refine region_draw (n := 52) (ds := (⟨_, (.pointer a0), false, 0, 2, [], [(0, (.pointer a0))]⟩ :: ⟨_, (.int .i64 v1), false, 0, 2, [], [(4, (.int .i64 v1))]⟩ :: ⟨_, (.pointer a0), false, 0, 1, [], [(0, (.pointer a0))]⟩ :: ⟨_, (.int .i64 v1), false, 0, 1, [], [(4, (.int .i64 v1))]⟩ :: ⟨_, (.pointer (some p27)), false, 0, 1, [2], [(40, (.pointer a0))]⟩ :: ⟨_, (.pointer (some (p27.add 131))), false, 0, 1, [2, 4], [(42, (.pointer (some p27)))]⟩ :: ⟨_, (.pointer (some p35)), false, 0, 1, [2, 3, 4, 5], [(43, (.pointer (some (p27.add 131)))), (41, (.int .i64 v1))]⟩ :: ⟨_, (Sl.v v37), false, 0, 1, [2, 3, 4, 5, 6], [(44, (.pointer (some p35)))]⟩ :: ⟨_, (.int .i64 a1), false, 0, 0, [], [(1, (.int .i64 a1))]⟩ :: ⟨_, (Sl.v s39), true, 0, 0, [8], [(46, (.int .i64 a1))]⟩ :: ⟨_, (Sl.v s42), true, 1, 1, [2, 3, 4, 5, 6, 7, 8, 9], [(45, (Sl.v v37)), (47, (Sl.v s39))]⟩ :: ⟨_, (.pointer (some p27)), false, 0, 2, [0], [(38, (.pointer a0))]⟩ :: ⟨_, (.pointer (some (p27.add 131))), false, 0, 2, [0, 11], [(49, (.pointer (some p27)))]⟩ :: ⟨_, (.pointer (some p45)), false, 2, 2, (0 :: 1 :: 2 :: 3 :: 4 :: 5 :: 6 :: 7 :: 8 :: 9 :: 10 :: 11 :: 12 :: []), [(50, (.pointer (some (p27.add 131)))), (39, (.int .i64 v1))]⟩ :: ⟨_, undef, true, 2, 2, (0 :: 1 :: 2 :: 3 :: 4 :: 5 :: 6 :: 7 :: 8 :: 9 :: 10 :: 11 :: 12 :: 13 :: []), [(51, (.pointer (some p45))), (48, (Sl.v s42))]⟩ :: [])) (W := (fun j => match j with | 0 => w33 | 1 => w40 | 2 => w43 | 3 => w47 | _ => w47)) (by kernel_rfl) ha (dr_w e34) (by kernel_rfl) ?_ (reads_of (by kernel_rfl)) (by kernel_rfl) (m := 3) (by kernel_rfl) (fun a ha => ?_)
    · refine ⟨?_, ?_, ?_, ?_, ?_, ?_, ?_, ?_, ?_, ?_, ?_, ?_, ?_, ?_, ?_, trivial⟩
      · exact oa fun j a ha => d_move ha rfl
      · exact oa fun j a ha => d_move ha rfl
      · exact oa fun j a ha => d_move ha rfl
      · exact oa fun j a ha => d_move ha rfl
      · exact oa fun j a ha => d_nilp ha rfl e28
      · exact oa fun j a ha => d_fa ha rfl Try.runUnderlying95 rfl rfl Try.sizeOf93 (by decide)
      · exact oa fun j a ha => d_ixA ha rfl rfl Try.runUnderlying93 Try.sizeOf34 e36
      · intro j h1 h2; have h1 : 0 ≤ j := h1; have h2 : j ≤ 1 := h2; rcases (by omega : j = 0 ∨ j = 1) with rfl | rfl
        · exact ok_do rfl fun a ha => d_ld ha rfl Try.isAgg34 (ldL_c e38)
        · exact ok_do rfl fun a ha => d_ld ha rfl Try.isAgg34 (ldL_c e49)
      · exact oa fun j a ha => d_move ha rfl
      · exact oc 0 (ok_do rfl fun a ha => d_bsl (vs := [(0, (.int .i64 a1))]) (ps := [[(.int .i64 a1)]]) ha ⟨rfl, rfl, trivial⟩ ⟨rfl, rfl, trivial⟩ rfl Try.runUnderlying34 Try.sizeOf3 Try.zeroValue3 (by decide) e41)
      · exact oc 1 (ok_do rfl fun a ha => d_apS ha rfl rfl e44)
      · exact oa fun j a ha => d_nilp ha rfl e28
      · exact oa fun j a ha => d_fa ha rfl Try.runUnderlying95 rfl rfl Try.sizeOf93 (by decide)
      · exact oa fun j a ha => d_ixA ha rfl rfl Try.runUnderlying93 Try.sizeOf34 e46
      · exact oc 2 (ok_do rfl fun a ha => d_st ha rfl rfl Try.sizeOf34 e48)
    · have ha : Has 52 [] a := ha.sub trivial
      have hS := ha
      cases h
      exact end0 Try.results54 hS ⟨rfl, rfl⟩
  · clear h
    have h := e3
    refine wp_seq <| ?_
    obtain ⟨w5, e6, h⟩ := bs1 h
    obtain ⟨p7, e8, h⟩ := bs1 h
    obtain ⟨p9, e10, h⟩ := bs1 h
    obtain ⟨v11, e12, h⟩ := bs1 h
    obtain ⟨v13, e14, h⟩ := bs1 h
    have ha : Has 52 [(0, (.pointer a0)), (1, (.int .i64 a1)), (4, (.int .i64 1))] a := ha.sub ⟨rfl, rfl, rfl, trivial⟩
    refine region_draw (n := 52) (ds := (⟨_, (.pointer a0), false, 0, 0, [], [(0, (.pointer a0))]⟩ :: ⟨_, (.int .i64 a1), false, 0, 0, [], [(1, (.int .i64 a1))]⟩ :: ⟨_, (.pointer (some p7)), false, 0, 0, [0], [(5, (.pointer a0))]⟩ :: ⟨_, (.pointer (some (p7.add 1))), false, 0, 0, [0, 2], [(7, (.pointer (some p7)))]⟩ :: ⟨_, (.pointer (some p9)), false, 0, 0, [0, 1, 2, 3], [(8, (.pointer (some (p7.add 1)))), (6, (.int .i64 a1))]⟩ :: ⟨_, (.int .i64 v11), false, 0, 0, [0, 1, 2, 3, 4], [(9, (.pointer (some p9)))]⟩ :: ⟨_, (.pointer a0), false, 0, 0, [], [(0, (.pointer a0))]⟩ :: ⟨_, (.pointer (some p7)), false, 0, 0, [6], [(11, (.pointer a0))]⟩ :: ⟨_, (.pointer (some (p7.add 0))), false, 0, 0, [6, 7], [(12, (.pointer (some p7)))]⟩ :: ⟨_, (.int .i64 v13), false, 0, 0, [6, 7, 8], [(13, (.pointer (some (p7.add 0))))]⟩ :: ⟨_, (.bool (decide (v13 < v11))), false, 0, 0, [0, 1, 2, 3, 4, 5, 6, 7, 8, 9], [(10, (.int .i64 v11)), (14, (.int .i64 v13))]⟩ :: [])) (W := (fun _ => w5)) (by kernel_rfl) ha (dr_w e6) (by kernel_rfl) ?_ (reads_of (by kernel_rfl)) (by kernel_rfl) (m := 0) (by kernel_rfl) (fun a ha => ?_)
    · refine ⟨?_, ?_, ?_, ?_, ?_, ?_, ?_, ?_, ?_, ?_, ?_, trivial⟩
      · exact oa fun j a ha => d_move ha rfl
      · exact oa fun j a ha => d_move ha rfl
      · exact oa fun j a ha => d_nilp ha rfl e8
      · exact oa fun j a ha => d_fa ha rfl Try.runUnderlying95 rfl rfl Try.sizeOf28 (by decide)
      · exact oa fun j a ha => d_ixA ha rfl rfl Try.runUnderlying28 Try.sizeOf3 e10
      · exact oc (e := false) 0 (ok_do rfl fun a ha => d_ld ha rfl Try.isAgg3 (ldI_c e12))
      · exact oa fun j a ha => d_move ha rfl
      · exact oa fun j a ha => d_nilp ha rfl e8
      · exact oa fun j a ha => d_fa ha rfl Try.runUnderlying95 rfl rfl Try.sizeOf3 (by decide)
      · exact oc (e := false) 0 (ok_do rfl fun a ha => d_ld ha rfl Try.isAgg3 (ldI_c e14))
      · exact oa fun j a ha => d_gt ha rfl rfl
    · have ha : Has 52 [(0, (.pointer a0)), (1, (.int .i64 a1)), (4, (.int .i64 1)), (15, (.bool (decide (v13 < v11))))] a := ha.sub ⟨rfl, rfl, rfl, rfl, trivial⟩
      refine t_n <| ?_
      refine s_cond ha rfl h (fun b15 h => ?_) (fun b15 h => ?_)
      · refine wp_seq <| ?_
        obtain ⟨w16, e17, h⟩ := bs1 h
        obtain ⟨p18, e19, h⟩ := bs1 h
        obtain ⟨v20, e21, h⟩ := bs1 h
        obtain ⟨v22, e23, h⟩ := bs1 h
        obtain ⟨v24, w25, e26, h⟩ := bs2 h
        have ha : Has 52 [(0, (.pointer a0)), (1, (.int .i64 a1)), (4, (.int .i64 1)), (15, (.bool (decide (v13 < v11))))] a := ha.sub ⟨rfl, rfl, rfl, rfl, trivial⟩
        refine region_draw (n := 52) (ds := (⟨_, (.pointer a0), false, 0, 0, [], [(0, (.pointer a0))]⟩ :: ⟨_, (.int .i64 a1), false, 0, 0, [], [(1, (.int .i64 a1))]⟩ :: ⟨_, (.pointer (some p7)), false, 0, 0, [0], [(16, (.pointer a0))]⟩ :: ⟨_, (.pointer (some (p7.add 1))), false, 0, 0, [0, 2], [(18, (.pointer (some p7)))]⟩ :: ⟨_, (.pointer (some p18)), false, 0, 0, [0, 1, 2, 3], [(19, (.pointer (some (p7.add 1)))), (17, (.int .i64 a1))]⟩ :: ⟨_, (.int .i64 v20), false, 0, 0, [0, 1, 2, 3, 4], [(20, (.pointer (some p18)))]⟩ :: ⟨_, (.pointer a0), false, 0, 0, [], [(0, (.pointer a0))]⟩ :: ⟨_, (.pointer (some p7)), false, 0, 0, [6], [(22, (.pointer a0))]⟩ :: ⟨_, (.pointer (some (p7.add 0))), false, 0, 0, [6, 7], [(23, (.pointer (some p7)))]⟩ :: ⟨_, (.int .i64 v22), false, 0, 0, [6, 7, 8], [(24, (.pointer (some (p7.add 0))))]⟩ :: ⟨_, (.int .i64 (bxor .i64 v20 v22)), false, 0, 0, [0, 1, 2, 3, 4, 5, 6, 7, 8, 9], [(21, (.int .i64 v20)), (25, (.int .i64 v22))]⟩ :: ⟨_, (.int .u64 (IntKind.wrap .u64 (bxor .i64 v20 v22))), false, 0, 0, [0, 1, 2, 3, 4, 5, 6, 7, 8, 9, 10], [(26, (.int .i64 (bxor .i64 v20 v22)))]⟩ :: ⟨_, (.int .i64 v24), true, 0, 0, [0, 1, 2, 3, 4, 5, 6, 7, 8, 9, 10, 11], [(27, (.int .u64 (IntKind.wrap .u64 (bxor .i64 v20 v22))))]⟩ :: ⟨_, (.int .i64 (IntKind.wrap .i64 (1 + v24))), false, 1, 1, (0 :: 1 :: 2 :: 3 :: 4 :: 5 :: 6 :: 7 :: 8 :: 9 :: 10 :: 11 :: 12 :: []), [(28, (.int .i64 v24))]⟩ :: ⟨_, (.int .i64 (IntKind.wrap .i64 (1 + v24))), false, 1, 1, (0 :: 1 :: 2 :: 3 :: 4 :: 5 :: 6 :: 7 :: 8 :: 9 :: 10 :: 11 :: 12 :: 13 :: []), [(29, (.int .i64 (IntKind.wrap .i64 (1 + v24))))]⟩ :: [])) (W := (fun j => match j with | 0 => w16 | 1 => w25 | _ => w25)) (by kernel_rfl) ha (dr_w e17) (by kernel_rfl) ?_ (reads_of (by kernel_rfl)) (by kernel_rfl) (m := 1) (by kernel_rfl) (fun a ha => ?_)
        · refine ⟨?_, ?_, ?_, ?_, ?_, ?_, ?_, ?_, ?_, ?_, ?_, ?_, ?_, ?_, ?_, trivial⟩
          · exact oa fun j a ha => d_move ha rfl
          · exact oa fun j a ha => d_move ha rfl
          · exact oa fun j a ha => d_nilp ha rfl e8
          · exact oa fun j a ha => d_fa ha rfl Try.runUnderlying95 rfl rfl Try.sizeOf28 (by decide)
          · exact oa fun j a ha => d_ixA ha rfl rfl Try.runUnderlying28 Try.sizeOf3 e19
          · exact oc 0 (ok_do rfl fun a ha => d_ld ha rfl Try.isAgg3 (ldI_c e21))
          · exact oa fun j a ha => d_move ha rfl
          · exact oa fun j a ha => d_nilp ha rfl e8
          · exact oa fun j a ha => d_fa ha rfl Try.runUnderlying95 rfl rfl Try.sizeOf3 (by decide)
          · exact oc 0 (ok_do rfl fun a ha => d_ld ha rfl Try.isAgg3 (ldI_c e23))
          · exact oa fun j a ha => d_xor ha rfl rfl
          · exact oa fun j a ha => d_conv ha rfl Try.runUnderlying3 Try.runUnderlying152
          · exact oc 0 (ok_do rfl fun a ha => d_call (xs := [_]) (vs := [(.int .u64 (IntKind.wrap .u64 (bxor .i64 v20 v22)))]) ha ⟨rfl, trivial⟩ Try.call103 (bits_Len_ok e26))
          · exact oa fun j a ha => d_add ha rfl rfl
          · exact oa fun j a ha => d_assign ha rfl
        · have ha : Has 52 [(0, (.pointer a0)), (1, (.int .i64 a1)), (4, (.int .i64 (IntKind.wrap .i64 (1 + v24))))] a := ha.sub ⟨rfl, rfl, rfl, trivial⟩
          refine t_n <| region_lit <| qm ha rfl fun a ha => q ha (d_min ha rfl rfl) fun a ha => qa ha rfl fun a ha => s_nil <| ?_
          have hS : Has 52 [(4, (.int .i64 (mnI (IntKind.wrap .i64 (1 + v24)) 42))), (0, (.pointer a0)), (1, (.int .i64 a1))] _ := ha.sub ⟨rfl, rfl, rfl, trivial⟩
          cases h
          exact hk4 _ hS
      · refine wp_skip <| ?_
        have hS : Has 52 [(4, (.int .i64 1)), (0, (.pointer a0)), (1, (.int .i64 a1))] _ := ha.sub ⟨rfl, rfl, rfl, trivial⟩
        cases h
        exact hk4 _ hS

noncomputable def wheel_Wheel_Set (a0 : Option Addr) (a1 : Int) (a2 : Int) (w : World) : Option (Int × World) :=
  bindX (if (a0.isNone) = true then
  ((some (1, w)).bind fun g6 => some (.inl g6))
  else
  (bind2 (if (decide (a1 < 1)) = true then
  (some (true, w))
  else
  (if (decide (64 < a1)) = true then
  (some (true, w))
  else
  (if (decide (a2 < 0)) = true then
  (some (true, w))
  else
  (some ((decide (1099511627776 < a2)), w))))) fun v9 w10 =>
  if v9 = true then
  ((some (2, w10)).bind fun g6 => some (.inl g6))
  else
  (bind2 (wheel_Wheel_has a0 a1 w10) fun v18 w19 =>
  if v18 = true then
  ((wheel_Wheel_take a0 a1 w19).bind fun w22 =>
  some (.inr w22))
  else
  (some (.inr w19))))) some fun (i : World) => u1 i fun w1 =>
  (a0).bind fun p24 =>
  (ixA (p24.add 1) a1 65 1).bind fun p26 =>
  (stV w1 p26 (.int .i64 a2)).bind fun w28 =>
  (wheel_Wheel_lay a0 a1 w28).bind fun w30 =>
  some (0, w30)
set_option maxHeartbeats 1000000 in
set_option maxRecDepth 100000 in
theorem wheel_Wheel_Set_ok {a0 : Option Addr} {a1 : Int} {a2 : Int} {w w' : World} {r0 : Int} (h : wheel_Wheel_Set a0 a1 a2 w = some (r0, w')) : Calls Try.prog 16 #[(.pointer a0), (.int .i64 a1), (.int .i64 a2)] w fun e w'' => e = .returned (.int .i64 r0) ∧ w'' = w' := by
  refine calls_dec (n := 41) Try.func16 rfl Try.ntmps16 (by simp) fun a ha => ?_
  unfold wheel_Wheel_Set at h
  refine wp_seq <| region_lit <| qa ha rfl fun a ha => s_nil <| t_n <| ?_
  obtain ⟨o4, e2, h3⟩ := bsX h
  clear h
  refine seq_joinF (n := 41) (ι := World) (Lf := fun i => [(0, (.pointer a0)), (1, (.int .i64 a1)), (2, (.int .i64 a2))]) (wf := fun i => i) (C := fun i => o4 = .inr i) (fun i hi a ha => ?_) (fun hk5 => ?_)
  · subst hi
    obtain ⟨w1, rfl⟩ : ∃ x, x = i := ⟨i, rfl⟩
    have h := h3
    dsimp only [bindX, u1, u2, u3, u4, u5, u6] at h
    have ha : Has 41 [(0, (.pointer a0)), (1, (.int .i64 a1)), (2, (.int .i64 a2))] a := ha
    refine wp_seq <| region_lit <| qm ha rfl fun a ha => qm ha rfl fun a ha => qm ha rfl fun a ha => ?_
    obtain ⟨p24, e25, h⟩ := bs1 h
    refine q ha (d_nilp ha rfl e25) fun a ha => q ha (d_fa ha rfl Try.runUnderlying95 rfl rfl Try.sizeOf28 (by decide)) fun a ha => ?_
    obtain ⟨p26, e27, h⟩ := bs1 h
    refine q ha (d_ixA ha rfl rfl Try.runUnderlying28 Try.sizeOf3 e27) fun a ha => ?_
    obtain ⟨w28, e29, h⟩ := bs1 h
    refine q ha (d_st ha rfl rfl Try.sizeOf3 e29) fun a ha => s_nil <| t_n <| wp_seq <| region_lit <| qm ha rfl fun a ha => qm ha rfl fun a ha => ?_
    obtain ⟨w30, e31, h⟩ := bs1 h
    refine q ha (d_call (xs := [_, _]) (vs := [(.pointer a0), (.int .i64 a1)]) ha ⟨rfl, rfl, trivial⟩ Try.call54 (wheel_Wheel_lay_ok e31)) fun a ha => s_nil <| t_n <| wp_seq <| region_lit <| qa ha rfl fun a ha => s_nil <| t_n <| wp_ret <| ?_
    have hS := ha
    cases h
    exact ret1 Try.results16 hS rfl ⟨rfl, rfl⟩
  · have h := e2
    refine wp_block <| wp_seq <| region_lit <| qm ha rfl fun a ha => q ha (d_eqN ha rfl rfl Try.runUnderlying24) fun a ha => qa ha rfl fun a ha => s_nil <| t_n <| ?_
    refine s_cond ha rfl h (fun b7 h => ?_) (fun b7 h => ?_)
    · refine wp_seq <| region_lit <| qa ha rfl fun a ha => s_nil <| t_n <| wp_ret <| b_r <| ?_
      have hS := ha
      obtain ⟨g6, e8, h⟩ := bs1 h
      cases h
      cases h3
      have h := e8
      have ha := hS
      refine t_r <| ?_
      have hS := ha
      cases h
      exact ret1 Try.results16 hS rfl ⟨rfl, rfl⟩
    · refine wp_seq <| ?_
      obtain ⟨v9, w10, e11, h⟩ := bs2 h
      refine reg_join (n := 41) (L := [(10, (.bool v9)), (0, (.pointer a0)), (1, (.int .i64 a1)), (2, (.int .i64 a2))]) (w' := w10) (fun a ha => ?_) (fun hk12 => ?_)
      · refine t_n <| ?_
        refine s_cond ha rfl h (fun b16 h => ?_) (fun b16 h => ?_)
        · refine wp_seq <| region_lit <| qa ha rfl fun a ha => s_nil <| t_n <| wp_ret <| b_r <| ?_
          have hS := ha
          obtain ⟨g6, e17, h⟩ := bs1 h
          cases h
          cases h3
          have h := e17
          have ha := hS
          refine t_r <| ?_
          have hS := ha
          cases h
          exact ret1 Try.results16 hS rfl ⟨rfl, rfl⟩
        · refine wp_seq <| region_lit <| qm ha rfl fun a ha => qm ha rfl fun a ha => ?_
          obtain ⟨v18, w19, e20, h⟩ := bs2 h
          refine q ha (d_call (xs := [_, _]) (vs := [(.pointer a0), (.int .i64 a1)]) ha ⟨rfl, rfl, trivial⟩ Try.call52 (wheel_Wheel_has_ok e20)) fun a ha => qa ha rfl fun a ha => s_nil <| t_n <| ?_
          refine s_cond ha rfl h (fun b21 h => ?_) (fun b21 h => ?_)
          · refine region_lit <| qm ha rfl fun a ha => qm ha rfl fun a ha => ?_
            obtain ⟨w22, e23, h⟩ := bs1 h
            refine q ha (d_call (xs := [_, _]) (vs := [(.pointer a0), (.int .i64 a1)]) ha ⟨rfl, rfl, trivial⟩ Try.call53 (wheel_Wheel_take_ok e23)) fun a ha => s_nil <| b_n <| ?_
            have hS : Has 41 [(0, (.pointer a0)), (1, (.int .i64 a1)), (2, (.int .i64 a2))] _ := ha.sub ⟨rfl, rfl, rfl, trivial⟩
            cases h
            exact hk5 _ rfl _ hS
          · refine wp_skip <| b_n <| ?_
            have hS : Has 41 [(0, (.pointer a0)), (1, (.int .i64 a1)), (2, (.int .i64 a2))] _ := ha.sub ⟨rfl, rfl, rfl, trivial⟩
            cases h
            exact hk5 _ rfl _ hS
      · clear h
        have h := e11
        refine region_lit <| qm ha rfl fun a ha => q ha (d_lt ha rfl rfl) fun a ha => qm ha rfl fun a ha => ?_
        refine ite_s h (fun b13 h => ?_) (fun b13 h => ?_)
        · refine qn ha 13 (tn b13) fun a ha => qn ha 13 (tn b13) fun a ha => q ha (d_pick_t ha rfl b13 rfl) fun a ha => qm ha rfl fun a ha => qn ha 17 (tn rfl) fun a ha => qn ha 17 (tn rfl) fun a ha => q ha (d_pick_t ha rfl rfl rfl) fun a ha => qm ha rfl fun a ha => qn ha 21 (tn rfl) fun a ha => qn ha 21 (tn rfl) fun a ha => q ha (d_pick_t ha rfl rfl rfl) fun a ha => qa ha rfl fun a ha => s_nil <| ?_
          have hS : Has 41 [(10, (.bool true)), (0, (.pointer a0)), (1, (.int .i64 a1)), (2, (.int .i64 a2))] _ := ha.sub ⟨rfl, rfl, rfl, rfl, trivial⟩
          cases h
          exact hk12 _ hS
        · refine qg ha 13 (nt b13) (d_move ha rfl) fun a ha => qg ha 13 (nt b13) (d_gt ha rfl rfl) fun a ha => q ha (d_pick_f ha rfl b13 rfl) fun a ha => qm ha rfl fun a ha => ?_
          refine ite_s h (fun b14 h => ?_) (fun b14 h => ?_)
          · refine qn ha 17 (tn b14) fun a ha => qn ha 17 (tn b14) fun a ha => q ha (d_pick_t ha rfl b14 rfl) fun a ha => qm ha rfl fun a ha => qn ha 21 (tn rfl) fun a ha => qn ha 21 (tn rfl) fun a ha => q ha (d_pick_t ha rfl rfl rfl) fun a ha => qa ha rfl fun a ha => s_nil <| ?_
            have hS : Has 41 [(10, (.bool true)), (0, (.pointer a0)), (1, (.int .i64 a1)), (2, (.int .i64 a2))] _ := ha.sub ⟨rfl, rfl, rfl, rfl, trivial⟩
            cases h
            exact hk12 _ hS
          · refine qg ha 17 (nt b14) (d_move ha rfl) fun a ha => qg ha 17 (nt b14) (d_lt ha rfl rfl) fun a ha => q ha (d_pick_f ha rfl b14 rfl) fun a ha => qm ha rfl fun a ha => ?_
            refine ite_s h (fun b15 h => ?_) (fun b15 h => ?_)
            · refine qn ha 21 (tn b15) fun a ha => qn ha 21 (tn b15) fun a ha => q ha (d_pick_t ha rfl b15 rfl) fun a ha => qa ha rfl fun a ha => s_nil <| ?_
              have hS : Has 41 [(10, (.bool true)), (0, (.pointer a0)), (1, (.int .i64 a1)), (2, (.int .i64 a2))] _ := ha.sub ⟨rfl, rfl, rfl, rfl, trivial⟩
              cases h
              exact hk12 _ hS
            · refine qg ha 21 (nt b15) (d_move ha rfl) fun a ha => qg ha 21 (nt b15) (d_gt ha rfl rfl) fun a ha => q ha (d_pick_f ha rfl b15 rfl) fun a ha => qa ha rfl fun a ha => s_nil <| ?_
              have hS : Has 41 [(10, (.bool (decide (1099511627776 < a2)))), (0, (.pointer a0)), (1, (.int .i64 a1)), (2, (.int .i64 a2))] _ := ha.sub ⟨rfl, rfl, rfl, rfl, trivial⟩
              cases h
              exact hk12 _ hS

noncomputable def wheel_Wheel_Drop (a0 : Option Addr) (a1 : Int) (w : World) : Option (Int × World) :=
  if (a0.isNone) = true then
  (some (1, w))
  else
  (bind2 (wheel_Wheel_has a0 a1 w) fun v2 w3 =>
  if (!v2) = true then
  (some (8, w3))
  else
  ((wheel_Wheel_take a0 a1 w3).bind fun w6 =>
  some (0, w6)))
set_option maxHeartbeats 1000000 in
set_option maxRecDepth 100000 in
theorem wheel_Wheel_Drop_ok {a0 : Option Addr} {a1 : Int} {w w' : World} {r0 : Int} (h : wheel_Wheel_Drop a0 a1 w = some (r0, w')) : Calls Try.prog 17 #[(.pointer a0), (.int .i64 a1)] w fun e w'' => e = .returned (.int .i64 r0) ∧ w'' = w' := by
  refine calls_dec (n := 16) Try.func17 rfl Try.ntmps17 (by simp) fun a ha => ?_
  unfold wheel_Wheel_Drop at h
  refine wp_seq <| region_lit <| qa ha rfl fun a ha => s_nil <| t_n <| wp_seq <| wp_block <| wp_seq <| region_lit <| qm ha rfl fun a ha => q ha (d_eqN ha rfl rfl Try.runUnderlying24) fun a ha => qa ha rfl fun a ha => s_nil <| t_n <| ?_
  refine s_cond ha rfl h (fun b1 h => ?_) (fun b1 h => ?_)
  · refine wp_seq <| region_lit <| qa ha rfl fun a ha => s_nil <| t_n <| wp_ret <| b_r <| t_r <| ?_
    have hS := ha
    cases h
    exact ret1 Try.results17 hS rfl ⟨rfl, rfl⟩
  · refine wp_seq <| region_lit <| qm ha rfl fun a ha => qm ha rfl fun a ha => ?_
    obtain ⟨v2, w3, e4, h⟩ := bs2 h
    refine q ha (d_call (xs := [_, _]) (vs := [(.pointer a0), (.int .i64 a1)]) ha ⟨rfl, rfl, trivial⟩ Try.call52 (wheel_Wheel_has_ok e4)) fun a ha => q ha (d_not ha rfl) fun a ha => qa ha rfl fun a ha => s_nil <| t_n <| ?_
    refine s_cond ha rfl h (fun b5 h => ?_) (fun b5 h => ?_)
    · refine wp_seq <| region_lit <| qa ha rfl fun a ha => s_nil <| t_n <| wp_ret <| b_r <| t_r <| ?_
      have hS := ha
      cases h
      exact ret1 Try.results17 hS rfl ⟨rfl, rfl⟩
    · refine wp_skip <| b_n <| t_n <| wp_seq <| region_lit <| qm ha rfl fun a ha => qm ha rfl fun a ha => ?_
      obtain ⟨w6, e7, h⟩ := bs1 h
      refine q ha (d_call (xs := [_, _]) (vs := [(.pointer a0), (.int .i64 a1)]) ha ⟨rfl, rfl, trivial⟩ Try.call53 (wheel_Wheel_take_ok e7)) fun a ha => s_nil <| t_n <| wp_seq <| region_lit <| qa ha rfl fun a ha => s_nil <| t_n <| wp_ret <| ?_
      have hS := ha
      cases h
      exact ret1 Try.results17 hS rfl ⟨rfl, rfl⟩

noncomputable def wheel_Wheel_Advance_l2 (v37 : Sl) (p1 : Addr) (a1 : Int) (x39 : Sl) (x40 : Sl) (x41 : Int) (w42 : World) : ND ((Sl × Sl × Int × World) ⊕ (Sl × Sl × World)) :=
  if (decide (x41 < (v37.n : Int))) = true then
  (cb3 (lb1 (ix v37 x41 1) fun p56 =>
  lb1 (ldI .i64 w42 p56) fun v58 =>
  lb1 (ldP w42 p1) fun v60 =>
  lb1 (v60) fun p62 =>
  lb1 (ixA (p62.add 1) v58 65 1) fun p64 =>
  lb1 (ldI .i64 w42 p64) fun v66 =>
  if (decide (v66 ≤ a1)) = true then
  (lb2 (bsl w42 3 1 [[(.int .i64 v58)]]) fun s69 w70 =>
  lb2 (apS Try.prog 34 x39 s69 w70) fun s72 w73 =>
  lb1 (ldP w73 p1) fun v75 =>
  lb1 (v75) fun p77 =>
  lb1 (ixA (p77.add 66) v58 65 1) fun p79 =>
  lb1 (stV w73 p79 (.int .i64 0)) fun w81 =>
  nret (s72, x40, w81))
  else
  (lb2 (bsl w42 3 1 [[(.int .i64 v58)]]) fun s83 w84 =>
  lb2 (apS Try.prog 34 x40 s83 w84) fun s86 w87 =>
  nret (x39, s86, w87))) fun v51 v52 w53 =>
  nret (.inl (v51, v52, (IntKind.wrap .i64 (x41 + 1)), w53)))
  else
  (nret (.inr (x39, x40, w42)))
noncomputable def wheel_Wheel_Advance_l1 (p1 : Addr) (a1 : Int) (x19 : Sl) (x20 : Sl) (x21 : Int) (w22 : World) : ND ((Sl × Sl × Int × World) ⊕ (Sl × Sl × World)) :=
  if (decide (x21 < 43)) = true then
  (lb1 (ldP w22 p1) fun v31 =>
  lb1 (v31) fun p33 =>
  lb1 (ixA (p33.add 131) x21 43 1) fun p35 =>
  lb1 (ldL w22 p35) fun v37 =>
  cb3 (nloop (fun s : Sl × Sl × Int × World => wheel_Wheel_Advance_l2 v37 p1 a1 s.1 s.2.1 s.2.2.1 s.2.2.2) (x19, x20, 0, w22)) fun v45 v46 w47 =>
  lb1 (ldP w47 p1) fun v89 =>
  lb1 (v89) fun p91 =>
  lb1 (ixA (p91.add 131) x21 43 1) fun p93 =>
  lb1 (stV w47 p93 (Sl.v Sl.nil)) fun w95 =>
  nret (.inl (v45, v46, (IntKind.wrap .i64 (x21 + 1)), w95)))
  else
  (nret (.inr (x19, x20, w22)))
noncomputable def wheel_Wheel_Advance_l3 (v26 : Sl) (p1 : Addr) (x104 : Int) (w105 : World) : ND ((Int × World) ⊕ (World)) :=
  if (decide (x104 < (v26.n : Int))) = true then
  (lb1 (ix v26 x104 1) fun p112 =>
  lb1 (ldI .i64 w105 p112) fun v114 =>
  lb1 (ldP w105 p1) fun v116 =>
  lb1 (wheel_Wheel_lay v116 v114 w105) fun w118 =>
  nret (.inl ((IntKind.wrap .i64 (x104 + 1)), w118)))
  else
  (nret (.inr w105))
noncomputable def wheel_Wheel_Advance (a0 : Option Addr) (a1 : Int) (w : World) : ND (Sl × Int × World) :=
  lb2 (mk w 24 ([(.pointer a0)])) fun p1 w2 =>
  lb1 (ldP w2 p1) fun v4 =>
  if (v4.isNone) = true then
  (nret (Sl.nil, 1, w2))
  else
  (cb2 (lb1 (ldP w2 p1) fun v11 =>
  lb1 (v11) fun p13 =>
  lb1 (ldI .i64 w2 (p13.add 0)) fun v15 =>
  if (decide (a1 < v15)) = true then
  (nret (true, w2))
  else
  (nret ((decide (1099511627776 < a1)), w2))) fun v7 w8 =>
  if v7 = true then
  (nret (Sl.nil, 2, w8))
  else
  (cb3 (nloop (fun s : Sl × Sl × Int × World => wheel_Wheel_Advance_l1 p1 a1 s.1 s.2.1 s.2.2.1 s.2.2.2) (Sl.nil, Sl.nil, 0, w8)) fun v25 v26 w27 =>
  lb1 (ldP w27 p1) fun v98 =>
  lb1 (v98) fun p100 =>
  lb1 (stV w27 (p100.add 0) (.int .i64 a1)) fun w102 =>
  cb1 (nloop (fun s : Int × World => wheel_Wheel_Advance_l3 v26 p1 s.1 s.2) (0, w102)) fun w108 =>
  cb1 (sortDue v25 p1 w108) fun w120 =>
  nret (v25, 0, w120)))
set_option maxHeartbeats 1000000 in
set_option maxRecDepth 100000 in
theorem wheel_Wheel_Advance_ok {a0 : Option Addr} {a1 : Int} {w : World} {Q : Sl × Int × World → Prop} (h : (wheel_Wheel_Advance a0 a1 w).t Q) : Calls Try.prog 18 #[(.pointer a0), (.int .i64 a1)] w fun e w'' => ∃ i, e = .returned (.tuple #[(Sl.v i.1), (.int .i64 i.2.1)]) ∧ Q i ∧ w'' = i.2.2 := by
  refine calls_dec (n := 87) Try.func18 rfl Try.ntmps18 (by simp) fun a ha => ?_
  unfold wheel_Wheel_Advance at h
  refine wp_seq <| region_lit <| ?_
  obtain ⟨p1, w2, e3, h⟩ := h
  refine q ha (d_box ha rfl rfl e3) fun a ha => qa ha rfl fun a ha => qa ha rfl fun a ha => s_nil <| t_n <| wp_seq <| wp_block <| wp_seq <| region_lit <| ?_
  obtain ⟨v4, e5, h⟩ := h
  refine q ha (d_ld ha rfl Try.isAgg24 (ldP_c e5)) fun a ha => q ha (d_eqN ha rfl rfl Try.runUnderlying24) fun a ha => qa ha rfl fun a ha => s_nil <| t_n <| ?_
  refine s_condN ha rfl h (fun b6 h => ?_) (fun b6 h => ?_)
  · refine wp_seq <| region_lit <| qa ha rfl fun a ha => qa ha rfl fun a ha => s_nil <| t_n <| wp_ret <| b_r <| t_r <| ?_
    have hS := ha
    exact ret2 Try.results18 hS rfl rfl ⟨(Sl.nil, 1, w2), rfl, h, rfl⟩
  · refine wp_seq <| ?_
    refine reg_joinN (n := 87) (ι := Bool × World) (Lf := fun i => [(16, (.bool i.1)), (1, (.int .i64 a1)), (2, (.pointer (some p1)))]) (wf := fun i => i.2) (un2 h) (fun i h a ha => ?_) (fun h hk10 => ?_)
    · obtain ⟨v7, w8⟩ := i
      have ha : Has 87 [(16, (.bool v7)), (1, (.int .i64 a1)), (2, (.pointer (some p1)))] a := ha
      refine t_n <| ?_
      refine s_condN ha rfl h (fun b18 h => ?_) (fun b18 h => ?_)
      · refine wp_seq <| region_lit <| qa ha rfl fun a ha => qa ha rfl fun a ha => s_nil <| t_n <| wp_ret <| b_r <| t_r <| ?_
        have hS := ha
        exact ret2 Try.results18 hS rfl rfl ⟨(Sl.nil, 2, w8), rfl, h, rfl⟩
      · refine wp_skip <| b_n <| t_n <| wp_seq <| region_lit <| qa ha rfl fun a ha => qa ha rfl fun a ha => s_nil <| t_n <| wp_seq <| wp_seq <| region_lit <| qm ha rfl fun a ha => s_nil <| t_n <| wp_block <| ?_
        refine s_loopN1 (n := 87) (Lr := fun i => [(6, (Sl.v i.1)), (7, (Sl.v i.2.1)), (1, (.int .i64 a1)), (2, (.pointer (some p1)))]) (wr := fun i => i.2.2) (e := .exit 1) (I := fun (s : Sl × Sl × Int × World) a w => Has 87 [(6, (Sl.v s.1)), (7, (Sl.v s.2.1)), (27, (.int .i64 s.2.2.1)), (1, (.int .i64 a1)), (2, (.pointer (some p1)))] a ∧ w = s.2.2.2) (un3 h) ⟨ha.sub ⟨rfl, rfl, rfl, rfl, rfl, trivial⟩, rfl⟩ (fun i h a ha => ?_) (fun hk28 => ?_)
        · obtain ⟨v25, v26, w27⟩ := i
          have ha : Has 87 [(6, (Sl.v v25)), (7, (Sl.v v26)), (1, (.int .i64 a1)), (2, (.pointer (some p1)))] a := ha
          refine b_hit <| t_n <| wp_seq <| region_lit <| ?_
          obtain ⟨v98, e99, h⟩ := h
          refine q ha (d_ld ha rfl Try.isAgg24 (ldP_c e99)) fun a ha => qm ha rfl fun a ha => ?_
          obtain ⟨p100, e101, h⟩ := h
          refine q ha (d_nilp ha rfl e101) fun a ha => q ha (d_fa ha rfl Try.runUnderlying95 rfl rfl Try.sizeOf3 (by decide)) fun a ha => ?_
          obtain ⟨w102, e103, h⟩ := h
          refine q ha (d_st ha rfl rfl Try.sizeOf3 e103) fun a ha => s_nil <| t_n <| wp_seq <| wp_seq <| region_lit <| qm ha rfl fun a ha => q ha (d_lenS ha rfl Try.runUnderlying34) fun a ha => qm ha rfl fun a ha => s_nil <| t_n <| wp_block <| ?_
          refine s_loopN1 (n := 87) (Lr := fun i => [(2, (.pointer (some p1))), (6, (Sl.v v25))]) (wr := fun i => i) (e := .exit 5) (I := fun (s : Int × World) a w => Has 87 [(75, (.int .i64 s.1)), (2, (.pointer (some p1))), (6, (Sl.v v25)), (73, (Sl.v v26)), (74, (.int .i64 (v26.n : Int)))] a ∧ w = s.2) (un1 h) ⟨ha.sub ⟨rfl, rfl, rfl, rfl, rfl, trivial⟩, rfl⟩ (fun i h a ha => ?_) (fun hk109 => ?_)
          · obtain ⟨w108, rfl⟩ : ∃ x, x = i := ⟨i, rfl⟩
            have ha : Has 87 [(2, (.pointer (some p1))), (6, (Sl.v v25))] a := ha
            refine b_hit <| t_n <| wp_seq <| region_lit <| qm ha rfl fun a ha => q ha (d_mkF (vs := [(.pointer (some p1))]) ha ⟨rfl, trivial⟩) fun a ha => ?_
            refine s_callN (ι := World) (pk := fun i => (.tuple #[])) (wf := fun i => i) (xs := [_, _]) (vs := [(Sl.v v25), (.func (.func 56) #[] #[(.pointer (some p1))])]) ha ⟨rfl, rfl, trivial⟩ Try.call55 (sortDue_ok (un1 h)) (fun i h a ha => ?_)
            obtain ⟨w120, rfl⟩ : ∃ x, x = i := ⟨i, rfl⟩
            refine s_nil <| t_n <| wp_seq <| region_lit <| qm ha rfl fun a ha => qa ha rfl fun a ha => qa ha rfl fun a ha => s_nil <| t_n <| wp_ret <| ?_
            have hS := ha
            exact ret2 Try.results18 hS rfl rfl ⟨(v25, 0, w120), rfl, h, rfl⟩
          · clear h
            intro hX122
            rintro ⟨x104, w105⟩ a wq ⟨ha, hwq⟩ h
            obtain rfl : w105 = wq := hwq.symm
            have ha : Has 87 [(75, (.int .i64 x104)), (2, (.pointer (some p1))), (6, (Sl.v v25)), (73, (Sl.v v26)), (74, (.int .i64 (v26.n : Int)))] a := ha
            have h : (wheel_Wheel_Advance_l3 v26 p1 x104 w105).t _ := h
            unfold wheel_Wheel_Advance_l3 at h
            refine wp_seq <| region_lit <| q ha (d_lt ha rfl rfl) fun a ha => s_nil <| t_n <| wp_seq <| ?_
            refine s_condN ha rfl h (fun b111 h => ?_) (fun b111 h => ?_)
            · refine wp_skip <| t_n <| wp_seq <| wp_block <| wp_seq <| region_lit <| ?_
              obtain ⟨p112, e113, h⟩ := h
              refine q ha (d_ix ha rfl rfl Try.runUnderlying34 Try.sizeOf3 e113) fun a ha => ?_
              obtain ⟨v114, e115, h⟩ := h
              refine q ha (d_ld ha rfl Try.isAgg3 (ldI_c e115)) fun a ha => qa ha rfl fun a ha => s_nil <| t_n <| region_lit <| ?_
              obtain ⟨v116, e117, h⟩ := h
              refine q ha (d_ld ha rfl Try.isAgg24 (ldP_c e117)) fun a ha => qm ha rfl fun a ha => ?_
              obtain ⟨w118, e119, h⟩ := h
              refine q ha (d_call (xs := [_, _]) (vs := [(.pointer v116), (.int .i64 v114)]) ha ⟨rfl, rfl, trivial⟩ Try.call54 (wheel_Wheel_lay_ok e119)) fun a ha => s_nil <| b_n <| t_n <| region_lit <| q ha (d_add ha rfl rfl) fun a ha => qm ha rfl fun a ha => s_nil <| ?_
              have hS : Has 87 [(75, (.int .i64 (IntKind.wrap .i64 (x104 + 1)))), (2, (.pointer (some p1))), (6, (Sl.v v25)), (73, (Sl.v v26)), (74, (.int .i64 (v26.n : Int)))] _ := ha.sub ⟨rfl, rfl, rfl, rfl, rfl, trivial⟩
              exact ⟨((IntKind.wrap .i64 (x104 + 1)), w118), ⟨hS, rfl⟩, h⟩
            · refine wp_exit <| t_x <| ?_
              have hS : Has 87 [(2, (.pointer (some p1))), (6, (Sl.v v25))] _ := ha.sub ⟨rfl, rfl, trivial⟩
              refine t_x <| ?_
              exact hk109 w105 h _ hS
        · clear h
          intro hX123
          rintro ⟨x19, x20, x21, w22⟩ a wq ⟨ha, hwq⟩ h
          obtain rfl : w22 = wq := hwq.symm
          have ha : Has 87 [(6, (Sl.v x19)), (7, (Sl.v x20)), (27, (.int .i64 x21)), (1, (.int .i64 a1)), (2, (.pointer (some p1)))] a := ha
          have h : (wheel_Wheel_Advance_l1 p1 a1 x19 x20 x21 w22).t _ := h
          unfold wheel_Wheel_Advance_l1 at h
          refine wp_seq <| region_lit <| q ha (d_lt ha rfl rfl) fun a ha => s_nil <| t_n <| wp_seq <| ?_
          refine s_condN ha rfl h (fun b30 h => ?_) (fun b30 h => ?_)
          · refine wp_skip <| t_n <| wp_seq <| wp_block <| wp_seq <| region_lit <| qm ha rfl fun a ha => qa ha rfl fun a ha => s_nil <| t_n <| wp_scope_straight <| wp_seq <| wp_label <| t_n <| wp_seq <| wp_seq <| region_lit <| ?_
            obtain ⟨v31, e32, h⟩ := h
            refine q ha (d_ld ha rfl Try.isAgg24 (ldP_c e32)) fun a ha => qm ha rfl fun a ha => ?_
            obtain ⟨p33, e34, h⟩ := h
            refine q ha (d_nilp ha rfl e34) fun a ha => q ha (d_fa ha rfl Try.runUnderlying95 rfl rfl Try.sizeOf93 (by decide)) fun a ha => ?_
            obtain ⟨p35, e36, h⟩ := h
            refine q ha (d_ixA ha rfl rfl Try.runUnderlying93 Try.sizeOf34 e36) fun a ha => ?_
            obtain ⟨v37, e38, h⟩ := h
            refine q ha (d_ld ha rfl Try.isAgg34 (ldL_c e38)) fun a ha => q ha (d_lenS ha rfl Try.runUnderlying34) fun a ha => qm ha rfl fun a ha => s_nil <| t_n <| wp_block <| ?_
            refine s_loopN1 (n := 87) (Lr := fun i => [(6, (Sl.v i.1)), (7, (Sl.v i.2.1)), (1, (.int .i64 a1)), (2, (.pointer (some p1))), (8, (.int .i64 x21)), (27, (.int .i64 x21))]) (wr := fun i => i.2.2) (e := .exit 3) (I := fun (s : Sl × Sl × Int × World) a w => Has 87 [(6, (Sl.v s.1)), (7, (Sl.v s.2.1)), (37, (.int .i64 s.2.2.1)), (1, (.int .i64 a1)), (2, (.pointer (some p1))), (8, (.int .i64 x21)), (27, (.int .i64 x21)), (35, (Sl.v v37)), (36, (.int .i64 (v37.n : Int)))] a ∧ w = s.2.2.2) (un3 h) ⟨ha.sub ⟨rfl, rfl, rfl, rfl, rfl, rfl, rfl, rfl, rfl, trivial⟩, rfl⟩ (fun i h a ha => ?_) (fun hk48 => ?_)
            · obtain ⟨v45, v46, w47⟩ := i
              have ha : Has 87 [(6, (Sl.v v45)), (7, (Sl.v v46)), (1, (.int .i64 a1)), (2, (.pointer (some p1))), (8, (.int .i64 x21)), (27, (.int .i64 x21))] a := ha
              refine b_hit <| t_n <| region_lit <| ?_
              obtain ⟨v89, e90, h⟩ := h
              refine q ha (d_ld ha rfl Try.isAgg24 (ldP_c e90)) fun a ha => qm ha rfl fun a ha => ?_
              obtain ⟨p91, e92, h⟩ := h
              refine q ha (d_nilp ha rfl e92) fun a ha => q ha (d_fa ha rfl Try.runUnderlying95 rfl rfl Try.sizeOf93 (by decide)) fun a ha => ?_
              obtain ⟨p93, e94, h⟩ := h
              refine q ha (d_ixA ha rfl rfl Try.runUnderlying93 Try.sizeOf34 e94) fun a ha => ?_
              obtain ⟨w95, e96, h⟩ := h
              refine q ha (d_st ha rfl rfl Try.sizeOf34 e96) fun a ha => s_nil <| sc_n <| b_n <| t_n <| region_lit <| q ha (d_add ha rfl rfl) fun a ha => qm ha rfl fun a ha => s_nil <| ?_
              have hS : Has 87 [(6, (Sl.v v45)), (7, (Sl.v v46)), (27, (.int .i64 (IntKind.wrap .i64 (x21 + 1)))), (1, (.int .i64 a1)), (2, (.pointer (some p1)))] _ := ha.sub ⟨rfl, rfl, rfl, rfl, rfl, trivial⟩
              exact ⟨(v45, v46, (IntKind.wrap .i64 (x21 + 1)), w95), ⟨hS, rfl⟩, h⟩
            · clear h
              intro hX97
              rintro ⟨x39, x40, x41, w42⟩ a wq ⟨ha, hwq⟩ h
              obtain rfl : w42 = wq := hwq.symm
              have ha : Has 87 [(6, (Sl.v x39)), (7, (Sl.v x40)), (37, (.int .i64 x41)), (1, (.int .i64 a1)), (2, (.pointer (some p1))), (8, (.int .i64 x21)), (27, (.int .i64 x21)), (35, (Sl.v v37)), (36, (.int .i64 (v37.n : Int)))] a := ha
              have h : (wheel_Wheel_Advance_l2 v37 p1 a1 x39 x40 x41 w42).t _ := h
              unfold wheel_Wheel_Advance_l2 at h
              refine wp_seq <| region_lit <| q ha (d_lt ha rfl rfl) fun a ha => s_nil <| t_n <| wp_seq <| ?_
              refine s_condN ha rfl h (fun b50 h => ?_) (fun b50 h => ?_)
              · refine wp_skip <| t_n <| ?_
                refine seq_joinN (n := 87) (ι := Sl × Sl × World) (Lf := fun i => [(6, (Sl.v i.1)), (7, (Sl.v i.2.1)), (1, (.int .i64 a1)), (2, (.pointer (some p1))), (8, (.int .i64 x21)), (27, (.int .i64 x21)), (35, (Sl.v v37)), (36, (.int .i64 (v37.n : Int))), (37, (.int .i64 x41))]) (wf := fun i => i.2.2) (un3 h) (fun i h a ha => ?_) (fun h hk55 => ?_)
                · obtain ⟨v51, v52, w53⟩ := i
                  have ha : Has 87 [(6, (Sl.v v51)), (7, (Sl.v v52)), (1, (.int .i64 a1)), (2, (.pointer (some p1))), (8, (.int .i64 x21)), (27, (.int .i64 x21)), (35, (Sl.v v37)), (36, (.int .i64 (v37.n : Int))), (37, (.int .i64 x41))] a := ha
                  refine region_lit <| q ha (d_add ha rfl rfl) fun a ha => qm ha rfl fun a ha => s_nil <| ?_
                  have hS : Has 87 [(6, (Sl.v v51)), (7, (Sl.v v52)), (37, (.int .i64 (IntKind.wrap .i64 (x41 + 1)))), (1, (.int .i64 a1)), (2, (.pointer (some p1))), (8, (.int .i64 x21)), (27, (.int .i64 x21)), (35, (Sl.v v37)), (36, (.int .i64 (v37.n : Int)))] _ := ha.sub ⟨rfl, rfl, rfl, rfl, rfl, rfl, rfl, rfl, rfl, trivial⟩
                  exact ⟨(v51, v52, (IntKind.wrap .i64 (x41 + 1)), w53), ⟨hS, rfl⟩, h⟩
                · refine wp_block <| wp_seq <| region_lit <| ?_
                  obtain ⟨p56, e57, h⟩ := h
                  refine q ha (d_ix ha rfl rfl Try.runUnderlying34 Try.sizeOf3 e57) fun a ha => ?_
                  obtain ⟨v58, e59, h⟩ := h
                  refine q ha (d_ld ha rfl Try.isAgg3 (ldI_c e59)) fun a ha => qa ha rfl fun a ha => s_nil <| t_n <| wp_seq <| wp_seq <| region_lit <| ?_
                  obtain ⟨v60, e61, h⟩ := h
                  refine q ha (d_ld ha rfl Try.isAgg24 (ldP_c e61)) fun a ha => qm ha rfl fun a ha => ?_
                  obtain ⟨p62, e63, h⟩ := h
                  refine q ha (d_nilp ha rfl e63) fun a ha => q ha (d_fa ha rfl Try.runUnderlying95 rfl rfl Try.sizeOf28 (by decide)) fun a ha => ?_
                  obtain ⟨p64, e65, h⟩ := h
                  refine q ha (d_ixA ha rfl rfl Try.runUnderlying28 Try.sizeOf3 e65) fun a ha => ?_
                  obtain ⟨v66, e67, h⟩ := h
                  refine q ha (d_ld ha rfl Try.isAgg3 (ldI_c e67)) fun a ha => qm ha rfl fun a ha => q ha (d_le ha rfl rfl) fun a ha => s_nil <| t_n <| ?_
                  refine s_condN ha rfl h (fun b68 h => ?_) (fun b68 h => ?_)
                  · refine wp_seq <| region_lit <| qm ha rfl fun a ha => qm ha rfl fun a ha => ?_
                    obtain ⟨s69, w70, e71, h⟩ := h
                    refine q ha (d_bsl (vs := [(0, (.int .i64 v58))]) (ps := [[(.int .i64 v58)]]) ha ⟨rfl, rfl, trivial⟩ ⟨rfl, rfl, trivial⟩ rfl Try.runUnderlying34 Try.sizeOf3 Try.zeroValue3 (by decide) e71) fun a ha => ?_
                    obtain ⟨s72, w73, e74, h⟩ := h
                    refine q ha (d_apS ha rfl rfl e74) fun a ha => qa ha rfl fun a ha => s_nil <| t_n <| wp_seq <| region_lit <| ?_
                    obtain ⟨v75, e76, h⟩ := h
                    refine q ha (d_ld ha rfl Try.isAgg24 (ldP_c e76)) fun a ha => qm ha rfl fun a ha => ?_
                    obtain ⟨p77, e78, h⟩ := h
                    refine q ha (d_nilp ha rfl e78) fun a ha => q ha (d_fa ha rfl Try.runUnderlying95 rfl rfl Try.sizeOf28 (by decide)) fun a ha => ?_
                    obtain ⟨p79, e80, h⟩ := h
                    refine q ha (d_ixA ha rfl rfl Try.runUnderlying28 Try.sizeOf3 e80) fun a ha => ?_
                    obtain ⟨w81, e82, h⟩ := h
                    refine q ha (d_st ha rfl rfl Try.sizeOf3 e82) fun a ha => s_nil <| t_n <| wp_exit <| t_x <| b_hit <| ?_
                    have hS : Has 87 [(6, (Sl.v s72)), (7, (Sl.v x40)), (1, (.int .i64 a1)), (2, (.pointer (some p1))), (8, (.int .i64 x21)), (27, (.int .i64 x21)), (35, (Sl.v v37)), (36, (.int .i64 (v37.n : Int))), (37, (.int .i64 x41))] _ := ha.sub ⟨rfl, rfl, rfl, rfl, rfl, rfl, rfl, rfl, rfl, trivial⟩
                    exact hk55 (s72, x40, w81) h _ hS
                  · refine wp_skip <| t_n <| region_lit <| qm ha rfl fun a ha => qm ha rfl fun a ha => ?_
                    obtain ⟨s83, w84, e85, h⟩ := h
                    refine q ha (d_bsl (vs := [(0, (.int .i64 v58))]) (ps := [[(.int .i64 v58)]]) ha ⟨rfl, rfl, trivial⟩ ⟨rfl, rfl, trivial⟩ rfl Try.runUnderlying34 Try.sizeOf3 Try.zeroValue3 (by decide) e85) fun a ha => ?_
                    obtain ⟨s86, w87, e88, h⟩ := h
                    refine q ha (d_apS ha rfl rfl e88) fun a ha => qa ha rfl fun a ha => s_nil <| b_n <| ?_
                    have hS : Has 87 [(6, (Sl.v x39)), (7, (Sl.v s86)), (1, (.int .i64 a1)), (2, (.pointer (some p1))), (8, (.int .i64 x21)), (27, (.int .i64 x21)), (35, (Sl.v v37)), (36, (.int .i64 (v37.n : Int))), (37, (.int .i64 x41))] _ := ha.sub ⟨rfl, rfl, rfl, rfl, rfl, rfl, rfl, rfl, rfl, trivial⟩
                    exact hk55 (x39, s86, w87) h _ hS
              · refine wp_exit <| t_x <| ?_
                have hS : Has 87 [(6, (Sl.v x39)), (7, (Sl.v x40)), (1, (.int .i64 a1)), (2, (.pointer (some p1))), (8, (.int .i64 x21)), (27, (.int .i64 x21))] _ := ha.sub ⟨rfl, rfl, rfl, rfl, rfl, rfl, trivial⟩
                refine t_x <| ?_
                exact hk48 (x39, x40, w42) h _ hS
          · refine wp_exit <| t_x <| ?_
            have hS : Has 87 [(6, (Sl.v x19)), (7, (Sl.v x20)), (1, (.int .i64 a1)), (2, (.pointer (some p1)))] _ := ha.sub ⟨rfl, rfl, rfl, rfl, trivial⟩
            refine t_x <| ?_
            exact hk28 (x19, x20, w22) h _ hS
    · refine region_lit <| qm ha rfl fun a ha => ?_
      obtain ⟨v11, e12, h⟩ := h
      refine q ha (d_ld ha rfl Try.isAgg24 (ldP_c e12)) fun a ha => ?_
      obtain ⟨p13, e14, h⟩ := h
      refine q ha (d_nilp ha rfl e14) fun a ha => q ha (d_fa ha rfl Try.runUnderlying95 rfl rfl Try.sizeOf3 (by decide)) fun a ha => ?_
      obtain ⟨v15, e16, h⟩ := h
      refine q ha (d_ld ha rfl Try.isAgg3 (ldI_c e16)) fun a ha => q ha (d_lt ha rfl rfl) fun a ha => qm ha rfl fun a ha => ?_
      refine ite_n h (fun b17 h => ?_) (fun b17 h => ?_)
      · refine qn ha 23 (tn b17) fun a ha => qn ha 23 (tn b17) fun a ha => q ha (d_pick_t ha rfl b17 rfl) fun a ha => qa ha rfl fun a ha => s_nil <| ?_
        have hS : Has 87 [(16, (.bool true)), (1, (.int .i64 a1)), (2, (.pointer (some p1)))] _ := ha.sub ⟨rfl, rfl, rfl, trivial⟩
        exact hk10 (true, w2) h _ hS
      · refine qg ha 23 (nt b17) (d_move ha rfl) fun a ha => qg ha 23 (nt b17) (d_gt ha rfl rfl) fun a ha => q ha (d_pick_f ha rfl b17 rfl) fun a ha => qa ha rfl fun a ha => s_nil <| ?_
        have hS : Has 87 [(16, (.bool (decide (1099511627776 < a1)))), (1, (.int .i64 a1)), (2, (.pointer (some p1)))] _ := ha.sub ⟨rfl, rfl, rfl, trivial⟩
        exact hk10 ((decide (1099511627776 < a1)), w2) h _ hS

noncomputable def wheel_Wheel_Ids_l1 (a0 : Option Addr) (x1 : Sl) (x2 : Int) (w3 : World) : Option ((Sl × Int × World) ⊕ (Sl × World)) :=
  if (decide (x2 ≤ 64)) = true then
  (bind2 (bind2 (wheel_Wheel_has a0 x2 w3) fun v15 w16 =>
  if v15 = true then
  (bind2 (bsl w16 3 1 [[(.int .i64 x2)]]) fun s19 w20 =>
  bind2 (apS Try.prog 34 x1 s19 w20) fun s22 w23 =>
  some (s22, w23))
  else
  (some (x1, w16))) fun v11 w12 =>
  some (.inl (v11, (IntKind.wrap .i64 (x2 + 1)), w12)))
  else
  (some (.inr (x1, w3)))
noncomputable def wheel_Wheel_Ids (a0 : Option Addr) (w : World) : Option (Sl × World) :=
  bind2 (loopF (fun s : Sl × Int × World => wheel_Wheel_Ids_l1 a0 s.1 s.2.1 s.2.2) (Sl.nil, 1, w)) fun v6 w7 =>
  some (v6, w7)
set_option maxHeartbeats 1000000 in
set_option maxRecDepth 100000 in
theorem wheel_Wheel_Ids_ok {a0 : Option Addr} {w w' : World} {r0 : Sl} (h : wheel_Wheel_Ids a0 w = some (r0, w')) : Calls Try.prog 20 #[(.pointer a0)] w fun e w'' => e = .returned (Sl.v r0) ∧ w'' = w' := by
  refine calls_dec (n := 17) Try.func20 rfl Try.ntmps20 (by simp) fun a ha => ?_
  unfold wheel_Wheel_Ids at h
  refine wp_seq <| region_lit <| qa ha rfl fun a ha => s_nil <| t_n <| wp_seq <| region_lit <| qa ha rfl fun a ha => s_nil <| t_n <| wp_seq <| wp_seq <| region_lit <| qa ha rfl fun a ha => s_nil <| t_n <| wp_block <| ?_
  obtain ⟨v6, w7, e5, h⟩ := bs2 h
  refine s_loop1 (n := 17) (L := [(3, (Sl.v v6))]) (w' := w7) (e := .exit 0) (I := fun (s : Sl × Int × World) a w => Has 17 [(3, (Sl.v s.1)), (4, (.int .i64 s.2.1)), (0, (.pointer a0))] a ∧ w = s.2.2) ⟨ha.sub ⟨rfl, rfl, rfl, trivial⟩, rfl⟩ e5 (fun a ha => ?_) (fun hk8 => ?_)
  · refine b_hit <| t_n <| wp_seq <| region_lit <| qm ha rfl fun a ha => qa ha rfl fun a ha => s_nil <| t_n <| wp_ret <| ?_
    have hS := ha
    cases h
    exact ret1 Try.results20 hS rfl ⟨rfl, rfl⟩
  · clear h
    rintro ⟨x1, x2, w3⟩ a wq o ⟨ha, hwq⟩ h hr9
    obtain rfl : w3 = wq := hwq.symm
    have ha : Has 17 [(3, (Sl.v x1)), (4, (.int .i64 x2)), (0, (.pointer a0))] a := ha
    have h : wheel_Wheel_Ids_l1 a0 x1 x2 w3 = some o := h
    unfold wheel_Wheel_Ids_l1 at h
    refine wp_seq <| wp_seq <| region_lit <| qm ha rfl fun a ha => q ha (d_le ha rfl rfl) fun a ha => s_nil <| t_n <| ?_
    refine s_cond ha rfl h (fun b10 h => ?_) (fun b10 h => ?_)
    · refine wp_skip <| t_n <| ?_
      obtain ⟨v11, w12, e13, h⟩ := bs2 h
      refine seq_join (n := 17) (L := [(3, (Sl.v v11)), (0, (.pointer a0)), (4, (.int .i64 x2))]) (w' := w12) (fun a ha => ?_) (fun hk14 => ?_)
      · refine region_lit <| qm ha rfl fun a ha => q ha (d_add ha rfl rfl) fun a ha => qa ha rfl fun a ha => s_nil <| ?_
        have hS : Has 17 [(3, (Sl.v v11)), (4, (.int .i64 (IntKind.wrap .i64 (x2 + 1)))), (0, (.pointer a0))] _ := ha.sub ⟨rfl, rfl, rfl, trivial⟩
        cases h
        exact lp_next ⟨hS, rfl⟩
      · clear h
        have h := e13
        refine wp_block <| wp_seq <| region_lit <| qm ha rfl fun a ha => qm ha rfl fun a ha => ?_
        obtain ⟨v15, w16, e17, h⟩ := bs2 h
        refine q ha (d_call (xs := [_, _]) (vs := [(.pointer a0), (.int .i64 x2)]) ha ⟨rfl, rfl, trivial⟩ Try.call52 (wheel_Wheel_has_ok e17)) fun a ha => s_nil <| t_n <| ?_
        refine s_cond ha rfl h (fun b18 h => ?_) (fun b18 h => ?_)
        · refine region_lit <| qm ha rfl fun a ha => qm ha rfl fun a ha => ?_
          obtain ⟨s19, w20, e21, h⟩ := bs2 h
          refine q ha (d_bsl (vs := [(0, (.int .i64 x2))]) (ps := [[(.int .i64 x2)]]) ha ⟨rfl, rfl, trivial⟩ ⟨rfl, rfl, trivial⟩ rfl Try.runUnderlying34 Try.sizeOf3 Try.zeroValue3 (by decide) e21) fun a ha => ?_
          obtain ⟨s22, w23, e24, h⟩ := bs2 h
          refine q ha (d_apS ha rfl rfl e24) fun a ha => qa ha rfl fun a ha => s_nil <| b_n <| ?_
          have hS : Has 17 [(3, (Sl.v s22)), (0, (.pointer a0)), (4, (.int .i64 x2))] _ := ha.sub ⟨rfl, rfl, rfl, trivial⟩
          cases h
          exact hk14 _ hS
        · refine wp_skip <| b_n <| ?_
          have hS : Has 17 [(3, (Sl.v x1)), (0, (.pointer a0)), (4, (.int .i64 x2))] _ := ha.sub ⟨rfl, rfl, rfl, trivial⟩
          cases h
          exact hk14 _ hS
    · refine wp_exit <| t_x <| ?_
      have hS : Has 17 [(3, (Sl.v x1))] _ := ha.sub ⟨rfl, trivial⟩
      cases h
      cases hr9 _ rfl
      refine lp_x <| ?_
      exact hk8 _ hS

noncomputable def wheel_Wheel_Now (a0 : Option Addr) (w : World) : Option (Int × World) :=
  if (a0.isNone) = true then
  (some (0, w))
  else
  ((a0).bind fun p2 =>
  (ldI .i64 w (p2.add 0)).bind fun v4 =>
  some (v4, w))
set_option maxHeartbeats 1000000 in
set_option maxRecDepth 100000 in
theorem wheel_Wheel_Now_ok {a0 : Option Addr} {w w' : World} {r0 : Int} (h : wheel_Wheel_Now a0 w = some (r0, w')) : Calls Try.prog 22 #[(.pointer a0)] w fun e w'' => e = .returned (.int .i64 r0) ∧ w'' = w' := by
  refine calls_dec (n := 9) Try.func22 rfl Try.ntmps22 (by simp) fun a ha => ?_
  unfold wheel_Wheel_Now at h
  refine wp_seq <| region_lit <| qa ha rfl fun a ha => s_nil <| t_n <| wp_seq <| wp_seq <| region_lit <| qm ha rfl fun a ha => q ha (d_eqN ha rfl rfl Try.runUnderlying24) fun a ha => s_nil <| t_n <| ?_
  refine s_cond ha rfl h (fun b1 h => ?_) (fun b1 h => ?_)
  · refine wp_seq <| region_lit <| qa ha rfl fun a ha => s_nil <| t_n <| wp_ret <| t_r <| ?_
    have hS := ha
    cases h
    exact ret1 Try.results22 hS rfl ⟨rfl, rfl⟩
  · refine wp_skip <| t_n <| wp_seq <| region_lit <| qm ha rfl fun a ha => ?_
    obtain ⟨p2, e3, h⟩ := bs1 h
    refine q ha (d_nilp ha rfl e3) fun a ha => q ha (d_fa ha rfl Try.runUnderlying95 rfl rfl Try.sizeOf3 (by decide)) fun a ha => ?_
    obtain ⟨v4, e5, h⟩ := bs1 h
    refine q ha (d_ld ha rfl Try.isAgg3 (ldI_c e5)) fun a ha => qa ha rfl fun a ha => s_nil <| t_n <| wp_ret <| ?_
    have hS := ha
    cases h
    exact ret1 Try.results22 hS rfl ⟨rfl, rfl⟩

noncomputable def slices_Clone_int_int (a0 : Sl) (w : World) : Option (Sl × World) :=
  if (a0.p.isNone) = true then
  (some (Sl.nil, w))
  else
  (bind2 (bsl w 3 1 []) fun s2 w3 =>
  bind2 (apS Try.prog 34 s2 a0 w3) fun s5 w6 =>
  some (s5, w6))
set_option maxHeartbeats 1000000 in
set_option maxRecDepth 100000 in
theorem slices_Clone_int_int_ok {a0 : Sl} {w w' : World} {r0 : Sl} (h : slices_Clone_int_int a0 w = some (r0, w')) : Calls Try.prog 59 #[(Sl.v a0)] w fun e w'' => e = .returned (Sl.v r0) ∧ w'' = w' := by
  refine calls_dec (n := 8) Try.func59 rfl Try.ntmps59 (by simp) fun a ha => ?_
  unfold slices_Clone_int_int at h
  refine wp_seq <| region_lit <| qa ha rfl fun a ha => s_nil <| t_n <| wp_seq <| wp_seq <| region_lit <| qm ha rfl fun a ha => q ha (d_eqL ha rfl rfl Try.runUnderlying34) fun a ha => s_nil <| t_n <| ?_
  refine s_cond ha rfl h (fun b1 h => ?_) (fun b1 h => ?_)
  · refine wp_seq <| region_lit <| qa ha rfl fun a ha => s_nil <| t_n <| wp_ret <| t_r <| ?_
    have hS := ha
    cases h
    exact ret1 Try.results59 hS rfl ⟨rfl, rfl⟩
  · refine wp_skip <| t_n <| wp_seq <| region_lit <| ?_
    obtain ⟨s2, w3, e4, h⟩ := bs2 h
    refine q ha (d_bsl (vs := []) (ps := []) ha trivial trivial rfl Try.runUnderlying34 Try.sizeOf3 Try.zeroValue3 (by decide) e4) fun a ha => qm ha rfl fun a ha => ?_
    obtain ⟨s5, w6, e7, h⟩ := bs2 h
    refine q ha (d_apS ha rfl rfl e7) fun a ha => qa ha rfl fun a ha => s_nil <| t_n <| wp_ret <| ?_
    have hS := ha
    cases h
    exact ret1 Try.results59 hS rfl ⟨rfl, rfl⟩

noncomputable def wheel_Wheel_Fork_l1 (a0 : Option Addr) (p6 : Addr) (x11 : Int) (w12 : World) : Option ((Int × World) ⊕ (World)) :=
  if (decide (x11 < 43)) = true then
  ((a0).bind fun p19 =>
  (ixA (p19.add 131) x11 43 1).bind fun p21 =>
  (ldL w12 p21).bind fun v23 =>
  bind2 (slices_Clone_int_int v23 w12) fun v25 w26 =>
  (ixA (p6.add 131) x11 43 1).bind fun p28 =>
  (stV w26 p28 (Sl.v v25)).bind fun w30 =>
  some (.inl ((IntKind.wrap .i64 (x11 + 1)), w30)))
  else
  (some (.inr w12))
noncomputable def wheel_Wheel_Fork (a0 : Option Addr) (w : World) : Option ((Option Addr) × World) :=
  if (a0.isNone) = true then
  (some (none, w))
  else
  ((a0).bind fun p2 =>
  (ldA 174 w p2 0).bind fun c4 =>
  bind2 (mk w 95 (List.replicate 131 (.int .i64 0) ++ List.replicate 43 (.slice none 0 0))) fun p6 w7 =>
  (stA w7 p6 0 c4).bind fun w9 =>
  (loopF (fun s : Int × World => wheel_Wheel_Fork_l1 a0 p6 s.1 s.2) (0, w9)).bind fun w15 =>
  some ((some p6), w15))
set_option maxHeartbeats 1000000 in
set_option maxRecDepth 100000 in
theorem wheel_Wheel_Fork_ok {a0 : Option Addr} {w w' : World} {r0 : Option Addr} (h : wheel_Wheel_Fork a0 w = some (r0, w')) : Calls Try.prog 23 #[(.pointer a0)] w fun e w'' => e = .returned (.pointer r0) ∧ w'' = w' := by
  refine calls_dec (n := 24) Try.func23 rfl Try.ntmps23 (by simp) fun a ha => ?_
  unfold wheel_Wheel_Fork at h
  refine wp_seq <| region_lit <| qa ha rfl fun a ha => s_nil <| t_n <| wp_seq <| wp_seq <| region_lit <| qm ha rfl fun a ha => q ha (d_eqN ha rfl rfl Try.runUnderlying24) fun a ha => s_nil <| t_n <| ?_
  refine s_cond ha rfl h (fun b1 h => ?_) (fun b1 h => ?_)
  · refine wp_seq <| region_lit <| qa ha rfl fun a ha => s_nil <| t_n <| wp_ret <| t_r <| ?_
    have hS := ha
    cases h
    exact ret1 Try.results23 hS rfl ⟨rfl, rfl⟩
  · refine wp_skip <| t_n <| wp_seq <| region_lit <| qm ha rfl fun a ha => ?_
    obtain ⟨p2, e3, h⟩ := bs1 h
    refine q ha (d_nilp ha rfl e3) fun a ha => ?_
    obtain ⟨c4, e5, h⟩ := bs1 h
    refine q ha (d_ldA ha rfl Try.isAgg95 Try.sizeOf95 e5) fun a ha => ?_
    obtain ⟨p6, w7, e8, h⟩ := bs2 h
    refine q ha (d_alloc Try.zeroValue95 (by kernel_rfl) e8) fun a ha => ?_
    obtain ⟨w9, e10, h⟩ := bs1 h
    refine q ha (d_stA ha rfl rfl Try.sizeOf95 ((ldA_c e5).1) e10) fun a ha => s_nil <| t_n <| wp_seq <| wp_seq <| region_lit <| qm ha rfl fun a ha => s_nil <| t_n <| wp_block <| ?_
    obtain ⟨w15, e14, h⟩ := bs1 h
    refine s_loop1 (n := 24) (L := [(3, (.pointer (some p6)))]) (w' := w15) (e := .exit 0) (I := fun (s : Int × World) a w => Has 24 [(10, (.int .i64 s.1)), (0, (.pointer a0)), (3, (.pointer (some p6)))] a ∧ w = s.2) ⟨ha.sub ⟨rfl, rfl, rfl, trivial⟩, rfl⟩ e14 (fun a ha => ?_) (fun hk16 => ?_)
    · refine b_hit <| t_n <| wp_seq <| region_lit <| qa ha rfl fun a ha => s_nil <| t_n <| wp_ret <| ?_
      have hS := ha
      cases h
      exact ret1 Try.results23 hS rfl ⟨rfl, rfl⟩
    · clear h
      rintro ⟨x11, w12⟩ a wq o ⟨ha, hwq⟩ h hr17
      obtain rfl : w12 = wq := hwq.symm
      have ha : Has 24 [(10, (.int .i64 x11)), (0, (.pointer a0)), (3, (.pointer (some p6)))] a := ha
      have h : wheel_Wheel_Fork_l1 a0 p6 x11 w12 = some o := h
      unfold wheel_Wheel_Fork_l1 at h
      refine wp_seq <| region_lit <| q ha (d_lt ha rfl rfl) fun a ha => s_nil <| t_n <| wp_seq <| ?_
      refine s_cond ha rfl h (fun b18 h => ?_) (fun b18 h => ?_)
      · refine wp_skip <| t_n <| wp_seq <| wp_block <| wp_seq <| region_lit <| qm ha rfl fun a ha => qa ha rfl fun a ha => s_nil <| t_n <| region_lit <| qm ha rfl fun a ha => qm ha rfl fun a ha => qm ha rfl fun a ha => ?_
        obtain ⟨p19, e20, h⟩ := bs1 h
        refine q ha (d_nilp ha rfl e20) fun a ha => q ha (d_fa ha rfl Try.runUnderlying95 rfl rfl Try.sizeOf93 (by decide)) fun a ha => ?_
        obtain ⟨p21, e22, h⟩ := bs1 h
        refine q ha (d_ixA ha rfl rfl Try.runUnderlying93 Try.sizeOf34 e22) fun a ha => ?_
        obtain ⟨v23, e24, h⟩ := bs1 h
        refine q ha (d_ld ha rfl Try.isAgg34 (ldL_c e24)) fun a ha => ?_
        obtain ⟨v25, w26, e27, h⟩ := bs2 h
        refine q ha (d_call (xs := [_]) (vs := [(Sl.v v23)]) ha ⟨rfl, trivial⟩ Try.call59 (slices_Clone_int_int_ok e27)) fun a ha => q ha (d_fa ha rfl Try.runUnderlying95 rfl rfl Try.sizeOf93 (by decide)) fun a ha => ?_
        obtain ⟨p28, e29, h⟩ := bs1 h
        refine q ha (d_ixA ha rfl rfl Try.runUnderlying93 Try.sizeOf34 e29) fun a ha => ?_
        obtain ⟨w30, e31, h⟩ := bs1 h
        refine q ha (d_st ha rfl rfl Try.sizeOf34 e31) fun a ha => s_nil <| b_n <| t_n <| region_lit <| q ha (d_add ha rfl rfl) fun a ha => qm ha rfl fun a ha => s_nil <| ?_
        have hS : Has 24 [(10, (.int .i64 (IntKind.wrap .i64 (x11 + 1)))), (0, (.pointer a0)), (3, (.pointer (some p6)))] _ := ha.sub ⟨rfl, rfl, rfl, trivial⟩
        cases h
        exact lp_next ⟨hS, rfl⟩
      · refine wp_exit <| t_x <| ?_
        have hS : Has 24 [(3, (.pointer (some p6)))] _ := ha.sub ⟨rfl, trivial⟩
        cases h
        cases hr17 _ rfl
        refine lp_x <| ?_
        exact hk16 _ hS
end Go.Proofs.Ytejkaciimmfgcaa.D
