/- Written by dec.py of this project: Go functions as plain functions over the memory, and that the Go calls come to these. -/
import Derived.Test.YtoanmomopcaikaaGlue
namespace Go.Proofs.Ytoanmomopcaikaa.D
open Go
set_option linter.unusedVariables false
set_option linter.unusedSimpArgs false

noncomputable def sector_New (a0 : Int) (w : World) : Option ((Option Addr) × Int × World) :=
  bind2 (if (decide (a0 < 1)) = true then
  (some (true, w))
  else
  (some ((decide (512 < a0)), w))) fun v1 w2 =>
  if v1 = true then
  (some (none, 2, w2))
  else
  (bind2 (mkS Try.prog 81 a0 a0 w2) fun s7 w8 =>
  bind2 (mk w8 84 ([Sl.v s7, .slice none 0 0, .int .i64 0, .bool false, .int .i64 0])) fun p10 w11 =>
  some ((some p10), 0, w11))
set_option maxHeartbeats 1000000 in
set_option maxRecDepth 100000 in
theorem sector_New_ok {a0 : Int} {w w' : World} {r0 : Option Addr} {r1 : Int} (h : sector_New a0 w = some (r0, r1, w')) : Calls Try.prog 17 #[(.int .i64 a0)] w fun e w'' => e = .returned (.tuple #[(.pointer r0), (.int .i64 r1)]) ∧ w'' = w' := by
  refine calls_dec (n := 14) Try.func17 rfl Try.ntmps17 (by simp) (fun a ha => ?_)
  unfold sector_New at h
  refine wp_seq ?_
  refine region_lit ?_
  refine s_do rfl ha (ltd rfl) (d_assign ha rfl) (fun a ha => ?_)
  refine s_do rfl ha (ltd rfl) (d_assign ha rfl) (fun a ha => ?_)
  refine s_nil ?_
  refine t_n ?_
  replace ha : Has 14 [(0, (.int .i64 a0))] _ := ha.sub ⟨rfl, trivial⟩
  refine wp_seq ?_
  refine wp_seq ?_
  obtain ⟨v1, w2, e3, h⟩ := bs2 h
  refine reg_join (n := 14) (L := [(9, (.bool v1)), (0, (.int .i64 a0))]) (w' := w2) (fun a ha => ?_) (fun hk4 => ?_)
  · refine t_n ?_
    replace ha : Has 14 [(0, (.int .i64 a0)), (9, (.bool v1))] _ := ha.sub ⟨rfl, rfl, trivial⟩
    refine s_cond ha rfl h (fun b6 h => ?_) (fun b6 h => ?_)
    · refine wp_seq ?_
      refine region_lit ?_
      refine s_do rfl ha (ltd rfl) (d_assign ha rfl) (fun a ha => ?_)
      refine s_do rfl ha (ltd rfl) (d_assign ha rfl) (fun a ha => ?_)
      refine s_nil ?_
      refine t_n ?_
      replace ha : Has 14 [(2, (.pointer none)), (3, (.int .i64 2))] _ := ha.sub ⟨rfl, rfl, trivial⟩
      refine wp_ret ?_
      refine t_r ?_
      have hS := ha
      cases h
      exact ret2 Try.results17 hS rfl rfl ⟨rfl, rfl⟩
    · refine wp_skip ?_
      refine t_n ?_
      replace ha : Has 14 [(0, (.int .i64 a0))] _ := ha.sub ⟨rfl, trivial⟩
      refine wp_seq ?_
      refine region_lit ?_
      refine s_do rfl ha (ltd rfl) (d_move ha rfl) (fun a ha => ?_)
      obtain ⟨s7, w8, e9, h⟩ := bs2 h
      refine s_do rfl ha (ltd rfl) (d_mkS ha rfl rfl e9) (fun a ha => ?_)
      refine s_do rfl ha (ltd rfl) (d_build (vs := [(0, (Sl.v s7))]) (pl := #[(0, 1), (1, 1), (2, 1), (3, 1), (4, 1)]) (cs := ([Sl.v s7, .slice none 0 0, .int .i64 0, .bool false, .int .i64 0])) ha ⟨rfl, rfl, trivial⟩ Try.zeroValue84 Try.runUnderlying84 (by intro w; kernel_rfl) (by kernel_rfl)) (fun a ha => ?_)
      obtain ⟨p10, w11, e12, h⟩ := bs2 h
      refine s_do rfl ha (ltd rfl) (d_box ha rfl rfl e12) (fun a ha => ?_)
      refine s_do rfl ha (ltd rfl) (d_assign ha rfl) (fun a ha => ?_)
      refine s_do rfl ha (ltd rfl) (d_assign ha rfl) (fun a ha => ?_)
      refine s_nil ?_
      refine t_n ?_
      replace ha : Has 14 [(2, (.pointer (some p10))), (3, (.int .i64 0))] _ := ha.sub ⟨rfl, rfl, trivial⟩
      refine wp_ret ?_
      have hS := ha
      cases h
      exact ret2 Try.results17 hS rfl rfl ⟨rfl, rfl⟩
  · clear h
    have h := e3
    refine region_lit ?_
    refine s_do rfl ha (ltd rfl) (d_move ha rfl) (fun a ha => ?_)
    refine s_do rfl ha (ltd rfl) (d_lt ha rfl rfl) (fun a ha => ?_)
    refine s_do rfl ha (ltd rfl) (d_move ha rfl) (fun a ha => ?_)
    refine ite_s h (fun b5 h => ?_) (fun b5 h => ?_)
    · refine s_no_g rfl rfl ha (rfl : List.lookup 6 _ = _) (tn b5) (ltd rfl) (fun a ha => ?_)
      refine s_no_g rfl rfl ha (rfl : List.lookup 6 _ = _) (tn b5) (ltd rfl) (fun a ha => ?_)
      refine s_do rfl ha (ltd rfl) (d_pick_t ha rfl b5 rfl) (fun a ha => ?_)
      refine s_nil ?_
      have hS : Has 14 [(9, (.bool true)), (0, (.int .i64 a0))] _ := ha.sub ⟨rfl, rfl, trivial⟩
      cases h
      exact hk4 _ hS
    · refine s_do_g2 rfl rfl ha (rfl : List.lookup 6 _ = _) (nt b5) (ltd rfl) (d_move ha rfl) (fun a ha => ?_)
      refine s_do_g2 rfl rfl ha (rfl : List.lookup 6 _ = _) (nt b5) (ltd rfl) (d_gt ha rfl rfl) (fun a ha => ?_)
      refine s_do rfl ha (ltd rfl) (d_pick_f ha rfl b5 rfl) (fun a ha => ?_)
      refine s_nil ?_
      have hS : Has 14 [(9, (.bool (decide (512 < a0)))), (0, (.int .i64 a0))] _ := ha.sub ⟨rfl, rfl, trivial⟩
      cases h
      exact hk4 _ hS

noncomputable def sector_Disk_Size (a0 : Option Addr) (w : World) : Option (Int × World) :=
  if (a0.isNone) = true then
  (some (0, w))
  else
  ((a0).bind fun p2 =>
  (ldL w (p2.add 0)).bind fun v4 =>
  some ((v4.n : Int), w))
set_option maxHeartbeats 1000000 in
set_option maxRecDepth 100000 in
theorem sector_Disk_Size_ok {a0 : Option Addr} {w w' : World} {r0 : Int} (h : sector_Disk_Size a0 w = some (r0, w')) : Calls Try.prog 19 #[(.pointer a0)] w fun e w'' => e = .returned (.int .i64 r0) ∧ w'' = w' := by
  refine calls_dec (n := 10) Try.func19 rfl Try.ntmps19 (by simp) (fun a ha => ?_)
  unfold sector_Disk_Size at h
  refine wp_seq ?_
  refine region_lit ?_
  refine s_do rfl ha (ltd rfl) (d_assign ha rfl) (fun a ha => ?_)
  refine s_nil ?_
  refine t_n ?_
  replace ha : Has 10 [(0, (.pointer a0))] _ := ha.sub ⟨rfl, trivial⟩
  refine wp_seq ?_
  refine wp_seq ?_
  refine region_lit ?_
  refine s_do rfl ha (ltd rfl) (d_move ha rfl) (fun a ha => ?_)
  refine s_do rfl ha (ltd rfl) (d_eqN ha rfl rfl Try.runUnderlying22) (fun a ha => ?_)
  refine s_nil ?_
  refine t_n ?_
  replace ha : Has 10 [(0, (.pointer a0)), (4, (.bool (a0.isNone)))] _ := ha.sub ⟨rfl, rfl, trivial⟩
  refine s_cond ha rfl h (fun b1 h => ?_) (fun b1 h => ?_)
  · refine wp_seq ?_
    refine region_lit ?_
    refine s_do rfl ha (ltd rfl) (d_assign ha rfl) (fun a ha => ?_)
    refine s_nil ?_
    refine t_n ?_
    replace ha : Has 10 [(2, (.int .i64 0))] _ := ha.sub ⟨rfl, trivial⟩
    refine wp_ret ?_
    refine t_r ?_
    have hS := ha
    cases h
    exact ret1 Try.results19 hS rfl ⟨rfl, rfl⟩
  · refine wp_skip ?_
    refine t_n ?_
    replace ha : Has 10 [(0, (.pointer a0))] _ := ha.sub ⟨rfl, trivial⟩
    refine wp_seq ?_
    refine region_lit ?_
    refine s_do rfl ha (ltd rfl) (d_move ha rfl) (fun a ha => ?_)
    obtain ⟨p2, e3, h⟩ := bs1 h
    refine s_do rfl ha (ltd rfl) (d_nilp ha rfl e3) (fun a ha => ?_)
    refine s_do rfl ha (ltd rfl) (d_fa ha rfl Try.runUnderlying84 rfl rfl Try.sizeOf81 (by decide)) (fun a ha => ?_)
    obtain ⟨v4, e5, h⟩ := bs1 h
    refine s_do rfl ha (ltd rfl) (d_ld ha rfl Try.isAgg81 (ldL_c e5)) (fun a ha => ?_)
    refine s_do rfl ha (ltd rfl) (d_lenS ha rfl Try.runUnderlying81) (fun a ha => ?_)
    refine s_do rfl ha (ltd rfl) (d_assign ha rfl) (fun a ha => ?_)
    refine s_nil ?_
    refine t_n ?_
    replace ha : Has 10 [(2, (.int .i64 (v4.n : Int)))] _ := ha.sub ⟨rfl, trivial⟩
    refine wp_ret ?_
    have hS := ha
    cases h
    exact ret1 Try.results19 hS rfl ⟨rfl, rfl⟩

noncomputable def sector_Disk_Waits (a0 : Option Addr) (w : World) : Option (Int × World) :=
  if (a0.isNone) = true then
  (some (0, w))
  else
  ((a0).bind fun p2 =>
  (ldL w (p2.add 1)).bind fun v4 =>
  some ((v4.n : Int), w))
set_option maxHeartbeats 1000000 in
set_option maxRecDepth 100000 in
theorem sector_Disk_Waits_ok {a0 : Option Addr} {w w' : World} {r0 : Int} (h : sector_Disk_Waits a0 w = some (r0, w')) : Calls Try.prog 20 #[(.pointer a0)] w fun e w'' => e = .returned (.int .i64 r0) ∧ w'' = w' := by
  refine calls_dec (n := 10) Try.func20 rfl Try.ntmps20 (by simp) (fun a ha => ?_)
  unfold sector_Disk_Waits at h
  refine wp_seq ?_
  refine region_lit ?_
  refine s_do rfl ha (ltd rfl) (d_assign ha rfl) (fun a ha => ?_)
  refine s_nil ?_
  refine t_n ?_
  replace ha : Has 10 [(0, (.pointer a0))] _ := ha.sub ⟨rfl, trivial⟩
  refine wp_seq ?_
  refine wp_seq ?_
  refine region_lit ?_
  refine s_do rfl ha (ltd rfl) (d_move ha rfl) (fun a ha => ?_)
  refine s_do rfl ha (ltd rfl) (d_eqN ha rfl rfl Try.runUnderlying22) (fun a ha => ?_)
  refine s_nil ?_
  refine t_n ?_
  replace ha : Has 10 [(0, (.pointer a0)), (4, (.bool (a0.isNone)))] _ := ha.sub ⟨rfl, rfl, trivial⟩
  refine s_cond ha rfl h (fun b1 h => ?_) (fun b1 h => ?_)
  · refine wp_seq ?_
    refine region_lit ?_
    refine s_do rfl ha (ltd rfl) (d_assign ha rfl) (fun a ha => ?_)
    refine s_nil ?_
    refine t_n ?_
    replace ha : Has 10 [(2, (.int .i64 0))] _ := ha.sub ⟨rfl, trivial⟩
    refine wp_ret ?_
    refine t_r ?_
    have hS := ha
    cases h
    exact ret1 Try.results20 hS rfl ⟨rfl, rfl⟩
  · refine wp_skip ?_
    refine t_n ?_
    replace ha : Has 10 [(0, (.pointer a0))] _ := ha.sub ⟨rfl, trivial⟩
    refine wp_seq ?_
    refine region_lit ?_
    refine s_do rfl ha (ltd rfl) (d_move ha rfl) (fun a ha => ?_)
    obtain ⟨p2, e3, h⟩ := bs1 h
    refine s_do rfl ha (ltd rfl) (d_nilp ha rfl e3) (fun a ha => ?_)
    refine s_do rfl ha (ltd rfl) (d_fa ha rfl Try.runUnderlying84 rfl rfl Try.sizeOf82 (by decide)) (fun a ha => ?_)
    obtain ⟨v4, e5, h⟩ := bs1 h
    refine s_do rfl ha (ltd rfl) (d_ld ha rfl Try.isAgg82 (ldL_c e5)) (fun a ha => ?_)
    refine s_do rfl ha (ltd rfl) (d_lenS ha rfl Try.runUnderlying82) (fun a ha => ?_)
    refine s_do rfl ha (ltd rfl) (d_assign ha rfl) (fun a ha => ?_)
    refine s_nil ?_
    refine t_n ?_
    replace ha : Has 10 [(2, (.int .i64 (v4.n : Int)))] _ := ha.sub ⟨rfl, trivial⟩
    refine wp_ret ?_
    have hS := ha
    cases h
    exact ret1 Try.results20 hS rfl ⟨rfl, rfl⟩

noncomputable def sector_Disk_Down (a0 : Option Addr) (w : World) : Option (Bool × World) :=
  bind2 (if (!(a0.isNone)) = true then
  ((a0).bind fun p6 =>
  (ldB w (p6.add 3)).bind fun v8 =>
  some (v8, w))
  else
  (some (false, w))) fun v1 w2 =>
  some (v1, w2)
set_option maxHeartbeats 1000000 in
set_option maxRecDepth 100000 in
theorem sector_Disk_Down_ok {a0 : Option Addr} {w w' : World} {r0 : Bool} (h : sector_Disk_Down a0 w = some (r0, w')) : Calls Try.prog 21 #[(.pointer a0)] w fun e w'' => e = .returned (.bool r0) ∧ w'' = w' := by
  refine calls_dec (n := 11) Try.func21 rfl Try.ntmps21 (by simp) (fun a ha => ?_)
  unfold sector_Disk_Down at h
  refine wp_seq ?_
  refine region_lit ?_
  refine s_do rfl ha (ltd rfl) (d_assign ha rfl) (fun a ha => ?_)
  refine s_nil ?_
  refine t_n ?_
  replace ha : Has 11 [(0, (.pointer a0))] _ := ha.sub ⟨rfl, trivial⟩
  refine wp_seq ?_
  obtain ⟨v1, w2, e3, h⟩ := bs2 h
  refine reg_join (n := 11) (L := [(2, (.bool v1))]) (w' := w2) (fun a ha => ?_) (fun hk4 => ?_)
  · refine t_n ?_
    replace ha : Has 11 [(2, (.bool v1))] _ := ha.sub ⟨rfl, trivial⟩
    refine wp_ret ?_
    have hS := ha
    cases h
    exact ret1 Try.results21 hS rfl ⟨rfl, rfl⟩
  · clear h
    have h := e3
    refine region_lit ?_
    refine s_do rfl ha (ltd rfl) (d_move ha rfl) (fun a ha => ?_)
    refine s_do rfl ha (ltd rfl) (d_neN ha rfl rfl Try.runUnderlying22) (fun a ha => ?_)
    refine s_do rfl ha (ltd rfl) (d_move ha rfl) (fun a ha => ?_)
    refine ite_s h (fun b5 h => ?_) (fun b5 h => ?_)
    · refine s_do_g2 rfl rfl ha (rfl : List.lookup 5 _ = _) b5 (ltd rfl) (d_move ha rfl) (fun a ha => ?_)
      obtain ⟨p6, e7, h⟩ := bs1 h
      refine s_do_g2 rfl rfl ha (rfl : List.lookup 5 _ = _) b5 (ltd rfl) (d_nilp ha rfl e7) (fun a ha => ?_)
      refine s_do_g2 rfl rfl ha (rfl : List.lookup 5 _ = _) b5 (ltd rfl) (d_fa ha rfl Try.runUnderlying84 rfl rfl Try.sizeOf4 (by decide)) (fun a ha => ?_)
      obtain ⟨v8, e9, h⟩ := bs1 h
      refine s_do_g2 rfl rfl ha (rfl : List.lookup 5 _ = _) b5 (ltd rfl) (d_ld ha rfl Try.isAgg4 (ldB_c e9)) (fun a ha => ?_)
      refine s_do rfl ha (ltd rfl) (d_pick_t ha rfl b5 rfl) (fun a ha => ?_)
      refine s_do rfl ha (ltd rfl) (d_assign ha rfl) (fun a ha => ?_)
      refine s_nil ?_
      have hS : Has 11 [(2, (.bool v8))] _ := ha.sub ⟨rfl, trivial⟩
      cases h
      exact hk4 _ hS
    · refine s_no_g rfl rfl ha (rfl : List.lookup 5 _ = _) (nn b5 _ rfl) (ltd rfl) (fun a ha => ?_)
      refine s_no_g rfl rfl ha (rfl : List.lookup 5 _ = _) (nn b5 _ rfl) (ltd rfl) (fun a ha => ?_)
      refine s_no_g rfl rfl ha (rfl : List.lookup 5 _ = _) (nn b5 _ rfl) (ltd rfl) (fun a ha => ?_)
      refine s_no_g rfl rfl ha (rfl : List.lookup 5 _ = _) (nn b5 _ rfl) (ltd rfl) (fun a ha => ?_)
      refine s_do rfl ha (ltd rfl) (d_pick_f ha rfl b5 rfl) (fun a ha => ?_)
      refine s_do rfl ha (ltd rfl) (d_assign ha rfl) (fun a ha => ?_)
      refine s_nil ?_
      have hS : Has 11 [(2, (.bool false))] _ := ha.sub ⟨rfl, trivial⟩
      cases h
      exact hk4 _ hS

noncomputable def sector_Disk_trips (a0 : Option Addr) (w : World) : Option (Bool × World) :=
  (a0).bind fun p1 =>
  (ldI .i64 w (p1.add 2)).bind fun v3 =>
  if (v3 == 0) = true then
  (some (false, w))
  else
  ((ldI .i64 w (p1.add 2)).bind fun v6 =>
  (stV w (p1.add 2) (.int .i64 (IntKind.wrap .i64 (v6 - 1)))).bind fun w8 =>
  (ldI .i64 w8 (p1.add 2)).bind fun v10 =>
  (stV w8 (p1.add 3) (.bool (v10 == 0))).bind fun w12 =>
  (ldB w12 (p1.add 3)).bind fun v14 =>
  some (v14, w12))
set_option maxHeartbeats 1000000 in
set_option maxRecDepth 100000 in
theorem sector_Disk_trips_ok {a0 : Option Addr} {w w' : World} {r0 : Bool} (h : sector_Disk_trips a0 w = some (r0, w')) : Calls Try.prog 41 #[(.pointer a0)] w fun e w'' => e = .returned (.bool r0) ∧ w'' = w' := by
  refine calls_dec (n := 27) Try.func41 rfl Try.ntmps41 (by simp) (fun a ha => ?_)
  unfold sector_Disk_trips at h
  refine wp_seq ?_
  refine region_lit ?_
  refine s_do rfl ha (ltd rfl) (d_assign ha rfl) (fun a ha => ?_)
  refine s_nil ?_
  refine t_n ?_
  replace ha : Has 27 [(0, (.pointer a0))] _ := ha.sub ⟨rfl, trivial⟩
  refine wp_seq ?_
  refine wp_seq ?_
  refine region_lit ?_
  refine s_do rfl ha (ltd rfl) (d_move ha rfl) (fun a ha => ?_)
  obtain ⟨p1, e2, h⟩ := bs1 h
  refine s_do rfl ha (ltd rfl) (d_nilp ha rfl e2) (fun a ha => ?_)
  refine s_do rfl ha (ltd rfl) (d_fa ha rfl Try.runUnderlying84 rfl rfl Try.sizeOf3 (by decide)) (fun a ha => ?_)
  obtain ⟨v3, e4, h⟩ := bs1 h
  refine s_do rfl ha (ltd rfl) (d_ld ha rfl Try.isAgg3 (ldI_c e4)) (fun a ha => ?_)
  refine s_do rfl ha (ltd rfl) (d_eq ha rfl rfl) (fun a ha => ?_)
  refine s_nil ?_
  refine t_n ?_
  replace ha : Has 27 [(0, (.pointer a0)), (7, (.bool (v3 == 0)))] _ := ha.sub ⟨rfl, rfl, trivial⟩
  refine s_cond ha rfl h (fun b5 h => ?_) (fun b5 h => ?_)
  · refine wp_seq ?_
    refine region_lit ?_
    refine s_do rfl ha (ltd rfl) (d_assign ha rfl) (fun a ha => ?_)
    refine s_nil ?_
    refine t_n ?_
    replace ha : Has 27 [(2, (.bool false))] _ := ha.sub ⟨rfl, trivial⟩
    refine wp_ret ?_
    refine t_r ?_
    have hS := ha
    cases h
    exact ret1 Try.results41 hS rfl ⟨rfl, rfl⟩
  · refine wp_skip ?_
    refine t_n ?_
    replace ha : Has 27 [(0, (.pointer a0))] _ := ha.sub ⟨rfl, trivial⟩
    refine wp_seq ?_
    refine region_lit ?_
    refine s_do rfl ha (ltd rfl) (d_move ha rfl) (fun a ha => ?_)
    refine s_do rfl ha (ltd rfl) (d_nilp ha rfl e2) (fun a ha => ?_)
    refine s_do rfl ha (ltd rfl) (d_fa ha rfl Try.runUnderlying84 rfl rfl Try.sizeOf3 (by decide)) (fun a ha => ?_)
    obtain ⟨v6, e7, h⟩ := bs1 h
    refine s_do rfl ha (ltd rfl) (d_ld ha rfl Try.isAgg3 (ldI_c e7)) (fun a ha => ?_)
    refine s_do rfl ha (ltd rfl) (d_sub ha rfl rfl) (fun a ha => ?_)
    refine s_do rfl ha (ltd rfl) (d_nilp ha rfl e2) (fun a ha => ?_)
    refine s_do rfl ha (ltd rfl) (d_fa ha rfl Try.runUnderlying84 rfl rfl Try.sizeOf3 (by decide)) (fun a ha => ?_)
    obtain ⟨w8, e9, h⟩ := bs1 h
    refine s_do rfl ha (ltd rfl) (d_st ha rfl rfl Try.sizeOf3 e9) (fun a ha => ?_)
    refine s_nil ?_
    refine t_n ?_
    replace ha : Has 27 [(0, (.pointer a0))] _ := ha.sub ⟨rfl, trivial⟩
    refine wp_seq ?_
    refine region_lit ?_
    refine s_do rfl ha (ltd rfl) (d_move ha rfl) (fun a ha => ?_)
    refine s_do rfl ha (ltd rfl) (d_move ha rfl) (fun a ha => ?_)
    refine s_do rfl ha (ltd rfl) (d_nilp ha rfl e2) (fun a ha => ?_)
    refine s_do rfl ha (ltd rfl) (d_fa ha rfl Try.runUnderlying84 rfl rfl Try.sizeOf3 (by decide)) (fun a ha => ?_)
    obtain ⟨v10, e11, h⟩ := bs1 h
    refine s_do rfl ha (ltd rfl) (d_ld ha rfl Try.isAgg3 (ldI_c e11)) (fun a ha => ?_)
    refine s_do rfl ha (ltd rfl) (d_eq ha rfl rfl) (fun a ha => ?_)
    refine s_do rfl ha (ltd rfl) (d_nilp ha rfl e2) (fun a ha => ?_)
    refine s_do rfl ha (ltd rfl) (d_fa ha rfl Try.runUnderlying84 rfl rfl Try.sizeOf4 (by decide)) (fun a ha => ?_)
    obtain ⟨w12, e13, h⟩ := bs1 h
    refine s_do rfl ha (ltd rfl) (d_st ha rfl rfl Try.sizeOf4 e13) (fun a ha => ?_)
    refine s_nil ?_
    refine t_n ?_
    replace ha : Has 27 [(0, (.pointer a0))] _ := ha.sub ⟨rfl, trivial⟩
    refine wp_seq ?_
    refine region_lit ?_
    refine s_do rfl ha (ltd rfl) (d_move ha rfl) (fun a ha => ?_)
    refine s_do rfl ha (ltd rfl) (d_nilp ha rfl e2) (fun a ha => ?_)
    refine s_do rfl ha (ltd rfl) (d_fa ha rfl Try.runUnderlying84 rfl rfl Try.sizeOf4 (by decide)) (fun a ha => ?_)
    obtain ⟨v14, e15, h⟩ := bs1 h
    refine s_do rfl ha (ltd rfl) (d_ld ha rfl Try.isAgg4 (ldB_c e15)) (fun a ha => ?_)
    refine s_do rfl ha (ltd rfl) (d_assign ha rfl) (fun a ha => ?_)
    refine s_nil ?_
    refine t_n ?_
    replace ha : Has 27 [(2, (.bool v14))] _ := ha.sub ⟨rfl, trivial⟩
    refine wp_ret ?_
    have hS := ha
    cases h
    exact ret1 Try.results41 hS rfl ⟨rfl, rfl⟩

noncomputable def sector_Disk_Write (a0 : Option Addr) (a1 : Int) (a2 : Sl) (w : World) : Option (Int × World) :=
  if (a0.isNone) = true then
  (some (1, w))
  else
  ((a0).bind fun p2 =>
  (ldB w (p2.add 3)).bind fun v4 =>
  if v4 = true then
  (some (10, w))
  else
  (bind2 (if (decide (a1 < 0)) = true then
  (some (true, w))
  else
  ((ldL w (p2.add 0)).bind fun v12 =>
  some ((decide ((v12.n : Int) ≤ a1)), w))) fun v7 w8 =>
  if v7 = true then
  (some (2, w8))
  else
  (if (decide (64 < (a2.n : Int))) = true then
  (some (6, w8))
  else
  (bind2 (sector_Disk_trips a0 w8) fun v16 w17 =>
  if v16 = true then
  (some (10, w17))
  else
  (bind2 (mk w17 88 ([.int .i64 0] ++ List.replicate 64 (.int .u8 0))) fun p20 w21 =>
  (stA w21 p20 0 ([.int .i64 a1] ++ List.replicate 64 (.int .u8 0))).bind fun w23 =>
  (slA (p20.add 1) 64 0 64 64 1).bind fun s25 =>
  bind2 (cpS Try.prog 29 29 s25 a2 w23) fun v27 w28 =>
  (dr w28).bind fun w30 =>
  (ldL w30 (p2.add 1)).bind fun v32 =>
  (ldA 65 w30 p20 0).bind fun c34 =>
  bind2 (bsl w30 88 65 [c34]) fun s36 w37 =>
  bind2 (apS Try.prog 82 v32 s36 w37) fun s39 w40 =>
  (stV w40 (p2.add 1) (Sl.v s39)).bind fun w42 =>
  chk (ldL w37 (p2.add 1) = some v32) <|
  some (0, w42))))))
set_option maxHeartbeats 1000000 in
set_option maxRecDepth 100000 in
theorem sector_Disk_Write_ok {a0 : Option Addr} {a1 : Int} {a2 : Sl} {w w' : World} {r0 : Int} (h : sector_Disk_Write a0 a1 a2 w = some (r0, w')) : Calls Try.prog 22 #[(.pointer a0), (.int .i64 a1), (Sl.v a2)] w fun e w'' => e = .returned (.int .i64 r0) ∧ w'' = w' := by
  refine calls_dec (n := 51) Try.func22 rfl Try.ntmps22 (by simp) (fun a ha => ?_)
  unfold sector_Disk_Write at h
  refine wp_seq ?_
  refine region_lit ?_
  refine s_do rfl ha (ltd rfl) (d_assign ha rfl) (fun a ha => ?_)
  refine s_nil ?_
  refine t_n ?_
  replace ha : Has 51 [(0, (.pointer a0)), (1, (.int .i64 a1)), (2, (Sl.v a2))] _ := ha.sub ⟨rfl, rfl, rfl, trivial⟩
  refine wp_seq ?_
  refine wp_block ?_
  refine wp_seq ?_
  refine region_lit ?_
  refine s_do rfl ha (ltd rfl) (d_move ha rfl) (fun a ha => ?_)
  refine s_do rfl ha (ltd rfl) (d_eqN ha rfl rfl Try.runUnderlying22) (fun a ha => ?_)
  refine s_do rfl ha (ltd rfl) (d_assign ha rfl) (fun a ha => ?_)
  refine s_nil ?_
  refine t_n ?_
  replace ha : Has 51 [(0, (.pointer a0)), (1, (.int .i64 a1)), (2, (Sl.v a2)), (8, (.bool (a0.isNone)))] _ := ha.sub ⟨rfl, rfl, rfl, rfl, trivial⟩
  refine s_cond ha rfl h (fun b1 h => ?_) (fun b1 h => ?_)
  · refine wp_seq ?_
    refine region_lit ?_
    refine s_do rfl ha (ltd rfl) (d_assign ha rfl) (fun a ha => ?_)
    refine s_nil ?_
    refine t_n ?_
    replace ha : Has 51 [(6, (.int .i64 1))] _ := ha.sub ⟨rfl, trivial⟩
    refine wp_ret ?_
    refine b_r ?_
    refine t_r ?_
    have hS := ha
    cases h
    exact ret1 Try.results22 hS rfl ⟨rfl, rfl⟩
  · refine wp_seq ?_
    refine region_lit ?_
    refine s_do rfl ha (ltd rfl) (d_move ha rfl) (fun a ha => ?_)
    obtain ⟨p2, e3, h⟩ := bs1 h
    refine s_do rfl ha (ltd rfl) (d_nilp ha rfl e3) (fun a ha => ?_)
    refine s_do rfl ha (ltd rfl) (d_fa ha rfl Try.runUnderlying84 rfl rfl Try.sizeOf4 (by decide)) (fun a ha => ?_)
    obtain ⟨v4, e5, h⟩ := bs1 h
    refine s_do rfl ha (ltd rfl) (d_ld ha rfl Try.isAgg4 (ldB_c e5)) (fun a ha => ?_)
    refine s_do rfl ha (ltd rfl) (d_assign ha rfl) (fun a ha => ?_)
    refine s_nil ?_
    refine t_n ?_
    replace ha : Has 51 [(0, (.pointer a0)), (1, (.int .i64 a1)), (2, (Sl.v a2)), (11, (.bool v4))] _ := ha.sub ⟨rfl, rfl, rfl, rfl, trivial⟩
    refine s_cond ha rfl h (fun b6 h => ?_) (fun b6 h => ?_)
    · refine wp_seq ?_
      refine region_lit ?_
      refine s_do rfl ha (ltd rfl) (d_assign ha rfl) (fun a ha => ?_)
      refine s_nil ?_
      refine t_n ?_
      replace ha : Has 51 [(6, (.int .i64 10))] _ := ha.sub ⟨rfl, trivial⟩
      refine wp_ret ?_
      refine b_r ?_
      refine t_r ?_
      have hS := ha
      cases h
      exact ret1 Try.results22 hS rfl ⟨rfl, rfl⟩
    · refine wp_seq ?_
      obtain ⟨v7, w8, e9, h⟩ := bs2 h
      refine reg_join (n := 51) (L := [(16, (.bool v7)), (0, (.pointer a0)), (1, (.int .i64 a1)), (2, (Sl.v a2))]) (w' := w8) (fun a ha => ?_) (fun hk10 => ?_)
      · refine t_n ?_
        replace ha : Has 51 [(0, (.pointer a0)), (1, (.int .i64 a1)), (2, (Sl.v a2)), (16, (.bool v7))] _ := ha.sub ⟨rfl, rfl, rfl, rfl, trivial⟩
        refine s_cond ha rfl h (fun b14 h => ?_) (fun b14 h => ?_)
        · refine wp_seq ?_
          refine region_lit ?_
          refine s_do rfl ha (ltd rfl) (d_assign ha rfl) (fun a ha => ?_)
          refine s_nil ?_
          refine t_n ?_
          replace ha : Has 51 [(6, (.int .i64 2))] _ := ha.sub ⟨rfl, trivial⟩
          refine wp_ret ?_
          refine b_r ?_
          refine t_r ?_
          have hS := ha
          cases h
          exact ret1 Try.results22 hS rfl ⟨rfl, rfl⟩
        · refine wp_seq ?_
          refine region_lit ?_
          refine s_do rfl ha (ltd rfl) (d_move ha rfl) (fun a ha => ?_)
          refine s_do rfl ha (ltd rfl) (d_lenS ha rfl Try.runUnderlying29) (fun a ha => ?_)
          refine s_do rfl ha (ltd rfl) (d_gt ha rfl rfl) (fun a ha => ?_)
          refine s_do rfl ha (ltd rfl) (d_assign ha rfl) (fun a ha => ?_)
          refine s_nil ?_
          refine t_n ?_
          replace ha : Has 51 [(0, (.pointer a0)), (1, (.int .i64 a1)), (2, (Sl.v a2)), (28, (.bool (decide (64 < (a2.n : Int)))))] _ := ha.sub ⟨rfl, rfl, rfl, rfl, trivial⟩
          refine s_cond ha rfl h (fun b15 h => ?_) (fun b15 h => ?_)
          · refine wp_seq ?_
            refine region_lit ?_
            refine s_do rfl ha (ltd rfl) (d_assign ha rfl) (fun a ha => ?_)
            refine s_nil ?_
            refine t_n ?_
            replace ha : Has 51 [(6, (.int .i64 6))] _ := ha.sub ⟨rfl, trivial⟩
            refine wp_ret ?_
            refine b_r ?_
            refine t_r ?_
            have hS := ha
            cases h
            exact ret1 Try.results22 hS rfl ⟨rfl, rfl⟩
          · refine wp_seq ?_
            refine region_lit ?_
            refine s_do rfl ha (ltd rfl) (d_move ha rfl) (fun a ha => ?_)
            obtain ⟨v16, w17, e18, h⟩ := bs2 h
            refine s_do rfl ha (ltd rfl) (d_call (xs := [_]) (vs := [(.pointer a0)]) ha ⟨rfl, trivial⟩ Try.call41 (sector_Disk_trips_ok e18)) (fun a ha => ?_)
            refine s_do rfl ha (ltd rfl) (d_assign ha rfl) (fun a ha => ?_)
            refine s_nil ?_
            refine t_n ?_
            replace ha : Has 51 [(0, (.pointer a0)), (1, (.int .i64 a1)), (2, (Sl.v a2)), (32, (.bool v16))] _ := ha.sub ⟨rfl, rfl, rfl, rfl, trivial⟩
            refine s_cond ha rfl h (fun b19 h => ?_) (fun b19 h => ?_)
            · refine wp_seq ?_
              refine region_lit ?_
              refine s_do rfl ha (ltd rfl) (d_assign ha rfl) (fun a ha => ?_)
              refine s_nil ?_
              refine t_n ?_
              replace ha : Has 51 [(6, (.int .i64 10))] _ := ha.sub ⟨rfl, trivial⟩
              refine wp_ret ?_
              refine b_r ?_
              refine t_r ?_
              have hS := ha
              cases h
              exact ret1 Try.results22 hS rfl ⟨rfl, rfl⟩
            · refine wp_skip ?_
              refine b_n ?_
              refine t_n ?_
              replace ha : Has 51 [(0, (.pointer a0)), (1, (.int .i64 a1)), (2, (Sl.v a2))] _ := ha.sub ⟨rfl, rfl, rfl, trivial⟩
              refine wp_seq ?_
              refine region_lit ?_
              refine s_do rfl ha (ltd rfl) (d_move ha rfl) (fun a ha => ?_)
              refine s_do rfl ha (ltd rfl) (d_build (vs := [(0, (.int .i64 a1))]) (pl := #[(0, 1), (1, 64)]) (cs := ([.int .i64 a1] ++ List.replicate 64 (.int .u8 0))) ha ⟨rfl, rfl, trivial⟩ Try.zeroValue88 Try.runUnderlying88 (by intro w; kernel_rfl) (by kernel_rfl)) (fun a ha => ?_)
              obtain ⟨p20, w21, e22, h⟩ := bs2 h
              refine s_do rfl ha (ltd rfl) (d_alloc Try.zeroValue88 (by kernel_rfl) e22) (fun a ha => ?_)
              obtain ⟨w23, e24, h⟩ := bs1 h
              refine s_do rfl ha (ltd rfl) (d_stA ha rfl rfl Try.sizeOf88 rfl e24) (fun a ha => ?_)
              refine s_nil ?_
              refine t_n ?_
              replace ha : Has 51 [(0, (.pointer a0)), (2, (Sl.v a2)), (7, (.pointer (some p20)))] _ := ha.sub ⟨rfl, rfl, rfl, trivial⟩
              refine wp_seq ?_
              refine region_lit ?_
              refine s_do rfl ha (ltd rfl) (d_fa ha rfl Try.runUnderlying88 rfl rfl Try.sizeOf86 (by decide)) (fun a ha => ?_)
              obtain ⟨s25, e26, h⟩ := bs1 h
              refine s_do rfl ha (ltd rfl) (d_slA ha rfl Try.runUnderlying86 Try.sizeOf5 rfl rfl rfl (by simp) e26) (fun a ha => ?_)
              refine s_do rfl ha (ltd rfl) (d_move ha rfl) (fun a ha => ?_)
              obtain ⟨v27, w28, e29, h⟩ := bs2 h
              refine s_do rfl ha (ltd rfl) (d_cpS ha rfl rfl e29) (fun a ha => ?_)
              refine s_nil ?_
              refine t_n ?_
              replace ha : Has 51 [(0, (.pointer a0)), (7, (.pointer (some p20)))] _ := ha.sub ⟨rfl, rfl, trivial⟩
              refine wp_seq ?_
              obtain ⟨w30, e31, h⟩ := bs1 h
              obtain ⟨v32, e33, h⟩ := bs1 h
              obtain ⟨c34, e35, h⟩ := bs1 h
              obtain ⟨s36, w37, e38, h⟩ := bs2 h
              obtain ⟨s39, w40, e41, h⟩ := bs2 h
              obtain ⟨w42, e43, h⟩ := bs1 h
              obtain ⟨e44, h⟩ := chk_some h
              have ha : Has 51 [(0, (.pointer a0)), (7, (.pointer (some p20)))] a := ha.sub ⟨rfl, rfl, trivial⟩
              refine region_draw (n := 51) (ds := (⟨_, (.pointer a0), false, 0, 2, [], [(0, (.pointer a0))]⟩ :: ⟨_, (.pointer a0), false, 0, 1, [], [(0, (.pointer a0))]⟩ :: ⟨_, (.pointer (some p2)), false, 0, 1, [1], [(42, (.pointer a0))]⟩ :: ⟨_, (.pointer (some (p2.add 1))), false, 0, 1, [1, 2], [(43, (.pointer (some p2)))]⟩ :: ⟨_, (Sl.v v32), false, 0, 1, [1, 2, 3], [(44, (.pointer (some (p2.add 1))))]⟩ :: ⟨_, (.agg (List.toArray c34)), false, 0, 0, [], [(7, (.pointer (some p20)))]⟩ :: ⟨_, (Sl.v s36), true, 0, 0, [5], [(46, (.agg (List.toArray c34)))]⟩ :: ⟨_, (Sl.v s39), true, 1, 1, [1, 2, 3, 4, 5, 6], [(45, (Sl.v v32)), (47, (Sl.v s36))]⟩ :: ⟨_, (.pointer (some p2)), false, 2, 2, [0, 1, 2, 3, 4, 5, 6, 7], [(41, (.pointer a0))]⟩ :: ⟨_, (.pointer (some (p2.add 1))), false, 2, 2, [0, 1, 2, 3, 4, 5, 6, 7, 8], [(49, (.pointer (some p2)))]⟩ :: ⟨_, undef, true, 2, 2, [0, 1, 2, 3, 4, 5, 6, 7, 8, 9], [(50, (.pointer (some (p2.add 1)))), (48, (Sl.v s39))]⟩ :: [])) (W := (fun j => match j with | 0 => w30 | 1 => w37 | 2 => w40 | _ => w42)) (by kernel_rfl) ha (dr_w e31) (by kernel_rfl) ?_ (reads_of (by kernel_rfl)) (by kernel_rfl) (m := 3) (by kernel_rfl) (fun a ha => ?_)
              · refine ⟨?_, ?_, ?_, ?_, ?_, ?_, ?_, ?_, ?_, ?_, ?_, trivial⟩
                · intro j _ _; exact ok_do rfl fun a ha => d_move ha rfl
                · intro j _ _; exact ok_do rfl fun a ha => d_move ha rfl
                · intro j _ _; exact ok_do rfl fun a ha => d_nilp ha rfl e3
                · intro j _ _; exact ok_do rfl fun a ha => d_fa ha rfl Try.runUnderlying84 rfl rfl Try.sizeOf82 (by decide)
                · intro j h1 h2; have h1 : 0 ≤ j := h1; have h2 : j ≤ 1 := h2; rcases (by omega : j = 0 ∨ j = 1) with rfl | rfl
                  · exact ok_do rfl fun a ha => d_ld ha rfl Try.isAgg82 (ldL_c e33)
                  · exact ok_do rfl fun a ha => d_ld ha rfl Try.isAgg82 (ldL_c e44)
                · intro j h1 h2; obtain rfl : j = 0 := Nat.le_antisymm h2 h1; exact ok_do rfl fun a ha => d_ldA ha rfl Try.isAgg88 Try.sizeOf88 e35
                · intro j h1 h2; obtain rfl : j = 0 := Nat.le_antisymm h2 h1; exact ok_do rfl fun a ha => d_bsl (vs := [(0, (.agg (List.toArray c34)))]) (ps := [c34]) ha ⟨rfl, rfl, trivial⟩ ⟨rfl, rfl, trivial⟩ rfl Try.runUnderlying82 Try.sizeOf88 Try.zeroValue88 (by decide) e38
                · intro j h1 h2; obtain rfl : j = 1 := Nat.le_antisymm h2 h1; exact ok_do rfl fun a ha => d_apS ha rfl rfl e41
                · intro j _ _; exact ok_do rfl fun a ha => d_nilp ha rfl e3
                · intro j _ _; exact ok_do rfl fun a ha => d_fa ha rfl Try.runUnderlying84 rfl rfl Try.sizeOf82 (by decide)
                · intro j h1 h2; obtain rfl : j = 2 := Nat.le_antisymm h2 h1; exact ok_do rfl fun a ha => d_st ha rfl rfl Try.sizeOf82 e43
              · have ha : Has 51 [] a := ha.sub trivial
                refine t_n ?_
                replace ha : Has 51 [] _ := ha.sub trivial
                refine wp_seq ?_
                refine region_lit ?_
                refine s_do rfl ha (ltd rfl) (d_assign ha rfl) (fun a ha => ?_)
                refine s_nil ?_
                refine t_n ?_
                replace ha : Has 51 [(6, (.int .i64 0))] _ := ha.sub ⟨rfl, trivial⟩
                refine wp_ret ?_
                have hS := ha
                cases h
                exact ret1 Try.results22 hS rfl ⟨rfl, rfl⟩
      · clear h
        have h := e9
        refine region_lit ?_
        refine s_do rfl ha (ltd rfl) (d_move ha rfl) (fun a ha => ?_)
        refine s_do rfl ha (ltd rfl) (d_lt ha rfl rfl) (fun a ha => ?_)
        refine s_do rfl ha (ltd rfl) (d_move ha rfl) (fun a ha => ?_)
        refine ite_s h (fun b11 h => ?_) (fun b11 h => ?_)
        · refine s_no_g rfl rfl ha (rfl : List.lookup 19 _ = _) (tn b11) (ltd rfl) (fun a ha => ?_)
          refine s_no_g rfl rfl ha (rfl : List.lookup 19 _ = _) (tn b11) (ltd rfl) (fun a ha => ?_)
          refine s_no_g rfl rfl ha (rfl : List.lookup 19 _ = _) (tn b11) (ltd rfl) (fun a ha => ?_)
          refine s_no_g rfl rfl ha (rfl : List.lookup 19 _ = _) (tn b11) (ltd rfl) (fun a ha => ?_)
          refine s_no_g rfl rfl ha (rfl : List.lookup 19 _ = _) (tn b11) (ltd rfl) (fun a ha => ?_)
          refine s_no_g rfl rfl ha (rfl : List.lookup 19 _ = _) (tn b11) (ltd rfl) (fun a ha => ?_)
          refine s_no_g rfl rfl ha (rfl : List.lookup 19 _ = _) (tn b11) (ltd rfl) (fun a ha => ?_)
          refine s_do rfl ha (ltd rfl) (d_pick_t ha rfl b11 rfl) (fun a ha => ?_)
          refine s_do rfl ha (ltd rfl) (d_assign ha rfl) (fun a ha => ?_)
          refine s_nil ?_
          have hS : Has 51 [(16, (.bool true)), (0, (.pointer a0)), (1, (.int .i64 a1)), (2, (Sl.v a2))] _ := ha.sub ⟨rfl, rfl, rfl, rfl, trivial⟩
          cases h
          exact hk10 _ hS
        · refine s_do_g2 rfl rfl ha (rfl : List.lookup 19 _ = _) (nt b11) (ltd rfl) (d_move ha rfl) (fun a ha => ?_)
          refine s_do_g2 rfl rfl ha (rfl : List.lookup 19 _ = _) (nt b11) (ltd rfl) (d_move ha rfl) (fun a ha => ?_)
          refine s_do_g2 rfl rfl ha (rfl : List.lookup 19 _ = _) (nt b11) (ltd rfl) (d_nilp ha rfl e3) (fun a ha => ?_)
          refine s_do_g2 rfl rfl ha (rfl : List.lookup 19 _ = _) (nt b11) (ltd rfl) (d_fa ha rfl Try.runUnderlying84 rfl rfl Try.sizeOf81 (by decide)) (fun a ha => ?_)
          obtain ⟨v12, e13, h⟩ := bs1 h
          refine s_do_g2 rfl rfl ha (rfl : List.lookup 19 _ = _) (nt b11) (ltd rfl) (d_ld ha rfl Try.isAgg81 (ldL_c e13)) (fun a ha => ?_)
          refine s_do_g2 rfl rfl ha (rfl : List.lookup 19 _ = _) (nt b11) (ltd rfl) (d_lenS ha rfl Try.runUnderlying81) (fun a ha => ?_)
          refine s_do_g2 rfl rfl ha (rfl : List.lookup 19 _ = _) (nt b11) (ltd rfl) (d_ge ha rfl rfl) (fun a ha => ?_)
          refine s_do rfl ha (ltd rfl) (d_pick_f ha rfl b11 rfl) (fun a ha => ?_)
          refine s_do rfl ha (ltd rfl) (d_assign ha rfl) (fun a ha => ?_)
          refine s_nil ?_
          have hS : Has 51 [(16, (.bool (decide ((v12.n : Int) ≤ a1)))), (0, (.pointer a0)), (1, (.int .i64 a1)), (2, (Sl.v a2))] _ := ha.sub ⟨rfl, rfl, rfl, rfl, trivial⟩
          cases h
          exact hk10 _ hS

noncomputable def sector_Disk_Sync_l1 (v17 : Sl) (a0 : Option Addr) (x19 : Int) (w20 : World) : Option ((Int × World) ⊕ (World)) :=
  if (decide (x19 < (v17.n : Int))) = true then
  ((ix v17 x19 65).bind fun p27 =>
  (ldA 65 w20 p27 0).bind fun c29 =>
  bind2 (mk w20 88 ([.int .i64 0] ++ List.replicate 64 (.int .u8 0))) fun p31 w32 =>
  (stA w32 p31 0 c29).bind fun w34 =>
  (dr w34).bind fun w36 =>
  (a0).bind fun p38 =>
  (ldL w36 (p38.add 0)).bind fun v40 =>
  (ldI .i64 w36 (p31.add 0)).bind fun v42 =>
  (ldA 64 w36 (p31.add 1) 0).bind fun c44 =>
  (ix v40 v42 64).bind fun p46 =>
  (stA w36 p46 0 c44).bind fun w48 =>
  some (.inl ((IntKind.wrap .i64 (x19 + 1)), w48)))
  else
  (some (.inr w20))
noncomputable def sector_Disk_Sync (a0 : Option Addr) (w : World) : Option (Int × World) :=
  if (a0.isNone) = true then
  (some (1, w))
  else
  (bind2 ((a0).bind fun p6 =>
  (ldB w (p6.add 3)).bind fun v8 =>
  if v8 = true then
  (some (v8, w))
  else
  (bind2 (sector_Disk_trips a0 w) fun v11 w12 =>
  some (v11, w12))) fun v2 w3 =>
  if v2 = true then
  (some (10, w3))
  else
  ((a0).bind fun p15 =>
  (ldL w3 (p15.add 1)).bind fun v17 =>
  (loopF (fun s : Int × World => sector_Disk_Sync_l1 v17 a0 s.1 s.2) (0, w3)).bind fun w23 =>
  (stV w23 (p15.add 1) (Sl.v Sl.nil)).bind fun w50 =>
  some (0, w50)))
set_option maxHeartbeats 1000000 in
set_option maxRecDepth 100000 in
theorem sector_Disk_Sync_ok {a0 : Option Addr} {w w' : World} {r0 : Int} (h : sector_Disk_Sync a0 w = some (r0, w')) : Calls Try.prog 23 #[(.pointer a0)] w fun e w'' => e = .returned (.int .i64 r0) ∧ w'' = w' := by
  refine calls_dec (n := 37) Try.func23 rfl Try.ntmps23 (by simp) (fun a ha => ?_)
  unfold sector_Disk_Sync at h
  refine wp_seq ?_
  refine region_lit ?_
  refine s_do rfl ha (ltd rfl) (d_assign ha rfl) (fun a ha => ?_)
  refine s_nil ?_
  refine t_n ?_
  replace ha : Has 37 [(0, (.pointer a0))] _ := ha.sub ⟨rfl, trivial⟩
  refine wp_seq ?_
  refine wp_block ?_
  refine wp_seq ?_
  refine region_lit ?_
  refine s_do rfl ha (ltd rfl) (d_move ha rfl) (fun a ha => ?_)
  refine s_do rfl ha (ltd rfl) (d_eqN ha rfl rfl Try.runUnderlying22) (fun a ha => ?_)
  refine s_do rfl ha (ltd rfl) (d_assign ha rfl) (fun a ha => ?_)
  refine s_nil ?_
  refine t_n ?_
  replace ha : Has 37 [(0, (.pointer a0)), (5, (.bool (a0.isNone)))] _ := ha.sub ⟨rfl, rfl, trivial⟩
  refine s_cond ha rfl h (fun b1 h => ?_) (fun b1 h => ?_)
  · refine wp_seq ?_
    refine region_lit ?_
    refine s_do rfl ha (ltd rfl) (d_assign ha rfl) (fun a ha => ?_)
    refine s_nil ?_
    refine t_n ?_
    replace ha : Has 37 [(2, (.int .i64 1))] _ := ha.sub ⟨rfl, trivial⟩
    refine wp_ret ?_
    refine b_r ?_
    refine t_r ?_
    have hS := ha
    cases h
    exact ret1 Try.results23 hS rfl ⟨rfl, rfl⟩
  · obtain ⟨v2, w3, e4, h⟩ := bs2 h
    refine seq_join (n := 37) (L := [(8, (.bool v2)), (0, (.pointer a0))]) (w' := w3) (fun a ha => ?_) (fun hk5 => ?_)
    · refine s_cond ha rfl h (fun b14 h => ?_) (fun b14 h => ?_)
      · refine wp_seq ?_
        refine region_lit ?_
        refine s_do rfl ha (ltd rfl) (d_assign ha rfl) (fun a ha => ?_)
        refine s_nil ?_
        refine t_n ?_
        replace ha : Has 37 [(2, (.int .i64 10))] _ := ha.sub ⟨rfl, trivial⟩
        refine wp_ret ?_
        refine b_r ?_
        refine t_r ?_
        have hS := ha
        cases h
        exact ret1 Try.results23 hS rfl ⟨rfl, rfl⟩
      · refine wp_skip ?_
        refine b_n ?_
        refine t_n ?_
        replace ha : Has 37 [(0, (.pointer a0))] _ := ha.sub ⟨rfl, trivial⟩
        refine wp_seq ?_
        refine wp_seq ?_
        refine region_lit ?_
        refine s_do rfl ha (ltd rfl) (d_move ha rfl) (fun a ha => ?_)
        obtain ⟨p15, e16, h⟩ := bs1 h
        refine s_do rfl ha (ltd rfl) (d_nilp ha rfl e16) (fun a ha => ?_)
        refine s_do rfl ha (ltd rfl) (d_fa ha rfl Try.runUnderlying84 rfl rfl Try.sizeOf82 (by decide)) (fun a ha => ?_)
        obtain ⟨v17, e18, h⟩ := bs1 h
        refine s_do rfl ha (ltd rfl) (d_ld ha rfl Try.isAgg82 (ldL_c e18)) (fun a ha => ?_)
        refine s_do rfl ha (ltd rfl) (d_lenS ha rfl Try.runUnderlying82) (fun a ha => ?_)
        refine s_do rfl ha (ltd rfl) (d_move ha rfl) (fun a ha => ?_)
        refine s_nil ?_
        refine t_n ?_
        replace ha : Has 37 [(0, (.pointer a0)), (18, (Sl.v v17)), (19, (.int .i64 (v17.n : Int))), (20, (.int .i64 0))] _ := ha.sub ⟨rfl, rfl, rfl, rfl, trivial⟩
        refine wp_block ?_
        obtain ⟨w23, e22, h⟩ := bs1 h
        refine s_loop1 (n := 37) (L := [(0, (.pointer a0))]) (w' := w23) (e := .exit 1) (I := fun (s : Int × World) a w => Has 37 [(20, (.int .i64 s.1)), (0, (.pointer a0)), (18, (Sl.v v17)), (19, (.int .i64 (v17.n : Int)))] a ∧ w = s.2) ⟨ha.sub ⟨rfl, rfl, rfl, rfl, trivial⟩, rfl⟩ e22 (fun a ha => ?_) (fun hk24 => ?_)
        · refine b_hit ?_
          refine t_n ?_
          replace ha : Has 37 [(0, (.pointer a0))] _ := ha.sub ⟨rfl, trivial⟩
          refine wp_seq ?_
          refine region_lit ?_
          refine s_do rfl ha (ltd rfl) (d_move ha rfl) (fun a ha => ?_)
          refine s_do rfl ha (ltd rfl) (d_nilp ha rfl e16) (fun a ha => ?_)
          refine s_do rfl ha (ltd rfl) (d_fa ha rfl Try.runUnderlying84 rfl rfl Try.sizeOf82 (by decide)) (fun a ha => ?_)
          obtain ⟨w50, e51, h⟩ := bs1 h
          refine s_do rfl ha (ltd rfl) (d_st ha rfl rfl Try.sizeOf82 e51) (fun a ha => ?_)
          refine s_nil ?_
          refine t_n ?_
          replace ha : Has 37 [] _ := ha.sub trivial
          refine wp_seq ?_
          refine region_lit ?_
          refine s_do rfl ha (ltd rfl) (d_assign ha rfl) (fun a ha => ?_)
          refine s_nil ?_
          refine t_n ?_
          replace ha : Has 37 [(2, (.int .i64 0))] _ := ha.sub ⟨rfl, trivial⟩
          refine wp_ret ?_
          have hS := ha
          cases h
          exact ret1 Try.results23 hS rfl ⟨rfl, rfl⟩
        · clear h
          rintro ⟨x19, w20⟩ a wq o ⟨ha, hwq⟩ h hr25
          obtain rfl : w20 = wq := hwq.symm
          have ha : Has 37 [(20, (.int .i64 x19)), (0, (.pointer a0)), (18, (Sl.v v17)), (19, (.int .i64 (v17.n : Int)))] a := ha
          have h : sector_Disk_Sync_l1 v17 a0 x19 w20 = some o := h
          unfold sector_Disk_Sync_l1 at h
          refine wp_seq ?_
          refine region_lit ?_
          refine s_do rfl ha (ltd rfl) (d_lt ha rfl rfl) (fun a ha => ?_)
          refine s_nil ?_
          refine t_n ?_
          replace ha : Has 37 [(0, (.pointer a0)), (18, (Sl.v v17)), (19, (.int .i64 (v17.n : Int))), (20, (.int .i64 x19)), (21, (.bool (decide (x19 < (v17.n : Int)))))] _ := ha.sub ⟨rfl, rfl, rfl, rfl, rfl, trivial⟩
          refine wp_seq ?_
          refine s_cond ha rfl h (fun b26 h => ?_) (fun b26 h => ?_)
          · refine wp_skip ?_
            refine t_n ?_
            replace ha : Has 37 [(0, (.pointer a0)), (18, (Sl.v v17)), (19, (.int .i64 (v17.n : Int))), (20, (.int .i64 x19))] _ := ha.sub ⟨rfl, rfl, rfl, rfl, trivial⟩
            refine wp_seq ?_
            refine wp_block ?_
            refine wp_seq ?_
            refine region_lit ?_
            obtain ⟨p27, e28, h⟩ := bs1 h
            refine s_do rfl ha (ltd rfl) (d_ix ha rfl rfl Try.runUnderlying82 Try.sizeOf88 e28) (fun a ha => ?_)
            obtain ⟨c29, e30, h⟩ := bs1 h
            refine s_do rfl ha (ltd rfl) (d_ldA ha rfl Try.isAgg88 Try.sizeOf88 e30) (fun a ha => ?_)
            obtain ⟨p31, w32, e33, h⟩ := bs2 h
            refine s_do rfl ha (ltd rfl) (d_alloc Try.zeroValue88 (by kernel_rfl) e33) (fun a ha => ?_)
            obtain ⟨w34, e35, h⟩ := bs1 h
            refine s_do rfl ha (ltd rfl) (d_stA ha rfl rfl Try.sizeOf88 ((ldA_c e30).1) e35) (fun a ha => ?_)
            refine s_nil ?_
            refine t_n ?_
            replace ha : Has 37 [(0, (.pointer a0)), (4, (.pointer (some p31))), (18, (Sl.v v17)), (19, (.int .i64 (v17.n : Int))), (20, (.int .i64 x19))] _ := ha.sub ⟨rfl, rfl, rfl, rfl, rfl, trivial⟩
            obtain ⟨w36, e37, h⟩ := bs1 h
            obtain ⟨p38, e39, h⟩ := bs1 h
            obtain ⟨v40, e41, h⟩ := bs1 h
            obtain ⟨v42, e43, h⟩ := bs1 h
            obtain ⟨c44, e45, h⟩ := bs1 h
            obtain ⟨p46, e47, h⟩ := bs1 h
            obtain ⟨w48, e49, h⟩ := bs1 h
            have ha : Has 37 [(0, (.pointer a0)), (4, (.pointer (some p31))), (18, (Sl.v v17)), (19, (.int .i64 (v17.n : Int))), (20, (.int .i64 x19))] a := ha.sub ⟨rfl, rfl, rfl, rfl, rfl, trivial⟩
            refine region_draw (n := 37) (ds := (⟨_, (.pointer a0), false, 0, 0, [], [(0, (.pointer a0))]⟩ :: ⟨_, (.pointer (some p38)), false, 0, 0, [0], [(24, (.pointer a0))]⟩ :: ⟨_, (.pointer (some (p38.add 0))), false, 0, 0, [0, 1], [(25, (.pointer (some p38)))]⟩ :: ⟨_, (Sl.v v40), false, 0, 0, [0, 1, 2], [(26, (.pointer (some (p38.add 0))))]⟩ :: ⟨_, (.pointer (some (p31.add 0))), false, 0, 0, [], [(4, (.pointer (some p31)))]⟩ :: ⟨_, (.int .i64 v42), false, 0, 0, [4], [(28, (.pointer (some (p31.add 0))))]⟩ :: ⟨_, (.pointer (some (p31.add 1))), false, 0, 0, [], [(4, (.pointer (some p31)))]⟩ :: ⟨_, (.agg (List.toArray c44)), false, 0, 0, [6], [(30, (.pointer (some (p31.add 1))))]⟩ :: ⟨_, (.pointer (some p46)), false, 0, 0, [0, 1, 2, 3, 4, 5, 6, 7], [(27, (Sl.v v40)), (29, (.int .i64 v42))]⟩ :: ⟨_, undef, true, 0, 0, [0, 1, 2, 3, 4, 5, 6, 7, 8], [(32, (.pointer (some p46))), (31, (.agg (List.toArray c44)))]⟩ :: [])) (W := (fun j => match j with | 0 => w36 | _ => w48)) (by kernel_rfl) ha (dr_w e37) (by kernel_rfl) ?_ (reads_of (by kernel_rfl)) (by kernel_rfl) (m := 1) (by kernel_rfl) (fun a ha => ?_)
            · refine ⟨?_, ?_, ?_, ?_, ?_, ?_, ?_, ?_, ?_, ?_, trivial⟩
              · intro j _ _; exact ok_do rfl fun a ha => d_move ha rfl
              · intro j _ _; exact ok_do rfl fun a ha => d_nilp ha rfl e39
              · intro j _ _; exact ok_do rfl fun a ha => d_fa ha rfl Try.runUnderlying84 rfl rfl Try.sizeOf81 (by decide)
              · intro j h1 h2; obtain rfl : j = 0 := Nat.le_antisymm h2 h1; exact ok_do rfl fun a ha => d_ld ha rfl Try.isAgg81 (ldL_c e41)
              · intro j _ _; exact ok_do rfl fun a ha => d_fa ha rfl Try.runUnderlying88 rfl rfl Try.sizeOf3 (by decide)
              · intro j h1 h2; obtain rfl : j = 0 := Nat.le_antisymm h2 h1; exact ok_do rfl fun a ha => d_ld ha rfl Try.isAgg3 (ldI_c e43)
              · intro j _ _; exact ok_do rfl fun a ha => d_fa ha rfl Try.runUnderlying88 rfl rfl Try.sizeOf86 (by decide)
              · intro j h1 h2; obtain rfl : j = 0 := Nat.le_antisymm h2 h1; exact ok_do rfl fun a ha => d_ldA ha rfl Try.isAgg86 Try.sizeOf86 e45
              · intro j _ _; exact ok_do rfl fun a ha => d_ix ha rfl rfl Try.runUnderlying81 Try.sizeOf86 e47
              · intro j h1 h2; obtain rfl : j = 0 := Nat.le_antisymm h2 h1; exact ok_do rfl fun a ha => d_stA ha rfl rfl Try.sizeOf86 ((ldA_c e45).1) e49
            · have ha : Has 37 [(0, (.pointer a0)), (18, (Sl.v v17)), (19, (.int .i64 (v17.n : Int))), (20, (.int .i64 x19))] a := ha.sub ⟨rfl, rfl, rfl, rfl, trivial⟩
              refine b_n ?_
              refine t_n ?_
              replace ha : Has 37 [(0, (.pointer a0)), (18, (Sl.v v17)), (19, (.int .i64 (v17.n : Int))), (20, (.int .i64 x19))] _ := ha.sub ⟨rfl, rfl, rfl, rfl, trivial⟩
              refine region_lit ?_
              refine s_do rfl ha (ltd rfl) (d_add ha rfl rfl) (fun a ha => ?_)
              refine s_do rfl ha (ltd rfl) (d_move ha rfl) (fun a ha => ?_)
              refine s_nil ?_
              have hS : Has 37 [(20, (.int .i64 (IntKind.wrap .i64 (x19 + 1)))), (0, (.pointer a0)), (18, (Sl.v v17)), (19, (.int .i64 (v17.n : Int)))] _ := ha.sub ⟨rfl, rfl, rfl, rfl, trivial⟩
              cases h
              exact lp_next ⟨hS, rfl⟩
          · refine wp_exit ?_
            refine t_x ?_
            have hS : Has 37 [(0, (.pointer a0))] _ := ha.sub ⟨rfl, trivial⟩
            cases h
            cases hr25 _ rfl
            refine lp_x ?_
            exact hk24 _ hS
    · clear h
      have h := e4
      refine wp_seq ?_
      refine region_lit ?_
      refine s_do rfl ha (ltd rfl) (d_move ha rfl) (fun a ha => ?_)
      obtain ⟨p6, e7, h⟩ := bs1 h
      refine s_do rfl ha (ltd rfl) (d_nilp ha rfl e7) (fun a ha => ?_)
      refine s_do rfl ha (ltd rfl) (d_fa ha rfl Try.runUnderlying84 rfl rfl Try.sizeOf4 (by decide)) (fun a ha => ?_)
      obtain ⟨v8, e9, h⟩ := bs1 h
      refine s_do rfl ha (ltd rfl) (d_ld ha rfl Try.isAgg4 (ldB_c e9)) (fun a ha => ?_)
      refine s_do rfl ha (ltd rfl) (d_assign ha rfl) (fun a ha => ?_)
      refine s_nil ?_
      refine t_n ?_
      replace ha : Has 37 [(0, (.pointer a0)), (8, (.bool v8))] _ := ha.sub ⟨rfl, rfl, trivial⟩
      refine s_cond ha rfl h (fun b10 h => ?_) (fun b10 h => ?_)
      · refine wp_skip ?_
        have hS : Has 37 [(8, (.bool v8)), (0, (.pointer a0))] _ := ha.sub ⟨rfl, rfl, trivial⟩
        cases h
        exact hk5 _ hS
      · refine region_lit ?_
        refine s_do rfl ha (ltd rfl) (d_move ha rfl) (fun a ha => ?_)
        obtain ⟨v11, w12, e13, h⟩ := bs2 h
        refine s_do rfl ha (ltd rfl) (d_call (xs := [_]) (vs := [(.pointer a0)]) ha ⟨rfl, trivial⟩ Try.call41 (sector_Disk_trips_ok e13)) (fun a ha => ?_)
        refine s_do rfl ha (ltd rfl) (d_assign ha rfl) (fun a ha => ?_)
        refine s_nil ?_
        have hS : Has 37 [(8, (.bool v11)), (0, (.pointer a0))] _ := ha.sub ⟨rfl, rfl, trivial⟩
        cases h
        exact hk5 _ hS

noncomputable def sector_Disk_Sure (a0 : Option Addr) (a1 : Int) (w : World) : Option (Sl × Int × World) :=
  if (a0.isNone) = true then
  (some (Sl.nil, 1, w))
  else
  (bind2 (if (decide (a1 < 0)) = true then
  (some (true, w))
  else
  ((a0).bind fun p7 =>
  (ldL w (p7.add 0)).bind fun v9 =>
  some ((decide ((v9.n : Int) ≤ a1)), w))) fun v2 w3 =>
  if v2 = true then
  (some (Sl.nil, 2, w3))
  else
  ((a0).bind fun p12 =>
  (ldL w3 (p12.add 0)).bind fun v14 =>
  (ix v14 a1 64).bind fun p16 =>
  (ldA 64 w3 p16 0).bind fun c18 =>
  bind2 (mk w3 86 (List.replicate 64 (.int .u8 0))) fun p20 w21 =>
  (stA w21 p20 0 c18).bind fun w23 =>
  (slA p20 64 0 64 64 1).bind fun s25 =>
  some (s25, 0, w23)))
set_option maxHeartbeats 1000000 in
set_option maxRecDepth 100000 in
theorem sector_Disk_Sure_ok {a0 : Option Addr} {a1 : Int} {w w' : World} {r0 : Sl} {r1 : Int} (h : sector_Disk_Sure a0 a1 w = some (r0, r1, w')) : Calls Try.prog 24 #[(.pointer a0), (.int .i64 a1)] w fun e w'' => e = .returned (.tuple #[(Sl.v r0), (.int .i64 r1)]) ∧ w'' = w' := by
  refine calls_dec (n := 30) Try.func24 rfl Try.ntmps24 (by simp) (fun a ha => ?_)
  unfold sector_Disk_Sure at h
  refine wp_seq ?_
  refine region_lit ?_
  refine s_do rfl ha (ltd rfl) (d_assign ha rfl) (fun a ha => ?_)
  refine s_do rfl ha (ltd rfl) (d_assign ha rfl) (fun a ha => ?_)
  refine s_nil ?_
  refine t_n ?_
  replace ha : Has 30 [(0, (.pointer a0)), (1, (.int .i64 a1))] _ := ha.sub ⟨rfl, rfl, trivial⟩
  refine wp_seq ?_
  refine wp_block ?_
  refine wp_seq ?_
  refine region_lit ?_
  refine s_do rfl ha (ltd rfl) (d_move ha rfl) (fun a ha => ?_)
  refine s_do rfl ha (ltd rfl) (d_eqN ha rfl rfl Try.runUnderlying22) (fun a ha => ?_)
  refine s_do rfl ha (ltd rfl) (d_assign ha rfl) (fun a ha => ?_)
  refine s_nil ?_
  refine t_n ?_
  replace ha : Has 30 [(0, (.pointer a0)), (1, (.int .i64 a1)), (7, (.bool (a0.isNone)))] _ := ha.sub ⟨rfl, rfl, rfl, trivial⟩
  refine s_cond ha rfl h (fun b1 h => ?_) (fun b1 h => ?_)
  · refine wp_seq ?_
    refine region_lit ?_
    refine s_do rfl ha (ltd rfl) (d_assign ha rfl) (fun a ha => ?_)
    refine s_do rfl ha (ltd rfl) (d_assign ha rfl) (fun a ha => ?_)
    refine s_nil ?_
    refine t_n ?_
    replace ha : Has 30 [(4, (Sl.v Sl.nil)), (5, (.int .i64 1))] _ := ha.sub ⟨rfl, rfl, trivial⟩
    refine wp_ret ?_
    refine b_r ?_
    refine t_r ?_
    have hS := ha
    cases h
    exact ret2 Try.results24 hS rfl rfl ⟨rfl, rfl⟩
  · refine wp_seq ?_
    obtain ⟨v2, w3, e4, h⟩ := bs2 h
    refine reg_join (n := 30) (L := [(10, (.bool v2)), (0, (.pointer a0)), (1, (.int .i64 a1))]) (w' := w3) (fun a ha => ?_) (fun hk5 => ?_)
    · refine t_n ?_
      replace ha : Has 30 [(0, (.pointer a0)), (1, (.int .i64 a1)), (10, (.bool v2))] _ := ha.sub ⟨rfl, rfl, rfl, trivial⟩
      refine s_cond ha rfl h (fun b11 h => ?_) (fun b11 h => ?_)
      · refine wp_seq ?_
        refine region_lit ?_
        refine s_do rfl ha (ltd rfl) (d_assign ha rfl) (fun a ha => ?_)
        refine s_do rfl ha (ltd rfl) (d_assign ha rfl) (fun a ha => ?_)
        refine s_nil ?_
        refine t_n ?_
        replace ha : Has 30 [(4, (Sl.v Sl.nil)), (5, (.int .i64 2))] _ := ha.sub ⟨rfl, rfl, trivial⟩
        refine wp_ret ?_
        refine b_r ?_
        refine t_r ?_
        have hS := ha
        cases h
        exact ret2 Try.results24 hS rfl rfl ⟨rfl, rfl⟩
      · refine wp_skip ?_
        refine b_n ?_
        refine t_n ?_
        replace ha : Has 30 [(0, (.pointer a0)), (1, (.int .i64 a1))] _ := ha.sub ⟨rfl, rfl, trivial⟩
        refine wp_seq ?_
        refine region_lit ?_
        refine s_do rfl ha (ltd rfl) (d_move ha rfl) (fun a ha => ?_)
        obtain ⟨p12, e13, h⟩ := bs1 h
        refine s_do rfl ha (ltd rfl) (d_nilp ha rfl e13) (fun a ha => ?_)
        refine s_do rfl ha (ltd rfl) (d_fa ha rfl Try.runUnderlying84 rfl rfl Try.sizeOf81 (by decide)) (fun a ha => ?_)
        obtain ⟨v14, e15, h⟩ := bs1 h
        refine s_do rfl ha (ltd rfl) (d_ld ha rfl Try.isAgg81 (ldL_c e15)) (fun a ha => ?_)
        refine s_do rfl ha (ltd rfl) (d_move ha rfl) (fun a ha => ?_)
        obtain ⟨p16, e17, h⟩ := bs1 h
        refine s_do rfl ha (ltd rfl) (d_ix ha rfl rfl Try.runUnderlying81 Try.sizeOf86 e17) (fun a ha => ?_)
        obtain ⟨c18, e19, h⟩ := bs1 h
        refine s_do rfl ha (ltd rfl) (d_ldA ha rfl Try.isAgg86 Try.sizeOf86 e19) (fun a ha => ?_)
        obtain ⟨p20, w21, e22, h⟩ := bs2 h
        refine s_do rfl ha (ltd rfl) (d_alloc Try.zeroValue86 (by kernel_rfl) e22) (fun a ha => ?_)
        obtain ⟨w23, e24, h⟩ := bs1 h
        refine s_do rfl ha (ltd rfl) (d_stA ha rfl rfl Try.sizeOf86 ((ldA_c e19).1) e24) (fun a ha => ?_)
        refine s_nil ?_
        refine t_n ?_
        replace ha : Has 30 [(6, (.pointer (some p20)))] _ := ha.sub ⟨rfl, trivial⟩
        refine wp_seq ?_
        refine region_lit ?_
        obtain ⟨s25, e26, h⟩ := bs1 h
        refine s_do rfl ha (ltd rfl) (d_slA ha rfl Try.runUnderlying86 Try.sizeOf5 rfl rfl rfl (by simp) e26) (fun a ha => ?_)
        refine s_do rfl ha (ltd rfl) (d_assign ha rfl) (fun a ha => ?_)
        refine s_do rfl ha (ltd rfl) (d_assign ha rfl) (fun a ha => ?_)
        refine s_nil ?_
        refine t_n ?_
        replace ha : Has 30 [(4, (Sl.v s25)), (5, (.int .i64 0))] _ := ha.sub ⟨rfl, rfl, trivial⟩
        refine wp_ret ?_
        have hS := ha
        cases h
        exact ret2 Try.results24 hS rfl rfl ⟨rfl, rfl⟩
    · clear h
      have h := e4
      refine region_lit ?_
      refine s_do rfl ha (ltd rfl) (d_move ha rfl) (fun a ha => ?_)
      refine s_do rfl ha (ltd rfl) (d_lt ha rfl rfl) (fun a ha => ?_)
      refine s_do rfl ha (ltd rfl) (d_move ha rfl) (fun a ha => ?_)
      refine ite_s h (fun b6 h => ?_) (fun b6 h => ?_)
      · refine s_no_g rfl rfl ha (rfl : List.lookup 13 _ = _) (tn b6) (ltd rfl) (fun a ha => ?_)
        refine s_no_g rfl rfl ha (rfl : List.lookup 13 _ = _) (tn b6) (ltd rfl) (fun a ha => ?_)
        refine s_no_g rfl rfl ha (rfl : List.lookup 13 _ = _) (tn b6) (ltd rfl) (fun a ha => ?_)
        refine s_no_g rfl rfl ha (rfl : List.lookup 13 _ = _) (tn b6) (ltd rfl) (fun a ha => ?_)
        refine s_no_g rfl rfl ha (rfl : List.lookup 13 _ = _) (tn b6) (ltd rfl) (fun a ha => ?_)
        refine s_no_g rfl rfl ha (rfl : List.lookup 13 _ = _) (tn b6) (ltd rfl) (fun a ha => ?_)
        refine s_no_g rfl rfl ha (rfl : List.lookup 13 _ = _) (tn b6) (ltd rfl) (fun a ha => ?_)
        refine s_do rfl ha (ltd rfl) (d_pick_t ha rfl b6 rfl) (fun a ha => ?_)
        refine s_do rfl ha (ltd rfl) (d_assign ha rfl) (fun a ha => ?_)
        refine s_nil ?_
        have hS : Has 30 [(10, (.bool true)), (0, (.pointer a0)), (1, (.int .i64 a1))] _ := ha.sub ⟨rfl, rfl, rfl, trivial⟩
        cases h
        exact hk5 _ hS
      · refine s_do_g2 rfl rfl ha (rfl : List.lookup 13 _ = _) (nt b6) (ltd rfl) (d_move ha rfl) (fun a ha => ?_)
        refine s_do_g2 rfl rfl ha (rfl : List.lookup 13 _ = _) (nt b6) (ltd rfl) (d_move ha rfl) (fun a ha => ?_)
        obtain ⟨p7, e8, h⟩ := bs1 h
        refine s_do_g2 rfl rfl ha (rfl : List.lookup 13 _ = _) (nt b6) (ltd rfl) (d_nilp ha rfl e8) (fun a ha => ?_)
        refine s_do_g2 rfl rfl ha (rfl : List.lookup 13 _ = _) (nt b6) (ltd rfl) (d_fa ha rfl Try.runUnderlying84 rfl rfl Try.sizeOf81 (by decide)) (fun a ha => ?_)
        obtain ⟨v9, e10, h⟩ := bs1 h
        refine s_do_g2 rfl rfl ha (rfl : List.lookup 13 _ = _) (nt b6) (ltd rfl) (d_ld ha rfl Try.isAgg81 (ldL_c e10)) (fun a ha => ?_)
        refine s_do_g2 rfl rfl ha (rfl : List.lookup 13 _ = _) (nt b6) (ltd rfl) (d_lenS ha rfl Try.runUnderlying81) (fun a ha => ?_)
        refine s_do_g2 rfl rfl ha (rfl : List.lookup 13 _ = _) (nt b6) (ltd rfl) (d_ge ha rfl rfl) (fun a ha => ?_)
        refine s_do rfl ha (ltd rfl) (d_pick_f ha rfl b6 rfl) (fun a ha => ?_)
        refine s_do rfl ha (ltd rfl) (d_assign ha rfl) (fun a ha => ?_)
        refine s_nil ?_
        have hS : Has 30 [(10, (.bool (decide ((v9.n : Int) ≤ a1)))), (0, (.pointer a0)), (1, (.int .i64 a1))] _ := ha.sub ⟨rfl, rfl, rfl, trivial⟩
        cases h
        exact hk5 _ hS

noncomputable def sector_Disk_Read_l1 (a0 : Option Addr) (a1 : Int) (p21 : Addr) (x28 : Int) (w29 : World) : Option ((Int × World) ⊕ (World)) :=
  if (decide (0 ≤ x28)) = true then
  ((a0).bind fun p36 =>
  (ldL w29 (p36.add 1)).bind fun v38 =>
  (ix v38 x28 65).bind fun p40 =>
  (ldI .i64 w29 (p40.add 0)).bind fun v42 =>
  if (v42 == a1) = true then
  ((ldL w29 (p36.add 1)).bind fun v45 =>
  (ix v45 x28 65).bind fun p47 =>
  (ldA 64 w29 (p47.add 1) 0).bind fun c49 =>
  (stA w29 p21 0 c49).bind fun w51 =>
  some (.inr w51))
  else
  (some (.inl ((IntKind.wrap .i64 (x28 - 1)), w29))))
  else
  (some (.inr w29))
noncomputable def sector_Disk_Read (a0 : Option Addr) (a1 : Int) (w : World) : Option (Sl × Int × World) :=
  if (a0.isNone) = true then
  (some (Sl.nil, 1, w))
  else
  ((a0).bind fun p2 =>
  (ldB w (p2.add 3)).bind fun v4 =>
  if v4 = true then
  (some (Sl.nil, 10, w))
  else
  (bind2 (if (decide (a1 < 0)) = true then
  (some (true, w))
  else
  ((ldL w (p2.add 0)).bind fun v12 =>
  some ((decide ((v12.n : Int) ≤ a1)), w))) fun v7 w8 =>
  if v7 = true then
  (some (Sl.nil, 2, w8))
  else
  ((ldL w8 (p2.add 0)).bind fun v15 =>
  (ix v15 a1 64).bind fun p17 =>
  (ldA 64 w8 p17 0).bind fun c19 =>
  bind2 (mk w8 86 (List.replicate 64 (.int .u8 0))) fun p21 w22 =>
  (stA w22 p21 0 c19).bind fun w24 =>
  (ldL w24 (p2.add 1)).bind fun v26 =>
  (loopF (fun s : Int × World => sector_Disk_Read_l1 a0 a1 p21 s.1 s.2) ((IntKind.wrap .i64 ((v26.n : Int) - 1)), w24)).bind fun w32 =>
  (slA p21 64 0 64 64 1).bind fun s53 =>
  some (s53, 0, w32))))
set_option maxHeartbeats 1000000 in
set_option maxRecDepth 100000 in
theorem sector_Disk_Read_ok {a0 : Option Addr} {a1 : Int} {w w' : World} {r0 : Sl} {r1 : Int} (h : sector_Disk_Read a0 a1 w = some (r0, r1, w')) : Calls Try.prog 25 #[(.pointer a0), (.int .i64 a1)] w fun e w'' => e = .returned (.tuple #[(Sl.v r0), (.int .i64 r1)]) ∧ w'' = w' := by
  refine calls_dec (n := 64) Try.func25 rfl Try.ntmps25 (by simp) (fun a ha => ?_)
  unfold sector_Disk_Read at h
  refine wp_seq ?_
  refine region_lit ?_
  refine s_do rfl ha (ltd rfl) (d_assign ha rfl) (fun a ha => ?_)
  refine s_do rfl ha (ltd rfl) (d_assign ha rfl) (fun a ha => ?_)
  refine s_nil ?_
  refine t_n ?_
  replace ha : Has 64 [(0, (.pointer a0)), (1, (.int .i64 a1))] _ := ha.sub ⟨rfl, rfl, trivial⟩
  refine wp_seq ?_
  refine wp_block ?_
  refine wp_seq ?_
  refine region_lit ?_
  refine s_do rfl ha (ltd rfl) (d_move ha rfl) (fun a ha => ?_)
  refine s_do rfl ha (ltd rfl) (d_eqN ha rfl rfl Try.runUnderlying22) (fun a ha => ?_)
  refine s_do rfl ha (ltd rfl) (d_assign ha rfl) (fun a ha => ?_)
  refine s_nil ?_
  refine t_n ?_
  replace ha : Has 64 [(0, (.pointer a0)), (1, (.int .i64 a1)), (8, (.bool (a0.isNone)))] _ := ha.sub ⟨rfl, rfl, rfl, trivial⟩
  refine s_cond ha rfl h (fun b1 h => ?_) (fun b1 h => ?_)
  · refine wp_seq ?_
    refine region_lit ?_
    refine s_do rfl ha (ltd rfl) (d_assign ha rfl) (fun a ha => ?_)
    refine s_do rfl ha (ltd rfl) (d_assign ha rfl) (fun a ha => ?_)
    refine s_nil ?_
    refine t_n ?_
    replace ha : Has 64 [(4, (Sl.v Sl.nil)), (5, (.int .i64 1))] _ := ha.sub ⟨rfl, rfl, trivial⟩
    refine wp_ret ?_
    refine b_r ?_
    refine t_r ?_
    have hS := ha
    cases h
    exact ret2 Try.results25 hS rfl rfl ⟨rfl, rfl⟩
  · refine wp_seq ?_
    refine region_lit ?_
    refine s_do rfl ha (ltd rfl) (d_move ha rfl) (fun a ha => ?_)
    obtain ⟨p2, e3, h⟩ := bs1 h
    refine s_do rfl ha (ltd rfl) (d_nilp ha rfl e3) (fun a ha => ?_)
    refine s_do rfl ha (ltd rfl) (d_fa ha rfl Try.runUnderlying84 rfl rfl Try.sizeOf4 (by decide)) (fun a ha => ?_)
    obtain ⟨v4, e5, h⟩ := bs1 h
    refine s_do rfl ha (ltd rfl) (d_ld ha rfl Try.isAgg4 (ldB_c e5)) (fun a ha => ?_)
    refine s_do rfl ha (ltd rfl) (d_assign ha rfl) (fun a ha => ?_)
    refine s_nil ?_
    refine t_n ?_
    replace ha : Has 64 [(0, (.pointer a0)), (1, (.int .i64 a1)), (11, (.bool v4))] _ := ha.sub ⟨rfl, rfl, rfl, trivial⟩
    refine s_cond ha rfl h (fun b6 h => ?_) (fun b6 h => ?_)
    · refine wp_seq ?_
      refine region_lit ?_
      refine s_do rfl ha (ltd rfl) (d_assign ha rfl) (fun a ha => ?_)
      refine s_do rfl ha (ltd rfl) (d_assign ha rfl) (fun a ha => ?_)
      refine s_nil ?_
      refine t_n ?_
      replace ha : Has 64 [(4, (Sl.v Sl.nil)), (5, (.int .i64 10))] _ := ha.sub ⟨rfl, rfl, trivial⟩
      refine wp_ret ?_
      refine b_r ?_
      refine t_r ?_
      have hS := ha
      cases h
      exact ret2 Try.results25 hS rfl rfl ⟨rfl, rfl⟩
    · refine wp_seq ?_
      obtain ⟨v7, w8, e9, h⟩ := bs2 h
      refine reg_join (n := 64) (L := [(16, (.bool v7)), (0, (.pointer a0)), (1, (.int .i64 a1))]) (w' := w8) (fun a ha => ?_) (fun hk10 => ?_)
      · refine t_n ?_
        replace ha : Has 64 [(0, (.pointer a0)), (1, (.int .i64 a1)), (16, (.bool v7))] _ := ha.sub ⟨rfl, rfl, rfl, trivial⟩
        refine s_cond ha rfl h (fun b14 h => ?_) (fun b14 h => ?_)
        · refine wp_seq ?_
          refine region_lit ?_
          refine s_do rfl ha (ltd rfl) (d_assign ha rfl) (fun a ha => ?_)
          refine s_do rfl ha (ltd rfl) (d_assign ha rfl) (fun a ha => ?_)
          refine s_nil ?_
          refine t_n ?_
          replace ha : Has 64 [(4, (Sl.v Sl.nil)), (5, (.int .i64 2))] _ := ha.sub ⟨rfl, rfl, trivial⟩
          refine wp_ret ?_
          refine b_r ?_
          refine t_r ?_
          have hS := ha
          cases h
          exact ret2 Try.results25 hS rfl rfl ⟨rfl, rfl⟩
        · refine wp_skip ?_
          refine b_n ?_
          refine t_n ?_
          replace ha : Has 64 [(0, (.pointer a0)), (1, (.int .i64 a1))] _ := ha.sub ⟨rfl, rfl, trivial⟩
          refine wp_seq ?_
          refine region_lit ?_
          refine s_do rfl ha (ltd rfl) (d_move ha rfl) (fun a ha => ?_)
          refine s_do rfl ha (ltd rfl) (d_nilp ha rfl e3) (fun a ha => ?_)
          refine s_do rfl ha (ltd rfl) (d_fa ha rfl Try.runUnderlying84 rfl rfl Try.sizeOf81 (by decide)) (fun a ha => ?_)
          obtain ⟨v15, e16, h⟩ := bs1 h
          refine s_do rfl ha (ltd rfl) (d_ld ha rfl Try.isAgg81 (ldL_c e16)) (fun a ha => ?_)
          refine s_do rfl ha (ltd rfl) (d_move ha rfl) (fun a ha => ?_)
          obtain ⟨p17, e18, h⟩ := bs1 h
          refine s_do rfl ha (ltd rfl) (d_ix ha rfl rfl Try.runUnderlying81 Try.sizeOf86 e18) (fun a ha => ?_)
          obtain ⟨c19, e20, h⟩ := bs1 h
          refine s_do rfl ha (ltd rfl) (d_ldA ha rfl Try.isAgg86 Try.sizeOf86 e20) (fun a ha => ?_)
          obtain ⟨p21, w22, e23, h⟩ := bs2 h
          refine s_do rfl ha (ltd rfl) (d_alloc Try.zeroValue86 (by kernel_rfl) e23) (fun a ha => ?_)
          obtain ⟨w24, e25, h⟩ := bs1 h
          refine s_do rfl ha (ltd rfl) (d_stA ha rfl rfl Try.sizeOf86 ((ldA_c e20).1) e25) (fun a ha => ?_)
          refine s_nil ?_
          refine t_n ?_
          replace ha : Has 64 [(0, (.pointer a0)), (1, (.int .i64 a1)), (6, (.pointer (some p21)))] _ := ha.sub ⟨rfl, rfl, rfl, trivial⟩
          refine wp_seq ?_
          refine wp_seq ?_
          refine region_lit ?_
          refine s_do rfl ha (ltd rfl) (d_move ha rfl) (fun a ha => ?_)
          refine s_do rfl ha (ltd rfl) (d_nilp ha rfl e3) (fun a ha => ?_)
          refine s_do rfl ha (ltd rfl) (d_fa ha rfl Try.runUnderlying84 rfl rfl Try.sizeOf82 (by decide)) (fun a ha => ?_)
          obtain ⟨v26, e27, h⟩ := bs1 h
          refine s_do rfl ha (ltd rfl) (d_ld ha rfl Try.isAgg82 (ldL_c e27)) (fun a ha => ?_)
          refine s_do rfl ha (ltd rfl) (d_lenS ha rfl Try.runUnderlying82) (fun a ha => ?_)
          refine s_do rfl ha (ltd rfl) (d_sub ha rfl rfl) (fun a ha => ?_)
          refine s_do rfl ha (ltd rfl) (d_assign ha rfl) (fun a ha => ?_)
          refine s_nil ?_
          refine t_n ?_
          replace ha : Has 64 [(0, (.pointer a0)), (1, (.int .i64 a1)), (6, (.pointer (some p21))), (7, (.int .i64 (IntKind.wrap .i64 ((v26.n : Int) - 1))))] _ := ha.sub ⟨rfl, rfl, rfl, rfl, trivial⟩
          refine wp_block ?_
          obtain ⟨w32, e31, h⟩ := bs1 h
          refine s_loop1 (n := 64) (L := [(6, (.pointer (some p21)))]) (w' := w32) (e := .exit 1) (I := fun (s : Int × World) a w => Has 64 [(7, (.int .i64 s.1)), (0, (.pointer a0)), (1, (.int .i64 a1)), (6, (.pointer (some p21)))] a ∧ w = s.2) ⟨ha.sub ⟨rfl, rfl, rfl, rfl, trivial⟩, rfl⟩ e31 (fun a ha => ?_) (fun hk33 => ?_)
          · refine b_hit ?_
            refine t_n ?_
            replace ha : Has 64 [(6, (.pointer (some p21)))] _ := ha.sub ⟨rfl, trivial⟩
            refine wp_seq ?_
            refine region_lit ?_
            obtain ⟨s53, e54, h⟩ := bs1 h
            refine s_do rfl ha (ltd rfl) (d_slA ha rfl Try.runUnderlying86 Try.sizeOf5 rfl rfl rfl (by simp) e54) (fun a ha => ?_)
            refine s_do rfl ha (ltd rfl) (d_assign ha rfl) (fun a ha => ?_)
            refine s_do rfl ha (ltd rfl) (d_assign ha rfl) (fun a ha => ?_)
            refine s_nil ?_
            refine t_n ?_
            replace ha : Has 64 [(4, (Sl.v s53)), (5, (.int .i64 0))] _ := ha.sub ⟨rfl, rfl, trivial⟩
            refine wp_ret ?_
            have hS := ha
            cases h
            exact ret2 Try.results25 hS rfl rfl ⟨rfl, rfl⟩
          · clear h
            rintro ⟨x28, w29⟩ a wq o ⟨ha, hwq⟩ h hr34
            obtain rfl : w29 = wq := hwq.symm
            have ha : Has 64 [(7, (.int .i64 x28)), (0, (.pointer a0)), (1, (.int .i64 a1)), (6, (.pointer (some p21)))] a := ha
            have h : sector_Disk_Read_l1 a0 a1 p21 x28 w29 = some o := h
            unfold sector_Disk_Read_l1 at h
            refine wp_seq ?_
            refine wp_seq ?_
            refine region_lit ?_
            refine s_do rfl ha (ltd rfl) (d_move ha rfl) (fun a ha => ?_)
            refine s_do rfl ha (ltd rfl) (d_ge ha rfl rfl) (fun a ha => ?_)
            refine s_nil ?_
            refine t_n ?_
            replace ha : Has 64 [(0, (.pointer a0)), (1, (.int .i64 a1)), (6, (.pointer (some p21))), (7, (.int .i64 x28)), (42, (.bool (decide (0 ≤ x28))))] _ := ha.sub ⟨rfl, rfl, rfl, rfl, rfl, trivial⟩
            refine s_cond ha rfl h (fun b35 h => ?_) (fun b35 h => ?_)
            · refine wp_skip ?_
              refine t_n ?_
              replace ha : Has 64 [(0, (.pointer a0)), (1, (.int .i64 a1)), (6, (.pointer (some p21))), (7, (.int .i64 x28))] _ := ha.sub ⟨rfl, rfl, rfl, rfl, trivial⟩
              refine wp_seq ?_
              refine wp_block ?_
              refine wp_seq ?_
              refine region_lit ?_
              refine s_do rfl ha (ltd rfl) (d_move ha rfl) (fun a ha => ?_)
              obtain ⟨p36, e37, h⟩ := bs1 h
              refine s_do rfl ha (ltd rfl) (d_nilp ha rfl e37) (fun a ha => ?_)
              refine s_do rfl ha (ltd rfl) (d_fa ha rfl Try.runUnderlying84 rfl rfl Try.sizeOf82 (by decide)) (fun a ha => ?_)
              obtain ⟨v38, e39, h⟩ := bs1 h
              refine s_do rfl ha (ltd rfl) (d_ld ha rfl Try.isAgg82 (ldL_c e39)) (fun a ha => ?_)
              refine s_do rfl ha (ltd rfl) (d_move ha rfl) (fun a ha => ?_)
              obtain ⟨p40, e41, h⟩ := bs1 h
              refine s_do rfl ha (ltd rfl) (d_ix ha rfl rfl Try.runUnderlying82 Try.sizeOf88 e41) (fun a ha => ?_)
              refine s_do rfl ha (ltd rfl) (d_fa ha rfl Try.runUnderlying88 rfl rfl Try.sizeOf3 (by decide)) (fun a ha => ?_)
              obtain ⟨v42, e43, h⟩ := bs1 h
              refine s_do rfl ha (ltd rfl) (d_ld ha rfl Try.isAgg3 (ldI_c e43)) (fun a ha => ?_)
              refine s_do rfl ha (ltd rfl) (d_move ha rfl) (fun a ha => ?_)
              refine s_do rfl ha (ltd rfl) (d_eq ha rfl rfl) (fun a ha => ?_)
              refine s_nil ?_
              refine t_n ?_
              replace ha : Has 64 [(0, (.pointer a0)), (1, (.int .i64 a1)), (6, (.pointer (some p21))), (7, (.int .i64 x28)), (54, (.bool (v42 == a1)))] _ := ha.sub ⟨rfl, rfl, rfl, rfl, rfl, trivial⟩
              refine s_cond ha rfl h (fun b44 h => ?_) (fun b44 h => ?_)
              · refine wp_seq ?_
                refine region_lit ?_
                refine s_do rfl ha (ltd rfl) (d_move ha rfl) (fun a ha => ?_)
                refine s_do rfl ha (ltd rfl) (d_nilp ha rfl e37) (fun a ha => ?_)
                refine s_do rfl ha (ltd rfl) (d_fa ha rfl Try.runUnderlying84 rfl rfl Try.sizeOf82 (by decide)) (fun a ha => ?_)
                obtain ⟨v45, e46, h⟩ := bs1 h
                refine s_do rfl ha (ltd rfl) (d_ld ha rfl Try.isAgg82 (ldL_c e46)) (fun a ha => ?_)
                refine s_do rfl ha (ltd rfl) (d_move ha rfl) (fun a ha => ?_)
                obtain ⟨p47, e48, h⟩ := bs1 h
                refine s_do rfl ha (ltd rfl) (d_ix ha rfl rfl Try.runUnderlying82 Try.sizeOf88 e48) (fun a ha => ?_)
                refine s_do rfl ha (ltd rfl) (d_fa ha rfl Try.runUnderlying88 rfl rfl Try.sizeOf86 (by decide)) (fun a ha => ?_)
                obtain ⟨c49, e50, h⟩ := bs1 h
                refine s_do rfl ha (ltd rfl) (d_ldA ha rfl Try.isAgg86 Try.sizeOf86 e50) (fun a ha => ?_)
                obtain ⟨w51, e52, h⟩ := bs1 h
                refine s_do rfl ha (ltd rfl) (d_stA ha rfl rfl Try.sizeOf86 ((ldA_c e50).1) e52) (fun a ha => ?_)
                refine s_nil ?_
                refine t_n ?_
                replace ha : Has 64 [(6, (.pointer (some p21)))] _ := ha.sub ⟨rfl, trivial⟩
                refine wp_exit ?_
                refine b_x (by decide) ?_
                refine t_x ?_
                have hS : Has 64 [(6, (.pointer (some p21)))] _ := ha.sub ⟨rfl, trivial⟩
                cases h
                cases hr34 _ rfl
                refine lp_x ?_
                exact hk33 _ hS
              · refine wp_skip ?_
                refine b_n ?_
                refine t_n ?_
                replace ha : Has 64 [(0, (.pointer a0)), (1, (.int .i64 a1)), (6, (.pointer (some p21))), (7, (.int .i64 x28))] _ := ha.sub ⟨rfl, rfl, rfl, rfl, trivial⟩
                refine region_lit ?_
                refine s_do rfl ha (ltd rfl) (d_move ha rfl) (fun a ha => ?_)
                refine s_do rfl ha (ltd rfl) (d_sub ha rfl rfl) (fun a ha => ?_)
                refine s_do rfl ha (ltd rfl) (d_assign ha rfl) (fun a ha => ?_)
                refine s_nil ?_
                have hS : Has 64 [(7, (.int .i64 (IntKind.wrap .i64 (x28 - 1)))), (0, (.pointer a0)), (1, (.int .i64 a1)), (6, (.pointer (some p21)))] _ := ha.sub ⟨rfl, rfl, rfl, rfl, trivial⟩
                cases h
                exact lp_next ⟨hS, rfl⟩
            · refine wp_exit ?_
              refine t_x ?_
              have hS : Has 64 [(6, (.pointer (some p21)))] _ := ha.sub ⟨rfl, trivial⟩
              cases h
              cases hr34 _ rfl
              refine lp_x ?_
              exact hk33 _ hS
      · clear h
        have h := e9
        refine region_lit ?_
        refine s_do rfl ha (ltd rfl) (d_move ha rfl) (fun a ha => ?_)
        refine s_do rfl ha (ltd rfl) (d_lt ha rfl rfl) (fun a ha => ?_)
        refine s_do rfl ha (ltd rfl) (d_move ha rfl) (fun a ha => ?_)
        refine ite_s h (fun b11 h => ?_) (fun b11 h => ?_)
        · refine s_no_g rfl rfl ha (rfl : List.lookup 19 _ = _) (tn b11) (ltd rfl) (fun a ha => ?_)
          refine s_no_g rfl rfl ha (rfl : List.lookup 19 _ = _) (tn b11) (ltd rfl) (fun a ha => ?_)
          refine s_no_g rfl rfl ha (rfl : List.lookup 19 _ = _) (tn b11) (ltd rfl) (fun a ha => ?_)
          refine s_no_g rfl rfl ha (rfl : List.lookup 19 _ = _) (tn b11) (ltd rfl) (fun a ha => ?_)
          refine s_no_g rfl rfl ha (rfl : List.lookup 19 _ = _) (tn b11) (ltd rfl) (fun a ha => ?_)
          refine s_no_g rfl rfl ha (rfl : List.lookup 19 _ = _) (tn b11) (ltd rfl) (fun a ha => ?_)
          refine s_no_g rfl rfl ha (rfl : List.lookup 19 _ = _) (tn b11) (ltd rfl) (fun a ha => ?_)
          refine s_do rfl ha (ltd rfl) (d_pick_t ha rfl b11 rfl) (fun a ha => ?_)
          refine s_do rfl ha (ltd rfl) (d_assign ha rfl) (fun a ha => ?_)
          refine s_nil ?_
          have hS : Has 64 [(16, (.bool true)), (0, (.pointer a0)), (1, (.int .i64 a1))] _ := ha.sub ⟨rfl, rfl, rfl, trivial⟩
          cases h
          exact hk10 _ hS
        · refine s_do_g2 rfl rfl ha (rfl : List.lookup 19 _ = _) (nt b11) (ltd rfl) (d_move ha rfl) (fun a ha => ?_)
          refine s_do_g2 rfl rfl ha (rfl : List.lookup 19 _ = _) (nt b11) (ltd rfl) (d_move ha rfl) (fun a ha => ?_)
          refine s_do_g2 rfl rfl ha (rfl : List.lookup 19 _ = _) (nt b11) (ltd rfl) (d_nilp ha rfl e3) (fun a ha => ?_)
          refine s_do_g2 rfl rfl ha (rfl : List.lookup 19 _ = _) (nt b11) (ltd rfl) (d_fa ha rfl Try.runUnderlying84 rfl rfl Try.sizeOf81 (by decide)) (fun a ha => ?_)
          obtain ⟨v12, e13, h⟩ := bs1 h
          refine s_do_g2 rfl rfl ha (rfl : List.lookup 19 _ = _) (nt b11) (ltd rfl) (d_ld ha rfl Try.isAgg81 (ldL_c e13)) (fun a ha => ?_)
          refine s_do_g2 rfl rfl ha (rfl : List.lookup 19 _ = _) (nt b11) (ltd rfl) (d_lenS ha rfl Try.runUnderlying81) (fun a ha => ?_)
          refine s_do_g2 rfl rfl ha (rfl : List.lookup 19 _ = _) (nt b11) (ltd rfl) (d_ge ha rfl rfl) (fun a ha => ?_)
          refine s_do rfl ha (ltd rfl) (d_pick_f ha rfl b11 rfl) (fun a ha => ?_)
          refine s_do rfl ha (ltd rfl) (d_assign ha rfl) (fun a ha => ?_)
          refine s_nil ?_
          have hS : Has 64 [(16, (.bool (decide ((v12.n : Int) ≤ a1)))), (0, (.pointer a0)), (1, (.int .i64 a1))] _ := ha.sub ⟨rfl, rfl, rfl, trivial⟩
          cases h
          exact hk10 _ hS

noncomputable def sector_Disk_Crash_l1 (v4 : Sl) (a1 : Sl) (a0 : Option Addr) (x6 : Int) (w7 : World) : Option ((Int × World) ⊕ (World)) :=
  if (decide (x6 < (v4.n : Int))) = true then
  (((ix v4 x6 65).bind fun p17 =>
  (ldA 65 w7 p17 0).bind fun c19 =>
  bind2 (mk w7 88 ([.int .i64 0] ++ List.replicate 64 (.int .u8 0))) fun p21 w22 =>
  (stA w22 p21 0 c19).bind fun w24 =>
  bind2 (if (decide (x6 < (a1.n : Int))) = true then
  ((ix a1 x6 1).bind fun p31 =>
  (ldI .i64 w24 p31).bind fun v33 =>
  some ((IntKind.wrap .u64 v33), w24))
  else
  (some (0, w24))) fun v26 w27 =>
  (rmI v26 3).bind fun v35 =>
  if (v35 == 1) = true then
  ((dr w27).bind fun w38 =>
  (a0).bind fun p40 =>
  (ldL w38 (p40.add 0)).bind fun v42 =>
  (ldI .i64 w38 (p21.add 0)).bind fun v44 =>
  (ldA 64 w38 (p21.add 1) 0).bind fun c46 =>
  (ix v42 v44 64).bind fun p48 =>
  (stA w38 p48 0 c46).bind fun w50 =>
  some w50)
  else
  (if (v35 == 2) = true then
  ((dr w27).bind fun w53 =>
  (a0).bind fun p55 =>
  (ldL w53 (p55.add 0)).bind fun v57 =>
  (ldI .i64 w53 (p21.add 0)).bind fun v59 =>
  (ix v57 v59 64).bind fun p61 =>
  (dvI .u64 v26 3).bind fun v63 =>
  (rmI v63 64).bind fun v65 =>
  (slA p61 64 0 v65 64 1).bind fun s67 =>
  (slA (p21.add 1) 64 0 64 64 1).bind fun s69 =>
  bind2 (cpS Try.prog 29 29 s67 s69 w53) fun v71 w72 =>
  some w72)
  else
  (some w27))).bind fun w14 =>
  some (.inl ((IntKind.wrap .i64 (x6 + 1)), w14)))
  else
  (some (.inr w7))
noncomputable def sector_Disk_Crash (a0 : Option Addr) (a1 : Sl) (w : World) : Option (Int × World) :=
  if (a0.isNone) = true then
  (some (1, w))
  else
  ((a0).bind fun p2 =>
  (ldL w (p2.add 1)).bind fun v4 =>
  (loopF (fun s : Int × World => sector_Disk_Crash_l1 v4 a1 a0 s.1 s.2) (0, w)).bind fun w10 =>
  (stV w10 (p2.add 1) (Sl.v Sl.nil)).bind fun w74 =>
  (stV w74 (p2.add 2) (.int .i64 0)).bind fun w76 =>
  (stV w76 (p2.add 3) (.bool false)).bind fun w78 =>
  (ldI .i64 w78 (p2.add 4)).bind fun v80 =>
  (stV w78 (p2.add 4) (.int .i64 (IntKind.wrap .i64 (v80 + 1)))).bind fun w82 =>
  some (0, w82))
set_option maxHeartbeats 1000000 in
set_option maxRecDepth 100000 in
theorem sector_Disk_Crash_ok {a0 : Option Addr} {a1 : Sl} {w w' : World} {r0 : Int} (h : sector_Disk_Crash a0 a1 w = some (r0, w')) : Calls Try.prog 26 #[(.pointer a0), (Sl.v a1)] w fun e w'' => e = .returned (.int .i64 r0) ∧ w'' = w' := by
  refine calls_dec (n := 75) Try.func26 rfl Try.ntmps26 (by simp) (fun a ha => ?_)
  unfold sector_Disk_Crash at h
  refine wp_seq ?_
  refine region_lit ?_
  refine s_do rfl ha (ltd rfl) (d_assign ha rfl) (fun a ha => ?_)
  refine s_nil ?_
  refine t_n ?_
  replace ha : Has 75 [(0, (.pointer a0)), (1, (Sl.v a1))] _ := ha.sub ⟨rfl, rfl, trivial⟩
  refine wp_seq ?_
  refine wp_seq ?_
  refine region_lit ?_
  refine s_do rfl ha (ltd rfl) (d_move ha rfl) (fun a ha => ?_)
  refine s_do rfl ha (ltd rfl) (d_eqN ha rfl rfl Try.runUnderlying22) (fun a ha => ?_)
  refine s_nil ?_
  refine t_n ?_
  replace ha : Has 75 [(0, (.pointer a0)), (1, (Sl.v a1)), (9, (.bool (a0.isNone)))] _ := ha.sub ⟨rfl, rfl, rfl, trivial⟩
  refine s_cond ha rfl h (fun b1 h => ?_) (fun b1 h => ?_)
  · refine wp_seq ?_
    refine region_lit ?_
    refine s_do rfl ha (ltd rfl) (d_assign ha rfl) (fun a ha => ?_)
    refine s_nil ?_
    refine t_n ?_
    replace ha : Has 75 [(4, (.int .i64 1))] _ := ha.sub ⟨rfl, trivial⟩
    refine wp_ret ?_
    refine t_r ?_
    have hS := ha
    cases h
    exact ret1 Try.results26 hS rfl ⟨rfl, rfl⟩
  · refine wp_skip ?_
    refine t_n ?_
    replace ha : Has 75 [(0, (.pointer a0)), (1, (Sl.v a1))] _ := ha.sub ⟨rfl, rfl, trivial⟩
    refine wp_seq ?_
    refine wp_seq ?_
    refine region_lit ?_
    refine s_do rfl ha (ltd rfl) (d_move ha rfl) (fun a ha => ?_)
    obtain ⟨p2, e3, h⟩ := bs1 h
    refine s_do rfl ha (ltd rfl) (d_nilp ha rfl e3) (fun a ha => ?_)
    refine s_do rfl ha (ltd rfl) (d_fa ha rfl Try.runUnderlying84 rfl rfl Try.sizeOf82 (by decide)) (fun a ha => ?_)
    obtain ⟨v4, e5, h⟩ := bs1 h
    refine s_do rfl ha (ltd rfl) (d_ld ha rfl Try.isAgg82 (ldL_c e5)) (fun a ha => ?_)
    refine s_do rfl ha (ltd rfl) (d_lenS ha rfl Try.runUnderlying82) (fun a ha => ?_)
    refine s_do rfl ha (ltd rfl) (d_move ha rfl) (fun a ha => ?_)
    refine s_nil ?_
    refine t_n ?_
    replace ha : Has 75 [(0, (.pointer a0)), (1, (Sl.v a1)), (13, (Sl.v v4)), (14, (.int .i64 (v4.n : Int))), (15, (.int .i64 0))] _ := ha.sub ⟨rfl, rfl, rfl, rfl, rfl, trivial⟩
    refine wp_block ?_
    obtain ⟨w10, e9, h⟩ := bs1 h
    refine s_loop1 (n := 75) (L := [(0, (.pointer a0))]) (w' := w10) (e := .exit 0) (I := fun (s : Int × World) a w => Has 75 [(15, (.int .i64 s.1)), (0, (.pointer a0)), (1, (Sl.v a1)), (13, (Sl.v v4)), (14, (.int .i64 (v4.n : Int)))] a ∧ w = s.2) ⟨ha.sub ⟨rfl, rfl, rfl, rfl, rfl, trivial⟩, rfl⟩ e9 (fun a ha => ?_) (fun hk11 => ?_)
    · refine b_hit ?_
      refine t_n ?_
      replace ha : Has 75 [(0, (.pointer a0))] _ := ha.sub ⟨rfl, trivial⟩
      refine wp_seq ?_
      refine region_lit ?_
      refine s_do rfl ha (ltd rfl) (d_move ha rfl) (fun a ha => ?_)
      refine s_do rfl ha (ltd rfl) (d_move ha rfl) (fun a ha => ?_)
      refine s_do rfl ha (ltd rfl) (d_move ha rfl) (fun a ha => ?_)
      refine s_do rfl ha (ltd rfl) (d_nilp ha rfl e3) (fun a ha => ?_)
      refine s_do rfl ha (ltd rfl) (d_fa ha rfl Try.runUnderlying84 rfl rfl Try.sizeOf82 (by decide)) (fun a ha => ?_)
      obtain ⟨w74, e75, h⟩ := bs1 h
      refine s_do rfl ha (ltd rfl) (d_st ha rfl rfl Try.sizeOf82 e75) (fun a ha => ?_)
      refine s_do rfl ha (ltd rfl) (d_nilp ha rfl e3) (fun a ha => ?_)
      refine s_do rfl ha (ltd rfl) (d_fa ha rfl Try.runUnderlying84 rfl rfl Try.sizeOf3 (by decide)) (fun a ha => ?_)
      obtain ⟨w76, e77, h⟩ := bs1 h
      refine s_do rfl ha (ltd rfl) (d_st ha rfl rfl Try.sizeOf3 e77) (fun a ha => ?_)
      refine s_do rfl ha (ltd rfl) (d_nilp ha rfl e3) (fun a ha => ?_)
      refine s_do rfl ha (ltd rfl) (d_fa ha rfl Try.runUnderlying84 rfl rfl Try.sizeOf4 (by decide)) (fun a ha => ?_)
      obtain ⟨w78, e79, h⟩ := bs1 h
      refine s_do rfl ha (ltd rfl) (d_st ha rfl rfl Try.sizeOf4 e79) (fun a ha => ?_)
      refine s_nil ?_
      refine t_n ?_
      replace ha : Has 75 [(0, (.pointer a0))] _ := ha.sub ⟨rfl, trivial⟩
      refine wp_seq ?_
      refine region_lit ?_
      refine s_do rfl ha (ltd rfl) (d_move ha rfl) (fun a ha => ?_)
      refine s_do rfl ha (ltd rfl) (d_nilp ha rfl e3) (fun a ha => ?_)
      refine s_do rfl ha (ltd rfl) (d_fa ha rfl Try.runUnderlying84 rfl rfl Try.sizeOf3 (by decide)) (fun a ha => ?_)
      obtain ⟨v80, e81, h⟩ := bs1 h
      refine s_do rfl ha (ltd rfl) (d_ld ha rfl Try.isAgg3 (ldI_c e81)) (fun a ha => ?_)
      refine s_do rfl ha (ltd rfl) (d_add ha rfl rfl) (fun a ha => ?_)
      refine s_do rfl ha (ltd rfl) (d_nilp ha rfl e3) (fun a ha => ?_)
      refine s_do rfl ha (ltd rfl) (d_fa ha rfl Try.runUnderlying84 rfl rfl Try.sizeOf3 (by decide)) (fun a ha => ?_)
      obtain ⟨w82, e83, h⟩ := bs1 h
      refine s_do rfl ha (ltd rfl) (d_st ha rfl rfl Try.sizeOf3 e83) (fun a ha => ?_)
      refine s_nil ?_
      refine t_n ?_
      replace ha : Has 75 [] _ := ha.sub trivial
      refine wp_seq ?_
      refine region_lit ?_
      refine s_do rfl ha (ltd rfl) (d_assign ha rfl) (fun a ha => ?_)
      refine s_nil ?_
      refine t_n ?_
      replace ha : Has 75 [(4, (.int .i64 0))] _ := ha.sub ⟨rfl, trivial⟩
      refine wp_ret ?_
      have hS := ha
      cases h
      exact ret1 Try.results26 hS rfl ⟨rfl, rfl⟩
    · clear h
      rintro ⟨x6, w7⟩ a wq o ⟨ha, hwq⟩ h hr12
      obtain rfl : w7 = wq := hwq.symm
      have ha : Has 75 [(15, (.int .i64 x6)), (0, (.pointer a0)), (1, (Sl.v a1)), (13, (Sl.v v4)), (14, (.int .i64 (v4.n : Int)))] a := ha
      have h : sector_Disk_Crash_l1 v4 a1 a0 x6 w7 = some o := h
      unfold sector_Disk_Crash_l1 at h
      refine wp_seq ?_
      refine region_lit ?_
      refine s_do rfl ha (ltd rfl) (d_lt ha rfl rfl) (fun a ha => ?_)
      refine s_nil ?_
      refine t_n ?_
      replace ha : Has 75 [(0, (.pointer a0)), (1, (Sl.v a1)), (13, (Sl.v v4)), (14, (.int .i64 (v4.n : Int))), (15, (.int .i64 x6)), (16, (.bool (decide (x6 < (v4.n : Int)))))] _ := ha.sub ⟨rfl, rfl, rfl, rfl, rfl, rfl, trivial⟩
      refine wp_seq ?_
      refine s_cond ha rfl h (fun b13 h => ?_) (fun b13 h => ?_)
      · refine wp_skip ?_
        refine t_n ?_
        replace ha : Has 75 [(0, (.pointer a0)), (1, (Sl.v a1)), (13, (Sl.v v4)), (14, (.int .i64 (v4.n : Int))), (15, (.int .i64 x6))] _ := ha.sub ⟨rfl, rfl, rfl, rfl, rfl, trivial⟩
        obtain ⟨w14, e15, h⟩ := bs1 h
        refine seq_join (n := 75) (L := [(0, (.pointer a0)), (1, (Sl.v a1)), (13, (Sl.v v4)), (14, (.int .i64 (v4.n : Int))), (15, (.int .i64 x6))]) (w' := w14) (fun a ha => ?_) (fun hk16 => ?_)
        · refine region_lit ?_
          refine s_do rfl ha (ltd rfl) (d_add ha rfl rfl) (fun a ha => ?_)
          refine s_do rfl ha (ltd rfl) (d_move ha rfl) (fun a ha => ?_)
          refine s_nil ?_
          have hS : Has 75 [(15, (.int .i64 (IntKind.wrap .i64 (x6 + 1)))), (0, (.pointer a0)), (1, (Sl.v a1)), (13, (Sl.v v4)), (14, (.int .i64 (v4.n : Int)))] _ := ha.sub ⟨rfl, rfl, rfl, rfl, rfl, trivial⟩
          cases h
          exact lp_next ⟨hS, rfl⟩
        · clear h
          have h := e15
          refine wp_block ?_
          refine wp_seq ?_
          refine region_lit ?_
          refine s_do rfl ha (ltd rfl) (d_move ha rfl) (fun a ha => ?_)
          obtain ⟨p17, e18, h⟩ := bs1 h
          refine s_do rfl ha (ltd rfl) (d_ix ha rfl rfl Try.runUnderlying82 Try.sizeOf88 e18) (fun a ha => ?_)
          obtain ⟨c19, e20, h⟩ := bs1 h
          refine s_do rfl ha (ltd rfl) (d_ldA ha rfl Try.isAgg88 Try.sizeOf88 e20) (fun a ha => ?_)
          obtain ⟨p21, w22, e23, h⟩ := bs2 h
          refine s_do rfl ha (ltd rfl) (d_alloc Try.zeroValue88 (by kernel_rfl) e23) (fun a ha => ?_)
          refine s_do rfl ha (ltd rfl) (d_assign ha rfl) (fun a ha => ?_)
          obtain ⟨w24, e25, h⟩ := bs1 h
          refine s_do rfl ha (ltd rfl) (d_stA ha rfl rfl Try.sizeOf88 ((ldA_c e20).1) e25) (fun a ha => ?_)
          refine s_nil ?_
          refine t_n ?_
          replace ha : Has 75 [(0, (.pointer a0)), (1, (Sl.v a1)), (5, (.int .i64 x6)), (6, (.pointer (some p21))), (13, (Sl.v v4)), (14, (.int .i64 (v4.n : Int))), (15, (.int .i64 x6))] _ := ha.sub ⟨rfl, rfl, rfl, rfl, rfl, rfl, rfl, trivial⟩
          refine wp_seq ?_
          refine region_lit ?_
          refine s_do rfl ha (ltd rfl) (d_assign ha rfl) (fun a ha => ?_)
          refine s_nil ?_
          refine t_n ?_
          replace ha : Has 75 [(0, (.pointer a0)), (1, (Sl.v a1)), (5, (.int .i64 x6)), (6, (.pointer (some p21))), (7, (.int .u64 0)), (13, (Sl.v v4)), (14, (.int .i64 (v4.n : Int))), (15, (.int .i64 x6))] _ := ha.sub ⟨rfl, rfl, rfl, rfl, rfl, rfl, rfl, rfl, trivial⟩
          obtain ⟨v26, w27, e28, h⟩ := bs2 h
          refine seq_join (n := 75) (L := [(7, (.int .u64 v26)), (0, (.pointer a0)), (1, (Sl.v a1)), (6, (.pointer (some p21))), (13, (Sl.v v4)), (14, (.int .i64 (v4.n : Int))), (15, (.int .i64 x6))]) (w' := w27) (fun a ha => ?_) (fun hk29 => ?_)
          · refine wp_seq ?_
            refine region_lit ?_
            refine s_do rfl ha (ltd rfl) (d_move ha rfl) (fun a ha => ?_)
            obtain ⟨v35, e36, h⟩ := bs1 h
            refine s_do rfl ha (ltd rfl) (d_rem ha rfl rfl e36) (fun a ha => ?_)
            refine s_nil ?_
            refine t_n ?_
            replace ha : Has 75 [(0, (.pointer a0)), (1, (Sl.v a1)), (6, (.pointer (some p21))), (7, (.int .u64 v26)), (13, (Sl.v v4)), (14, (.int .i64 (v4.n : Int))), (15, (.int .i64 x6)), (30, (.int .u64 v35))] _ := ha.sub ⟨rfl, rfl, rfl, rfl, rfl, rfl, rfl, rfl, trivial⟩
            refine wp_block ?_
            refine wp_seq ?_
            refine region_lit ?_
            refine s_do rfl ha (ltd rfl) (d_eq ha rfl rfl) (fun a ha => ?_)
            refine s_do rfl ha (ltd rfl) (d_assign ha rfl) (fun a ha => ?_)
            refine s_nil ?_
            refine t_n ?_
            replace ha : Has 75 [(0, (.pointer a0)), (1, (Sl.v a1)), (6, (.pointer (some p21))), (7, (.int .u64 v26)), (13, (Sl.v v4)), (14, (.int .i64 (v4.n : Int))), (15, (.int .i64 x6)), (30, (.int .u64 v35)), (31, (.bool (v35 == 1)))] _ := ha.sub ⟨rfl, rfl, rfl, rfl, rfl, rfl, rfl, rfl, rfl, trivial⟩
            refine s_cond ha rfl h (fun b37 h => ?_) (fun b37 h => ?_)
            · obtain ⟨w38, e39, h⟩ := bs1 h
              obtain ⟨p40, e41, h⟩ := bs1 h
              obtain ⟨v42, e43, h⟩ := bs1 h
              obtain ⟨v44, e45, h⟩ := bs1 h
              obtain ⟨c46, e47, h⟩ := bs1 h
              obtain ⟨p48, e49, h⟩ := bs1 h
              obtain ⟨w50, e51, h⟩ := bs1 h
              have ha : Has 75 [(0, (.pointer a0)), (1, (Sl.v a1)), (6, (.pointer (some p21))), (7, (.int .u64 v26)), (13, (Sl.v v4)), (14, (.int .i64 (v4.n : Int))), (15, (.int .i64 x6)), (30, (.int .u64 v35)), (31, (.bool (v35 == 1)))] a := ha.sub ⟨rfl, rfl, rfl, rfl, rfl, rfl, rfl, rfl, rfl, trivial⟩
              refine region_draw (n := 75) (ds := (⟨_, (.pointer a0), false, 0, 0, [], [(0, (.pointer a0))]⟩ :: ⟨_, (.pointer (some p40)), false, 0, 0, [0], [(33, (.pointer a0))]⟩ :: ⟨_, (.pointer (some (p40.add 0))), false, 0, 0, [0, 1], [(34, (.pointer (some p40)))]⟩ :: ⟨_, (Sl.v v42), false, 0, 0, [0, 1, 2], [(35, (.pointer (some (p40.add 0))))]⟩ :: ⟨_, (.pointer (some (p21.add 0))), false, 0, 0, [], [(6, (.pointer (some p21)))]⟩ :: ⟨_, (.int .i64 v44), false, 0, 0, [4], [(37, (.pointer (some (p21.add 0))))]⟩ :: ⟨_, (.pointer (some (p21.add 1))), false, 0, 0, [], [(6, (.pointer (some p21)))]⟩ :: ⟨_, (.agg (List.toArray c46)), false, 0, 0, [6], [(39, (.pointer (some (p21.add 1))))]⟩ :: ⟨_, (.pointer (some p48)), false, 0, 0, [0, 1, 2, 3, 4, 5, 6, 7], [(36, (Sl.v v42)), (38, (.int .i64 v44))]⟩ :: ⟨_, undef, true, 0, 0, [0, 1, 2, 3, 4, 5, 6, 7, 8], [(41, (.pointer (some p48))), (40, (.agg (List.toArray c46)))]⟩ :: [])) (W := (fun j => match j with | 0 => w38 | _ => w50)) (by kernel_rfl) ha (dr_w e39) (by kernel_rfl) ?_ (reads_of (by kernel_rfl)) (by kernel_rfl) (m := 1) (by kernel_rfl) (fun a ha => ?_)
              · refine ⟨?_, ?_, ?_, ?_, ?_, ?_, ?_, ?_, ?_, ?_, trivial⟩
                · intro j _ _; exact ok_do rfl fun a ha => d_move ha rfl
                · intro j _ _; exact ok_do rfl fun a ha => d_nilp ha rfl e41
                · intro j _ _; exact ok_do rfl fun a ha => d_fa ha rfl Try.runUnderlying84 rfl rfl Try.sizeOf81 (by decide)
                · intro j h1 h2; obtain rfl : j = 0 := Nat.le_antisymm h2 h1; exact ok_do rfl fun a ha => d_ld ha rfl Try.isAgg81 (ldL_c e43)
                · intro j _ _; exact ok_do rfl fun a ha => d_fa ha rfl Try.runUnderlying88 rfl rfl Try.sizeOf3 (by decide)
                · intro j h1 h2; obtain rfl : j = 0 := Nat.le_antisymm h2 h1; exact ok_do rfl fun a ha => d_ld ha rfl Try.isAgg3 (ldI_c e45)
                · intro j _ _; exact ok_do rfl fun a ha => d_fa ha rfl Try.runUnderlying88 rfl rfl Try.sizeOf86 (by decide)
                · intro j h1 h2; obtain rfl : j = 0 := Nat.le_antisymm h2 h1; exact ok_do rfl fun a ha => d_ldA ha rfl Try.isAgg86 Try.sizeOf86 e47
                · intro j _ _; exact ok_do rfl fun a ha => d_ix ha rfl rfl Try.runUnderlying81 Try.sizeOf86 e49
                · intro j h1 h2; obtain rfl : j = 0 := Nat.le_antisymm h2 h1; exact ok_do rfl fun a ha => d_stA ha rfl rfl Try.sizeOf86 ((ldA_c e47).1) e51
              · have ha : Has 75 [(0, (.pointer a0)), (1, (Sl.v a1)), (13, (Sl.v v4)), (14, (.int .i64 (v4.n : Int))), (15, (.int .i64 x6))] a := ha.sub ⟨rfl, rfl, rfl, rfl, rfl, trivial⟩
                refine b_n ?_
                refine b_n ?_
                have hS : Has 75 [(0, (.pointer a0)), (1, (Sl.v a1)), (13, (Sl.v v4)), (14, (.int .i64 (v4.n : Int))), (15, (.int .i64 x6))] _ := ha.sub ⟨rfl, rfl, rfl, rfl, rfl, trivial⟩
                cases h
                exact hk16 _ hS
            · refine wp_seq ?_
              refine region_lit ?_
              refine s_do rfl ha (ltd rfl) (d_eq ha rfl rfl) (fun a ha => ?_)
              refine s_do rfl ha (ltd rfl) (d_assign ha rfl) (fun a ha => ?_)
              refine s_nil ?_
              refine t_n ?_
              replace ha : Has 75 [(0, (.pointer a0)), (1, (Sl.v a1)), (6, (.pointer (some p21))), (7, (.int .u64 v26)), (13, (Sl.v v4)), (14, (.int .i64 (v4.n : Int))), (15, (.int .i64 x6)), (42, (.bool (v35 == 2)))] _ := ha.sub ⟨rfl, rfl, rfl, rfl, rfl, rfl, rfl, rfl, trivial⟩
              refine s_cond ha rfl h (fun b52 h => ?_) (fun b52 h => ?_)
              · obtain ⟨w53, e54, h⟩ := bs1 h
                obtain ⟨p55, e56, h⟩ := bs1 h
                obtain ⟨v57, e58, h⟩ := bs1 h
                obtain ⟨v59, e60, h⟩ := bs1 h
                obtain ⟨p61, e62, h⟩ := bs1 h
                obtain ⟨v63, e64, h⟩ := bs1 h
                obtain ⟨v65, e66, h⟩ := bs1 h
                obtain ⟨s67, e68, h⟩ := bs1 h
                obtain ⟨s69, e70, h⟩ := bs1 h
                obtain ⟨v71, w72, e73, h⟩ := bs2 h
                have ha : Has 75 [(0, (.pointer a0)), (1, (Sl.v a1)), (6, (.pointer (some p21))), (7, (.int .u64 v26)), (13, (Sl.v v4)), (14, (.int .i64 (v4.n : Int))), (15, (.int .i64 x6)), (42, (.bool (v35 == 2)))] a := ha.sub ⟨rfl, rfl, rfl, rfl, rfl, rfl, rfl, rfl, trivial⟩
                refine region_draw (n := 75) (ds := (⟨_, (.pointer a0), false, 0, 0, [], [(0, (.pointer a0))]⟩ :: ⟨_, (.pointer (some p55)), false, 0, 0, [0], [(44, (.pointer a0))]⟩ :: ⟨_, (.pointer (some (p55.add 0))), false, 0, 0, [0, 1], [(45, (.pointer (some p55)))]⟩ :: ⟨_, (Sl.v v57), false, 0, 0, [0, 1, 2], [(46, (.pointer (some (p55.add 0))))]⟩ :: ⟨_, (.pointer (some (p21.add 0))), false, 0, 0, [], [(6, (.pointer (some p21)))]⟩ :: ⟨_, (.int .i64 v59), false, 0, 0, [4], [(48, (.pointer (some (p21.add 0))))]⟩ :: ⟨_, (.pointer (some p61)), false, 0, 0, [0, 1, 2, 3, 4, 5], [(47, (Sl.v v57)), (49, (.int .i64 v59))]⟩ :: ⟨_, (.int .u64 v26), false, 0, 0, [], [(7, (.int .u64 v26))]⟩ :: ⟨_, (.int .u64 v63), false, 0, 0, [7], [(51, (.int .u64 v26))]⟩ :: ⟨_, (.int .u64 v65), false, 0, 0, [7, 8], [(52, (.int .u64 v63))]⟩ :: ⟨_, (Sl.v s67), false, 0, 0, [0, 1, 2, 3, 4, 5, 6, 7, 8, 9], [(50, (.pointer (some p61))), (53, (.int .u64 v65))]⟩ :: ⟨_, (.pointer (some (p21.add 1))), false, 0, 0, [], [(6, (.pointer (some p21)))]⟩ :: ⟨_, (Sl.v s69), false, 0, 0, [11], [(55, (.pointer (some (p21.add 1))))]⟩ :: ⟨_, (.int .i64 v71), true, 0, 0, (0 :: 1 :: 2 :: 3 :: 4 :: 5 :: 6 :: 7 :: 8 :: 9 :: 10 :: 11 :: 12 :: []), [(54, (Sl.v s67)), (56, (Sl.v s69))]⟩ :: [])) (W := (fun j => match j with | 0 => w53 | _ => w72)) (by kernel_rfl) ha (dr_w e54) (by kernel_rfl) ?_ (reads_of (by kernel_rfl)) (by kernel_rfl) (m := 1) (by kernel_rfl) (fun a ha => ?_)
                · refine ⟨?_, ?_, ?_, ?_, ?_, ?_, ?_, ?_, ?_, ?_, ?_, ?_, ?_, ?_, trivial⟩
                  · intro j _ _; exact ok_do rfl fun a ha => d_move ha rfl
                  · intro j _ _; exact ok_do rfl fun a ha => d_nilp ha rfl e56
                  · intro j _ _; exact ok_do rfl fun a ha => d_fa ha rfl Try.runUnderlying84 rfl rfl Try.sizeOf81 (by decide)
                  · intro j h1 h2; obtain rfl : j = 0 := Nat.le_antisymm h2 h1; exact ok_do rfl fun a ha => d_ld ha rfl Try.isAgg81 (ldL_c e58)
                  · intro j _ _; exact ok_do rfl fun a ha => d_fa ha rfl Try.runUnderlying88 rfl rfl Try.sizeOf3 (by decide)
                  · intro j h1 h2; obtain rfl : j = 0 := Nat.le_antisymm h2 h1; exact ok_do rfl fun a ha => d_ld ha rfl Try.isAgg3 (ldI_c e60)
                  · intro j _ _; exact ok_do rfl fun a ha => d_ix ha rfl rfl Try.runUnderlying81 Try.sizeOf86 e62
                  · intro j _ _; exact ok_do rfl fun a ha => d_move ha rfl
                  · intro j _ _; exact ok_do rfl fun a ha => d_quo ha rfl rfl e64
                  · intro j _ _; exact ok_do rfl fun a ha => d_rem ha rfl rfl e66
                  · intro j _ _; exact ok_do rfl fun a ha => d_slA ha rfl Try.runUnderlying86 Try.sizeOf5 rfl ⟨_, rfl⟩ rfl (by simp) e68
                  · intro j _ _; exact ok_do rfl fun a ha => d_fa ha rfl Try.runUnderlying88 rfl rfl Try.sizeOf86 (by decide)
                  · intro j _ _; exact ok_do rfl fun a ha => d_slA ha rfl Try.runUnderlying86 Try.sizeOf5 rfl rfl rfl (by simp) e70
                  · intro j h1 h2; obtain rfl : j = 0 := Nat.le_antisymm h2 h1; exact ok_do rfl fun a ha => d_cpS ha rfl rfl e73
                · have ha : Has 75 [(0, (.pointer a0)), (1, (Sl.v a1)), (13, (Sl.v v4)), (14, (.int .i64 (v4.n : Int))), (15, (.int .i64 x6))] a := ha.sub ⟨rfl, rfl, rfl, rfl, rfl, trivial⟩
                  refine b_n ?_
                  refine b_n ?_
                  have hS : Has 75 [(0, (.pointer a0)), (1, (Sl.v a1)), (13, (Sl.v v4)), (14, (.int .i64 (v4.n : Int))), (15, (.int .i64 x6))] _ := ha.sub ⟨rfl, rfl, rfl, rfl, rfl, trivial⟩
                  cases h
                  exact hk16 _ hS
              · refine wp_skip ?_
                refine b_n ?_
                refine b_n ?_
                have hS : Has 75 [(0, (.pointer a0)), (1, (Sl.v a1)), (13, (Sl.v v4)), (14, (.int .i64 (v4.n : Int))), (15, (.int .i64 x6))] _ := ha.sub ⟨rfl, rfl, rfl, rfl, rfl, trivial⟩
                cases h
                exact hk16 _ hS
          · clear h
            have h := e28
            refine wp_seq ?_
            refine region_lit ?_
            refine s_do rfl ha (ltd rfl) (d_move ha rfl) (fun a ha => ?_)
            refine s_do rfl ha (ltd rfl) (d_move ha rfl) (fun a ha => ?_)
            refine s_do rfl ha (ltd rfl) (d_lenS ha rfl Try.runUnderlying35) (fun a ha => ?_)
            refine s_do rfl ha (ltd rfl) (d_lt ha rfl rfl) (fun a ha => ?_)
            refine s_nil ?_
            refine t_n ?_
            replace ha : Has 75 [(0, (.pointer a0)), (1, (Sl.v a1)), (5, (.int .i64 x6)), (6, (.pointer (some p21))), (7, (.int .u64 0)), (13, (Sl.v v4)), (14, (.int .i64 (v4.n : Int))), (15, (.int .i64 x6)), (23, (.bool (decide (x6 < (a1.n : Int)))))] _ := ha.sub ⟨rfl, rfl, rfl, rfl, rfl, rfl, rfl, rfl, rfl, trivial⟩
            refine s_cond ha rfl h (fun b30 h => ?_) (fun b30 h => ?_)
            · refine region_lit ?_
              refine s_do rfl ha (ltd rfl) (d_move ha rfl) (fun a ha => ?_)
              refine s_do rfl ha (ltd rfl) (d_move ha rfl) (fun a ha => ?_)
              obtain ⟨p31, e32, h⟩ := bs1 h
              refine s_do rfl ha (ltd rfl) (d_ix ha rfl rfl Try.runUnderlying35 Try.sizeOf3 e32) (fun a ha => ?_)
              obtain ⟨v33, e34, h⟩ := bs1 h
              refine s_do rfl ha (ltd rfl) (d_ld ha rfl Try.isAgg3 (ldI_c e34)) (fun a ha => ?_)
              refine s_do rfl ha (ltd rfl) (d_conv ha rfl Try.runUnderlying3 Try.runUnderlying47) (fun a ha => ?_)
              refine s_do rfl ha (ltd rfl) (d_assign ha rfl) (fun a ha => ?_)
              refine s_nil ?_
              have hS : Has 75 [(7, (.int .u64 (IntKind.wrap .u64 v33))), (0, (.pointer a0)), (1, (Sl.v a1)), (6, (.pointer (some p21))), (13, (Sl.v v4)), (14, (.int .i64 (v4.n : Int))), (15, (.int .i64 x6))] _ := ha.sub ⟨rfl, rfl, rfl, rfl, rfl, rfl, rfl, trivial⟩
              cases h
              exact hk29 _ hS
            · refine wp_skip ?_
              have hS : Has 75 [(7, (.int .u64 0)), (0, (.pointer a0)), (1, (Sl.v a1)), (6, (.pointer (some p21))), (13, (Sl.v v4)), (14, (.int .i64 (v4.n : Int))), (15, (.int .i64 x6))] _ := ha.sub ⟨rfl, rfl, rfl, rfl, rfl, rfl, rfl, trivial⟩
              cases h
              exact hk29 _ hS
      · refine wp_exit ?_
        refine t_x ?_
        have hS : Has 75 [(0, (.pointer a0))] _ := ha.sub ⟨rfl, trivial⟩
        cases h
        cases hr12 _ rfl
        refine lp_x ?_
        exact hk11 _ hS

noncomputable def sector_Disk_Trip (a0 : Option Addr) (a1 : Int) (w : World) : Option (Int × World) :=
  if (a0.isNone) = true then
  (some (1, w))
  else
  ((a0).bind fun p2 =>
  (ldB w (p2.add 3)).bind fun v4 =>
  if v4 = true then
  (some (10, w))
  else
  (if (decide (a1 < 0)) = true then
  (some (2, w))
  else
  ((stV w (p2.add 2) (.int .i64 a1)).bind fun w8 =>
  some (0, w8))))
set_option maxHeartbeats 1000000 in
set_option maxRecDepth 100000 in
theorem sector_Disk_Trip_ok {a0 : Option Addr} {a1 : Int} {w w' : World} {r0 : Int} (h : sector_Disk_Trip a0 a1 w = some (r0, w')) : Calls Try.prog 27 #[(.pointer a0), (.int .i64 a1)] w fun e w'' => e = .returned (.int .i64 r0) ∧ w'' = w' := by
  refine calls_dec (n := 20) Try.func27 rfl Try.ntmps27 (by simp) (fun a ha => ?_)
  unfold sector_Disk_Trip at h
  refine wp_seq ?_
  refine region_lit ?_
  refine s_do rfl ha (ltd rfl) (d_assign ha rfl) (fun a ha => ?_)
  refine s_nil ?_
  refine t_n ?_
  replace ha : Has 20 [(0, (.pointer a0)), (1, (.int .i64 a1))] _ := ha.sub ⟨rfl, rfl, trivial⟩
  refine wp_seq ?_
  refine wp_block ?_
  refine wp_seq ?_
  refine region_lit ?_
  refine s_do rfl ha (ltd rfl) (d_move ha rfl) (fun a ha => ?_)
  refine s_do rfl ha (ltd rfl) (d_eqN ha rfl rfl Try.runUnderlying22) (fun a ha => ?_)
  refine s_do rfl ha (ltd rfl) (d_assign ha rfl) (fun a ha => ?_)
  refine s_nil ?_
  refine t_n ?_
  replace ha : Has 20 [(0, (.pointer a0)), (1, (.int .i64 a1)), (5, (.bool (a0.isNone)))] _ := ha.sub ⟨rfl, rfl, rfl, trivial⟩
  refine s_cond ha rfl h (fun b1 h => ?_) (fun b1 h => ?_)
  · refine wp_seq ?_
    refine region_lit ?_
    refine s_do rfl ha (ltd rfl) (d_assign ha rfl) (fun a ha => ?_)
    refine s_nil ?_
    refine t_n ?_
    replace ha : Has 20 [(4, (.int .i64 1))] _ := ha.sub ⟨rfl, trivial⟩
    refine wp_ret ?_
    refine b_r ?_
    refine t_r ?_
    have hS := ha
    cases h
    exact ret1 Try.results27 hS rfl ⟨rfl, rfl⟩
  · refine wp_seq ?_
    refine region_lit ?_
    refine s_do rfl ha (ltd rfl) (d_move ha rfl) (fun a ha => ?_)
    obtain ⟨p2, e3, h⟩ := bs1 h
    refine s_do rfl ha (ltd rfl) (d_nilp ha rfl e3) (fun a ha => ?_)
    refine s_do rfl ha (ltd rfl) (d_fa ha rfl Try.runUnderlying84 rfl rfl Try.sizeOf4 (by decide)) (fun a ha => ?_)
    obtain ⟨v4, e5, h⟩ := bs1 h
    refine s_do rfl ha (ltd rfl) (d_ld ha rfl Try.isAgg4 (ldB_c e5)) (fun a ha => ?_)
    refine s_do rfl ha (ltd rfl) (d_assign ha rfl) (fun a ha => ?_)
    refine s_nil ?_
    refine t_n ?_
    replace ha : Has 20 [(0, (.pointer a0)), (1, (.int .i64 a1)), (8, (.bool v4))] _ := ha.sub ⟨rfl, rfl, rfl, trivial⟩
    refine s_cond ha rfl h (fun b6 h => ?_) (fun b6 h => ?_)
    · refine wp_seq ?_
      refine region_lit ?_
      refine s_do rfl ha (ltd rfl) (d_assign ha rfl) (fun a ha => ?_)
      refine s_nil ?_
      refine t_n ?_
      replace ha : Has 20 [(4, (.int .i64 10))] _ := ha.sub ⟨rfl, trivial⟩
      refine wp_ret ?_
      refine b_r ?_
      refine t_r ?_
      have hS := ha
      cases h
      exact ret1 Try.results27 hS rfl ⟨rfl, rfl⟩
    · refine wp_seq ?_
      refine region_lit ?_
      refine s_do rfl ha (ltd rfl) (d_move ha rfl) (fun a ha => ?_)
      refine s_do rfl ha (ltd rfl) (d_lt ha rfl rfl) (fun a ha => ?_)
      refine s_do rfl ha (ltd rfl) (d_assign ha rfl) (fun a ha => ?_)
      refine s_nil ?_
      refine t_n ?_
      replace ha : Has 20 [(0, (.pointer a0)), (1, (.int .i64 a1)), (13, (.bool (decide (a1 < 0))))] _ := ha.sub ⟨rfl, rfl, rfl, trivial⟩
      refine s_cond ha rfl h (fun b7 h => ?_) (fun b7 h => ?_)
      · refine wp_seq ?_
        refine region_lit ?_
        refine s_do rfl ha (ltd rfl) (d_assign ha rfl) (fun a ha => ?_)
        refine s_nil ?_
        refine t_n ?_
        replace ha : Has 20 [(4, (.int .i64 2))] _ := ha.sub ⟨rfl, trivial⟩
        refine wp_ret ?_
        refine b_r ?_
        refine t_r ?_
        have hS := ha
        cases h
        exact ret1 Try.results27 hS rfl ⟨rfl, rfl⟩
      · refine wp_skip ?_
        refine b_n ?_
        refine t_n ?_
        replace ha : Has 20 [(0, (.pointer a0)), (1, (.int .i64 a1))] _ := ha.sub ⟨rfl, rfl, trivial⟩
        refine wp_seq ?_
        refine region_lit ?_
        refine s_do rfl ha (ltd rfl) (d_move ha rfl) (fun a ha => ?_)
        refine s_do rfl ha (ltd rfl) (d_move ha rfl) (fun a ha => ?_)
        refine s_do rfl ha (ltd rfl) (d_nilp ha rfl e3) (fun a ha => ?_)
        refine s_do rfl ha (ltd rfl) (d_fa ha rfl Try.runUnderlying84 rfl rfl Try.sizeOf3 (by decide)) (fun a ha => ?_)
        obtain ⟨w8, e9, h⟩ := bs1 h
        refine s_do rfl ha (ltd rfl) (d_st ha rfl rfl Try.sizeOf3 e9) (fun a ha => ?_)
        refine s_nil ?_
        refine t_n ?_
        replace ha : Has 20 [] _ := ha.sub trivial
        refine wp_seq ?_
        refine region_lit ?_
        refine s_do rfl ha (ltd rfl) (d_assign ha rfl) (fun a ha => ?_)
        refine s_nil ?_
        refine t_n ?_
        replace ha : Has 20 [(4, (.int .i64 0))] _ := ha.sub ⟨rfl, trivial⟩
        refine wp_ret ?_
        have hS := ha
        cases h
        exact ret1 Try.results27 hS rfl ⟨rfl, rfl⟩

noncomputable def slices_Clone_sector_block_sector_block (a0 : Sl) (w : World) : Option (Sl × World) :=
  if (a0.p.isNone) = true then
  (some (Sl.nil, w))
  else
  (bind2 (bsl w 86 64 []) fun s2 w3 =>
  bind2 (apS Try.prog 81 s2 a0 w3) fun s5 w6 =>
  some (s5, w6))
set_option maxHeartbeats 1000000 in
set_option maxRecDepth 100000 in
theorem slices_Clone_sector_block_sector_block_ok {a0 : Sl} {w w' : World} {r0 : Sl} (h : slices_Clone_sector_block_sector_block a0 w = some (r0, w')) : Calls Try.prog 46 #[(Sl.v a0)] w fun e w'' => e = .returned (Sl.v r0) ∧ w'' = w' := by
  refine calls_dec (n := 8) Try.func46 rfl Try.ntmps46 (by simp) (fun a ha => ?_)
  unfold slices_Clone_sector_block_sector_block at h
  refine wp_seq ?_
  refine region_lit ?_
  refine s_do rfl ha (ltd rfl) (d_assign ha rfl) (fun a ha => ?_)
  refine s_nil ?_
  refine t_n ?_
  replace ha : Has 8 [(0, (Sl.v a0))] _ := ha.sub ⟨rfl, trivial⟩
  refine wp_seq ?_
  refine wp_seq ?_
  refine region_lit ?_
  refine s_do rfl ha (ltd rfl) (d_move ha rfl) (fun a ha => ?_)
  refine s_do rfl ha (ltd rfl) (d_eqL ha rfl rfl Try.runUnderlying81) (fun a ha => ?_)
  refine s_nil ?_
  refine t_n ?_
  replace ha : Has 8 [(0, (Sl.v a0)), (4, (.bool (a0.p.isNone)))] _ := ha.sub ⟨rfl, rfl, trivial⟩
  refine s_cond ha rfl h (fun b1 h => ?_) (fun b1 h => ?_)
  · refine wp_seq ?_
    refine region_lit ?_
    refine s_do rfl ha (ltd rfl) (d_assign ha rfl) (fun a ha => ?_)
    refine s_nil ?_
    refine t_n ?_
    replace ha : Has 8 [(2, (Sl.v Sl.nil))] _ := ha.sub ⟨rfl, trivial⟩
    refine wp_ret ?_
    refine t_r ?_
    have hS := ha
    cases h
    exact ret1 Try.results46 hS rfl ⟨rfl, rfl⟩
  · refine wp_skip ?_
    refine t_n ?_
    replace ha : Has 8 [(0, (Sl.v a0))] _ := ha.sub ⟨rfl, trivial⟩
    refine wp_seq ?_
    refine region_lit ?_
    obtain ⟨s2, w3, e4, h⟩ := bs2 h
    refine s_do rfl ha (ltd rfl) (d_bsl (vs := []) (ps := []) ha trivial trivial rfl Try.runUnderlying81 Try.sizeOf86 Try.zeroValue86 (by decide) e4) (fun a ha => ?_)
    refine s_do rfl ha (ltd rfl) (d_move ha rfl) (fun a ha => ?_)
    obtain ⟨s5, w6, e7, h⟩ := bs2 h
    refine s_do rfl ha (ltd rfl) (d_apS ha rfl rfl e7) (fun a ha => ?_)
    refine s_do rfl ha (ltd rfl) (d_assign ha rfl) (fun a ha => ?_)
    refine s_nil ?_
    refine t_n ?_
    replace ha : Has 8 [(2, (Sl.v s5))] _ := ha.sub ⟨rfl, trivial⟩
    refine wp_ret ?_
    have hS := ha
    cases h
    exact ret1 Try.results46 hS rfl ⟨rfl, rfl⟩

noncomputable def slices_Clone_sector_write_sector_write (a0 : Sl) (w : World) : Option (Sl × World) :=
  if (a0.p.isNone) = true then
  (some (Sl.nil, w))
  else
  (bind2 (bsl w 88 65 []) fun s2 w3 =>
  bind2 (apS Try.prog 82 s2 a0 w3) fun s5 w6 =>
  some (s5, w6))
set_option maxHeartbeats 1000000 in
set_option maxRecDepth 100000 in
theorem slices_Clone_sector_write_sector_write_ok {a0 : Sl} {w w' : World} {r0 : Sl} (h : slices_Clone_sector_write_sector_write a0 w = some (r0, w')) : Calls Try.prog 47 #[(Sl.v a0)] w fun e w'' => e = .returned (Sl.v r0) ∧ w'' = w' := by
  refine calls_dec (n := 8) Try.func47 rfl Try.ntmps47 (by simp) (fun a ha => ?_)
  unfold slices_Clone_sector_write_sector_write at h
  refine wp_seq ?_
  refine region_lit ?_
  refine s_do rfl ha (ltd rfl) (d_assign ha rfl) (fun a ha => ?_)
  refine s_nil ?_
  refine t_n ?_
  replace ha : Has 8 [(0, (Sl.v a0))] _ := ha.sub ⟨rfl, trivial⟩
  refine wp_seq ?_
  refine wp_seq ?_
  refine region_lit ?_
  refine s_do rfl ha (ltd rfl) (d_move ha rfl) (fun a ha => ?_)
  refine s_do rfl ha (ltd rfl) (d_eqL ha rfl rfl Try.runUnderlying82) (fun a ha => ?_)
  refine s_nil ?_
  refine t_n ?_
  replace ha : Has 8 [(0, (Sl.v a0)), (4, (.bool (a0.p.isNone)))] _ := ha.sub ⟨rfl, rfl, trivial⟩
  refine s_cond ha rfl h (fun b1 h => ?_) (fun b1 h => ?_)
  · refine wp_seq ?_
    refine region_lit ?_
    refine s_do rfl ha (ltd rfl) (d_assign ha rfl) (fun a ha => ?_)
    refine s_nil ?_
    refine t_n ?_
    replace ha : Has 8 [(2, (Sl.v Sl.nil))] _ := ha.sub ⟨rfl, trivial⟩
    refine wp_ret ?_
    refine t_r ?_
    have hS := ha
    cases h
    exact ret1 Try.results47 hS rfl ⟨rfl, rfl⟩
  · refine wp_skip ?_
    refine t_n ?_
    replace ha : Has 8 [(0, (Sl.v a0))] _ := ha.sub ⟨rfl, trivial⟩
    refine wp_seq ?_
    refine region_lit ?_
    obtain ⟨s2, w3, e4, h⟩ := bs2 h
    refine s_do rfl ha (ltd rfl) (d_bsl (vs := []) (ps := []) ha trivial trivial rfl Try.runUnderlying82 Try.sizeOf88 Try.zeroValue88 (by decide) e4) (fun a ha => ?_)
    refine s_do rfl ha (ltd rfl) (d_move ha rfl) (fun a ha => ?_)
    obtain ⟨s5, w6, e7, h⟩ := bs2 h
    refine s_do rfl ha (ltd rfl) (d_apS ha rfl rfl e7) (fun a ha => ?_)
    refine s_do rfl ha (ltd rfl) (d_assign ha rfl) (fun a ha => ?_)
    refine s_nil ?_
    refine t_n ?_
    replace ha : Has 8 [(2, (Sl.v s5))] _ := ha.sub ⟨rfl, trivial⟩
    refine wp_ret ?_
    have hS := ha
    cases h
    exact ret1 Try.results47 hS rfl ⟨rfl, rfl⟩

noncomputable def sector_Disk_Fork (a0 : Option Addr) (w : World) : Option ((Option Addr) × World) :=
  if (a0.isNone) = true then
  (some (none, w))
  else
  ((a0).bind fun p2 =>
  (ldA 5 w p2 0).bind fun c4 =>
  bind2 (mk w 84 ([.slice none 0 0, .slice none 0 0, .int .i64 0, .bool false, .int .i64 0])) fun p6 w7 =>
  (stA w7 p6 0 c4).bind fun w9 =>
  (dr w9).bind fun w11 =>
  (ldL w11 (p2.add 0)).bind fun v13 =>
  bind2 (slices_Clone_sector_block_sector_block v13 w11) fun v15 w16 =>
  (ldL w16 (p2.add 1)).bind fun v18 =>
  bind2 (slices_Clone_sector_write_sector_write v18 w16) fun v20 w21 =>
  (stV w21 (p6.add 0) (Sl.v v15)).bind fun w23 =>
  (stV w23 (p6.add 1) (Sl.v v20)).bind fun w25 =>
  chk (ldL w11 (p2.add 1) = some v18) <|
  some ((some p6), w25))
set_option maxHeartbeats 1000000 in
set_option maxRecDepth 100000 in
theorem sector_Disk_Fork_ok {a0 : Option Addr} {w w' : World} {r0 : Option Addr} (h : sector_Disk_Fork a0 w = some (r0, w')) : Calls Try.prog 31 #[(.pointer a0)] w fun e w'' => e = .returned (.pointer r0) ∧ w'' = w' := by
  refine calls_dec (n := 21) Try.func31 rfl Try.ntmps31 (by simp) (fun a ha => ?_)
  unfold sector_Disk_Fork at h
  refine wp_seq ?_
  refine region_lit ?_
  refine s_do rfl ha (ltd rfl) (d_assign ha rfl) (fun a ha => ?_)
  refine s_nil ?_
  refine t_n ?_
  replace ha : Has 21 [(0, (.pointer a0))] _ := ha.sub ⟨rfl, trivial⟩
  refine wp_seq ?_
  refine wp_seq ?_
  refine region_lit ?_
  refine s_do rfl ha (ltd rfl) (d_move ha rfl) (fun a ha => ?_)
  refine s_do rfl ha (ltd rfl) (d_eqN ha rfl rfl Try.runUnderlying22) (fun a ha => ?_)
  refine s_nil ?_
  refine t_n ?_
  replace ha : Has 21 [(0, (.pointer a0)), (5, (.bool (a0.isNone)))] _ := ha.sub ⟨rfl, rfl, trivial⟩
  refine s_cond ha rfl h (fun b1 h => ?_) (fun b1 h => ?_)
  · refine wp_seq ?_
    refine region_lit ?_
    refine s_do rfl ha (ltd rfl) (d_assign ha rfl) (fun a ha => ?_)
    refine s_nil ?_
    refine t_n ?_
    replace ha : Has 21 [(2, (.pointer none))] _ := ha.sub ⟨rfl, trivial⟩
    refine wp_ret ?_
    refine t_r ?_
    have hS := ha
    cases h
    exact ret1 Try.results31 hS rfl ⟨rfl, rfl⟩
  · refine wp_skip ?_
    refine t_n ?_
    replace ha : Has 21 [(0, (.pointer a0))] _ := ha.sub ⟨rfl, trivial⟩
    refine wp_seq ?_
    refine region_lit ?_
    refine s_do rfl ha (ltd rfl) (d_move ha rfl) (fun a ha => ?_)
    obtain ⟨p2, e3, h⟩ := bs1 h
    refine s_do rfl ha (ltd rfl) (d_nilp ha rfl e3) (fun a ha => ?_)
    obtain ⟨c4, e5, h⟩ := bs1 h
    refine s_do rfl ha (ltd rfl) (d_ldA ha rfl Try.isAgg84 Try.sizeOf84 e5) (fun a ha => ?_)
    obtain ⟨p6, w7, e8, h⟩ := bs2 h
    refine s_do rfl ha (ltd rfl) (d_alloc Try.zeroValue84 (by kernel_rfl) e8) (fun a ha => ?_)
    obtain ⟨w9, e10, h⟩ := bs1 h
    refine s_do rfl ha (ltd rfl) (d_stA ha rfl rfl Try.sizeOf84 ((ldA_c e5).1) e10) (fun a ha => ?_)
    refine s_nil ?_
    refine t_n ?_
    replace ha : Has 21 [(0, (.pointer a0)), (3, (.pointer (some p6)))] _ := ha.sub ⟨rfl, rfl, trivial⟩
    refine wp_seq ?_
    obtain ⟨w11, e12, h⟩ := bs1 h
    obtain ⟨v13, e14, h⟩ := bs1 h
    obtain ⟨v15, w16, e17, h⟩ := bs2 h
    obtain ⟨v18, e19, h⟩ := bs1 h
    obtain ⟨v20, w21, e22, h⟩ := bs2 h
    obtain ⟨w23, e24, h⟩ := bs1 h
    obtain ⟨w25, e26, h⟩ := bs1 h
    obtain ⟨e27, h⟩ := chk_some h
    have ha : Has 21 [(0, (.pointer a0)), (3, (.pointer (some p6)))] a := ha.sub ⟨rfl, rfl, trivial⟩
    refine region_draw (n := 21) (ds := (⟨_, (.pointer a0), false, 0, 0, [], [(0, (.pointer a0))]⟩ :: ⟨_, (.pointer (some p2)), false, 0, 0, [0], [(9, (.pointer a0))]⟩ :: ⟨_, (.pointer (some (p2.add 0))), false, 0, 0, [0, 1], [(10, (.pointer (some p2)))]⟩ :: ⟨_, (Sl.v v13), false, 0, 0, [0, 1, 2], [(11, (.pointer (some (p2.add 0))))]⟩ :: ⟨_, (Sl.v v15), true, 0, 0, [0, 1, 2, 3], [(12, (Sl.v v13))]⟩ :: ⟨_, (.pointer a0), false, 0, 1, [], [(0, (.pointer a0))]⟩ :: ⟨_, (.pointer (some p2)), false, 0, 1, [5], [(14, (.pointer a0))]⟩ :: ⟨_, (.pointer (some (p2.add 1))), false, 0, 1, [5, 6], [(15, (.pointer (some p2)))]⟩ :: ⟨_, (Sl.v v18), false, 0, 1, [5, 6, 7], [(16, (.pointer (some (p2.add 1))))]⟩ :: ⟨_, (Sl.v v20), true, 1, 1, [0, 1, 2, 3, 4, 5, 6, 7, 8], [(17, (Sl.v v18))]⟩ :: ⟨_, (.pointer (some (p6.add 0))), false, 2, 2, [0, 1, 2, 3, 4, 5, 6, 7, 8, 9], [(3, (.pointer (some p6)))]⟩ :: ⟨_, undef, true, 2, 2, [0, 1, 2, 3, 4, 5, 6, 7, 8, 9, 10], [(19, (.pointer (some (p6.add 0)))), (13, (Sl.v v15))]⟩ :: ⟨_, (.pointer (some (p6.add 1))), false, 3, 3, [0, 1, 2, 3, 4, 5, 6, 7, 8, 9, 10, 11], [(3, (.pointer (some p6)))]⟩ :: ⟨_, undef, true, 3, 3, (0 :: 1 :: 2 :: 3 :: 4 :: 5 :: 6 :: 7 :: 8 :: 9 :: 10 :: 11 :: 12 :: []), [(20, (.pointer (some (p6.add 1)))), (18, (Sl.v v20))]⟩ :: [])) (W := (fun j => match j with | 0 => w11 | 1 => w16 | 2 => w21 | 3 => w23 | _ => w25)) (by kernel_rfl) ha (dr_w e12) (by kernel_rfl) ?_ (reads_of (by kernel_rfl)) (by kernel_rfl) (m := 4) (by kernel_rfl) (fun a ha => ?_)
    · refine ⟨?_, ?_, ?_, ?_, ?_, ?_, ?_, ?_, ?_, ?_, ?_, ?_, ?_, ?_, trivial⟩
      · intro j _ _; exact ok_do rfl fun a ha => d_move ha rfl
      · intro j _ _; exact ok_do rfl fun a ha => d_nilp ha rfl e3
      · intro j _ _; exact ok_do rfl fun a ha => d_fa ha rfl Try.runUnderlying84 rfl rfl Try.sizeOf81 (by decide)
      · intro j h1 h2; obtain rfl : j = 0 := Nat.le_antisymm h2 h1; exact ok_do rfl fun a ha => d_ld ha rfl Try.isAgg81 (ldL_c e14)
      · intro j h1 h2; obtain rfl : j = 0 := Nat.le_antisymm h2 h1; exact ok_do rfl fun a ha => d_call (xs := [_]) (vs := [(Sl.v v13)]) ha ⟨rfl, trivial⟩ Try.call46 (slices_Clone_sector_block_sector_block_ok e17)
      · intro j _ _; exact ok_do rfl fun a ha => d_move ha rfl
      · intro j _ _; exact ok_do rfl fun a ha => d_nilp ha rfl e3
      · intro j _ _; exact ok_do rfl fun a ha => d_fa ha rfl Try.runUnderlying84 rfl rfl Try.sizeOf82 (by decide)
      · intro j h1 h2; have h1 : 0 ≤ j := h1; have h2 : j ≤ 1 := h2; rcases (by omega : j = 0 ∨ j = 1) with rfl | rfl
        · exact ok_do rfl fun a ha => d_ld ha rfl Try.isAgg82 (ldL_c e27)
        · exact ok_do rfl fun a ha => d_ld ha rfl Try.isAgg82 (ldL_c e19)
      · intro j h1 h2; obtain rfl : j = 1 := Nat.le_antisymm h2 h1; exact ok_do rfl fun a ha => d_call (xs := [_]) (vs := [(Sl.v v18)]) ha ⟨rfl, trivial⟩ Try.call47 (slices_Clone_sector_write_sector_write_ok e22)
      · intro j _ _; exact ok_do rfl fun a ha => d_fa ha rfl Try.runUnderlying84 rfl rfl Try.sizeOf81 (by decide)
      · intro j h1 h2; obtain rfl : j = 2 := Nat.le_antisymm h2 h1; exact ok_do rfl fun a ha => d_st ha rfl rfl Try.sizeOf81 e24
      · intro j _ _; exact ok_do rfl fun a ha => d_fa ha rfl Try.runUnderlying84 rfl rfl Try.sizeOf82 (by decide)
      · intro j h1 h2; obtain rfl : j = 3 := Nat.le_antisymm h2 h1; exact ok_do rfl fun a ha => d_st ha rfl rfl Try.sizeOf82 e26
    · have ha : Has 21 [(3, (.pointer (some p6)))] a := ha.sub ⟨rfl, trivial⟩
      refine t_n ?_
      replace ha : Has 21 [(3, (.pointer (some p6)))] _ := ha.sub ⟨rfl, trivial⟩
      refine wp_seq ?_
      refine region_lit ?_
      refine s_do rfl ha (ltd rfl) (d_assign ha rfl) (fun a ha => ?_)
      refine s_nil ?_
      refine t_n ?_
      replace ha : Has 21 [(2, (.pointer (some p6)))] _ := ha.sub ⟨rfl, trivial⟩
      refine wp_ret ?_
      have hS := ha
      cases h
      exact ret1 Try.results31 hS rfl ⟨rfl, rfl⟩
end Go.Proofs.Ytoanmomopcaikaa.D
