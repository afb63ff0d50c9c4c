/- Written by dec.py of this project: Go functions as plain functions over the memory, and that the Go calls come to these. -/
import Derived.Test.YtoanmomopcaikaaGlue
import Derived.Test.YtoanmomopcaikaaFnD0
namespace Go.Proofs.Ytoanmomopcaikaa.D
open Go
set_option linter.unusedVariables false
set_option linter.unusedSimpArgs false

noncomputable def sector_Disk_Age (a0 : Option Addr) (w : World) : Option (Int × World) :=
  if (a0.isNone) = true then
  (some (0, w))
  else
  ((a0).bind fun p2 =>
  (ldI .i64 w (p2.add 4)).bind fun v4 =>
  some (v4, w))
set_option maxHeartbeats 1000000 in
set_option maxRecDepth 100000 in
theorem sector_Disk_Age_ok {a0 : Option Addr} {w w' : World} {r0 : Int} (h : sector_Disk_Age a0 w = some (r0, w')) : Calls Try.prog 34 #[(.pointer a0)] w fun e w'' => e = .returned (.int .i64 r0) ∧ w'' = w' := by
  refine calls_dec (n := 9) Try.func34 rfl Try.ntmps34 (by simp) (fun a ha => ?_)
  unfold sector_Disk_Age at h
  refine wp_seq ?_
  refine region_lit ?_
  refine s_do rfl ha (ltd rfl) (d_assign ha rfl) (fun a ha => ?_)
  refine s_nil ?_
  refine t_n ?_
  replace ha : Has 9 [(0, (.pointer a0))] _ := ha.sub ⟨rfl, trivial⟩
  refine wp_seq ?_
  refine wp_seq ?_
  refine region_lit ?_
  refine s_do rfl ha (ltd rfl) (d_move ha rfl) (fun a ha => ?_)
  refine s_do rfl ha (ltd rfl) (d_eqN ha rfl rfl Try.runUnderlying22) (fun a ha => ?_)
  refine s_nil ?_
  refine t_n ?_
  replace ha : Has 9 [(0, (.pointer a0)), (4, (.bool (a0.isNone)))] _ := ha.sub ⟨rfl, rfl, trivial⟩
  refine s_cond ha rfl h (fun b1 h => ?_) (fun b1 h => ?_)
  · refine wp_seq ?_
    refine region_lit ?_
    refine s_do rfl ha (ltd rfl) (d_assign ha rfl) (fun a ha => ?_)
    refine s_nil ?_
    refine t_n ?_
    replace ha : Has 9 [(2, (.int .i64 0))] _ := ha.sub ⟨rfl, trivial⟩
    refine wp_ret ?_
    refine t_r ?_
    have hS := ha
    cases h
    exact ret1 Try.results34 hS rfl ⟨rfl, rfl⟩
  · refine wp_skip ?_
    refine t_n ?_
    replace ha : Has 9 [(0, (.pointer a0))] _ := ha.sub ⟨rfl, trivial⟩
    refine wp_seq ?_
    refine region_lit ?_
    refine s_do rfl ha (ltd rfl) (d_move ha rfl) (fun a ha => ?_)
    obtain ⟨p2, e3, h⟩ := bs1 h
    refine s_do rfl ha (ltd rfl) (d_nilp ha rfl e3) (fun a ha => ?_)
    refine s_do rfl ha (ltd rfl) (d_fa ha rfl Try.runUnderlying84 rfl rfl Try.sizeOf3 (by decide)) (fun a ha => ?_)
    obtain ⟨v4, e5, h⟩ := bs1 h
    refine s_do rfl ha (ltd rfl) (d_ld ha rfl Try.isAgg3 (ldI_c e5)) (fun a ha => ?_)
    refine s_do rfl ha (ltd rfl) (d_assign ha rfl) (fun a ha => ?_)
    refine s_nil ?_
    refine t_n ?_
    replace ha : Has 9 [(2, (.int .i64 v4))] _ := ha.sub ⟨rfl, trivial⟩
    refine wp_ret ?_
    have hS := ha
    cases h
    exact ret1 Try.results34 hS rfl ⟨rfl, rfl⟩

noncomputable def grapevineref09_Disk_Fork (a0 : Option Addr) (w : World) : Option ((Option Addr) × World) :=
  if (a0.isNone) = true then
  (some (none, w))
  else
  ((dr w).bind fun w2 =>
  (a0).bind fun p4 =>
  (ldI .i64 w2 (p4.add 2)).bind fun v6 =>
  (ldB w2 (p4.add 3)).bind fun v8 =>
  (ldI .i64 w2 (p4.add 4)).bind fun v10 =>
  bind2 (mk w2 95 ([.slice none 0 0, .slice none 0 0, .int .i64 v6, .bool v8, .int .i64 v10])) fun p12 w13 =>
  (dr w13).bind fun w15 =>
  (ldL w15 (p12.add 0)).bind fun v17 =>
  (ldL w15 (p4.add 0)).bind fun v19 =>
  bind2 (apS Try.prog 92 v17 v19 w15) fun s21 w22 =>
  (stV w22 (p12.add 0) (Sl.v s21)).bind fun w24 =>
  (dr w24).bind fun w26 =>
  (ldL w26 (p12.add 1)).bind fun v28 =>
  (ldL w26 (p4.add 1)).bind fun v30 =>
  bind2 (apS Try.prog 93 v28 v30 w26) fun s32 w33 =>
  (stV w33 (p12.add 1) (Sl.v s32)).bind fun w35 =>
  some ((some p12), w35))
set_option maxHeartbeats 1000000 in
set_option maxRecDepth 100000 in
theorem grapevineref09_Disk_Fork_ok {a0 : Option Addr} {w w' : World} {r0 : Option Addr} (h : grapevineref09_Disk_Fork a0 w = some (r0, w')) : Calls Try.prog 32 #[(.pointer a0)] w fun e w'' => e = .returned (.pointer r0) ∧ w'' = w' := by
  refine calls_dec (n := 45) Try.func32 rfl Try.ntmps32 (by simp) (fun a ha => ?_)
  unfold grapevineref09_Disk_Fork at h
  refine wp_seq ?_
  refine region_lit ?_
  refine s_do rfl ha (ltd rfl) (d_assign ha rfl) (fun a ha => ?_)
  refine s_nil ?_
  refine t_n ?_
  replace ha : Has 45 [(0, (.pointer a0))] _ := ha.sub ⟨rfl, trivial⟩
  refine wp_seq ?_
  refine wp_seq ?_
  refine region_lit ?_
  refine s_do rfl ha (ltd rfl) (d_move ha rfl) (fun a ha => ?_)
  refine s_do rfl ha (ltd rfl) (d_eqN ha rfl rfl Try.runUnderlying44) (fun a ha => ?_)
  refine s_nil ?_
  refine t_n ?_
  replace ha : Has 45 [(0, (.pointer a0)), (5, (.bool (a0.isNone)))] _ := ha.sub ⟨rfl, rfl, trivial⟩
  refine s_cond ha rfl h (fun b1 h => ?_) (fun b1 h => ?_)
  · refine wp_seq ?_
    refine region_lit ?_
    refine s_do rfl ha (ltd rfl) (d_assign ha rfl) (fun a ha => ?_)
    refine s_nil ?_
    refine t_n ?_
    replace ha : Has 45 [(2, (.pointer none))] _ := ha.sub ⟨rfl, trivial⟩
    refine wp_ret ?_
    refine t_r ?_
    have hS := ha
    cases h
    exact ret1 Try.results32 hS rfl ⟨rfl, rfl⟩
  · refine wp_skip ?_
    refine t_n ?_
    replace ha : Has 45 [(0, (.pointer a0))] _ := ha.sub ⟨rfl, trivial⟩
    refine wp_seq ?_
    obtain ⟨w2, e3, h⟩ := bs1 h
    obtain ⟨p4, e5, h⟩ := bs1 h
    obtain ⟨v6, e7, h⟩ := bs1 h
    obtain ⟨v8, e9, h⟩ := bs1 h
    obtain ⟨v10, e11, h⟩ := bs1 h
    obtain ⟨p12, w13, e14, h⟩ := bs2 h
    have ha : Has 45 [(0, (.pointer a0))] a := ha.sub ⟨rfl, trivial⟩
    refine region_draw (n := 45) (ds := (⟨_, (.pointer a0), false, 0, 0, [], [(0, (.pointer a0))]⟩ :: ⟨_, (.pointer (some p4)), false, 0, 0, [0], [(6, (.pointer a0))]⟩ :: ⟨_, (.pointer (some (p4.add 2))), false, 0, 0, [0, 1], [(7, (.pointer (some p4)))]⟩ :: ⟨_, (.int .i64 v6), false, 0, 0, [0, 1, 2], [(8, (.pointer (some (p4.add 2))))]⟩ :: ⟨_, (.pointer a0), false, 0, 0, [], [(0, (.pointer a0))]⟩ :: ⟨_, (.pointer (some p4)), false, 0, 0, [4], [(10, (.pointer a0))]⟩ :: ⟨_, (.pointer (some (p4.add 3))), false, 0, 0, [4, 5], [(11, (.pointer (some p4)))]⟩ :: ⟨_, (.bool v8), false, 0, 0, [4, 5, 6], [(12, (.pointer (some (p4.add 3))))]⟩ :: ⟨_, (.pointer a0), false, 0, 0, [], [(0, (.pointer a0))]⟩ :: ⟨_, (.pointer (some p4)), false, 0, 0, [8], [(14, (.pointer a0))]⟩ :: ⟨_, (.pointer (some (p4.add 4))), false, 0, 0, [8, 9], [(15, (.pointer (some p4)))]⟩ :: ⟨_, (.int .i64 v10), false, 0, 0, [8, 9, 10], [(16, (.pointer (some (p4.add 4))))]⟩ :: ⟨_, (.agg (List.toArray ([.slice none 0 0, .slice none 0 0, .int .i64 v6, .bool v8, .int .i64 v10]))), false, 0, 0, [0, 1, 2, 3, 4, 5, 6, 7, 8, 9, 10, 11], [(9, (.int .i64 v6)), (13, (.bool v8)), (17, (.int .i64 v10))]⟩ :: ⟨_, (.pointer (some p12)), true, 0, 0, (0 :: 1 :: 2 :: 3 :: 4 :: 5 :: 6 :: 7 :: 8 :: 9 :: 10 :: 11 :: 12 :: []), [(18, (.agg (List.toArray ([.slice none 0 0, .slice none 0 0, .int .i64 v6, .bool v8, .int .i64 v10]))))]⟩ :: ⟨_, (.pointer (some p12)), false, 1, 1, (0 :: 1 :: 2 :: 3 :: 4 :: 5 :: 6 :: 7 :: 8 :: 9 :: 10 :: 11 :: 12 :: 13 :: []), [(19, (.pointer (some p12)))]⟩ :: [])) (W := (fun j => match j with | 0 => w2 | _ => w13)) (by kernel_rfl) ha (dr_w e3) (by kernel_rfl) ?_ (reads_of (by kernel_rfl)) (by kernel_rfl) (m := 1) (by kernel_rfl) (fun a ha => ?_)
    · refine ⟨?_, ?_, ?_, ?_, ?_, ?_, ?_, ?_, ?_, ?_, ?_, ?_, ?_, ?_, ?_, trivial⟩
      · intro j _ _; exact ok_do rfl fun a ha => d_move ha rfl
      · intro j _ _; exact ok_do rfl fun a ha => d_nilp ha rfl e5
      · intro j _ _; exact ok_do rfl fun a ha => d_fa ha rfl Try.runUnderlying95 rfl rfl Try.sizeOf3 (by decide)
      · intro j h1 h2; obtain rfl : j = 0 := Nat.le_antisymm h2 h1; exact ok_do rfl fun a ha => d_ld ha rfl Try.isAgg3 (ldI_c e7)
      · intro j _ _; exact ok_do rfl fun a ha => d_move ha rfl
      · intro j _ _; exact ok_do rfl fun a ha => d_nilp ha rfl e5
      · intro j _ _; exact ok_do rfl fun a ha => d_fa ha rfl Try.runUnderlying95 rfl rfl Try.sizeOf4 (by decide)
      · intro j h1 h2; obtain rfl : j = 0 := Nat.le_antisymm h2 h1; exact ok_do rfl fun a ha => d_ld ha rfl Try.isAgg4 (ldB_c e9)
      · intro j _ _; exact ok_do rfl fun a ha => d_move ha rfl
      · intro j _ _; exact ok_do rfl fun a ha => d_nilp ha rfl e5
      · intro j _ _; exact ok_do rfl fun a ha => d_fa ha rfl Try.runUnderlying95 rfl rfl Try.sizeOf3 (by decide)
      · intro j h1 h2; obtain rfl : j = 0 := Nat.le_antisymm h2 h1; exact ok_do rfl fun a ha => d_ld ha rfl Try.isAgg3 (ldI_c e11)
      · intro j _ _; exact ok_do rfl fun a ha => d_build (vs := [(2, (.int .i64 v6)), (3, (.bool v8)), (4, (.int .i64 v10))]) (pl := #[(0, 1), (1, 1), (2, 1), (3, 1), (4, 1)]) (cs := ([.slice none 0 0, .slice none 0 0, .int .i64 v6, .bool v8, .int .i64 v10])) ha ⟨rfl, rfl, rfl, rfl, rfl, rfl, trivial⟩ Try.zeroValue95 Try.runUnderlying95 (by intro w; kernel_rfl) (by kernel_rfl)
      · intro j h1 h2; obtain rfl : j = 0 := Nat.le_antisymm h2 h1; exact ok_do rfl fun a ha => d_box ha rfl rfl e14
      · intro j _ _; exact ok_do rfl fun a ha => d_assign ha rfl
    · have ha : Has 45 [(0, (.pointer a0)), (3, (.pointer (some p12)))] a := ha.sub ⟨rfl, rfl, trivial⟩
      refine t_n ?_
      replace ha : Has 45 [(0, (.pointer a0)), (3, (.pointer (some p12)))] _ := ha.sub ⟨rfl, rfl, trivial⟩
      refine wp_seq ?_
      obtain ⟨w15, e16, h⟩ := bs1 h
      obtain ⟨v17, e18, h⟩ := bs1 h
      obtain ⟨v19, e20, h⟩ := bs1 h
      obtain ⟨s21, w22, e23, h⟩ := bs2 h
      obtain ⟨w24, e25, h⟩ := bs1 h
      have ha : Has 45 [(0, (.pointer a0)), (3, (.pointer (some p12)))] a := ha.sub ⟨rfl, rfl, trivial⟩
      refine region_draw (n := 45) (ds := (⟨_, (.pointer (some p12)), false, 0, 1, [], [(3, (.pointer (some p12)))]⟩ :: ⟨_, (.pointer (some p12)), false, 0, 0, [], [(3, (.pointer (some p12)))]⟩ :: ⟨_, (.pointer (some p12)), false, 0, 0, [1], [(21, (.pointer (some p12)))]⟩ :: ⟨_, (.pointer (some (p12.add 0))), false, 0, 0, [1, 2], [(22, (.pointer (some p12)))]⟩ :: ⟨_, (Sl.v v17), false, 0, 0, [1, 2, 3], [(23, (.pointer (some (p12.add 0))))]⟩ :: ⟨_, (.pointer a0), false, 0, 0, [], [(0, (.pointer a0))]⟩ :: ⟨_, (.pointer (some p4)), false, 0, 0, [5], [(25, (.pointer a0))]⟩ :: ⟨_, (.pointer (some (p4.add 0))), false, 0, 0, [5, 6], [(26, (.pointer (some p4)))]⟩ :: ⟨_, (Sl.v v19), false, 0, 0, [5, 6, 7], [(27, (.pointer (some (p4.add 0))))]⟩ :: ⟨_, (Sl.v s21), true, 0, 0, [1, 2, 3, 4, 5, 6, 7, 8], [(24, (Sl.v v17)), (28, (Sl.v v19))]⟩ :: ⟨_, (.pointer (some p12)), false, 1, 1, [0, 1, 2, 3, 4, 5, 6, 7, 8, 9], [(20, (.pointer (some p12)))]⟩ :: ⟨_, (.pointer (some (p12.add 0))), false, 1, 1, [0, 1, 2, 3, 4, 5, 6, 7, 8, 9, 10], [(30, (.pointer (some p12)))]⟩ :: ⟨_, undef, true, 1, 1, [0, 1, 2, 3, 4, 5, 6, 7, 8, 9, 10, 11], [(31, (.pointer (some (p12.add 0)))), (29, (Sl.v s21))]⟩ :: [])) (W := (fun j => match j with | 0 => w15 | 1 => w22 | _ => w24)) (by kernel_rfl) ha (dr_w e16) (by kernel_rfl) ?_ (reads_of (by kernel_rfl)) (by kernel_rfl) (m := 2) (by kernel_rfl) (fun a ha => ?_)
      · refine ⟨?_, ?_, ?_, ?_, ?_, ?_, ?_, ?_, ?_, ?_, ?_, ?_, ?_, trivial⟩
        · intro j _ _; exact ok_do rfl fun a ha => d_move ha rfl
        · intro j _ _; exact ok_do rfl fun a ha => d_move ha rfl
        · intro j _ _; exact ok_do rfl fun a ha => d_nil ha rfl
        · intro j _ _; exact ok_do rfl fun a ha => d_fa ha rfl Try.runUnderlying95 rfl rfl Try.sizeOf92 (by decide)
        · intro j h1 h2; obtain rfl : j = 0 := Nat.le_antisymm h2 h1; exact ok_do rfl fun a ha => d_ld ha rfl Try.isAgg92 (ldL_c e18)
        · intro j _ _; exact ok_do rfl fun a ha => d_move ha rfl
        · intro j _ _; exact ok_do rfl fun a ha => d_nilp ha rfl e5
        · intro j _ _; exact ok_do rfl fun a ha => d_fa ha rfl Try.runUnderlying95 rfl rfl Try.sizeOf92 (by decide)
        · intro j h1 h2; obtain rfl : j = 0 := Nat.le_antisymm h2 h1; exact ok_do rfl fun a ha => d_ld ha rfl Try.isAgg92 (ldL_c e20)
        · intro j h1 h2; obtain rfl : j = 0 := Nat.le_antisymm h2 h1; exact ok_do rfl fun a ha => d_apS ha rfl rfl e23
        · intro j _ _; exact ok_do rfl fun a ha => d_nil ha rfl
        · intro j _ _; exact ok_do rfl fun a ha => d_fa ha rfl Try.runUnderlying95 rfl rfl Try.sizeOf92 (by decide)
        · intro j h1 h2; obtain rfl : j = 1 := Nat.le_antisymm h2 h1; exact ok_do rfl fun a ha => d_st ha rfl rfl Try.sizeOf92 e25
      · have ha : Has 45 [(0, (.pointer a0)), (3, (.pointer (some p12)))] a := ha.sub ⟨rfl, rfl, trivial⟩
        refine t_n ?_
        replace ha : Has 45 [(0, (.pointer a0)), (3, (.pointer (some p12)))] _ := ha.sub ⟨rfl, rfl, trivial⟩
        refine wp_seq ?_
        obtain ⟨w26, e27, h⟩ := bs1 h
        obtain ⟨v28, e29, h⟩ := bs1 h
        obtain ⟨v30, e31, h⟩ := bs1 h
        obtain ⟨s32, w33, e34, h⟩ := bs2 h
        obtain ⟨w35, e36, h⟩ := bs1 h
        have ha : Has 45 [(0, (.pointer a0)), (3, (.pointer (some p12)))] a := ha.sub ⟨rfl, rfl, trivial⟩
        refine region_draw (n := 45) (ds := (⟨_, (.pointer (some p12)), false, 0, 1, [], [(3, (.pointer (some p12)))]⟩ :: ⟨_, (.pointer (some p12)), false, 0, 0, [], [(3, (.pointer (some p12)))]⟩ :: ⟨_, (.pointer (some p12)), false, 0, 0, [1], [(33, (.pointer (some p12)))]⟩ :: ⟨_, (.pointer (some (p12.add 1))), false, 0, 0, [1, 2], [(34, (.pointer (some p12)))]⟩ :: ⟨_, (Sl.v v28), false, 0, 0, [1, 2, 3], [(35, (.pointer (some (p12.add 1))))]⟩ :: ⟨_, (.pointer a0), false, 0, 0, [], [(0, (.pointer a0))]⟩ :: ⟨_, (.pointer (some p4)), false, 0, 0, [5], [(37, (.pointer a0))]⟩ :: ⟨_, (.pointer (some (p4.add 1))), false, 0, 0, [5, 6], [(38, (.pointer (some p4)))]⟩ :: ⟨_, (Sl.v v30), false, 0, 0, [5, 6, 7], [(39, (.pointer (some (p4.add 1))))]⟩ :: ⟨_, (Sl.v s32), true, 0, 0, [1, 2, 3, 4, 5, 6, 7, 8], [(36, (Sl.v v28)), (40, (Sl.v v30))]⟩ :: ⟨_, (.pointer (some p12)), false, 1, 1, [0, 1, 2, 3, 4, 5, 6, 7, 8, 9], [(32, (.pointer (some p12)))]⟩ :: ⟨_, (.pointer (some (p12.add 1))), false, 1, 1, [0, 1, 2, 3, 4, 5, 6, 7, 8, 9, 10], [(42, (.pointer (some p12)))]⟩ :: ⟨_, undef, true, 1, 1, [0, 1, 2, 3, 4, 5, 6, 7, 8, 9, 10, 11], [(43, (.pointer (some (p12.add 1)))), (41, (Sl.v s32))]⟩ :: [])) (W := (fun j => match j with | 0 => w26 | 1 => w33 | _ => w35)) (by kernel_rfl) ha (dr_w e27) (by kernel_rfl) ?_ (reads_of (by kernel_rfl)) (by kernel_rfl) (m := 2) (by kernel_rfl) (fun a ha => ?_)
        · refine ⟨?_, ?_, ?_, ?_, ?_, ?_, ?_, ?_, ?_, ?_, ?_, ?_, ?_, trivial⟩
          · intro j _ _; exact ok_do rfl fun a ha => d_move ha rfl
          · intro j _ _; exact ok_do rfl fun a ha => d_move ha rfl
          · intro j _ _; exact ok_do rfl fun a ha => d_nil ha rfl
          · intro j _ _; exact ok_do rfl fun a ha => d_fa ha rfl Try.runUnderlying95 rfl rfl Try.sizeOf93 (by decide)
          · intro j h1 h2; obtain rfl : j = 0 := Nat.le_antisymm h2 h1; exact ok_do rfl fun a ha => d_ld ha rfl Try.isAgg93 (ldL_c e29)
          · intro j _ _; exact ok_do rfl fun a ha => d_move ha rfl
          · intro j _ _; exact ok_do rfl fun a ha => d_nilp ha rfl e5
          · intro j _ _; exact ok_do rfl fun a ha => d_fa ha rfl Try.runUnderlying95 rfl rfl Try.sizeOf93 (by decide)
          · intro j h1 h2; obtain rfl : j = 0 := Nat.le_antisymm h2 h1; exact ok_do rfl fun a ha => d_ld ha rfl Try.isAgg93 (ldL_c e31)
          · intro j h1 h2; obtain rfl : j = 0 := Nat.le_antisymm h2 h1; exact ok_do rfl fun a ha => d_apS ha rfl rfl e34
          · intro j _ _; exact ok_do rfl fun a ha => d_nil ha rfl
          · intro j _ _; exact ok_do rfl fun a ha => d_fa ha rfl Try.runUnderlying95 rfl rfl Try.sizeOf93 (by decide)
          · intro j h1 h2; obtain rfl : j = 1 := Nat.le_antisymm h2 h1; exact ok_do rfl fun a ha => d_st ha rfl rfl Try.sizeOf93 e36
        · have ha : Has 45 [(3, (.pointer (some p12)))] a := ha.sub ⟨rfl, trivial⟩
          refine t_n ?_
          replace ha : Has 45 [(3, (.pointer (some p12)))] _ := ha.sub ⟨rfl, trivial⟩
          refine wp_seq ?_
          refine region_lit ?_
          refine s_do rfl ha (ltd rfl) (d_move ha rfl) (fun a ha => ?_)
          refine s_do rfl ha (ltd rfl) (d_assign ha rfl) (fun a ha => ?_)
          refine s_nil ?_
          refine t_n ?_
          replace ha : Has 45 [(2, (.pointer (some p12)))] _ := ha.sub ⟨rfl, trivial⟩
          refine wp_ret ?_
          have hS := ha
          cases h
          exact ret1 Try.results32 hS rfl ⟨rfl, rfl⟩

noncomputable def grapevineref09_New_l1 (a0 : Int) (p7 : Addr) (x10 : Int) (w11 : World) : Option ((Int × World) ⊕ (World)) :=
  if (decide (x10 < a0)) = true then
  ((dr w11).bind fun w18 =>
  (ldL w18 (p7.add 0)).bind fun v20 =>
  bind2 (mkS Try.prog 29 64 64 w18) fun s22 w23 =>
  bind2 (bsl w23 29 1 [[(Sl.v s22)]]) fun s25 w26 =>
  bind2 (apS Try.prog 92 v20 s25 w26) fun s28 w29 =>
  (stV w29 (p7.add 0) (Sl.v s28)).bind fun w31 =>
  chk (ldL w23 (p7.add 0) = some v20) <|
  chk (ldL w26 (p7.add 0) = some v20) <|
  some (.inl ((IntKind.wrap .i64 (x10 + 1)), w31)))
  else
  (some (.inr w11))
noncomputable def grapevineref09_New (a0 : Int) (w : World) : Option ((Option Addr) × Int × World) :=
  bind2 (if (decide (a0 < 1)) = true then
  (some (true, w))
  else
  (some ((decide (512 < a0)), w))) fun v1 w2 =>
  if v1 = true then
  (some (none, 2, w2))
  else
  (bind2 (mk w2 95 ([.slice none 0 0, .slice none 0 0, .int .i64 0, .bool false, .int .i64 0])) fun p7 w8 =>
  (loopF (fun s : Int × World => grapevineref09_New_l1 a0 p7 s.1 s.2) (0, w8)).bind fun w14 =>
  some ((some p7), 0, w14))
set_option maxHeartbeats 1000000 in
set_option maxRecDepth 100000 in
theorem grapevineref09_New_ok {a0 : Int} {w w' : World} {r0 : Option Addr} {r1 : Int} (h : grapevineref09_New a0 w = some (r0, r1, w')) : Calls Try.prog 43 #[(.int .i64 a0)] w fun e w'' => e = .returned (.tuple #[(.pointer r0), (.int .i64 r1)]) ∧ w'' = w' := by
  refine calls_dec (n := 30) Try.func43 rfl Try.ntmps43 (by simp) (fun a ha => ?_)
  unfold grapevineref09_New at h
  refine wp_seq ?_
  refine region_lit ?_
  refine s_do rfl ha (ltd rfl) (d_assign ha rfl) (fun a ha => ?_)
  refine s_do rfl ha (ltd rfl) (d_assign ha rfl) (fun a ha => ?_)
  refine s_nil ?_
  refine t_n ?_
  replace ha : Has 30 [(0, (.int .i64 a0))] _ := ha.sub ⟨rfl, trivial⟩
  refine wp_seq ?_
  refine wp_seq ?_
  obtain ⟨v1, w2, e3, h⟩ := bs2 h
  refine reg_join (n := 30) (L := [(11, (.bool v1)), (0, (.int .i64 a0))]) (w' := w2) (fun a ha => ?_) (fun hk4 => ?_)
  · refine t_n ?_
    replace ha : Has 30 [(0, (.int .i64 a0)), (11, (.bool v1))] _ := ha.sub ⟨rfl, rfl, trivial⟩
    refine s_cond ha rfl h (fun b6 h => ?_) (fun b6 h => ?_)
    · refine wp_seq ?_
      refine region_lit ?_
      refine s_do rfl ha (ltd rfl) (d_assign ha rfl) (fun a ha => ?_)
      refine s_do rfl ha (ltd rfl) (d_assign ha rfl) (fun a ha => ?_)
      refine s_nil ?_
      refine t_n ?_
      replace ha : Has 30 [(2, (.pointer none)), (3, (.int .i64 2))] _ := ha.sub ⟨rfl, rfl, trivial⟩
      refine wp_ret ?_
      refine t_r ?_
      have hS := ha
      cases h
      exact ret2 Try.results43 hS rfl rfl ⟨rfl, rfl⟩
    · refine wp_skip ?_
      refine t_n ?_
      replace ha : Has 30 [(0, (.int .i64 a0))] _ := ha.sub ⟨rfl, trivial⟩
      refine wp_seq ?_
      refine region_lit ?_
      refine s_do rfl ha (ltd rfl) (d_build (vs := []) (pl := #[(0, 1), (1, 1), (2, 1), (3, 1), (4, 1)]) (cs := ([.slice none 0 0, .slice none 0 0, .int .i64 0, .bool false, .int .i64 0])) ha trivial Try.zeroValue95 Try.runUnderlying95 (by intro w; kernel_rfl) (by kernel_rfl)) (fun a ha => ?_)
      obtain ⟨p7, w8, e9, h⟩ := bs2 h
      refine s_do rfl ha (ltd rfl) (d_box ha rfl rfl e9) (fun a ha => ?_)
      refine s_do rfl ha (ltd rfl) (d_assign ha rfl) (fun a ha => ?_)
      refine s_nil ?_
      refine t_n ?_
      replace ha : Has 30 [(0, (.int .i64 a0)), (4, (.pointer (some p7)))] _ := ha.sub ⟨rfl, rfl, trivial⟩
      refine wp_seq ?_
      refine wp_seq ?_
      refine region_lit ?_
      refine s_do rfl ha (ltd rfl) (d_assign ha rfl) (fun a ha => ?_)
      refine s_nil ?_
      refine t_n ?_
      replace ha : Has 30 [(0, (.int .i64 a0)), (4, (.pointer (some p7))), (5, (.int .i64 0))] _ := ha.sub ⟨rfl, rfl, rfl, trivial⟩
      refine wp_block ?_
      obtain ⟨w14, e13, h⟩ := bs1 h
      refine s_loop1 (n := 30) (L := [(4, (.pointer (some p7)))]) (w' := w14) (e := .exit 0) (I := fun (s : Int × World) a w => Has 30 [(5, (.int .i64 s.1)), (0, (.int .i64 a0)), (4, (.pointer (some p7)))] a ∧ w = s.2) ⟨ha.sub ⟨rfl, rfl, rfl, trivial⟩, rfl⟩ e13 (fun a ha => ?_) (fun hk15 => ?_)
      · refine b_hit ?_
        refine t_n ?_
        replace ha : Has 30 [(4, (.pointer (some p7)))] _ := ha.sub ⟨rfl, trivial⟩
        refine wp_seq ?_
        refine region_lit ?_
        refine s_do rfl ha (ltd rfl) (d_move ha rfl) (fun a ha => ?_)
        refine s_do rfl ha (ltd rfl) (d_assign ha rfl) (fun a ha => ?_)
        refine s_do rfl ha (ltd rfl) (d_assign ha rfl) (fun a ha => ?_)
        refine s_nil ?_
        refine t_n ?_
        replace ha : Has 30 [(2, (.pointer (some p7))), (3, (.int .i64 0))] _ := ha.sub ⟨rfl, rfl, trivial⟩
        refine wp_ret ?_
        have hS := ha
        cases h
        exact ret2 Try.results43 hS rfl rfl ⟨rfl, rfl⟩
      · clear h
        rintro ⟨x10, w11⟩ a wq o ⟨ha, hwq⟩ h hr16
        obtain rfl : w11 = wq := hwq.symm
        have ha : Has 30 [(5, (.int .i64 x10)), (0, (.int .i64 a0)), (4, (.pointer (some p7)))] a := ha
        have h : grapevineref09_New_l1 a0 p7 x10 w11 = some o := h
        unfold grapevineref09_New_l1 at h
        refine wp_seq ?_
        refine wp_seq ?_
        refine region_lit ?_
        refine s_do rfl ha (ltd rfl) (d_move ha rfl) (fun a ha => ?_)
        refine s_do rfl ha (ltd rfl) (d_move ha rfl) (fun a ha => ?_)
        refine s_do rfl ha (ltd rfl) (d_lt ha rfl rfl) (fun a ha => ?_)
        refine s_nil ?_
        refine t_n ?_
        replace ha : Has 30 [(0, (.int .i64 a0)), (4, (.pointer (some p7))), (5, (.int .i64 x10)), (16, (.bool (decide (x10 < a0))))] _ := ha.sub ⟨rfl, rfl, rfl, rfl, trivial⟩
        refine s_cond ha rfl h (fun b17 h => ?_) (fun b17 h => ?_)
        · refine wp_skip ?_
          refine t_n ?_
          replace ha : Has 30 [(0, (.int .i64 a0)), (4, (.pointer (some p7))), (5, (.int .i64 x10))] _ := ha.sub ⟨rfl, rfl, rfl, trivial⟩
          refine wp_seq ?_
          refine wp_block ?_
          obtain ⟨w18, e19, h⟩ := bs1 h
          obtain ⟨v20, e21, h⟩ := bs1 h
          obtain ⟨s22, w23, e24, h⟩ := bs2 h
          obtain ⟨s25, w26, e27, h⟩ := bs2 h
          obtain ⟨s28, w29, e30, h⟩ := bs2 h
          obtain ⟨w31, e32, h⟩ := bs1 h
          obtain ⟨e33, h⟩ := chk_some h
          obtain ⟨e34, h⟩ := chk_some h
          have ha : Has 30 [(0, (.int .i64 a0)), (4, (.pointer (some p7))), (5, (.int .i64 x10))] a := ha.sub ⟨rfl, rfl, rfl, trivial⟩
          refine region_draw (n := 30) (ds := (⟨_, (.pointer (some p7)), false, 0, 3, [], [(4, (.pointer (some p7)))]⟩ :: ⟨_, (.pointer (some p7)), false, 0, 2, [], [(4, (.pointer (some p7)))]⟩ :: ⟨_, (.pointer (some p7)), false, 0, 2, [1], [(20, (.pointer (some p7)))]⟩ :: ⟨_, (.pointer (some (p7.add 0))), false, 0, 2, [1, 2], [(21, (.pointer (some p7)))]⟩ :: ⟨_, (Sl.v v20), false, 0, 2, [1, 2, 3], [(22, (.pointer (some (p7.add 0))))]⟩ :: ⟨_, (Sl.v s22), true, 0, 0, [], []⟩ :: ⟨_, (Sl.v s25), true, 1, 1, [5], [(24, (Sl.v s22))]⟩ :: ⟨_, (Sl.v s28), true, 2, 2, [1, 2, 3, 4, 5, 6], [(23, (Sl.v v20)), (25, (Sl.v s25))]⟩ :: ⟨_, (.pointer (some p7)), false, 3, 3, [0, 1, 2, 3, 4, 5, 6, 7], [(19, (.pointer (some p7)))]⟩ :: ⟨_, (.pointer (some (p7.add 0))), false, 3, 3, [0, 1, 2, 3, 4, 5, 6, 7, 8], [(27, (.pointer (some p7)))]⟩ :: ⟨_, undef, true, 3, 3, [0, 1, 2, 3, 4, 5, 6, 7, 8, 9], [(28, (.pointer (some (p7.add 0)))), (26, (Sl.v s28))]⟩ :: [])) (W := (fun j => match j with | 0 => w18 | 1 => w23 | 2 => w26 | 3 => w29 | _ => w31)) (by kernel_rfl) ha (dr_w e19) (by kernel_rfl) ?_ (reads_of (by kernel_rfl)) (by kernel_rfl) (m := 4) (by kernel_rfl) (fun a ha => ?_)
          · refine ⟨?_, ?_, ?_, ?_, ?_, ?_, ?_, ?_, ?_, ?_, ?_, trivial⟩
            · intro j _ _; exact ok_do rfl fun a ha => d_move ha rfl
            · intro j _ _; exact ok_do rfl fun a ha => d_move ha rfl
            · intro j _ _; exact ok_do rfl fun a ha => d_nil ha rfl
            · intro j _ _; exact ok_do rfl fun a ha => d_fa ha rfl Try.runUnderlying95 rfl rfl Try.sizeOf92 (by decide)
            · intro j h1 h2; have h1 : 0 ≤ j := h1; have h2 : j ≤ 2 := h2; rcases (by omega : j = 0 ∨ j = 1 ∨ j = 2) with rfl | rfl | rfl
              · exact ok_do rfl fun a ha => d_ld ha rfl Try.isAgg92 (ldL_c e21)
              · exact ok_do rfl fun a ha => d_ld ha rfl Try.isAgg92 (ldL_c e33)
              · exact ok_do rfl fun a ha => d_ld ha rfl Try.isAgg92 (ldL_c e34)
            · intro j h1 h2; obtain rfl : j = 0 := Nat.le_antisymm h2 h1; exact ok_do rfl fun a ha => d_mkS ha rfl rfl e24
            · intro j h1 h2; obtain rfl : j = 1 := Nat.le_antisymm h2 h1; exact ok_do rfl fun a ha => d_bsl (vs := [(0, (Sl.v s22))]) (ps := [[(Sl.v s22)]]) ha ⟨rfl, rfl, trivial⟩ ⟨rfl, rfl, trivial⟩ rfl Try.runUnderlying92 Try.sizeOf29 Try.zeroValue29 (by decide) e27
            · intro j h1 h2; obtain rfl : j = 2 := Nat.le_antisymm h2 h1; exact ok_do rfl fun a ha => d_apS ha rfl rfl e30
            · intro j _ _; exact ok_do rfl fun a ha => d_nil ha rfl
            · intro j _ _; exact ok_do rfl fun a ha => d_fa ha rfl Try.runUnderlying95 rfl rfl Try.sizeOf92 (by decide)
            · intro j h1 h2; obtain rfl : j = 3 := Nat.le_antisymm h2 h1; exact ok_do rfl fun a ha => d_st ha rfl rfl Try.sizeOf92 e32
          · have ha : Has 30 [(0, (.int .i64 a0)), (4, (.pointer (some p7))), (5, (.int .i64 x10))] a := ha.sub ⟨rfl, rfl, rfl, trivial⟩
            refine b_n ?_
            refine t_n ?_
            replace ha : Has 30 [(0, (.int .i64 a0)), (4, (.pointer (some p7))), (5, (.int .i64 x10))] _ := ha.sub ⟨rfl, rfl, rfl, trivial⟩
            refine region_lit ?_
            refine s_do rfl ha (ltd rfl) (d_move ha rfl) (fun a ha => ?_)
            refine s_do rfl ha (ltd rfl) (d_add ha rfl rfl) (fun a ha => ?_)
            refine s_do rfl ha (ltd rfl) (d_assign ha rfl) (fun a ha => ?_)
            refine s_nil ?_
            have hS : Has 30 [(5, (.int .i64 (IntKind.wrap .i64 (x10 + 1)))), (0, (.int .i64 a0)), (4, (.pointer (some p7)))] _ := ha.sub ⟨rfl, rfl, rfl, trivial⟩
            cases h
            exact lp_next ⟨hS, rfl⟩
        · refine wp_exit ?_
          refine t_x ?_
          have hS : Has 30 [(4, (.pointer (some p7)))] _ := ha.sub ⟨rfl, trivial⟩
          cases h
          cases hr16 _ rfl
          refine lp_x ?_
          exact hk15 _ hS
  · clear h
    have h := e3
    refine region_lit ?_
    refine s_do rfl ha (ltd rfl) (d_move ha rfl) (fun a ha => ?_)
    refine s_do rfl ha (ltd rfl) (d_lt ha rfl rfl) (fun a ha => ?_)
    refine s_do rfl ha (ltd rfl) (d_move ha rfl) (fun a ha => ?_)
    refine ite_s h (fun b5 h => ?_) (fun b5 h => ?_)
    · refine s_no_g rfl rfl ha (rfl : List.lookup 8 _ = _) (tn b5) (ltd rfl) (fun a ha => ?_)
      refine s_no_g rfl rfl ha (rfl : List.lookup 8 _ = _) (tn b5) (ltd rfl) (fun a ha => ?_)
      refine s_do rfl ha (ltd rfl) (d_pick_t ha rfl b5 rfl) (fun a ha => ?_)
      refine s_nil ?_
      have hS : Has 30 [(11, (.bool true)), (0, (.int .i64 a0))] _ := ha.sub ⟨rfl, rfl, trivial⟩
      cases h
      exact hk4 _ hS
    · refine s_do_g2 rfl rfl ha (rfl : List.lookup 8 _ = _) (nt b5) (ltd rfl) (d_move ha rfl) (fun a ha => ?_)
      refine s_do_g2 rfl rfl ha (rfl : List.lookup 8 _ = _) (nt b5) (ltd rfl) (d_gt ha rfl rfl) (fun a ha => ?_)
      refine s_do rfl ha (ltd rfl) (d_pick_f ha rfl b5 rfl) (fun a ha => ?_)
      refine s_nil ?_
      have hS : Has 30 [(11, (.bool (decide (512 < a0)))), (0, (.int .i64 a0))] _ := ha.sub ⟨rfl, rfl, trivial⟩
      cases h
      exact hk4 _ hS

noncomputable def grapevineref09_Disk_has (a0 : Option Addr) (a1 : Int) (w : World) : Option (Bool × World) :=
  bind2 (if (decide (0 ≤ a1)) = true then
  ((a0).bind fun p6 =>
  (ldL w (p6.add 0)).bind fun v8 =>
  some ((decide (a1 < (v8.n : Int))), w))
  else
  (some (false, w))) fun v1 w2 =>
  some (v1, w2)
set_option maxHeartbeats 1000000 in
set_option maxRecDepth 100000 in
theorem grapevineref09_Disk_has_ok {a0 : Option Addr} {a1 : Int} {w w' : World} {r0 : Bool} (h : grapevineref09_Disk_has a0 a1 w = some (r0, w')) : Calls Try.prog 57 #[(.pointer a0), (.int .i64 a1)] w fun e w'' => e = .returned (.bool r0) ∧ w'' = w' := by
  refine calls_dec (n := 16) Try.func57 rfl Try.ntmps57 (by simp) (fun a ha => ?_)
  unfold grapevineref09_Disk_has at h
  refine wp_seq ?_
  refine region_lit ?_
  refine s_do rfl ha (ltd rfl) (d_assign ha rfl) (fun a ha => ?_)
  refine s_nil ?_
  refine t_n ?_
  replace ha : Has 16 [(0, (.pointer a0)), (1, (.int .i64 a1))] _ := ha.sub ⟨rfl, rfl, trivial⟩
  refine wp_seq ?_
  obtain ⟨v1, w2, e3, h⟩ := bs2 h
  refine reg_join (n := 16) (L := [(4, (.bool v1))]) (w' := w2) (fun a ha => ?_) (fun hk4 => ?_)
  · refine t_n ?_
    replace ha : Has 16 [(4, (.bool v1))] _ := ha.sub ⟨rfl, trivial⟩
    refine wp_ret ?_
    have hS := ha
    cases h
    exact ret1 Try.results57 hS rfl ⟨rfl, rfl⟩
  · clear h
    have h := e3
    refine region_lit ?_
    refine s_do rfl ha (ltd rfl) (d_move ha rfl) (fun a ha => ?_)
    refine s_do rfl ha (ltd rfl) (d_ge ha rfl rfl) (fun a ha => ?_)
    refine s_do rfl ha (ltd rfl) (d_move ha rfl) (fun a ha => ?_)
    refine ite_s h (fun b5 h => ?_) (fun b5 h => ?_)
    · refine s_do_g2 rfl rfl ha (rfl : List.lookup 7 _ = _) b5 (ltd rfl) (d_move ha rfl) (fun a ha => ?_)
      refine s_do_g2 rfl rfl ha (rfl : List.lookup 7 _ = _) b5 (ltd rfl) (d_move ha rfl) (fun a ha => ?_)
      obtain ⟨p6, e7, h⟩ := bs1 h
      refine s_do_g2 rfl rfl ha (rfl : List.lookup 7 _ = _) b5 (ltd rfl) (d_nilp ha rfl e7) (fun a ha => ?_)
      refine s_do_g2 rfl rfl ha (rfl : List.lookup 7 _ = _) b5 (ltd rfl) (d_fa ha rfl Try.runUnderlying95 rfl rfl Try.sizeOf92 (by decide)) (fun a ha => ?_)
      obtain ⟨v8, e9, h⟩ := bs1 h
      refine s_do_g2 rfl rfl ha (rfl : List.lookup 7 _ = _) b5 (ltd rfl) (d_ld ha rfl Try.isAgg92 (ldL_c e9)) (fun a ha => ?_)
      refine s_do_g2 rfl rfl ha (rfl : List.lookup 7 _ = _) b5 (ltd rfl) (d_lenS ha rfl Try.runUnderlying92) (fun a ha => ?_)
      refine s_do_g2 rfl rfl ha (rfl : List.lookup 7 _ = _) b5 (ltd rfl) (d_lt ha rfl rfl) (fun a ha => ?_)
      refine s_do rfl ha (ltd rfl) (d_pick_t ha rfl b5 rfl) (fun a ha => ?_)
      refine s_do rfl ha (ltd rfl) (d_assign ha rfl) (fun a ha => ?_)
      refine s_nil ?_
      have hS : Has 16 [(4, (.bool (decide (a1 < (v8.n : Int)))))] _ := ha.sub ⟨rfl, trivial⟩
      cases h
      exact hk4 _ hS
    · refine s_no_g rfl rfl ha (rfl : List.lookup 7 _ = _) (nn b5 _ rfl) (ltd rfl) (fun a ha => ?_)
      refine s_no_g rfl rfl ha (rfl : List.lookup 7 _ = _) (nn b5 _ rfl) (ltd rfl) (fun a ha => ?_)
      refine s_no_g rfl rfl ha (rfl : List.lookup 7 _ = _) (nn b5 _ rfl) (ltd rfl) (fun a ha => ?_)
      refine s_no_g rfl rfl ha (rfl : List.lookup 7 _ = _) (nn b5 _ rfl) (ltd rfl) (fun a ha => ?_)
      refine s_no_g rfl rfl ha (rfl : List.lookup 7 _ = _) (nn b5 _ rfl) (ltd rfl) (fun a ha => ?_)
      refine s_no_g rfl rfl ha (rfl : List.lookup 7 _ = _) (nn b5 _ rfl) (ltd rfl) (fun a ha => ?_)
      refine s_no_g rfl rfl ha (rfl : List.lookup 7 _ = _) (nn b5 _ rfl) (ltd rfl) (fun a ha => ?_)
      refine s_do rfl ha (ltd rfl) (d_pick_f ha rfl b5 rfl) (fun a ha => ?_)
      refine s_do rfl ha (ltd rfl) (d_assign ha rfl) (fun a ha => ?_)
      refine s_nil ?_
      have hS : Has 16 [(4, (.bool false))] _ := ha.sub ⟨rfl, trivial⟩
      cases h
      exact hk4 _ hS

noncomputable def grapevineref09_Disk_Read_l1 (a0 : Option Addr) (a1 : Int) (x17 : Sl) (x18 : Int) (w19 : World) : Option ((Sl × Int × World) ⊕ (Sl × World)) :=
  (a0).bind fun p26 =>
  (ldL w19 (p26.add 1)).bind fun v28 =>
  if (decide (x18 < (v28.n : Int))) = true then
  (bind2 ((ldL w19 (p26.add 1)).bind fun v35 =>
  (ix v35 x18 2).bind fun p37 =>
  (ldI .i64 w19 (p37.add 0)).bind fun v39 =>
  if (v39 == a1) = true then
  ((ldL w19 (p26.add 1)).bind fun v42 =>
  (ix v42 x18 2).bind fun p44 =>
  (ldL w19 (p44.add 1)).bind fun v46 =>
  some (v46, w19))
  else
  (some (x17, w19))) fun v31 w32 =>
  some (.inl (v31, (IntKind.wrap .i64 (x18 + 1)), w32)))
  else
  (some (.inr (x17, w19)))
noncomputable def grapevineref09_Disk_Read (a0 : Option Addr) (a1 : Int) (w : World) : Option (Sl × Int × World) :=
  if (a0.isNone) = true then
  (some (Sl.nil, 1, w))
  else
  ((a0).bind fun p2 =>
  (ldB w (p2.add 3)).bind fun v4 =>
  if v4 = true then
  (some (Sl.nil, 10, w))
  else
  (bind2 (grapevineref09_Disk_has a0 a1 w) fun v7 w8 =>
  if (!v7) = true then
  (some (Sl.nil, 2, w8))
  else
  ((ldL w8 (p2.add 0)).bind fun v11 =>
  (ix v11 a1 1).bind fun p13 =>
  (ldL w8 p13).bind fun v15 =>
  bind2 (loopF (fun s : Sl × Int × World => grapevineref09_Disk_Read_l1 a0 a1 s.1 s.2.1 s.2.2) (v15, 0, w8)) fun v22 w23 =>
  bind2 (bsl w23 5 1 []) fun s48 w49 =>
  bind2 (apS Try.prog 29 s48 v22 w49) fun s51 w52 =>
  some (s51, 0, w52))))
set_option maxHeartbeats 1000000 in
set_option maxRecDepth 100000 in
theorem grapevineref09_Disk_Read_ok {a0 : Option Addr} {a1 : Int} {w w' : World} {r0 : Sl} {r1 : Int} (h : grapevineref09_Disk_Read a0 a1 w = some (r0, r1, w')) : Calls Try.prog 44 #[(.pointer a0), (.int .i64 a1)] w fun e w'' => e = .returned (.tuple #[(Sl.v r0), (.int .i64 r1)]) ∧ w'' = w' := by
  refine calls_dec (n := 55) Try.func44 rfl Try.ntmps44 (by simp) (fun a ha => ?_)
  unfold grapevineref09_Disk_Read at h
  refine wp_seq ?_
  refine region_lit ?_
  refine s_do rfl ha (ltd rfl) (d_assign ha rfl) (fun a ha => ?_)
  refine s_do rfl ha (ltd rfl) (d_assign ha rfl) (fun a ha => ?_)
  refine s_nil ?_
  refine t_n ?_
  replace ha : Has 55 [(0, (.pointer a0)), (1, (.int .i64 a1))] _ := ha.sub ⟨rfl, rfl, trivial⟩
  refine wp_seq ?_
  refine wp_seq ?_
  refine region_lit ?_
  refine s_do rfl ha (ltd rfl) (d_move ha rfl) (fun a ha => ?_)
  refine s_do rfl ha (ltd rfl) (d_eqN ha rfl rfl Try.runUnderlying44) (fun a ha => ?_)
  refine s_nil ?_
  refine t_n ?_
  replace ha : Has 55 [(0, (.pointer a0)), (1, (.int .i64 a1)), (9, (.bool (a0.isNone)))] _ := ha.sub ⟨rfl, rfl, rfl, trivial⟩
  refine s_cond ha rfl h (fun b1 h => ?_) (fun b1 h => ?_)
  · refine wp_seq ?_
    refine region_lit ?_
    refine s_do rfl ha (ltd rfl) (d_assign ha rfl) (fun a ha => ?_)
    refine s_do rfl ha (ltd rfl) (d_assign ha rfl) (fun a ha => ?_)
    refine s_nil ?_
    refine t_n ?_
    replace ha : Has 55 [(4, (Sl.v Sl.nil)), (5, (.int .i64 1))] _ := ha.sub ⟨rfl, rfl, trivial⟩
    refine wp_ret ?_
    refine t_r ?_
    have hS := ha
    cases h
    exact ret2 Try.results44 hS rfl rfl ⟨rfl, rfl⟩
  · refine wp_skip ?_
    refine t_n ?_
    replace ha : Has 55 [(0, (.pointer a0)), (1, (.int .i64 a1))] _ := ha.sub ⟨rfl, rfl, trivial⟩
    refine wp_seq ?_
    refine wp_seq ?_
    refine region_lit ?_
    refine s_do rfl ha (ltd rfl) (d_move ha rfl) (fun a ha => ?_)
    obtain ⟨p2, e3, h⟩ := bs1 h
    refine s_do rfl ha (ltd rfl) (d_nilp ha rfl e3) (fun a ha => ?_)
    refine s_do rfl ha (ltd rfl) (d_fa ha rfl Try.runUnderlying95 rfl rfl Try.sizeOf4 (by decide)) (fun a ha => ?_)
    obtain ⟨v4, e5, h⟩ := bs1 h
    refine s_do rfl ha (ltd rfl) (d_ld ha rfl Try.isAgg4 (ldB_c e5)) (fun a ha => ?_)
    refine s_nil ?_
    refine t_n ?_
    replace ha : Has 55 [(0, (.pointer a0)), (1, (.int .i64 a1)), (13, (.bool v4))] _ := ha.sub ⟨rfl, rfl, rfl, trivial⟩
    refine s_cond ha rfl h (fun b6 h => ?_) (fun b6 h => ?_)
    · refine wp_seq ?_
      refine region_lit ?_
      refine s_do rfl ha (ltd rfl) (d_assign ha rfl) (fun a ha => ?_)
      refine s_do rfl ha (ltd rfl) (d_assign ha rfl) (fun a ha => ?_)
      refine s_nil ?_
      refine t_n ?_
      replace ha : Has 55 [(4, (Sl.v Sl.nil)), (5, (.int .i64 10))] _ := ha.sub ⟨rfl, rfl, trivial⟩
      refine wp_ret ?_
      refine t_r ?_
      have hS := ha
      cases h
      exact ret2 Try.results44 hS rfl rfl ⟨rfl, rfl⟩
    · refine wp_skip ?_
      refine t_n ?_
      replace ha : Has 55 [(0, (.pointer a0)), (1, (.int .i64 a1))] _ := ha.sub ⟨rfl, rfl, trivial⟩
      refine wp_seq ?_
      refine wp_seq ?_
      refine region_lit ?_
      refine s_do rfl ha (ltd rfl) (d_move ha rfl) (fun a ha => ?_)
      refine s_do rfl ha (ltd rfl) (d_move ha rfl) (fun a ha => ?_)
      obtain ⟨v7, w8, e9, h⟩ := bs2 h
      refine s_do rfl ha (ltd rfl) (d_call (xs := [_, _]) (vs := [(.pointer a0), (.int .i64 a1)]) ha ⟨rfl, rfl, trivial⟩ Try.call57 (grapevineref09_Disk_has_ok e9)) (fun a ha => ?_)
      refine s_do rfl ha (ltd rfl) (d_not ha rfl) (fun a ha => ?_)
      refine s_nil ?_
      refine t_n ?_
      replace ha : Has 55 [(0, (.pointer a0)), (1, (.int .i64 a1)), (17, (.bool (!v7)))] _ := ha.sub ⟨rfl, rfl, rfl, trivial⟩
      refine s_cond ha rfl h (fun b10 h => ?_) (fun b10 h => ?_)
      · refine wp_seq ?_
        refine region_lit ?_
        refine s_do rfl ha (ltd rfl) (d_assign ha rfl) (fun a ha => ?_)
        refine s_do rfl ha (ltd rfl) (d_assign ha rfl) (fun a ha => ?_)
        refine s_nil ?_
        refine t_n ?_
        replace ha : Has 55 [(4, (Sl.v Sl.nil)), (5, (.int .i64 2))] _ := ha.sub ⟨rfl, rfl, trivial⟩
        refine wp_ret ?_
        refine t_r ?_
        have hS := ha
        cases h
        exact ret2 Try.results44 hS rfl rfl ⟨rfl, rfl⟩
      · refine wp_skip ?_
        refine t_n ?_
        replace ha : Has 55 [(0, (.pointer a0)), (1, (.int .i64 a1))] _ := ha.sub ⟨rfl, rfl, trivial⟩
        refine wp_seq ?_
        refine region_lit ?_
        refine s_do rfl ha (ltd rfl) (d_move ha rfl) (fun a ha => ?_)
        refine s_do rfl ha (ltd rfl) (d_nilp ha rfl e3) (fun a ha => ?_)
        refine s_do rfl ha (ltd rfl) (d_fa ha rfl Try.runUnderlying95 rfl rfl Try.sizeOf92 (by decide)) (fun a ha => ?_)
        obtain ⟨v11, e12, h⟩ := bs1 h
        refine s_do rfl ha (ltd rfl) (d_ld ha rfl Try.isAgg92 (ldL_c e12)) (fun a ha => ?_)
        refine s_do rfl ha (ltd rfl) (d_move ha rfl) (fun a ha => ?_)
        obtain ⟨p13, e14, h⟩ := bs1 h
        refine s_do rfl ha (ltd rfl) (d_ix ha rfl rfl Try.runUnderlying92 Try.sizeOf29 e14) (fun a ha => ?_)
        obtain ⟨v15, e16, h⟩ := bs1 h
        refine s_do rfl ha (ltd rfl) (d_ld ha rfl Try.isAgg29 (ldL_c e16)) (fun a ha => ?_)
        refine s_do rfl ha (ltd rfl) (d_assign ha rfl) (fun a ha => ?_)
        refine s_nil ?_
        refine t_n ?_
        replace ha : Has 55 [(0, (.pointer a0)), (1, (.int .i64 a1)), (6, (Sl.v v15))] _ := ha.sub ⟨rfl, rfl, rfl, trivial⟩
        refine wp_seq ?_
        refine wp_seq ?_
        refine region_lit ?_
        refine s_do rfl ha (ltd rfl) (d_assign ha rfl) (fun a ha => ?_)
        refine s_nil ?_
        refine t_n ?_
        replace ha : Has 55 [(0, (.pointer a0)), (1, (.int .i64 a1)), (6, (Sl.v v15)), (7, (.int .i64 0))] _ := ha.sub ⟨rfl, rfl, rfl, rfl, trivial⟩
        refine wp_block ?_
        obtain ⟨v22, w23, e21, h⟩ := bs2 h
        refine s_loop1 (n := 55) (L := [(6, (Sl.v v22))]) (w' := w23) (e := .exit 0) (I := fun (s : Sl × Int × World) a w => Has 55 [(6, (Sl.v s.1)), (7, (.int .i64 s.2.1)), (0, (.pointer a0)), (1, (.int .i64 a1))] a ∧ w = s.2.2) ⟨ha.sub ⟨rfl, rfl, rfl, rfl, trivial⟩, rfl⟩ e21 (fun a ha => ?_) (fun hk24 => ?_)
        · refine b_hit ?_
          refine t_n ?_
          replace ha : Has 55 [(6, (Sl.v v22))] _ := ha.sub ⟨rfl, trivial⟩
          refine wp_seq ?_
          refine region_lit ?_
          obtain ⟨s48, w49, e50, h⟩ := bs2 h
          refine s_do rfl ha (ltd rfl) (d_bsl (vs := []) (ps := []) ha trivial trivial rfl Try.runUnderlying29 Try.sizeOf5 Try.zeroValue5 (by decide) e50) (fun a ha => ?_)
          refine s_do rfl ha (ltd rfl) (d_move ha rfl) (fun a ha => ?_)
          obtain ⟨s51, w52, e53, h⟩ := bs2 h
          refine s_do rfl ha (ltd rfl) (d_apS ha rfl rfl e53) (fun a ha => ?_)
          refine s_do rfl ha (ltd rfl) (d_assign ha rfl) (fun a ha => ?_)
          refine s_do rfl ha (ltd rfl) (d_assign ha rfl) (fun a ha => ?_)
          refine s_nil ?_
          refine t_n ?_
          replace ha : Has 55 [(4, (Sl.v s51)), (5, (.int .i64 0))] _ := ha.sub ⟨rfl, rfl, trivial⟩
          refine wp_ret ?_
          have hS := ha
          cases h
          exact ret2 Try.results44 hS rfl rfl ⟨rfl, rfl⟩
        · clear h
          rintro ⟨x17, x18, w19⟩ a wq o ⟨ha, hwq⟩ h hr25
          obtain rfl : w19 = wq := hwq.symm
          have ha : Has 55 [(6, (Sl.v x17)), (7, (.int .i64 x18)), (0, (.pointer a0)), (1, (.int .i64 a1))] a := ha
          have h : grapevineref09_Disk_Read_l1 a0 a1 x17 x18 w19 = some o := h
          unfold grapevineref09_Disk_Read_l1 at h
          refine wp_seq ?_
          refine wp_seq ?_
          refine region_lit ?_
          refine s_do rfl ha (ltd rfl) (d_move ha rfl) (fun a ha => ?_)
          refine s_do rfl ha (ltd rfl) (d_move ha rfl) (fun a ha => ?_)
          obtain ⟨p26, e27, h⟩ := bs1 h
          refine s_do rfl ha (ltd rfl) (d_nilp ha rfl e27) (fun a ha => ?_)
          refine s_do rfl ha (ltd rfl) (d_fa ha rfl Try.runUnderlying95 rfl rfl Try.sizeOf93 (by decide)) (fun a ha => ?_)
          obtain ⟨v28, e29, h⟩ := bs1 h
          refine s_do rfl ha (ltd rfl) (d_ld ha rfl Try.isAgg93 (ldL_c e29)) (fun a ha => ?_)
          refine s_do rfl ha (ltd rfl) (d_lenS ha rfl Try.runUnderlying93) (fun a ha => ?_)
          refine s_do rfl ha (ltd rfl) (d_lt ha rfl rfl) (fun a ha => ?_)
          refine s_nil ?_
          refine t_n ?_
          replace ha : Has 55 [(0, (.pointer a0)), (1, (.int .i64 a1)), (6, (Sl.v x17)), (7, (.int .i64 x18)), (31, (.bool (decide (x18 < (v28.n : Int)))))] _ := ha.sub ⟨rfl, rfl, rfl, rfl, rfl, trivial⟩
          refine s_cond ha rfl h (fun b30 h => ?_) (fun b30 h => ?_)
          · refine wp_skip ?_
            refine t_n ?_
            replace ha : Has 55 [(0, (.pointer a0)), (1, (.int .i64 a1)), (6, (Sl.v x17)), (7, (.int .i64 x18))] _ := ha.sub ⟨rfl, rfl, rfl, rfl, trivial⟩
            obtain ⟨v31, w32, e33, h⟩ := bs2 h
            refine seq_join (n := 55) (L := [(6, (Sl.v v31)), (0, (.pointer a0)), (1, (.int .i64 a1)), (7, (.int .i64 x18))]) (w' := w32) (fun a ha => ?_) (fun hk34 => ?_)
            · refine region_lit ?_
              refine s_do rfl ha (ltd rfl) (d_move ha rfl) (fun a ha => ?_)
              refine s_do rfl ha (ltd rfl) (d_add ha rfl rfl) (fun a ha => ?_)
              refine s_do rfl ha (ltd rfl) (d_assign ha rfl) (fun a ha => ?_)
              refine s_nil ?_
              have hS : Has 55 [(6, (Sl.v v31)), (7, (.int .i64 (IntKind.wrap .i64 (x18 + 1)))), (0, (.pointer a0)), (1, (.int .i64 a1))] _ := ha.sub ⟨rfl, rfl, rfl, rfl, trivial⟩
              cases h
              exact lp_next ⟨hS, rfl⟩
            · clear h
              have h := e33
              refine wp_block ?_
              refine wp_seq ?_
              refine region_lit ?_
              refine s_do rfl ha (ltd rfl) (d_move ha rfl) (fun a ha => ?_)
              refine s_do rfl ha (ltd rfl) (d_nilp ha rfl e27) (fun a ha => ?_)
              refine s_do rfl ha (ltd rfl) (d_fa ha rfl Try.runUnderlying95 rfl rfl Try.sizeOf93 (by decide)) (fun a ha => ?_)
              obtain ⟨v35, e36, h⟩ := bs1 h
              refine s_do rfl ha (ltd rfl) (d_ld ha rfl Try.isAgg93 (ldL_c e36)) (fun a ha => ?_)
              refine s_do rfl ha (ltd rfl) (d_move ha rfl) (fun a ha => ?_)
              obtain ⟨p37, e38, h⟩ := bs1 h
              refine s_do rfl ha (ltd rfl) (d_ix ha rfl rfl Try.runUnderlying93 Try.sizeOf106 e38) (fun a ha => ?_)
              refine s_do rfl ha (ltd rfl) (d_fa ha rfl Try.runUnderlying106 rfl rfl Try.sizeOf3 (by decide)) (fun a ha => ?_)
              obtain ⟨v39, e40, h⟩ := bs1 h
              refine s_do rfl ha (ltd rfl) (d_ld ha rfl Try.isAgg3 (ldI_c e40)) (fun a ha => ?_)
              refine s_do rfl ha (ltd rfl) (d_move ha rfl) (fun a ha => ?_)
              refine s_do rfl ha (ltd rfl) (d_eq ha rfl rfl) (fun a ha => ?_)
              refine s_nil ?_
              refine t_n ?_
              replace ha : Has 55 [(0, (.pointer a0)), (1, (.int .i64 a1)), (6, (Sl.v x17)), (7, (.int .i64 x18)), (43, (.bool (v39 == a1)))] _ := ha.sub ⟨rfl, rfl, rfl, rfl, rfl, trivial⟩
              refine s_cond ha rfl h (fun b41 h => ?_) (fun b41 h => ?_)
              · refine region_lit ?_
                refine s_do rfl ha (ltd rfl) (d_move ha rfl) (fun a ha => ?_)
                refine s_do rfl ha (ltd rfl) (d_nilp ha rfl e27) (fun a ha => ?_)
                refine s_do rfl ha (ltd rfl) (d_fa ha rfl Try.runUnderlying95 rfl rfl Try.sizeOf93 (by decide)) (fun a ha => ?_)
                obtain ⟨v42, e43, h⟩ := bs1 h
                refine s_do rfl ha (ltd rfl) (d_ld ha rfl Try.isAgg93 (ldL_c e43)) (fun a ha => ?_)
                refine s_do rfl ha (ltd rfl) (d_move ha rfl) (fun a ha => ?_)
                obtain ⟨p44, e45, h⟩ := bs1 h
                refine s_do rfl ha (ltd rfl) (d_ix ha rfl rfl Try.runUnderlying93 Try.sizeOf106 e45) (fun a ha => ?_)
                refine s_do rfl ha (ltd rfl) (d_fa ha rfl Try.runUnderlying106 rfl rfl Try.sizeOf29 (by decide)) (fun a ha => ?_)
                obtain ⟨v46, e47, h⟩ := bs1 h
                refine s_do rfl ha (ltd rfl) (d_ld ha rfl Try.isAgg29 (ldL_c e47)) (fun a ha => ?_)
                refine s_do rfl ha (ltd rfl) (d_assign ha rfl) (fun a ha => ?_)
                refine s_nil ?_
                refine b_n ?_
                have hS : Has 55 [(6, (Sl.v v46)), (0, (.pointer a0)), (1, (.int .i64 a1)), (7, (.int .i64 x18))] _ := ha.sub ⟨rfl, rfl, rfl, rfl, trivial⟩
                cases h
                exact hk34 _ hS
              · refine wp_skip ?_
                refine b_n ?_
                have hS : Has 55 [(6, (Sl.v x17)), (0, (.pointer a0)), (1, (.int .i64 a1)), (7, (.int .i64 x18))] _ := ha.sub ⟨rfl, rfl, rfl, rfl, trivial⟩
                cases h
                exact hk34 _ hS
          · refine wp_exit ?_
            refine t_x ?_
            have hS : Has 55 [(6, (Sl.v x17))] _ := ha.sub ⟨rfl, trivial⟩
            cases h
            cases hr25 _ rfl
            refine lp_x ?_
            exact hk24 _ hS

noncomputable def grapevineref09_Disk_Sure (a0 : Option Addr) (a1 : Int) (w : World) : Option (Sl × Int × World) :=
  if (a0.isNone) = true then
  (some (Sl.nil, 1, w))
  else
  (bind2 (grapevineref09_Disk_has a0 a1 w) fun v2 w3 =>
  if (!v2) = true then
  (some (Sl.nil, 2, w3))
  else
  (bind2 (bsl w3 5 1 []) fun s6 w7 =>
  (a0).bind fun p9 =>
  (ldL w7 (p9.add 0)).bind fun v11 =>
  (ix v11 a1 1).bind fun p13 =>
  (ldL w7 p13).bind fun v15 =>
  bind2 (apS Try.prog 29 s6 v15 w7) fun s17 w18 =>
  some (s17, 0, w18)))
set_option maxHeartbeats 1000000 in
set_option maxRecDepth 100000 in
theorem grapevineref09_Disk_Sure_ok {a0 : Option Addr} {a1 : Int} {w w' : World} {r0 : Sl} {r1 : Int} (h : grapevineref09_Disk_Sure a0 a1 w = some (r0, r1, w')) : Calls Try.prog 45 #[(.pointer a0), (.int .i64 a1)] w fun e w'' => e = .returned (.tuple #[(Sl.v r0), (.int .i64 r1)]) ∧ w'' = w' := by
  refine calls_dec (n := 21) Try.func45 rfl Try.ntmps45 (by simp) (fun a ha => ?_)
  unfold grapevineref09_Disk_Sure at h
  refine wp_seq ?_
  refine region_lit ?_
  refine s_do rfl ha (ltd rfl) (d_assign ha rfl) (fun a ha => ?_)
  refine s_do rfl ha (ltd rfl) (d_assign ha rfl) (fun a ha => ?_)
  refine s_nil ?_
  refine t_n ?_
  replace ha : Has 21 [(0, (.pointer a0)), (1, (.int .i64 a1))] _ := ha.sub ⟨rfl, rfl, trivial⟩
  refine wp_seq ?_
  refine wp_seq ?_
  refine region_lit ?_
  refine s_do rfl ha (ltd rfl) (d_move ha rfl) (fun a ha => ?_)
  refine s_do rfl ha (ltd rfl) (d_eqN ha rfl rfl Try.runUnderlying44) (fun a ha => ?_)
  refine s_nil ?_
  refine t_n ?_
  replace ha : Has 21 [(0, (.pointer a0)), (1, (.int .i64 a1)), (7, (.bool (a0.isNone)))] _ := ha.sub ⟨rfl, rfl, rfl, trivial⟩
  refine s_cond ha rfl h (fun b1 h => ?_) (fun b1 h => ?_)
  · refine wp_seq ?_
    refine region_lit ?_
    refine s_do rfl ha (ltd rfl) (d_assign ha rfl) (fun a ha => ?_)
    refine s_do rfl ha (ltd rfl) (d_assign ha rfl) (fun a ha => ?_)
    refine s_nil ?_
    refine t_n ?_
    replace ha : Has 21 [(4, (Sl.v Sl.nil)), (5, (.int .i64 1))] _ := ha.sub ⟨rfl, rfl, trivial⟩
    refine wp_ret ?_
    refine t_r ?_
    have hS := ha
    cases h
    exact ret2 Try.results45 hS rfl rfl ⟨rfl, rfl⟩
  · refine wp_skip ?_
    refine t_n ?_
    replace ha : Has 21 [(0, (.pointer a0)), (1, (.int .i64 a1))] _ := ha.sub ⟨rfl, rfl, trivial⟩
    refine wp_seq ?_
    refine wp_seq ?_
    refine region_lit ?_
    refine s_do rfl ha (ltd rfl) (d_move ha rfl) (fun a ha => ?_)
    refine s_do rfl ha (ltd rfl) (d_move ha rfl) (fun a ha => ?_)
    obtain ⟨v2, w3, e4, h⟩ := bs2 h
    refine s_do rfl ha (ltd rfl) (d_call (xs := [_, _]) (vs := [(.pointer a0), (.int .i64 a1)]) ha ⟨rfl, rfl, trivial⟩ Try.call57 (grapevineref09_Disk_has_ok e4)) (fun a ha => ?_)
    refine s_do rfl ha (ltd rfl) (d_not ha rfl) (fun a ha => ?_)
    refine s_nil ?_
    refine t_n ?_
    replace ha : Has 21 [(0, (.pointer a0)), (1, (.int .i64 a1)), (11, (.bool (!v2)))] _ := ha.sub ⟨rfl, rfl, rfl, trivial⟩
    refine s_cond ha rfl h (fun b5 h => ?_) (fun b5 h => ?_)
    · refine wp_seq ?_
      refine region_lit ?_
      refine s_do rfl ha (ltd rfl) (d_assign ha rfl) (fun a ha => ?_)
      refine s_do rfl ha (ltd rfl) (d_assign ha rfl) (fun a ha => ?_)
      refine s_nil ?_
      refine t_n ?_
      replace ha : Has 21 [(4, (Sl.v Sl.nil)), (5, (.int .i64 2))] _ := ha.sub ⟨rfl, rfl, trivial⟩
      refine wp_ret ?_
      refine t_r ?_
      have hS := ha
      cases h
      exact ret2 Try.results45 hS rfl rfl ⟨rfl, rfl⟩
    · refine wp_skip ?_
      refine t_n ?_
      replace ha : Has 21 [(0, (.pointer a0)), (1, (.int .i64 a1))] _ := ha.sub ⟨rfl, rfl, trivial⟩
      refine wp_seq ?_
      refine region_lit ?_
      obtain ⟨s6, w7, e8, h⟩ := bs2 h
      refine s_do rfl ha (ltd rfl) (d_bsl (vs := []) (ps := []) ha trivial trivial rfl Try.runUnderlying29 Try.sizeOf5 Try.zeroValue5 (by decide) e8) (fun a ha => ?_)
      refine s_do rfl ha (ltd rfl) (d_move ha rfl) (fun a ha => ?_)
      obtain ⟨p9, e10, h⟩ := bs1 h
      refine s_do rfl ha (ltd rfl) (d_nilp ha rfl e10) (fun a ha => ?_)
      refine s_do rfl ha (ltd rfl) (d_fa ha rfl Try.runUnderlying95 rfl rfl Try.sizeOf92 (by decide)) (fun a ha => ?_)
      obtain ⟨v11, e12, h⟩ := bs1 h
      refine s_do rfl ha (ltd rfl) (d_ld ha rfl Try.isAgg92 (ldL_c e12)) (fun a ha => ?_)
      refine s_do rfl ha (ltd rfl) (d_move ha rfl) (fun a ha => ?_)
      obtain ⟨p13, e14, h⟩ := bs1 h
      refine s_do rfl ha (ltd rfl) (d_ix ha rfl rfl Try.runUnderlying92 Try.sizeOf29 e14) (fun a ha => ?_)
      obtain ⟨v15, e16, h⟩ := bs1 h
      refine s_do rfl ha (ltd rfl) (d_ld ha rfl Try.isAgg29 (ldL_c e16)) (fun a ha => ?_)
      obtain ⟨s17, w18, e19, h⟩ := bs2 h
      refine s_do rfl ha (ltd rfl) (d_apS ha rfl rfl e19) (fun a ha => ?_)
      refine s_do rfl ha (ltd rfl) (d_assign ha rfl) (fun a ha => ?_)
      refine s_do rfl ha (ltd rfl) (d_assign ha rfl) (fun a ha => ?_)
      refine s_nil ?_
      refine t_n ?_
      replace ha : Has 21 [(4, (Sl.v s17)), (5, (.int .i64 0))] _ := ha.sub ⟨rfl, rfl, trivial⟩
      refine wp_ret ?_
      have hS := ha
      cases h
      exact ret2 Try.results45 hS rfl rfl ⟨rfl, rfl⟩

noncomputable def grapevineref09_Disk_trips (a0 : Option Addr) (w : World) : Option (Bool × World) :=
  (a0).bind fun p1 =>
  (ldI .i64 w (p1.add 2)).bind fun v3 =>
  if (decide (0 < v3)) = true then
  ((ldI .i64 w (p1.add 2)).bind fun v6 =>
  (stV w (p1.add 2) (.int .i64 (IntKind.wrap .i64 (v6 - 1)))).bind fun w8 =>
  (ldI .i64 w8 (p1.add 2)).bind fun v10 =>
  (stV w8 (p1.add 3) (.bool (v10 == 0))).bind fun w12 =>
  (ldB w12 (p1.add 3)).bind fun v14 =>
  some (v14, w12))
  else
  (some (false, w))
set_option maxHeartbeats 1000000 in
set_option maxRecDepth 100000 in
theorem grapevineref09_Disk_trips_ok {a0 : Option Addr} {w w' : World} {r0 : Bool} (h : grapevineref09_Disk_trips a0 w = some (r0, w')) : Calls Try.prog 58 #[(.pointer a0)] w fun e w'' => e = .returned (.bool r0) ∧ w'' = w' := by
  refine calls_dec (n := 27) Try.func58 rfl Try.ntmps58 (by simp) (fun a ha => ?_)
  unfold grapevineref09_Disk_trips at h
  refine wp_seq ?_
  refine region_lit ?_
  refine s_do rfl ha (ltd rfl) (d_assign ha rfl) (fun a ha => ?_)
  refine s_nil ?_
  refine t_n ?_
  replace ha : Has 27 [(0, (.pointer a0))] _ := ha.sub ⟨rfl, trivial⟩
  refine wp_seq ?_
  refine wp_seq ?_
  refine region_lit ?_
  refine s_do rfl ha (ltd rfl) (d_move ha rfl) (fun a ha => ?_)
  obtain ⟨p1, e2, h⟩ := bs1 h
  refine s_do rfl ha (ltd rfl) (d_nilp ha rfl e2) (fun a ha => ?_)
  refine s_do rfl ha (ltd rfl) (d_fa ha rfl Try.runUnderlying95 rfl rfl Try.sizeOf3 (by decide)) (fun a ha => ?_)
  obtain ⟨v3, e4, h⟩ := bs1 h
  refine s_do rfl ha (ltd rfl) (d_ld ha rfl Try.isAgg3 (ldI_c e4)) (fun a ha => ?_)
  refine s_do rfl ha (ltd rfl) (d_gt ha rfl rfl) (fun a ha => ?_)
  refine s_nil ?_
  refine t_n ?_
  replace ha : Has 27 [(0, (.pointer a0)), (7, (.bool (decide (0 < v3))))] _ := ha.sub ⟨rfl, rfl, trivial⟩
  refine s_cond ha rfl h (fun b5 h => ?_) (fun b5 h => ?_)
  · refine wp_seq ?_
    refine region_lit ?_
    refine s_do rfl ha (ltd rfl) (d_move ha rfl) (fun a ha => ?_)
    refine s_do rfl ha (ltd rfl) (d_nilp ha rfl e2) (fun a ha => ?_)
    refine s_do rfl ha (ltd rfl) (d_fa ha rfl Try.runUnderlying95 rfl rfl Try.sizeOf3 (by decide)) (fun a ha => ?_)
    obtain ⟨v6, e7, h⟩ := bs1 h
    refine s_do rfl ha (ltd rfl) (d_ld ha rfl Try.isAgg3 (ldI_c e7)) (fun a ha => ?_)
    refine s_do rfl ha (ltd rfl) (d_sub ha rfl rfl) (fun a ha => ?_)
    refine s_do rfl ha (ltd rfl) (d_nilp ha rfl e2) (fun a ha => ?_)
    refine s_do rfl ha (ltd rfl) (d_fa ha rfl Try.runUnderlying95 rfl rfl Try.sizeOf3 (by decide)) (fun a ha => ?_)
    obtain ⟨w8, e9, h⟩ := bs1 h
    refine s_do rfl ha (ltd rfl) (d_st ha rfl rfl Try.sizeOf3 e9) (fun a ha => ?_)
    refine s_nil ?_
    refine t_n ?_
    replace ha : Has 27 [(0, (.pointer a0))] _ := ha.sub ⟨rfl, trivial⟩
    refine wp_seq ?_
    refine region_lit ?_
    refine s_do rfl ha (ltd rfl) (d_move ha rfl) (fun a ha => ?_)
    refine s_do rfl ha (ltd rfl) (d_move ha rfl) (fun a ha => ?_)
    refine s_do rfl ha (ltd rfl) (d_nilp ha rfl e2) (fun a ha => ?_)
    refine s_do rfl ha (ltd rfl) (d_fa ha rfl Try.runUnderlying95 rfl rfl Try.sizeOf3 (by decide)) (fun a ha => ?_)
    obtain ⟨v10, e11, h⟩ := bs1 h
    refine s_do rfl ha (ltd rfl) (d_ld ha rfl Try.isAgg3 (ldI_c e11)) (fun a ha => ?_)
    refine s_do rfl ha (ltd rfl) (d_eq ha rfl rfl) (fun a ha => ?_)
    refine s_do rfl ha (ltd rfl) (d_nilp ha rfl e2) (fun a ha => ?_)
    refine s_do rfl ha (ltd rfl) (d_fa ha rfl Try.runUnderlying95 rfl rfl Try.sizeOf4 (by decide)) (fun a ha => ?_)
    obtain ⟨w12, e13, h⟩ := bs1 h
    refine s_do rfl ha (ltd rfl) (d_st ha rfl rfl Try.sizeOf4 e13) (fun a ha => ?_)
    refine s_nil ?_
    refine t_n ?_
    replace ha : Has 27 [(0, (.pointer a0))] _ := ha.sub ⟨rfl, trivial⟩
    refine wp_seq ?_
    refine region_lit ?_
    refine s_do rfl ha (ltd rfl) (d_move ha rfl) (fun a ha => ?_)
    refine s_do rfl ha (ltd rfl) (d_nilp ha rfl e2) (fun a ha => ?_)
    refine s_do rfl ha (ltd rfl) (d_fa ha rfl Try.runUnderlying95 rfl rfl Try.sizeOf4 (by decide)) (fun a ha => ?_)
    obtain ⟨v14, e15, h⟩ := bs1 h
    refine s_do rfl ha (ltd rfl) (d_ld ha rfl Try.isAgg4 (ldB_c e15)) (fun a ha => ?_)
    refine s_do rfl ha (ltd rfl) (d_assign ha rfl) (fun a ha => ?_)
    refine s_nil ?_
    refine t_n ?_
    replace ha : Has 27 [(2, (.bool v14))] _ := ha.sub ⟨rfl, trivial⟩
    refine wp_ret ?_
    refine t_r ?_
    have hS := ha
    cases h
    exact ret1 Try.results58 hS rfl ⟨rfl, rfl⟩
  · refine wp_skip ?_
    refine t_n ?_
    replace ha : Has 27 [] _ := ha.sub trivial
    refine wp_seq ?_
    refine region_lit ?_
    refine s_do rfl ha (ltd rfl) (d_assign ha rfl) (fun a ha => ?_)
    refine s_nil ?_
    refine t_n ?_
    replace ha : Has 27 [(2, (.bool false))] _ := ha.sub ⟨rfl, trivial⟩
    refine wp_ret ?_
    have hS := ha
    cases h
    exact ret1 Try.results58 hS rfl ⟨rfl, rfl⟩

noncomputable def grapevineref09_Disk_Write (a0 : Option Addr) (a1 : Int) (a2 : Sl) (w : World) : Option (Int × World) :=
  if (a0.isNone) = true then
  (some (1, w))
  else
  ((a0).bind fun p2 =>
  (ldB w (p2.add 3)).bind fun v4 =>
  if v4 = true then
  (some (10, w))
  else
  (bind2 (grapevineref09_Disk_has a0 a1 w) fun v7 w8 =>
  if (!v7) = true then
  (some (2, w8))
  else
  (if (decide (64 < (a2.n : Int))) = true then
  (some (6, w8))
  else
  (bind2 (grapevineref09_Disk_trips a0 w8) fun v12 w13 =>
  if v12 = true then
  (some (10, w13))
  else
  (bind2 (bsl w13 5 1 []) fun s16 w17 =>
  bind2 (apS Try.prog 29 s16 a2 w17) fun s19 w20 =>
  bind2 (apZ Try.prog 29 3 s19 (IntKind.wrap .i64 (64 - (a2.n : Int))) w20) fun s22 w23 =>
  (ldL w23 (p2.add 1)).bind fun v25 =>
  bind2 (bsl w23 106 2 [([.int .i64 a1, Sl.v s22])]) fun s27 w28 =>
  bind2 (apS Try.prog 93 v25 s27 w28) fun s30 w31 =>
  (stV w31 (p2.add 1) (Sl.v s30)).bind fun w33 =>
  some (0, w33))))))
set_option maxHeartbeats 1000000 in
set_option maxRecDepth 100000 in
theorem grapevineref09_Disk_Write_ok {a0 : Option Addr} {a1 : Int} {a2 : Sl} {w w' : World} {r0 : Int} (h : grapevineref09_Disk_Write a0 a1 a2 w = some (r0, w')) : Calls Try.prog 48 #[(.pointer a0), (.int .i64 a1), (Sl.v a2)] w fun e w'' => e = .returned (.int .i64 r0) ∧ w'' = w' := by
  refine calls_dec (n := 42) Try.func48 rfl Try.ntmps48 (by simp) (fun a ha => ?_)
  unfold grapevineref09_Disk_Write at h
  refine wp_seq ?_
  refine region_lit ?_
  refine s_do rfl ha (ltd rfl) (d_assign ha rfl) (fun a ha => ?_)
  refine s_nil ?_
  refine t_n ?_
  replace ha : Has 42 [(0, (.pointer a0)), (1, (.int .i64 a1)), (2, (Sl.v a2))] _ := ha.sub ⟨rfl, rfl, rfl, trivial⟩
  refine wp_seq ?_
  refine wp_seq ?_
  refine region_lit ?_
  refine s_do rfl ha (ltd rfl) (d_move ha rfl) (fun a ha => ?_)
  refine s_do rfl ha (ltd rfl) (d_eqN ha rfl rfl Try.runUnderlying44) (fun a ha => ?_)
  refine s_nil ?_
  refine t_n ?_
  replace ha : Has 42 [(0, (.pointer a0)), (1, (.int .i64 a1)), (2, (Sl.v a2)), (9, (.bool (a0.isNone)))] _ := ha.sub ⟨rfl, rfl, rfl, rfl, trivial⟩
  refine s_cond ha rfl h (fun b1 h => ?_) (fun b1 h => ?_)
  · refine wp_seq ?_
    refine region_lit ?_
    refine s_do rfl ha (ltd rfl) (d_assign ha rfl) (fun a ha => ?_)
    refine s_nil ?_
    refine t_n ?_
    replace ha : Has 42 [(6, (.int .i64 1))] _ := ha.sub ⟨rfl, trivial⟩
    refine wp_ret ?_
    refine t_r ?_
    have hS := ha
    cases h
    exact ret1 Try.results48 hS rfl ⟨rfl, rfl⟩
  · refine wp_skip ?_
    refine t_n ?_
    replace ha : Has 42 [(0, (.pointer a0)), (1, (.int .i64 a1)), (2, (Sl.v a2))] _ := ha.sub ⟨rfl, rfl, rfl, trivial⟩
    refine wp_seq ?_
    refine wp_seq ?_
    refine region_lit ?_
    refine s_do rfl ha (ltd rfl) (d_move ha rfl) (fun a ha => ?_)
    obtain ⟨p2, e3, h⟩ := bs1 h
    refine s_do rfl ha (ltd rfl) (d_nilp ha rfl e3) (fun a ha => ?_)
    refine s_do rfl ha (ltd rfl) (d_fa ha rfl Try.runUnderlying95 rfl rfl Try.sizeOf4 (by decide)) (fun a ha => ?_)
    obtain ⟨v4, e5, h⟩ := bs1 h
    refine s_do rfl ha (ltd rfl) (d_ld ha rfl Try.isAgg4 (ldB_c e5)) (fun a ha => ?_)
    refine s_nil ?_
    refine t_n ?_
    replace ha : Has 42 [(0, (.pointer a0)), (1, (.int .i64 a1)), (2, (Sl.v a2)), (13, (.bool v4))] _ := ha.sub ⟨rfl, rfl, rfl, rfl, trivial⟩
    refine s_cond ha rfl h (fun b6 h => ?_) (fun b6 h => ?_)
    · refine wp_seq ?_
      refine region_lit ?_
      refine s_do rfl ha (ltd rfl) (d_assign ha rfl) (fun a ha => ?_)
      refine s_nil ?_
      refine t_n ?_
      replace ha : Has 42 [(6, (.int .i64 10))] _ := ha.sub ⟨rfl, trivial⟩
      refine wp_ret ?_
      refine t_r ?_
      have hS := ha
      cases h
      exact ret1 Try.results48 hS rfl ⟨rfl, rfl⟩
    · refine wp_skip ?_
      refine t_n ?_
      replace ha : Has 42 [(0, (.pointer a0)), (1, (.int .i64 a1)), (2, (Sl.v a2))] _ := ha.sub ⟨rfl, rfl, rfl, trivial⟩
      refine wp_seq ?_
      refine wp_seq ?_
      refine region_lit ?_
      refine s_do rfl ha (ltd rfl) (d_move ha rfl) (fun a ha => ?_)
      refine s_do rfl ha (ltd rfl) (d_move ha rfl) (fun a ha => ?_)
      obtain ⟨v7, w8, e9, h⟩ := bs2 h
      refine s_do rfl ha (ltd rfl) (d_call (xs := [_, _]) (vs := [(.pointer a0), (.int .i64 a1)]) ha ⟨rfl, rfl, trivial⟩ Try.call57 (grapevineref09_Disk_has_ok e9)) (fun a ha => ?_)
      refine s_do rfl ha (ltd rfl) (d_not ha rfl) (fun a ha => ?_)
      refine s_nil ?_
      refine t_n ?_
      replace ha : Has 42 [(0, (.pointer a0)), (1, (.int .i64 a1)), (2, (Sl.v a2)), (17, (.bool (!v7)))] _ := ha.sub ⟨rfl, rfl, rfl, rfl, trivial⟩
      refine s_cond ha rfl h (fun b10 h => ?_) (fun b10 h => ?_)
      · refine wp_seq ?_
        refine region_lit ?_
        refine s_do rfl ha (ltd rfl) (d_assign ha rfl) (fun a ha => ?_)
        refine s_nil ?_
        refine t_n ?_
        replace ha : Has 42 [(6, (.int .i64 2))] _ := ha.sub ⟨rfl, trivial⟩
        refine wp_ret ?_
        refine t_r ?_
        have hS := ha
        cases h
        exact ret1 Try.results48 hS rfl ⟨rfl, rfl⟩
      · refine wp_skip ?_
        refine t_n ?_
        replace ha : Has 42 [(0, (.pointer a0)), (1, (.int .i64 a1)), (2, (Sl.v a2))] _ := ha.sub ⟨rfl, rfl, rfl, trivial⟩
        refine wp_seq ?_
        refine wp_seq ?_
        refine region_lit ?_
        refine s_do rfl ha (ltd rfl) (d_move ha rfl) (fun a ha => ?_)
        refine s_do rfl ha (ltd rfl) (d_lenS ha rfl Try.runUnderlying29) (fun a ha => ?_)
        refine s_do rfl ha (ltd rfl) (d_gt ha rfl rfl) (fun a ha => ?_)
        refine s_nil ?_
        refine t_n ?_
        replace ha : Has 42 [(0, (.pointer a0)), (1, (.int .i64 a1)), (2, (Sl.v a2)), (20, (.bool (decide (64 < (a2.n : Int)))))] _ := ha.sub ⟨rfl, rfl, rfl, rfl, trivial⟩
        refine s_cond ha rfl h (fun b11 h => ?_) (fun b11 h => ?_)
        · refine wp_seq ?_
          refine region_lit ?_
          refine s_do rfl ha (ltd rfl) (d_assign ha rfl) (fun a ha => ?_)
          refine s_nil ?_
          refine t_n ?_
          replace ha : Has 42 [(6, (.int .i64 6))] _ := ha.sub ⟨rfl, trivial⟩
          refine wp_ret ?_
          refine t_r ?_
          have hS := ha
          cases h
          exact ret1 Try.results48 hS rfl ⟨rfl, rfl⟩
        · refine wp_skip ?_
          refine t_n ?_
          replace ha : Has 42 [(0, (.pointer a0)), (1, (.int .i64 a1)), (2, (Sl.v a2))] _ := ha.sub ⟨rfl, rfl, rfl, trivial⟩
          refine wp_seq ?_
          refine wp_seq ?_
          refine region_lit ?_
          refine s_do rfl ha (ltd rfl) (d_move ha rfl) (fun a ha => ?_)
          obtain ⟨v12, w13, e14, h⟩ := bs2 h
          refine s_do rfl ha (ltd rfl) (d_call (xs := [_]) (vs := [(.pointer a0)]) ha ⟨rfl, trivial⟩ Try.call58 (grapevineref09_Disk_trips_ok e14)) (fun a ha => ?_)
          refine s_nil ?_
          refine t_n ?_
          replace ha : Has 42 [(0, (.pointer a0)), (1, (.int .i64 a1)), (2, (Sl.v a2)), (22, (.bool v12))] _ := ha.sub ⟨rfl, rfl, rfl, rfl, trivial⟩
          refine s_cond ha rfl h (fun b15 h => ?_) (fun b15 h => ?_)
          · refine wp_seq ?_
            refine region_lit ?_
            refine s_do rfl ha (ltd rfl) (d_assign ha rfl) (fun a ha => ?_)
            refine s_nil ?_
            refine t_n ?_
            replace ha : Has 42 [(6, (.int .i64 10))] _ := ha.sub ⟨rfl, trivial⟩
            refine wp_ret ?_
            refine t_r ?_
            have hS := ha
            cases h
            exact ret1 Try.results48 hS rfl ⟨rfl, rfl⟩
          · refine wp_skip ?_
            refine t_n ?_
            replace ha : Has 42 [(0, (.pointer a0)), (1, (.int .i64 a1)), (2, (Sl.v a2))] _ := ha.sub ⟨rfl, rfl, rfl, trivial⟩
            refine wp_seq ?_
            refine region_lit ?_
            obtain ⟨s16, w17, e18, h⟩ := bs2 h
            refine s_do rfl ha (ltd rfl) (d_bsl (vs := []) (ps := []) ha trivial trivial rfl Try.runUnderlying29 Try.sizeOf5 Try.zeroValue5 (by decide) e18) (fun a ha => ?_)
            refine s_do rfl ha (ltd rfl) (d_move ha rfl) (fun a ha => ?_)
            obtain ⟨s19, w20, e21, h⟩ := bs2 h
            refine s_do rfl ha (ltd rfl) (d_apS ha rfl rfl e21) (fun a ha => ?_)
            refine s_do rfl ha (ltd rfl) (d_move ha rfl) (fun a ha => ?_)
            refine s_do rfl ha (ltd rfl) (d_lenS ha rfl Try.runUnderlying29) (fun a ha => ?_)
            refine s_do rfl ha (ltd rfl) (d_sub ha rfl rfl) (fun a ha => ?_)
            obtain ⟨s22, w23, e24, h⟩ := bs2 h
            refine s_do rfl ha (ltd rfl) (d_apZ ha rfl rfl e24) (fun a ha => ?_)
            refine s_do rfl ha (ltd rfl) (d_assign ha rfl) (fun a ha => ?_)
            refine s_nil ?_
            refine t_n ?_
            replace ha : Has 42 [(0, (.pointer a0)), (1, (.int .i64 a1)), (7, (Sl.v s22))] _ := ha.sub ⟨rfl, rfl, rfl, trivial⟩
            refine wp_seq ?_
            refine region_lit ?_
            refine s_do rfl ha (ltd rfl) (d_move ha rfl) (fun a ha => ?_)
            refine s_do rfl ha (ltd rfl) (d_move ha rfl) (fun a ha => ?_)
            refine s_do rfl ha (ltd rfl) (d_nilp ha rfl e3) (fun a ha => ?_)
            refine s_do rfl ha (ltd rfl) (d_fa ha rfl Try.runUnderlying95 rfl rfl Try.sizeOf93 (by decide)) (fun a ha => ?_)
            obtain ⟨v25, e26, h⟩ := bs1 h
            refine s_do rfl ha (ltd rfl) (d_ld ha rfl Try.isAgg93 (ldL_c e26)) (fun a ha => ?_)
            refine s_do rfl ha (ltd rfl) (d_move ha rfl) (fun a ha => ?_)
            refine s_do rfl ha (ltd rfl) (d_move ha rfl) (fun a ha => ?_)
            refine s_do rfl ha (ltd rfl) (d_build (vs := [(0, (.int .i64 a1)), (1, (Sl.v s22))]) (pl := #[(0, 1), (1, 1)]) (cs := ([.int .i64 a1, Sl.v s22])) ha ⟨rfl, rfl, rfl, rfl, trivial⟩ Try.zeroValue106 Try.runUnderlying106 (by intro w; kernel_rfl) (by kernel_rfl)) (fun a ha => ?_)
            obtain ⟨s27, w28, e29, h⟩ := bs2 h
            refine s_do rfl ha (ltd rfl) (d_bsl (vs := [(0, (.agg (List.toArray ([.int .i64 a1, Sl.v s22]))))]) (ps := [([.int .i64 a1, Sl.v s22])]) ha ⟨rfl, rfl, trivial⟩ ⟨rfl, rfl, trivial⟩ rfl Try.runUnderlying93 Try.sizeOf106 Try.zeroValue106 (by decide) e29) (fun a ha => ?_)
            obtain ⟨s30, w31, e32, h⟩ := bs2 h
            refine s_do rfl ha (ltd rfl) (d_apS ha rfl rfl e32) (fun a ha => ?_)
            refine s_do rfl ha (ltd rfl) (d_nilp ha rfl e3) (fun a ha => ?_)
            refine s_do rfl ha (ltd rfl) (d_fa ha rfl Try.runUnderlying95 rfl rfl Try.sizeOf93 (by decide)) (fun a ha => ?_)
            obtain ⟨w33, e34, h⟩ := bs1 h
            refine s_do rfl ha (ltd rfl) (d_st ha rfl rfl Try.sizeOf93 e34) (fun a ha => ?_)
            refine s_nil ?_
            refine t_n ?_
            replace ha : Has 42 [] _ := ha.sub trivial
            refine wp_seq ?_
            refine region_lit ?_
            refine s_do rfl ha (ltd rfl) (d_assign ha rfl) (fun a ha => ?_)
            refine s_nil ?_
            refine t_n ?_
            replace ha : Has 42 [(6, (.int .i64 0))] _ := ha.sub ⟨rfl, trivial⟩
            refine wp_ret ?_
            have hS := ha
            cases h
            exact ret1 Try.results48 hS rfl ⟨rfl, rfl⟩

noncomputable def grapevineref09_Disk_put (a0 : Option Addr) (a1 : List Value) (a2 : Int) (w : World) : Option (World) :=
  bind2 (mk w 106 a1) fun p1 w2 =>
  bind2 (bsl w2 5 1 []) fun s4 w5 =>
  (ldL w5 (p1.add 1)).bind fun v7 =>
  (slS v7 0 a2 (v7.c : Int) 1).bind fun s9 =>
  bind2 (apS Try.prog 29 s4 s9 w5) fun s11 w12 =>
  (dr w12).bind fun w14 =>
  (a0).bind fun p16 =>
  (ldL w14 (p16.add 0)).bind fun v18 =>
  (ldI .i64 w14 (p1.add 0)).bind fun v20 =>
  (ldL w14 (p16.add 0)).bind fun v22 =>
  (ldI .i64 w14 (p1.add 0)).bind fun v24 =>
  (ix v22 v24 1).bind fun p26 =>
  (ldL w14 p26).bind fun v28 =>
  (slS v28 a2 (v28.n : Int) (v28.c : Int) 1).bind fun s30 =>
  bind2 (apS Try.prog 29 s11 s30 w14) fun s32 w33 =>
  (ix v18 v20 1).bind fun p35 =>
  (stV w33 p35 (Sl.v s32)).bind fun w37 =>
  chk (ldL w33 (p16.add 0) = some v18) <|
  chk (ldI .i64 w33 (p1.add 0) = some v20) <|
  some w37
set_option maxHeartbeats 1000000 in
set_option maxRecDepth 100000 in
theorem grapevineref09_Disk_put_ok {a0 : Option Addr} {a1 : List Value} {a2 : Int} {w w' : World} (h : grapevineref09_Disk_put a0 a1 a2 w = some w') : Calls Try.prog 59 #[(.pointer a0), (.agg (List.toArray a1)), (.int .i64 a2)] w fun e w'' => e = .returned (.tuple #[]) ∧ w'' = w' := by
  refine calls_dec (n := 32) Try.func59 rfl Try.ntmps59 (by simp) (fun a ha => ?_)
  unfold grapevineref09_Disk_put at h
  refine wp_seq ?_
  refine region_lit ?_
  obtain ⟨p1, w2, e3, h⟩ := bs2 h
  refine s_do rfl ha (ltd rfl) (d_box ha rfl rfl e3) (fun a ha => ?_)
  refine s_nil ?_
  refine t_n ?_
  replace ha : Has 32 [(0, (.pointer a0)), (2, (.int .i64 a2)), (4, (.pointer (some p1)))] _ := ha.sub ⟨rfl, rfl, rfl, trivial⟩
  refine wp_seq ?_
  refine region_lit ?_
  obtain ⟨s4, w5, e6, h⟩ := bs2 h
  refine s_do rfl ha (ltd rfl) (d_bsl (vs := []) (ps := []) ha trivial trivial rfl Try.runUnderlying29 Try.sizeOf5 Try.zeroValue5 (by decide) e6) (fun a ha => ?_)
  refine s_do rfl ha (ltd rfl) (d_fa ha rfl Try.runUnderlying106 rfl rfl Try.sizeOf29 (by decide)) (fun a ha => ?_)
  obtain ⟨v7, e8, h⟩ := bs1 h
  refine s_do rfl ha (ltd rfl) (d_ld ha rfl Try.isAgg29 (ldL_c e8)) (fun a ha => ?_)
  refine s_do rfl ha (ltd rfl) (d_move ha rfl) (fun a ha => ?_)
  obtain ⟨s9, e10, h⟩ := bs1 h
  refine s_do rfl ha (ltd rfl) (d_slS ha rfl Try.runUnderlying29 Try.sizeOf5 rfl ⟨_, rfl⟩ rfl (by simp) e10) (fun a ha => ?_)
  obtain ⟨s11, w12, e13, h⟩ := bs2 h
  refine s_do rfl ha (ltd rfl) (d_apS ha rfl rfl e13) (fun a ha => ?_)
  refine s_do rfl ha (ltd rfl) (d_assign ha rfl) (fun a ha => ?_)
  refine s_nil ?_
  refine t_n ?_
  replace ha : Has 32 [(0, (.pointer a0)), (2, (.int .i64 a2)), (4, (.pointer (some p1))), (6, (Sl.v s11))] _ := ha.sub ⟨rfl, rfl, rfl, rfl, trivial⟩
  obtain ⟨w14, e15, h⟩ := bs1 h
  obtain ⟨p16, e17, h⟩ := bs1 h
  obtain ⟨v18, e19, h⟩ := bs1 h
  obtain ⟨v20, e21, h⟩ := bs1 h
  obtain ⟨v22, e23, h⟩ := bs1 h
  obtain ⟨v24, e25, h⟩ := bs1 h
  obtain ⟨p26, e27, h⟩ := bs1 h
  obtain ⟨v28, e29, h⟩ := bs1 h
  obtain ⟨s30, e31, h⟩ := bs1 h
  obtain ⟨s32, w33, e34, h⟩ := bs2 h
  obtain ⟨p35, e36, h⟩ := bs1 h
  obtain ⟨w37, e38, h⟩ := bs1 h
  obtain ⟨e39, h⟩ := chk_some h
  obtain ⟨e40, h⟩ := chk_some h
  have ha : Has 32 [(0, (.pointer a0)), (2, (.int .i64 a2)), (4, (.pointer (some p1))), (6, (Sl.v s11))] a := ha.sub ⟨rfl, rfl, rfl, rfl, trivial⟩
  refine region_draw (n := 32) (ds := (⟨_, (.pointer a0), false, 0, 1, [], [(0, (.pointer a0))]⟩ :: ⟨_, (.pointer (some p16)), false, 0, 1, [0], [(13, (.pointer a0))]⟩ :: ⟨_, (.pointer (some (p16.add 0))), false, 0, 1, [0, 1], [(14, (.pointer (some p16)))]⟩ :: ⟨_, (Sl.v v18), false, 0, 1, [0, 1, 2], [(15, (.pointer (some (p16.add 0))))]⟩ :: ⟨_, (.pointer (some (p1.add 0))), false, 0, 1, [], [(4, (.pointer (some p1)))]⟩ :: ⟨_, (.int .i64 v20), false, 0, 1, [4], [(17, (.pointer (some (p1.add 0))))]⟩ :: ⟨_, (Sl.v s11), false, 0, 0, [], [(6, (Sl.v s11))]⟩ :: ⟨_, (.pointer a0), false, 0, 0, [], [(0, (.pointer a0))]⟩ :: ⟨_, (.pointer (some p16)), false, 0, 0, [7], [(20, (.pointer a0))]⟩ :: ⟨_, (.pointer (some (p16.add 0))), false, 0, 0, [7, 8], [(21, (.pointer (some p16)))]⟩ :: ⟨_, (Sl.v v22), false, 0, 0, [7, 8, 9], [(22, (.pointer (some (p16.add 0))))]⟩ :: ⟨_, (.pointer (some (p1.add 0))), false, 0, 0, [], [(4, (.pointer (some p1)))]⟩ :: ⟨_, (.int .i64 v24), false, 0, 0, [11], [(24, (.pointer (some (p1.add 0))))]⟩ :: ⟨_, (.pointer (some p26)), false, 0, 0, [7, 8, 9, 10, 11, 12], [(23, (Sl.v v22)), (25, (.int .i64 v24))]⟩ :: ⟨_, (Sl.v v28), false, 0, 0, [7, 8, 9, 10, 11, 12, 13], [(26, (.pointer (some p26)))]⟩ :: ⟨_, (.int .i64 a2), false, 0, 0, [], [(2, (.int .i64 a2))]⟩ :: ⟨_, (Sl.v s30), false, 0, 0, [7, 8, 9, 10, 11, 12, 13, 14, 15], [(27, (Sl.v v28)), (28, (.int .i64 a2))]⟩ :: ⟨_, (Sl.v s32), true, 0, 0, [6, 7, 8, 9, 10, 11, 12, 13, 14, 15, 16], [(19, (Sl.v s11)), (29, (Sl.v s30))]⟩ :: ⟨_, (.pointer (some p35)), false, 1, 1, (0 :: 1 :: 2 :: 3 :: 4 :: 5 :: 6 :: 7 :: 8 :: 9 :: 10 :: 11 :: 12 :: 13 :: 14 :: 15 :: 16 :: 17 :: []), [(16, (Sl.v v18)), (18, (.int .i64 v20))]⟩ :: ⟨_, undef, true, 1, 1, (0 :: 1 :: 2 :: 3 :: 4 :: 5 :: 6 :: 7 :: 8 :: 9 :: 10 :: 11 :: 12 :: 13 :: 14 :: 15 :: 16 :: 17 :: 18 :: []), [(31, (.pointer (some p35))), (30, (Sl.v s32))]⟩ :: [])) (W := (fun j => match j with | 0 => w14 | 1 => w33 | _ => w37)) (by kernel_rfl) ha (dr_w e15) (by kernel_rfl) ?_ (reads_of (by kernel_rfl)) (by kernel_rfl) (m := 2) (by kernel_rfl) (fun a ha => ?_)
  · refine ⟨?_, ?_, ?_, ?_, ?_, ?_, ?_, ?_, ?_, ?_, ?_, ?_, ?_, ?_, ?_, ?_, ?_, ?_, ?_, ?_, trivial⟩
    · intro j _ _; exact ok_do rfl fun a ha => d_move ha rfl
    · intro j _ _; exact ok_do rfl fun a ha => d_nilp ha rfl e17
    · intro j _ _; exact ok_do rfl fun a ha => d_fa ha rfl Try.runUnderlying95 rfl rfl Try.sizeOf92 (by decide)
    · intro j h1 h2; have h1 : 0 ≤ j := h1; have h2 : j ≤ 1 := h2; rcases (by omega : j = 0 ∨ j = 1) with rfl | rfl
      · exact ok_do rfl fun a ha => d_ld ha rfl Try.isAgg92 (ldL_c e19)
      · exact ok_do rfl fun a ha => d_ld ha rfl Try.isAgg92 (ldL_c e39)
    · intro j _ _; exact ok_do rfl fun a ha => d_fa ha rfl Try.runUnderlying106 rfl rfl Try.sizeOf3 (by decide)
    · intro j h1 h2; have h1 : 0 ≤ j := h1; have h2 : j ≤ 1 := h2; rcases (by omega : j = 0 ∨ j = 1) with rfl | rfl
      · exact ok_do rfl fun a ha => d_ld ha rfl Try.isAgg3 (ldI_c e21)
      · exact ok_do rfl fun a ha => d_ld ha rfl Try.isAgg3 (ldI_c e40)
    · intro j _ _; exact ok_do rfl fun a ha => d_move ha rfl
    · intro j _ _; exact ok_do rfl fun a ha => d_move ha rfl
    · intro j _ _; exact ok_do rfl fun a ha => d_nilp ha rfl e17
    · intro j _ _; exact ok_do rfl fun a ha => d_fa ha rfl Try.runUnderlying95 rfl rfl Try.sizeOf92 (by decide)
    · intro j h1 h2; obtain rfl : j = 0 := Nat.le_antisymm h2 h1; exact ok_do rfl fun a ha => d_ld ha rfl Try.isAgg92 (ldL_c e23)
    · intro j _ _; exact ok_do rfl fun a ha => d_fa ha rfl Try.runUnderlying106 rfl rfl Try.sizeOf3 (by decide)
    · intro j h1 h2; obtain rfl : j = 0 := Nat.le_antisymm h2 h1; exact ok_do rfl fun a ha => d_ld ha rfl Try.isAgg3 (ldI_c e25)
    · intro j _ _; exact ok_do rfl fun a ha => d_ix ha rfl rfl Try.runUnderlying92 Try.sizeOf29 e27
    · intro j h1 h2; obtain rfl : j = 0 := Nat.le_antisymm h2 h1; exact ok_do rfl fun a ha => d_ld ha rfl Try.isAgg29 (ldL_c e29)
    · intro j _ _; exact ok_do rfl fun a ha => d_move ha rfl
    · intro j _ _; exact ok_do rfl fun a ha => d_slS ha rfl Try.runUnderlying29 Try.sizeOf5 ⟨_, rfl⟩ rfl rfl (by simp) e31
    · intro j h1 h2; obtain rfl : j = 0 := Nat.le_antisymm h2 h1; exact ok_do rfl fun a ha => d_apS ha rfl rfl e34
    · intro j _ _; exact ok_do rfl fun a ha => d_ix ha rfl rfl Try.runUnderlying92 Try.sizeOf29 e36
    · intro j h1 h2; obtain rfl : j = 1 := Nat.le_antisymm h2 h1; exact ok_do rfl fun a ha => d_st ha rfl rfl Try.sizeOf29 e38
  · have ha : Has 32 [] a := ha.sub trivial
    have hS := ha
    cases h
    exact end0 Try.results59 hS ⟨rfl, rfl⟩

noncomputable def grapevineref09_Disk_Sync_l1 (a0 : Option Addr) (x15 : Int) (w16 : World) : Option ((Int × World) ⊕ (World)) :=
  (a0).bind fun p22 =>
  (ldL w16 (p22.add 1)).bind fun v24 =>
  if (decide (x15 < (v24.n : Int))) = true then
  ((ldL w16 (p22.add 1)).bind fun v27 =>
  (ix v27 x15 2).bind fun p29 =>
  (ldA 2 w16 p29 0).bind fun c31 =>
  (grapevineref09_Disk_put a0 c31 64 w16).bind fun w33 =>
  some (.inl ((IntKind.wrap .i64 (x15 + 1)), w33)))
  else
  (some (.inr w16))
noncomputable def grapevineref09_Disk_Sync (a0 : Option Addr) (w : World) : Option (Int × World) :=
  if (a0.isNone) = true then
  (some (1, w))
  else
  (bind2 ((a0).bind fun p6 =>
  (ldB w (p6.add 3)).bind fun v8 =>
  if v8 = true then
  (some (true, w))
  else
  (bind2 (grapevineref09_Disk_trips a0 w) fun v11 w12 =>
  some (v11, w12))) fun v2 w3 =>
  if v2 = true then
  (some (10, w3))
  else
  ((loopF (fun s : Int × World => grapevineref09_Disk_Sync_l1 a0 s.1 s.2) (0, w3)).bind fun w19 =>
  (a0).bind fun p35 =>
  (stV w19 (p35.add 1) (Sl.v Sl.nil)).bind fun w37 =>
  some (0, w37)))
set_option maxHeartbeats 1000000 in
set_option maxRecDepth 100000 in
theorem grapevineref09_Disk_Sync_ok {a0 : Option Addr} {w w' : World} {r0 : Int} (h : grapevineref09_Disk_Sync a0 w = some (r0, w')) : Calls Try.prog 49 #[(.pointer a0)] w fun e w'' => e = .returned (.int .i64 r0) ∧ w'' = w' := by
  refine calls_dec (n := 35) Try.func49 rfl Try.ntmps49 (by simp) (fun a ha => ?_)
  unfold grapevineref09_Disk_Sync at h
  refine wp_seq ?_
  refine region_lit ?_
  refine s_do rfl ha (ltd rfl) (d_assign ha rfl) (fun a ha => ?_)
  refine s_nil ?_
  refine t_n ?_
  replace ha : Has 35 [(0, (.pointer a0))] _ := ha.sub ⟨rfl, trivial⟩
  refine wp_seq ?_
  refine wp_seq ?_
  refine region_lit ?_
  refine s_do rfl ha (ltd rfl) (d_move ha rfl) (fun a ha => ?_)
  refine s_do rfl ha (ltd rfl) (d_eqN ha rfl rfl Try.runUnderlying44) (fun a ha => ?_)
  refine s_nil ?_
  refine t_n ?_
  replace ha : Has 35 [(0, (.pointer a0)), (5, (.bool (a0.isNone)))] _ := ha.sub ⟨rfl, rfl, trivial⟩
  refine s_cond ha rfl h (fun b1 h => ?_) (fun b1 h => ?_)
  · refine wp_seq ?_
    refine region_lit ?_
    refine s_do rfl ha (ltd rfl) (d_assign ha rfl) (fun a ha => ?_)
    refine s_nil ?_
    refine t_n ?_
    replace ha : Has 35 [(2, (.int .i64 1))] _ := ha.sub ⟨rfl, trivial⟩
    refine wp_ret ?_
    refine t_r ?_
    have hS := ha
    cases h
    exact ret1 Try.results49 hS rfl ⟨rfl, rfl⟩
  · refine wp_skip ?_
    refine t_n ?_
    replace ha : Has 35 [(0, (.pointer a0))] _ := ha.sub ⟨rfl, trivial⟩
    refine wp_seq ?_
    refine wp_seq ?_
    obtain ⟨v2, w3, e4, h⟩ := bs2 h
    refine reg_join (n := 35) (L := [(13, (.bool v2)), (0, (.pointer a0))]) (w' := w3) (fun a ha => ?_) (fun hk5 => ?_)
    · refine t_n ?_
      replace ha : Has 35 [(0, (.pointer a0)), (13, (.bool v2))] _ := ha.sub ⟨rfl, rfl, trivial⟩
      refine s_cond ha rfl h (fun b14 h => ?_) (fun b14 h => ?_)
      · refine wp_seq ?_
        refine region_lit ?_
        refine s_do rfl ha (ltd rfl) (d_assign ha rfl) (fun a ha => ?_)
        refine s_nil ?_
        refine t_n ?_
        replace ha : Has 35 [(2, (.int .i64 10))] _ := ha.sub ⟨rfl, trivial⟩
        refine wp_ret ?_
        refine t_r ?_
        have hS := ha
        cases h
        exact ret1 Try.results49 hS rfl ⟨rfl, rfl⟩
      · refine wp_skip ?_
        refine t_n ?_
        replace ha : Has 35 [(0, (.pointer a0))] _ := ha.sub ⟨rfl, trivial⟩
        refine wp_seq ?_
        refine wp_seq ?_
        refine region_lit ?_
        refine s_do rfl ha (ltd rfl) (d_assign ha rfl) (fun a ha => ?_)
        refine s_nil ?_
        refine t_n ?_
        replace ha : Has 35 [(0, (.pointer a0)), (3, (.int .i64 0))] _ := ha.sub ⟨rfl, rfl, trivial⟩
        refine wp_block ?_
        obtain ⟨w19, e18, h⟩ := bs1 h
        refine s_loop1 (n := 35) (L := [(0, (.pointer a0))]) (w' := w19) (e := .exit 0) (I := fun (s : Int × World) a w => Has 35 [(3, (.int .i64 s.1)), (0, (.pointer a0))] a ∧ w = s.2) ⟨ha.sub ⟨rfl, rfl, trivial⟩, rfl⟩ e18 (fun a ha => ?_) (fun hk20 => ?_)
        · refine b_hit ?_
          refine t_n ?_
          replace ha : Has 35 [(0, (.pointer a0))] _ := ha.sub ⟨rfl, trivial⟩
          refine wp_seq ?_
          refine region_lit ?_
          refine s_do rfl ha (ltd rfl) (d_move ha rfl) (fun a ha => ?_)
          obtain ⟨p35, e36, h⟩ := bs1 h
          refine s_do rfl ha (ltd rfl) (d_nilp ha rfl e36) (fun a ha => ?_)
          refine s_do rfl ha (ltd rfl) (d_fa ha rfl Try.runUnderlying95 rfl rfl Try.sizeOf93 (by decide)) (fun a ha => ?_)
          obtain ⟨w37, e38, h⟩ := bs1 h
          refine s_do rfl ha (ltd rfl) (d_st ha rfl rfl Try.sizeOf93 e38) (fun a ha => ?_)
          refine s_nil ?_
          refine t_n ?_
          replace ha : Has 35 [] _ := ha.sub trivial
          refine wp_seq ?_
          refine region_lit ?_
          refine s_do rfl ha (ltd rfl) (d_assign ha rfl) (fun a ha => ?_)
          refine s_nil ?_
          refine t_n ?_
          replace ha : Has 35 [(2, (.int .i64 0))] _ := ha.sub ⟨rfl, trivial⟩
          refine wp_ret ?_
          have hS := ha
          cases h
          exact ret1 Try.results49 hS rfl ⟨rfl, rfl⟩
        · clear h
          rintro ⟨x15, w16⟩ a wq o ⟨ha, hwq⟩ h hr21
          obtain rfl : w16 = wq := hwq.symm
          have ha : Has 35 [(3, (.int .i64 x15)), (0, (.pointer a0))] a := ha
          have h : grapevineref09_Disk_Sync_l1 a0 x15 w16 = some o := h
          unfold grapevineref09_Disk_Sync_l1 at h
          refine wp_seq ?_
          refine wp_seq ?_
          refine region_lit ?_
          refine s_do rfl ha (ltd rfl) (d_move ha rfl) (fun a ha => ?_)
          refine s_do rfl ha (ltd rfl) (d_move ha rfl) (fun a ha => ?_)
          obtain ⟨p22, e23, h⟩ := bs1 h
          refine s_do rfl ha (ltd rfl) (d_nilp ha rfl e23) (fun a ha => ?_)
          refine s_do rfl ha (ltd rfl) (d_fa ha rfl Try.runUnderlying95 rfl rfl Try.sizeOf93 (by decide)) (fun a ha => ?_)
          obtain ⟨v24, e25, h⟩ := bs1 h
          refine s_do rfl ha (ltd rfl) (d_ld ha rfl Try.isAgg93 (ldL_c e25)) (fun a ha => ?_)
          refine s_do rfl ha (ltd rfl) (d_lenS ha rfl Try.runUnderlying93) (fun a ha => ?_)
          refine s_do rfl ha (ltd rfl) (d_lt ha rfl rfl) (fun a ha => ?_)
          refine s_nil ?_
          refine t_n ?_
          replace ha : Has 35 [(0, (.pointer a0)), (3, (.int .i64 x15)), (20, (.bool (decide (x15 < (v24.n : Int)))))] _ := ha.sub ⟨rfl, rfl, rfl, trivial⟩
          refine s_cond ha rfl h (fun b26 h => ?_) (fun b26 h => ?_)
          · refine wp_skip ?_
            refine t_n ?_
            replace ha : Has 35 [(0, (.pointer a0)), (3, (.int .i64 x15))] _ := ha.sub ⟨rfl, rfl, trivial⟩
            refine wp_seq ?_
            refine wp_block ?_
            refine region_lit ?_
            refine s_do rfl ha (ltd rfl) (d_move ha rfl) (fun a ha => ?_)
            refine s_do rfl ha (ltd rfl) (d_move ha rfl) (fun a ha => ?_)
            refine s_do rfl ha (ltd rfl) (d_nilp ha rfl e23) (fun a ha => ?_)
            refine s_do rfl ha (ltd rfl) (d_fa ha rfl Try.runUnderlying95 rfl rfl Try.sizeOf93 (by decide)) (fun a ha => ?_)
            obtain ⟨v27, e28, h⟩ := bs1 h
            refine s_do rfl ha (ltd rfl) (d_ld ha rfl Try.isAgg93 (ldL_c e28)) (fun a ha => ?_)
            refine s_do rfl ha (ltd rfl) (d_move ha rfl) (fun a ha => ?_)
            obtain ⟨p29, e30, h⟩ := bs1 h
            refine s_do rfl ha (ltd rfl) (d_ix ha rfl rfl Try.runUnderlying93 Try.sizeOf106 e30) (fun a ha => ?_)
            obtain ⟨c31, e32, h⟩ := bs1 h
            refine s_do rfl ha (ltd rfl) (d_ldA ha rfl Try.isAgg106 Try.sizeOf106 e32) (fun a ha => ?_)
            obtain ⟨w33, e34, h⟩ := bs1 h
            refine s_do rfl ha (ltd rfl) (d_call (xs := [_, _, _]) (vs := [(.pointer a0), (.agg (List.toArray c31)), (.int .i64 64)]) ha ⟨rfl, rfl, rfl, trivial⟩ Try.call59 (grapevineref09_Disk_put_ok e34)) (fun a ha => ?_)
            refine s_nil ?_
            refine b_n ?_
            refine t_n ?_
            replace ha : Has 35 [(0, (.pointer a0)), (3, (.int .i64 x15))] _ := ha.sub ⟨rfl, rfl, trivial⟩
            refine region_lit ?_
            refine s_do rfl ha (ltd rfl) (d_move ha rfl) (fun a ha => ?_)
            refine s_do rfl ha (ltd rfl) (d_add ha rfl rfl) (fun a ha => ?_)
            refine s_do rfl ha (ltd rfl) (d_assign ha rfl) (fun a ha => ?_)
            refine s_nil ?_
            have hS : Has 35 [(3, (.int .i64 (IntKind.wrap .i64 (x15 + 1)))), (0, (.pointer a0))] _ := ha.sub ⟨rfl, rfl, trivial⟩
            cases h
            exact lp_next ⟨hS, rfl⟩
          · refine wp_exit ?_
            refine t_x ?_
            have hS : Has 35 [(0, (.pointer a0))] _ := ha.sub ⟨rfl, trivial⟩
            cases h
            cases hr21 _ rfl
            refine lp_x ?_
            exact hk20 _ hS
    · clear h
      have h := e4
      refine region_lit ?_
      refine s_do rfl ha (ltd rfl) (d_move ha rfl) (fun a ha => ?_)
      obtain ⟨p6, e7, h⟩ := bs1 h
      refine s_do rfl ha (ltd rfl) (d_nilp ha rfl e7) (fun a ha => ?_)
      refine s_do rfl ha (ltd rfl) (d_fa ha rfl Try.runUnderlying95 rfl rfl Try.sizeOf4 (by decide)) (fun a ha => ?_)
      obtain ⟨v8, e9, h⟩ := bs1 h
      refine s_do rfl ha (ltd rfl) (d_ld ha rfl Try.isAgg4 (ldB_c e9)) (fun a ha => ?_)
      refine s_do rfl ha (ltd rfl) (d_move ha rfl) (fun a ha => ?_)
      refine ite_s h (fun b10 h => ?_) (fun b10 h => ?_)
      · refine s_no_g rfl rfl ha (rfl : List.lookup 10 _ = _) (tn b10) (ltd rfl) (fun a ha => ?_)
        refine s_no_g rfl rfl ha (rfl : List.lookup 10 _ = _) (tn b10) (ltd rfl) (fun a ha => ?_)
        refine s_do rfl ha (ltd rfl) (d_pick_t ha rfl b10 rfl) (fun a ha => ?_)
        refine s_nil ?_
        have hS : Has 35 [(13, (.bool true)), (0, (.pointer a0))] _ := ha.sub ⟨rfl, rfl, trivial⟩
        cases h
        exact hk5 _ hS
      · refine s_do_g2 rfl rfl ha (rfl : List.lookup 10 _ = _) (nt b10) (ltd rfl) (d_move ha rfl) (fun a ha => ?_)
        obtain ⟨v11, w12, e13, h⟩ := bs2 h
        refine s_do_g2 rfl rfl ha (rfl : List.lookup 10 _ = _) (nt b10) (ltd rfl) (d_call (xs := [_]) (vs := [(.pointer a0)]) ha ⟨rfl, trivial⟩ Try.call58 (grapevineref09_Disk_trips_ok e13)) (fun a ha => ?_)
        refine s_do rfl ha (ltd rfl) (d_pick_f ha rfl b10 rfl) (fun a ha => ?_)
        refine s_nil ?_
        have hS : Has 35 [(13, (.bool v11)), (0, (.pointer a0))] _ := ha.sub ⟨rfl, rfl, trivial⟩
        cases h
        exact hk5 _ hS

noncomputable def grapevineref09_Disk_Trip (a0 : Option Addr) (a1 : Int) (w : World) : Option (Int × World) :=
  if (a0.isNone) = true then
  (some (1, w))
  else
  ((a0).bind fun p2 =>
  (ldB w (p2.add 3)).bind fun v4 =>
  if v4 = true then
  (some (10, w))
  else
  (if (decide (a1 < 0)) = true then
  (some (2, w))
  else
  ((stV w (p2.add 2) (.int .i64 a1)).bind fun w8 =>
  some (0, w8))))
set_option maxHeartbeats 1000000 in
set_option maxRecDepth 100000 in
theorem grapevineref09_Disk_Trip_ok {a0 : Option Addr} {a1 : Int} {w w' : World} {r0 : Int} (h : grapevineref09_Disk_Trip a0 a1 w = some (r0, w')) : Calls Try.prog 50 #[(.pointer a0), (.int .i64 a1)] w fun e w'' => e = .returned (.int .i64 r0) ∧ w'' = w' := by
  refine calls_dec (n := 17) Try.func50 rfl Try.ntmps50 (by simp) (fun a ha => ?_)
  unfold grapevineref09_Disk_Trip at h
  refine wp_seq ?_
  refine region_lit ?_
  refine s_do rfl ha (ltd rfl) (d_assign ha rfl) (fun a ha => ?_)
  refine s_nil ?_
  refine t_n ?_
  replace ha : Has 17 [(0, (.pointer a0)), (1, (.int .i64 a1))] _ := ha.sub ⟨rfl, rfl, trivial⟩
  refine wp_seq ?_
  refine wp_seq ?_
  refine region_lit ?_
  refine s_do rfl ha (ltd rfl) (d_move ha rfl) (fun a ha => ?_)
  refine s_do rfl ha (ltd rfl) (d_eqN ha rfl rfl Try.runUnderlying44) (fun a ha => ?_)
  refine s_nil ?_
  refine t_n ?_
  replace ha : Has 17 [(0, (.pointer a0)), (1, (.int .i64 a1)), (6, (.bool (a0.isNone)))] _ := ha.sub ⟨rfl, rfl, rfl, trivial⟩
  refine s_cond ha rfl h (fun b1 h => ?_) (fun b1 h => ?_)
  · refine wp_seq ?_
    refine region_lit ?_
    refine s_do rfl ha (ltd rfl) (d_assign ha rfl) (fun a ha => ?_)
    refine s_nil ?_
    refine t_n ?_
    replace ha : Has 17 [(4, (.int .i64 1))] _ := ha.sub ⟨rfl, trivial⟩
    refine wp_ret ?_
    refine t_r ?_
    have hS := ha
    cases h
    exact ret1 Try.results50 hS rfl ⟨rfl, rfl⟩
  · refine wp_skip ?_
    refine t_n ?_
    replace ha : Has 17 [(0, (.pointer a0)), (1, (.int .i64 a1))] _ := ha.sub ⟨rfl, rfl, trivial⟩
    refine wp_seq ?_
    refine wp_seq ?_
    refine region_lit ?_
    refine s_do rfl ha (ltd rfl) (d_move ha rfl) (fun a ha => ?_)
    obtain ⟨p2, e3, h⟩ := bs1 h
    refine s_do rfl ha (ltd rfl) (d_nilp ha rfl e3) (fun a ha => ?_)
    refine s_do rfl ha (ltd rfl) (d_fa ha rfl Try.runUnderlying95 rfl rfl Try.sizeOf4 (by decide)) (fun a ha => ?_)
    obtain ⟨v4, e5, h⟩ := bs1 h
    refine s_do rfl ha (ltd rfl) (d_ld ha rfl Try.isAgg4 (ldB_c e5)) (fun a ha => ?_)
    refine s_nil ?_
    refine t_n ?_
    replace ha : Has 17 [(0, (.pointer a0)), (1, (.int .i64 a1)), (10, (.bool v4))] _ := ha.sub ⟨rfl, rfl, rfl, trivial⟩
    refine s_cond ha rfl h (fun b6 h => ?_) (fun b6 h => ?_)
    · refine wp_seq ?_
      refine region_lit ?_
      refine s_do rfl ha (ltd rfl) (d_assign ha rfl) (fun a ha => ?_)
      refine s_nil ?_
      refine t_n ?_
      replace ha : Has 17 [(4, (.int .i64 10))] _ := ha.sub ⟨rfl, trivial⟩
      refine wp_ret ?_
      refine t_r ?_
      have hS := ha
      cases h
      exact ret1 Try.results50 hS rfl ⟨rfl, rfl⟩
    · refine wp_skip ?_
      refine t_n ?_
      replace ha : Has 17 [(0, (.pointer a0)), (1, (.int .i64 a1))] _ := ha.sub ⟨rfl, rfl, trivial⟩
      refine wp_seq ?_
      refine wp_seq ?_
      refine region_lit ?_
      refine s_do rfl ha (ltd rfl) (d_move ha rfl) (fun a ha => ?_)
      refine s_do rfl ha (ltd rfl) (d_lt ha rfl rfl) (fun a ha => ?_)
      refine s_nil ?_
      refine t_n ?_
      replace ha : Has 17 [(0, (.pointer a0)), (1, (.int .i64 a1)), (12, (.bool (decide (a1 < 0))))] _ := ha.sub ⟨rfl, rfl, rfl, trivial⟩
      refine s_cond ha rfl h (fun b7 h => ?_) (fun b7 h => ?_)
      · refine wp_seq ?_
        refine region_lit ?_
        refine s_do rfl ha (ltd rfl) (d_assign ha rfl) (fun a ha => ?_)
        refine s_nil ?_
        refine t_n ?_
        replace ha : Has 17 [(4, (.int .i64 2))] _ := ha.sub ⟨rfl, trivial⟩
        refine wp_ret ?_
        refine t_r ?_
        have hS := ha
        cases h
        exact ret1 Try.results50 hS rfl ⟨rfl, rfl⟩
      · refine wp_skip ?_
        refine t_n ?_
        replace ha : Has 17 [(0, (.pointer a0)), (1, (.int .i64 a1))] _ := ha.sub ⟨rfl, rfl, trivial⟩
        refine wp_seq ?_
        refine region_lit ?_
        refine s_do rfl ha (ltd rfl) (d_move ha rfl) (fun a ha => ?_)
        refine s_do rfl ha (ltd rfl) (d_move ha rfl) (fun a ha => ?_)
        refine s_do rfl ha (ltd rfl) (d_nilp ha rfl e3) (fun a ha => ?_)
        refine s_do rfl ha (ltd rfl) (d_fa ha rfl Try.runUnderlying95 rfl rfl Try.sizeOf3 (by decide)) (fun a ha => ?_)
        obtain ⟨w8, e9, h⟩ := bs1 h
        refine s_do rfl ha (ltd rfl) (d_st ha rfl rfl Try.sizeOf3 e9) (fun a ha => ?_)
        refine s_nil ?_
        refine t_n ?_
        replace ha : Has 17 [] _ := ha.sub trivial
        refine wp_seq ?_
        refine region_lit ?_
        refine s_do rfl ha (ltd rfl) (d_assign ha rfl) (fun a ha => ?_)
        refine s_nil ?_
        refine t_n ?_
        replace ha : Has 17 [(4, (.int .i64 0))] _ := ha.sub ⟨rfl, trivial⟩
        refine wp_ret ?_
        have hS := ha
        cases h
        exact ret1 Try.results50 hS rfl ⟨rfl, rfl⟩

noncomputable def grapevineref09_Disk_Crash_l1 (a0 : Option Addr) (a1 : Sl) (x2 : Int) (w3 : World) : Option ((Int × World) ⊕ (World)) :=
  (a0).bind fun p9 =>
  (ldL w3 (p9.add 1)).bind fun v11 =>
  if (decide (x2 < (v11.n : Int))) = true then
  ((bind2 (if (decide (x2 < (a1.n : Int))) = true then
  ((ix a1 x2 1).bind fun p22 =>
  (ldI .i64 w3 p22).bind fun v24 =>
  some ((IntKind.wrap .u64 v24), w3))
  else
  (some (0, w3))) fun v17 w18 =>
  ((rmI v17 3).bind fun v29 =>
  if (v29 == 1) = true then
  ((ldL w18 (p9.add 1)).bind fun v32 =>
  (ix v32 x2 2).bind fun p34 =>
  (ldA 2 w18 p34 0).bind fun c36 =>
  (grapevineref09_Disk_put a0 c36 64 w18).bind fun w38 =>
  some w38)
  else
  (some w18)).bind fun w26 =>
  (rmI v17 3).bind fun v40 =>
  if (v40 == 2) = true then
  ((ldL w26 (p9.add 1)).bind fun v43 =>
  (ix v43 x2 2).bind fun p45 =>
  (ldA 2 w26 p45 0).bind fun c47 =>
  (dvI .u64 v17 3).bind fun v49 =>
  (rmI v49 64).bind fun v51 =>
  (grapevineref09_Disk_put a0 c47 (IntKind.wrap .i64 v51) w26).bind fun w53 =>
  some w53)
  else
  (some w26)).bind fun w14 =>
  some (.inl ((IntKind.wrap .i64 (x2 + 1)), w14)))
  else
  (some (.inr w3))
noncomputable def grapevineref09_Disk_Crash (a0 : Option Addr) (a1 : Sl) (w : World) : Option (Int × World) :=
  if (a0.isNone) = true then
  (some (1, w))
  else
  ((loopF (fun s : Int × World => grapevineref09_Disk_Crash_l1 a0 a1 s.1 s.2) (0, w)).bind fun w6 =>
  (a0).bind fun p55 =>
  (stV w6 (p55.add 1) (Sl.v Sl.nil)).bind fun w57 =>
  (stV w57 (p55.add 2) (.int .i64 0)).bind fun w59 =>
  (stV w59 (p55.add 3) (.bool false)).bind fun w61 =>
  (ldI .i64 w61 (p55.add 4)).bind fun v63 =>
  (stV w61 (p55.add 4) (.int .i64 (IntKind.wrap .i64 (v63 + 1)))).bind fun w65 =>
  some (0, w65))
set_option maxHeartbeats 1000000 in
set_option maxRecDepth 100000 in
theorem grapevineref09_Disk_Crash_ok {a0 : Option Addr} {a1 : Sl} {w w' : World} {r0 : Int} (h : grapevineref09_Disk_Crash a0 a1 w = some (r0, w')) : Calls Try.prog 51 #[(.pointer a0), (Sl.v a1)] w fun e w'' => e = .returned (.int .i64 r0) ∧ w'' = w' := by
  refine calls_dec (n := 71) Try.func51 rfl Try.ntmps51 (by simp) (fun a ha => ?_)
  unfold grapevineref09_Disk_Crash at h
  refine wp_seq ?_
  refine region_lit ?_
  refine s_do rfl ha (ltd rfl) (d_assign ha rfl) (fun a ha => ?_)
  refine s_nil ?_
  refine t_n ?_
  replace ha : Has 71 [(0, (.pointer a0)), (1, (Sl.v a1))] _ := ha.sub ⟨rfl, rfl, trivial⟩
  refine wp_seq ?_
  refine wp_seq ?_
  refine region_lit ?_
  refine s_do rfl ha (ltd rfl) (d_move ha rfl) (fun a ha => ?_)
  refine s_do rfl ha (ltd rfl) (d_eqN ha rfl rfl Try.runUnderlying44) (fun a ha => ?_)
  refine s_nil ?_
  refine t_n ?_
  replace ha : Has 71 [(0, (.pointer a0)), (1, (Sl.v a1)), (8, (.bool (a0.isNone)))] _ := ha.sub ⟨rfl, rfl, rfl, trivial⟩
  refine s_cond ha rfl h (fun b1 h => ?_) (fun b1 h => ?_)
  · refine wp_seq ?_
    refine region_lit ?_
    refine s_do rfl ha (ltd rfl) (d_assign ha rfl) (fun a ha => ?_)
    refine s_nil ?_
    refine t_n ?_
    replace ha : Has 71 [(4, (.int .i64 1))] _ := ha.sub ⟨rfl, trivial⟩
    refine wp_ret ?_
    refine t_r ?_
    have hS := ha
    cases h
    exact ret1 Try.results51 hS rfl ⟨rfl, rfl⟩
  · refine wp_skip ?_
    refine t_n ?_
    replace ha : Has 71 [(0, (.pointer a0)), (1, (Sl.v a1))] _ := ha.sub ⟨rfl, rfl, trivial⟩
    refine wp_seq ?_
    refine wp_seq ?_
    refine region_lit ?_
    refine s_do rfl ha (ltd rfl) (d_assign ha rfl) (fun a ha => ?_)
    refine s_nil ?_
    refine t_n ?_
    replace ha : Has 71 [(0, (.pointer a0)), (1, (Sl.v a1)), (5, (.int .i64 0))] _ := ha.sub ⟨rfl, rfl, rfl, trivial⟩
    refine wp_block ?_
    obtain ⟨w6, e5, h⟩ := bs1 h
    refine s_loop1 (n := 71) (L := [(0, (.pointer a0))]) (w' := w6) (e := .exit 0) (I := fun (s : Int × World) a w => Has 71 [(5, (.int .i64 s.1)), (0, (.pointer a0)), (1, (Sl.v a1))] a ∧ w = s.2) ⟨ha.sub ⟨rfl, rfl, rfl, trivial⟩, rfl⟩ e5 (fun a ha => ?_) (fun hk7 => ?_)
    · refine b_hit ?_
      refine t_n ?_
      replace ha : Has 71 [(0, (.pointer a0))] _ := ha.sub ⟨rfl, trivial⟩
      refine wp_seq ?_
      refine region_lit ?_
      refine s_do rfl ha (ltd rfl) (d_move ha rfl) (fun a ha => ?_)
      obtain ⟨p55, e56, h⟩ := bs1 h
      refine s_do rfl ha (ltd rfl) (d_nilp ha rfl e56) (fun a ha => ?_)
      refine s_do rfl ha (ltd rfl) (d_fa ha rfl Try.runUnderlying95 rfl rfl Try.sizeOf93 (by decide)) (fun a ha => ?_)
      obtain ⟨w57, e58, h⟩ := bs1 h
      refine s_do rfl ha (ltd rfl) (d_st ha rfl rfl Try.sizeOf93 e58) (fun a ha => ?_)
      refine s_nil ?_
      refine t_n ?_
      replace ha : Has 71 [(0, (.pointer a0))] _ := ha.sub ⟨rfl, trivial⟩
      refine wp_seq ?_
      refine region_lit ?_
      refine s_do rfl ha (ltd rfl) (d_move ha rfl) (fun a ha => ?_)
      refine s_do rfl ha (ltd rfl) (d_nilp ha rfl e56) (fun a ha => ?_)
      refine s_do rfl ha (ltd rfl) (d_fa ha rfl Try.runUnderlying95 rfl rfl Try.sizeOf3 (by decide)) (fun a ha => ?_)
      obtain ⟨w59, e60, h⟩ := bs1 h
      refine s_do rfl ha (ltd rfl) (d_st ha rfl rfl Try.sizeOf3 e60) (fun a ha => ?_)
      refine s_nil ?_
      refine t_n ?_
      replace ha : Has 71 [(0, (.pointer a0))] _ := ha.sub ⟨rfl, trivial⟩
      refine wp_seq ?_
      refine region_lit ?_
      refine s_do rfl ha (ltd rfl) (d_move ha rfl) (fun a ha => ?_)
      refine s_do rfl ha (ltd rfl) (d_nilp ha rfl e56) (fun a ha => ?_)
      refine s_do rfl ha (ltd rfl) (d_fa ha rfl Try.runUnderlying95 rfl rfl Try.sizeOf4 (by decide)) (fun a ha => ?_)
      obtain ⟨w61, e62, h⟩ := bs1 h
      refine s_do rfl ha (ltd rfl) (d_st ha rfl rfl Try.sizeOf4 e62) (fun a ha => ?_)
      refine s_nil ?_
      refine t_n ?_
      replace ha : Has 71 [(0, (.pointer a0))] _ := ha.sub ⟨rfl, trivial⟩
      refine wp_seq ?_
      refine region_lit ?_
      refine s_do rfl ha (ltd rfl) (d_move ha rfl) (fun a ha => ?_)
      refine s_do rfl ha (ltd rfl) (d_nilp ha rfl e56) (fun a ha => ?_)
      refine s_do rfl ha (ltd rfl) (d_fa ha rfl Try.runUnderlying95 rfl rfl Try.sizeOf3 (by decide)) (fun a ha => ?_)
      obtain ⟨v63, e64, h⟩ := bs1 h
      refine s_do rfl ha (ltd rfl) (d_ld ha rfl Try.isAgg3 (ldI_c e64)) (fun a ha => ?_)
      refine s_do rfl ha (ltd rfl) (d_add ha rfl rfl) (fun a ha => ?_)
      refine s_do rfl ha (ltd rfl) (d_nilp ha rfl e56) (fun a ha => ?_)
      refine s_do rfl ha (ltd rfl) (d_fa ha rfl Try.runUnderlying95 rfl rfl Try.sizeOf3 (by decide)) (fun a ha => ?_)
      obtain ⟨w65, e66, h⟩ := bs1 h
      refine s_do rfl ha (ltd rfl) (d_st ha rfl rfl Try.sizeOf3 e66) (fun a ha => ?_)
      refine s_nil ?_
      refine t_n ?_
      replace ha : Has 71 [] _ := ha.sub trivial
      refine wp_seq ?_
      refine region_lit ?_
      refine s_do rfl ha (ltd rfl) (d_assign ha rfl) (fun a ha => ?_)
      refine s_nil ?_
      refine t_n ?_
      replace ha : Has 71 [(4, (.int .i64 0))] _ := ha.sub ⟨rfl, trivial⟩
      refine wp_ret ?_
      have hS := ha
      cases h
      exact ret1 Try.results51 hS rfl ⟨rfl, rfl⟩
    · clear h
      rintro ⟨x2, w3⟩ a wq o ⟨ha, hwq⟩ h hr8
      obtain rfl : w3 = wq := hwq.symm
      have ha : Has 71 [(5, (.int .i64 x2)), (0, (.pointer a0)), (1, (Sl.v a1))] a := ha
      have h : grapevineref09_Disk_Crash_l1 a0 a1 x2 w3 = some o := h
      unfold grapevineref09_Disk_Crash_l1 at h
      refine wp_seq ?_
      refine wp_seq ?_
      refine region_lit ?_
      refine s_do rfl ha (ltd rfl) (d_move ha rfl) (fun a ha => ?_)
      refine s_do rfl ha (ltd rfl) (d_move ha rfl) (fun a ha => ?_)
      obtain ⟨p9, e10, h⟩ := bs1 h
      refine s_do rfl ha (ltd rfl) (d_nilp ha rfl e10) (fun a ha => ?_)
      refine s_do rfl ha (ltd rfl) (d_fa ha rfl Try.runUnderlying95 rfl rfl Try.sizeOf93 (by decide)) (fun a ha => ?_)
      obtain ⟨v11, e12, h⟩ := bs1 h
      refine s_do rfl ha (ltd rfl) (d_ld ha rfl Try.isAgg93 (ldL_c e12)) (fun a ha => ?_)
      refine s_do rfl ha (ltd rfl) (d_lenS ha rfl Try.runUnderlying93) (fun a ha => ?_)
      refine s_do rfl ha (ltd rfl) (d_lt ha rfl rfl) (fun a ha => ?_)
      refine s_nil ?_
      refine t_n ?_
      replace ha : Has 71 [(0, (.pointer a0)), (1, (Sl.v a1)), (5, (.int .i64 x2)), (15, (.bool (decide (x2 < (v11.n : Int)))))] _ := ha.sub ⟨rfl, rfl, rfl, rfl, trivial⟩
      refine s_cond ha rfl h (fun b13 h => ?_) (fun b13 h => ?_)
      · refine wp_skip ?_
        refine t_n ?_
        replace ha : Has 71 [(0, (.pointer a0)), (1, (Sl.v a1)), (5, (.int .i64 x2))] _ := ha.sub ⟨rfl, rfl, rfl, trivial⟩
        obtain ⟨w14, e15, h⟩ := bs1 h
        refine seq_join (n := 71) (L := [(0, (.pointer a0)), (1, (Sl.v a1)), (5, (.int .i64 x2))]) (w' := w14) (fun a ha => ?_) (fun hk16 => ?_)
        · refine region_lit ?_
          refine s_do rfl ha (ltd rfl) (d_move ha rfl) (fun a ha => ?_)
          refine s_do rfl ha (ltd rfl) (d_add ha rfl rfl) (fun a ha => ?_)
          refine s_do rfl ha (ltd rfl) (d_assign ha rfl) (fun a ha => ?_)
          refine s_nil ?_
          have hS : Has 71 [(5, (.int .i64 (IntKind.wrap .i64 (x2 + 1)))), (0, (.pointer a0)), (1, (Sl.v a1))] _ := ha.sub ⟨rfl, rfl, rfl, trivial⟩
          cases h
          exact lp_next ⟨hS, rfl⟩
        · clear h
          have h := e15
          refine wp_block ?_
          refine wp_seq ?_
          refine region_lit ?_
          refine s_do rfl ha (ltd rfl) (d_assign ha rfl) (fun a ha => ?_)
          refine s_nil ?_
          refine t_n ?_
          replace ha : Has 71 [(0, (.pointer a0)), (1, (Sl.v a1)), (5, (.int .i64 x2)), (6, (.int .u64 0))] _ := ha.sub ⟨rfl, rfl, rfl, rfl, trivial⟩
          obtain ⟨v17, w18, e19, h⟩ := bs2 h
          refine seq_join (n := 71) (L := [(6, (.int .u64 v17)), (0, (.pointer a0)), (1, (Sl.v a1)), (5, (.int .i64 x2))]) (w' := w18) (fun a ha => ?_) (fun hk20 => ?_)
          · obtain ⟨w26, e27, h⟩ := bs1 h
            refine seq_join (n := 71) (L := [(0, (.pointer a0)), (1, (Sl.v a1)), (5, (.int .i64 x2)), (6, (.int .u64 v17))]) (w' := w26) (fun a ha => ?_) (fun hk28 => ?_)
            · refine wp_seq ?_
              refine region_lit ?_
              refine s_do rfl ha (ltd rfl) (d_move ha rfl) (fun a ha => ?_)
              obtain ⟨v40, e41, h⟩ := bs1 h
              refine s_do rfl ha (ltd rfl) (d_rem ha rfl rfl e41) (fun a ha => ?_)
              refine s_do rfl ha (ltd rfl) (d_eq ha rfl rfl) (fun a ha => ?_)
              refine s_nil ?_
              refine t_n ?_
              replace ha : Has 71 [(0, (.pointer a0)), (1, (Sl.v a1)), (5, (.int .i64 x2)), (6, (.int .u64 v17)), (41, (.bool (v40 == 2)))] _ := ha.sub ⟨rfl, rfl, rfl, rfl, rfl, trivial⟩
              refine s_cond ha rfl h (fun b42 h => ?_) (fun b42 h => ?_)
              · refine region_lit ?_
                refine s_do rfl ha (ltd rfl) (d_move ha rfl) (fun a ha => ?_)
                refine s_do rfl ha (ltd rfl) (d_move ha rfl) (fun a ha => ?_)
                refine s_do rfl ha (ltd rfl) (d_nilp ha rfl e10) (fun a ha => ?_)
                refine s_do rfl ha (ltd rfl) (d_fa ha rfl Try.runUnderlying95 rfl rfl Try.sizeOf93 (by decide)) (fun a ha => ?_)
                obtain ⟨v43, e44, h⟩ := bs1 h
                refine s_do rfl ha (ltd rfl) (d_ld ha rfl Try.isAgg93 (ldL_c e44)) (fun a ha => ?_)
                refine s_do rfl ha (ltd rfl) (d_move ha rfl) (fun a ha => ?_)
                obtain ⟨p45, e46, h⟩ := bs1 h
                refine s_do rfl ha (ltd rfl) (d_ix ha rfl rfl Try.runUnderlying93 Try.sizeOf106 e46) (fun a ha => ?_)
                obtain ⟨c47, e48, h⟩ := bs1 h
                refine s_do rfl ha (ltd rfl) (d_ldA ha rfl Try.isAgg106 Try.sizeOf106 e48) (fun a ha => ?_)
                refine s_do rfl ha (ltd rfl) (d_move ha rfl) (fun a ha => ?_)
                obtain ⟨v49, e50, h⟩ := bs1 h
                refine s_do rfl ha (ltd rfl) (d_quo ha rfl rfl e50) (fun a ha => ?_)
                obtain ⟨v51, e52, h⟩ := bs1 h
                refine s_do rfl ha (ltd rfl) (d_rem ha rfl rfl e52) (fun a ha => ?_)
                refine s_do rfl ha (ltd rfl) (d_conv ha rfl Try.runUnderlying47 Try.runUnderlying3) (fun a ha => ?_)
                obtain ⟨w53, e54, h⟩ := bs1 h
                refine s_do rfl ha (ltd rfl) (d_call (xs := [_, _, _]) (vs := [(.pointer a0), (.agg (List.toArray c47)), (.int .i64 (IntKind.wrap .i64 v51))]) ha ⟨rfl, rfl, rfl, trivial⟩ Try.call59 (grapevineref09_Disk_put_ok e54)) (fun a ha => ?_)
                refine s_nil ?_
                refine b_n ?_
                have hS : Has 71 [(0, (.pointer a0)), (1, (Sl.v a1)), (5, (.int .i64 x2))] _ := ha.sub ⟨rfl, rfl, rfl, trivial⟩
                cases h
                exact hk16 _ hS
              · refine wp_skip ?_
                refine b_n ?_
                have hS : Has 71 [(0, (.pointer a0)), (1, (Sl.v a1)), (5, (.int .i64 x2))] _ := ha.sub ⟨rfl, rfl, rfl, trivial⟩
                cases h
                exact hk16 _ hS
            · clear h
              have h := e27
              refine wp_seq ?_
              refine region_lit ?_
              refine s_do rfl ha (ltd rfl) (d_move ha rfl) (fun a ha => ?_)
              obtain ⟨v29, e30, h⟩ := bs1 h
              refine s_do rfl ha (ltd rfl) (d_rem ha rfl rfl e30) (fun a ha => ?_)
              refine s_do rfl ha (ltd rfl) (d_eq ha rfl rfl) (fun a ha => ?_)
              refine s_nil ?_
              refine t_n ?_
              replace ha : Has 71 [(0, (.pointer a0)), (1, (Sl.v a1)), (5, (.int .i64 x2)), (6, (.int .u64 v17)), (29, (.bool (v29 == 1)))] _ := ha.sub ⟨rfl, rfl, rfl, rfl, rfl, trivial⟩
              refine s_cond ha rfl h (fun b31 h => ?_) (fun b31 h => ?_)
              · refine region_lit ?_
                refine s_do rfl ha (ltd rfl) (d_move ha rfl) (fun a ha => ?_)
                refine s_do rfl ha (ltd rfl) (d_move ha rfl) (fun a ha => ?_)
                refine s_do rfl ha (ltd rfl) (d_nilp ha rfl e10) (fun a ha => ?_)
                refine s_do rfl ha (ltd rfl) (d_fa ha rfl Try.runUnderlying95 rfl rfl Try.sizeOf93 (by decide)) (fun a ha => ?_)
                obtain ⟨v32, e33, h⟩ := bs1 h
                refine s_do rfl ha (ltd rfl) (d_ld ha rfl Try.isAgg93 (ldL_c e33)) (fun a ha => ?_)
                refine s_do rfl ha (ltd rfl) (d_move ha rfl) (fun a ha => ?_)
                obtain ⟨p34, e35, h⟩ := bs1 h
                refine s_do rfl ha (ltd rfl) (d_ix ha rfl rfl Try.runUnderlying93 Try.sizeOf106 e35) (fun a ha => ?_)
                obtain ⟨c36, e37, h⟩ := bs1 h
                refine s_do rfl ha (ltd rfl) (d_ldA ha rfl Try.isAgg106 Try.sizeOf106 e37) (fun a ha => ?_)
                obtain ⟨w38, e39, h⟩ := bs1 h
                refine s_do rfl ha (ltd rfl) (d_call (xs := [_, _, _]) (vs := [(.pointer a0), (.agg (List.toArray c36)), (.int .i64 64)]) ha ⟨rfl, rfl, rfl, trivial⟩ Try.call59 (grapevineref09_Disk_put_ok e39)) (fun a ha => ?_)
                refine s_nil ?_
                have hS : Has 71 [(0, (.pointer a0)), (1, (Sl.v a1)), (5, (.int .i64 x2)), (6, (.int .u64 v17))] _ := ha.sub ⟨rfl, rfl, rfl, rfl, trivial⟩
                cases h
                exact hk28 _ hS
              · refine wp_skip ?_
                have hS : Has 71 [(0, (.pointer a0)), (1, (Sl.v a1)), (5, (.int .i64 x2)), (6, (.int .u64 v17))] _ := ha.sub ⟨rfl, rfl, rfl, rfl, trivial⟩
                cases h
                exact hk28 _ hS
          · clear h
            have h := e19
            refine wp_seq ?_
            refine region_lit ?_
            refine s_do rfl ha (ltd rfl) (d_move ha rfl) (fun a ha => ?_)
            refine s_do rfl ha (ltd rfl) (d_move ha rfl) (fun a ha => ?_)
            refine s_do rfl ha (ltd rfl) (d_lenS ha rfl Try.runUnderlying35) (fun a ha => ?_)
            refine s_do rfl ha (ltd rfl) (d_lt ha rfl rfl) (fun a ha => ?_)
            refine s_nil ?_
            refine t_n ?_
            replace ha : Has 71 [(0, (.pointer a0)), (1, (Sl.v a1)), (5, (.int .i64 x2)), (6, (.int .u64 0)), (21, (.bool (decide (x2 < (a1.n : Int)))))] _ := ha.sub ⟨rfl, rfl, rfl, rfl, rfl, trivial⟩
            refine s_cond ha rfl h (fun b21 h => ?_) (fun b21 h => ?_)
            · refine region_lit ?_
              refine s_do rfl ha (ltd rfl) (d_move ha rfl) (fun a ha => ?_)
              refine s_do rfl ha (ltd rfl) (d_move ha rfl) (fun a ha => ?_)
              obtain ⟨p22, e23, h⟩ := bs1 h
              refine s_do rfl ha (ltd rfl) (d_ix ha rfl rfl Try.runUnderlying35 Try.sizeOf3 e23) (fun a ha => ?_)
              obtain ⟨v24, e25, h⟩ := bs1 h
              refine s_do rfl ha (ltd rfl) (d_ld ha rfl Try.isAgg3 (ldI_c e25)) (fun a ha => ?_)
              refine s_do rfl ha (ltd rfl) (d_conv ha rfl Try.runUnderlying3 Try.runUnderlying47) (fun a ha => ?_)
              refine s_do rfl ha (ltd rfl) (d_assign ha rfl) (fun a ha => ?_)
              refine s_nil ?_
              have hS : Has 71 [(6, (.int .u64 (IntKind.wrap .u64 v24))), (0, (.pointer a0)), (1, (Sl.v a1)), (5, (.int .i64 x2))] _ := ha.sub ⟨rfl, rfl, rfl, rfl, trivial⟩
              cases h
              exact hk20 _ hS
            · refine wp_skip ?_
              have hS : Has 71 [(6, (.int .u64 0)), (0, (.pointer a0)), (1, (Sl.v a1)), (5, (.int .i64 x2))] _ := ha.sub ⟨rfl, rfl, rfl, rfl, trivial⟩
              cases h
              exact hk20 _ hS
      · refine wp_exit ?_
        refine t_x ?_
        have hS : Has 71 [(0, (.pointer a0))] _ := ha.sub ⟨rfl, trivial⟩
        cases h
        cases hr8 _ rfl
        refine lp_x ?_
        exact hk7 _ hS
end Go.Proofs.Ytoanmomopcaikaa.D
