/- Written by dec.py of this project: Go functions as plain functions over the memory, and that the Go calls come to these. -/
import Derived.Test.YtoanmomopcaikaaGlue
import Derived.Test.YtoanmomopcaikaaFnS0
import Derived.Test.YtoanmomopcaikaaFnS1
namespace Go.Proofs.Ytoanmomopcaikaa.D
open Go
set_option linter.unusedVariables false
set_option linter.unusedSimpArgs false

noncomputable def grapevinelaw09_zero_l1 (a0 : Sl) (x1 : Int) (w2 : World) : Option ((Int × World) ⊕ ((World) ⊕ (Bool × World))) :=
  if (decide (x1 < (a0.n : Int))) = true then
  ((ix a0 x1 1).bind fun p12 =>
  (ldI .u8 w2 p12).bind fun v14 =>
  if (v14 != 0) = true then
  (some (.inr (.inr (false, w2))))
  else
  (some (.inl ((IntKind.wrap .i64 (x1 + 1)), w2))))
  else
  (some (.inr (.inl w2)))
noncomputable def grapevinelaw09_zero (a0 : Sl) (w : World) : Option (Bool × World) :=
  (loopF (fun s : Int × World => grapevinelaw09_zero_l1 a0 s.1 s.2) (0, w)).bind fun r3 => Sum.elim (fun (i : World) => u1 i fun w5 =>
  some (true, w5)) (fun (i : Bool × World) => u2 i fun v6 w7 =>
  some (v6, w7)) r3
set_option maxHeartbeats 1000000 in
set_option maxRecDepth 100000 in
theorem grapevinelaw09_zero_ok {a0 : Sl} {w w' : World} {r0 : Bool} (h : grapevinelaw09_zero a0 w = some (r0, w')) : Calls Try.prog 29 #[(Sl.v a0)] w fun e w'' => e = .returned (.bool r0) ∧ w'' = w' := by
  refine calls_dec (n := 15) Try.func29 rfl Try.ntmps29 (by simp) (fun a ha => ?_)
  unfold grapevinelaw09_zero at h
  refine wp_seq ?_
  refine region_lit ?_
  refine s_do rfl ha (ltd rfl) (d_assign ha rfl) (fun a ha => ?_)
  refine s_nil ?_
  refine t_n ?_
  replace ha : Has 15 [(0, (Sl.v a0))] _ := ha.sub ⟨rfl, trivial⟩
  refine wp_seq ?_
  refine wp_seq ?_
  refine region_lit ?_
  refine s_do rfl ha (ltd rfl) (d_assign ha rfl) (fun a ha => ?_)
  refine s_nil ?_
  refine t_n ?_
  replace ha : Has 15 [(0, (Sl.v a0)), (3, (.int .i64 0))] _ := ha.sub ⟨rfl, rfl, trivial⟩
  refine wp_block ?_
  obtain ⟨r3, e4, h⟩ := bs1 h
  refine s_loop2 (n := 15) (L1 := fun i => []) (w1 := fun i => i) (L2 := fun i => [(2, (.bool i.1))]) (w2 := fun i => i.2) (e1 := .exit 0) (e2 := .ret) (I := fun (s : Int × World) a w => Has 15 [(3, (.int .i64 s.1)), (0, (Sl.v a0))] a ∧ w = s.2) ⟨ha.sub ⟨rfl, rfl, trivial⟩, rfl⟩ e4 (fun i hi a ha => ?_) (fun i hi a ha => ?_) (fun hk8 hk9 => ?_)
  · subst hi
    obtain w5 := i
    dsimp only [Sum.elim_inl, Sum.elim_inr, u1, u2, u3, u4, u5, u6] at h
    have ha : Has 15 [] a := ha
    refine b_hit ?_
    refine t_n ?_
    replace ha : Has 15 [] _ := ha.sub trivial
    refine wp_seq ?_
    refine region_lit ?_
    refine s_do rfl ha (ltd rfl) (d_assign ha rfl) (fun a ha => ?_)
    refine s_nil ?_
    refine t_n ?_
    replace ha : Has 15 [(2, (.bool true))] _ := ha.sub ⟨rfl, trivial⟩
    refine wp_ret ?_
    have hS := ha
    cases h
    exact ret1 Try.results29 hS rfl ⟨rfl, rfl⟩
  · subst hi
    obtain ⟨v6, w7⟩ := i
    dsimp only [Sum.elim_inl, Sum.elim_inr, u1, u2, u3, u4, u5, u6] at h
    have ha : Has 15 [(2, (.bool v6))] a := ha
    refine b_r ?_
    refine t_r ?_
    have hS := ha
    cases h
    exact ret1 Try.results29 hS rfl ⟨rfl, rfl⟩
  · clear h
    rintro ⟨x1, w2⟩ a wq o ⟨ha, hwq⟩ h hr10
    obtain rfl : w2 = wq := hwq.symm
    have ha : Has 15 [(3, (.int .i64 x1)), (0, (Sl.v a0))] a := ha
    have h : grapevinelaw09_zero_l1 a0 x1 w2 = some o := h
    unfold grapevinelaw09_zero_l1 at h
    refine wp_seq ?_
    refine wp_seq ?_
    refine region_lit ?_
    refine s_do rfl ha (ltd rfl) (d_move ha rfl) (fun a ha => ?_)
    refine s_do rfl ha (ltd rfl) (d_move ha rfl) (fun a ha => ?_)
    refine s_do rfl ha (ltd rfl) (d_lenS ha rfl Try.runUnderlying29) (fun a ha => ?_)
    refine s_do rfl ha (ltd rfl) (d_lt ha rfl rfl) (fun a ha => ?_)
    refine s_nil ?_
    refine t_n ?_
    replace ha : Has 15 [(0, (Sl.v a0)), (3, (.int .i64 x1)), (7, (.bool (decide (x1 < (a0.n : Int)))))] _ := ha.sub ⟨rfl, rfl, rfl, trivial⟩
    refine s_cond ha rfl h (fun b11 h => ?_) (fun b11 h => ?_)
    · refine wp_skip ?_
      refine t_n ?_
      replace ha : Has 15 [(0, (Sl.v a0)), (3, (.int .i64 x1))] _ := ha.sub ⟨rfl, rfl, trivial⟩
      refine wp_seq ?_
      refine wp_block ?_
      refine wp_seq ?_
      refine region_lit ?_
      refine s_do rfl ha (ltd rfl) (d_move ha rfl) (fun a ha => ?_)
      refine s_do rfl ha (ltd rfl) (d_move ha rfl) (fun a ha => ?_)
      obtain ⟨p12, e13, h⟩ := bs1 h
      refine s_do rfl ha (ltd rfl) (d_ix ha rfl rfl Try.runUnderlying29 Try.sizeOf5 e13) (fun a ha => ?_)
      obtain ⟨v14, e15, h⟩ := bs1 h
      refine s_do rfl ha (ltd rfl) (d_ld ha rfl Try.isAgg5 (ldI_c e15)) (fun a ha => ?_)
      refine s_do rfl ha (ltd rfl) (d_ne ha rfl rfl) (fun a ha => ?_)
      refine s_nil ?_
      refine t_n ?_
      replace ha : Has 15 [(0, (Sl.v a0)), (3, (.int .i64 x1)), (14, (.bool (v14 != 0)))] _ := ha.sub ⟨rfl, rfl, rfl, trivial⟩
      refine s_cond ha rfl h (fun b16 h => ?_) (fun b16 h => ?_)
      · refine wp_seq ?_
        refine region_lit ?_
        refine s_do rfl ha (ltd rfl) (d_assign ha rfl) (fun a ha => ?_)
        refine s_nil ?_
        refine t_n ?_
        replace ha : Has 15 [(2, (.bool false))] _ := ha.sub ⟨rfl, trivial⟩
        refine wp_ret ?_
        refine b_r ?_
        refine t_r ?_
        have hS : Has 15 [(2, (.bool false))] _ := ha.sub ⟨rfl, trivial⟩
        cases h
        cases hr10 _ rfl
        refine lp_r ?_
        exact hk9 _ rfl _ hS
      · refine wp_skip ?_
        refine b_n ?_
        refine t_n ?_
        replace ha : Has 15 [(0, (Sl.v a0)), (3, (.int .i64 x1))] _ := ha.sub ⟨rfl, rfl, trivial⟩
        refine region_lit ?_
        refine s_do rfl ha (ltd rfl) (d_move ha rfl) (fun a ha => ?_)
        refine s_do rfl ha (ltd rfl) (d_add ha rfl rfl) (fun a ha => ?_)
        refine s_do rfl ha (ltd rfl) (d_assign ha rfl) (fun a ha => ?_)
        refine s_nil ?_
        have hS : Has 15 [(3, (.int .i64 (IntKind.wrap .i64 (x1 + 1)))), (0, (Sl.v a0))] _ := ha.sub ⟨rfl, rfl, trivial⟩
        cases h
        exact lp_next ⟨hS, rfl⟩
    · refine wp_exit ?_
      refine t_x ?_
      have hS : Has 15 [] _ := ha.sub trivial
      cases h
      cases hr10 _ rfl
      refine lp_x ?_
      exact hk8 _ rfl _ hS

noncomputable def grapevinelaw09_SectorLasts_l1 (p1 : Addr) (v15 : Int) (v4 : Option Addr) (x33 : Int) (w34 : World) : Option ((Int × World) ⊕ (World)) :=
  bind2 ((ldL w34 (p1.add 1)).bind fun v44 =>
  if (decide (x33 < (v44.n : Int))) = true then
  (some ((decide (x33 < 100)), w34))
  else
  (some (false, w34))) fun v40 w41 =>
  if v40 = true then
  ((bind2 ((ldL w41 (p1.add 1)).bind fun v55 =>
  (ix v55 x33 4).bind fun p57 =>
  (ldI .i64 w41 (p57.add 0)).bind fun v59 =>
  if (v59 == 0) = true then
  ((ldL w41 (p1.add 1)).bind fun v62 =>
  (ix v62 x33 4).bind fun p64 =>
  (ldI .i64 w41 (p64.add 1)).bind fun v66 =>
  some ((v66 != (IntKind.wrap .i64 v15)), w41))
  else
  (some (false, w41))) fun v51 w52 =>
  if v51 = true then
  ((dr w52).bind fun w69 =>
  (ldL w69 (p1.add 1)).bind fun v71 =>
  (ix v71 x33 4).bind fun p73 =>
  (ldI .i64 w69 (p73.add 1)).bind fun v75 =>
  (ldL w69 (p1.add 1)).bind fun v77 =>
  (ix v77 x33 4).bind fun p79 =>
  (ldL w69 (p79.add 2)).bind fun v81 =>
  bind2 (sector_Disk_Write v4 v75 v81 w69) fun v83 w84 =>
  some w84)
  else
  (some w52)).bind fun w48 =>
  some (.inl ((IntKind.wrap .i64 (x33 + 1)), w48)))
  else
  (some (.inr w41))
noncomputable def grapevinelaw09_SectorLasts (a0 : Sl) (a1 : Sl) (a2 : List Value) (w : World) : Option (Bool × World) :=
  bind2 (mk w 43 a2) fun p1 w2 =>
  bind4 (grapevinelaw09_play 7 a0 w2) fun v4 v5 v6 w7 =>
  if (!v6) = true then
  (some (false, w7))
  else
  (bind2 (sector_Disk_Crash v4 Sl.nil w7) fun v10 w11 =>
  (ldI .i64 w11 (p1.add 0)).bind fun v13 =>
  (rmI (IntKind.wrap .u64 v13) 8).bind fun v15 =>
  bind2 (sector_Disk_Write v4 (IntKind.wrap .i64 v15) a1 w11) fun v17 w18 =>
  if (v17 != 0) = true then
  (bind2 (bind2 (grapevinelaw09_live w18) fun v25 w26 =>
  if v25 = true then
  (some ((decide (64 < (a1.n : Int))), w26))
  else
  (some (false, w26))) fun v21 w22 =>
  some (v21, w22))
  else
  (bind2 (sector_Disk_Sync v4 w18) fun v29 w30 =>
  if (v29 != 0) = true then
  (some (false, w30))
  else
  ((loopF (fun s : Int × World => grapevinelaw09_SectorLasts_l1 p1 v15 v4 s.1 s.2) (0, w30)).bind fun w37 =>
  (ldL w37 (p1.add 2)).bind fun v86 =>
  bind2 (sector_Disk_Crash v4 v86 w37) fun v88 w89 =>
  bind3 (sector_Disk_Read v4 (IntKind.wrap .i64 v15) w89) fun v91 v92 w93 =>
  bind2 ((dr w93).bind fun w99 =>
  bind2 (grapevinelaw09_live w99) fun v101 w102 =>
  if v101 = true then
  (if (v92 == 0) = true then
  (if ((v91.n : Int) == 64) = true then
  ((slS v91 0 (a1.n : Int) (v91.c : Int) 1).bind fun s107 =>
  (b2s s107 w102).bind fun s109 =>
  (b2s a1 w102).bind fun s111 =>
  if (sEq s109 s111) = true then
  ((slS v91 (a1.n : Int) (v91.n : Int) (v91.c : Int) 1).bind fun s114 =>
  bind2 (grapevinelaw09_zero s114 w102) fun v116 w117 =>
  some (v116, w117))
  else
  (some (false, w102)))
  else
  (some (false, w102)))
  else
  (some (false, w102)))
  else
  (some (false, w102))) fun v95 w96 =>
  some (v95, w96))))
set_option maxHeartbeats 1000000 in
set_option maxRecDepth 100000 in
theorem grapevinelaw09_SectorLasts_ok {a0 : Sl} {a1 : Sl} {a2 : List Value} {w w' : World} {r0 : Bool} (h : grapevinelaw09_SectorLasts a0 a1 a2 w = some (r0, w')) : Calls Try.prog 6 #[(Sl.v a0), (Sl.v a1), (.agg (List.toArray a2))] w fun e w'' => e = .returned (.bool r0) ∧ w'' = w' := by
  refine calls_dec (n := 122) Try.func6 rfl Try.ntmps6 (by simp) (fun a ha => ?_)
  unfold grapevinelaw09_SectorLasts at h
  refine wp_seq ?_
  refine region_lit ?_
  obtain ⟨p1, w2, e3, h⟩ := bs2 h
  refine s_do rfl ha (ltd rfl) (d_box ha rfl rfl e3) (fun a ha => ?_)
  refine s_do rfl ha (ltd rfl) (d_assign ha rfl) (fun a ha => ?_)
  refine s_nil ?_
  refine t_n ?_
  replace ha : Has 122 [(0, (Sl.v a0)), (1, (Sl.v a1)), (5, (.pointer (some p1)))] _ := ha.sub ⟨rfl, rfl, rfl, trivial⟩
  refine wp_seq ?_
  refine region_lit ?_
  refine s_do rfl ha (ltd rfl) (d_move ha rfl) (fun a ha => ?_)
  obtain ⟨v4, v5, v6, w7, e8, h⟩ := bs4 h
  refine s_do rfl ha (ltd rfl) (d_call (xs := [_, _]) (vs := [(.int .i64 7), (Sl.v a0)]) ha ⟨rfl, rfl, trivial⟩ Try.call28 (grapevinelaw09_play_ok e8)) (fun a ha => ?_)
  refine s_do rfl ha (ltd rfl) (d_move ha rfl) (fun a ha => ?_)
  refine s_do rfl ha (ltd rfl) (d_ext ha rfl rfl) (fun a ha => ?_)
  refine s_do rfl ha (ltd rfl) (d_ext ha rfl rfl) (fun a ha => ?_)
  refine s_do rfl ha (ltd rfl) (d_ext ha rfl rfl) (fun a ha => ?_)
  refine s_do rfl ha (ltd rfl) (d_assign ha rfl) (fun a ha => ?_)
  refine s_do rfl ha (ltd rfl) (d_assign ha rfl) (fun a ha => ?_)
  refine s_do rfl ha (ltd rfl) (d_assign ha rfl) (fun a ha => ?_)
  refine s_nil ?_
  refine t_n ?_
  replace ha : Has 122 [(1, (Sl.v a1)), (5, (.pointer (some p1))), (7, (.pointer v4)), (9, (.bool v6))] _ := ha.sub ⟨rfl, rfl, rfl, rfl, trivial⟩
  refine wp_seq ?_
  refine wp_seq ?_
  refine region_lit ?_
  refine s_do rfl ha (ltd rfl) (d_move ha rfl) (fun a ha => ?_)
  refine s_do rfl ha (ltd rfl) (d_not ha rfl) (fun a ha => ?_)
  refine s_nil ?_
  refine t_n ?_
  replace ha : Has 122 [(1, (Sl.v a1)), (5, (.pointer (some p1))), (7, (.pointer v4)), (21, (.bool (!v6)))] _ := ha.sub ⟨rfl, rfl, rfl, rfl, trivial⟩
  refine s_cond ha rfl h (fun b9 h => ?_) (fun b9 h => ?_)
  · refine wp_seq ?_
    refine region_lit ?_
    refine s_do rfl ha (ltd rfl) (d_assign ha rfl) (fun a ha => ?_)
    refine s_nil ?_
    refine t_n ?_
    replace ha : Has 122 [(6, (.bool false))] _ := ha.sub ⟨rfl, trivial⟩
    refine wp_ret ?_
    refine t_r ?_
    have hS := ha
    cases h
    exact ret1 Try.results6 hS rfl ⟨rfl, rfl⟩
  · refine wp_skip ?_
    refine t_n ?_
    replace ha : Has 122 [(1, (Sl.v a1)), (5, (.pointer (some p1))), (7, (.pointer v4))] _ := ha.sub ⟨rfl, rfl, rfl, trivial⟩
    refine wp_seq ?_
    refine region_lit ?_
    refine s_do rfl ha (ltd rfl) (d_move ha rfl) (fun a ha => ?_)
    obtain ⟨v10, w11, e12, h⟩ := bs2 h
    refine s_do rfl ha (ltd rfl) (d_call (xs := [_, _]) (vs := [(.pointer v4), (Sl.v Sl.nil)]) ha ⟨rfl, rfl, trivial⟩ Try.call26 (sector_Disk_Crash_ok e12)) (fun a ha => ?_)
    refine s_nil ?_
    refine t_n ?_
    replace ha : Has 122 [(1, (Sl.v a1)), (5, (.pointer (some p1))), (7, (.pointer v4))] _ := ha.sub ⟨rfl, rfl, rfl, trivial⟩
    refine wp_seq ?_
    refine region_lit ?_
    refine s_do rfl ha (ltd rfl) (d_fa ha rfl Try.runUnderlying43 rfl rfl Try.sizeOf3 (by decide)) (fun a ha => ?_)
    obtain ⟨v13, e14, h⟩ := bs1 h
    refine s_do rfl ha (ltd rfl) (d_ld ha rfl Try.isAgg3 (ldI_c e14)) (fun a ha => ?_)
    refine s_do rfl ha (ltd rfl) (d_conv ha rfl Try.runUnderlying3 Try.runUnderlying47) (fun a ha => ?_)
    obtain ⟨v15, e16, h⟩ := bs1 h
    refine s_do rfl ha (ltd rfl) (d_rem ha rfl rfl e16) (fun a ha => ?_)
    refine s_do rfl ha (ltd rfl) (d_conv ha rfl Try.runUnderlying47 Try.runUnderlying3) (fun a ha => ?_)
    refine s_do rfl ha (ltd rfl) (d_assign ha rfl) (fun a ha => ?_)
    refine s_nil ?_
    refine t_n ?_
    replace ha : Has 122 [(1, (Sl.v a1)), (5, (.pointer (some p1))), (7, (.pointer v4)), (10, (.int .i64 (IntKind.wrap .i64 v15)))] _ := ha.sub ⟨rfl, rfl, rfl, rfl, trivial⟩
    refine wp_seq ?_
    refine wp_seq ?_
    refine region_lit ?_
    refine s_do rfl ha (ltd rfl) (d_move ha rfl) (fun a ha => ?_)
    refine s_do rfl ha (ltd rfl) (d_move ha rfl) (fun a ha => ?_)
    refine s_do rfl ha (ltd rfl) (d_move ha rfl) (fun a ha => ?_)
    obtain ⟨v17, w18, e19, h⟩ := bs2 h
    refine s_do rfl ha (ltd rfl) (d_call (xs := [_, _, _]) (vs := [(.pointer v4), (.int .i64 (IntKind.wrap .i64 v15)), (Sl.v a1)]) ha ⟨rfl, rfl, rfl, trivial⟩ Try.call22 (sector_Disk_Write_ok e19)) (fun a ha => ?_)
    refine s_do rfl ha (ltd rfl) (d_ne ha rfl rfl) (fun a ha => ?_)
    refine s_nil ?_
    refine t_n ?_
    replace ha : Has 122 [(1, (Sl.v a1)), (5, (.pointer (some p1))), (7, (.pointer v4)), (10, (.int .i64 (IntKind.wrap .i64 v15))), (33, (.bool (v17 != 0)))] _ := ha.sub ⟨rfl, rfl, rfl, rfl, rfl, trivial⟩
    refine s_cond ha rfl h (fun b20 h => ?_) (fun b20 h => ?_)
    · refine wp_seq ?_
      obtain ⟨v21, w22, e23, h⟩ := bs2 h
      refine reg_join (n := 122) (L := [(6, (.bool v21))]) (w' := w22) (fun a ha => ?_) (fun hk24 => ?_)
      · refine t_n ?_
        replace ha : Has 122 [(6, (.bool v21))] _ := ha.sub ⟨rfl, trivial⟩
        refine wp_ret ?_
        refine t_r ?_
        have hS := ha
        cases h
        exact ret1 Try.results6 hS rfl ⟨rfl, rfl⟩
      · clear h
        have h := e23
        refine region_lit ?_
        obtain ⟨v25, w26, e27, h⟩ := bs2 h
        refine s_do rfl ha (ltd rfl) (d_call (xs := []) (vs := []) ha trivial Try.call18 (grapevinelaw09_live_ok e27)) (fun a ha => ?_)
        refine s_do rfl ha (ltd rfl) (d_move ha rfl) (fun a ha => ?_)
        refine ite_s h (fun b28 h => ?_) (fun b28 h => ?_)
        · refine s_do_g2 rfl rfl ha (rfl : List.lookup 35 _ = _) b28 (ltd rfl) (d_move ha rfl) (fun a ha => ?_)
          refine s_do_g2 rfl rfl ha (rfl : List.lookup 35 _ = _) b28 (ltd rfl) (d_lenS ha rfl Try.runUnderlying29) (fun a ha => ?_)
          refine s_do_g2 rfl rfl ha (rfl : List.lookup 35 _ = _) b28 (ltd rfl) (d_gt ha rfl rfl) (fun a ha => ?_)
          refine s_do rfl ha (ltd rfl) (d_pick_t ha rfl b28 rfl) (fun a ha => ?_)
          refine s_do rfl ha (ltd rfl) (d_assign ha rfl) (fun a ha => ?_)
          refine s_nil ?_
          have hS : Has 122 [(6, (.bool (decide (64 < (a1.n : Int)))))] _ := ha.sub ⟨rfl, trivial⟩
          cases h
          exact hk24 _ hS
        · refine s_no_g rfl rfl ha (rfl : List.lookup 35 _ = _) (nn b28 _ rfl) (ltd rfl) (fun a ha => ?_)
          refine s_no_g rfl rfl ha (rfl : List.lookup 35 _ = _) (nn b28 _ rfl) (ltd rfl) (fun a ha => ?_)
          refine s_no_g rfl rfl ha (rfl : List.lookup 35 _ = _) (nn b28 _ rfl) (ltd rfl) (fun a ha => ?_)
          refine s_do rfl ha (ltd rfl) (d_pick_f ha rfl b28 rfl) (fun a ha => ?_)
          refine s_do rfl ha (ltd rfl) (d_assign ha rfl) (fun a ha => ?_)
          refine s_nil ?_
          have hS : Has 122 [(6, (.bool false))] _ := ha.sub ⟨rfl, trivial⟩
          cases h
          exact hk24 _ hS
    · refine wp_skip ?_
      refine t_n ?_
      replace ha : Has 122 [(1, (Sl.v a1)), (5, (.pointer (some p1))), (7, (.pointer v4)), (10, (.int .i64 (IntKind.wrap .i64 v15)))] _ := ha.sub ⟨rfl, rfl, rfl, rfl, trivial⟩
      refine wp_seq ?_
      refine wp_seq ?_
      refine region_lit ?_
      refine s_do rfl ha (ltd rfl) (d_move ha rfl) (fun a ha => ?_)
      obtain ⟨v29, w30, e31, h⟩ := bs2 h
      refine s_do rfl ha (ltd rfl) (d_call (xs := [_]) (vs := [(.pointer v4)]) ha ⟨rfl, trivial⟩ Try.call23 (sector_Disk_Sync_ok e31)) (fun a ha => ?_)
      refine s_do rfl ha (ltd rfl) (d_ne ha rfl rfl) (fun a ha => ?_)
      refine s_nil ?_
      refine t_n ?_
      replace ha : Has 122 [(1, (Sl.v a1)), (5, (.pointer (some p1))), (7, (.pointer v4)), (10, (.int .i64 (IntKind.wrap .i64 v15))), (42, (.bool (v29 != 0)))] _ := ha.sub ⟨rfl, rfl, rfl, rfl, rfl, trivial⟩
      refine s_cond ha rfl h (fun b32 h => ?_) (fun b32 h => ?_)
      · refine wp_seq ?_
        refine region_lit ?_
        refine s_do rfl ha (ltd rfl) (d_assign ha rfl) (fun a ha => ?_)
        refine s_nil ?_
        refine t_n ?_
        replace ha : Has 122 [(6, (.bool false))] _ := ha.sub ⟨rfl, trivial⟩
        refine wp_ret ?_
        refine t_r ?_
        have hS := ha
        cases h
        exact ret1 Try.results6 hS rfl ⟨rfl, rfl⟩
      · refine wp_skip ?_
        refine t_n ?_
        replace ha : Has 122 [(1, (Sl.v a1)), (5, (.pointer (some p1))), (7, (.pointer v4)), (10, (.int .i64 (IntKind.wrap .i64 v15)))] _ := ha.sub ⟨rfl, rfl, rfl, rfl, trivial⟩
        refine wp_seq ?_
        refine wp_seq ?_
        refine region_lit ?_
        refine s_do rfl ha (ltd rfl) (d_assign ha rfl) (fun a ha => ?_)
        refine s_nil ?_
        refine t_n ?_
        replace ha : Has 122 [(1, (Sl.v a1)), (5, (.pointer (some p1))), (7, (.pointer v4)), (10, (.int .i64 (IntKind.wrap .i64 v15))), (11, (.int .i64 0))] _ := ha.sub ⟨rfl, rfl, rfl, rfl, rfl, trivial⟩
        refine wp_block ?_
        obtain ⟨w37, e36, h⟩ := bs1 h
        refine s_loop1 (n := 122) (L := [(1, (Sl.v a1)), (5, (.pointer (some p1))), (7, (.pointer v4)), (10, (.int .i64 (IntKind.wrap .i64 v15)))]) (w' := w37) (e := .exit 0) (I := fun (s : Int × World) a w => Has 122 [(11, (.int .i64 s.1)), (1, (Sl.v a1)), (5, (.pointer (some p1))), (7, (.pointer v4)), (10, (.int .i64 (IntKind.wrap .i64 v15)))] a ∧ w = s.2) ⟨ha.sub ⟨rfl, rfl, rfl, rfl, rfl, trivial⟩, rfl⟩ e36 (fun a ha => ?_) (fun hk38 => ?_)
        · refine b_hit ?_
          refine t_n ?_
          replace ha : Has 122 [(1, (Sl.v a1)), (5, (.pointer (some p1))), (7, (.pointer v4)), (10, (.int .i64 (IntKind.wrap .i64 v15)))] _ := ha.sub ⟨rfl, rfl, rfl, rfl, trivial⟩
          refine wp_seq ?_
          refine region_lit ?_
          refine s_do rfl ha (ltd rfl) (d_move ha rfl) (fun a ha => ?_)
          refine s_do rfl ha (ltd rfl) (d_fa ha rfl Try.runUnderlying43 rfl rfl Try.sizeOf35 (by decide)) (fun a ha => ?_)
          obtain ⟨v86, e87, h⟩ := bs1 h
          refine s_do rfl ha (ltd rfl) (d_ld ha rfl Try.isAgg35 (ldL_c e87)) (fun a ha => ?_)
          obtain ⟨v88, w89, e90, h⟩ := bs2 h
          refine s_do rfl ha (ltd rfl) (d_call (xs := [_, _]) (vs := [(.pointer v4), (Sl.v v86)]) ha ⟨rfl, rfl, trivial⟩ Try.call26 (sector_Disk_Crash_ok e90)) (fun a ha => ?_)
          refine s_nil ?_
          refine t_n ?_
          replace ha : Has 122 [(1, (Sl.v a1)), (7, (.pointer v4)), (10, (.int .i64 (IntKind.wrap .i64 v15)))] _ := ha.sub ⟨rfl, rfl, rfl, trivial⟩
          refine wp_seq ?_
          refine region_lit ?_
          refine s_do rfl ha (ltd rfl) (d_move ha rfl) (fun a ha => ?_)
          refine s_do rfl ha (ltd rfl) (d_move ha rfl) (fun a ha => ?_)
          obtain ⟨v91, v92, w93, e94, h⟩ := bs3 h
          refine s_do rfl ha (ltd rfl) (d_call (xs := [_, _]) (vs := [(.pointer v4), (.int .i64 (IntKind.wrap .i64 v15))]) ha ⟨rfl, rfl, trivial⟩ Try.call25 (sector_Disk_Read_ok e94)) (fun a ha => ?_)
          refine s_do rfl ha (ltd rfl) (d_move ha rfl) (fun a ha => ?_)
          refine s_do rfl ha (ltd rfl) (d_ext ha rfl rfl) (fun a ha => ?_)
          refine s_do rfl ha (ltd rfl) (d_ext ha rfl rfl) (fun a ha => ?_)
          refine s_do rfl ha (ltd rfl) (d_assign ha rfl) (fun a ha => ?_)
          refine s_do rfl ha (ltd rfl) (d_assign ha rfl) (fun a ha => ?_)
          refine s_nil ?_
          refine t_n ?_
          replace ha : Has 122 [(1, (Sl.v a1)), (12, (Sl.v v91)), (13, (.int .i64 v92))] _ := ha.sub ⟨rfl, rfl, rfl, trivial⟩
          refine wp_seq ?_
          obtain ⟨v95, w96, e97, h⟩ := bs2 h
          refine reg_join (n := 122) (L := [(6, (.bool v95))]) (w' := w96) (fun a ha => ?_) (fun hk98 => ?_)
          · refine t_n ?_
            replace ha : Has 122 [(6, (.bool v95))] _ := ha.sub ⟨rfl, trivial⟩
            refine wp_ret ?_
            have hS := ha
            cases h
            exact ret1 Try.results6 hS rfl ⟨rfl, rfl⟩
          · clear h
            have h := e97
            obtain ⟨w99, e100, h⟩ := bs1 h
            obtain ⟨v101, w102, e103, h⟩ := bs2 h
            refine ite_s h (fun b104 h => ?_) (fun b104 h => ?_)
            · refine ite_s h (fun b105 h => ?_) (fun b105 h => ?_)
              · refine ite_s h (fun b106 h => ?_) (fun b106 h => ?_)
                · obtain ⟨s107, e108, h⟩ := bs1 h
                  obtain ⟨s109, e110, h⟩ := bs1 h
                  obtain ⟨s111, e112, h⟩ := bs1 h
                  refine ite_s h (fun b113 h => ?_) (fun b113 h => ?_)
                  · obtain ⟨s114, e115, h⟩ := bs1 h
                    obtain ⟨v116, w117, e118, h⟩ := bs2 h
                    have ha : Has 122 [(1, (Sl.v a1)), (12, (Sl.v v91)), (13, (.int .i64 v92))] a := ha.sub ⟨rfl, rfl, rfl, trivial⟩
                    refine region_draw (n := 122) (ds := (⟨_, (.bool v101), true, 0, 0, [], []⟩ :: ⟨_, (.bool v101), false, 1, 1, [0], [(95, (.bool v101))]⟩ :: ⟨_, (.int .i64 v92), false, 1, 1, [0, 1], [(13, (.int .i64 v92)), (96, (.bool v101))]⟩ :: ⟨_, (.bool (v92 == 0)), false, 1, 1, [0, 1, 2], [(97, (.int .i64 v92)), (96, (.bool v101))]⟩ :: ⟨_, (.bool (v92 == 0)), false, 1, 1, [0, 1, 2, 3], [(96, (.bool v101)), (98, (.bool (v92 == 0)))]⟩ :: ⟨_, (.bool (v92 == 0)), false, 1, 1, [0, 1, 2, 3, 4], [(99, (.bool (v92 == 0)))]⟩ :: ⟨_, (Sl.v v91), false, 1, 1, [0, 1, 2, 3, 4, 5], [(12, (Sl.v v91)), (100, (.bool (v92 == 0)))]⟩ :: ⟨_, (.int .i64 (v91.n : Int)), false, 1, 1, [0, 1, 2, 3, 4, 5, 6], [(101, (Sl.v v91)), (100, (.bool (v92 == 0)))]⟩ :: ⟨_, (.bool ((v91.n : Int) == 64)), false, 1, 1, [0, 1, 2, 3, 4, 5, 6, 7], [(102, (.int .i64 (v91.n : Int))), (100, (.bool (v92 == 0)))]⟩ :: ⟨_, (.bool ((v91.n : Int) == 64)), false, 1, 1, [0, 1, 2, 3, 4, 5, 6, 7, 8], [(100, (.bool (v92 == 0))), (103, (.bool ((v91.n : Int) == 64)))]⟩ :: ⟨_, (.bool ((v91.n : Int) == 64)), false, 1, 1, [0, 1, 2, 3, 4, 5, 6, 7, 8, 9], [(104, (.bool ((v91.n : Int) == 64)))]⟩ :: ⟨_, (Sl.v v91), false, 1, 1, [0, 1, 2, 3, 4, 5, 6, 7, 8, 9, 10], [(12, (Sl.v v91)), (105, (.bool ((v91.n : Int) == 64)))]⟩ :: ⟨_, (Sl.v a1), false, 1, 1, [0, 1, 2, 3, 4, 5, 6, 7, 8, 9, 10], [(1, (Sl.v a1)), (105, (.bool ((v91.n : Int) == 64)))]⟩ :: ⟨_, (.int .i64 (a1.n : Int)), false, 1, 1, [0, 1, 2, 3, 4, 5, 6, 7, 8, 9, 10, 12], [(107, (Sl.v a1)), (105, (.bool ((v91.n : Int) == 64)))]⟩ :: ⟨_, (Sl.v s107), false, 1, 1, (0 :: 1 :: 2 :: 3 :: 4 :: 5 :: 6 :: 7 :: 8 :: 9 :: 10 :: 11 :: 12 :: 13 :: []), [(106, (Sl.v v91)), (108, (.int .i64 (a1.n : Int))), (105, (.bool ((v91.n : Int) == 64)))]⟩ :: ⟨_, (.string s109), false, 1, 1, (0 :: 1 :: 2 :: 3 :: 4 :: 5 :: 6 :: 7 :: 8 :: 9 :: 10 :: 11 :: 12 :: 13 :: 14 :: []), [(109, (Sl.v s107)), (105, (.bool ((v91.n : Int) == 64)))]⟩ :: ⟨_, (Sl.v a1), false, 1, 1, [0, 1, 2, 3, 4, 5, 6, 7, 8, 9, 10], [(1, (Sl.v a1)), (105, (.bool ((v91.n : Int) == 64)))]⟩ :: ⟨_, (.string s111), false, 1, 1, [0, 1, 2, 3, 4, 5, 6, 7, 8, 9, 10, 16], [(111, (Sl.v a1)), (105, (.bool ((v91.n : Int) == 64)))]⟩ :: ⟨_, (.bool (sEq s109 s111)), false, 1, 1, (0 :: 1 :: 2 :: 3 :: 4 :: 5 :: 6 :: 7 :: 8 :: 9 :: 10 :: 11 :: 12 :: 13 :: 14 :: 15 :: 16 :: 17 :: []), [(110, (.string s109)), (112, (.string s111)), (105, (.bool ((v91.n : Int) == 64)))]⟩ :: ⟨_, (.bool (sEq s109 s111)), false, 1, 1, (0 :: 1 :: 2 :: 3 :: 4 :: 5 :: 6 :: 7 :: 8 :: 9 :: 10 :: 11 :: 12 :: 13 :: 14 :: 15 :: 16 :: 17 :: 18 :: []), [(105, (.bool ((v91.n : Int) == 64))), (113, (.bool (sEq s109 s111)))]⟩ :: ⟨_, (.bool (sEq s109 s111)), false, 1, 1, (0 :: 1 :: 2 :: 3 :: 4 :: 5 :: 6 :: 7 :: 8 :: 9 :: 10 :: 11 :: 12 :: 13 :: 14 :: 15 :: 16 :: 17 :: 18 :: 19 :: []), [(114, (.bool (sEq s109 s111)))]⟩ :: ⟨_, (Sl.v v91), false, 1, 1, (0 :: 1 :: 2 :: 3 :: 4 :: 5 :: 6 :: 7 :: 8 :: 9 :: 10 :: 11 :: 12 :: 13 :: 14 :: 15 :: 16 :: 17 :: 18 :: 19 :: 20 :: []), [(12, (Sl.v v91)), (115, (.bool (sEq s109 s111)))]⟩ :: ⟨_, (Sl.v a1), false, 1, 1, (0 :: 1 :: 2 :: 3 :: 4 :: 5 :: 6 :: 7 :: 8 :: 9 :: 10 :: 11 :: 12 :: 13 :: 14 :: 15 :: 16 :: 17 :: 18 :: 19 :: 20 :: []), [(1, (Sl.v a1)), (115, (.bool (sEq s109 s111)))]⟩ :: ⟨_, (.int .i64 (a1.n : Int)), false, 1, 1, (0 :: 1 :: 2 :: 3 :: 4 :: 5 :: 6 :: 7 :: 8 :: 9 :: 10 :: 11 :: 12 :: 13 :: 14 :: 15 :: 16 :: 17 :: 18 :: 19 :: 20 :: 22 :: []), [(117, (Sl.v a1)), (115, (.bool (sEq s109 s111)))]⟩ :: ⟨_, (Sl.v s114), false, 1, 1, (0 :: 1 :: 2 :: 3 :: 4 :: 5 :: 6 :: 7 :: 8 :: 9 :: 10 :: 11 :: 12 :: 13 :: 14 :: 15 :: 16 :: 17 :: 18 :: 19 :: 20 :: 21 :: 22 :: 23 :: []), [(116, (Sl.v v91)), (118, (.int .i64 (a1.n : Int))), (115, (.bool (sEq s109 s111)))]⟩ :: ⟨_, (.bool v116), true, 1, 1, (0 :: 1 :: 2 :: 3 :: 4 :: 5 :: 6 :: 7 :: 8 :: 9 :: 10 :: 11 :: 12 :: 13 :: 14 :: 15 :: 16 :: 17 :: 18 :: 19 :: 20 :: 21 :: 22 :: 23 :: 24 :: []), [(119, (Sl.v s114)), (115, (.bool (sEq s109 s111)))]⟩ :: ⟨_, (.bool v116), false, 2, 2, (0 :: 1 :: 2 :: 3 :: 4 :: 5 :: 6 :: 7 :: 8 :: 9 :: 10 :: 11 :: 12 :: 13 :: 14 :: 15 :: 16 :: 17 :: 18 :: 19 :: 20 :: 21 :: 22 :: 23 :: 24 :: 25 :: []), [(115, (.bool (sEq s109 s111))), (120, (.bool v116))]⟩ :: ⟨_, (.bool v116), false, 2, 2, (0 :: 1 :: 2 :: 3 :: 4 :: 5 :: 6 :: 7 :: 8 :: 9 :: 10 :: 11 :: 12 :: 13 :: 14 :: 15 :: 16 :: 17 :: 18 :: 19 :: 20 :: 21 :: 22 :: 23 :: 24 :: 25 :: 26 :: []), [(121, (.bool v116))]⟩ :: [])) (W := (fun j => match j with | 0 => w99 | 1 => w102 | _ => w117)) (by kernel_rfl) ha (dr_w e100) (by kernel_rfl) ?_ (reads_of (by kernel_rfl)) (by kernel_rfl) (m := 2) (by kernel_rfl) (fun a ha => ?_)
                    · refine ⟨?_, ?_, ?_, ?_, ?_, ?_, ?_, ?_, ?_, ?_, ?_, ?_, ?_, ?_, ?_, ?_, ?_, ?_, ?_, ?_, ?_, ?_, ?_, ?_, ?_, ?_, ?_, ?_, trivial⟩
                      · intro j h1 h2; obtain rfl : j = 0 := Nat.le_antisymm h2 h1; exact ok_do rfl fun a ha => d_call (xs := []) (vs := []) ha trivial Try.call18 (grapevinelaw09_live_ok e103)
                      · intro j _ _; exact ok_do rfl fun a ha => d_move ha rfl
                      · intro j _ _; exact ok_do_g rfl rfl (rfl : List.lookup 96 _ = _) b104 fun a ha => d_move ha rfl
                      · intro j _ _; exact ok_do_g rfl rfl (rfl : List.lookup 96 _ = _) b104 fun a ha => d_eq ha rfl rfl
                      · intro j _ _; exact ok_do rfl fun a ha => d_pick_t ha rfl b104 rfl
                      · intro j _ _; exact ok_do rfl fun a ha => d_move ha rfl
                      · intro j _ _; exact ok_do_g rfl rfl (rfl : List.lookup 100 _ = _) b105 fun a ha => d_move ha rfl
                      · intro j _ _; exact ok_do_g rfl rfl (rfl : List.lookup 100 _ = _) b105 fun a ha => d_lenS ha rfl Try.runUnderlying29
                      · intro j _ _; exact ok_do_g rfl rfl (rfl : List.lookup 100 _ = _) b105 fun a ha => d_eq ha rfl rfl
                      · intro j _ _; exact ok_do rfl fun a ha => d_pick_t ha rfl b105 rfl
                      · intro j _ _; exact ok_do rfl fun a ha => d_move ha rfl
                      · intro j _ _; exact ok_do_g rfl rfl (rfl : List.lookup 105 _ = _) b106 fun a ha => d_move ha rfl
                      · intro j _ _; exact ok_do_g rfl rfl (rfl : List.lookup 105 _ = _) b106 fun a ha => d_move ha rfl
                      · intro j _ _; exact ok_do_g rfl rfl (rfl : List.lookup 105 _ = _) b106 fun a ha => d_lenS ha rfl Try.runUnderlying29
                      · intro j _ _; exact ok_do_g rfl rfl (rfl : List.lookup 105 _ = _) b106 fun a ha => d_slS ha rfl Try.runUnderlying29 Try.sizeOf5 rfl ⟨_, rfl⟩ rfl (by simp) e108
                      · intro j h1 h2; obtain rfl : j = 1 := Nat.le_antisymm h2 h1; exact ok_do_g rfl rfl (rfl : List.lookup 105 _ = _) b106 fun a ha => d_b2s ha rfl Try.runUnderlying29 Try.runUnderlying9 Try.runUnderlying5 e110
                      · intro j _ _; exact ok_do_g rfl rfl (rfl : List.lookup 105 _ = _) b106 fun a ha => d_move ha rfl
                      · intro j h1 h2; obtain rfl : j = 1 := Nat.le_antisymm h2 h1; exact ok_do_g rfl rfl (rfl : List.lookup 105 _ = _) b106 fun a ha => d_b2s ha rfl Try.runUnderlying29 Try.runUnderlying9 Try.runUnderlying5 e112
                      · intro j _ _; exact ok_do_g rfl rfl (rfl : List.lookup 105 _ = _) b106 fun a ha => d_eqT ha rfl rfl
                      · intro j _ _; exact ok_do rfl fun a ha => d_pick_t ha rfl b106 rfl
                      · intro j _ _; exact ok_do rfl fun a ha => d_move ha rfl
                      · intro j _ _; exact ok_do_g rfl rfl (rfl : List.lookup 115 _ = _) b113 fun a ha => d_move ha rfl
                      · intro j _ _; exact ok_do_g rfl rfl (rfl : List.lookup 115 _ = _) b113 fun a ha => d_move ha rfl
                      · intro j _ _; exact ok_do_g rfl rfl (rfl : List.lookup 115 _ = _) b113 fun a ha => d_lenS ha rfl Try.runUnderlying29
                      · intro j _ _; exact ok_do_g rfl rfl (rfl : List.lookup 115 _ = _) b113 fun a ha => d_slS ha rfl Try.runUnderlying29 Try.sizeOf5 ⟨_, rfl⟩ rfl rfl (by simp) e115
                      · intro j h1 h2; obtain rfl : j = 1 := Nat.le_antisymm h2 h1; exact ok_do_g rfl rfl (rfl : List.lookup 115 _ = _) b113 fun a ha => d_call (xs := [_]) (vs := [(Sl.v s114)]) ha ⟨rfl, trivial⟩ Try.call29 (grapevinelaw09_zero_ok e118)
                      · intro j _ _; exact ok_do rfl fun a ha => d_pick_t ha rfl b113 rfl
                      · intro j _ _; exact ok_do rfl fun a ha => d_assign ha rfl
                    · have ha : Has 122 [(6, (.bool v116))] a := ha.sub ⟨rfl, trivial⟩
                      have hS : Has 122 [(6, (.bool v116))] _ := ha.sub ⟨rfl, trivial⟩
                      cases h
                      exact hk98 _ hS
                  · have ha : Has 122 [(1, (Sl.v a1)), (12, (Sl.v v91)), (13, (.int .i64 v92))] a := ha.sub ⟨rfl, rfl, rfl, trivial⟩
                    refine region_draw (n := 122) (ds := (⟨_, (.bool v101), true, 0, 0, [], []⟩ :: ⟨_, (.bool v101), false, 1, 1, [0], [(95, (.bool v101))]⟩ :: ⟨_, (.int .i64 v92), false, 1, 1, [0, 1], [(13, (.int .i64 v92)), (96, (.bool v101))]⟩ :: ⟨_, (.bool (v92 == 0)), false, 1, 1, [0, 1, 2], [(97, (.int .i64 v92)), (96, (.bool v101))]⟩ :: ⟨_, (.bool (v92 == 0)), false, 1, 1, [0, 1, 2, 3], [(96, (.bool v101)), (98, (.bool (v92 == 0)))]⟩ :: ⟨_, (.bool (v92 == 0)), false, 1, 1, [0, 1, 2, 3, 4], [(99, (.bool (v92 == 0)))]⟩ :: ⟨_, (Sl.v v91), false, 1, 1, [0, 1, 2, 3, 4, 5], [(12, (Sl.v v91)), (100, (.bool (v92 == 0)))]⟩ :: ⟨_, (.int .i64 (v91.n : Int)), false, 1, 1, [0, 1, 2, 3, 4, 5, 6], [(101, (Sl.v v91)), (100, (.bool (v92 == 0)))]⟩ :: ⟨_, (.bool ((v91.n : Int) == 64)), false, 1, 1, [0, 1, 2, 3, 4, 5, 6, 7], [(102, (.int .i64 (v91.n : Int))), (100, (.bool (v92 == 0)))]⟩ :: ⟨_, (.bool ((v91.n : Int) == 64)), false, 1, 1, [0, 1, 2, 3, 4, 5, 6, 7, 8], [(100, (.bool (v92 == 0))), (103, (.bool ((v91.n : Int) == 64)))]⟩ :: ⟨_, (.bool ((v91.n : Int) == 64)), false, 1, 1, [0, 1, 2, 3, 4, 5, 6, 7, 8, 9], [(104, (.bool ((v91.n : Int) == 64)))]⟩ :: ⟨_, (Sl.v v91), false, 1, 1, [0, 1, 2, 3, 4, 5, 6, 7, 8, 9, 10], [(12, (Sl.v v91)), (105, (.bool ((v91.n : Int) == 64)))]⟩ :: ⟨_, (Sl.v a1), false, 1, 1, [0, 1, 2, 3, 4, 5, 6, 7, 8, 9, 10], [(1, (Sl.v a1)), (105, (.bool ((v91.n : Int) == 64)))]⟩ :: ⟨_, (.int .i64 (a1.n : Int)), false, 1, 1, [0, 1, 2, 3, 4, 5, 6, 7, 8, 9, 10, 12], [(107, (Sl.v a1)), (105, (.bool ((v91.n : Int) == 64)))]⟩ :: ⟨_, (Sl.v s107), false, 1, 1, (0 :: 1 :: 2 :: 3 :: 4 :: 5 :: 6 :: 7 :: 8 :: 9 :: 10 :: 11 :: 12 :: 13 :: []), [(106, (Sl.v v91)), (108, (.int .i64 (a1.n : Int))), (105, (.bool ((v91.n : Int) == 64)))]⟩ :: ⟨_, (.string s109), false, 1, 1, (0 :: 1 :: 2 :: 3 :: 4 :: 5 :: 6 :: 7 :: 8 :: 9 :: 10 :: 11 :: 12 :: 13 :: 14 :: []), [(109, (Sl.v s107)), (105, (.bool ((v91.n : Int) == 64)))]⟩ :: ⟨_, (Sl.v a1), false, 1, 1, [0, 1, 2, 3, 4, 5, 6, 7, 8, 9, 10], [(1, (Sl.v a1)), (105, (.bool ((v91.n : Int) == 64)))]⟩ :: ⟨_, (.string s111), false, 1, 1, [0, 1, 2, 3, 4, 5, 6, 7, 8, 9, 10, 16], [(111, (Sl.v a1)), (105, (.bool ((v91.n : Int) == 64)))]⟩ :: ⟨_, (.bool (sEq s109 s111)), false, 1, 1, (0 :: 1 :: 2 :: 3 :: 4 :: 5 :: 6 :: 7 :: 8 :: 9 :: 10 :: 11 :: 12 :: 13 :: 14 :: 15 :: 16 :: 17 :: []), [(110, (.string s109)), (112, (.string s111)), (105, (.bool ((v91.n : Int) == 64)))]⟩ :: ⟨_, (.bool (sEq s109 s111)), false, 1, 1, (0 :: 1 :: 2 :: 3 :: 4 :: 5 :: 6 :: 7 :: 8 :: 9 :: 10 :: 11 :: 12 :: 13 :: 14 :: 15 :: 16 :: 17 :: 18 :: []), [(105, (.bool ((v91.n : Int) == 64))), (113, (.bool (sEq s109 s111)))]⟩ :: ⟨_, (.bool (sEq s109 s111)), false, 1, 1, (0 :: 1 :: 2 :: 3 :: 4 :: 5 :: 6 :: 7 :: 8 :: 9 :: 10 :: 11 :: 12 :: 13 :: 14 :: 15 :: 16 :: 17 :: 18 :: 19 :: []), [(114, (.bool (sEq s109 s111)))]⟩ :: ⟨_, undef, false, 1, 1, (0 :: 1 :: 2 :: 3 :: 4 :: 5 :: 6 :: 7 :: 8 :: 9 :: 10 :: 11 :: 12 :: 13 :: 14 :: 15 :: 16 :: 17 :: 18 :: 19 :: 20 :: []), [(115, (.bool (sEq s109 s111)))]⟩ :: ⟨_, undef, false, 1, 1, (0 :: 1 :: 2 :: 3 :: 4 :: 5 :: 6 :: 7 :: 8 :: 9 :: 10 :: 11 :: 12 :: 13 :: 14 :: 15 :: 16 :: 17 :: 18 :: 19 :: 20 :: []), [(115, (.bool (sEq s109 s111)))]⟩ :: ⟨_, undef, false, 1, 1, (0 :: 1 :: 2 :: 3 :: 4 :: 5 :: 6 :: 7 :: 8 :: 9 :: 10 :: 11 :: 12 :: 13 :: 14 :: 15 :: 16 :: 17 :: 18 :: 19 :: 20 :: 22 :: []), [(115, (.bool (sEq s109 s111)))]⟩ :: ⟨_, undef, false, 1, 1, (0 :: 1 :: 2 :: 3 :: 4 :: 5 :: 6 :: 7 :: 8 :: 9 :: 10 :: 11 :: 12 :: 13 :: 14 :: 15 :: 16 :: 17 :: 18 :: 19 :: 20 :: 21 :: 22 :: 23 :: []), [(115, (.bool (sEq s109 s111)))]⟩ :: ⟨_, undef, false, 1, 1, (0 :: 1 :: 2 :: 3 :: 4 :: 5 :: 6 :: 7 :: 8 :: 9 :: 10 :: 11 :: 12 :: 13 :: 14 :: 15 :: 16 :: 17 :: 18 :: 19 :: 20 :: 21 :: 22 :: 23 :: 24 :: []), [(115, (.bool (sEq s109 s111)))]⟩ :: ⟨_, (.bool false), false, 1, 1, (0 :: 1 :: 2 :: 3 :: 4 :: 5 :: 6 :: 7 :: 8 :: 9 :: 10 :: 11 :: 12 :: 13 :: 14 :: 15 :: 16 :: 17 :: 18 :: 19 :: 20 :: 21 :: 22 :: 23 :: 24 :: 25 :: []), [(115, (.bool (sEq s109 s111))), (120, undef)]⟩ :: ⟨_, (.bool false), false, 1, 1, (0 :: 1 :: 2 :: 3 :: 4 :: 5 :: 6 :: 7 :: 8 :: 9 :: 10 :: 11 :: 12 :: 13 :: 14 :: 15 :: 16 :: 17 :: 18 :: 19 :: 20 :: 21 :: 22 :: 23 :: 24 :: 25 :: 26 :: []), [(121, (.bool false))]⟩ :: [])) (W := (fun j => match j with | 0 => w99 | _ => w102)) (by kernel_rfl) ha (dr_w e100) (by kernel_rfl) ?_ (reads_of (by kernel_rfl)) (by kernel_rfl) (m := 1) (by kernel_rfl) (fun a ha => ?_)
                    · refine ⟨?_, ?_, ?_, ?_, ?_, ?_, ?_, ?_, ?_, ?_, ?_, ?_, ?_, ?_, ?_, ?_, ?_, ?_, ?_, ?_, ?_, ?_, ?_, ?_, ?_, ?_, ?_, ?_, trivial⟩
                      · intro j h1 h2; obtain rfl : j = 0 := Nat.le_antisymm h2 h1; exact ok_do rfl fun a ha => d_call (xs := []) (vs := []) ha trivial Try.call18 (grapevinelaw09_live_ok e103)
                      · intro j _ _; exact ok_do rfl fun a ha => d_move ha rfl
                      · intro j _ _; exact ok_do_g rfl rfl (rfl : List.lookup 96 _ = _) b104 fun a ha => d_move ha rfl
                      · intro j _ _; exact ok_do_g rfl rfl (rfl : List.lookup 96 _ = _) b104 fun a ha => d_eq ha rfl rfl
                      · intro j _ _; exact ok_do rfl fun a ha => d_pick_t ha rfl b104 rfl
                      · intro j _ _; exact ok_do rfl fun a ha => d_move ha rfl
                      · intro j _ _; exact ok_do_g rfl rfl (rfl : List.lookup 100 _ = _) b105 fun a ha => d_move ha rfl
                      · intro j _ _; exact ok_do_g rfl rfl (rfl : List.lookup 100 _ = _) b105 fun a ha => d_lenS ha rfl Try.runUnderlying29
                      · intro j _ _; exact ok_do_g rfl rfl (rfl : List.lookup 100 _ = _) b105 fun a ha => d_eq ha rfl rfl
                      · intro j _ _; exact ok_do rfl fun a ha => d_pick_t ha rfl b105 rfl
                      · intro j _ _; exact ok_do rfl fun a ha => d_move ha rfl
                      · intro j _ _; exact ok_do_g rfl rfl (rfl : List.lookup 105 _ = _) b106 fun a ha => d_move ha rfl
                      · intro j _ _; exact ok_do_g rfl rfl (rfl : List.lookup 105 _ = _) b106 fun a ha => d_move ha rfl
                      · intro j _ _; exact ok_do_g rfl rfl (rfl : List.lookup 105 _ = _) b106 fun a ha => d_lenS ha rfl Try.runUnderlying29
                      · intro j _ _; exact ok_do_g rfl rfl (rfl : List.lookup 105 _ = _) b106 fun a ha => d_slS ha rfl Try.runUnderlying29 Try.sizeOf5 rfl ⟨_, rfl⟩ rfl (by simp) e108
                      · intro j h1 h2; obtain rfl : j = 1 := Nat.le_antisymm h2 h1; exact ok_do_g rfl rfl (rfl : List.lookup 105 _ = _) b106 fun a ha => d_b2s ha rfl Try.runUnderlying29 Try.runUnderlying9 Try.runUnderlying5 e110
                      · intro j _ _; exact ok_do_g rfl rfl (rfl : List.lookup 105 _ = _) b106 fun a ha => d_move ha rfl
                      · intro j h1 h2; obtain rfl : j = 1 := Nat.le_antisymm h2 h1; exact ok_do_g rfl rfl (rfl : List.lookup 105 _ = _) b106 fun a ha => d_b2s ha rfl Try.runUnderlying29 Try.runUnderlying9 Try.runUnderlying5 e112
                      · intro j _ _; exact ok_do_g rfl rfl (rfl : List.lookup 105 _ = _) b106 fun a ha => d_eqT ha rfl rfl
                      · intro j _ _; exact ok_do rfl fun a ha => d_pick_t ha rfl b106 rfl
                      · intro j _ _; exact ok_do rfl fun a ha => d_move ha rfl
                      · intro j _ _; exact ok_no_g rfl rfl (rfl : List.lookup 115 _ = _) (nn b113 _ rfl)
                      · intro j _ _; exact ok_no_g rfl rfl (rfl : List.lookup 115 _ = _) (nn b113 _ rfl)
                      · intro j _ _; exact ok_no_g rfl rfl (rfl : List.lookup 115 _ = _) (nn b113 _ rfl)
                      · intro j _ _; exact ok_no_g rfl rfl (rfl : List.lookup 115 _ = _) (nn b113 _ rfl)
                      · intro j _ _; exact ok_no_g rfl rfl (rfl : List.lookup 115 _ = _) (nn b113 _ rfl)
                      · intro j _ _; exact ok_do rfl fun a ha => d_pick_f ha rfl b113 rfl
                      · intro j _ _; exact ok_do rfl fun a ha => d_assign ha rfl
                    · have ha : Has 122 [(6, (.bool false))] a := ha.sub ⟨rfl, trivial⟩
                      have hS : Has 122 [(6, (.bool false))] _ := ha.sub ⟨rfl, trivial⟩
                      cases h
                      exact hk98 _ hS
                · have ha : Has 122 [(1, (Sl.v a1)), (12, (Sl.v v91)), (13, (.int .i64 v92))] a := ha.sub ⟨rfl, rfl, rfl, trivial⟩
                  refine region_draw (n := 122) (ds := (⟨_, (.bool v101), true, 0, 0, [], []⟩ :: ⟨_, (.bool v101), false, 1, 1, [0], [(95, (.bool v101))]⟩ :: ⟨_, (.int .i64 v92), false, 1, 1, [0, 1], [(13, (.int .i64 v92)), (96, (.bool v101))]⟩ :: ⟨_, (.bool (v92 == 0)), false, 1, 1, [0, 1, 2], [(97, (.int .i64 v92)), (96, (.bool v101))]⟩ :: ⟨_, (.bool (v92 == 0)), false, 1, 1, [0, 1, 2, 3], [(96, (.bool v101)), (98, (.bool (v92 == 0)))]⟩ :: ⟨_, (.bool (v92 == 0)), false, 1, 1, [0, 1, 2, 3, 4], [(99, (.bool (v92 == 0)))]⟩ :: ⟨_, (Sl.v v91), false, 1, 1, [0, 1, 2, 3, 4, 5], [(12, (Sl.v v91)), (100, (.bool (v92 == 0)))]⟩ :: ⟨_, (.int .i64 (v91.n : Int)), false, 1, 1, [0, 1, 2, 3, 4, 5, 6], [(101, (Sl.v v91)), (100, (.bool (v92 == 0)))]⟩ :: ⟨_, (.bool ((v91.n : Int) == 64)), false, 1, 1, [0, 1, 2, 3, 4, 5, 6, 7], [(102, (.int .i64 (v91.n : Int))), (100, (.bool (v92 == 0)))]⟩ :: ⟨_, (.bool ((v91.n : Int) == 64)), false, 1, 1, [0, 1, 2, 3, 4, 5, 6, 7, 8], [(100, (.bool (v92 == 0))), (103, (.bool ((v91.n : Int) == 64)))]⟩ :: ⟨_, (.bool ((v91.n : Int) == 64)), false, 1, 1, [0, 1, 2, 3, 4, 5, 6, 7, 8, 9], [(104, (.bool ((v91.n : Int) == 64)))]⟩ :: ⟨_, undef, false, 1, 1, [0, 1, 2, 3, 4, 5, 6, 7, 8, 9, 10], [(105, (.bool ((v91.n : Int) == 64)))]⟩ :: ⟨_, undef, false, 1, 1, [0, 1, 2, 3, 4, 5, 6, 7, 8, 9, 10], [(105, (.bool ((v91.n : Int) == 64)))]⟩ :: ⟨_, undef, false, 1, 1, [0, 1, 2, 3, 4, 5, 6, 7, 8, 9, 10, 12], [(105, (.bool ((v91.n : Int) == 64)))]⟩ :: ⟨_, undef, false, 1, 1, (0 :: 1 :: 2 :: 3 :: 4 :: 5 :: 6 :: 7 :: 8 :: 9 :: 10 :: 11 :: 12 :: 13 :: []), [(105, (.bool ((v91.n : Int) == 64)))]⟩ :: ⟨_, undef, false, 1, 1, (0 :: 1 :: 2 :: 3 :: 4 :: 5 :: 6 :: 7 :: 8 :: 9 :: 10 :: 11 :: 12 :: 13 :: 14 :: []), [(105, (.bool ((v91.n : Int) == 64)))]⟩ :: ⟨_, undef, false, 1, 1, [0, 1, 2, 3, 4, 5, 6, 7, 8, 9, 10], [(105, (.bool ((v91.n : Int) == 64)))]⟩ :: ⟨_, undef, false, 1, 1, [0, 1, 2, 3, 4, 5, 6, 7, 8, 9, 10, 16], [(105, (.bool ((v91.n : Int) == 64)))]⟩ :: ⟨_, undef, false, 1, 1, (0 :: 1 :: 2 :: 3 :: 4 :: 5 :: 6 :: 7 :: 8 :: 9 :: 10 :: 11 :: 12 :: 13 :: 14 :: 15 :: 16 :: 17 :: []), [(105, (.bool ((v91.n : Int) == 64)))]⟩ :: ⟨_, (.bool false), false, 1, 1, (0 :: 1 :: 2 :: 3 :: 4 :: 5 :: 6 :: 7 :: 8 :: 9 :: 10 :: 11 :: 12 :: 13 :: 14 :: 15 :: 16 :: 17 :: 18 :: []), [(105, (.bool ((v91.n : Int) == 64))), (113, undef)]⟩ :: ⟨_, (.bool false), false, 1, 1, (0 :: 1 :: 2 :: 3 :: 4 :: 5 :: 6 :: 7 :: 8 :: 9 :: 10 :: 11 :: 12 :: 13 :: 14 :: 15 :: 16 :: 17 :: 18 :: 19 :: []), [(114, (.bool false))]⟩ :: ⟨_, undef, false, 1, 1, (0 :: 1 :: 2 :: 3 :: 4 :: 5 :: 6 :: 7 :: 8 :: 9 :: 10 :: 11 :: 12 :: 13 :: 14 :: 15 :: 16 :: 17 :: 18 :: 19 :: 20 :: []), [(115, (.bool false))]⟩ :: ⟨_, undef, false, 1, 1, (0 :: 1 :: 2 :: 3 :: 4 :: 5 :: 6 :: 7 :: 8 :: 9 :: 10 :: 11 :: 12 :: 13 :: 14 :: 15 :: 16 :: 17 :: 18 :: 19 :: 20 :: []), [(115, (.bool false))]⟩ :: ⟨_, undef, false, 1, 1, (0 :: 1 :: 2 :: 3 :: 4 :: 5 :: 6 :: 7 :: 8 :: 9 :: 10 :: 11 :: 12 :: 13 :: 14 :: 15 :: 16 :: 17 :: 18 :: 19 :: 20 :: 22 :: []), [(115, (.bool false))]⟩ :: ⟨_, undef, false, 1, 1, (0 :: 1 :: 2 :: 3 :: 4 :: 5 :: 6 :: 7 :: 8 :: 9 :: 10 :: 11 :: 12 :: 13 :: 14 :: 15 :: 16 :: 17 :: 18 :: 19 :: 20 :: 21 :: 22 :: 23 :: []), [(115, (.bool false))]⟩ :: ⟨_, undef, false, 1, 1, (0 :: 1 :: 2 :: 3 :: 4 :: 5 :: 6 :: 7 :: 8 :: 9 :: 10 :: 11 :: 12 :: 13 :: 14 :: 15 :: 16 :: 17 :: 18 :: 19 :: 20 :: 21 :: 22 :: 23 :: 24 :: []), [(115, (.bool false))]⟩ :: ⟨_, (.bool false), false, 1, 1, (0 :: 1 :: 2 :: 3 :: 4 :: 5 :: 6 :: 7 :: 8 :: 9 :: 10 :: 11 :: 12 :: 13 :: 14 :: 15 :: 16 :: 17 :: 18 :: 19 :: 20 :: 21 :: 22 :: 23 :: 24 :: 25 :: []), [(115, (.bool false)), (120, undef)]⟩ :: ⟨_, (.bool false), false, 1, 1, (0 :: 1 :: 2 :: 3 :: 4 :: 5 :: 6 :: 7 :: 8 :: 9 :: 10 :: 11 :: 12 :: 13 :: 14 :: 15 :: 16 :: 17 :: 18 :: 19 :: 20 :: 21 :: 22 :: 23 :: 24 :: 25 :: 26 :: []), [(121, (.bool false))]⟩ :: [])) (W := (fun j => match j with | 0 => w99 | _ => w102)) (by kernel_rfl) ha (dr_w e100) (by kernel_rfl) ?_ (reads_of (by kernel_rfl)) (by kernel_rfl) (m := 1) (by kernel_rfl) (fun a ha => ?_)
                  · refine ⟨?_, ?_, ?_, ?_, ?_, ?_, ?_, ?_, ?_, ?_, ?_, ?_, ?_, ?_, ?_, ?_, ?_, ?_, ?_, ?_, ?_, ?_, ?_, ?_, ?_, ?_, ?_, ?_, trivial⟩
                    · intro j h1 h2; obtain rfl : j = 0 := Nat.le_antisymm h2 h1; exact ok_do rfl fun a ha => d_call (xs := []) (vs := []) ha trivial Try.call18 (grapevinelaw09_live_ok e103)
                    · intro j _ _; exact ok_do rfl fun a ha => d_move ha rfl
                    · intro j _ _; exact ok_do_g rfl rfl (rfl : List.lookup 96 _ = _) b104 fun a ha => d_move ha rfl
                    · intro j _ _; exact ok_do_g rfl rfl (rfl : List.lookup 96 _ = _) b104 fun a ha => d_eq ha rfl rfl
                    · intro j _ _; exact ok_do rfl fun a ha => d_pick_t ha rfl b104 rfl
                    · intro j _ _; exact ok_do rfl fun a ha => d_move ha rfl
                    · intro j _ _; exact ok_do_g rfl rfl (rfl : List.lookup 100 _ = _) b105 fun a ha => d_move ha rfl
                    · intro j _ _; exact ok_do_g rfl rfl (rfl : List.lookup 100 _ = _) b105 fun a ha => d_lenS ha rfl Try.runUnderlying29
                    · intro j _ _; exact ok_do_g rfl rfl (rfl : List.lookup 100 _ = _) b105 fun a ha => d_eq ha rfl rfl
                    · intro j _ _; exact ok_do rfl fun a ha => d_pick_t ha rfl b105 rfl
                    · intro j _ _; exact ok_do rfl fun a ha => d_move ha rfl
                    · intro j _ _; exact ok_no_g rfl rfl (rfl : List.lookup 105 _ = _) (nn b106 _ rfl)
                    · intro j _ _; exact ok_no_g rfl rfl (rfl : List.lookup 105 _ = _) (nn b106 _ rfl)
                    · intro j _ _; exact ok_no_g rfl rfl (rfl : List.lookup 105 _ = _) (nn b106 _ rfl)
                    · intro j _ _; exact ok_no_g rfl rfl (rfl : List.lookup 105 _ = _) (nn b106 _ rfl)
                    · intro j _ _; exact ok_no_g rfl rfl (rfl : List.lookup 105 _ = _) (nn b106 _ rfl)
                    · intro j _ _; exact ok_no_g rfl rfl (rfl : List.lookup 105 _ = _) (nn b106 _ rfl)
                    · intro j _ _; exact ok_no_g rfl rfl (rfl : List.lookup 105 _ = _) (nn b106 _ rfl)
                    · intro j _ _; exact ok_no_g rfl rfl (rfl : List.lookup 105 _ = _) (nn b106 _ rfl)
                    · intro j _ _; exact ok_do rfl fun a ha => d_pick_f ha rfl b106 rfl
                    · intro j _ _; exact ok_do rfl fun a ha => d_move ha rfl
                    · intro j _ _; exact ok_no_g rfl rfl (rfl : List.lookup 115 _ = _) (nn (by decide) _ rfl)
                    · intro j _ _; exact ok_no_g rfl rfl (rfl : List.lookup 115 _ = _) (nn (by decide) _ rfl)
                    · intro j _ _; exact ok_no_g rfl rfl (rfl : List.lookup 115 _ = _) (nn (by decide) _ rfl)
                    · intro j _ _; exact ok_no_g rfl rfl (rfl : List.lookup 115 _ = _) (nn (by decide) _ rfl)
                    · intro j _ _; exact ok_no_g rfl rfl (rfl : List.lookup 115 _ = _) (nn (by decide) _ rfl)
                    · intro j _ _; exact ok_do rfl fun a ha => d_pick_f ha rfl (by decide) rfl
                    · intro j _ _; exact ok_do rfl fun a ha => d_assign ha rfl
                  · have ha : Has 122 [(6, (.bool false))] a := ha.sub ⟨rfl, trivial⟩
                    have hS : Has 122 [(6, (.bool false))] _ := ha.sub ⟨rfl, trivial⟩
                    cases h
                    exact hk98 _ hS
              · have ha : Has 122 [(1, (Sl.v a1)), (12, (Sl.v v91)), (13, (.int .i64 v92))] a := ha.sub ⟨rfl, rfl, rfl, trivial⟩
                refine region_draw (n := 122) (ds := (⟨_, (.bool v101), true, 0, 0, [], []⟩ :: ⟨_, (.bool v101), false, 1, 1, [0], [(95, (.bool v101))]⟩ :: ⟨_, (.int .i64 v92), false, 1, 1, [0, 1], [(13, (.int .i64 v92)), (96, (.bool v101))]⟩ :: ⟨_, (.bool (v92 == 0)), false, 1, 1, [0, 1, 2], [(97, (.int .i64 v92)), (96, (.bool v101))]⟩ :: ⟨_, (.bool (v92 == 0)), false, 1, 1, [0, 1, 2, 3], [(96, (.bool v101)), (98, (.bool (v92 == 0)))]⟩ :: ⟨_, (.bool (v92 == 0)), false, 1, 1, [0, 1, 2, 3, 4], [(99, (.bool (v92 == 0)))]⟩ :: ⟨_, undef, false, 1, 1, [0, 1, 2, 3, 4, 5], [(100, (.bool (v92 == 0)))]⟩ :: ⟨_, undef, false, 1, 1, [0, 1, 2, 3, 4, 5, 6], [(100, (.bool (v92 == 0)))]⟩ :: ⟨_, undef, false, 1, 1, [0, 1, 2, 3, 4, 5, 6, 7], [(100, (.bool (v92 == 0)))]⟩ :: ⟨_, (.bool false), false, 1, 1, [0, 1, 2, 3, 4, 5, 6, 7, 8], [(100, (.bool (v92 == 0))), (103, undef)]⟩ :: ⟨_, (.bool false), false, 1, 1, [0, 1, 2, 3, 4, 5, 6, 7, 8, 9], [(104, (.bool false))]⟩ :: ⟨_, undef, false, 1, 1, [0, 1, 2, 3, 4, 5, 6, 7, 8, 9, 10], [(105, (.bool false))]⟩ :: ⟨_, undef, false, 1, 1, [0, 1, 2, 3, 4, 5, 6, 7, 8, 9, 10], [(105, (.bool false))]⟩ :: ⟨_, undef, false, 1, 1, [0, 1, 2, 3, 4, 5, 6, 7, 8, 9, 10, 12], [(105, (.bool false))]⟩ :: ⟨_, undef, false, 1, 1, (0 :: 1 :: 2 :: 3 :: 4 :: 5 :: 6 :: 7 :: 8 :: 9 :: 10 :: 11 :: 12 :: 13 :: []), [(105, (.bool false))]⟩ :: ⟨_, undef, false, 1, 1, (0 :: 1 :: 2 :: 3 :: 4 :: 5 :: 6 :: 7 :: 8 :: 9 :: 10 :: 11 :: 12 :: 13 :: 14 :: []), [(105, (.bool false))]⟩ :: ⟨_, undef, false, 1, 1, [0, 1, 2, 3, 4, 5, 6, 7, 8, 9, 10], [(105, (.bool false))]⟩ :: ⟨_, undef, false, 1, 1, [0, 1, 2, 3, 4, 5, 6, 7, 8, 9, 10, 16], [(105, (.bool false))]⟩ :: ⟨_, undef, false, 1, 1, (0 :: 1 :: 2 :: 3 :: 4 :: 5 :: 6 :: 7 :: 8 :: 9 :: 10 :: 11 :: 12 :: 13 :: 14 :: 15 :: 16 :: 17 :: []), [(105, (.bool false))]⟩ :: ⟨_, (.bool false), false, 1, 1, (0 :: 1 :: 2 :: 3 :: 4 :: 5 :: 6 :: 7 :: 8 :: 9 :: 10 :: 11 :: 12 :: 13 :: 14 :: 15 :: 16 :: 17 :: 18 :: []), [(105, (.bool false)), (113, undef)]⟩ :: ⟨_, (.bool false), false, 1, 1, (0 :: 1 :: 2 :: 3 :: 4 :: 5 :: 6 :: 7 :: 8 :: 9 :: 10 :: 11 :: 12 :: 13 :: 14 :: 15 :: 16 :: 17 :: 18 :: 19 :: []), [(114, (.bool false))]⟩ :: ⟨_, undef, false, 1, 1, (0 :: 1 :: 2 :: 3 :: 4 :: 5 :: 6 :: 7 :: 8 :: 9 :: 10 :: 11 :: 12 :: 13 :: 14 :: 15 :: 16 :: 17 :: 18 :: 19 :: 20 :: []), [(115, (.bool false))]⟩ :: ⟨_, undef, false, 1, 1, (0 :: 1 :: 2 :: 3 :: 4 :: 5 :: 6 :: 7 :: 8 :: 9 :: 10 :: 11 :: 12 :: 13 :: 14 :: 15 :: 16 :: 17 :: 18 :: 19 :: 20 :: []), [(115, (.bool false))]⟩ :: ⟨_, undef, false, 1, 1, (0 :: 1 :: 2 :: 3 :: 4 :: 5 :: 6 :: 7 :: 8 :: 9 :: 10 :: 11 :: 12 :: 13 :: 14 :: 15 :: 16 :: 17 :: 18 :: 19 :: 20 :: 22 :: []), [(115, (.bool false))]⟩ :: ⟨_, undef, false, 1, 1, (0 :: 1 :: 2 :: 3 :: 4 :: 5 :: 6 :: 7 :: 8 :: 9 :: 10 :: 11 :: 12 :: 13 :: 14 :: 15 :: 16 :: 17 :: 18 :: 19 :: 20 :: 21 :: 22 :: 23 :: []), [(115, (.bool false))]⟩ :: ⟨_, undef, false, 1, 1, (0 :: 1 :: 2 :: 3 :: 4 :: 5 :: 6 :: 7 :: 8 :: 9 :: 10 :: 11 :: 12 :: 13 :: 14 :: 15 :: 16 :: 17 :: 18 :: 19 :: 20 :: 21 :: 22 :: 23 :: 24 :: []), [(115, (.bool false))]⟩ :: ⟨_, (.bool false), false, 1, 1, (0 :: 1 :: 2 :: 3 :: 4 :: 5 :: 6 :: 7 :: 8 :: 9 :: 10 :: 11 :: 12 :: 13 :: 14 :: 15 :: 16 :: 17 :: 18 :: 19 :: 20 :: 21 :: 22 :: 23 :: 24 :: 25 :: []), [(115, (.bool false)), (120, undef)]⟩ :: ⟨_, (.bool false), false, 1, 1, (0 :: 1 :: 2 :: 3 :: 4 :: 5 :: 6 :: 7 :: 8 :: 9 :: 10 :: 11 :: 12 :: 13 :: 14 :: 15 :: 16 :: 17 :: 18 :: 19 :: 20 :: 21 :: 22 :: 23 :: 24 :: 25 :: 26 :: []), [(121, (.bool false))]⟩ :: [])) (W := (fun j => match j with | 0 => w99 | _ => w102)) (by kernel_rfl) ha (dr_w e100) (by kernel_rfl) ?_ (reads_of (by kernel_rfl)) (by kernel_rfl) (m := 1) (by kernel_rfl) (fun a ha => ?_)
                · refine ⟨?_, ?_, ?_, ?_, ?_, ?_, ?_, ?_, ?_, ?_, ?_, ?_, ?_, ?_, ?_, ?_, ?_, ?_, ?_, ?_, ?_, ?_, ?_, ?_, ?_, ?_, ?_, ?_, trivial⟩
                  · intro j h1 h2; obtain rfl : j = 0 := Nat.le_antisymm h2 h1; exact ok_do rfl fun a ha => d_call (xs := []) (vs := []) ha trivial Try.call18 (grapevinelaw09_live_ok e103)
                  · intro j _ _; exact ok_do rfl fun a ha => d_move ha rfl
                  · intro j _ _; exact ok_do_g rfl rfl (rfl : List.lookup 96 _ = _) b104 fun a ha => d_move ha rfl
                  · intro j _ _; exact ok_do_g rfl rfl (rfl : List.lookup 96 _ = _) b104 fun a ha => d_eq ha rfl rfl
                  · intro j _ _; exact ok_do rfl fun a ha => d_pick_t ha rfl b104 rfl
                  · intro j _ _; exact ok_do rfl fun a ha => d_move ha rfl
                  · intro j _ _; exact ok_no_g rfl rfl (rfl : List.lookup 100 _ = _) (nn b105 _ rfl)
                  · intro j _ _; exact ok_no_g rfl rfl (rfl : List.lookup 100 _ = _) (nn b105 _ rfl)
                  · intro j _ _; exact ok_no_g rfl rfl (rfl : List.lookup 100 _ = _) (nn b105 _ rfl)
                  · intro j _ _; exact ok_do rfl fun a ha => d_pick_f ha rfl b105 rfl
                  · intro j _ _; exact ok_do rfl fun a ha => d_move ha rfl
                  · intro j _ _; exact ok_no_g rfl rfl (rfl : List.lookup 105 _ = _) (nn (by decide) _ rfl)
                  · intro j _ _; exact ok_no_g rfl rfl (rfl : List.lookup 105 _ = _) (nn (by decide) _ rfl)
                  · intro j _ _; exact ok_no_g rfl rfl (rfl : List.lookup 105 _ = _) (nn (by decide) _ rfl)
                  · intro j _ _; exact ok_no_g rfl rfl (rfl : List.lookup 105 _ = _) (nn (by decide) _ rfl)
                  · intro j _ _; exact ok_no_g rfl rfl (rfl : List.lookup 105 _ = _) (nn (by decide) _ rfl)
                  · intro j _ _; exact ok_no_g rfl rfl (rfl : List.lookup 105 _ = _) (nn (by decide) _ rfl)
                  · intro j _ _; exact ok_no_g rfl rfl (rfl : List.lookup 105 _ = _) (nn (by decide) _ rfl)
                  · intro j _ _; exact ok_no_g rfl rfl (rfl : List.lookup 105 _ = _) (nn (by decide) _ rfl)
                  · intro j _ _; exact ok_do rfl fun a ha => d_pick_f ha rfl (by decide) rfl
                  · intro j _ _; exact ok_do rfl fun a ha => d_move ha rfl
                  · intro j _ _; exact ok_no_g rfl rfl (rfl : List.lookup 115 _ = _) (nn (by decide) _ rfl)
                  · intro j _ _; exact ok_no_g rfl rfl (rfl : List.lookup 115 _ = _) (nn (by decide) _ rfl)
                  · intro j _ _; exact ok_no_g rfl rfl (rfl : List.lookup 115 _ = _) (nn (by decide) _ rfl)
                  · intro j _ _; exact ok_no_g rfl rfl (rfl : List.lookup 115 _ = _) (nn (by decide) _ rfl)
                  · intro j _ _; exact ok_no_g rfl rfl (rfl : List.lookup 115 _ = _) (nn (by decide) _ rfl)
                  · intro j _ _; exact ok_do rfl fun a ha => d_pick_f ha rfl (by decide) rfl
                  · intro j _ _; exact ok_do rfl fun a ha => d_assign ha rfl
                · have ha : Has 122 [(6, (.bool false))] a := ha.sub ⟨rfl, trivial⟩
                  have hS : Has 122 [(6, (.bool false))] _ := ha.sub ⟨rfl, trivial⟩
                  cases h
                  exact hk98 _ hS
            · have ha : Has 122 [(1, (Sl.v a1)), (12, (Sl.v v91)), (13, (.int .i64 v92))] a := ha.sub ⟨rfl, rfl, rfl, trivial⟩
              refine region_draw (n := 122) (ds := (⟨_, (.bool v101), true, 0, 0, [], []⟩ :: ⟨_, (.bool v101), false, 1, 1, [0], [(95, (.bool v101))]⟩ :: ⟨_, undef, false, 1, 1, [0, 1], [(96, (.bool v101))]⟩ :: ⟨_, undef, false, 1, 1, [0, 1, 2], [(96, (.bool v101))]⟩ :: ⟨_, (.bool false), false, 1, 1, [0, 1, 2, 3], [(96, (.bool v101)), (98, undef)]⟩ :: ⟨_, (.bool false), false, 1, 1, [0, 1, 2, 3, 4], [(99, (.bool false))]⟩ :: ⟨_, undef, false, 1, 1, [0, 1, 2, 3, 4, 5], [(100, (.bool false))]⟩ :: ⟨_, undef, false, 1, 1, [0, 1, 2, 3, 4, 5, 6], [(100, (.bool false))]⟩ :: ⟨_, undef, false, 1, 1, [0, 1, 2, 3, 4, 5, 6, 7], [(100, (.bool false))]⟩ :: ⟨_, (.bool false), false, 1, 1, [0, 1, 2, 3, 4, 5, 6, 7, 8], [(100, (.bool false)), (103, undef)]⟩ :: ⟨_, (.bool false), false, 1, 1, [0, 1, 2, 3, 4, 5, 6, 7, 8, 9], [(104, (.bool false))]⟩ :: ⟨_, undef, false, 1, 1, [0, 1, 2, 3, 4, 5, 6, 7, 8, 9, 10], [(105, (.bool false))]⟩ :: ⟨_, undef, false, 1, 1, [0, 1, 2, 3, 4, 5, 6, 7, 8, 9, 10], [(105, (.bool false))]⟩ :: ⟨_, undef, false, 1, 1, [0, 1, 2, 3, 4, 5, 6, 7, 8, 9, 10, 12], [(105, (.bool false))]⟩ :: ⟨_, undef, false, 1, 1, (0 :: 1 :: 2 :: 3 :: 4 :: 5 :: 6 :: 7 :: 8 :: 9 :: 10 :: 11 :: 12 :: 13 :: []), [(105, (.bool false))]⟩ :: ⟨_, undef, false, 1, 1, (0 :: 1 :: 2 :: 3 :: 4 :: 5 :: 6 :: 7 :: 8 :: 9 :: 10 :: 11 :: 12 :: 13 :: 14 :: []), [(105, (.bool false))]⟩ :: ⟨_, undef, false, 1, 1, [0, 1, 2, 3, 4, 5, 6, 7, 8, 9, 10], [(105, (.bool false))]⟩ :: ⟨_, undef, false, 1, 1, [0, 1, 2, 3, 4, 5, 6, 7, 8, 9, 10, 16], [(105, (.bool false))]⟩ :: ⟨_, undef, false, 1, 1, (0 :: 1 :: 2 :: 3 :: 4 :: 5 :: 6 :: 7 :: 8 :: 9 :: 10 :: 11 :: 12 :: 13 :: 14 :: 15 :: 16 :: 17 :: []), [(105, (.bool false))]⟩ :: ⟨_, (.bool false), false, 1, 1, (0 :: 1 :: 2 :: 3 :: 4 :: 5 :: 6 :: 7 :: 8 :: 9 :: 10 :: 11 :: 12 :: 13 :: 14 :: 15 :: 16 :: 17 :: 18 :: []), [(105, (.bool false)), (113, undef)]⟩ :: ⟨_, (.bool false), false, 1, 1, (0 :: 1 :: 2 :: 3 :: 4 :: 5 :: 6 :: 7 :: 8 :: 9 :: 10 :: 11 :: 12 :: 13 :: 14 :: 15 :: 16 :: 17 :: 18 :: 19 :: []), [(114, (.bool false))]⟩ :: ⟨_, undef, false, 1, 1, (0 :: 1 :: 2 :: 3 :: 4 :: 5 :: 6 :: 7 :: 8 :: 9 :: 10 :: 11 :: 12 :: 13 :: 14 :: 15 :: 16 :: 17 :: 18 :: 19 :: 20 :: []), [(115, (.bool false))]⟩ :: ⟨_, undef, false, 1, 1, (0 :: 1 :: 2 :: 3 :: 4 :: 5 :: 6 :: 7 :: 8 :: 9 :: 10 :: 11 :: 12 :: 13 :: 14 :: 15 :: 16 :: 17 :: 18 :: 19 :: 20 :: []), [(115, (.bool false))]⟩ :: ⟨_, undef, false, 1, 1, (0 :: 1 :: 2 :: 3 :: 4 :: 5 :: 6 :: 7 :: 8 :: 9 :: 10 :: 11 :: 12 :: 13 :: 14 :: 15 :: 16 :: 17 :: 18 :: 19 :: 20 :: 22 :: []), [(115, (.bool false))]⟩ :: ⟨_, undef, false, 1, 1, (0 :: 1 :: 2 :: 3 :: 4 :: 5 :: 6 :: 7 :: 8 :: 9 :: 10 :: 11 :: 12 :: 13 :: 14 :: 15 :: 16 :: 17 :: 18 :: 19 :: 20 :: 21 :: 22 :: 23 :: []), [(115, (.bool false))]⟩ :: ⟨_, undef, false, 1, 1, (0 :: 1 :: 2 :: 3 :: 4 :: 5 :: 6 :: 7 :: 8 :: 9 :: 10 :: 11 :: 12 :: 13 :: 14 :: 15 :: 16 :: 17 :: 18 :: 19 :: 20 :: 21 :: 22 :: 23 :: 24 :: []), [(115, (.bool false))]⟩ :: ⟨_, (.bool false), false, 1, 1, (0 :: 1 :: 2 :: 3 :: 4 :: 5 :: 6 :: 7 :: 8 :: 9 :: 10 :: 11 :: 12 :: 13 :: 14 :: 15 :: 16 :: 17 :: 18 :: 19 :: 20 :: 21 :: 22 :: 23 :: 24 :: 25 :: []), [(115, (.bool false)), (120, undef)]⟩ :: ⟨_, (.bool false), false, 1, 1, (0 :: 1 :: 2 :: 3 :: 4 :: 5 :: 6 :: 7 :: 8 :: 9 :: 10 :: 11 :: 12 :: 13 :: 14 :: 15 :: 16 :: 17 :: 18 :: 19 :: 20 :: 21 :: 22 :: 23 :: 24 :: 25 :: 26 :: []), [(121, (.bool false))]⟩ :: [])) (W := (fun j => match j with | 0 => w99 | _ => w102)) (by kernel_rfl) ha (dr_w e100) (by kernel_rfl) ?_ (reads_of (by kernel_rfl)) (by kernel_rfl) (m := 1) (by kernel_rfl) (fun a ha => ?_)
              · refine ⟨?_, ?_, ?_, ?_, ?_, ?_, ?_, ?_, ?_, ?_, ?_, ?_, ?_, ?_, ?_, ?_, ?_, ?_, ?_, ?_, ?_, ?_, ?_, ?_, ?_, ?_, ?_, ?_, trivial⟩
                · intro j h1 h2; obtain rfl : j = 0 := Nat.le_antisymm h2 h1; exact ok_do rfl fun a ha => d_call (xs := []) (vs := []) ha trivial Try.call18 (grapevinelaw09_live_ok e103)
                · intro j _ _; exact ok_do rfl fun a ha => d_move ha rfl
                · intro j _ _; exact ok_no_g rfl rfl (rfl : List.lookup 96 _ = _) (nn b104 _ rfl)
                · intro j _ _; exact ok_no_g rfl rfl (rfl : List.lookup 96 _ = _) (nn b104 _ rfl)
                · intro j _ _; exact ok_do rfl fun a ha => d_pick_f ha rfl b104 rfl
                · intro j _ _; exact ok_do rfl fun a ha => d_move ha rfl
                · intro j _ _; exact ok_no_g rfl rfl (rfl : List.lookup 100 _ = _) (nn (by decide) _ rfl)
                · intro j _ _; exact ok_no_g rfl rfl (rfl : List.lookup 100 _ = _) (nn (by decide) _ rfl)
                · intro j _ _; exact ok_no_g rfl rfl (rfl : List.lookup 100 _ = _) (nn (by decide) _ rfl)
                · intro j _ _; exact ok_do rfl fun a ha => d_pick_f ha rfl (by decide) rfl
                · intro j _ _; exact ok_do rfl fun a ha => d_move ha rfl
                · intro j _ _; exact ok_no_g rfl rfl (rfl : List.lookup 105 _ = _) (nn (by decide) _ rfl)
                · intro j _ _; exact ok_no_g rfl rfl (rfl : List.lookup 105 _ = _) (nn (by decide) _ rfl)
                · intro j _ _; exact ok_no_g rfl rfl (rfl : List.lookup 105 _ = _) (nn (by decide) _ rfl)
                · intro j _ _; exact ok_no_g rfl rfl (rfl : List.lookup 105 _ = _) (nn (by decide) _ rfl)
                · intro j _ _; exact ok_no_g rfl rfl (rfl : List.lookup 105 _ = _) (nn (by decide) _ rfl)
                · intro j _ _; exact ok_no_g rfl rfl (rfl : List.lookup 105 _ = _) (nn (by decide) _ rfl)
                · intro j _ _; exact ok_no_g rfl rfl (rfl : List.lookup 105 _ = _) (nn (by decide) _ rfl)
                · intro j _ _; exact ok_no_g rfl rfl (rfl : List.lookup 105 _ = _) (nn (by decide) _ rfl)
                · intro j _ _; exact ok_do rfl fun a ha => d_pick_f ha rfl (by decide) rfl
                · intro j _ _; exact ok_do rfl fun a ha => d_move ha rfl
                · intro j _ _; exact ok_no_g rfl rfl (rfl : List.lookup 115 _ = _) (nn (by decide) _ rfl)
                · intro j _ _; exact ok_no_g rfl rfl (rfl : List.lookup 115 _ = _) (nn (by decide) _ rfl)
                · intro j _ _; exact ok_no_g rfl rfl (rfl : List.lookup 115 _ = _) (nn (by decide) _ rfl)
                · intro j _ _; exact ok_no_g rfl rfl (rfl : List.lookup 115 _ = _) (nn (by decide) _ rfl)
                · intro j _ _; exact ok_no_g rfl rfl (rfl : List.lookup 115 _ = _) (nn (by decide) _ rfl)
                · intro j _ _; exact ok_do rfl fun a ha => d_pick_f ha rfl (by decide) rfl
                · intro j _ _; exact ok_do rfl fun a ha => d_assign ha rfl
              · have ha : Has 122 [(6, (.bool false))] a := ha.sub ⟨rfl, trivial⟩
                have hS : Has 122 [(6, (.bool false))] _ := ha.sub ⟨rfl, trivial⟩
                cases h
                exact hk98 _ hS
        · clear h
          rintro ⟨x33, w34⟩ a wq o ⟨ha, hwq⟩ h hr39
          obtain rfl : w34 = wq := hwq.symm
          have ha : Has 122 [(11, (.int .i64 x33)), (1, (Sl.v a1)), (5, (.pointer (some p1))), (7, (.pointer v4)), (10, (.int .i64 (IntKind.wrap .i64 v15)))] a := ha
          have h : grapevinelaw09_SectorLasts_l1 p1 v15 v4 x33 w34 = some o := h
          unfold grapevinelaw09_SectorLasts_l1 at h
          refine wp_seq ?_
          refine wp_seq ?_
          obtain ⟨v40, w41, e42, h⟩ := bs2 h
          refine reg_join (n := 122) (L := [(51, (.bool v40)), (1, (Sl.v a1)), (5, (.pointer (some p1))), (7, (.pointer v4)), (10, (.int .i64 (IntKind.wrap .i64 v15))), (11, (.int .i64 x33))]) (w' := w41) (fun a ha => ?_) (fun hk43 => ?_)
          · refine t_n ?_
            replace ha : Has 122 [(1, (Sl.v a1)), (5, (.pointer (some p1))), (7, (.pointer v4)), (10, (.int .i64 (IntKind.wrap .i64 v15))), (11, (.int .i64 x33)), (51, (.bool v40))] _ := ha.sub ⟨rfl, rfl, rfl, rfl, rfl, rfl, trivial⟩
            refine s_cond ha rfl h (fun b47 h => ?_) (fun b47 h => ?_)
            · refine wp_skip ?_
              refine t_n ?_
              replace ha : Has 122 [(1, (Sl.v a1)), (5, (.pointer (some p1))), (7, (.pointer v4)), (10, (.int .i64 (IntKind.wrap .i64 v15))), (11, (.int .i64 x33))] _ := ha.sub ⟨rfl, rfl, rfl, rfl, rfl, trivial⟩
              obtain ⟨w48, e49, h⟩ := bs1 h
              refine seq_join (n := 122) (L := [(1, (Sl.v a1)), (5, (.pointer (some p1))), (7, (.pointer v4)), (10, (.int .i64 (IntKind.wrap .i64 v15))), (11, (.int .i64 x33))]) (w' := w48) (fun a ha => ?_) (fun hk50 => ?_)
              · refine region_lit ?_
                refine s_do rfl ha (ltd rfl) (d_move ha rfl) (fun a ha => ?_)
                refine s_do rfl ha (ltd rfl) (d_add ha rfl rfl) (fun a ha => ?_)
                refine s_do rfl ha (ltd rfl) (d_assign ha rfl) (fun a ha => ?_)
                refine s_nil ?_
                have hS : Has 122 [(11, (.int .i64 (IntKind.wrap .i64 (x33 + 1)))), (1, (Sl.v a1)), (5, (.pointer (some p1))), (7, (.pointer v4)), (10, (.int .i64 (IntKind.wrap .i64 v15)))] _ := ha.sub ⟨rfl, rfl, rfl, rfl, rfl, trivial⟩
                cases h
                exact lp_next ⟨hS, rfl⟩
              · clear h
                have h := e49
                refine wp_block ?_
                refine wp_seq ?_
                obtain ⟨v51, w52, e53, h⟩ := bs2 h
                refine reg_join (n := 122) (L := [(70, (.bool v51)), (1, (Sl.v a1)), (5, (.pointer (some p1))), (7, (.pointer v4)), (10, (.int .i64 (IntKind.wrap .i64 v15))), (11, (.int .i64 x33))]) (w' := w52) (fun a ha => ?_) (fun hk54 => ?_)
                · refine t_n ?_
                  replace ha : Has 122 [(1, (Sl.v a1)), (5, (.pointer (some p1))), (7, (.pointer v4)), (10, (.int .i64 (IntKind.wrap .i64 v15))), (11, (.int .i64 x33)), (70, (.bool v51))] _ := ha.sub ⟨rfl, rfl, rfl, rfl, rfl, rfl, trivial⟩
                  refine s_cond ha rfl h (fun b68 h => ?_) (fun b68 h => ?_)
                  · obtain ⟨w69, e70, h⟩ := bs1 h
                    obtain ⟨v71, e72, h⟩ := bs1 h
                    obtain ⟨p73, e74, h⟩ := bs1 h
                    obtain ⟨v75, e76, h⟩ := bs1 h
                    obtain ⟨v77, e78, h⟩ := bs1 h
                    obtain ⟨p79, e80, h⟩ := bs1 h
                    obtain ⟨v81, e82, h⟩ := bs1 h
                    obtain ⟨v83, w84, e85, h⟩ := bs2 h
                    have ha : Has 122 [(1, (Sl.v a1)), (5, (.pointer (some p1))), (7, (.pointer v4)), (10, (.int .i64 (IntKind.wrap .i64 v15))), (11, (.int .i64 x33)), (70, (.bool v51))] a := ha.sub ⟨rfl, rfl, rfl, rfl, rfl, rfl, trivial⟩
                    refine region_draw (n := 122) (ds := (⟨_, (.pointer v4), false, 0, 0, [], [(7, (.pointer v4))]⟩ :: ⟨_, (.pointer (some (p1.add 1))), false, 0, 0, [], [(5, (.pointer (some p1)))]⟩ :: ⟨_, (Sl.v v71), false, 0, 0, [1], [(72, (.pointer (some (p1.add 1))))]⟩ :: ⟨_, (.int .i64 x33), false, 0, 0, [], [(11, (.int .i64 x33))]⟩ :: ⟨_, (.pointer (some p73)), false, 0, 0, [1, 2, 3], [(73, (Sl.v v71)), (74, (.int .i64 x33))]⟩ :: ⟨_, (.pointer (some (p73.add 1))), false, 0, 0, [1, 2, 3, 4], [(75, (.pointer (some p73)))]⟩ :: ⟨_, (.int .i64 v75), false, 0, 0, [1, 2, 3, 4, 5], [(76, (.pointer (some (p73.add 1))))]⟩ :: ⟨_, (.pointer (some (p1.add 1))), false, 0, 0, [], [(5, (.pointer (some p1)))]⟩ :: ⟨_, (Sl.v v77), false, 0, 0, [7], [(78, (.pointer (some (p1.add 1))))]⟩ :: ⟨_, (.int .i64 x33), false, 0, 0, [], [(11, (.int .i64 x33))]⟩ :: ⟨_, (.pointer (some p79)), false, 0, 0, [7, 8, 9], [(79, (Sl.v v77)), (80, (.int .i64 x33))]⟩ :: ⟨_, (.pointer (some (p79.add 2))), false, 0, 0, [7, 8, 9, 10], [(81, (.pointer (some p79)))]⟩ :: ⟨_, (Sl.v v81), false, 0, 0, [7, 8, 9, 10, 11], [(82, (.pointer (some (p79.add 2))))]⟩ :: ⟨_, (.int .i64 v83), true, 0, 0, (0 :: 1 :: 2 :: 3 :: 4 :: 5 :: 6 :: 7 :: 8 :: 9 :: 10 :: 11 :: 12 :: []), [(71, (.pointer v4)), (77, (.int .i64 v75)), (83, (Sl.v v81))]⟩ :: [])) (W := (fun j => match j with | 0 => w69 | _ => w84)) (by kernel_rfl) ha (dr_w e70) (by kernel_rfl) ?_ (reads_of (by kernel_rfl)) (by kernel_rfl) (m := 1) (by kernel_rfl) (fun a ha => ?_)
                    · refine ⟨?_, ?_, ?_, ?_, ?_, ?_, ?_, ?_, ?_, ?_, ?_, ?_, ?_, ?_, trivial⟩
                      · intro j _ _; exact ok_do rfl fun a ha => d_move ha rfl
                      · intro j _ _; exact ok_do rfl fun a ha => d_fa ha rfl Try.runUnderlying43 rfl rfl Try.sizeOf37 (by decide)
                      · intro j h1 h2; obtain rfl : j = 0 := Nat.le_antisymm h2 h1; exact ok_do rfl fun a ha => d_ld ha rfl Try.isAgg37 (ldL_c e72)
                      · intro j _ _; exact ok_do rfl fun a ha => d_move ha rfl
                      · intro j _ _; exact ok_do rfl fun a ha => d_ix ha rfl rfl Try.runUnderlying37 Try.sizeOf40 e74
                      · intro j _ _; exact ok_do rfl fun a ha => d_fa ha rfl Try.runUnderlying40 rfl rfl Try.sizeOf3 (by decide)
                      · intro j h1 h2; obtain rfl : j = 0 := Nat.le_antisymm h2 h1; exact ok_do rfl fun a ha => d_ld ha rfl Try.isAgg3 (ldI_c e76)
                      · intro j _ _; exact ok_do rfl fun a ha => d_fa ha rfl Try.runUnderlying43 rfl rfl Try.sizeOf37 (by decide)
                      · intro j h1 h2; obtain rfl : j = 0 := Nat.le_antisymm h2 h1; exact ok_do rfl fun a ha => d_ld ha rfl Try.isAgg37 (ldL_c e78)
                      · intro j _ _; exact ok_do rfl fun a ha => d_move ha rfl
                      · intro j _ _; exact ok_do rfl fun a ha => d_ix ha rfl rfl Try.runUnderlying37 Try.sizeOf40 e80
                      · intro j _ _; exact ok_do rfl fun a ha => d_fa ha rfl Try.runUnderlying40 rfl rfl Try.sizeOf29 (by decide)
                      · intro j h1 h2; obtain rfl : j = 0 := Nat.le_antisymm h2 h1; exact ok_do rfl fun a ha => d_ld ha rfl Try.isAgg29 (ldL_c e82)
                      · intro j h1 h2; obtain rfl : j = 0 := Nat.le_antisymm h2 h1; exact ok_do rfl fun a ha => d_call (xs := [_, _, _]) (vs := [(.pointer v4), (.int .i64 v75), (Sl.v v81)]) ha ⟨rfl, rfl, rfl, trivial⟩ Try.call22 (sector_Disk_Write_ok e85)
                    · have ha : Has 122 [(1, (Sl.v a1)), (5, (.pointer (some p1))), (7, (.pointer v4)), (10, (.int .i64 (IntKind.wrap .i64 v15))), (11, (.int .i64 x33))] a := ha.sub ⟨rfl, rfl, rfl, rfl, rfl, trivial⟩
                      refine b_n ?_
                      have hS : Has 122 [(1, (Sl.v a1)), (5, (.pointer (some p1))), (7, (.pointer v4)), (10, (.int .i64 (IntKind.wrap .i64 v15))), (11, (.int .i64 x33))] _ := ha.sub ⟨rfl, rfl, rfl, rfl, rfl, trivial⟩
                      cases h
                      exact hk50 _ hS
                  · refine wp_skip ?_
                    refine b_n ?_
                    have hS : Has 122 [(1, (Sl.v a1)), (5, (.pointer (some p1))), (7, (.pointer v4)), (10, (.int .i64 (IntKind.wrap .i64 v15))), (11, (.int .i64 x33))] _ := ha.sub ⟨rfl, rfl, rfl, rfl, rfl, trivial⟩
                    cases h
                    exact hk50 _ hS
                · clear h
                  have h := e53
                  refine region_lit ?_
                  refine s_do rfl ha (ltd rfl) (d_fa ha rfl Try.runUnderlying43 rfl rfl Try.sizeOf37 (by decide)) (fun a ha => ?_)
                  obtain ⟨v55, e56, h⟩ := bs1 h
                  refine s_do rfl ha (ltd rfl) (d_ld ha rfl Try.isAgg37 (ldL_c e56)) (fun a ha => ?_)
                  refine s_do rfl ha (ltd rfl) (d_move ha rfl) (fun a ha => ?_)
                  obtain ⟨p57, e58, h⟩ := bs1 h
                  refine s_do rfl ha (ltd rfl) (d_ix ha rfl rfl Try.runUnderlying37 Try.sizeOf40 e58) (fun a ha => ?_)
                  refine s_do rfl ha (ltd rfl) (d_fa ha rfl Try.runUnderlying40 rfl rfl Try.sizeOf3 (by decide)) (fun a ha => ?_)
                  obtain ⟨v59, e60, h⟩ := bs1 h
                  refine s_do rfl ha (ltd rfl) (d_ld ha rfl Try.isAgg3 (ldI_c e60)) (fun a ha => ?_)
                  refine s_do rfl ha (ltd rfl) (d_eq ha rfl rfl) (fun a ha => ?_)
                  refine s_do rfl ha (ltd rfl) (d_move ha rfl) (fun a ha => ?_)
                  refine ite_s h (fun b61 h => ?_) (fun b61 h => ?_)
                  · refine s_do_g2 rfl rfl ha (rfl : List.lookup 61 _ = _) b61 (ltd rfl) (d_fa ha rfl Try.runUnderlying43 rfl rfl Try.sizeOf37 (by decide)) (fun a ha => ?_)
                    obtain ⟨v62, e63, h⟩ := bs1 h
                    refine s_do_g2 rfl rfl ha (rfl : List.lookup 61 _ = _) b61 (ltd rfl) (d_ld ha rfl Try.isAgg37 (ldL_c e63)) (fun a ha => ?_)
                    refine s_do_g2 rfl rfl ha (rfl : List.lookup 61 _ = _) b61 (ltd rfl) (d_move ha rfl) (fun a ha => ?_)
                    obtain ⟨p64, e65, h⟩ := bs1 h
                    refine s_do_g2 rfl rfl ha (rfl : List.lookup 61 _ = _) b61 (ltd rfl) (d_ix ha rfl rfl Try.runUnderlying37 Try.sizeOf40 e65) (fun a ha => ?_)
                    refine s_do_g2 rfl rfl ha (rfl : List.lookup 61 _ = _) b61 (ltd rfl) (d_fa ha rfl Try.runUnderlying40 rfl rfl Try.sizeOf3 (by decide)) (fun a ha => ?_)
                    obtain ⟨v66, e67, h⟩ := bs1 h
                    refine s_do_g2 rfl rfl ha (rfl : List.lookup 61 _ = _) b61 (ltd rfl) (d_ld ha rfl Try.isAgg3 (ldI_c e67)) (fun a ha => ?_)
                    refine s_do_g2 rfl rfl ha (rfl : List.lookup 61 _ = _) b61 (ltd rfl) (d_move ha rfl) (fun a ha => ?_)
                    refine s_do_g2 rfl rfl ha (rfl : List.lookup 61 _ = _) b61 (ltd rfl) (d_ne ha rfl rfl) (fun a ha => ?_)
                    refine s_do rfl ha (ltd rfl) (d_pick_t ha rfl b61 rfl) (fun a ha => ?_)
                    refine s_nil ?_
                    have hS : Has 122 [(70, (.bool (v66 != (IntKind.wrap .i64 v15)))), (1, (Sl.v a1)), (5, (.pointer (some p1))), (7, (.pointer v4)), (10, (.int .i64 (IntKind.wrap .i64 v15))), (11, (.int .i64 x33))] _ := ha.sub ⟨rfl, rfl, rfl, rfl, rfl, rfl, trivial⟩
                    cases h
                    exact hk54 _ hS
                  · refine s_no_g rfl rfl ha (rfl : List.lookup 61 _ = _) (nn b61 _ rfl) (ltd rfl) (fun a ha => ?_)
                    refine s_no_g rfl rfl ha (rfl : List.lookup 61 _ = _) (nn b61 _ rfl) (ltd rfl) (fun a ha => ?_)
                    refine s_no_g rfl rfl ha (rfl : List.lookup 61 _ = _) (nn b61 _ rfl) (ltd rfl) (fun a ha => ?_)
                    refine s_no_g rfl rfl ha (rfl : List.lookup 61 _ = _) (nn b61 _ rfl) (ltd rfl) (fun a ha => ?_)
                    refine s_no_g rfl rfl ha (rfl : List.lookup 61 _ = _) (nn b61 _ rfl) (ltd rfl) (fun a ha => ?_)
                    refine s_no_g rfl rfl ha (rfl : List.lookup 61 _ = _) (nn b61 _ rfl) (ltd rfl) (fun a ha => ?_)
                    refine s_no_g rfl rfl ha (rfl : List.lookup 61 _ = _) (nn b61 _ rfl) (ltd rfl) (fun a ha => ?_)
                    refine s_no_g rfl rfl ha (rfl : List.lookup 61 _ = _) (nn b61 _ rfl) (ltd rfl) (fun a ha => ?_)
                    refine s_do rfl ha (ltd rfl) (d_pick_f ha rfl b61 rfl) (fun a ha => ?_)
                    refine s_nil ?_
                    have hS : Has 122 [(70, (.bool false)), (1, (Sl.v a1)), (5, (.pointer (some p1))), (7, (.pointer v4)), (10, (.int .i64 (IntKind.wrap .i64 v15))), (11, (.int .i64 x33))] _ := ha.sub ⟨rfl, rfl, rfl, rfl, rfl, rfl, trivial⟩
                    cases h
                    exact hk54 _ hS
            · refine wp_exit ?_
              refine t_x ?_
              have hS : Has 122 [(1, (Sl.v a1)), (5, (.pointer (some p1))), (7, (.pointer v4)), (10, (.int .i64 (IntKind.wrap .i64 v15)))] _ := ha.sub ⟨rfl, rfl, rfl, rfl, trivial⟩
              cases h
              cases hr39 _ rfl
              refine lp_x ?_
              exact hk38 _ hS
          · clear h
            have h := e42
            refine region_lit ?_
            refine s_do rfl ha (ltd rfl) (d_move ha rfl) (fun a ha => ?_)
            refine s_do rfl ha (ltd rfl) (d_fa ha rfl Try.runUnderlying43 rfl rfl Try.sizeOf37 (by decide)) (fun a ha => ?_)
            obtain ⟨v44, e45, h⟩ := bs1 h
            refine s_do rfl ha (ltd rfl) (d_ld ha rfl Try.isAgg37 (ldL_c e45)) (fun a ha => ?_)
            refine s_do rfl ha (ltd rfl) (d_lenS ha rfl Try.runUnderlying37) (fun a ha => ?_)
            refine s_do rfl ha (ltd rfl) (d_lt ha rfl rfl) (fun a ha => ?_)
            refine s_do rfl ha (ltd rfl) (d_move ha rfl) (fun a ha => ?_)
            refine ite_s h (fun b46 h => ?_) (fun b46 h => ?_)
            · refine s_do_g2 rfl rfl ha (rfl : List.lookup 48 _ = _) b46 (ltd rfl) (d_move ha rfl) (fun a ha => ?_)
              refine s_do_g2 rfl rfl ha (rfl : List.lookup 48 _ = _) b46 (ltd rfl) (d_lt ha rfl rfl) (fun a ha => ?_)
              refine s_do rfl ha (ltd rfl) (d_pick_t ha rfl b46 rfl) (fun a ha => ?_)
              refine s_nil ?_
              have hS : Has 122 [(51, (.bool (decide (x33 < 100)))), (1, (Sl.v a1)), (5, (.pointer (some p1))), (7, (.pointer v4)), (10, (.int .i64 (IntKind.wrap .i64 v15))), (11, (.int .i64 x33))] _ := ha.sub ⟨rfl, rfl, rfl, rfl, rfl, rfl, trivial⟩
              cases h
              exact hk43 _ hS
            · refine s_no_g rfl rfl ha (rfl : List.lookup 48 _ = _) (nn b46 _ rfl) (ltd rfl) (fun a ha => ?_)
              refine s_no_g rfl rfl ha (rfl : List.lookup 48 _ = _) (nn b46 _ rfl) (ltd rfl) (fun a ha => ?_)
              refine s_do rfl ha (ltd rfl) (d_pick_f ha rfl b46 rfl) (fun a ha => ?_)
              refine s_nil ?_
              have hS : Has 122 [(51, (.bool false)), (1, (Sl.v a1)), (5, (.pointer (some p1))), (7, (.pointer v4)), (10, (.int .i64 (IntKind.wrap .i64 v15))), (11, (.int .i64 x33))] _ := ha.sub ⟨rfl, rfl, rfl, rfl, rfl, rfl, trivial⟩
              cases h
              exact hk43 _ hS

noncomputable def grapevineref09_Disk_Sure (a0 : Option Addr) (a1 : Int) (w : World) : Option (Sl × Int × World) :=
  if (a0.isNone) = true then
  (some (Sl.nil, 1, w))
  else
  (bind2 (grapevineref09_Disk_has a0 a1 w) fun v2 w3 =>
  if (!v2) = true then
  (some (Sl.nil, 2, w3))
  else
  (bind2 (bsl w3 5 1 []) fun s6 w7 =>
  (a0).bind fun p9 =>
  (ldL w7 (p9.add 0)).bind fun v11 =>
  (ix v11 a1 1).bind fun p13 =>
  (ldL w7 p13).bind fun v15 =>
  bind2 (apS Try.prog 29 s6 v15 w7) fun s17 w18 =>
  some (s17, 0, w18)))
set_option maxHeartbeats 1000000 in
set_option maxRecDepth 100000 in
theorem grapevineref09_Disk_Sure_ok {a0 : Option Addr} {a1 : Int} {w w' : World} {r0 : Sl} {r1 : Int} (h : grapevineref09_Disk_Sure a0 a1 w = some (r0, r1, w')) : Calls Try.prog 45 #[(.pointer a0), (.int .i64 a1)] w fun e w'' => e = .returned (.tuple #[(Sl.v r0), (.int .i64 r1)]) ∧ w'' = w' := by
  refine calls_dec (n := 21) Try.func45 rfl Try.ntmps45 (by simp) (fun a ha => ?_)
  unfold grapevineref09_Disk_Sure at h
  refine wp_seq ?_
  refine region_lit ?_
  refine s_do rfl ha (ltd rfl) (d_assign ha rfl) (fun a ha => ?_)
  refine s_do rfl ha (ltd rfl) (d_assign ha rfl) (fun a ha => ?_)
  refine s_nil ?_
  refine t_n ?_
  replace ha : Has 21 [(0, (.pointer a0)), (1, (.int .i64 a1))] _ := ha.sub ⟨rfl, rfl, trivial⟩
  refine wp_seq ?_
  refine wp_seq ?_
  refine region_lit ?_
  refine s_do rfl ha (ltd rfl) (d_move ha rfl) (fun a ha => ?_)
  refine s_do rfl ha (ltd rfl) (d_eqN ha rfl rfl Try.runUnderlying44) (fun a ha => ?_)
  refine s_nil ?_
  refine t_n ?_
  replace ha : Has 21 [(0, (.pointer a0)), (1, (.int .i64 a1)), (7, (.bool (a0.isNone)))] _ := ha.sub ⟨rfl, rfl, rfl, trivial⟩
  refine s_cond ha rfl h (fun b1 h => ?_) (fun b1 h => ?_)
  · refine wp_seq ?_
    refine region_lit ?_
    refine s_do rfl ha (ltd rfl) (d_assign ha rfl) (fun a ha => ?_)
    refine s_do rfl ha (ltd rfl) (d_assign ha rfl) (fun a ha => ?_)
    refine s_nil ?_
    refine t_n ?_
    replace ha : Has 21 [(4, (Sl.v Sl.nil)), (5, (.int .i64 1))] _ := ha.sub ⟨rfl, rfl, trivial⟩
    refine wp_ret ?_
    refine t_r ?_
    have hS := ha
    cases h
    exact ret2 Try.results45 hS rfl rfl ⟨rfl, rfl⟩
  · refine wp_skip ?_
    refine t_n ?_
    replace ha : Has 21 [(0, (.pointer a0)), (1, (.int .i64 a1))] _ := ha.sub ⟨rfl, rfl, trivial⟩
    refine wp_seq ?_
    refine wp_seq ?_
    refine region_lit ?_
    refine s_do rfl ha (ltd rfl) (d_move ha rfl) (fun a ha => ?_)
    refine s_do rfl ha (ltd rfl) (d_move ha rfl) (fun a ha => ?_)
    obtain ⟨v2, w3, e4, h⟩ := bs2 h
    refine s_do rfl ha (ltd rfl) (d_call (xs := [_, _]) (vs := [(.pointer a0), (.int .i64 a1)]) ha ⟨rfl, rfl, trivial⟩ Try.call57 (grapevineref09_Disk_has_ok e4)) (fun a ha => ?_)
    refine s_do rfl ha (ltd rfl) (d_not ha rfl) (fun a ha => ?_)
    refine s_nil ?_
    refine t_n ?_
    replace ha : Has 21 [(0, (.pointer a0)), (1, (.int .i64 a1)), (11, (.bool (!v2)))] _ := ha.sub ⟨rfl, rfl, rfl, trivial⟩
    refine s_cond ha rfl h (fun b5 h => ?_) (fun b5 h => ?_)
    · refine wp_seq ?_
      refine region_lit ?_
      refine s_do rfl ha (ltd rfl) (d_assign ha rfl) (fun a ha => ?_)
      refine s_do rfl ha (ltd rfl) (d_assign ha rfl) (fun a ha => ?_)
      refine s_nil ?_
      refine t_n ?_
      replace ha : Has 21 [(4, (Sl.v Sl.nil)), (5, (.int .i64 2))] _ := ha.sub ⟨rfl, rfl, trivial⟩
      refine wp_ret ?_
      refine t_r ?_
      have hS := ha
      cases h
      exact ret2 Try.results45 hS rfl rfl ⟨rfl, rfl⟩
    · refine wp_skip ?_
      refine t_n ?_
      replace ha : Has 21 [(0, (.pointer a0)), (1, (.int .i64 a1))] _ := ha.sub ⟨rfl, rfl, trivial⟩
      refine wp_seq ?_
      refine region_lit ?_
      obtain ⟨s6, w7, e8, h⟩ := bs2 h
      refine s_do rfl ha (ltd rfl) (d_bsl (vs := []) (ps := []) ha trivial trivial rfl Try.runUnderlying29 Try.sizeOf5 Try.zeroValue5 (by decide) e8) (fun a ha => ?_)
      refine s_do rfl ha (ltd rfl) (d_move ha rfl) (fun a ha => ?_)
      obtain ⟨p9, e10, h⟩ := bs1 h
      refine s_do rfl ha (ltd rfl) (d_nilp ha rfl e10) (fun a ha => ?_)
      refine s_do rfl ha (ltd rfl) (d_fa ha rfl Try.runUnderlying95 rfl rfl Try.sizeOf92 (by decide)) (fun a ha => ?_)
      obtain ⟨v11, e12, h⟩ := bs1 h
      refine s_do rfl ha (ltd rfl) (d_ld ha rfl Try.isAgg92 (ldL_c e12)) (fun a ha => ?_)
      refine s_do rfl ha (ltd rfl) (d_move ha rfl) (fun a ha => ?_)
      obtain ⟨p13, e14, h⟩ := bs1 h
      refine s_do rfl ha (ltd rfl) (d_ix ha rfl rfl Try.runUnderlying92 Try.sizeOf29 e14) (fun a ha => ?_)
      obtain ⟨v15, e16, h⟩ := bs1 h
      refine s_do rfl ha (ltd rfl) (d_ld ha rfl Try.isAgg29 (ldL_c e16)) (fun a ha => ?_)
      obtain ⟨s17, w18, e19, h⟩ := bs2 h
      refine s_do rfl ha (ltd rfl) (d_apS ha rfl rfl e19) (fun a ha => ?_)
      refine s_do rfl ha (ltd rfl) (d_assign ha rfl) (fun a ha => ?_)
      refine s_do rfl ha (ltd rfl) (d_assign ha rfl) (fun a ha => ?_)
      refine s_nil ?_
      refine t_n ?_
      replace ha : Has 21 [(4, (Sl.v s17)), (5, (.int .i64 0))] _ := ha.sub ⟨rfl, rfl, trivial⟩
      refine wp_ret ?_
      have hS := ha
      cases h
      exact ret2 Try.results45 hS rfl rfl ⟨rfl, rfl⟩

noncomputable def grapevinelaw09_same_l1 (a1 : Option Addr) (a0 : Option Addr) (x43 : Int) (w44 : World) : Option ((Int × World) ⊕ ((World) ⊕ (Bool × World))) :=
  (a1).bind fun p53 =>
  (ldL w44 (p53.add 0)).bind fun v55 =>
  if (decide (x43 ≤ (v55.n : Int))) = true then
  (bind3 (sector_Disk_Read a0 x43 w44) fun v58 v59 w60 =>
  bind3 (grapevineref09_Disk_Read a1 x43 w60) fun v62 v63 w64 =>
  bind3 (sector_Disk_Sure a0 x43 w64) fun v66 v67 w68 =>
  bind3 (grapevineref09_Disk_Sure a1 x43 w68) fun v70 v71 w72 =>
  bind2 ((b2s v58 w72).bind fun s78 =>
  (b2s v62 w72).bind fun s80 =>
  if (!sEq s78 s80) = true then
  (some (true, w72))
  else
  (if (v59 != v63) = true then
  (some (true, w72))
  else
  ((b2s v66 w72).bind fun s84 =>
  (b2s v70 w72).bind fun s86 =>
  if (!sEq s84 s86) = true then
  (some (true, w72))
  else
  (some ((v67 != v71), w72))))) fun v74 w75 =>
  if v74 = true then
  (some (.inr (.inr (false, w75))))
  else
  (some (.inl ((IntKind.wrap .i64 (x43 + 1)), w75))))
  else
  (some (.inr (.inl w44)))
noncomputable def grapevinelaw09_same (a0 : Option Addr) (a1 : Option Addr) (w : World) : Option (Bool × World) :=
  bind2 ((dr w).bind fun w5 =>
  bind2 (sector_Disk_Down a0 w5) fun v7 w8 =>
  (a1).bind fun p10 =>
  (ldB w8 (p10.add 3)).bind fun v12 =>
  if (v7 != v12) = true then
  (chk (ldB w5 (p10.add 3) = some v12) <|
  some (true, w8))
  else
  (bind2 (sector_Disk_Waits a0 w8) fun v16 w17 =>
  (ldL w17 (p10.add 1)).bind fun v19 =>
  if (v16 != (v19.n : Int)) = true then
  (chk (ldB w5 (p10.add 3) = some v12) <|
  chk (ldL w8 (p10.add 1) = some v19) <|
  some (true, w17))
  else
  (bind2 (sector_Disk_Size a0 w17) fun v24 w25 =>
  (ldL w25 (p10.add 0)).bind fun v27 =>
  if (v24 != (v27.n : Int)) = true then
  (chk (ldB w5 (p10.add 3) = some v12) <|
  chk (ldL w8 (p10.add 1) = some v19) <|
  chk (ldL w17 (p10.add 0) = some v27) <|
  some (true, w25))
  else
  (bind2 (sector_Disk_Age a0 w25) fun v33 w34 =>
  (ldI .i64 w34 (p10.add 4)).bind fun v36 =>
  chk (ldB w5 (p10.add 3) = some v12) <|
  chk (ldL w8 (p10.add 1) = some v19) <|
  chk (ldL w17 (p10.add 0) = some v27) <|
  chk (ldI .i64 w25 (p10.add 4) = some v36) <|
  some ((v33 != v36), w34))))) fun v1 w2 =>
  if v1 = true then
  (some (false, w2))
  else
  ((loopF (fun s : Int × World => grapevinelaw09_same_l1 a1 a0 s.1 s.2) ((-1), w2)).bind fun r45 => Sum.elim (fun (i : World) => u1 i fun w47 =>
  some (true, w47)) (fun (i : Bool × World) => u2 i fun v48 w49 =>
  some (v48, w49)) r45)
set_option maxHeartbeats 1000000 in
set_option maxRecDepth 100000 in
theorem grapevinelaw09_same_ok {a0 : Option Addr} {a1 : Option Addr} {w w' : World} {r0 : Bool} (h : grapevinelaw09_same a0 a1 w = some (r0, w')) : Calls Try.prog 30 #[(.pointer a0), (.pointer a1)] w fun e w'' => e = .returned (.bool r0) ∧ w'' = w' := by
  refine calls_dec (n := 105) Try.func30 rfl Try.ntmps30 (by simp) (fun a ha => ?_)
  unfold grapevinelaw09_same at h
  refine wp_seq ?_
  refine region_lit ?_
  refine s_do rfl ha (ltd rfl) (d_assign ha rfl) (fun a ha => ?_)
  refine s_nil ?_
  refine t_n ?_
  replace ha : Has 105 [(0, (.pointer a0)), (1, (.pointer a1))] _ := ha.sub ⟨rfl, rfl, trivial⟩
  refine wp_seq ?_
  refine wp_seq ?_
  obtain ⟨v1, w2, e3, h⟩ := bs2 h
  refine reg_join (n := 105) (L := [(49, (.bool v1)), (0, (.pointer a0)), (1, (.pointer a1))]) (w' := w2) (fun a ha => ?_) (fun hk4 => ?_)
  · refine t_n ?_
    replace ha : Has 105 [(0, (.pointer a0)), (1, (.pointer a1)), (49, (.bool v1))] _ := ha.sub ⟨rfl, rfl, rfl, trivial⟩
    refine s_cond ha rfl h (fun b42 h => ?_) (fun b42 h => ?_)
    · refine wp_seq ?_
      refine region_lit ?_
      refine s_do rfl ha (ltd rfl) (d_assign ha rfl) (fun a ha => ?_)
      refine s_nil ?_
      refine t_n ?_
      replace ha : Has 105 [(4, (.bool false))] _ := ha.sub ⟨rfl, trivial⟩
      refine wp_ret ?_
      refine t_r ?_
      have hS := ha
      cases h
      exact ret1 Try.results30 hS rfl ⟨rfl, rfl⟩
    · refine wp_skip ?_
      refine t_n ?_
      replace ha : Has 105 [(0, (.pointer a0)), (1, (.pointer a1))] _ := ha.sub ⟨rfl, rfl, trivial⟩
      refine wp_seq ?_
      refine wp_seq ?_
      refine region_lit ?_
      refine s_do rfl ha (ltd rfl) (d_assign ha rfl) (fun a ha => ?_)
      refine s_nil ?_
      refine t_n ?_
      replace ha : Has 105 [(0, (.pointer a0)), (1, (.pointer a1)), (5, (.int .i64 (-1)))] _ := ha.sub ⟨rfl, rfl, rfl, trivial⟩
      refine wp_block ?_
      obtain ⟨r45, e46, h⟩ := bs1 h
      refine s_loop2 (n := 105) (L1 := fun i => []) (w1 := fun i => i) (L2 := fun i => [(4, (.bool i.1))]) (w2 := fun i => i.2) (e1 := .exit 0) (e2 := .ret) (I := fun (s : Int × World) a w => Has 105 [(5, (.int .i64 s.1)), (0, (.pointer a0)), (1, (.pointer a1))] a ∧ w = s.2) ⟨ha.sub ⟨rfl, rfl, rfl, trivial⟩, rfl⟩ e46 (fun i hi a ha => ?_) (fun i hi a ha => ?_) (fun hk50 hk51 => ?_)
      · subst hi
        obtain w47 := i
        dsimp only [Sum.elim_inl, Sum.elim_inr, u1, u2, u3, u4, u5, u6] at h
        have ha : Has 105 [] a := ha
        refine b_hit ?_
        refine t_n ?_
        replace ha : Has 105 [] _ := ha.sub trivial
        refine wp_seq ?_
        refine region_lit ?_
        refine s_do rfl ha (ltd rfl) (d_assign ha rfl) (fun a ha => ?_)
        refine s_nil ?_
        refine t_n ?_
        replace ha : Has 105 [(4, (.bool true))] _ := ha.sub ⟨rfl, trivial⟩
        refine wp_ret ?_
        have hS := ha
        cases h
        exact ret1 Try.results30 hS rfl ⟨rfl, rfl⟩
      · subst hi
        obtain ⟨v48, w49⟩ := i
        dsimp only [Sum.elim_inl, Sum.elim_inr, u1, u2, u3, u4, u5, u6] at h
        have ha : Has 105 [(4, (.bool v48))] a := ha
        refine b_r ?_
        refine t_r ?_
        have hS := ha
        cases h
        exact ret1 Try.results30 hS rfl ⟨rfl, rfl⟩
      · clear h
        rintro ⟨x43, w44⟩ a wq o ⟨ha, hwq⟩ h hr52
        obtain rfl : w44 = wq := hwq.symm
        have ha : Has 105 [(5, (.int .i64 x43)), (0, (.pointer a0)), (1, (.pointer a1))] a := ha
        have h : grapevinelaw09_same_l1 a1 a0 x43 w44 = some o := h
        unfold grapevinelaw09_same_l1 at h
        refine wp_seq ?_
        refine wp_seq ?_
        refine region_lit ?_
        refine s_do rfl ha (ltd rfl) (d_move ha rfl) (fun a ha => ?_)
        refine s_do rfl ha (ltd rfl) (d_move ha rfl) (fun a ha => ?_)
        obtain ⟨p53, e54, h⟩ := bs1 h
        refine s_do rfl ha (ltd rfl) (d_nilp ha rfl e54) (fun a ha => ?_)
        refine s_do rfl ha (ltd rfl) (d_fa ha rfl Try.runUnderlying95 rfl rfl Try.sizeOf92 (by decide)) (fun a ha => ?_)
        obtain ⟨v55, e56, h⟩ := bs1 h
        refine s_do rfl ha (ltd rfl) (d_ld ha rfl Try.isAgg92 (ldL_c e56)) (fun a ha => ?_)
        refine s_do rfl ha (ltd rfl) (d_lenS ha rfl Try.runUnderlying92) (fun a ha => ?_)
        refine s_do rfl ha (ltd rfl) (d_le ha rfl rfl) (fun a ha => ?_)
        refine s_nil ?_
        refine t_n ?_
        replace ha : Has 105 [(0, (.pointer a0)), (1, (.pointer a1)), (5, (.int .i64 x43)), (56, (.bool (decide (x43 ≤ (v55.n : Int)))))] _ := ha.sub ⟨rfl, rfl, rfl, rfl, trivial⟩
        refine s_cond ha rfl h (fun b57 h => ?_) (fun b57 h => ?_)
        · refine wp_skip ?_
          refine t_n ?_
          replace ha : Has 105 [(0, (.pointer a0)), (1, (.pointer a1)), (5, (.int .i64 x43))] _ := ha.sub ⟨rfl, rfl, rfl, trivial⟩
          refine wp_seq ?_
          refine wp_block ?_
          refine wp_seq ?_
          refine region_lit ?_
          refine s_do rfl ha (ltd rfl) (d_move ha rfl) (fun a ha => ?_)
          refine s_do rfl ha (ltd rfl) (d_move ha rfl) (fun a ha => ?_)
          obtain ⟨v58, v59, w60, e61, h⟩ := bs3 h
          refine s_do rfl ha (ltd rfl) (d_call (xs := [_, _]) (vs := [(.pointer a0), (.int .i64 x43)]) ha ⟨rfl, rfl, trivial⟩ Try.call25 (sector_Disk_Read_ok e61)) (fun a ha => ?_)
          refine s_do rfl ha (ltd rfl) (d_move ha rfl) (fun a ha => ?_)
          refine s_do rfl ha (ltd rfl) (d_ext ha rfl rfl) (fun a ha => ?_)
          refine s_do rfl ha (ltd rfl) (d_ext ha rfl rfl) (fun a ha => ?_)
          refine s_do rfl ha (ltd rfl) (d_assign ha rfl) (fun a ha => ?_)
          refine s_do rfl ha (ltd rfl) (d_assign ha rfl) (fun a ha => ?_)
          refine s_nil ?_
          refine t_n ?_
          replace ha : Has 105 [(0, (.pointer a0)), (1, (.pointer a1)), (5, (.int .i64 x43)), (6, (Sl.v v58)), (7, (.int .i64 v59))] _ := ha.sub ⟨rfl, rfl, rfl, rfl, rfl, trivial⟩
          refine wp_seq ?_
          refine region_lit ?_
          refine s_do rfl ha (ltd rfl) (d_move ha rfl) (fun a ha => ?_)
          refine s_do rfl ha (ltd rfl) (d_move ha rfl) (fun a ha => ?_)
          obtain ⟨v62, v63, w64, e65, h⟩ := bs3 h
          refine s_do rfl ha (ltd rfl) (d_call (xs := [_, _]) (vs := [(.pointer a1), (.int .i64 x43)]) ha ⟨rfl, rfl, trivial⟩ Try.call44 (grapevineref09_Disk_Read_ok e65)) (fun a ha => ?_)
          refine s_do rfl ha (ltd rfl) (d_move ha rfl) (fun a ha => ?_)
          refine s_do rfl ha (ltd rfl) (d_ext ha rfl rfl) (fun a ha => ?_)
          refine s_do rfl ha (ltd rfl) (d_ext ha rfl rfl) (fun a ha => ?_)
          refine s_do rfl ha (ltd rfl) (d_assign ha rfl) (fun a ha => ?_)
          refine s_do rfl ha (ltd rfl) (d_assign ha rfl) (fun a ha => ?_)
          refine s_nil ?_
          refine t_n ?_
          replace ha : Has 105 [(0, (.pointer a0)), (1, (.pointer a1)), (5, (.int .i64 x43)), (6, (Sl.v v58)), (7, (.int .i64 v59)), (8, (Sl.v v62)), (9, (.int .i64 v63))] _ := ha.sub ⟨rfl, rfl, rfl, rfl, rfl, rfl, rfl, trivial⟩
          refine wp_seq ?_
          refine region_lit ?_
          refine s_do rfl ha (ltd rfl) (d_move ha rfl) (fun a ha => ?_)
          refine s_do rfl ha (ltd rfl) (d_move ha rfl) (fun a ha => ?_)
          obtain ⟨v66, v67, w68, e69, h⟩ := bs3 h
          refine s_do rfl ha (ltd rfl) (d_call (xs := [_, _]) (vs := [(.pointer a0), (.int .i64 x43)]) ha ⟨rfl, rfl, trivial⟩ Try.call24 (sector_Disk_Sure_ok e69)) (fun a ha => ?_)
          refine s_do rfl ha (ltd rfl) (d_move ha rfl) (fun a ha => ?_)
          refine s_do rfl ha (ltd rfl) (d_ext ha rfl rfl) (fun a ha => ?_)
          refine s_do rfl ha (ltd rfl) (d_ext ha rfl rfl) (fun a ha => ?_)
          refine s_do rfl ha (ltd rfl) (d_assign ha rfl) (fun a ha => ?_)
          refine s_do rfl ha (ltd rfl) (d_assign ha rfl) (fun a ha => ?_)
          refine s_nil ?_
          refine t_n ?_
          replace ha : Has 105 [(0, (.pointer a0)), (1, (.pointer a1)), (5, (.int .i64 x43)), (6, (Sl.v v58)), (7, (.int .i64 v59)), (8, (Sl.v v62)), (9, (.int .i64 v63)), (10, (Sl.v v66)), (11, (.int .i64 v67))] _ := ha.sub ⟨rfl, rfl, rfl, rfl, rfl, rfl, rfl, rfl, rfl, trivial⟩
          refine wp_seq ?_
          refine region_lit ?_
          refine s_do rfl ha (ltd rfl) (d_move ha rfl) (fun a ha => ?_)
          refine s_do rfl ha (ltd rfl) (d_move ha rfl) (fun a ha => ?_)
          obtain ⟨v70, v71, w72, e73, h⟩ := bs3 h
          refine s_do rfl ha (ltd rfl) (d_call (xs := [_, _]) (vs := [(.pointer a1), (.int .i64 x43)]) ha ⟨rfl, rfl, trivial⟩ Try.call45 (grapevineref09_Disk_Sure_ok e73)) (fun a ha => ?_)
          refine s_do rfl ha (ltd rfl) (d_move ha rfl) (fun a ha => ?_)
          refine s_do rfl ha (ltd rfl) (d_ext ha rfl rfl) (fun a ha => ?_)
          refine s_do rfl ha (ltd rfl) (d_ext ha rfl rfl) (fun a ha => ?_)
          refine s_do rfl ha (ltd rfl) (d_assign ha rfl) (fun a ha => ?_)
          refine s_do rfl ha (ltd rfl) (d_assign ha rfl) (fun a ha => ?_)
          refine s_nil ?_
          refine t_n ?_
          replace ha : Has 105 [(0, (.pointer a0)), (1, (.pointer a1)), (5, (.int .i64 x43)), (6, (Sl.v v58)), (7, (.int .i64 v59)), (8, (Sl.v v62)), (9, (.int .i64 v63)), (10, (Sl.v v66)), (11, (.int .i64 v67)), (12, (Sl.v v70)), (13, (.int .i64 v71))] _ := ha.sub ⟨rfl, rfl, rfl, rfl, rfl, rfl, rfl, rfl, rfl, rfl, rfl, trivial⟩
          refine wp_seq ?_
          obtain ⟨v74, w75, e76, h⟩ := bs2 h
          refine reg_join (n := 105) (L := [(104, (.bool v74)), (0, (.pointer a0)), (1, (.pointer a1)), (5, (.int .i64 x43))]) (w' := w75) (fun a ha => ?_) (fun hk77 => ?_)
          · refine t_n ?_
            replace ha : Has 105 [(0, (.pointer a0)), (1, (.pointer a1)), (5, (.int .i64 x43)), (104, (.bool v74))] _ := ha.sub ⟨rfl, rfl, rfl, rfl, trivial⟩
            refine s_cond ha rfl h (fun b89 h => ?_) (fun b89 h => ?_)
            · refine wp_seq ?_
              refine region_lit ?_
              refine s_do rfl ha (ltd rfl) (d_assign ha rfl) (fun a ha => ?_)
              refine s_nil ?_
              refine t_n ?_
              replace ha : Has 105 [(4, (.bool false))] _ := ha.sub ⟨rfl, trivial⟩
              refine wp_ret ?_
              refine b_r ?_
              refine t_r ?_
              have hS : Has 105 [(4, (.bool false))] _ := ha.sub ⟨rfl, trivial⟩
              cases h
              cases hr52 _ rfl
              refine lp_r ?_
              exact hk51 _ rfl _ hS
            · refine wp_skip ?_
              refine b_n ?_
              refine t_n ?_
              replace ha : Has 105 [(0, (.pointer a0)), (1, (.pointer a1)), (5, (.int .i64 x43))] _ := ha.sub ⟨rfl, rfl, rfl, trivial⟩
              refine region_lit ?_
              refine s_do rfl ha (ltd rfl) (d_move ha rfl) (fun a ha => ?_)
              refine s_do rfl ha (ltd rfl) (d_add ha rfl rfl) (fun a ha => ?_)
              refine s_do rfl ha (ltd rfl) (d_assign ha rfl) (fun a ha => ?_)
              refine s_nil ?_
              have hS : Has 105 [(5, (.int .i64 (IntKind.wrap .i64 (x43 + 1)))), (0, (.pointer a0)), (1, (.pointer a1))] _ := ha.sub ⟨rfl, rfl, rfl, trivial⟩
              cases h
              exact lp_next ⟨hS, rfl⟩
          · clear h
            have h := e76
            refine region_lit ?_
            refine s_do rfl ha (ltd rfl) (d_move ha rfl) (fun a ha => ?_)
            obtain ⟨s78, e79, h⟩ := bs1 h
            refine s_do rfl ha (ltd rfl) (d_b2s ha rfl Try.runUnderlying29 Try.runUnderlying9 Try.runUnderlying5 e79) (fun a ha => ?_)
            refine s_do rfl ha (ltd rfl) (d_move ha rfl) (fun a ha => ?_)
            obtain ⟨s80, e81, h⟩ := bs1 h
            refine s_do rfl ha (ltd rfl) (d_b2s ha rfl Try.runUnderlying29 Try.runUnderlying9 Try.runUnderlying5 e81) (fun a ha => ?_)
            refine s_do rfl ha (ltd rfl) (d_neT ha rfl rfl) (fun a ha => ?_)
            refine s_do rfl ha (ltd rfl) (d_move ha rfl) (fun a ha => ?_)
            refine ite_s h (fun b82 h => ?_) (fun b82 h => ?_)
            · refine s_no_g rfl rfl ha (rfl : List.lookup 88 _ = _) (tn b82) (ltd rfl) (fun a ha => ?_)
              refine s_no_g rfl rfl ha (rfl : List.lookup 88 _ = _) (tn b82) (ltd rfl) (fun a ha => ?_)
              refine s_no_g rfl rfl ha (rfl : List.lookup 88 _ = _) (tn b82) (ltd rfl) (fun a ha => ?_)
              refine s_do rfl ha (ltd rfl) (d_pick_t ha rfl b82 rfl) (fun a ha => ?_)
              refine s_do rfl ha (ltd rfl) (d_move ha rfl) (fun a ha => ?_)
              refine s_no_g rfl rfl ha (rfl : List.lookup 93 _ = _) (tn rfl) (ltd rfl) (fun a ha => ?_)
              refine s_no_g rfl rfl ha (rfl : List.lookup 93 _ = _) (tn rfl) (ltd rfl) (fun a ha => ?_)
              refine s_no_g rfl rfl ha (rfl : List.lookup 93 _ = _) (tn rfl) (ltd rfl) (fun a ha => ?_)
              refine s_no_g rfl rfl ha (rfl : List.lookup 93 _ = _) (tn rfl) (ltd rfl) (fun a ha => ?_)
              refine s_no_g rfl rfl ha (rfl : List.lookup 93 _ = _) (tn rfl) (ltd rfl) (fun a ha => ?_)
              refine s_do rfl ha (ltd rfl) (d_pick_t ha rfl rfl rfl) (fun a ha => ?_)
              refine s_do rfl ha (ltd rfl) (d_move ha rfl) (fun a ha => ?_)
              refine s_no_g rfl rfl ha (rfl : List.lookup 100 _ = _) (tn rfl) (ltd rfl) (fun a ha => ?_)
              refine s_no_g rfl rfl ha (rfl : List.lookup 100 _ = _) (tn rfl) (ltd rfl) (fun a ha => ?_)
              refine s_no_g rfl rfl ha (rfl : List.lookup 100 _ = _) (tn rfl) (ltd rfl) (fun a ha => ?_)
              refine s_do rfl ha (ltd rfl) (d_pick_t ha rfl rfl rfl) (fun a ha => ?_)
              refine s_nil ?_
              have hS : Has 105 [(104, (.bool true)), (0, (.pointer a0)), (1, (.pointer a1)), (5, (.int .i64 x43))] _ := ha.sub ⟨rfl, rfl, rfl, rfl, trivial⟩
              cases h
              exact hk77 _ hS
            · refine s_do_g2 rfl rfl ha (rfl : List.lookup 88 _ = _) (nt b82) (ltd rfl) (d_move ha rfl) (fun a ha => ?_)
              refine s_do_g2 rfl rfl ha (rfl : List.lookup 88 _ = _) (nt b82) (ltd rfl) (d_move ha rfl) (fun a ha => ?_)
              refine s_do_g2 rfl rfl ha (rfl : List.lookup 88 _ = _) (nt b82) (ltd rfl) (d_ne ha rfl rfl) (fun a ha => ?_)
              refine s_do rfl ha (ltd rfl) (d_pick_f ha rfl b82 rfl) (fun a ha => ?_)
              refine s_do rfl ha (ltd rfl) (d_move ha rfl) (fun a ha => ?_)
              refine ite_s h (fun b83 h => ?_) (fun b83 h => ?_)
              · refine s_no_g rfl rfl ha (rfl : List.lookup 93 _ = _) (tn b83) (ltd rfl) (fun a ha => ?_)
                refine s_no_g rfl rfl ha (rfl : List.lookup 93 _ = _) (tn b83) (ltd rfl) (fun a ha => ?_)
                refine s_no_g rfl rfl ha (rfl : List.lookup 93 _ = _) (tn b83) (ltd rfl) (fun a ha => ?_)
                refine s_no_g rfl rfl ha (rfl : List.lookup 93 _ = _) (tn b83) (ltd rfl) (fun a ha => ?_)
                refine s_no_g rfl rfl ha (rfl : List.lookup 93 _ = _) (tn b83) (ltd rfl) (fun a ha => ?_)
                refine s_do rfl ha (ltd rfl) (d_pick_t ha rfl b83 rfl) (fun a ha => ?_)
                refine s_do rfl ha (ltd rfl) (d_move ha rfl) (fun a ha => ?_)
                refine s_no_g rfl rfl ha (rfl : List.lookup 100 _ = _) (tn rfl) (ltd rfl) (fun a ha => ?_)
                refine s_no_g rfl rfl ha (rfl : List.lookup 100 _ = _) (tn rfl) (ltd rfl) (fun a ha => ?_)
                refine s_no_g rfl rfl ha (rfl : List.lookup 100 _ = _) (tn rfl) (ltd rfl) (fun a ha => ?_)
                refine s_do rfl ha (ltd rfl) (d_pick_t ha rfl rfl rfl) (fun a ha => ?_)
                refine s_nil ?_
                have hS : Has 105 [(104, (.bool true)), (0, (.pointer a0)), (1, (.pointer a1)), (5, (.int .i64 x43))] _ := ha.sub ⟨rfl, rfl, rfl, rfl, trivial⟩
                cases h
                exact hk77 _ hS
              · refine s_do_g2 rfl rfl ha (rfl : List.lookup 93 _ = _) (nt b83) (ltd rfl) (d_move ha rfl) (fun a ha => ?_)
                obtain ⟨s84, e85, h⟩ := bs1 h
                refine s_do_g2 rfl rfl ha (rfl : List.lookup 93 _ = _) (nt b83) (ltd rfl) (d_b2s ha rfl Try.runUnderlying29 Try.runUnderlying9 Try.runUnderlying5 e85) (fun a ha => ?_)
                refine s_do_g2 rfl rfl ha (rfl : List.lookup 93 _ = _) (nt b83) (ltd rfl) (d_move ha rfl) (fun a ha => ?_)
                obtain ⟨s86, e87, h⟩ := bs1 h
                refine s_do_g2 rfl rfl ha (rfl : List.lookup 93 _ = _) (nt b83) (ltd rfl) (d_b2s ha rfl Try.runUnderlying29 Try.runUnderlying9 Try.runUnderlying5 e87) (fun a ha => ?_)
                refine s_do_g2 rfl rfl ha (rfl : List.lookup 93 _ = _) (nt b83) (ltd rfl) (d_neT ha rfl rfl) (fun a ha => ?_)
                refine s_do rfl ha (ltd rfl) (d_pick_f ha rfl b83 rfl) (fun a ha => ?_)
                refine s_do rfl ha (ltd rfl) (d_move ha rfl) (fun a ha => ?_)
                refine ite_s h (fun b88 h => ?_) (fun b88 h => ?_)
                · refine s_no_g rfl rfl ha (rfl : List.lookup 100 _ = _) (tn b88) (ltd rfl) (fun a ha => ?_)
                  refine s_no_g rfl rfl ha (rfl : List.lookup 100 _ = _) (tn b88) (ltd rfl) (fun a ha => ?_)
                  refine s_no_g rfl rfl ha (rfl : List.lookup 100 _ = _) (tn b88) (ltd rfl) (fun a ha => ?_)
                  refine s_do rfl ha (ltd rfl) (d_pick_t ha rfl b88 rfl) (fun a ha => ?_)
                  refine s_nil ?_
                  have hS : Has 105 [(104, (.bool true)), (0, (.pointer a0)), (1, (.pointer a1)), (5, (.int .i64 x43))] _ := ha.sub ⟨rfl, rfl, rfl, rfl, trivial⟩
                  cases h
                  exact hk77 _ hS
                · refine s_do_g2 rfl rfl ha (rfl : List.lookup 100 _ = _) (nt b88) (ltd rfl) (d_move ha rfl) (fun a ha => ?_)
                  refine s_do_g2 rfl rfl ha (rfl : List.lookup 100 _ = _) (nt b88) (ltd rfl) (d_move ha rfl) (fun a ha => ?_)
                  refine s_do_g2 rfl rfl ha (rfl : List.lookup 100 _ = _) (nt b88) (ltd rfl) (d_ne ha rfl rfl) (fun a ha => ?_)
                  refine s_do rfl ha (ltd rfl) (d_pick_f ha rfl b88 rfl) (fun a ha => ?_)
                  refine s_nil ?_
                  have hS : Has 105 [(104, (.bool (v67 != v71))), (0, (.pointer a0)), (1, (.pointer a1)), (5, (.int .i64 x43))] _ := ha.sub ⟨rfl, rfl, rfl, rfl, trivial⟩
                  cases h
                  exact hk77 _ hS
        · refine wp_exit ?_
          refine t_x ?_
          have hS : Has 105 [] _ := ha.sub trivial
          cases h
          cases hr52 _ rfl
          refine lp_x ?_
          exact hk50 _ rfl _ hS
  · clear h
    have h := e3
    obtain ⟨w5, e6, h⟩ := bs1 h
    obtain ⟨v7, w8, e9, h⟩ := bs2 h
    obtain ⟨p10, e11, h⟩ := bs1 h
    obtain ⟨v12, e13, h⟩ := bs1 h
    refine ite_s h (fun b14 h => ?_) (fun b14 h => ?_)
    · obtain ⟨e15, h⟩ := chk_some h
      have ha : Has 105 [(0, (.pointer a0)), (1, (.pointer a1))] a := ha.sub ⟨rfl, rfl, trivial⟩
      refine region_draw (n := 105) (ds := (⟨_, (.pointer a0), false, 0, 0, [], [(0, (.pointer a0))]⟩ :: ⟨_, (.bool v7), true, 0, 0, [0], [(14, (.pointer a0))]⟩ :: ⟨_, (.pointer a1), false, 0, 1, [], [(1, (.pointer a1))]⟩ :: ⟨_, (.pointer (some p10)), false, 0, 1, [2], [(16, (.pointer a1))]⟩ :: ⟨_, (.pointer (some (p10.add 3))), false, 0, 1, [2, 3], [(17, (.pointer (some p10)))]⟩ :: ⟨_, (.bool v12), false, 0, 1, [2, 3, 4], [(18, (.pointer (some (p10.add 3))))]⟩ :: ⟨_, (.bool (v7 != v12)), false, 1, 1, [0, 1, 2, 3, 4, 5], [(15, (.bool v7)), (19, (.bool v12))]⟩ :: ⟨_, (.bool (v7 != v12)), false, 1, 1, [0, 1, 2, 3, 4, 5, 6], [(20, (.bool (v7 != v12)))]⟩ :: ⟨_, undef, false, 1, 1, [0, 1, 2, 3, 4, 5, 6, 7], [(21, (.bool (v7 != v12)))]⟩ :: ⟨_, undef, false, 1, 1, [0, 1, 2, 3, 4, 5, 6, 7, 8], [(21, (.bool (v7 != v12)))]⟩ :: ⟨_, undef, false, 1, 1, [0, 1, 2, 3, 4, 5, 6, 7], [(21, (.bool (v7 != v12)))]⟩ :: ⟨_, undef, false, 1, 1, [0, 1, 2, 3, 4, 5, 6, 7, 10], [(21, (.bool (v7 != v12)))]⟩ :: ⟨_, undef, false, 1, 1, [0, 1, 2, 3, 4, 5, 6, 7, 10, 11], [(21, (.bool (v7 != v12)))]⟩ :: ⟨_, undef, false, 1, 1, [0, 1, 2, 3, 4, 5, 6, 7, 10, 11, 12], [(21, (.bool (v7 != v12)))]⟩ :: ⟨_, undef, false, 1, 1, [0, 1, 2, 3, 4, 5, 6, 7, 10, 11, 12, 13], [(21, (.bool (v7 != v12)))]⟩ :: ⟨_, undef, false, 1, 1, (0 :: 1 :: 2 :: 3 :: 4 :: 5 :: 6 :: 7 :: 8 :: 9 :: 10 :: 11 :: 12 :: 13 :: 14 :: []), [(21, (.bool (v7 != v12)))]⟩ :: ⟨_, (.bool true), false, 1, 1, (0 :: 1 :: 2 :: 3 :: 4 :: 5 :: 6 :: 7 :: 8 :: 9 :: 10 :: 11 :: 12 :: 13 :: 14 :: 15 :: []), [(21, (.bool (v7 != v12))), (29, undef)]⟩ :: ⟨_, (.bool true), false, 1, 1, (0 :: 1 :: 2 :: 3 :: 4 :: 5 :: 6 :: 7 :: 8 :: 9 :: 10 :: 11 :: 12 :: 13 :: 14 :: 15 :: 16 :: []), [(30, (.bool true))]⟩ :: ⟨_, undef, false, 1, 1, (0 :: 1 :: 2 :: 3 :: 4 :: 5 :: 6 :: 7 :: 8 :: 9 :: 10 :: 11 :: 12 :: 13 :: 14 :: 15 :: 16 :: 17 :: []), [(31, (.bool true))]⟩ :: ⟨_, undef, false, 1, 1, (0 :: 1 :: 2 :: 3 :: 4 :: 5 :: 6 :: 7 :: 8 :: 9 :: 10 :: 11 :: 12 :: 13 :: 14 :: 15 :: 16 :: 17 :: 18 :: []), [(31, (.bool true))]⟩ :: ⟨_, undef, false, 1, 1, (0 :: 1 :: 2 :: 3 :: 4 :: 5 :: 6 :: 7 :: 8 :: 9 :: 10 :: 11 :: 12 :: 13 :: 14 :: 15 :: 16 :: 17 :: []), [(31, (.bool true))]⟩ :: ⟨_, undef, false, 1, 1, (0 :: 1 :: 2 :: 3 :: 4 :: 5 :: 6 :: 7 :: 8 :: 9 :: 10 :: 11 :: 12 :: 13 :: 14 :: 15 :: 16 :: 17 :: 20 :: []), [(31, (.bool true))]⟩ :: ⟨_, undef, false, 1, 1, (0 :: 1 :: 2 :: 3 :: 4 :: 5 :: 6 :: 7 :: 8 :: 9 :: 10 :: 11 :: 12 :: 13 :: 14 :: 15 :: 16 :: 17 :: 20 :: 21 :: []), [(31, (.bool true))]⟩ :: ⟨_, undef, false, 1, 1, (0 :: 1 :: 2 :: 3 :: 4 :: 5 :: 6 :: 7 :: 8 :: 9 :: 10 :: 11 :: 12 :: 13 :: 14 :: 15 :: 16 :: 17 :: 20 :: 21 :: 22 :: []), [(31, (.bool true))]⟩ :: ⟨_, undef, false, 1, 1, (0 :: 1 :: 2 :: 3 :: 4 :: 5 :: 6 :: 7 :: 8 :: 9 :: 10 :: 11 :: 12 :: 13 :: 14 :: 15 :: 16 :: 17 :: 20 :: 21 :: 22 :: 23 :: []), [(31, (.bool true))]⟩ :: ⟨_, undef, false, 1, 1, (0 :: 1 :: 2 :: 3 :: 4 :: 5 :: 6 :: 7 :: 8 :: 9 :: 10 :: 11 :: 12 :: 13 :: 14 :: 15 :: 16 :: 17 :: 18 :: 19 :: 20 :: 21 :: 22 :: 23 :: 24 :: []), [(31, (.bool true))]⟩ :: ⟨_, (.bool true), false, 1, 1, (0 :: 1 :: 2 :: 3 :: 4 :: 5 :: 6 :: 7 :: 8 :: 9 :: 10 :: 11 :: 12 :: 13 :: 14 :: 15 :: 16 :: 17 :: 18 :: 19 :: 20 :: 21 :: 22 :: 23 :: 24 :: 25 :: []), [(31, (.bool true)), (39, undef)]⟩ :: ⟨_, (.bool true), false, 1, 1, (0 :: 1 :: 2 :: 3 :: 4 :: 5 :: 6 :: 7 :: 8 :: 9 :: 10 :: 11 :: 12 :: 13 :: 14 :: 15 :: 16 :: 17 :: 18 :: 19 :: 20 :: 21 :: 22 :: 23 :: 24 :: 25 :: 26 :: []), [(40, (.bool true))]⟩ :: ⟨_, undef, false, 1, 1, (0 :: 1 :: 2 :: 3 :: 4 :: 5 :: 6 :: 7 :: 8 :: 9 :: 10 :: 11 :: 12 :: 13 :: 14 :: 15 :: 16 :: 17 :: 18 :: 19 :: 20 :: 21 :: 22 :: 23 :: 24 :: 25 :: 26 :: 27 :: []), [(41, (.bool true))]⟩ :: ⟨_, undef, false, 1, 1, (0 :: 1 :: 2 :: 3 :: 4 :: 5 :: 6 :: 7 :: 8 :: 9 :: 10 :: 11 :: 12 :: 13 :: 14 :: 15 :: 16 :: 17 :: 18 :: 19 :: 20 :: 21 :: 22 :: 23 :: 24 :: 25 :: 26 :: 27 :: 28 :: []), [(41, (.bool true))]⟩ :: ⟨_, undef, false, 1, 1, (0 :: 1 :: 2 :: 3 :: 4 :: 5 :: 6 :: 7 :: 8 :: 9 :: 10 :: 11 :: 12 :: 13 :: 14 :: 15 :: 16 :: 17 :: 18 :: 19 :: 20 :: 21 :: 22 :: 23 :: 24 :: 25 :: 26 :: 27 :: []), [(41, (.bool true))]⟩ :: ⟨_, undef, false, 1, 1, (0 :: 1 :: 2 :: 3 :: 4 :: 5 :: 6 :: 7 :: 8 :: 9 :: 10 :: 11 :: 12 :: 13 :: 14 :: 15 :: 16 :: 17 :: 18 :: 19 :: 20 :: 21 :: 22 :: 23 :: 24 :: 25 :: 26 :: 27 :: 30 :: []), [(41, (.bool true))]⟩ :: ⟨_, undef, false, 1, 1, (0 :: 1 :: 2 :: 3 :: 4 :: 5 :: 6 :: 7 :: 8 :: 9 :: 10 :: 11 :: 12 :: 13 :: 14 :: 15 :: 16 :: 17 :: 18 :: 19 :: 20 :: 21 :: 22 :: 23 :: 24 :: 25 :: 26 :: 27 :: 30 :: 31 :: []), [(41, (.bool true))]⟩ :: ⟨_, undef, false, 1, 1, (0 :: 1 :: 2 :: 3 :: 4 :: 5 :: 6 :: 7 :: 8 :: 9 :: 10 :: 11 :: 12 :: 13 :: 14 :: 15 :: 16 :: 17 :: 18 :: 19 :: 20 :: 21 :: 22 :: 23 :: 24 :: 25 :: 26 :: 27 :: 30 :: 31 :: 32 :: []), [(41, (.bool true))]⟩ :: ⟨_, undef, false, 1, 1, (0 :: 1 :: 2 :: 3 :: 4 :: 5 :: 6 :: 7 :: 8 :: 9 :: 10 :: 11 :: 12 :: 13 :: 14 :: 15 :: 16 :: 17 :: 18 :: 19 :: 20 :: 21 :: 22 :: 23 :: 24 :: 25 :: 26 :: 27 :: 28 :: 29 :: 30 :: 31 :: 32 :: 33 :: []), [(41, (.bool true))]⟩ :: ⟨_, (.bool true), false, 1, 1, (0 :: 1 :: 2 :: 3 :: 4 :: 5 :: 6 :: 7 :: 8 :: 9 :: 10 :: 11 :: 12 :: 13 :: 14 :: 15 :: 16 :: 17 :: 18 :: 19 :: 20 :: 21 :: 22 :: 23 :: 24 :: 25 :: 26 :: 27 :: 28 :: 29 :: 30 :: 31 :: 32 :: 33 :: 34 :: []), [(41, (.bool true)), (48, undef)]⟩ :: [])) (W := (fun j => match j with | 0 => w5 | _ => w8)) (by kernel_rfl) ha (dr_w e6) (by kernel_rfl) ?_ (reads_of (by kernel_rfl)) (by kernel_rfl) (m := 1) (by kernel_rfl) (fun a ha => ?_)
      · refine ⟨?_, ?_, ?_, ?_, ?_, ?_, ?_, ?_, ?_, ?_, ?_, ?_, ?_, ?_, ?_, ?_, ?_, ?_, ?_, ?_, ?_, ?_, ?_, ?_, ?_, ?_, ?_, ?_, ?_, ?_, ?_, ?_, ?_, ?_, ?_, ?_, trivial⟩
        · intro j _ _; exact ok_do rfl fun a ha => d_move ha rfl
        · intro j h1 h2; obtain rfl : j = 0 := Nat.le_antisymm h2 h1; exact ok_do rfl fun a ha => d_call (xs := [_]) (vs := [(.pointer a0)]) ha ⟨rfl, trivial⟩ Try.call21 (sector_Disk_Down_ok e9)
        · intro j _ _; exact ok_do rfl fun a ha => d_move ha rfl
        · intro j _ _; exact ok_do rfl fun a ha => d_nilp ha rfl e11
        · intro j _ _; exact ok_do rfl fun a ha => d_fa ha rfl Try.runUnderlying95 rfl rfl Try.sizeOf4 (by decide)
        · intro j h1 h2; have h1 : 0 ≤ j := h1; have h2 : j ≤ 1 := h2; rcases (by omega : j = 0 ∨ j = 1) with rfl | rfl
          · exact ok_do rfl fun a ha => d_ld ha rfl Try.isAgg4 (ldB_c e15)
          · exact ok_do rfl fun a ha => d_ld ha rfl Try.isAgg4 (ldB_c e13)
        · intro j _ _; exact ok_do rfl fun a ha => d_neB ha rfl rfl Try.runUnderlying4
        · intro j _ _; exact ok_do rfl fun a ha => d_move ha rfl
        · intro j _ _; exact ok_no_g rfl rfl (rfl : List.lookup 21 _ = _) (tn b14)
        · intro j _ _; exact ok_no_g rfl rfl (rfl : List.lookup 21 _ = _) (tn b14)
        · intro j _ _; exact ok_no_g rfl rfl (rfl : List.lookup 21 _ = _) (tn b14)
        · intro j _ _; exact ok_no_g rfl rfl (rfl : List.lookup 21 _ = _) (tn b14)
        · intro j _ _; exact ok_no_g rfl rfl (rfl : List.lookup 21 _ = _) (tn b14)
        · intro j _ _; exact ok_no_g rfl rfl (rfl : List.lookup 21 _ = _) (tn b14)
        · intro j _ _; exact ok_no_g rfl rfl (rfl : List.lookup 21 _ = _) (tn b14)
        · intro j _ _; exact ok_no_g rfl rfl (rfl : List.lookup 21 _ = _) (tn b14)
        · intro j _ _; exact ok_do rfl fun a ha => d_pick_t ha rfl b14 rfl
        · intro j _ _; exact ok_do rfl fun a ha => d_move ha rfl
        · intro j _ _; exact ok_no_g rfl rfl (rfl : List.lookup 31 _ = _) (tn rfl)
        · intro j _ _; exact ok_no_g rfl rfl (rfl : List.lookup 31 _ = _) (tn rfl)
        · intro j _ _; exact ok_no_g rfl rfl (rfl : List.lookup 31 _ = _) (tn rfl)
        · intro j _ _; exact ok_no_g rfl rfl (rfl : List.lookup 31 _ = _) (tn rfl)
        · intro j _ _; exact ok_no_g rfl rfl (rfl : List.lookup 31 _ = _) (tn rfl)
        · intro j _ _; exact ok_no_g rfl rfl (rfl : List.lookup 31 _ = _) (tn rfl)
        · intro j _ _; exact ok_no_g rfl rfl (rfl : List.lookup 31 _ = _) (tn rfl)
        · intro j _ _; exact ok_no_g rfl rfl (rfl : List.lookup 31 _ = _) (tn rfl)
        · intro j _ _; exact ok_do rfl fun a ha => d_pick_t ha rfl rfl rfl
        · intro j _ _; exact ok_do rfl fun a ha => d_move ha rfl
        · intro j _ _; exact ok_no_g rfl rfl (rfl : List.lookup 41 _ = _) (tn rfl)
        · intro j _ _; exact ok_no_g rfl rfl (rfl : List.lookup 41 _ = _) (tn rfl)
        · intro j _ _; exact ok_no_g rfl rfl (rfl : List.lookup 41 _ = _) (tn rfl)
        · intro j _ _; exact ok_no_g rfl rfl (rfl : List.lookup 41 _ = _) (tn rfl)
        · intro j _ _; exact ok_no_g rfl rfl (rfl : List.lookup 41 _ = _) (tn rfl)
        · intro j _ _; exact ok_no_g rfl rfl (rfl : List.lookup 41 _ = _) (tn rfl)
        · intro j _ _; exact ok_no_g rfl rfl (rfl : List.lookup 41 _ = _) (tn rfl)
        · intro j _ _; exact ok_do rfl fun a ha => d_pick_t ha rfl rfl rfl
      · have ha : Has 105 [(0, (.pointer a0)), (1, (.pointer a1)), (49, (.bool true))] a := ha.sub ⟨rfl, rfl, rfl, trivial⟩
        have hS : Has 105 [(49, (.bool true)), (0, (.pointer a0)), (1, (.pointer a1))] _ := ha.sub ⟨rfl, rfl, rfl, trivial⟩
        cases h
        exact hk4 _ hS
    · obtain ⟨v16, w17, e18, h⟩ := bs2 h
      obtain ⟨v19, e20, h⟩ := bs1 h
      refine ite_s h (fun b21 h => ?_) (fun b21 h => ?_)
      · obtain ⟨e22, h⟩ := chk_some h
        obtain ⟨e23, h⟩ := chk_some h
        have ha : Has 105 [(0, (.pointer a0)), (1, (.pointer a1))] a := ha.sub ⟨rfl, rfl, trivial⟩
        refine region_draw (n := 105) (ds := (⟨_, (.pointer a0), false, 0, 0, [], [(0, (.pointer a0))]⟩ :: ⟨_, (.bool v7), true, 0, 0, [0], [(14, (.pointer a0))]⟩ :: ⟨_, (.pointer a1), false, 0, 1, [], [(1, (.pointer a1))]⟩ :: ⟨_, (.pointer (some p10)), false, 0, 1, [2], [(16, (.pointer a1))]⟩ :: ⟨_, (.pointer (some (p10.add 3))), false, 0, 1, [2, 3], [(17, (.pointer (some p10)))]⟩ :: ⟨_, (.bool v12), false, 0, 1, [2, 3, 4], [(18, (.pointer (some (p10.add 3))))]⟩ :: ⟨_, (.bool (v7 != v12)), false, 1, 1, [0, 1, 2, 3, 4, 5], [(15, (.bool v7)), (19, (.bool v12))]⟩ :: ⟨_, (.bool (v7 != v12)), false, 1, 1, [0, 1, 2, 3, 4, 5, 6], [(20, (.bool (v7 != v12)))]⟩ :: ⟨_, (.pointer a0), false, 1, 1, [0, 1, 2, 3, 4, 5, 6, 7], [(0, (.pointer a0)), (21, (.bool (v7 != v12)))]⟩ :: ⟨_, (.int .i64 v16), true, 1, 1, [0, 1, 2, 3, 4, 5, 6, 7, 8], [(22, (.pointer a0)), (21, (.bool (v7 != v12)))]⟩ :: ⟨_, (.pointer a1), false, 1, 2, [0, 1, 2, 3, 4, 5, 6, 7], [(1, (.pointer a1)), (21, (.bool (v7 != v12)))]⟩ :: ⟨_, (.pointer (some p10)), false, 1, 2, [0, 1, 2, 3, 4, 5, 6, 7, 10], [(24, (.pointer a1)), (21, (.bool (v7 != v12)))]⟩ :: ⟨_, (.pointer (some (p10.add 1))), false, 1, 2, [0, 1, 2, 3, 4, 5, 6, 7, 10, 11], [(25, (.pointer (some p10))), (21, (.bool (v7 != v12)))]⟩ :: ⟨_, (Sl.v v19), false, 1, 2, [0, 1, 2, 3, 4, 5, 6, 7, 10, 11, 12], [(26, (.pointer (some (p10.add 1)))), (21, (.bool (v7 != v12)))]⟩ :: ⟨_, (.int .i64 (v19.n : Int)), false, 1, 2, [0, 1, 2, 3, 4, 5, 6, 7, 10, 11, 12, 13], [(27, (Sl.v v19)), (21, (.bool (v7 != v12)))]⟩ :: ⟨_, (.bool (v16 != (v19.n : Int))), false, 2, 2, (0 :: 1 :: 2 :: 3 :: 4 :: 5 :: 6 :: 7 :: 8 :: 9 :: 10 :: 11 :: 12 :: 13 :: 14 :: []), [(23, (.int .i64 v16)), (28, (.int .i64 (v19.n : Int))), (21, (.bool (v7 != v12)))]⟩ :: ⟨_, (.bool (v16 != (v19.n : Int))), false, 2, 2, (0 :: 1 :: 2 :: 3 :: 4 :: 5 :: 6 :: 7 :: 8 :: 9 :: 10 :: 11 :: 12 :: 13 :: 14 :: 15 :: []), [(21, (.bool (v7 != v12))), (29, (.bool (v16 != (v19.n : Int))))]⟩ :: ⟨_, (.bool (v16 != (v19.n : Int))), false, 2, 2, (0 :: 1 :: 2 :: 3 :: 4 :: 5 :: 6 :: 7 :: 8 :: 9 :: 10 :: 11 :: 12 :: 13 :: 14 :: 15 :: 16 :: []), [(30, (.bool (v16 != (v19.n : Int))))]⟩ :: ⟨_, undef, false, 2, 2, (0 :: 1 :: 2 :: 3 :: 4 :: 5 :: 6 :: 7 :: 8 :: 9 :: 10 :: 11 :: 12 :: 13 :: 14 :: 15 :: 16 :: 17 :: []), [(31, (.bool (v16 != (v19.n : Int))))]⟩ :: ⟨_, undef, false, 2, 2, (0 :: 1 :: 2 :: 3 :: 4 :: 5 :: 6 :: 7 :: 8 :: 9 :: 10 :: 11 :: 12 :: 13 :: 14 :: 15 :: 16 :: 17 :: 18 :: []), [(31, (.bool (v16 != (v19.n : Int))))]⟩ :: ⟨_, undef, false, 2, 2, (0 :: 1 :: 2 :: 3 :: 4 :: 5 :: 6 :: 7 :: 8 :: 9 :: 10 :: 11 :: 12 :: 13 :: 14 :: 15 :: 16 :: 17 :: []), [(31, (.bool (v16 != (v19.n : Int))))]⟩ :: ⟨_, undef, false, 2, 2, (0 :: 1 :: 2 :: 3 :: 4 :: 5 :: 6 :: 7 :: 8 :: 9 :: 10 :: 11 :: 12 :: 13 :: 14 :: 15 :: 16 :: 17 :: 20 :: []), [(31, (.bool (v16 != (v19.n : Int))))]⟩ :: ⟨_, undef, false, 2, 2, (0 :: 1 :: 2 :: 3 :: 4 :: 5 :: 6 :: 7 :: 8 :: 9 :: 10 :: 11 :: 12 :: 13 :: 14 :: 15 :: 16 :: 17 :: 20 :: 21 :: []), [(31, (.bool (v16 != (v19.n : Int))))]⟩ :: ⟨_, undef, false, 2, 2, (0 :: 1 :: 2 :: 3 :: 4 :: 5 :: 6 :: 7 :: 8 :: 9 :: 10 :: 11 :: 12 :: 13 :: 14 :: 15 :: 16 :: 17 :: 20 :: 21 :: 22 :: []), [(31, (.bool (v16 != (v19.n : Int))))]⟩ :: ⟨_, undef, false, 2, 2, (0 :: 1 :: 2 :: 3 :: 4 :: 5 :: 6 :: 7 :: 8 :: 9 :: 10 :: 11 :: 12 :: 13 :: 14 :: 15 :: 16 :: 17 :: 20 :: 21 :: 22 :: 23 :: []), [(31, (.bool (v16 != (v19.n : Int))))]⟩ :: ⟨_, undef, false, 2, 2, (0 :: 1 :: 2 :: 3 :: 4 :: 5 :: 6 :: 7 :: 8 :: 9 :: 10 :: 11 :: 12 :: 13 :: 14 :: 15 :: 16 :: 17 :: 18 :: 19 :: 20 :: 21 :: 22 :: 23 :: 24 :: []), [(31, (.bool (v16 != (v19.n : Int))))]⟩ :: ⟨_, (.bool true), false, 2, 2, (0 :: 1 :: 2 :: 3 :: 4 :: 5 :: 6 :: 7 :: 8 :: 9 :: 10 :: 11 :: 12 :: 13 :: 14 :: 15 :: 16 :: 17 :: 18 :: 19 :: 20 :: 21 :: 22 :: 23 :: 24 :: 25 :: []), [(31, (.bool (v16 != (v19.n : Int)))), (39, undef)]⟩ :: ⟨_, (.bool true), false, 2, 2, (0 :: 1 :: 2 :: 3 :: 4 :: 5 :: 6 :: 7 :: 8 :: 9 :: 10 :: 11 :: 12 :: 13 :: 14 :: 15 :: 16 :: 17 :: 18 :: 19 :: 20 :: 21 :: 22 :: 23 :: 24 :: 25 :: 26 :: []), [(40, (.bool true))]⟩ :: ⟨_, undef, false, 2, 2, (0 :: 1 :: 2 :: 3 :: 4 :: 5 :: 6 :: 7 :: 8 :: 9 :: 10 :: 11 :: 12 :: 13 :: 14 :: 15 :: 16 :: 17 :: 18 :: 19 :: 20 :: 21 :: 22 :: 23 :: 24 :: 25 :: 26 :: 27 :: []), [(41, (.bool true))]⟩ :: ⟨_, undef, false, 2, 2, (0 :: 1 :: 2 :: 3 :: 4 :: 5 :: 6 :: 7 :: 8 :: 9 :: 10 :: 11 :: 12 :: 13 :: 14 :: 15 :: 16 :: 17 :: 18 :: 19 :: 20 :: 21 :: 22 :: 23 :: 24 :: 25 :: 26 :: 27 :: 28 :: []), [(41, (.bool true))]⟩ :: ⟨_, undef, false, 2, 2, (0 :: 1 :: 2 :: 3 :: 4 :: 5 :: 6 :: 7 :: 8 :: 9 :: 10 :: 11 :: 12 :: 13 :: 14 :: 15 :: 16 :: 17 :: 18 :: 19 :: 20 :: 21 :: 22 :: 23 :: 24 :: 25 :: 26 :: 27 :: []), [(41, (.bool true))]⟩ :: ⟨_, undef, false, 2, 2, (0 :: 1 :: 2 :: 3 :: 4 :: 5 :: 6 :: 7 :: 8 :: 9 :: 10 :: 11 :: 12 :: 13 :: 14 :: 15 :: 16 :: 17 :: 18 :: 19 :: 20 :: 21 :: 22 :: 23 :: 24 :: 25 :: 26 :: 27 :: 30 :: []), [(41, (.bool true))]⟩ :: ⟨_, undef, false, 2, 2, (0 :: 1 :: 2 :: 3 :: 4 :: 5 :: 6 :: 7 :: 8 :: 9 :: 10 :: 11 :: 12 :: 13 :: 14 :: 15 :: 16 :: 17 :: 18 :: 19 :: 20 :: 21 :: 22 :: 23 :: 24 :: 25 :: 26 :: 27 :: 30 :: 31 :: []), [(41, (.bool true))]⟩ :: ⟨_, undef, false, 2, 2, (0 :: 1 :: 2 :: 3 :: 4 :: 5 :: 6 :: 7 :: 8 :: 9 :: 10 :: 11 :: 12 :: 13 :: 14 :: 15 :: 16 :: 17 :: 18 :: 19 :: 20 :: 21 :: 22 :: 23 :: 24 :: 25 :: 26 :: 27 :: 30 :: 31 :: 32 :: []), [(41, (.bool true))]⟩ :: ⟨_, undef, false, 2, 2, (0 :: 1 :: 2 :: 3 :: 4 :: 5 :: 6 :: 7 :: 8 :: 9 :: 10 :: 11 :: 12 :: 13 :: 14 :: 15 :: 16 :: 17 :: 18 :: 19 :: 20 :: 21 :: 22 :: 23 :: 24 :: 25 :: 26 :: 27 :: 28 :: 29 :: 30 :: 31 :: 32 :: 33 :: []), [(41, (.bool true))]⟩ :: ⟨_, (.bool true), false, 2, 2, (0 :: 1 :: 2 :: 3 :: 4 :: 5 :: 6 :: 7 :: 8 :: 9 :: 10 :: 11 :: 12 :: 13 :: 14 :: 15 :: 16 :: 17 :: 18 :: 19 :: 20 :: 21 :: 22 :: 23 :: 24 :: 25 :: 26 :: 27 :: 28 :: 29 :: 30 :: 31 :: 32 :: 33 :: 34 :: []), [(41, (.bool true)), (48, undef)]⟩ :: [])) (W := (fun j => match j with | 0 => w5 | 1 => w8 | _ => w17)) (by kernel_rfl) ha (dr_w e6) (by kernel_rfl) ?_ (reads_of (by kernel_rfl)) (by kernel_rfl) (m := 2) (by kernel_rfl) (fun a ha => ?_)
        · refine ⟨?_, ?_, ?_, ?_, ?_, ?_, ?_, ?_, ?_, ?_, ?_, ?_, ?_, ?_, ?_, ?_, ?_, ?_, ?_, ?_, ?_, ?_, ?_, ?_, ?_, ?_, ?_, ?_, ?_, ?_, ?_, ?_, ?_, ?_, ?_, ?_, trivial⟩
          · intro j _ _; exact ok_do rfl fun a ha => d_move ha rfl
          · intro j h1 h2; obtain rfl : j = 0 := Nat.le_antisymm h2 h1; exact ok_do rfl fun a ha => d_call (xs := [_]) (vs := [(.pointer a0)]) ha ⟨rfl, trivial⟩ Try.call21 (sector_Disk_Down_ok e9)
          · intro j _ _; exact ok_do rfl fun a ha => d_move ha rfl
          · intro j _ _; exact ok_do rfl fun a ha => d_nilp ha rfl e11
          · intro j _ _; exact ok_do rfl fun a ha => d_fa ha rfl Try.runUnderlying95 rfl rfl Try.sizeOf4 (by decide)
          · intro j h1 h2; have h1 : 0 ≤ j := h1; have h2 : j ≤ 1 := h2; rcases (by omega : j = 0 ∨ j = 1) with rfl | rfl
            · exact ok_do rfl fun a ha => d_ld ha rfl Try.isAgg4 (ldB_c e22)
            · exact ok_do rfl fun a ha => d_ld ha rfl Try.isAgg4 (ldB_c e13)
          · intro j _ _; exact ok_do rfl fun a ha => d_neB ha rfl rfl Try.runUnderlying4
          · intro j _ _; exact ok_do rfl fun a ha => d_move ha rfl
          · intro j _ _; exact ok_do_g rfl rfl (rfl : List.lookup 21 _ = _) (nt b14) fun a ha => d_move ha rfl
          · intro j h1 h2; obtain rfl : j = 1 := Nat.le_antisymm h2 h1; exact ok_do_g rfl rfl (rfl : List.lookup 21 _ = _) (nt b14) fun a ha => d_call (xs := [_]) (vs := [(.pointer a0)]) ha ⟨rfl, trivial⟩ Try.call20 (sector_Disk_Waits_ok e18)
          · intro j _ _; exact ok_do_g rfl rfl (rfl : List.lookup 21 _ = _) (nt b14) fun a ha => d_move ha rfl
          · intro j _ _; exact ok_do_g rfl rfl (rfl : List.lookup 21 _ = _) (nt b14) fun a ha => d_nilp ha rfl e11
          · intro j _ _; exact ok_do_g rfl rfl (rfl : List.lookup 21 _ = _) (nt b14) fun a ha => d_fa ha rfl Try.runUnderlying95 rfl rfl Try.sizeOf93 (by decide)
          · intro j h1 h2; have h1 : 1 ≤ j := h1; have h2 : j ≤ 2 := h2; rcases (by omega : j = 1 ∨ j = 2) with rfl | rfl
            · exact ok_do_g rfl rfl (rfl : List.lookup 21 _ = _) (nt b14) fun a ha => d_ld ha rfl Try.isAgg93 (ldL_c e23)
            · exact ok_do_g rfl rfl (rfl : List.lookup 21 _ = _) (nt b14) fun a ha => d_ld ha rfl Try.isAgg93 (ldL_c e20)
          · intro j _ _; exact ok_do_g rfl rfl (rfl : List.lookup 21 _ = _) (nt b14) fun a ha => d_lenS ha rfl Try.runUnderlying93
          · intro j _ _; exact ok_do_g rfl rfl (rfl : List.lookup 21 _ = _) (nt b14) fun a ha => d_ne ha rfl rfl
          · intro j _ _; exact ok_do rfl fun a ha => d_pick_f ha rfl b14 rfl
          · intro j _ _; exact ok_do rfl fun a ha => d_move ha rfl
          · intro j _ _; exact ok_no_g rfl rfl (rfl : List.lookup 31 _ = _) (tn b21)
          · intro j _ _; exact ok_no_g rfl rfl (rfl : List.lookup 31 _ = _) (tn b21)
          · intro j _ _; exact ok_no_g rfl rfl (rfl : List.lookup 31 _ = _) (tn b21)
          · intro j _ _; exact ok_no_g rfl rfl (rfl : List.lookup 31 _ = _) (tn b21)
          · intro j _ _; exact ok_no_g rfl rfl (rfl : List.lookup 31 _ = _) (tn b21)
          · intro j _ _; exact ok_no_g rfl rfl (rfl : List.lookup 31 _ = _) (tn b21)
          · intro j _ _; exact ok_no_g rfl rfl (rfl : List.lookup 31 _ = _) (tn b21)
          · intro j _ _; exact ok_no_g rfl rfl (rfl : List.lookup 31 _ = _) (tn b21)
          · intro j _ _; exact ok_do rfl fun a ha => d_pick_t ha rfl b21 rfl
          · intro j _ _; exact ok_do rfl fun a ha => d_move ha rfl
          · intro j _ _; exact ok_no_g rfl rfl (rfl : List.lookup 41 _ = _) (tn rfl)
          · intro j _ _; exact ok_no_g rfl rfl (rfl : List.lookup 41 _ = _) (tn rfl)
          · intro j _ _; exact ok_no_g rfl rfl (rfl : List.lookup 41 _ = _) (tn rfl)
          · intro j _ _; exact ok_no_g rfl rfl (rfl : List.lookup 41 _ = _) (tn rfl)
          · intro j _ _; exact ok_no_g rfl rfl (rfl : List.lookup 41 _ = _) (tn rfl)
          · intro j _ _; exact ok_no_g rfl rfl (rfl : List.lookup 41 _ = _) (tn rfl)
          · intro j _ _; exact ok_no_g rfl rfl (rfl : List.lookup 41 _ = _) (tn rfl)
          · intro j _ _; exact ok_do rfl fun a ha => d_pick_t ha rfl rfl rfl
        · have ha : Has 105 [(0, (.pointer a0)), (1, (.pointer a1)), (49, (.bool true))] a := ha.sub ⟨rfl, rfl, rfl, trivial⟩
          have hS : Has 105 [(49, (.bool true)), (0, (.pointer a0)), (1, (.pointer a1))] _ := ha.sub ⟨rfl, rfl, rfl, trivial⟩
          cases h
          exact hk4 _ hS
      · obtain ⟨v24, w25, e26, h⟩ := bs2 h
        obtain ⟨v27, e28, h⟩ := bs1 h
        refine ite_s h (fun b29 h => ?_) (fun b29 h => ?_)
        · obtain ⟨e30, h⟩ := chk_some h
          obtain ⟨e31, h⟩ := chk_some h
          obtain ⟨e32, h⟩ := chk_some h
          have ha : Has 105 [(0, (.pointer a0)), (1, (.pointer a1))] a := ha.sub ⟨rfl, rfl, trivial⟩
          refine region_draw (n := 105) (ds := (⟨_, (.pointer a0), false, 0, 0, [], [(0, (.pointer a0))]⟩ :: ⟨_, (.bool v7), true, 0, 0, [0], [(14, (.pointer a0))]⟩ :: ⟨_, (.pointer a1), false, 0, 1, [], [(1, (.pointer a1))]⟩ :: ⟨_, (.pointer (some p10)), false, 0, 1, [2], [(16, (.pointer a1))]⟩ :: ⟨_, (.pointer (some (p10.add 3))), false, 0, 1, [2, 3], [(17, (.pointer (some p10)))]⟩ :: ⟨_, (.bool v12), false, 0, 1, [2, 3, 4], [(18, (.pointer (some (p10.add 3))))]⟩ :: ⟨_, (.bool (v7 != v12)), false, 1, 1, [0, 1, 2, 3, 4, 5], [(15, (.bool v7)), (19, (.bool v12))]⟩ :: ⟨_, (.bool (v7 != v12)), false, 1, 1, [0, 1, 2, 3, 4, 5, 6], [(20, (.bool (v7 != v12)))]⟩ :: ⟨_, (.pointer a0), false, 1, 1, [0, 1, 2, 3, 4, 5, 6, 7], [(0, (.pointer a0)), (21, (.bool (v7 != v12)))]⟩ :: ⟨_, (.int .i64 v16), true, 1, 1, [0, 1, 2, 3, 4, 5, 6, 7, 8], [(22, (.pointer a0)), (21, (.bool (v7 != v12)))]⟩ :: ⟨_, (.pointer a1), false, 1, 2, [0, 1, 2, 3, 4, 5, 6, 7], [(1, (.pointer a1)), (21, (.bool (v7 != v12)))]⟩ :: ⟨_, (.pointer (some p10)), false, 1, 2, [0, 1, 2, 3, 4, 5, 6, 7, 10], [(24, (.pointer a1)), (21, (.bool (v7 != v12)))]⟩ :: ⟨_, (.pointer (some (p10.add 1))), false, 1, 2, [0, 1, 2, 3, 4, 5, 6, 7, 10, 11], [(25, (.pointer (some p10))), (21, (.bool (v7 != v12)))]⟩ :: ⟨_, (Sl.v v19), false, 1, 2, [0, 1, 2, 3, 4, 5, 6, 7, 10, 11, 12], [(26, (.pointer (some (p10.add 1)))), (21, (.bool (v7 != v12)))]⟩ :: ⟨_, (.int .i64 (v19.n : Int)), false, 1, 2, [0, 1, 2, 3, 4, 5, 6, 7, 10, 11, 12, 13], [(27, (Sl.v v19)), (21, (.bool (v7 != v12)))]⟩ :: ⟨_, (.bool (v16 != (v19.n : Int))), false, 2, 2, (0 :: 1 :: 2 :: 3 :: 4 :: 5 :: 6 :: 7 :: 8 :: 9 :: 10 :: 11 :: 12 :: 13 :: 14 :: []), [(23, (.int .i64 v16)), (28, (.int .i64 (v19.n : Int))), (21, (.bool (v7 != v12)))]⟩ :: ⟨_, (.bool (v16 != (v19.n : Int))), false, 2, 2, (0 :: 1 :: 2 :: 3 :: 4 :: 5 :: 6 :: 7 :: 8 :: 9 :: 10 :: 11 :: 12 :: 13 :: 14 :: 15 :: []), [(21, (.bool (v7 != v12))), (29, (.bool (v16 != (v19.n : Int))))]⟩ :: ⟨_, (.bool (v16 != (v19.n : Int))), false, 2, 2, (0 :: 1 :: 2 :: 3 :: 4 :: 5 :: 6 :: 7 :: 8 :: 9 :: 10 :: 11 :: 12 :: 13 :: 14 :: 15 :: 16 :: []), [(30, (.bool (v16 != (v19.n : Int))))]⟩ :: ⟨_, (.pointer a0), false, 2, 2, (0 :: 1 :: 2 :: 3 :: 4 :: 5 :: 6 :: 7 :: 8 :: 9 :: 10 :: 11 :: 12 :: 13 :: 14 :: 15 :: 16 :: 17 :: []), [(0, (.pointer a0)), (31, (.bool (v16 != (v19.n : Int))))]⟩ :: ⟨_, (.int .i64 v24), true, 2, 2, (0 :: 1 :: 2 :: 3 :: 4 :: 5 :: 6 :: 7 :: 8 :: 9 :: 10 :: 11 :: 12 :: 13 :: 14 :: 15 :: 16 :: 17 :: 18 :: []), [(32, (.pointer a0)), (31, (.bool (v16 != (v19.n : Int))))]⟩ :: ⟨_, (.pointer a1), false, 2, 3, (0 :: 1 :: 2 :: 3 :: 4 :: 5 :: 6 :: 7 :: 8 :: 9 :: 10 :: 11 :: 12 :: 13 :: 14 :: 15 :: 16 :: 17 :: []), [(1, (.pointer a1)), (31, (.bool (v16 != (v19.n : Int))))]⟩ :: ⟨_, (.pointer (some p10)), false, 2, 3, (0 :: 1 :: 2 :: 3 :: 4 :: 5 :: 6 :: 7 :: 8 :: 9 :: 10 :: 11 :: 12 :: 13 :: 14 :: 15 :: 16 :: 17 :: 20 :: []), [(34, (.pointer a1)), (31, (.bool (v16 != (v19.n : Int))))]⟩ :: ⟨_, (.pointer (some (p10.add 0))), false, 2, 3, (0 :: 1 :: 2 :: 3 :: 4 :: 5 :: 6 :: 7 :: 8 :: 9 :: 10 :: 11 :: 12 :: 13 :: 14 :: 15 :: 16 :: 17 :: 20 :: 21 :: []), [(35, (.pointer (some p10))), (31, (.bool (v16 != (v19.n : Int))))]⟩ :: ⟨_, (Sl.v v27), false, 2, 3, (0 :: 1 :: 2 :: 3 :: 4 :: 5 :: 6 :: 7 :: 8 :: 9 :: 10 :: 11 :: 12 :: 13 :: 14 :: 15 :: 16 :: 17 :: 20 :: 21 :: 22 :: []), [(36, (.pointer (some (p10.add 0)))), (31, (.bool (v16 != (v19.n : Int))))]⟩ :: ⟨_, (.int .i64 (v27.n : Int)), false, 2, 3, (0 :: 1 :: 2 :: 3 :: 4 :: 5 :: 6 :: 7 :: 8 :: 9 :: 10 :: 11 :: 12 :: 13 :: 14 :: 15 :: 16 :: 17 :: 20 :: 21 :: 22 :: 23 :: []), [(37, (Sl.v v27)), (31, (.bool (v16 != (v19.n : Int))))]⟩ :: ⟨_, (.bool (v24 != (v27.n : Int))), false, 3, 3, (0 :: 1 :: 2 :: 3 :: 4 :: 5 :: 6 :: 7 :: 8 :: 9 :: 10 :: 11 :: 12 :: 13 :: 14 :: 15 :: 16 :: 17 :: 18 :: 19 :: 20 :: 21 :: 22 :: 23 :: 24 :: []), [(33, (.int .i64 v24)), (38, (.int .i64 (v27.n : Int))), (31, (.bool (v16 != (v19.n : Int))))]⟩ :: ⟨_, (.bool (v24 != (v27.n : Int))), false, 3, 3, (0 :: 1 :: 2 :: 3 :: 4 :: 5 :: 6 :: 7 :: 8 :: 9 :: 10 :: 11 :: 12 :: 13 :: 14 :: 15 :: 16 :: 17 :: 18 :: 19 :: 20 :: 21 :: 22 :: 23 :: 24 :: 25 :: []), [(31, (.bool (v16 != (v19.n : Int)))), (39, (.bool (v24 != (v27.n : Int))))]⟩ :: ⟨_, (.bool (v24 != (v27.n : Int))), false, 3, 3, (0 :: 1 :: 2 :: 3 :: 4 :: 5 :: 6 :: 7 :: 8 :: 9 :: 10 :: 11 :: 12 :: 13 :: 14 :: 15 :: 16 :: 17 :: 18 :: 19 :: 20 :: 21 :: 22 :: 23 :: 24 :: 25 :: 26 :: []), [(40, (.bool (v24 != (v27.n : Int))))]⟩ :: ⟨_, undef, false, 3, 3, (0 :: 1 :: 2 :: 3 :: 4 :: 5 :: 6 :: 7 :: 8 :: 9 :: 10 :: 11 :: 12 :: 13 :: 14 :: 15 :: 16 :: 17 :: 18 :: 19 :: 20 :: 21 :: 22 :: 23 :: 24 :: 25 :: 26 :: 27 :: []), [(41, (.bool (v24 != (v27.n : Int))))]⟩ :: ⟨_, undef, false, 3, 3, (0 :: 1 :: 2 :: 3 :: 4 :: 5 :: 6 :: 7 :: 8 :: 9 :: 10 :: 11 :: 12 :: 13 :: 14 :: 15 :: 16 :: 17 :: 18 :: 19 :: 20 :: 21 :: 22 :: 23 :: 24 :: 25 :: 26 :: 27 :: 28 :: []), [(41, (.bool (v24 != (v27.n : Int))))]⟩ :: ⟨_, undef, false, 3, 3, (0 :: 1 :: 2 :: 3 :: 4 :: 5 :: 6 :: 7 :: 8 :: 9 :: 10 :: 11 :: 12 :: 13 :: 14 :: 15 :: 16 :: 17 :: 18 :: 19 :: 20 :: 21 :: 22 :: 23 :: 24 :: 25 :: 26 :: 27 :: []), [(41, (.bool (v24 != (v27.n : Int))))]⟩ :: ⟨_, undef, false, 3, 3, (0 :: 1 :: 2 :: 3 :: 4 :: 5 :: 6 :: 7 :: 8 :: 9 :: 10 :: 11 :: 12 :: 13 :: 14 :: 15 :: 16 :: 17 :: 18 :: 19 :: 20 :: 21 :: 22 :: 23 :: 24 :: 25 :: 26 :: 27 :: 30 :: []), [(41, (.bool (v24 != (v27.n : Int))))]⟩ :: ⟨_, undef, false, 3, 3, (0 :: 1 :: 2 :: 3 :: 4 :: 5 :: 6 :: 7 :: 8 :: 9 :: 10 :: 11 :: 12 :: 13 :: 14 :: 15 :: 16 :: 17 :: 18 :: 19 :: 20 :: 21 :: 22 :: 23 :: 24 :: 25 :: 26 :: 27 :: 30 :: 31 :: []), [(41, (.bool (v24 != (v27.n : Int))))]⟩ :: ⟨_, undef, false, 3, 3, (0 :: 1 :: 2 :: 3 :: 4 :: 5 :: 6 :: 7 :: 8 :: 9 :: 10 :: 11 :: 12 :: 13 :: 14 :: 15 :: 16 :: 17 :: 18 :: 19 :: 20 :: 21 :: 22 :: 23 :: 24 :: 25 :: 26 :: 27 :: 30 :: 31 :: 32 :: []), [(41, (.bool (v24 != (v27.n : Int))))]⟩ :: ⟨_, undef, false, 3, 3, (0 :: 1 :: 2 :: 3 :: 4 :: 5 :: 6 :: 7 :: 8 :: 9 :: 10 :: 11 :: 12 :: 13 :: 14 :: 15 :: 16 :: 17 :: 18 :: 19 :: 20 :: 21 :: 22 :: 23 :: 24 :: 25 :: 26 :: 27 :: 28 :: 29 :: 30 :: 31 :: 32 :: 33 :: []), [(41, (.bool (v24 != (v27.n : Int))))]⟩ :: ⟨_, (.bool true), false, 3, 3, (0 :: 1 :: 2 :: 3 :: 4 :: 5 :: 6 :: 7 :: 8 :: 9 :: 10 :: 11 :: 12 :: 13 :: 14 :: 15 :: 16 :: 17 :: 18 :: 19 :: 20 :: 21 :: 22 :: 23 :: 24 :: 25 :: 26 :: 27 :: 28 :: 29 :: 30 :: 31 :: 32 :: 33 :: 34 :: []), [(41, (.bool (v24 != (v27.n : Int)))), (48, undef)]⟩ :: [])) (W := (fun j => match j with | 0 => w5 | 1 => w8 | 2 => w17 | _ => w25)) (by kernel_rfl) ha (dr_w e6) (by kernel_rfl) ?_ (reads_of (by kernel_rfl)) (by kernel_rfl) (m := 3) (by kernel_rfl) (fun a ha => ?_)
          · refine ⟨?_, ?_, ?_, ?_, ?_, ?_, ?_, ?_, ?_, ?_, ?_, ?_, ?_, ?_, ?_, ?_, ?_, ?_, ?_, ?_, ?_, ?_, ?_, ?_, ?_, ?_, ?_, ?_, ?_, ?_, ?_, ?_, ?_, ?_, ?_, ?_, trivial⟩
            · intro j _ _; exact ok_do rfl fun a ha => d_move ha rfl
            · intro j h1 h2; obtain rfl : j = 0 := Nat.le_antisymm h2 h1; exact ok_do rfl fun a ha => d_call (xs := [_]) (vs := [(.pointer a0)]) ha ⟨rfl, trivial⟩ Try.call21 (sector_Disk_Down_ok e9)
            · intro j _ _; exact ok_do rfl fun a ha => d_move ha rfl
            · intro j _ _; exact ok_do rfl fun a ha => d_nilp ha rfl e11
            · intro j _ _; exact ok_do rfl fun a ha => d_fa ha rfl Try.runUnderlying95 rfl rfl Try.sizeOf4 (by decide)
            · intro j h1 h2; have h1 : 0 ≤ j := h1; have h2 : j ≤ 1 := h2; rcases (by omega : j = 0 ∨ j = 1) with rfl | rfl
              · exact ok_do rfl fun a ha => d_ld ha rfl Try.isAgg4 (ldB_c e30)
              · exact ok_do rfl fun a ha => d_ld ha rfl Try.isAgg4 (ldB_c e13)
            · intro j _ _; exact ok_do rfl fun a ha => d_neB ha rfl rfl Try.runUnderlying4
            · intro j _ _; exact ok_do rfl fun a ha => d_move ha rfl
            · intro j _ _; exact ok_do_g rfl rfl (rfl : List.lookup 21 _ = _) (nt b14) fun a ha => d_move ha rfl
            · intro j h1 h2; obtain rfl : j = 1 := Nat.le_antisymm h2 h1; exact ok_do_g rfl rfl (rfl : List.lookup 21 _ = _) (nt b14) fun a ha => d_call (xs := [_]) (vs := [(.pointer a0)]) ha ⟨rfl, trivial⟩ Try.call20 (sector_Disk_Waits_ok e18)
            · intro j _ _; exact ok_do_g rfl rfl (rfl : List.lookup 21 _ = _) (nt b14) fun a ha => d_move ha rfl
            · intro j _ _; exact ok_do_g rfl rfl (rfl : List.lookup 21 _ = _) (nt b14) fun a ha => d_nilp ha rfl e11
            · intro j _ _; exact ok_do_g rfl rfl (rfl : List.lookup 21 _ = _) (nt b14) fun a ha => d_fa ha rfl Try.runUnderlying95 rfl rfl Try.sizeOf93 (by decide)
            · intro j h1 h2; have h1 : 1 ≤ j := h1; have h2 : j ≤ 2 := h2; rcases (by omega : j = 1 ∨ j = 2) with rfl | rfl
              · exact ok_do_g rfl rfl (rfl : List.lookup 21 _ = _) (nt b14) fun a ha => d_ld ha rfl Try.isAgg93 (ldL_c e31)
              · exact ok_do_g rfl rfl (rfl : List.lookup 21 _ = _) (nt b14) fun a ha => d_ld ha rfl Try.isAgg93 (ldL_c e20)
            · intro j _ _; exact ok_do_g rfl rfl (rfl : List.lookup 21 _ = _) (nt b14) fun a ha => d_lenS ha rfl Try.runUnderlying93
            · intro j _ _; exact ok_do_g rfl rfl (rfl : List.lookup 21 _ = _) (nt b14) fun a ha => d_ne ha rfl rfl
            · intro j _ _; exact ok_do rfl fun a ha => d_pick_f ha rfl b14 rfl
            · intro j _ _; exact ok_do rfl fun a ha => d_move ha rfl
            · intro j _ _; exact ok_do_g rfl rfl (rfl : List.lookup 31 _ = _) (nt b21) fun a ha => d_move ha rfl
            · intro j h1 h2; obtain rfl : j = 2 := Nat.le_antisymm h2 h1; exact ok_do_g rfl rfl (rfl : List.lookup 31 _ = _) (nt b21) fun a ha => d_call (xs := [_]) (vs := [(.pointer a0)]) ha ⟨rfl, trivial⟩ Try.call19 (sector_Disk_Size_ok e26)
            · intro j _ _; exact ok_do_g rfl rfl (rfl : List.lookup 31 _ = _) (nt b21) fun a ha => d_move ha rfl
            · intro j _ _; exact ok_do_g rfl rfl (rfl : List.lookup 31 _ = _) (nt b21) fun a ha => d_nilp ha rfl e11
            · intro j _ _; exact ok_do_g rfl rfl (rfl : List.lookup 31 _ = _) (nt b21) fun a ha => d_fa ha rfl Try.runUnderlying95 rfl rfl Try.sizeOf92 (by decide)
            · intro j h1 h2; have h1 : 2 ≤ j := h1; have h2 : j ≤ 3 := h2; rcases (by omega : j = 2 ∨ j = 3) with rfl | rfl
              · exact ok_do_g rfl rfl (rfl : List.lookup 31 _ = _) (nt b21) fun a ha => d_ld ha rfl Try.isAgg92 (ldL_c e32)
              · exact ok_do_g rfl rfl (rfl : List.lookup 31 _ = _) (nt b21) fun a ha => d_ld ha rfl Try.isAgg92 (ldL_c e28)
            · intro j _ _; exact ok_do_g rfl rfl (rfl : List.lookup 31 _ = _) (nt b21) fun a ha => d_lenS ha rfl Try.runUnderlying92
            · intro j _ _; exact ok_do_g rfl rfl (rfl : List.lookup 31 _ = _) (nt b21) fun a ha => d_ne ha rfl rfl
            · intro j _ _; exact ok_do rfl fun a ha => d_pick_f ha rfl b21 rfl
            · intro j _ _; exact ok_do rfl fun a ha => d_move ha rfl
            · intro j _ _; exact ok_no_g rfl rfl (rfl : List.lookup 41 _ = _) (tn b29)
            · intro j _ _; exact ok_no_g rfl rfl (rfl : List.lookup 41 _ = _) (tn b29)
            · intro j _ _; exact ok_no_g rfl rfl (rfl : List.lookup 41 _ = _) (tn b29)
            · intro j _ _; exact ok_no_g rfl rfl (rfl : List.lookup 41 _ = _) (tn b29)
            · intro j _ _; exact ok_no_g rfl rfl (rfl : List.lookup 41 _ = _) (tn b29)
            · intro j _ _; exact ok_no_g rfl rfl (rfl : List.lookup 41 _ = _) (tn b29)
            · intro j _ _; exact ok_no_g rfl rfl (rfl : List.lookup 41 _ = _) (tn b29)
            · intro j _ _; exact ok_do rfl fun a ha => d_pick_t ha rfl b29 rfl
          · have ha : Has 105 [(0, (.pointer a0)), (1, (.pointer a1)), (49, (.bool true))] a := ha.sub ⟨rfl, rfl, rfl, trivial⟩
            have hS : Has 105 [(49, (.bool true)), (0, (.pointer a0)), (1, (.pointer a1))] _ := ha.sub ⟨rfl, rfl, rfl, trivial⟩
            cases h
            exact hk4 _ hS
        · obtain ⟨v33, w34, e35, h⟩ := bs2 h
          obtain ⟨v36, e37, h⟩ := bs1 h
          obtain ⟨e38, h⟩ := chk_some h
          obtain ⟨e39, h⟩ := chk_some h
          obtain ⟨e40, h⟩ := chk_some h
          obtain ⟨e41, h⟩ := chk_some h
          have ha : Has 105 [(0, (.pointer a0)), (1, (.pointer a1))] a := ha.sub ⟨rfl, rfl, trivial⟩
          refine region_draw (n := 105) (ds := (⟨_, (.pointer a0), false, 0, 0, [], [(0, (.pointer a0))]⟩ :: ⟨_, (.bool v7), true, 0, 0, [0], [(14, (.pointer a0))]⟩ :: ⟨_, (.pointer a1), false, 0, 1, [], [(1, (.pointer a1))]⟩ :: ⟨_, (.pointer (some p10)), false, 0, 1, [2], [(16, (.pointer a1))]⟩ :: ⟨_, (.pointer (some (p10.add 3))), false, 0, 1, [2, 3], [(17, (.pointer (some p10)))]⟩ :: ⟨_, (.bool v12), false, 0, 1, [2, 3, 4], [(18, (.pointer (some (p10.add 3))))]⟩ :: ⟨_, (.bool (v7 != v12)), false, 1, 1, [0, 1, 2, 3, 4, 5], [(15, (.bool v7)), (19, (.bool v12))]⟩ :: ⟨_, (.bool (v7 != v12)), false, 1, 1, [0, 1, 2, 3, 4, 5, 6], [(20, (.bool (v7 != v12)))]⟩ :: ⟨_, (.pointer a0), false, 1, 1, [0, 1, 2, 3, 4, 5, 6, 7], [(0, (.pointer a0)), (21, (.bool (v7 != v12)))]⟩ :: ⟨_, (.int .i64 v16), true, 1, 1, [0, 1, 2, 3, 4, 5, 6, 7, 8], [(22, (.pointer a0)), (21, (.bool (v7 != v12)))]⟩ :: ⟨_, (.pointer a1), false, 1, 2, [0, 1, 2, 3, 4, 5, 6, 7], [(1, (.pointer a1)), (21, (.bool (v7 != v12)))]⟩ :: ⟨_, (.pointer (some p10)), false, 1, 2, [0, 1, 2, 3, 4, 5, 6, 7, 10], [(24, (.pointer a1)), (21, (.bool (v7 != v12)))]⟩ :: ⟨_, (.pointer (some (p10.add 1))), false, 1, 2, [0, 1, 2, 3, 4, 5, 6, 7, 10, 11], [(25, (.pointer (some p10))), (21, (.bool (v7 != v12)))]⟩ :: ⟨_, (Sl.v v19), false, 1, 2, [0, 1, 2, 3, 4, 5, 6, 7, 10, 11, 12], [(26, (.pointer (some (p10.add 1)))), (21, (.bool (v7 != v12)))]⟩ :: ⟨_, (.int .i64 (v19.n : Int)), false, 1, 2, [0, 1, 2, 3, 4, 5, 6, 7, 10, 11, 12, 13], [(27, (Sl.v v19)), (21, (.bool (v7 != v12)))]⟩ :: ⟨_, (.bool (v16 != (v19.n : Int))), false, 2, 2, (0 :: 1 :: 2 :: 3 :: 4 :: 5 :: 6 :: 7 :: 8 :: 9 :: 10 :: 11 :: 12 :: 13 :: 14 :: []), [(23, (.int .i64 v16)), (28, (.int .i64 (v19.n : Int))), (21, (.bool (v7 != v12)))]⟩ :: ⟨_, (.bool (v16 != (v19.n : Int))), false, 2, 2, (0 :: 1 :: 2 :: 3 :: 4 :: 5 :: 6 :: 7 :: 8 :: 9 :: 10 :: 11 :: 12 :: 13 :: 14 :: 15 :: []), [(21, (.bool (v7 != v12))), (29, (.bool (v16 != (v19.n : Int))))]⟩ :: ⟨_, (.bool (v16 != (v19.n : Int))), false, 2, 2, (0 :: 1 :: 2 :: 3 :: 4 :: 5 :: 6 :: 7 :: 8 :: 9 :: 10 :: 11 :: 12 :: 13 :: 14 :: 15 :: 16 :: []), [(30, (.bool (v16 != (v19.n : Int))))]⟩ :: ⟨_, (.pointer a0), false, 2, 2, (0 :: 1 :: 2 :: 3 :: 4 :: 5 :: 6 :: 7 :: 8 :: 9 :: 10 :: 11 :: 12 :: 13 :: 14 :: 15 :: 16 :: 17 :: []), [(0, (.pointer a0)), (31, (.bool (v16 != (v19.n : Int))))]⟩ :: ⟨_, (.int .i64 v24), true, 2, 2, (0 :: 1 :: 2 :: 3 :: 4 :: 5 :: 6 :: 7 :: 8 :: 9 :: 10 :: 11 :: 12 :: 13 :: 14 :: 15 :: 16 :: 17 :: 18 :: []), [(32, (.pointer a0)), (31, (.bool (v16 != (v19.n : Int))))]⟩ :: ⟨_, (.pointer a1), false, 2, 3, (0 :: 1 :: 2 :: 3 :: 4 :: 5 :: 6 :: 7 :: 8 :: 9 :: 10 :: 11 :: 12 :: 13 :: 14 :: 15 :: 16 :: 17 :: []), [(1, (.pointer a1)), (31, (.bool (v16 != (v19.n : Int))))]⟩ :: ⟨_, (.pointer (some p10)), false, 2, 3, (0 :: 1 :: 2 :: 3 :: 4 :: 5 :: 6 :: 7 :: 8 :: 9 :: 10 :: 11 :: 12 :: 13 :: 14 :: 15 :: 16 :: 17 :: 20 :: []), [(34, (.pointer a1)), (31, (.bool (v16 != (v19.n : Int))))]⟩ :: ⟨_, (.pointer (some (p10.add 0))), false, 2, 3, (0 :: 1 :: 2 :: 3 :: 4 :: 5 :: 6 :: 7 :: 8 :: 9 :: 10 :: 11 :: 12 :: 13 :: 14 :: 15 :: 16 :: 17 :: 20 :: 21 :: []), [(35, (.pointer (some p10))), (31, (.bool (v16 != (v19.n : Int))))]⟩ :: ⟨_, (Sl.v v27), false, 2, 3, (0 :: 1 :: 2 :: 3 :: 4 :: 5 :: 6 :: 7 :: 8 :: 9 :: 10 :: 11 :: 12 :: 13 :: 14 :: 15 :: 16 :: 17 :: 20 :: 21 :: 22 :: []), [(36, (.pointer (some (p10.add 0)))), (31, (.bool (v16 != (v19.n : Int))))]⟩ :: ⟨_, (.int .i64 (v27.n : Int)), false, 2, 3, (0 :: 1 :: 2 :: 3 :: 4 :: 5 :: 6 :: 7 :: 8 :: 9 :: 10 :: 11 :: 12 :: 13 :: 14 :: 15 :: 16 :: 17 :: 20 :: 21 :: 22 :: 23 :: []), [(37, (Sl.v v27)), (31, (.bool (v16 != (v19.n : Int))))]⟩ :: ⟨_, (.bool (v24 != (v27.n : Int))), false, 3, 3, (0 :: 1 :: 2 :: 3 :: 4 :: 5 :: 6 :: 7 :: 8 :: 9 :: 10 :: 11 :: 12 :: 13 :: 14 :: 15 :: 16 :: 17 :: 18 :: 19 :: 20 :: 21 :: 22 :: 23 :: 24 :: []), [(33, (.int .i64 v24)), (38, (.int .i64 (v27.n : Int))), (31, (.bool (v16 != (v19.n : Int))))]⟩ :: ⟨_, (.bool (v24 != (v27.n : Int))), false, 3, 3, (0 :: 1 :: 2 :: 3 :: 4 :: 5 :: 6 :: 7 :: 8 :: 9 :: 10 :: 11 :: 12 :: 13 :: 14 :: 15 :: 16 :: 17 :: 18 :: 19 :: 20 :: 21 :: 22 :: 23 :: 24 :: 25 :: []), [(31, (.bool (v16 != (v19.n : Int)))), (39, (.bool (v24 != (v27.n : Int))))]⟩ :: ⟨_, (.bool (v24 != (v27.n : Int))), false, 3, 3, (0 :: 1 :: 2 :: 3 :: 4 :: 5 :: 6 :: 7 :: 8 :: 9 :: 10 :: 11 :: 12 :: 13 :: 14 :: 15 :: 16 :: 17 :: 18 :: 19 :: 20 :: 21 :: 22 :: 23 :: 24 :: 25 :: 26 :: []), [(40, (.bool (v24 != (v27.n : Int))))]⟩ :: ⟨_, (.pointer a0), false, 3, 3, (0 :: 1 :: 2 :: 3 :: 4 :: 5 :: 6 :: 7 :: 8 :: 9 :: 10 :: 11 :: 12 :: 13 :: 14 :: 15 :: 16 :: 17 :: 18 :: 19 :: 20 :: 21 :: 22 :: 23 :: 24 :: 25 :: 26 :: 27 :: []), [(0, (.pointer a0)), (41, (.bool (v24 != (v27.n : Int))))]⟩ :: ⟨_, (.int .i64 v33), true, 3, 3, (0 :: 1 :: 2 :: 3 :: 4 :: 5 :: 6 :: 7 :: 8 :: 9 :: 10 :: 11 :: 12 :: 13 :: 14 :: 15 :: 16 :: 17 :: 18 :: 19 :: 20 :: 21 :: 22 :: 23 :: 24 :: 25 :: 26 :: 27 :: 28 :: []), [(42, (.pointer a0)), (41, (.bool (v24 != (v27.n : Int))))]⟩ :: ⟨_, (.pointer a1), false, 3, 4, (0 :: 1 :: 2 :: 3 :: 4 :: 5 :: 6 :: 7 :: 8 :: 9 :: 10 :: 11 :: 12 :: 13 :: 14 :: 15 :: 16 :: 17 :: 18 :: 19 :: 20 :: 21 :: 22 :: 23 :: 24 :: 25 :: 26 :: 27 :: []), [(1, (.pointer a1)), (41, (.bool (v24 != (v27.n : Int))))]⟩ :: ⟨_, (.pointer (some p10)), false, 3, 4, (0 :: 1 :: 2 :: 3 :: 4 :: 5 :: 6 :: 7 :: 8 :: 9 :: 10 :: 11 :: 12 :: 13 :: 14 :: 15 :: 16 :: 17 :: 18 :: 19 :: 20 :: 21 :: 22 :: 23 :: 24 :: 25 :: 26 :: 27 :: 30 :: []), [(44, (.pointer a1)), (41, (.bool (v24 != (v27.n : Int))))]⟩ :: ⟨_, (.pointer (some (p10.add 4))), false, 3, 4, (0 :: 1 :: 2 :: 3 :: 4 :: 5 :: 6 :: 7 :: 8 :: 9 :: 10 :: 11 :: 12 :: 13 :: 14 :: 15 :: 16 :: 17 :: 18 :: 19 :: 20 :: 21 :: 22 :: 23 :: 24 :: 25 :: 26 :: 27 :: 30 :: 31 :: []), [(45, (.pointer (some p10))), (41, (.bool (v24 != (v27.n : Int))))]⟩ :: ⟨_, (.int .i64 v36), false, 3, 4, (0 :: 1 :: 2 :: 3 :: 4 :: 5 :: 6 :: 7 :: 8 :: 9 :: 10 :: 11 :: 12 :: 13 :: 14 :: 15 :: 16 :: 17 :: 18 :: 19 :: 20 :: 21 :: 22 :: 23 :: 24 :: 25 :: 26 :: 27 :: 30 :: 31 :: 32 :: []), [(46, (.pointer (some (p10.add 4)))), (41, (.bool (v24 != (v27.n : Int))))]⟩ :: ⟨_, (.bool (v33 != v36)), false, 4, 4, (0 :: 1 :: 2 :: 3 :: 4 :: 5 :: 6 :: 7 :: 8 :: 9 :: 10 :: 11 :: 12 :: 13 :: 14 :: 15 :: 16 :: 17 :: 18 :: 19 :: 20 :: 21 :: 22 :: 23 :: 24 :: 25 :: 26 :: 27 :: 28 :: 29 :: 30 :: 31 :: 32 :: 33 :: []), [(43, (.int .i64 v33)), (47, (.int .i64 v36)), (41, (.bool (v24 != (v27.n : Int))))]⟩ :: ⟨_, (.bool (v33 != v36)), false, 4, 4, (0 :: 1 :: 2 :: 3 :: 4 :: 5 :: 6 :: 7 :: 8 :: 9 :: 10 :: 11 :: 12 :: 13 :: 14 :: 15 :: 16 :: 17 :: 18 :: 19 :: 20 :: 21 :: 22 :: 23 :: 24 :: 25 :: 26 :: 27 :: 28 :: 29 :: 30 :: 31 :: 32 :: 33 :: 34 :: []), [(41, (.bool (v24 != (v27.n : Int)))), (48, (.bool (v33 != v36)))]⟩ :: [])) (W := (fun j => match j with | 0 => w5 | 1 => w8 | 2 => w17 | 3 => w25 | _ => w34)) (by kernel_rfl) ha (dr_w e6) (by kernel_rfl) ?_ (reads_of (by kernel_rfl)) (by kernel_rfl) (m := 4) (by kernel_rfl) (fun a ha => ?_)
          · refine ⟨?_, ?_, ?_, ?_, ?_, ?_, ?_, ?_, ?_, ?_, ?_, ?_, ?_, ?_, ?_, ?_, ?_, ?_, ?_, ?_, ?_, ?_, ?_, ?_, ?_, ?_, ?_, ?_, ?_, ?_, ?_, ?_, ?_, ?_, ?_, ?_, trivial⟩
            · intro j _ _; exact ok_do rfl fun a ha => d_move ha rfl
            · intro j h1 h2; obtain rfl : j = 0 := Nat.le_antisymm h2 h1; exact ok_do rfl fun a ha => d_call (xs := [_]) (vs := [(.pointer a0)]) ha ⟨rfl, trivial⟩ Try.call21 (sector_Disk_Down_ok e9)
            · intro j _ _; exact ok_do rfl fun a ha => d_move ha rfl
            · intro j _ _; exact ok_do rfl fun a ha => d_nilp ha rfl e11
            · intro j _ _; exact ok_do rfl fun a ha => d_fa ha rfl Try.runUnderlying95 rfl rfl Try.sizeOf4 (by decide)
            · intro j h1 h2; have h1 : 0 ≤ j := h1; have h2 : j ≤ 1 := h2; rcases (by omega : j = 0 ∨ j = 1) with rfl | rfl
              · exact ok_do rfl fun a ha => d_ld ha rfl Try.isAgg4 (ldB_c e38)
              · exact ok_do rfl fun a ha => d_ld ha rfl Try.isAgg4 (ldB_c e13)
            · intro j _ _; exact ok_do rfl fun a ha => d_neB ha rfl rfl Try.runUnderlying4
            · intro j _ _; exact ok_do rfl fun a ha => d_move ha rfl
            · intro j _ _; exact ok_do_g rfl rfl (rfl : List.lookup 21 _ = _) (nt b14) fun a ha => d_move ha rfl
            · intro j h1 h2; obtain rfl : j = 1 := Nat.le_antisymm h2 h1; exact ok_do_g rfl rfl (rfl : List.lookup 21 _ = _) (nt b14) fun a ha => d_call (xs := [_]) (vs := [(.pointer a0)]) ha ⟨rfl, trivial⟩ Try.call20 (sector_Disk_Waits_ok e18)
            · intro j _ _; exact ok_do_g rfl rfl (rfl : List.lookup 21 _ = _) (nt b14) fun a ha => d_move ha rfl
            · intro j _ _; exact ok_do_g rfl rfl (rfl : List.lookup 21 _ = _) (nt b14) fun a ha => d_nilp ha rfl e11
            · intro j _ _; exact ok_do_g rfl rfl (rfl : List.lookup 21 _ = _) (nt b14) fun a ha => d_fa ha rfl Try.runUnderlying95 rfl rfl Try.sizeOf93 (by decide)
            · intro j h1 h2; have h1 : 1 ≤ j := h1; have h2 : j ≤ 2 := h2; rcases (by omega : j = 1 ∨ j = 2) with rfl | rfl
              · exact ok_do_g rfl rfl (rfl : List.lookup 21 _ = _) (nt b14) fun a ha => d_ld ha rfl Try.isAgg93 (ldL_c e39)
              · exact ok_do_g rfl rfl (rfl : List.lookup 21 _ = _) (nt b14) fun a ha => d_ld ha rfl Try.isAgg93 (ldL_c e20)
            · intro j _ _; exact ok_do_g rfl rfl (rfl : List.lookup 21 _ = _) (nt b14) fun a ha => d_lenS ha rfl Try.runUnderlying93
            · intro j _ _; exact ok_do_g rfl rfl (rfl : List.lookup 21 _ = _) (nt b14) fun a ha => d_ne ha rfl rfl
            · intro j _ _; exact ok_do rfl fun a ha => d_pick_f ha rfl b14 rfl
            · intro j _ _; exact ok_do rfl fun a ha => d_move ha rfl
            · intro j _ _; exact ok_do_g rfl rfl (rfl : List.lookup 31 _ = _) (nt b21) fun a ha => d_move ha rfl
            · intro j h1 h2; obtain rfl : j = 2 := Nat.le_antisymm h2 h1; exact ok_do_g rfl rfl (rfl : List.lookup 31 _ = _) (nt b21) fun a ha => d_call (xs := [_]) (vs := [(.pointer a0)]) ha ⟨rfl, trivial⟩ Try.call19 (sector_Disk_Size_ok e26)
            · intro j _ _; exact ok_do_g rfl rfl (rfl : List.lookup 31 _ = _) (nt b21) fun a ha => d_move ha rfl
            · intro j _ _; exact ok_do_g rfl rfl (rfl : List.lookup 31 _ = _) (nt b21) fun a ha => d_nilp ha rfl e11
            · intro j _ _; exact ok_do_g rfl rfl (rfl : List.lookup 31 _ = _) (nt b21) fun a ha => d_fa ha rfl Try.runUnderlying95 rfl rfl Try.sizeOf92 (by decide)
            · intro j h1 h2; have h1 : 2 ≤ j := h1; have h2 : j ≤ 3 := h2; rcases (by omega : j = 2 ∨ j = 3) with rfl | rfl
              · exact ok_do_g rfl rfl (rfl : List.lookup 31 _ = _) (nt b21) fun a ha => d_ld ha rfl Try.isAgg92 (ldL_c e40)
              · exact ok_do_g rfl rfl (rfl : List.lookup 31 _ = _) (nt b21) fun a ha => d_ld ha rfl Try.isAgg92 (ldL_c e28)
            · intro j _ _; exact ok_do_g rfl rfl (rfl : List.lookup 31 _ = _) (nt b21) fun a ha => d_lenS ha rfl Try.runUnderlying92
            · intro j _ _; exact ok_do_g rfl rfl (rfl : List.lookup 31 _ = _) (nt b21) fun a ha => d_ne ha rfl rfl
            · intro j _ _; exact ok_do rfl fun a ha => d_pick_f ha rfl b21 rfl
            · intro j _ _; exact ok_do rfl fun a ha => d_move ha rfl
            · intro j _ _; exact ok_do_g rfl rfl (rfl : List.lookup 41 _ = _) (nt b29) fun a ha => d_move ha rfl
            · intro j h1 h2; obtain rfl : j = 3 := Nat.le_antisymm h2 h1; exact ok_do_g rfl rfl (rfl : List.lookup 41 _ = _) (nt b29) fun a ha => d_call (xs := [_]) (vs := [(.pointer a0)]) ha ⟨rfl, trivial⟩ Try.call34 (sector_Disk_Age_ok e35)
            · intro j _ _; exact ok_do_g rfl rfl (rfl : List.lookup 41 _ = _) (nt b29) fun a ha => d_move ha rfl
            · intro j _ _; exact ok_do_g rfl rfl (rfl : List.lookup 41 _ = _) (nt b29) fun a ha => d_nilp ha rfl e11
            · intro j _ _; exact ok_do_g rfl rfl (rfl : List.lookup 41 _ = _) (nt b29) fun a ha => d_fa ha rfl Try.runUnderlying95 rfl rfl Try.sizeOf3 (by decide)
            · intro j h1 h2; have h1 : 3 ≤ j := h1; have h2 : j ≤ 4 := h2; rcases (by omega : j = 3 ∨ j = 4) with rfl | rfl
              · exact ok_do_g rfl rfl (rfl : List.lookup 41 _ = _) (nt b29) fun a ha => d_ld ha rfl Try.isAgg3 (ldI_c e41)
              · exact ok_do_g rfl rfl (rfl : List.lookup 41 _ = _) (nt b29) fun a ha => d_ld ha rfl Try.isAgg3 (ldI_c e37)
            · intro j _ _; exact ok_do_g rfl rfl (rfl : List.lookup 41 _ = _) (nt b29) fun a ha => d_ne ha rfl rfl
            · intro j _ _; exact ok_do rfl fun a ha => d_pick_f ha rfl b29 rfl
          · have ha : Has 105 [(0, (.pointer a0)), (1, (.pointer a1)), (49, (.bool (v33 != v36)))] a := ha.sub ⟨rfl, rfl, rfl, trivial⟩
            have hS : Has 105 [(49, (.bool (v33 != v36))), (0, (.pointer a0)), (1, (.pointer a1))] _ := ha.sub ⟨rfl, rfl, rfl, trivial⟩
            cases h
            exact hk4 _ hS

noncomputable def grapevinelaw09_SectorPlays (a0 : Int) (a1 : Sl) (w : World) : Option (Bool × World) :=
  bind4 (grapevinelaw09_play a0 a1 w) fun v1 v2 v3 w4 =>
  bind2 (bind2 (grapevinelaw09_live w4) fun v10 w11 =>
  if v10 = true then
  (if v3 = true then
  (bind2 (grapevinelaw09_same v1 v2 w11) fun v15 w16 =>
  some (v15, w16))
  else
  (some (false, w11)))
  else
  (some (false, w11))) fun v6 w7 =>
  some (v6, w7)
set_option maxHeartbeats 1000000 in
set_option maxRecDepth 100000 in
theorem grapevinelaw09_SectorPlays_ok {a0 : Int} {a1 : Sl} {w w' : World} {r0 : Bool} (h : grapevinelaw09_SectorPlays a0 a1 w = some (r0, w')) : Calls Try.prog 7 #[(.int .i64 a0), (Sl.v a1)] w fun e w'' => e = .returned (.bool r0) ∧ w'' = w' := by
  refine calls_dec (n := 24) Try.func7 rfl Try.ntmps7 (by simp) (fun a ha => ?_)
  unfold grapevinelaw09_SectorPlays at h
  refine wp_seq ?_
  refine region_lit ?_
  refine s_do rfl ha (ltd rfl) (d_assign ha rfl) (fun a ha => ?_)
  refine s_nil ?_
  refine t_n ?_
  replace ha : Has 24 [(0, (.int .i64 a0)), (1, (Sl.v a1))] _ := ha.sub ⟨rfl, rfl, trivial⟩
  refine wp_seq ?_
  refine region_lit ?_
  refine s_do rfl ha (ltd rfl) (d_move ha rfl) (fun a ha => ?_)
  refine s_do rfl ha (ltd rfl) (d_move ha rfl) (fun a ha => ?_)
  obtain ⟨v1, v2, v3, w4, e5, h⟩ := bs4 h
  refine s_do rfl ha (ltd rfl) (d_call (xs := [_, _]) (vs := [(.int .i64 a0), (Sl.v a1)]) ha ⟨rfl, rfl, trivial⟩ Try.call28 (grapevinelaw09_play_ok e5)) (fun a ha => ?_)
  refine s_do rfl ha (ltd rfl) (d_move ha rfl) (fun a ha => ?_)
  refine s_do rfl ha (ltd rfl) (d_ext ha rfl rfl) (fun a ha => ?_)
  refine s_do rfl ha (ltd rfl) (d_ext ha rfl rfl) (fun a ha => ?_)
  refine s_do rfl ha (ltd rfl) (d_ext ha rfl rfl) (fun a ha => ?_)
  refine s_do rfl ha (ltd rfl) (d_assign ha rfl) (fun a ha => ?_)
  refine s_do rfl ha (ltd rfl) (d_assign ha rfl) (fun a ha => ?_)
  refine s_do rfl ha (ltd rfl) (d_assign ha rfl) (fun a ha => ?_)
  refine s_nil ?_
  refine t_n ?_
  replace ha : Has 24 [(5, (.pointer v1)), (6, (.pointer v2)), (7, (.bool v3))] _ := ha.sub ⟨rfl, rfl, rfl, trivial⟩
  refine wp_seq ?_
  obtain ⟨v6, w7, e8, h⟩ := bs2 h
  refine reg_join (n := 24) (L := [(4, (.bool v6))]) (w' := w7) (fun a ha => ?_) (fun hk9 => ?_)
  · refine t_n ?_
    replace ha : Has 24 [(4, (.bool v6))] _ := ha.sub ⟨rfl, trivial⟩
    refine wp_ret ?_
    have hS := ha
    cases h
    exact ret1 Try.results7 hS rfl ⟨rfl, rfl⟩
  · clear h
    have h := e8
    refine region_lit ?_
    obtain ⟨v10, w11, e12, h⟩ := bs2 h
    refine s_do rfl ha (ltd rfl) (d_call (xs := []) (vs := []) ha trivial Try.call18 (grapevinelaw09_live_ok e12)) (fun a ha => ?_)
    refine s_do rfl ha (ltd rfl) (d_move ha rfl) (fun a ha => ?_)
    refine ite_s h (fun b13 h => ?_) (fun b13 h => ?_)
    · refine s_do_g2 rfl rfl ha (rfl : List.lookup 16 _ = _) b13 (ltd rfl) (d_move ha rfl) (fun a ha => ?_)
      refine s_do rfl ha (ltd rfl) (d_pick_t ha rfl b13 rfl) (fun a ha => ?_)
      refine s_do rfl ha (ltd rfl) (d_move ha rfl) (fun a ha => ?_)
      refine ite_s h (fun b14 h => ?_) (fun b14 h => ?_)
      · refine s_do_g2 rfl rfl ha (rfl : List.lookup 19 _ = _) b14 (ltd rfl) (d_move ha rfl) (fun a ha => ?_)
        refine s_do_g2 rfl rfl ha (rfl : List.lookup 19 _ = _) b14 (ltd rfl) (d_move ha rfl) (fun a ha => ?_)
        obtain ⟨v15, w16, e17, h⟩ := bs2 h
        refine s_do_g2 rfl rfl ha (rfl : List.lookup 19 _ = _) b14 (ltd rfl) (d_call (xs := [_, _]) (vs := [(.pointer v1), (.pointer v2)]) ha ⟨rfl, rfl, trivial⟩ Try.call30 (grapevinelaw09_same_ok e17)) (fun a ha => ?_)
        refine s_do rfl ha (ltd rfl) (d_pick_t ha rfl b14 rfl) (fun a ha => ?_)
        refine s_do rfl ha (ltd rfl) (d_assign ha rfl) (fun a ha => ?_)
        refine s_nil ?_
        have hS : Has 24 [(4, (.bool v15))] _ := ha.sub ⟨rfl, trivial⟩
        cases h
        exact hk9 _ hS
      · refine s_no_g rfl rfl ha (rfl : List.lookup 19 _ = _) (nn b14 _ rfl) (ltd rfl) (fun a ha => ?_)
        refine s_no_g rfl rfl ha (rfl : List.lookup 19 _ = _) (nn b14 _ rfl) (ltd rfl) (fun a ha => ?_)
        refine s_no_g rfl rfl ha (rfl : List.lookup 19 _ = _) (nn b14 _ rfl) (ltd rfl) (fun a ha => ?_)
        refine s_do rfl ha (ltd rfl) (d_pick_f ha rfl b14 rfl) (fun a ha => ?_)
        refine s_do rfl ha (ltd rfl) (d_assign ha rfl) (fun a ha => ?_)
        refine s_nil ?_
        have hS : Has 24 [(4, (.bool false))] _ := ha.sub ⟨rfl, trivial⟩
        cases h
        exact hk9 _ hS
    · refine s_no_g rfl rfl ha (rfl : List.lookup 16 _ = _) (nn b13 _ rfl) (ltd rfl) (fun a ha => ?_)
      refine s_do rfl ha (ltd rfl) (d_pick_f ha rfl b13 rfl) (fun a ha => ?_)
      refine s_do rfl ha (ltd rfl) (d_move ha rfl) (fun a ha => ?_)
      refine s_no_g rfl rfl ha (rfl : List.lookup 19 _ = _) (nn (by decide) _ rfl) (ltd rfl) (fun a ha => ?_)
      refine s_no_g rfl rfl ha (rfl : List.lookup 19 _ = _) (nn (by decide) _ rfl) (ltd rfl) (fun a ha => ?_)
      refine s_no_g rfl rfl ha (rfl : List.lookup 19 _ = _) (nn (by decide) _ rfl) (ltd rfl) (fun a ha => ?_)
      refine s_do rfl ha (ltd rfl) (d_pick_f ha rfl (by decide) rfl) (fun a ha => ?_)
      refine s_do rfl ha (ltd rfl) (d_assign ha rfl) (fun a ha => ?_)
      refine s_nil ?_
      have hS : Has 24 [(4, (.bool false))] _ := ha.sub ⟨rfl, trivial⟩
      cases h
      exact hk9 _ hS

noncomputable def slices_Clone_sector_block_sector_block (a0 : Sl) (w : World) : Option (Sl × World) :=
  if (a0.p.isNone) = true then
  (some (Sl.nil, w))
  else
  (bind2 (bsl w 86 64 []) fun s2 w3 =>
  bind2 (apS Try.prog 81 s2 a0 w3) fun s5 w6 =>
  some (s5, w6))
set_option maxHeartbeats 1000000 in
set_option maxRecDepth 100000 in
theorem slices_Clone_sector_block_sector_block_ok {a0 : Sl} {w w' : World} {r0 : Sl} (h : slices_Clone_sector_block_sector_block a0 w = some (r0, w')) : Calls Try.prog 46 #[(Sl.v a0)] w fun e w'' => e = .returned (Sl.v r0) ∧ w'' = w' := by
  refine calls_dec (n := 8) Try.func46 rfl Try.ntmps46 (by simp) (fun a ha => ?_)
  unfold slices_Clone_sector_block_sector_block at h
  refine wp_seq ?_
  refine region_lit ?_
  refine s_do rfl ha (ltd rfl) (d_assign ha rfl) (fun a ha => ?_)
  refine s_nil ?_
  refine t_n ?_
  replace ha : Has 8 [(0, (Sl.v a0))] _ := ha.sub ⟨rfl, trivial⟩
  refine wp_seq ?_
  refine wp_seq ?_
  refine region_lit ?_
  refine s_do rfl ha (ltd rfl) (d_move ha rfl) (fun a ha => ?_)
  refine s_do rfl ha (ltd rfl) (d_eqL ha rfl rfl Try.runUnderlying81) (fun a ha => ?_)
  refine s_nil ?_
  refine t_n ?_
  replace ha : Has 8 [(0, (Sl.v a0)), (4, (.bool (a0.p.isNone)))] _ := ha.sub ⟨rfl, rfl, trivial⟩
  refine s_cond ha rfl h (fun b1 h => ?_) (fun b1 h => ?_)
  · refine wp_seq ?_
    refine region_lit ?_
    refine s_do rfl ha (ltd rfl) (d_assign ha rfl) (fun a ha => ?_)
    refine s_nil ?_
    refine t_n ?_
    replace ha : Has 8 [(2, (Sl.v Sl.nil))] _ := ha.sub ⟨rfl, trivial⟩
    refine wp_ret ?_
    refine t_r ?_
    have hS := ha
    cases h
    exact ret1 Try.results46 hS rfl ⟨rfl, rfl⟩
  · refine wp_skip ?_
    refine t_n ?_
    replace ha : Has 8 [(0, (Sl.v a0))] _ := ha.sub ⟨rfl, trivial⟩
    refine wp_seq ?_
    refine region_lit ?_
    obtain ⟨s2, w3, e4, h⟩ := bs2 h
    refine s_do rfl ha (ltd rfl) (d_bsl (vs := []) (ps := []) ha trivial trivial rfl Try.runUnderlying81 Try.sizeOf86 Try.zeroValue86 (by decide) e4) (fun a ha => ?_)
    refine s_do rfl ha (ltd rfl) (d_move ha rfl) (fun a ha => ?_)
    obtain ⟨s5, w6, e7, h⟩ := bs2 h
    refine s_do rfl ha (ltd rfl) (d_apS ha rfl rfl e7) (fun a ha => ?_)
    refine s_do rfl ha (ltd rfl) (d_assign ha rfl) (fun a ha => ?_)
    refine s_nil ?_
    refine t_n ?_
    replace ha : Has 8 [(2, (Sl.v s5))] _ := ha.sub ⟨rfl, trivial⟩
    refine wp_ret ?_
    have hS := ha
    cases h
    exact ret1 Try.results46 hS rfl ⟨rfl, rfl⟩

noncomputable def slices_Clone_sector_write_sector_write (a0 : Sl) (w : World) : Option (Sl × World) :=
  if (a0.p.isNone) = true then
  (some (Sl.nil, w))
  else
  (bind2 (bsl w 88 65 []) fun s2 w3 =>
  bind2 (apS Try.prog 82 s2 a0 w3) fun s5 w6 =>
  some (s5, w6))
set_option maxHeartbeats 1000000 in
set_option maxRecDepth 100000 in
theorem slices_Clone_sector_write_sector_write_ok {a0 : Sl} {w w' : World} {r0 : Sl} (h : slices_Clone_sector_write_sector_write a0 w = some (r0, w')) : Calls Try.prog 47 #[(Sl.v a0)] w fun e w'' => e = .returned (Sl.v r0) ∧ w'' = w' := by
  refine calls_dec (n := 8) Try.func47 rfl Try.ntmps47 (by simp) (fun a ha => ?_)
  unfold slices_Clone_sector_write_sector_write at h
  refine wp_seq ?_
  refine region_lit ?_
  refine s_do rfl ha (ltd rfl) (d_assign ha rfl) (fun a ha => ?_)
  refine s_nil ?_
  refine t_n ?_
  replace ha : Has 8 [(0, (Sl.v a0))] _ := ha.sub ⟨rfl, trivial⟩
  refine wp_seq ?_
  refine wp_seq ?_
  refine region_lit ?_
  refine s_do rfl ha (ltd rfl) (d_move ha rfl) (fun a ha => ?_)
  refine s_do rfl ha (ltd rfl) (d_eqL ha rfl rfl Try.runUnderlying82) (fun a ha => ?_)
  refine s_nil ?_
  refine t_n ?_
  replace ha : Has 8 [(0, (Sl.v a0)), (4, (.bool (a0.p.isNone)))] _ := ha.sub ⟨rfl, rfl, trivial⟩
  refine s_cond ha rfl h (fun b1 h => ?_) (fun b1 h => ?_)
  · refine wp_seq ?_
    refine region_lit ?_
    refine s_do rfl ha (ltd rfl) (d_assign ha rfl) (fun a ha => ?_)
    refine s_nil ?_
    refine t_n ?_
    replace ha : Has 8 [(2, (Sl.v Sl.nil))] _ := ha.sub ⟨rfl, trivial⟩
    refine wp_ret ?_
    refine t_r ?_
    have hS := ha
    cases h
    exact ret1 Try.results47 hS rfl ⟨rfl, rfl⟩
  · refine wp_skip ?_
    refine t_n ?_
    replace ha : Has 8 [(0, (Sl.v a0))] _ := ha.sub ⟨rfl, trivial⟩
    refine wp_seq ?_
    refine region_lit ?_
    obtain ⟨s2, w3, e4, h⟩ := bs2 h
    refine s_do rfl ha (ltd rfl) (d_bsl (vs := []) (ps := []) ha trivial trivial rfl Try.runUnderlying82 Try.sizeOf88 Try.zeroValue88 (by decide) e4) (fun a ha => ?_)
    refine s_do rfl ha (ltd rfl) (d_move ha rfl) (fun a ha => ?_)
    obtain ⟨s5, w6, e7, h⟩ := bs2 h
    refine s_do rfl ha (ltd rfl) (d_apS ha rfl rfl e7) (fun a ha => ?_)
    refine s_do rfl ha (ltd rfl) (d_assign ha rfl) (fun a ha => ?_)
    refine s_nil ?_
    refine t_n ?_
    replace ha : Has 8 [(2, (Sl.v s5))] _ := ha.sub ⟨rfl, trivial⟩
    refine wp_ret ?_
    have hS := ha
    cases h
    exact ret1 Try.results47 hS rfl ⟨rfl, rfl⟩

noncomputable def sector_Disk_Fork (a0 : Option Addr) (w : World) : Option ((Option Addr) × World) :=
  if (a0.isNone) = true then
  (some (none, w))
  else
  ((a0).bind fun p2 =>
  (ldA 5 w p2 0).bind fun c4 =>
  bind2 (mk w 84 ([.slice none 0 0, .slice none 0 0, .int .i64 0, .bool false, .int .i64 0])) fun p6 w7 =>
  (stA w7 p6 0 c4).bind fun w9 =>
  (dr w9).bind fun w11 =>
  (ldL w11 (p2.add 0)).bind fun v13 =>
  bind2 (slices_Clone_sector_block_sector_block v13 w11) fun v15 w16 =>
  (ldL w16 (p2.add 1)).bind fun v18 =>
  bind2 (slices_Clone_sector_write_sector_write v18 w16) fun v20 w21 =>
  (stV w21 (p6.add 0) (Sl.v v15)).bind fun w23 =>
  (stV w23 (p6.add 1) (Sl.v v20)).bind fun w25 =>
  chk (ldL w11 (p2.add 1) = some v18) <|
  some ((some p6), w25))
set_option maxHeartbeats 1000000 in
set_option maxRecDepth 100000 in
theorem sector_Disk_Fork_ok {a0 : Option Addr} {w w' : World} {r0 : Option Addr} (h : sector_Disk_Fork a0 w = some (r0, w')) : Calls Try.prog 31 #[(.pointer a0)] w fun e w'' => e = .returned (.pointer r0) ∧ w'' = w' := by
  refine calls_dec (n := 21) Try.func31 rfl Try.ntmps31 (by simp) (fun a ha => ?_)
  unfold sector_Disk_Fork at h
  refine wp_seq ?_
  refine region_lit ?_
  refine s_do rfl ha (ltd rfl) (d_assign ha rfl) (fun a ha => ?_)
  refine s_nil ?_
  refine t_n ?_
  replace ha : Has 21 [(0, (.pointer a0))] _ := ha.sub ⟨rfl, trivial⟩
  refine wp_seq ?_
  refine wp_seq ?_
  refine region_lit ?_
  refine s_do rfl ha (ltd rfl) (d_move ha rfl) (fun a ha => ?_)
  refine s_do rfl ha (ltd rfl) (d_eqN ha rfl rfl Try.runUnderlying22) (fun a ha => ?_)
  refine s_nil ?_
  refine t_n ?_
  replace ha : Has 21 [(0, (.pointer a0)), (5, (.bool (a0.isNone)))] _ := ha.sub ⟨rfl, rfl, trivial⟩
  refine s_cond ha rfl h (fun b1 h => ?_) (fun b1 h => ?_)
  · refine wp_seq ?_
    refine region_lit ?_
    refine s_do rfl ha (ltd rfl) (d_assign ha rfl) (fun a ha => ?_)
    refine s_nil ?_
    refine t_n ?_
    replace ha : Has 21 [(2, (.pointer none))] _ := ha.sub ⟨rfl, trivial⟩
    refine wp_ret ?_
    refine t_r ?_
    have hS := ha
    cases h
    exact ret1 Try.results31 hS rfl ⟨rfl, rfl⟩
  · refine wp_skip ?_
    refine t_n ?_
    replace ha : Has 21 [(0, (.pointer a0))] _ := ha.sub ⟨rfl, trivial⟩
    refine wp_seq ?_
    refine region_lit ?_
    refine s_do rfl ha (ltd rfl) (d_move ha rfl) (fun a ha => ?_)
    obtain ⟨p2, e3, h⟩ := bs1 h
    refine s_do rfl ha (ltd rfl) (d_nilp ha rfl e3) (fun a ha => ?_)
    obtain ⟨c4, e5, h⟩ := bs1 h
    refine s_do rfl ha (ltd rfl) (d_ldA ha rfl Try.isAgg84 Try.sizeOf84 e5) (fun a ha => ?_)
    obtain ⟨p6, w7, e8, h⟩ := bs2 h
    refine s_do rfl ha (ltd rfl) (d_alloc Try.zeroValue84 (by kernel_rfl) e8) (fun a ha => ?_)
    obtain ⟨w9, e10, h⟩ := bs1 h
    refine s_do rfl ha (ltd rfl) (d_stA ha rfl rfl Try.sizeOf84 ((ldA_c e5).1) e10) (fun a ha => ?_)
    refine s_nil ?_
    refine t_n ?_
    replace ha : Has 21 [(0, (.pointer a0)), (3, (.pointer (some p6)))] _ := ha.sub ⟨rfl, rfl, trivial⟩
    refine wp_seq ?_
    obtain ⟨w11, e12, h⟩ := bs1 h
    obtain ⟨v13, e14, h⟩ := bs1 h
    obtain ⟨v15, w16, e17, h⟩ := bs2 h
    obtain ⟨v18, e19, h⟩ := bs1 h
    obtain ⟨v20, w21, e22, h⟩ := bs2 h
    obtain ⟨w23, e24, h⟩ := bs1 h
    obtain ⟨w25, e26, h⟩ := bs1 h
    obtain ⟨e27, h⟩ := chk_some h
    have ha : Has 21 [(0, (.pointer a0)), (3, (.pointer (some p6)))] a := ha.sub ⟨rfl, rfl, trivial⟩
    refine region_draw (n := 21) (ds := (⟨_, (.pointer a0), false, 0, 0, [], [(0, (.pointer a0))]⟩ :: ⟨_, (.pointer (some p2)), false, 0, 0, [0], [(9, (.pointer a0))]⟩ :: ⟨_, (.pointer (some (p2.add 0))), false, 0, 0, [0, 1], [(10, (.pointer (some p2)))]⟩ :: ⟨_, (Sl.v v13), false, 0, 0, [0, 1, 2], [(11, (.pointer (some (p2.add 0))))]⟩ :: ⟨_, (Sl.v v15), true, 0, 0, [0, 1, 2, 3], [(12, (Sl.v v13))]⟩ :: ⟨_, (.pointer a0), false, 0, 1, [], [(0, (.pointer a0))]⟩ :: ⟨_, (.pointer (some p2)), false, 0, 1, [5], [(14, (.pointer a0))]⟩ :: ⟨_, (.pointer (some (p2.add 1))), false, 0, 1, [5, 6], [(15, (.pointer (some p2)))]⟩ :: ⟨_, (Sl.v v18), false, 0, 1, [5, 6, 7], [(16, (.pointer (some (p2.add 1))))]⟩ :: ⟨_, (Sl.v v20), true, 1, 1, [0, 1, 2, 3, 4, 5, 6, 7, 8], [(17, (Sl.v v18))]⟩ :: ⟨_, (.pointer (some (p6.add 0))), false, 2, 2, [0, 1, 2, 3, 4, 5, 6, 7, 8, 9], [(3, (.pointer (some p6)))]⟩ :: ⟨_, undef, true, 2, 2, [0, 1, 2, 3, 4, 5, 6, 7, 8, 9, 10], [(19, (.pointer (some (p6.add 0)))), (13, (Sl.v v15))]⟩ :: ⟨_, (.pointer (some (p6.add 1))), false, 3, 3, [0, 1, 2, 3, 4, 5, 6, 7, 8, 9, 10, 11], [(3, (.pointer (some p6)))]⟩ :: ⟨_, undef, true, 3, 3, (0 :: 1 :: 2 :: 3 :: 4 :: 5 :: 6 :: 7 :: 8 :: 9 :: 10 :: 11 :: 12 :: []), [(20, (.pointer (some (p6.add 1)))), (18, (Sl.v v20))]⟩ :: [])) (W := (fun j => match j with | 0 => w11 | 1 => w16 | 2 => w21 | 3 => w23 | _ => w25)) (by kernel_rfl) ha (dr_w e12) (by kernel_rfl) ?_ (reads_of (by kernel_rfl)) (by kernel_rfl) (m := 4) (by kernel_rfl) (fun a ha => ?_)
    · refine ⟨?_, ?_, ?_, ?_, ?_, ?_, ?_, ?_, ?_, ?_, ?_, ?_, ?_, ?_, trivial⟩
      · intro j _ _; exact ok_do rfl fun a ha => d_move ha rfl
      · intro j _ _; exact ok_do rfl fun a ha => d_nilp ha rfl e3
      · intro j _ _; exact ok_do rfl fun a ha => d_fa ha rfl Try.runUnderlying84 rfl rfl Try.sizeOf81 (by decide)
      · intro j h1 h2; obtain rfl : j = 0 := Nat.le_antisymm h2 h1; exact ok_do rfl fun a ha => d_ld ha rfl Try.isAgg81 (ldL_c e14)
      · intro j h1 h2; obtain rfl : j = 0 := Nat.le_antisymm h2 h1; exact ok_do rfl fun a ha => d_call (xs := [_]) (vs := [(Sl.v v13)]) ha ⟨rfl, trivial⟩ Try.call46 (slices_Clone_sector_block_sector_block_ok e17)
      · intro j _ _; exact ok_do rfl fun a ha => d_move ha rfl
      · intro j _ _; exact ok_do rfl fun a ha => d_nilp ha rfl e3
      · intro j _ _; exact ok_do rfl fun a ha => d_fa ha rfl Try.runUnderlying84 rfl rfl Try.sizeOf82 (by decide)
      · intro j h1 h2; have h1 : 0 ≤ j := h1; have h2 : j ≤ 1 := h2; rcases (by omega : j = 0 ∨ j = 1) with rfl | rfl
        · exact ok_do rfl fun a ha => d_ld ha rfl Try.isAgg82 (ldL_c e27)
        · exact ok_do rfl fun a ha => d_ld ha rfl Try.isAgg82 (ldL_c e19)
      · intro j h1 h2; obtain rfl : j = 1 := Nat.le_antisymm h2 h1; exact ok_do rfl fun a ha => d_call (xs := [_]) (vs := [(Sl.v v18)]) ha ⟨rfl, trivial⟩ Try.call47 (slices_Clone_sector_write_sector_write_ok e22)
      · intro j _ _; exact ok_do rfl fun a ha => d_fa ha rfl Try.runUnderlying84 rfl rfl Try.sizeOf81 (by decide)
      · intro j h1 h2; obtain rfl : j = 2 := Nat.le_antisymm h2 h1; exact ok_do rfl fun a ha => d_st ha rfl rfl Try.sizeOf81 e24
      · intro j _ _; exact ok_do rfl fun a ha => d_fa ha rfl Try.runUnderlying84 rfl rfl Try.sizeOf82 (by decide)
      · intro j h1 h2; obtain rfl : j = 3 := Nat.le_antisymm h2 h1; exact ok_do rfl fun a ha => d_st ha rfl rfl Try.sizeOf82 e26
    · have ha : Has 21 [(3, (.pointer (some p6)))] a := ha.sub ⟨rfl, trivial⟩
      refine t_n ?_
      replace ha : Has 21 [(3, (.pointer (some p6)))] _ := ha.sub ⟨rfl, trivial⟩
      refine wp_seq ?_
      refine region_lit ?_
      refine s_do rfl ha (ltd rfl) (d_assign ha rfl) (fun a ha => ?_)
      refine s_nil ?_
      refine t_n ?_
      replace ha : Has 21 [(2, (.pointer (some p6)))] _ := ha.sub ⟨rfl, trivial⟩
      refine wp_ret ?_
      have hS := ha
      cases h
      exact ret1 Try.results31 hS rfl ⟨rfl, rfl⟩

noncomputable def grapevinelaw09_SectorAll_l1 (v1 : Option Addr) (x13 : Sl) (x14 : Int) (w15 : World) : Option ((Sl × Int × World) ⊕ (Sl × World)) :=
  bind2 (sector_Disk_Waits v1 w15) fun v22 w23 =>
  if (decide (x14 < v22)) = true then
  (bind2 (bsl w23 3 1 [[(.int .i64 1)]]) fun s26 w27 =>
  bind2 (apS Try.prog 35 x13 s26 w27) fun s29 w30 =>
  some (.inl (s29, (IntKind.wrap .i64 (x14 + 1)), w30)))
  else
  (some (.inr (x13, w23)))
noncomputable def grapevinelaw09_SectorAll_l2 (v1 : Option Addr) (v10 : Option Addr) (v7 : Option Addr) (x38 : Int) (w39 : World) : Option ((Int × World) ⊕ ((World) ⊕ (Bool × World))) :=
  bind2 (sector_Disk_Size v1 w39) fun v48 w49 =>
  if (decide (x38 < v48)) = true then
  (bindX (bind3 (sector_Disk_Sure v1 x38 w49) fun v58 v59 w60 =>
  bind3 (sector_Disk_Read v10 x38 w60) fun v62 v63 w64 =>
  bind3 (sector_Disk_Read v7 x38 w64) fun v66 v67 w68 =>
  bind2 (if (v63 != 0) = true then
  (some (true, w68))
  else
  (if (v67 != 0) = true then
  (some (true, w68))
  else
  ((b2s v58 w68).bind fun s76 =>
  (b2s v62 w68).bind fun s78 =>
  some ((!sEq s76 s78), w68)))) fun v70 w71 =>
  if v70 = true then
  ((some (.inr (.inr (false, w71)))).bind fun g57 => some (.inl g57))
  else
  (bind2 (sector_Disk_Down v1 w71) fun v82 w83 =>
  if (!v82) = true then
  (bind3 (sector_Disk_Read v1 x38 w83) fun v86 v87 w88 =>
  bind2 (if (v87 != 0) = true then
  (some (true, w88))
  else
  ((b2s v66 w88).bind fun s95 =>
  (b2s v86 w88).bind fun s97 =>
  some ((!sEq s95 s97), w88))) fun v90 w91 =>
  if v90 = true then
  ((some (.inr (.inr (false, w91)))).bind fun g57 => some (.inl g57))
  else
  (some (.inr w91)))
  else
  (some (.inr w83)))) some fun (i : World) => u1 i fun w52 =>
  some (.inl ((IntKind.wrap .i64 (x38 + 1)), w52)))
  else
  (some (.inr (.inl w49)))
noncomputable def grapevinelaw09_SectorAll (a0 : Sl) (w : World) : Option (Bool × World) :=
  bind4 (grapevinelaw09_play 5 a0 w) fun v1 v2 v3 w4 =>
  if (!v3) = true then
  (some (false, w4))
  else
  (bind2 (sector_Disk_Fork v1 w4) fun v7 w8 =>
  bind2 (sector_Disk_Fork v1 w8) fun v10 w11 =>
  bind2 (loopF (fun s : Sl × Int × World => grapevinelaw09_SectorAll_l1 v1 s.1 s.2.1 s.2.2) (Sl.nil, 0, w11)) fun v18 w19 =>
  bind2 (sector_Disk_Crash v7 v18 w19) fun v32 w33 =>
  bind2 (sector_Disk_Crash v10 Sl.nil w33) fun v35 w36 =>
  (loopF (fun s : Int × World => grapevinelaw09_SectorAll_l2 v1 v10 v7 s.1 s.2) (0, w36)).bind fun r40 => Sum.elim (fun (i : World) => u1 i fun w42 =>
  bind2 (bind2 (grapevinelaw09_live w42) fun v105 w106 =>
  if v105 = true then
  (bind2 (sector_Disk_Waits v7 w106) fun v109 w110 =>
  if (v109 == 0) = true then
  (bind2 (sector_Disk_Waits v10 w110) fun v113 w114 =>
  if (v113 == 0) = true then
  (bind2 (sector_Disk_Down v7 w114) fun v117 w118 =>
  some ((!v117), w118))
  else
  (some (false, w114)))
  else
  (some (false, w110)))
  else
  (some (false, w106))) fun v101 w102 =>
  some (v101, w102)) (fun (i : Bool × World) => u2 i fun v43 w44 =>
  some (v43, w44)) r40)
set_option maxHeartbeats 1000000 in
set_option maxRecDepth 100000 in
theorem grapevinelaw09_SectorAll_ok {a0 : Sl} {w w' : World} {r0 : Bool} (h : grapevinelaw09_SectorAll a0 w = some (r0, w')) : Calls Try.prog 8 #[(Sl.v a0)] w fun e w'' => e = .returned (.bool r0) ∧ w'' = w' := by
  refine calls_dec (n := 116) Try.func8 rfl Try.ntmps8 (by simp) (fun a ha => ?_)
  unfold grapevinelaw09_SectorAll at h
  refine wp_seq ?_
  refine region_lit ?_
  refine s_do rfl ha (ltd rfl) (d_assign ha rfl) (fun a ha => ?_)
  refine s_nil ?_
  refine t_n ?_
  replace ha : Has 116 [(0, (Sl.v a0))] _ := ha.sub ⟨rfl, trivial⟩
  refine wp_seq ?_
  refine region_lit ?_
  refine s_do rfl ha (ltd rfl) (d_move ha rfl) (fun a ha => ?_)
  obtain ⟨v1, v2, v3, w4, e5, h⟩ := bs4 h
  refine s_do rfl ha (ltd rfl) (d_call (xs := [_, _]) (vs := [(.int .i64 5), (Sl.v a0)]) ha ⟨rfl, rfl, trivial⟩ Try.call28 (grapevinelaw09_play_ok e5)) (fun a ha => ?_)
  refine s_do rfl ha (ltd rfl) (d_move ha rfl) (fun a ha => ?_)
  refine s_do rfl ha (ltd rfl) (d_ext ha rfl rfl) (fun a ha => ?_)
  refine s_do rfl ha (ltd rfl) (d_ext ha rfl rfl) (fun a ha => ?_)
  refine s_do rfl ha (ltd rfl) (d_ext ha rfl rfl) (fun a ha => ?_)
  refine s_do rfl ha (ltd rfl) (d_assign ha rfl) (fun a ha => ?_)
  refine s_do rfl ha (ltd rfl) (d_assign ha rfl) (fun a ha => ?_)
  refine s_do rfl ha (ltd rfl) (d_assign ha rfl) (fun a ha => ?_)
  refine s_nil ?_
  refine t_n ?_
  replace ha : Has 116 [(3, (.pointer v1)), (5, (.bool v3))] _ := ha.sub ⟨rfl, rfl, trivial⟩
  refine wp_seq ?_
  refine wp_seq ?_
  refine region_lit ?_
  refine s_do rfl ha (ltd rfl) (d_move ha rfl) (fun a ha => ?_)
  refine s_do rfl ha (ltd rfl) (d_not ha rfl) (fun a ha => ?_)
  refine s_nil ?_
  refine t_n ?_
  replace ha : Has 116 [(3, (.pointer v1)), (26, (.bool (!v3)))] _ := ha.sub ⟨rfl, rfl, trivial⟩
  refine s_cond ha rfl h (fun b6 h => ?_) (fun b6 h => ?_)
  · refine wp_seq ?_
    refine region_lit ?_
    refine s_do rfl ha (ltd rfl) (d_assign ha rfl) (fun a ha => ?_)
    refine s_nil ?_
    refine t_n ?_
    replace ha : Has 116 [(2, (.bool false))] _ := ha.sub ⟨rfl, trivial⟩
    refine wp_ret ?_
    refine t_r ?_
    have hS := ha
    cases h
    exact ret1 Try.results8 hS rfl ⟨rfl, rfl⟩
  · refine wp_skip ?_
    refine t_n ?_
    replace ha : Has 116 [(3, (.pointer v1))] _ := ha.sub ⟨rfl, trivial⟩
    refine wp_seq ?_
    refine region_lit ?_
    refine s_do rfl ha (ltd rfl) (d_move ha rfl) (fun a ha => ?_)
    obtain ⟨v7, w8, e9, h⟩ := bs2 h
    refine s_do rfl ha (ltd rfl) (d_call (xs := [_]) (vs := [(.pointer v1)]) ha ⟨rfl, trivial⟩ Try.call31 (sector_Disk_Fork_ok e9)) (fun a ha => ?_)
    refine s_do rfl ha (ltd rfl) (d_move ha rfl) (fun a ha => ?_)
    obtain ⟨v10, w11, e12, h⟩ := bs2 h
    refine s_do rfl ha (ltd rfl) (d_call (xs := [_]) (vs := [(.pointer v1)]) ha ⟨rfl, trivial⟩ Try.call31 (sector_Disk_Fork_ok e12)) (fun a ha => ?_)
    refine s_do rfl ha (ltd rfl) (d_assign ha rfl) (fun a ha => ?_)
    refine s_do rfl ha (ltd rfl) (d_assign ha rfl) (fun a ha => ?_)
    refine s_nil ?_
    refine t_n ?_
    replace ha : Has 116 [(3, (.pointer v1)), (6, (.pointer v7)), (7, (.pointer v10))] _ := ha.sub ⟨rfl, rfl, rfl, trivial⟩
    refine wp_seq ?_
    refine region_lit ?_
    refine s_do rfl ha (ltd rfl) (d_assign ha rfl) (fun a ha => ?_)
    refine s_nil ?_
    refine t_n ?_
    replace ha : Has 116 [(3, (.pointer v1)), (6, (.pointer v7)), (7, (.pointer v10)), (8, (Sl.v Sl.nil))] _ := ha.sub ⟨rfl, rfl, rfl, rfl, trivial⟩
    refine wp_seq ?_
    refine wp_seq ?_
    refine region_lit ?_
    refine s_do rfl ha (ltd rfl) (d_assign ha rfl) (fun a ha => ?_)
    refine s_nil ?_
    refine t_n ?_
    replace ha : Has 116 [(3, (.pointer v1)), (6, (.pointer v7)), (7, (.pointer v10)), (8, (Sl.v Sl.nil)), (9, (.int .i64 0))] _ := ha.sub ⟨rfl, rfl, rfl, rfl, rfl, trivial⟩
    refine wp_block ?_
    obtain ⟨v18, w19, e17, h⟩ := bs2 h
    refine s_loop1 (n := 116) (L := [(8, (Sl.v v18)), (3, (.pointer v1)), (6, (.pointer v7)), (7, (.pointer v10))]) (w' := w19) (e := .exit 0) (I := fun (s : Sl × Int × World) a w => Has 116 [(8, (Sl.v s.1)), (9, (.int .i64 s.2.1)), (3, (.pointer v1)), (6, (.pointer v7)), (7, (.pointer v10))] a ∧ w = s.2.2) ⟨ha.sub ⟨rfl, rfl, rfl, rfl, rfl, trivial⟩, rfl⟩ e17 (fun a ha => ?_) (fun hk20 => ?_)
    · refine b_hit ?_
      refine t_n ?_
      replace ha : Has 116 [(3, (.pointer v1)), (6, (.pointer v7)), (7, (.pointer v10)), (8, (Sl.v v18))] _ := ha.sub ⟨rfl, rfl, rfl, rfl, trivial⟩
      refine wp_seq ?_
      refine region_lit ?_
      refine s_do rfl ha (ltd rfl) (d_move ha rfl) (fun a ha => ?_)
      refine s_do rfl ha (ltd rfl) (d_move ha rfl) (fun a ha => ?_)
      obtain ⟨v32, w33, e34, h⟩ := bs2 h
      refine s_do rfl ha (ltd rfl) (d_call (xs := [_, _]) (vs := [(.pointer v7), (Sl.v v18)]) ha ⟨rfl, rfl, trivial⟩ Try.call26 (sector_Disk_Crash_ok e34)) (fun a ha => ?_)
      refine s_nil ?_
      refine t_n ?_
      replace ha : Has 116 [(3, (.pointer v1)), (6, (.pointer v7)), (7, (.pointer v10))] _ := ha.sub ⟨rfl, rfl, rfl, trivial⟩
      refine wp_seq ?_
      refine region_lit ?_
      refine s_do rfl ha (ltd rfl) (d_move ha rfl) (fun a ha => ?_)
      obtain ⟨v35, w36, e37, h⟩ := bs2 h
      refine s_do rfl ha (ltd rfl) (d_call (xs := [_, _]) (vs := [(.pointer v10), (Sl.v Sl.nil)]) ha ⟨rfl, rfl, trivial⟩ Try.call26 (sector_Disk_Crash_ok e37)) (fun a ha => ?_)
      refine s_nil ?_
      refine t_n ?_
      replace ha : Has 116 [(3, (.pointer v1)), (6, (.pointer v7)), (7, (.pointer v10))] _ := ha.sub ⟨rfl, rfl, rfl, trivial⟩
      refine wp_seq ?_
      refine wp_seq ?_
      refine region_lit ?_
      refine s_do rfl ha (ltd rfl) (d_assign ha rfl) (fun a ha => ?_)
      refine s_nil ?_
      refine t_n ?_
      replace ha : Has 116 [(3, (.pointer v1)), (6, (.pointer v7)), (7, (.pointer v10)), (10, (.int .i64 0))] _ := ha.sub ⟨rfl, rfl, rfl, rfl, trivial⟩
      refine wp_block ?_
      obtain ⟨r40, e41, h⟩ := bs1 h
      refine s_loop2 (n := 116) (L1 := fun i => [(6, (.pointer v7)), (7, (.pointer v10))]) (w1 := fun i => i) (L2 := fun i => [(2, (.bool i.1))]) (w2 := fun i => i.2) (e1 := .exit 2) (e2 := .ret) (I := fun (s : Int × World) a w => Has 116 [(10, (.int .i64 s.1)), (3, (.pointer v1)), (6, (.pointer v7)), (7, (.pointer v10))] a ∧ w = s.2) ⟨ha.sub ⟨rfl, rfl, rfl, rfl, trivial⟩, rfl⟩ e41 (fun i hi a ha => ?_) (fun i hi a ha => ?_) (fun hk45 hk46 => ?_)
      · subst hi
        obtain w42 := i
        dsimp only [Sum.elim_inl, Sum.elim_inr, u1, u2, u3, u4, u5, u6] at h
        have ha : Has 116 [(6, (.pointer v7)), (7, (.pointer v10))] a := ha
        refine b_hit ?_
        refine t_n ?_
        replace ha : Has 116 [(6, (.pointer v7)), (7, (.pointer v10))] _ := ha.sub ⟨rfl, rfl, trivial⟩
        refine wp_seq ?_
        obtain ⟨v101, w102, e103, h⟩ := bs2 h
        refine reg_join (n := 116) (L := [(2, (.bool v101))]) (w' := w102) (fun a ha => ?_) (fun hk104 => ?_)
        · refine t_n ?_
          replace ha : Has 116 [(2, (.bool v101))] _ := ha.sub ⟨rfl, trivial⟩
          refine wp_ret ?_
          have hS := ha
          cases h
          exact ret1 Try.results8 hS rfl ⟨rfl, rfl⟩
        · clear h
          have h := e103
          refine region_lit ?_
          obtain ⟨v105, w106, e107, h⟩ := bs2 h
          refine s_do rfl ha (ltd rfl) (d_call (xs := []) (vs := []) ha trivial Try.call18 (grapevinelaw09_live_ok e107)) (fun a ha => ?_)
          refine s_do rfl ha (ltd rfl) (d_move ha rfl) (fun a ha => ?_)
          refine ite_s h (fun b108 h => ?_) (fun b108 h => ?_)
          · refine s_do_g2 rfl rfl ha (rfl : List.lookup 101 _ = _) b108 (ltd rfl) (d_move ha rfl) (fun a ha => ?_)
            obtain ⟨v109, w110, e111, h⟩ := bs2 h
            refine s_do_g2 rfl rfl ha (rfl : List.lookup 101 _ = _) b108 (ltd rfl) (d_call (xs := [_]) (vs := [(.pointer v7)]) ha ⟨rfl, trivial⟩ Try.call20 (sector_Disk_Waits_ok e111)) (fun a ha => ?_)
            refine s_do_g2 rfl rfl ha (rfl : List.lookup 101 _ = _) b108 (ltd rfl) (d_eq ha rfl rfl) (fun a ha => ?_)
            refine s_do rfl ha (ltd rfl) (d_pick_t ha rfl b108 rfl) (fun a ha => ?_)
            refine s_do rfl ha (ltd rfl) (d_move ha rfl) (fun a ha => ?_)
            refine ite_s h (fun b112 h => ?_) (fun b112 h => ?_)
            · refine s_do_g2 rfl rfl ha (rfl : List.lookup 106 _ = _) b112 (ltd rfl) (d_move ha rfl) (fun a ha => ?_)
              obtain ⟨v113, w114, e115, h⟩ := bs2 h
              refine s_do_g2 rfl rfl ha (rfl : List.lookup 106 _ = _) b112 (ltd rfl) (d_call (xs := [_]) (vs := [(.pointer v10)]) ha ⟨rfl, trivial⟩ Try.call20 (sector_Disk_Waits_ok e115)) (fun a ha => ?_)
              refine s_do_g2 rfl rfl ha (rfl : List.lookup 106 _ = _) b112 (ltd rfl) (d_eq ha rfl rfl) (fun a ha => ?_)
              refine s_do rfl ha (ltd rfl) (d_pick_t ha rfl b112 rfl) (fun a ha => ?_)
              refine s_do rfl ha (ltd rfl) (d_move ha rfl) (fun a ha => ?_)
              refine ite_s h (fun b116 h => ?_) (fun b116 h => ?_)
              · refine s_do_g2 rfl rfl ha (rfl : List.lookup 111 _ = _) b116 (ltd rfl) (d_move ha rfl) (fun a ha => ?_)
                obtain ⟨v117, w118, e119, h⟩ := bs2 h
                refine s_do_g2 rfl rfl ha (rfl : List.lookup 111 _ = _) b116 (ltd rfl) (d_call (xs := [_]) (vs := [(.pointer v7)]) ha ⟨rfl, trivial⟩ Try.call21 (sector_Disk_Down_ok e119)) (fun a ha => ?_)
                refine s_do_g2 rfl rfl ha (rfl : List.lookup 111 _ = _) b116 (ltd rfl) (d_not ha rfl) (fun a ha => ?_)
                refine s_do rfl ha (ltd rfl) (d_pick_t ha rfl b116 rfl) (fun a ha => ?_)
                refine s_do rfl ha (ltd rfl) (d_assign ha rfl) (fun a ha => ?_)
                refine s_nil ?_
                have hS : Has 116 [(2, (.bool (!v117)))] _ := ha.sub ⟨rfl, trivial⟩
                cases h
                exact hk104 _ hS
              · refine s_no_g rfl rfl ha (rfl : List.lookup 111 _ = _) (nn b116 _ rfl) (ltd rfl) (fun a ha => ?_)
                refine s_no_g rfl rfl ha (rfl : List.lookup 111 _ = _) (nn b116 _ rfl) (ltd rfl) (fun a ha => ?_)
                refine s_no_g rfl rfl ha (rfl : List.lookup 111 _ = _) (nn b116 _ rfl) (ltd rfl) (fun a ha => ?_)
                refine s_do rfl ha (ltd rfl) (d_pick_f ha rfl b116 rfl) (fun a ha => ?_)
                refine s_do rfl ha (ltd rfl) (d_assign ha rfl) (fun a ha => ?_)
                refine s_nil ?_
                have hS : Has 116 [(2, (.bool false))] _ := ha.sub ⟨rfl, trivial⟩
                cases h
                exact hk104 _ hS
            · refine s_no_g rfl rfl ha (rfl : List.lookup 106 _ = _) (nn b112 _ rfl) (ltd rfl) (fun a ha => ?_)
              refine s_no_g rfl rfl ha (rfl : List.lookup 106 _ = _) (nn b112 _ rfl) (ltd rfl) (fun a ha => ?_)
              refine s_no_g rfl rfl ha (rfl : List.lookup 106 _ = _) (nn b112 _ rfl) (ltd rfl) (fun a ha => ?_)
              refine s_do rfl ha (ltd rfl) (d_pick_f ha rfl b112 rfl) (fun a ha => ?_)
              refine s_do rfl ha (ltd rfl) (d_move ha rfl) (fun a ha => ?_)
              refine s_no_g rfl rfl ha (rfl : List.lookup 111 _ = _) (nn (by decide) _ rfl) (ltd rfl) (fun a ha => ?_)
              refine s_no_g rfl rfl ha (rfl : List.lookup 111 _ = _) (nn (by decide) _ rfl) (ltd rfl) (fun a ha => ?_)
              refine s_no_g rfl rfl ha (rfl : List.lookup 111 _ = _) (nn (by decide) _ rfl) (ltd rfl) (fun a ha => ?_)
              refine s_do rfl ha (ltd rfl) (d_pick_f ha rfl (by decide) rfl) (fun a ha => ?_)
              refine s_do rfl ha (ltd rfl) (d_assign ha rfl) (fun a ha => ?_)
              refine s_nil ?_
              have hS : Has 116 [(2, (.bool false))] _ := ha.sub ⟨rfl, trivial⟩
              cases h
              exact hk104 _ hS
          · refine s_no_g rfl rfl ha (rfl : List.lookup 101 _ = _) (nn b108 _ rfl) (ltd rfl) (fun a ha => ?_)
            refine s_no_g rfl rfl ha (rfl : List.lookup 101 _ = _) (nn b108 _ rfl) (ltd rfl) (fun a ha => ?_)
            refine s_no_g rfl rfl ha (rfl : List.lookup 101 _ = _) (nn b108 _ rfl) (ltd rfl) (fun a ha => ?_)
            refine s_do rfl ha (ltd rfl) (d_pick_f ha rfl b108 rfl) (fun a ha => ?_)
            refine s_do rfl ha (ltd rfl) (d_move ha rfl) (fun a ha => ?_)
            refine s_no_g rfl rfl ha (rfl : List.lookup 106 _ = _) (nn (by decide) _ rfl) (ltd rfl) (fun a ha => ?_)
            refine s_no_g rfl rfl ha (rfl : List.lookup 106 _ = _) (nn (by decide) _ rfl) (ltd rfl) (fun a ha => ?_)
            refine s_no_g rfl rfl ha (rfl : List.lookup 106 _ = _) (nn (by decide) _ rfl) (ltd rfl) (fun a ha => ?_)
            refine s_do rfl ha (ltd rfl) (d_pick_f ha rfl (by decide) rfl) (fun a ha => ?_)
            refine s_do rfl ha (ltd rfl) (d_move ha rfl) (fun a ha => ?_)
            refine s_no_g rfl rfl ha (rfl : List.lookup 111 _ = _) (nn (by decide) _ rfl) (ltd rfl) (fun a ha => ?_)
            refine s_no_g rfl rfl ha (rfl : List.lookup 111 _ = _) (nn (by decide) _ rfl) (ltd rfl) (fun a ha => ?_)
            refine s_no_g rfl rfl ha (rfl : List.lookup 111 _ = _) (nn (by decide) _ rfl) (ltd rfl) (fun a ha => ?_)
            refine s_do rfl ha (ltd rfl) (d_pick_f ha rfl (by decide) rfl) (fun a ha => ?_)
            refine s_do rfl ha (ltd rfl) (d_assign ha rfl) (fun a ha => ?_)
            refine s_nil ?_
            have hS : Has 116 [(2, (.bool false))] _ := ha.sub ⟨rfl, trivial⟩
            cases h
            exact hk104 _ hS
      · subst hi
        obtain ⟨v43, w44⟩ := i
        dsimp only [Sum.elim_inl, Sum.elim_inr, u1, u2, u3, u4, u5, u6] at h
        have ha : Has 116 [(2, (.bool v43))] a := ha
        refine b_r ?_
        refine t_r ?_
        have hS := ha
        cases h
        exact ret1 Try.results8 hS rfl ⟨rfl, rfl⟩
      · clear h
        rintro ⟨x38, w39⟩ a wq o ⟨ha, hwq⟩ h hr47
        obtain rfl : w39 = wq := hwq.symm
        have ha : Has 116 [(10, (.int .i64 x38)), (3, (.pointer v1)), (6, (.pointer v7)), (7, (.pointer v10))] a := ha
        have h : grapevinelaw09_SectorAll_l2 v1 v10 v7 x38 w39 = some o := h
        unfold grapevinelaw09_SectorAll_l2 at h
        refine wp_seq ?_
        refine wp_seq ?_
        refine region_lit ?_
        refine s_do rfl ha (ltd rfl) (d_move ha rfl) (fun a ha => ?_)
        refine s_do rfl ha (ltd rfl) (d_move ha rfl) (fun a ha => ?_)
        obtain ⟨v48, w49, e50, h⟩ := bs2 h
        refine s_do rfl ha (ltd rfl) (d_call (xs := [_]) (vs := [(.pointer v1)]) ha ⟨rfl, trivial⟩ Try.call19 (sector_Disk_Size_ok e50)) (fun a ha => ?_)
        refine s_do rfl ha (ltd rfl) (d_lt ha rfl rfl) (fun a ha => ?_)
        refine s_nil ?_
        refine t_n ?_
        replace ha : Has 116 [(3, (.pointer v1)), (6, (.pointer v7)), (7, (.pointer v10)), (10, (.int .i64 x38)), (48, (.bool (decide (x38 < v48))))] _ := ha.sub ⟨rfl, rfl, rfl, rfl, rfl, trivial⟩
        refine s_cond ha rfl h (fun b51 h => ?_) (fun b51 h => ?_)
        · refine wp_skip ?_
          refine t_n ?_
          replace ha : Has 116 [(3, (.pointer v1)), (6, (.pointer v7)), (7, (.pointer v10)), (10, (.int .i64 x38))] _ := ha.sub ⟨rfl, rfl, rfl, rfl, trivial⟩
          obtain ⟨o55, e53, h54⟩ := bsX h
          clear h
          refine seq_joinF (n := 116) (ι := World) (Lf := fun i => [(3, (.pointer v1)), (6, (.pointer v7)), (7, (.pointer v10)), (10, (.int .i64 x38))]) (wf := fun i => i) (C := fun i => o55 = .inr i) (fun i hi a ha => ?_) (fun hk56 => ?_)
          · subst hi
            obtain w52 := i
            have h := h54
            dsimp only [bindX, u1, u2, u3, u4, u5, u6] at h
            have ha : Has 116 [(3, (.pointer v1)), (6, (.pointer v7)), (7, (.pointer v10)), (10, (.int .i64 x38))] a := ha
            refine region_lit ?_
            refine s_do rfl ha (ltd rfl) (d_move ha rfl) (fun a ha => ?_)
            refine s_do rfl ha (ltd rfl) (d_add ha rfl rfl) (fun a ha => ?_)
            refine s_do rfl ha (ltd rfl) (d_assign ha rfl) (fun a ha => ?_)
            refine s_nil ?_
            have hS : Has 116 [(10, (.int .i64 (IntKind.wrap .i64 (x38 + 1)))), (3, (.pointer v1)), (6, (.pointer v7)), (7, (.pointer v10))] _ := ha.sub ⟨rfl, rfl, rfl, rfl, trivial⟩
            cases h
            exact lp_next ⟨hS, rfl⟩
          · have h := e53
            refine wp_block ?_
            refine wp_seq ?_
            refine region_lit ?_
            refine s_do rfl ha (ltd rfl) (d_move ha rfl) (fun a ha => ?_)
            refine s_do rfl ha (ltd rfl) (d_move ha rfl) (fun a ha => ?_)
            obtain ⟨v58, v59, w60, e61, h⟩ := bs3 h
            refine s_do rfl ha (ltd rfl) (d_call (xs := [_, _]) (vs := [(.pointer v1), (.int .i64 x38)]) ha ⟨rfl, rfl, trivial⟩ Try.call24 (sector_Disk_Sure_ok e61)) (fun a ha => ?_)
            refine s_do rfl ha (ltd rfl) (d_move ha rfl) (fun a ha => ?_)
            refine s_do rfl ha (ltd rfl) (d_ext ha rfl rfl) (fun a ha => ?_)
            refine s_do rfl ha (ltd rfl) (d_ext ha rfl rfl) (fun a ha => ?_)
            refine s_do rfl ha (ltd rfl) (d_assign ha rfl) (fun a ha => ?_)
            refine s_do rfl ha (ltd rfl) (d_assign ha rfl) (fun a ha => ?_)
            refine s_nil ?_
            refine t_n ?_
            replace ha : Has 116 [(3, (.pointer v1)), (6, (.pointer v7)), (7, (.pointer v10)), (10, (.int .i64 x38)), (11, (Sl.v v58))] _ := ha.sub ⟨rfl, rfl, rfl, rfl, rfl, trivial⟩
            refine wp_seq ?_
            refine region_lit ?_
            refine s_do rfl ha (ltd rfl) (d_move ha rfl) (fun a ha => ?_)
            refine s_do rfl ha (ltd rfl) (d_move ha rfl) (fun a ha => ?_)
            obtain ⟨v62, v63, w64, e65, h⟩ := bs3 h
            refine s_do rfl ha (ltd rfl) (d_call (xs := [_, _]) (vs := [(.pointer v10), (.int .i64 x38)]) ha ⟨rfl, rfl, trivial⟩ Try.call25 (sector_Disk_Read_ok e65)) (fun a ha => ?_)
            refine s_do rfl ha (ltd rfl) (d_move ha rfl) (fun a ha => ?_)
            refine s_do rfl ha (ltd rfl) (d_ext ha rfl rfl) (fun a ha => ?_)
            refine s_do rfl ha (ltd rfl) (d_ext ha rfl rfl) (fun a ha => ?_)
            refine s_do rfl ha (ltd rfl) (d_assign ha rfl) (fun a ha => ?_)
            refine s_do rfl ha (ltd rfl) (d_assign ha rfl) (fun a ha => ?_)
            refine s_nil ?_
            refine t_n ?_
            replace ha : Has 116 [(3, (.pointer v1)), (6, (.pointer v7)), (7, (.pointer v10)), (10, (.int .i64 x38)), (11, (Sl.v v58)), (13, (Sl.v v62)), (14, (.int .i64 v63))] _ := ha.sub ⟨rfl, rfl, rfl, rfl, rfl, rfl, rfl, trivial⟩
            refine wp_seq ?_
            refine region_lit ?_
            refine s_do rfl ha (ltd rfl) (d_move ha rfl) (fun a ha => ?_)
            refine s_do rfl ha (ltd rfl) (d_move ha rfl) (fun a ha => ?_)
            obtain ⟨v66, v67, w68, e69, h⟩ := bs3 h
            refine s_do rfl ha (ltd rfl) (d_call (xs := [_, _]) (vs := [(.pointer v7), (.int .i64 x38)]) ha ⟨rfl, rfl, trivial⟩ Try.call25 (sector_Disk_Read_ok e69)) (fun a ha => ?_)
            refine s_do rfl ha (ltd rfl) (d_move ha rfl) (fun a ha => ?_)
            refine s_do rfl ha (ltd rfl) (d_ext ha rfl rfl) (fun a ha => ?_)
            refine s_do rfl ha (ltd rfl) (d_ext ha rfl rfl) (fun a ha => ?_)
            refine s_do rfl ha (ltd rfl) (d_assign ha rfl) (fun a ha => ?_)
            refine s_do rfl ha (ltd rfl) (d_assign ha rfl) (fun a ha => ?_)
            refine s_nil ?_
            refine t_n ?_
            replace ha : Has 116 [(3, (.pointer v1)), (6, (.pointer v7)), (7, (.pointer v10)), (10, (.int .i64 x38)), (11, (Sl.v v58)), (13, (Sl.v v62)), (14, (.int .i64 v63)), (15, (Sl.v v66)), (16, (.int .i64 v67))] _ := ha.sub ⟨rfl, rfl, rfl, rfl, rfl, rfl, rfl, rfl, rfl, trivial⟩
            refine wp_seq ?_
            refine wp_seq ?_
            obtain ⟨v70, w71, e72, h⟩ := bs2 h
            refine reg_join (n := 116) (L := [(81, (.bool v70)), (3, (.pointer v1)), (6, (.pointer v7)), (7, (.pointer v10)), (10, (.int .i64 x38)), (15, (Sl.v v66))]) (w' := w71) (fun a ha => ?_) (fun hk73 => ?_)
            · refine t_n ?_
              replace ha : Has 116 [(3, (.pointer v1)), (6, (.pointer v7)), (7, (.pointer v10)), (10, (.int .i64 x38)), (15, (Sl.v v66)), (81, (.bool v70))] _ := ha.sub ⟨rfl, rfl, rfl, rfl, rfl, rfl, trivial⟩
              refine s_cond ha rfl h (fun b80 h => ?_) (fun b80 h => ?_)
              · refine wp_seq ?_
                refine region_lit ?_
                refine s_do rfl ha (ltd rfl) (d_assign ha rfl) (fun a ha => ?_)
                refine s_nil ?_
                refine t_n ?_
                replace ha : Has 116 [(2, (.bool false))] _ := ha.sub ⟨rfl, trivial⟩
                refine wp_ret ?_
                refine t_r ?_
                refine b_r ?_
                have hS := ha
                obtain ⟨g57, e81, h⟩ := bs1 h
                cases h
                cases h54
                have h := e81
                have ha := hS
                refine t_r ?_
                have hS : Has 116 [(2, (.bool false))] _ := ha.sub ⟨rfl, trivial⟩
                cases h
                cases hr47 _ rfl
                refine lp_r ?_
                exact hk46 _ rfl _ hS
              · refine wp_skip ?_
                refine t_n ?_
                replace ha : Has 116 [(3, (.pointer v1)), (6, (.pointer v7)), (7, (.pointer v10)), (10, (.int .i64 x38)), (15, (Sl.v v66))] _ := ha.sub ⟨rfl, rfl, rfl, rfl, rfl, trivial⟩
                refine wp_seq ?_
                refine region_lit ?_
                refine s_do rfl ha (ltd rfl) (d_move ha rfl) (fun a ha => ?_)
                obtain ⟨v82, w83, e84, h⟩ := bs2 h
                refine s_do rfl ha (ltd rfl) (d_call (xs := [_]) (vs := [(.pointer v1)]) ha ⟨rfl, trivial⟩ Try.call21 (sector_Disk_Down_ok e84)) (fun a ha => ?_)
                refine s_do rfl ha (ltd rfl) (d_not ha rfl) (fun a ha => ?_)
                refine s_nil ?_
                refine t_n ?_
                replace ha : Has 116 [(3, (.pointer v1)), (6, (.pointer v7)), (7, (.pointer v10)), (10, (.int .i64 x38)), (15, (Sl.v v66)), (84, (.bool (!v82)))] _ := ha.sub ⟨rfl, rfl, rfl, rfl, rfl, rfl, trivial⟩
                refine s_cond ha rfl h (fun b85 h => ?_) (fun b85 h => ?_)
                · refine wp_seq ?_
                  refine region_lit ?_
                  refine s_do rfl ha (ltd rfl) (d_move ha rfl) (fun a ha => ?_)
                  refine s_do rfl ha (ltd rfl) (d_move ha rfl) (fun a ha => ?_)
                  obtain ⟨v86, v87, w88, e89, h⟩ := bs3 h
                  refine s_do rfl ha (ltd rfl) (d_call (xs := [_, _]) (vs := [(.pointer v1), (.int .i64 x38)]) ha ⟨rfl, rfl, trivial⟩ Try.call25 (sector_Disk_Read_ok e89)) (fun a ha => ?_)
                  refine s_do rfl ha (ltd rfl) (d_move ha rfl) (fun a ha => ?_)
                  refine s_do rfl ha (ltd rfl) (d_ext ha rfl rfl) (fun a ha => ?_)
                  refine s_do rfl ha (ltd rfl) (d_ext ha rfl rfl) (fun a ha => ?_)
                  refine s_do rfl ha (ltd rfl) (d_assign ha rfl) (fun a ha => ?_)
                  refine s_do rfl ha (ltd rfl) (d_assign ha rfl) (fun a ha => ?_)
                  refine s_nil ?_
                  refine t_n ?_
                  replace ha : Has 116 [(3, (.pointer v1)), (6, (.pointer v7)), (7, (.pointer v10)), (10, (.int .i64 x38)), (15, (Sl.v v66)), (17, (Sl.v v86)), (18, (.int .i64 v87))] _ := ha.sub ⟨rfl, rfl, rfl, rfl, rfl, rfl, rfl, trivial⟩
                  refine wp_seq ?_
                  obtain ⟨v90, w91, e92, h⟩ := bs2 h
                  refine reg_join (n := 116) (L := [(99, (.bool v90)), (3, (.pointer v1)), (6, (.pointer v7)), (7, (.pointer v10)), (10, (.int .i64 x38))]) (w' := w91) (fun a ha => ?_) (fun hk93 => ?_)
                  · refine t_n ?_
                    replace ha : Has 116 [(3, (.pointer v1)), (6, (.pointer v7)), (7, (.pointer v10)), (10, (.int .i64 x38)), (99, (.bool v90))] _ := ha.sub ⟨rfl, rfl, rfl, rfl, rfl, trivial⟩
                    refine s_cond ha rfl h (fun b99 h => ?_) (fun b99 h => ?_)
                    · refine wp_seq ?_
                      refine region_lit ?_
                      refine s_do rfl ha (ltd rfl) (d_assign ha rfl) (fun a ha => ?_)
                      refine s_nil ?_
                      refine t_n ?_
                      replace ha : Has 116 [(2, (.bool false))] _ := ha.sub ⟨rfl, trivial⟩
                      refine wp_ret ?_
                      refine b_r ?_
                      have hS := ha
                      obtain ⟨g57, e100, h⟩ := bs1 h
                      cases h
                      cases h54
                      have h := e100
                      have ha := hS
                      refine t_r ?_
                      have hS : Has 116 [(2, (.bool false))] _ := ha.sub ⟨rfl, trivial⟩
                      cases h
                      cases hr47 _ rfl
                      refine lp_r ?_
                      exact hk46 _ rfl _ hS
                    · refine wp_skip ?_
                      refine b_n ?_
                      have hS : Has 116 [(3, (.pointer v1)), (6, (.pointer v7)), (7, (.pointer v10)), (10, (.int .i64 x38))] _ := ha.sub ⟨rfl, rfl, rfl, rfl, trivial⟩
                      cases h
                      exact hk56 _ rfl _ hS
                  · clear h
                    have h := e92
                    refine region_lit ?_
                    refine s_do rfl ha (ltd rfl) (d_move ha rfl) (fun a ha => ?_)
                    refine s_do rfl ha (ltd rfl) (d_ne ha rfl rfl) (fun a ha => ?_)
                    refine s_do rfl ha (ltd rfl) (d_move ha rfl) (fun a ha => ?_)
                    refine ite_s h (fun b94 h => ?_) (fun b94 h => ?_)
                    · refine s_no_g rfl rfl ha (rfl : List.lookup 93 _ = _) (tn b94) (ltd rfl) (fun a ha => ?_)
                      refine s_no_g rfl rfl ha (rfl : List.lookup 93 _ = _) (tn b94) (ltd rfl) (fun a ha => ?_)
                      refine s_no_g rfl rfl ha (rfl : List.lookup 93 _ = _) (tn b94) (ltd rfl) (fun a ha => ?_)
                      refine s_no_g rfl rfl ha (rfl : List.lookup 93 _ = _) (tn b94) (ltd rfl) (fun a ha => ?_)
                      refine s_no_g rfl rfl ha (rfl : List.lookup 93 _ = _) (tn b94) (ltd rfl) (fun a ha => ?_)
                      refine s_do rfl ha (ltd rfl) (d_pick_t ha rfl b94 rfl) (fun a ha => ?_)
                      refine s_nil ?_
                      have hS : Has 116 [(99, (.bool true)), (3, (.pointer v1)), (6, (.pointer v7)), (7, (.pointer v10)), (10, (.int .i64 x38))] _ := ha.sub ⟨rfl, rfl, rfl, rfl, rfl, trivial⟩
                      cases h
                      exact hk93 _ hS
                    · refine s_do_g2 rfl rfl ha (rfl : List.lookup 93 _ = _) (nt b94) (ltd rfl) (d_move ha rfl) (fun a ha => ?_)
                      obtain ⟨s95, e96, h⟩ := bs1 h
                      refine s_do_g2 rfl rfl ha (rfl : List.lookup 93 _ = _) (nt b94) (ltd rfl) (d_b2s ha rfl Try.runUnderlying29 Try.runUnderlying9 Try.runUnderlying5 e96) (fun a ha => ?_)
                      refine s_do_g2 rfl rfl ha (rfl : List.lookup 93 _ = _) (nt b94) (ltd rfl) (d_move ha rfl) (fun a ha => ?_)
                      obtain ⟨s97, e98, h⟩ := bs1 h
                      refine s_do_g2 rfl rfl ha (rfl : List.lookup 93 _ = _) (nt b94) (ltd rfl) (d_b2s ha rfl Try.runUnderlying29 Try.runUnderlying9 Try.runUnderlying5 e98) (fun a ha => ?_)
                      refine s_do_g2 rfl rfl ha (rfl : List.lookup 93 _ = _) (nt b94) (ltd rfl) (d_neT ha rfl rfl) (fun a ha => ?_)
                      refine s_do rfl ha (ltd rfl) (d_pick_f ha rfl b94 rfl) (fun a ha => ?_)
                      refine s_nil ?_
                      have hS : Has 116 [(99, (.bool (!sEq s95 s97))), (3, (.pointer v1)), (6, (.pointer v7)), (7, (.pointer v10)), (10, (.int .i64 x38))] _ := ha.sub ⟨rfl, rfl, rfl, rfl, rfl, trivial⟩
                      cases h
                      exact hk93 _ hS
                · refine wp_skip ?_
                  refine b_n ?_
                  have hS : Has 116 [(3, (.pointer v1)), (6, (.pointer v7)), (7, (.pointer v10)), (10, (.int .i64 x38))] _ := ha.sub ⟨rfl, rfl, rfl, rfl, trivial⟩
                  cases h
                  exact hk56 _ rfl _ hS
            · clear h
              have h := e72
              refine region_lit ?_
              refine s_do rfl ha (ltd rfl) (d_move ha rfl) (fun a ha => ?_)
              refine s_do rfl ha (ltd rfl) (d_ne ha rfl rfl) (fun a ha => ?_)
              refine s_do rfl ha (ltd rfl) (d_move ha rfl) (fun a ha => ?_)
              refine ite_s h (fun b74 h => ?_) (fun b74 h => ?_)
              · refine s_no_g rfl rfl ha (rfl : List.lookup 71 _ = _) (tn b74) (ltd rfl) (fun a ha => ?_)
                refine s_no_g rfl rfl ha (rfl : List.lookup 71 _ = _) (tn b74) (ltd rfl) (fun a ha => ?_)
                refine s_do rfl ha (ltd rfl) (d_pick_t ha rfl b74 rfl) (fun a ha => ?_)
                refine s_do rfl ha (ltd rfl) (d_move ha rfl) (fun a ha => ?_)
                refine s_no_g rfl rfl ha (rfl : List.lookup 75 _ = _) (tn rfl) (ltd rfl) (fun a ha => ?_)
                refine s_no_g rfl rfl ha (rfl : List.lookup 75 _ = _) (tn rfl) (ltd rfl) (fun a ha => ?_)
                refine s_no_g rfl rfl ha (rfl : List.lookup 75 _ = _) (tn rfl) (ltd rfl) (fun a ha => ?_)
                refine s_no_g rfl rfl ha (rfl : List.lookup 75 _ = _) (tn rfl) (ltd rfl) (fun a ha => ?_)
                refine s_no_g rfl rfl ha (rfl : List.lookup 75 _ = _) (tn rfl) (ltd rfl) (fun a ha => ?_)
                refine s_do rfl ha (ltd rfl) (d_pick_t ha rfl rfl rfl) (fun a ha => ?_)
                refine s_nil ?_
                have hS : Has 116 [(81, (.bool true)), (3, (.pointer v1)), (6, (.pointer v7)), (7, (.pointer v10)), (10, (.int .i64 x38)), (15, (Sl.v v66))] _ := ha.sub ⟨rfl, rfl, rfl, rfl, rfl, rfl, trivial⟩
                cases h
                exact hk73 _ hS
              · refine s_do_g2 rfl rfl ha (rfl : List.lookup 71 _ = _) (nt b74) (ltd rfl) (d_move ha rfl) (fun a ha => ?_)
                refine s_do_g2 rfl rfl ha (rfl : List.lookup 71 _ = _) (nt b74) (ltd rfl) (d_ne ha rfl rfl) (fun a ha => ?_)
                refine s_do rfl ha (ltd rfl) (d_pick_f ha rfl b74 rfl) (fun a ha => ?_)
                refine s_do rfl ha (ltd rfl) (d_move ha rfl) (fun a ha => ?_)
                refine ite_s h (fun b75 h => ?_) (fun b75 h => ?_)
                · refine s_no_g rfl rfl ha (rfl : List.lookup 75 _ = _) (tn b75) (ltd rfl) (fun a ha => ?_)
                  refine s_no_g rfl rfl ha (rfl : List.lookup 75 _ = _) (tn b75) (ltd rfl) (fun a ha => ?_)
                  refine s_no_g rfl rfl ha (rfl : List.lookup 75 _ = _) (tn b75) (ltd rfl) (fun a ha => ?_)
                  refine s_no_g rfl rfl ha (rfl : List.lookup 75 _ = _) (tn b75) (ltd rfl) (fun a ha => ?_)
                  refine s_no_g rfl rfl ha (rfl : List.lookup 75 _ = _) (tn b75) (ltd rfl) (fun a ha => ?_)
                  refine s_do rfl ha (ltd rfl) (d_pick_t ha rfl b75 rfl) (fun a ha => ?_)
                  refine s_nil ?_
                  have hS : Has 116 [(81, (.bool true)), (3, (.pointer v1)), (6, (.pointer v7)), (7, (.pointer v10)), (10, (.int .i64 x38)), (15, (Sl.v v66))] _ := ha.sub ⟨rfl, rfl, rfl, rfl, rfl, rfl, trivial⟩
                  cases h
                  exact hk73 _ hS
                · refine s_do_g2 rfl rfl ha (rfl : List.lookup 75 _ = _) (nt b75) (ltd rfl) (d_move ha rfl) (fun a ha => ?_)
                  obtain ⟨s76, e77, h⟩ := bs1 h
                  refine s_do_g2 rfl rfl ha (rfl : List.lookup 75 _ = _) (nt b75) (ltd rfl) (d_b2s ha rfl Try.runUnderlying29 Try.runUnderlying9 Try.runUnderlying5 e77) (fun a ha => ?_)
                  refine s_do_g2 rfl rfl ha (rfl : List.lookup 75 _ = _) (nt b75) (ltd rfl) (d_move ha rfl) (fun a ha => ?_)
                  obtain ⟨s78, e79, h⟩ := bs1 h
                  refine s_do_g2 rfl rfl ha (rfl : List.lookup 75 _ = _) (nt b75) (ltd rfl) (d_b2s ha rfl Try.runUnderlying29 Try.runUnderlying9 Try.runUnderlying5 e79) (fun a ha => ?_)
                  refine s_do_g2 rfl rfl ha (rfl : List.lookup 75 _ = _) (nt b75) (ltd rfl) (d_neT ha rfl rfl) (fun a ha => ?_)
                  refine s_do rfl ha (ltd rfl) (d_pick_f ha rfl b75 rfl) (fun a ha => ?_)
                  refine s_nil ?_
                  have hS : Has 116 [(81, (.bool (!sEq s76 s78))), (3, (.pointer v1)), (6, (.pointer v7)), (7, (.pointer v10)), (10, (.int .i64 x38)), (15, (Sl.v v66))] _ := ha.sub ⟨rfl, rfl, rfl, rfl, rfl, rfl, trivial⟩
                  cases h
                  exact hk73 _ hS
        · refine wp_exit ?_
          refine t_x ?_
          have hS : Has 116 [(6, (.pointer v7)), (7, (.pointer v10))] _ := ha.sub ⟨rfl, rfl, trivial⟩
          cases h
          cases hr47 _ rfl
          refine lp_x ?_
          exact hk45 _ rfl _ hS
    · clear h
      rintro ⟨x13, x14, w15⟩ a wq o ⟨ha, hwq⟩ h hr21
      obtain rfl : w15 = wq := hwq.symm
      have ha : Has 116 [(8, (Sl.v x13)), (9, (.int .i64 x14)), (3, (.pointer v1)), (6, (.pointer v7)), (7, (.pointer v10))] a := ha
      have h : grapevinelaw09_SectorAll_l1 v1 x13 x14 w15 = some o := h
      unfold grapevinelaw09_SectorAll_l1 at h
      refine wp_seq ?_
      refine wp_seq ?_
      refine region_lit ?_
      refine s_do rfl ha (ltd rfl) (d_move ha rfl) (fun a ha => ?_)
      refine s_do rfl ha (ltd rfl) (d_move ha rfl) (fun a ha => ?_)
      obtain ⟨v22, w23, e24, h⟩ := bs2 h
      refine s_do rfl ha (ltd rfl) (d_call (xs := [_]) (vs := [(.pointer v1)]) ha ⟨rfl, trivial⟩ Try.call20 (sector_Disk_Waits_ok e24)) (fun a ha => ?_)
      refine s_do rfl ha (ltd rfl) (d_lt ha rfl rfl) (fun a ha => ?_)
      refine s_nil ?_
      refine t_n ?_
      replace ha : Has 116 [(3, (.pointer v1)), (6, (.pointer v7)), (7, (.pointer v10)), (8, (Sl.v x13)), (9, (.int .i64 x14)), (34, (.bool (decide (x14 < v22))))] _ := ha.sub ⟨rfl, rfl, rfl, rfl, rfl, rfl, trivial⟩
      refine s_cond ha rfl h (fun b25 h => ?_) (fun b25 h => ?_)
      · refine wp_skip ?_
        refine t_n ?_
        replace ha : Has 116 [(3, (.pointer v1)), (6, (.pointer v7)), (7, (.pointer v10)), (8, (Sl.v x13)), (9, (.int .i64 x14))] _ := ha.sub ⟨rfl, rfl, rfl, rfl, rfl, trivial⟩
        refine wp_seq ?_
        refine wp_block ?_
        refine region_lit ?_
        refine s_do rfl ha (ltd rfl) (d_move ha rfl) (fun a ha => ?_)
        obtain ⟨s26, w27, e28, h⟩ := bs2 h
        refine s_do rfl ha (ltd rfl) (d_bsl (vs := [(0, (.int .i64 1))]) (ps := [[(.int .i64 1)]]) ha ⟨rfl, rfl, trivial⟩ ⟨rfl, rfl, trivial⟩ rfl Try.runUnderlying35 Try.sizeOf3 Try.zeroValue3 (by decide) e28) (fun a ha => ?_)
        obtain ⟨s29, w30, e31, h⟩ := bs2 h
        refine s_do rfl ha (ltd rfl) (d_apS ha rfl rfl e31) (fun a ha => ?_)
        refine s_do rfl ha (ltd rfl) (d_assign ha rfl) (fun a ha => ?_)
        refine s_nil ?_
        refine b_n ?_
        refine t_n ?_
        replace ha : Has 116 [(3, (.pointer v1)), (6, (.pointer v7)), (7, (.pointer v10)), (8, (Sl.v s29)), (9, (.int .i64 x14))] _ := ha.sub ⟨rfl, rfl, rfl, rfl, rfl, trivial⟩
        refine region_lit ?_
        refine s_do rfl ha (ltd rfl) (d_move ha rfl) (fun a ha => ?_)
        refine s_do rfl ha (ltd rfl) (d_add ha rfl rfl) (fun a ha => ?_)
        refine s_do rfl ha (ltd rfl) (d_assign ha rfl) (fun a ha => ?_)
        refine s_nil ?_
        have hS : Has 116 [(8, (Sl.v s29)), (9, (.int .i64 (IntKind.wrap .i64 (x14 + 1)))), (3, (.pointer v1)), (6, (.pointer v7)), (7, (.pointer v10))] _ := ha.sub ⟨rfl, rfl, rfl, rfl, rfl, trivial⟩
        cases h
        exact lp_next ⟨hS, rfl⟩
      · refine wp_exit ?_
        refine t_x ?_
        have hS : Has 116 [(8, (Sl.v x13)), (3, (.pointer v1)), (6, (.pointer v7)), (7, (.pointer v10))] _ := ha.sub ⟨rfl, rfl, rfl, rfl, trivial⟩
        cases h
        cases hr21 _ rfl
        refine lp_x ?_
        exact hk20 _ hS

noncomputable def grapevineref09_Disk_Fork (a0 : Option Addr) (w : World) : Option ((Option Addr) × World) :=
  if (a0.isNone) = true then
  (some (none, w))
  else
  ((dr w).bind fun w2 =>
  (a0).bind fun p4 =>
  (ldI .i64 w2 (p4.add 2)).bind fun v6 =>
  (ldB w2 (p4.add 3)).bind fun v8 =>
  (ldI .i64 w2 (p4.add 4)).bind fun v10 =>
  bind2 (mk w2 95 ([.slice none 0 0, .slice none 0 0, .int .i64 v6, .bool v8, .int .i64 v10])) fun p12 w13 =>
  (dr w13).bind fun w15 =>
  (ldL w15 (p12.add 0)).bind fun v17 =>
  (ldL w15 (p4.add 0)).bind fun v19 =>
  bind2 (apS Try.prog 92 v17 v19 w15) fun s21 w22 =>
  (stV w22 (p12.add 0) (Sl.v s21)).bind fun w24 =>
  (dr w24).bind fun w26 =>
  (ldL w26 (p12.add 1)).bind fun v28 =>
  (ldL w26 (p4.add 1)).bind fun v30 =>
  bind2 (apS Try.prog 93 v28 v30 w26) fun s32 w33 =>
  (stV w33 (p12.add 1) (Sl.v s32)).bind fun w35 =>
  some ((some p12), w35))
set_option maxHeartbeats 1000000 in
set_option maxRecDepth 100000 in
theorem grapevineref09_Disk_Fork_ok {a0 : Option Addr} {w w' : World} {r0 : Option Addr} (h : grapevineref09_Disk_Fork a0 w = some (r0, w')) : Calls Try.prog 32 #[(.pointer a0)] w fun e w'' => e = .returned (.pointer r0) ∧ w'' = w' := by
  refine calls_dec (n := 45) Try.func32 rfl Try.ntmps32 (by simp) (fun a ha => ?_)
  unfold grapevineref09_Disk_Fork at h
  refine wp_seq ?_
  refine region_lit ?_
  refine s_do rfl ha (ltd rfl) (d_assign ha rfl) (fun a ha => ?_)
  refine s_nil ?_
  refine t_n ?_
  replace ha : Has 45 [(0, (.pointer a0))] _ := ha.sub ⟨rfl, trivial⟩
  refine wp_seq ?_
  refine wp_seq ?_
  refine region_lit ?_
  refine s_do rfl ha (ltd rfl) (d_move ha rfl) (fun a ha => ?_)
  refine s_do rfl ha (ltd rfl) (d_eqN ha rfl rfl Try.runUnderlying44) (fun a ha => ?_)
  refine s_nil ?_
  refine t_n ?_
  replace ha : Has 45 [(0, (.pointer a0)), (5, (.bool (a0.isNone)))] _ := ha.sub ⟨rfl, rfl, trivial⟩
  refine s_cond ha rfl h (fun b1 h => ?_) (fun b1 h => ?_)
  · refine wp_seq ?_
    refine region_lit ?_
    refine s_do rfl ha (ltd rfl) (d_assign ha rfl) (fun a ha => ?_)
    refine s_nil ?_
    refine t_n ?_
    replace ha : Has 45 [(2, (.pointer none))] _ := ha.sub ⟨rfl, trivial⟩
    refine wp_ret ?_
    refine t_r ?_
    have hS := ha
    cases h
    exact ret1 Try.results32 hS rfl ⟨rfl, rfl⟩
  · refine wp_skip ?_
    refine t_n ?_
    replace ha : Has 45 [(0, (.pointer a0))] _ := ha.sub ⟨rfl, trivial⟩
    refine wp_seq ?_
    obtain ⟨w2, e3, h⟩ := bs1 h
    obtain ⟨p4, e5, h⟩ := bs1 h
    obtain ⟨v6, e7, h⟩ := bs1 h
    obtain ⟨v8, e9, h⟩ := bs1 h
    obtain ⟨v10, e11, h⟩ := bs1 h
    obtain ⟨p12, w13, e14, h⟩ := bs2 h
    have ha : Has 45 [(0, (.pointer a0))] a := ha.sub ⟨rfl, trivial⟩
    refine region_draw (n := 45) (ds := (⟨_, (.pointer a0), false, 0, 0, [], [(0, (.pointer a0))]⟩ :: ⟨_, (.pointer (some p4)), false, 0, 0, [0], [(6, (.pointer a0))]⟩ :: ⟨_, (.pointer (some (p4.add 2))), false, 0, 0, [0, 1], [(7, (.pointer (some p4)))]⟩ :: ⟨_, (.int .i64 v6), false, 0, 0, [0, 1, 2], [(8, (.pointer (some (p4.add 2))))]⟩ :: ⟨_, (.pointer a0), false, 0, 0, [], [(0, (.pointer a0))]⟩ :: ⟨_, (.pointer (some p4)), false, 0, 0, [4], [(10, (.pointer a0))]⟩ :: ⟨_, (.pointer (some (p4.add 3))), false, 0, 0, [4, 5], [(11, (.pointer (some p4)))]⟩ :: ⟨_, (.bool v8), false, 0, 0, [4, 5, 6], [(12, (.pointer (some (p4.add 3))))]⟩ :: ⟨_, (.pointer a0), false, 0, 0, [], [(0, (.pointer a0))]⟩ :: ⟨_, (.pointer (some p4)), false, 0, 0, [8], [(14, (.pointer a0))]⟩ :: ⟨_, (.pointer (some (p4.add 4))), false, 0, 0, [8, 9], [(15, (.pointer (some p4)))]⟩ :: ⟨_, (.int .i64 v10), false, 0, 0, [8, 9, 10], [(16, (.pointer (some (p4.add 4))))]⟩ :: ⟨_, (.agg (List.toArray ([.slice none 0 0, .slice none 0 0, .int .i64 v6, .bool v8, .int .i64 v10]))), false, 0, 0, [0, 1, 2, 3, 4, 5, 6, 7, 8, 9, 10, 11], [(9, (.int .i64 v6)), (13, (.bool v8)), (17, (.int .i64 v10))]⟩ :: ⟨_, (.pointer (some p12)), true, 0, 0, (0 :: 1 :: 2 :: 3 :: 4 :: 5 :: 6 :: 7 :: 8 :: 9 :: 10 :: 11 :: 12 :: []), [(18, (.agg (List.toArray ([.slice none 0 0, .slice none 0 0, .int .i64 v6, .bool v8, .int .i64 v10]))))]⟩ :: ⟨_, (.pointer (some p12)), false, 1, 1, (0 :: 1 :: 2 :: 3 :: 4 :: 5 :: 6 :: 7 :: 8 :: 9 :: 10 :: 11 :: 12 :: 13 :: []), [(19, (.pointer (some p12)))]⟩ :: [])) (W := (fun j => match j with | 0 => w2 | _ => w13)) (by kernel_rfl) ha (dr_w e3) (by kernel_rfl) ?_ (reads_of (by kernel_rfl)) (by kernel_rfl) (m := 1) (by kernel_rfl) (fun a ha => ?_)
    · refine ⟨?_, ?_, ?_, ?_, ?_, ?_, ?_, ?_, ?_, ?_, ?_, ?_, ?_, ?_, ?_, trivial⟩
      · intro j _ _; exact ok_do rfl fun a ha => d_move ha rfl
      · intro j _ _; exact ok_do rfl fun a ha => d_nilp ha rfl e5
      · intro j _ _; exact ok_do rfl fun a ha => d_fa ha rfl Try.runUnderlying95 rfl rfl Try.sizeOf3 (by decide)
      · intro j h1 h2; obtain rfl : j = 0 := Nat.le_antisymm h2 h1; exact ok_do rfl fun a ha => d_ld ha rfl Try.isAgg3 (ldI_c e7)
      · intro j _ _; exact ok_do rfl fun a ha => d_move ha rfl
      · intro j _ _; exact ok_do rfl fun a ha => d_nilp ha rfl e5
      · intro j _ _; exact ok_do rfl fun a ha => d_fa ha rfl Try.runUnderlying95 rfl rfl Try.sizeOf4 (by decide)
      · intro j h1 h2; obtain rfl : j = 0 := Nat.le_antisymm h2 h1; exact ok_do rfl fun a ha => d_ld ha rfl Try.isAgg4 (ldB_c e9)
      · intro j _ _; exact ok_do rfl fun a ha => d_move ha rfl
      · intro j _ _; exact ok_do rfl fun a ha => d_nilp ha rfl e5
      · intro j _ _; exact ok_do rfl fun a ha => d_fa ha rfl Try.runUnderlying95 rfl rfl Try.sizeOf3 (by decide)
      · intro j h1 h2; obtain rfl : j = 0 := Nat.le_antisymm h2 h1; exact ok_do rfl fun a ha => d_ld ha rfl Try.isAgg3 (ldI_c e11)
      · intro j _ _; exact ok_do rfl fun a ha => d_build (vs := [(2, (.int .i64 v6)), (3, (.bool v8)), (4, (.int .i64 v10))]) (pl := #[(0, 1), (1, 1), (2, 1), (3, 1), (4, 1)]) (cs := ([.slice none 0 0, .slice none 0 0, .int .i64 v6, .bool v8, .int .i64 v10])) ha ⟨rfl, rfl, rfl, rfl, rfl, rfl, trivial⟩ Try.zeroValue95 Try.runUnderlying95 (by intro w; kernel_rfl) (by kernel_rfl)
      · intro j h1 h2; obtain rfl : j = 0 := Nat.le_antisymm h2 h1; exact ok_do rfl fun a ha => d_box ha rfl rfl e14
      · intro j _ _; exact ok_do rfl fun a ha => d_assign ha rfl
    · have ha : Has 45 [(0, (.pointer a0)), (3, (.pointer (some p12)))] a := ha.sub ⟨rfl, rfl, trivial⟩
      refine t_n ?_
      replace ha : Has 45 [(0, (.pointer a0)), (3, (.pointer (some p12)))] _ := ha.sub ⟨rfl, rfl, trivial⟩
      refine wp_seq ?_
      obtain ⟨w15, e16, h⟩ := bs1 h
      obtain ⟨v17, e18, h⟩ := bs1 h
      obtain ⟨v19, e20, h⟩ := bs1 h
      obtain ⟨s21, w22, e23, h⟩ := bs2 h
      obtain ⟨w24, e25, h⟩ := bs1 h
      have ha : Has 45 [(0, (.pointer a0)), (3, (.pointer (some p12)))] a := ha.sub ⟨rfl, rfl, trivial⟩
      refine region_draw (n := 45) (ds := (⟨_, (.pointer (some p12)), false, 0, 1, [], [(3, (.pointer (some p12)))]⟩ :: ⟨_, (.pointer (some p12)), false, 0, 0, [], [(3, (.pointer (some p12)))]⟩ :: ⟨_, (.pointer (some p12)), false, 0, 0, [1], [(21, (.pointer (some p12)))]⟩ :: ⟨_, (.pointer (some (p12.add 0))), false, 0, 0, [1, 2], [(22, (.pointer (some p12)))]⟩ :: ⟨_, (Sl.v v17), false, 0, 0, [1, 2, 3], [(23, (.pointer (some (p12.add 0))))]⟩ :: ⟨_, (.pointer a0), false, 0, 0, [], [(0, (.pointer a0))]⟩ :: ⟨_, (.pointer (some p4)), false, 0, 0, [5], [(25, (.pointer a0))]⟩ :: ⟨_, (.pointer (some (p4.add 0))), false, 0, 0, [5, 6], [(26, (.pointer (some p4)))]⟩ :: ⟨_, (Sl.v v19), false, 0, 0, [5, 6, 7], [(27, (.pointer (some (p4.add 0))))]⟩ :: ⟨_, (Sl.v s21), true, 0, 0, [1, 2, 3, 4, 5, 6, 7, 8], [(24, (Sl.v v17)), (28, (Sl.v v19))]⟩ :: ⟨_, (.pointer (some p12)), false, 1, 1, [0, 1, 2, 3, 4, 5, 6, 7, 8, 9], [(20, (.pointer (some p12)))]⟩ :: ⟨_, (.pointer (some (p12.add 0))), false, 1, 1, [0, 1, 2, 3, 4, 5, 6, 7, 8, 9, 10], [(30, (.pointer (some p12)))]⟩ :: ⟨_, undef, true, 1, 1, [0, 1, 2, 3, 4, 5, 6, 7, 8, 9, 10, 11], [(31, (.pointer (some (p12.add 0)))), (29, (Sl.v s21))]⟩ :: [])) (W := (fun j => match j with | 0 => w15 | 1 => w22 | _ => w24)) (by kernel_rfl) ha (dr_w e16) (by kernel_rfl) ?_ (reads_of (by kernel_rfl)) (by kernel_rfl) (m := 2) (by kernel_rfl) (fun a ha => ?_)
      · refine ⟨?_, ?_, ?_, ?_, ?_, ?_, ?_, ?_, ?_, ?_, ?_, ?_, ?_, trivial⟩
        · intro j _ _; exact ok_do rfl fun a ha => d_move ha rfl
        · intro j _ _; exact ok_do rfl fun a ha => d_move ha rfl
        · intro j _ _; exact ok_do rfl fun a ha => d_nil ha rfl
        · intro j _ _; exact ok_do rfl fun a ha => d_fa ha rfl Try.runUnderlying95 rfl rfl Try.sizeOf92 (by decide)
        · intro j h1 h2; obtain rfl : j = 0 := Nat.le_antisymm h2 h1; exact ok_do rfl fun a ha => d_ld ha rfl Try.isAgg92 (ldL_c e18)
        · intro j _ _; exact ok_do rfl fun a ha => d_move ha rfl
        · intro j _ _; exact ok_do rfl fun a ha => d_nilp ha rfl e5
        · intro j _ _; exact ok_do rfl fun a ha => d_fa ha rfl Try.runUnderlying95 rfl rfl Try.sizeOf92 (by decide)
        · intro j h1 h2; obtain rfl : j = 0 := Nat.le_antisymm h2 h1; exact ok_do rfl fun a ha => d_ld ha rfl Try.isAgg92 (ldL_c e20)
        · intro j h1 h2; obtain rfl : j = 0 := Nat.le_antisymm h2 h1; exact ok_do rfl fun a ha => d_apS ha rfl rfl e23
        · intro j _ _; exact ok_do rfl fun a ha => d_nil ha rfl
        · intro j _ _; exact ok_do rfl fun a ha => d_fa ha rfl Try.runUnderlying95 rfl rfl Try.sizeOf92 (by decide)
        · intro j h1 h2; obtain rfl : j = 1 := Nat.le_antisymm h2 h1; exact ok_do rfl fun a ha => d_st ha rfl rfl Try.sizeOf92 e25
      · have ha : Has 45 [(0, (.pointer a0)), (3, (.pointer (some p12)))] a := ha.sub ⟨rfl, rfl, trivial⟩
        refine t_n ?_
        replace ha : Has 45 [(0, (.pointer a0)), (3, (.pointer (some p12)))] _ := ha.sub ⟨rfl, rfl, trivial⟩
        refine wp_seq ?_
        obtain ⟨w26, e27, h⟩ := bs1 h
        obtain ⟨v28, e29, h⟩ := bs1 h
        obtain ⟨v30, e31, h⟩ := bs1 h
        obtain ⟨s32, w33, e34, h⟩ := bs2 h
        obtain ⟨w35, e36, h⟩ := bs1 h
        have ha : Has 45 [(0, (.pointer a0)), (3, (.pointer (some p12)))] a := ha.sub ⟨rfl, rfl, trivial⟩
        refine region_draw (n := 45) (ds := (⟨_, (.pointer (some p12)), false, 0, 1, [], [(3, (.pointer (some p12)))]⟩ :: ⟨_, (.pointer (some p12)), false, 0, 0, [], [(3, (.pointer (some p12)))]⟩ :: ⟨_, (.pointer (some p12)), false, 0, 0, [1], [(33, (.pointer (some p12)))]⟩ :: ⟨_, (.pointer (some (p12.add 1))), false, 0, 0, [1, 2], [(34, (.pointer (some p12)))]⟩ :: ⟨_, (Sl.v v28), false, 0, 0, [1, 2, 3], [(35, (.pointer (some (p12.add 1))))]⟩ :: ⟨_, (.pointer a0), false, 0, 0, [], [(0, (.pointer a0))]⟩ :: ⟨_, (.pointer (some p4)), false, 0, 0, [5], [(37, (.pointer a0))]⟩ :: ⟨_, (.pointer (some (p4.add 1))), false, 0, 0, [5, 6], [(38, (.pointer (some p4)))]⟩ :: ⟨_, (Sl.v v30), false, 0, 0, [5, 6, 7], [(39, (.pointer (some (p4.add 1))))]⟩ :: ⟨_, (Sl.v s32), true, 0, 0, [1, 2, 3, 4, 5, 6, 7, 8], [(36, (Sl.v v28)), (40, (Sl.v v30))]⟩ :: ⟨_, (.pointer (some p12)), false, 1, 1, [0, 1, 2, 3, 4, 5, 6, 7, 8, 9], [(32, (.pointer (some p12)))]⟩ :: ⟨_, (.pointer (some (p12.add 1))), false, 1, 1, [0, 1, 2, 3, 4, 5, 6, 7, 8, 9, 10], [(42, (.pointer (some p12)))]⟩ :: ⟨_, undef, true, 1, 1, [0, 1, 2, 3, 4, 5, 6, 7, 8, 9, 10, 11], [(43, (.pointer (some (p12.add 1)))), (41, (Sl.v s32))]⟩ :: [])) (W := (fun j => match j with | 0 => w26 | 1 => w33 | _ => w35)) (by kernel_rfl) ha (dr_w e27) (by kernel_rfl) ?_ (reads_of (by kernel_rfl)) (by kernel_rfl) (m := 2) (by kernel_rfl) (fun a ha => ?_)
        · refine ⟨?_, ?_, ?_, ?_, ?_, ?_, ?_, ?_, ?_, ?_, ?_, ?_, ?_, trivial⟩
          · intro j _ _; exact ok_do rfl fun a ha => d_move ha rfl
          · intro j _ _; exact ok_do rfl fun a ha => d_move ha rfl
          · intro j _ _; exact ok_do rfl fun a ha => d_nil ha rfl
          · intro j _ _; exact ok_do rfl fun a ha => d_fa ha rfl Try.runUnderlying95 rfl rfl Try.sizeOf93 (by decide)
          · intro j h1 h2; obtain rfl : j = 0 := Nat.le_antisymm h2 h1; exact ok_do rfl fun a ha => d_ld ha rfl Try.isAgg93 (ldL_c e29)
          · intro j _ _; exact ok_do rfl fun a ha => d_move ha rfl
          · intro j _ _; exact ok_do rfl fun a ha => d_nilp ha rfl e5
          · intro j _ _; exact ok_do rfl fun a ha => d_fa ha rfl Try.runUnderlying95 rfl rfl Try.sizeOf93 (by decide)
          · intro j h1 h2; obtain rfl : j = 0 := Nat.le_antisymm h2 h1; exact ok_do rfl fun a ha => d_ld ha rfl Try.isAgg93 (ldL_c e31)
          · intro j h1 h2; obtain rfl : j = 0 := Nat.le_antisymm h2 h1; exact ok_do rfl fun a ha => d_apS ha rfl rfl e34
          · intro j _ _; exact ok_do rfl fun a ha => d_nil ha rfl
          · intro j _ _; exact ok_do rfl fun a ha => d_fa ha rfl Try.runUnderlying95 rfl rfl Try.sizeOf93 (by decide)
          · intro j h1 h2; obtain rfl : j = 1 := Nat.le_antisymm h2 h1; exact ok_do rfl fun a ha => d_st ha rfl rfl Try.sizeOf93 e36
        · have ha : Has 45 [(3, (.pointer (some p12)))] a := ha.sub ⟨rfl, trivial⟩
          refine t_n ?_
          replace ha : Has 45 [(3, (.pointer (some p12)))] _ := ha.sub ⟨rfl, trivial⟩
          refine wp_seq ?_
          refine region_lit ?_
          refine s_do rfl ha (ltd rfl) (d_move ha rfl) (fun a ha => ?_)
          refine s_do rfl ha (ltd rfl) (d_assign ha rfl) (fun a ha => ?_)
          refine s_nil ?_
          refine t_n ?_
          replace ha : Has 45 [(2, (.pointer (some p12)))] _ := ha.sub ⟨rfl, trivial⟩
          refine wp_ret ?_
          have hS := ha
          cases h
          exact ret1 Try.results32 hS rfl ⟨rfl, rfl⟩
end Go.Proofs.Ytoanmomopcaikaa.D
