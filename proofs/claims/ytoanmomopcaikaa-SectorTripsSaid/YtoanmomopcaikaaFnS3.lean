/- Written by dec.py of this project: Go functions as plain functions over the memory, and that the Go calls come to these. -/
import Derived.Test.YtoanmomopcaikaaGlue
import Derived.Test.YtoanmomopcaikaaFnS0
import Derived.Test.YtoanmomopcaikaaFnS1
import Derived.Test.YtoanmomopcaikaaFnS2
namespace Go.Proofs.Ytoanmomopcaikaa.D
open Go
set_option linter.unusedVariables false
set_option linter.unusedSimpArgs false

noncomputable def grapevinelaw09_SectorForks_l1 (a1 : Sl) (v7 : Option Addr) (v10 : Option Addr) (x13 : Int) (w14 : World) : Option ((Int × World) ⊕ ((World) ⊕ (Bool × World))) :=
  bind2 (if (decide (x13 < (a1.n : Int))) = true then
  (some ((decide (x13 < 300)), w14))
  else
  (some (false, w14))) fun v23 w24 =>
  if v23 = true then
  ((ix a1 x13 4).bind fun p29 =>
  (ldA 4 w24 p29 0).bind fun c31 =>
  bind2 (grapevinelaw09_do v7 v10 c31 w24) fun v33 w34 =>
  if (!v33) = true then
  (some (.inr (.inr (false, w34))))
  else
  (some (.inl ((IntKind.wrap .i64 (x13 + 1)), w34))))
  else
  (some (.inr (.inl w24)))
noncomputable def grapevinelaw09_SectorForks (a0 : Sl) (a1 : Sl) (w : World) : Option (Bool × World) :=
  bind4 (grapevinelaw09_play 6 a0 w) fun v1 v2 v3 w4 =>
  if (!v3) = true then
  (some (false, w4))
  else
  (bind2 (sector_Disk_Fork v1 w4) fun v7 w8 =>
  bind2 (grapevineref09_Disk_Fork v2 w8) fun v10 w11 =>
  (loopF (fun s : Int × World => grapevinelaw09_SectorForks_l1 a1 v7 v10 s.1 s.2) (0, w11)).bind fun r15 => Sum.elim (fun (i : World) => u1 i fun w17 =>
  bind2 (bind2 (grapevinelaw09_live w17) fun v41 w42 =>
  if v41 = true then
  (bind2 (grapevinelaw09_same v1 v2 w42) fun v45 w46 =>
  if v45 = true then
  (bind2 (grapevinelaw09_same v7 v10 w46) fun v49 w50 =>
  some (v49, w50))
  else
  (some (false, w46)))
  else
  (some (false, w42))) fun v37 w38 =>
  some (v37, w38)) (fun (i : Bool × World) => u2 i fun v18 w19 =>
  some (v18, w19)) r15)
set_option maxHeartbeats 1000000 in
set_option maxRecDepth 100000 in
theorem grapevinelaw09_SectorForks_ok {a0 : Sl} {a1 : Sl} {w w' : World} {r0 : Bool} (h : grapevinelaw09_SectorForks a0 a1 w = some (r0, w')) : Calls Try.prog 9 #[(Sl.v a0), (Sl.v a1)] w fun e w'' => e = .returned (.bool r0) ∧ w'' = w' := by
  refine calls_dec (n := 52) Try.func9 rfl Try.ntmps9 (by simp) (fun a ha => ?_)
  unfold grapevinelaw09_SectorForks at h
  refine wp_seq ?_
  refine region_lit ?_
  refine s_do rfl ha (ltd rfl) (d_assign ha rfl) (fun a ha => ?_)
  refine s_nil ?_
  refine t_n ?_
  replace ha : Has 52 [(0, (Sl.v a0)), (1, (Sl.v a1))] _ := ha.sub ⟨rfl, rfl, trivial⟩
  refine wp_seq ?_
  refine region_lit ?_
  refine s_do rfl ha (ltd rfl) (d_move ha rfl) (fun a ha => ?_)
  obtain ⟨v1, v2, v3, w4, e5, h⟩ := bs4 h
  refine s_do rfl ha (ltd rfl) (d_call (xs := [_, _]) (vs := [(.int .i64 6), (Sl.v a0)]) ha ⟨rfl, rfl, trivial⟩ Try.call28 (grapevinelaw09_play_ok e5)) (fun a ha => ?_)
  refine s_do rfl ha (ltd rfl) (d_move ha rfl) (fun a ha => ?_)
  refine s_do rfl ha (ltd rfl) (d_ext ha rfl rfl) (fun a ha => ?_)
  refine s_do rfl ha (ltd rfl) (d_ext ha rfl rfl) (fun a ha => ?_)
  refine s_do rfl ha (ltd rfl) (d_ext ha rfl rfl) (fun a ha => ?_)
  refine s_do rfl ha (ltd rfl) (d_assign ha rfl) (fun a ha => ?_)
  refine s_do rfl ha (ltd rfl) (d_assign ha rfl) (fun a ha => ?_)
  refine s_do rfl ha (ltd rfl) (d_assign ha rfl) (fun a ha => ?_)
  refine s_nil ?_
  refine t_n ?_
  replace ha : Has 52 [(1, (Sl.v a1)), (5, (.pointer v1)), (6, (.pointer v2)), (7, (.bool v3))] _ := ha.sub ⟨rfl, rfl, rfl, rfl, trivial⟩
  refine wp_seq ?_
  refine wp_seq ?_
  refine region_lit ?_
  refine s_do rfl ha (ltd rfl) (d_move ha rfl) (fun a ha => ?_)
  refine s_do rfl ha (ltd rfl) (d_not ha rfl) (fun a ha => ?_)
  refine s_nil ?_
  refine t_n ?_
  replace ha : Has 52 [(1, (Sl.v a1)), (5, (.pointer v1)), (6, (.pointer v2)), (18, (.bool (!v3)))] _ := ha.sub ⟨rfl, rfl, rfl, rfl, trivial⟩
  refine s_cond ha rfl h (fun b6 h => ?_) (fun b6 h => ?_)
  · refine wp_seq ?_
    refine region_lit ?_
    refine s_do rfl ha (ltd rfl) (d_assign ha rfl) (fun a ha => ?_)
    refine s_nil ?_
    refine t_n ?_
    replace ha : Has 52 [(4, (.bool false))] _ := ha.sub ⟨rfl, trivial⟩
    refine wp_ret ?_
    refine t_r ?_
    have hS := ha
    cases h
    exact ret1 Try.results9 hS rfl ⟨rfl, rfl⟩
  · refine wp_skip ?_
    refine t_n ?_
    replace ha : Has 52 [(1, (Sl.v a1)), (5, (.pointer v1)), (6, (.pointer v2))] _ := ha.sub ⟨rfl, rfl, rfl, trivial⟩
    refine wp_seq ?_
    refine region_lit ?_
    refine s_do rfl ha (ltd rfl) (d_move ha rfl) (fun a ha => ?_)
    obtain ⟨v7, w8, e9, h⟩ := bs2 h
    refine s_do rfl ha (ltd rfl) (d_call (xs := [_]) (vs := [(.pointer v1)]) ha ⟨rfl, trivial⟩ Try.call31 (sector_Disk_Fork_ok e9)) (fun a ha => ?_)
    refine s_do rfl ha (ltd rfl) (d_move ha rfl) (fun a ha => ?_)
    obtain ⟨v10, w11, e12, h⟩ := bs2 h
    refine s_do rfl ha (ltd rfl) (d_call (xs := [_]) (vs := [(.pointer v2)]) ha ⟨rfl, trivial⟩ Try.call32 (grapevineref09_Disk_Fork_ok e12)) (fun a ha => ?_)
    refine s_do rfl ha (ltd rfl) (d_assign ha rfl) (fun a ha => ?_)
    refine s_do rfl ha (ltd rfl) (d_assign ha rfl) (fun a ha => ?_)
    refine s_nil ?_
    refine t_n ?_
    replace ha : Has 52 [(1, (Sl.v a1)), (5, (.pointer v1)), (6, (.pointer v2)), (8, (.pointer v7)), (9, (.pointer v10))] _ := ha.sub ⟨rfl, rfl, rfl, rfl, rfl, trivial⟩
    refine wp_seq ?_
    refine wp_seq ?_
    refine region_lit ?_
    refine s_do rfl ha (ltd rfl) (d_assign ha rfl) (fun a ha => ?_)
    refine s_nil ?_
    refine t_n ?_
    replace ha : Has 52 [(1, (Sl.v a1)), (5, (.pointer v1)), (6, (.pointer v2)), (8, (.pointer v7)), (9, (.pointer v10)), (10, (.int .i64 0))] _ := ha.sub ⟨rfl, rfl, rfl, rfl, rfl, rfl, trivial⟩
    refine wp_block ?_
    obtain ⟨r15, e16, h⟩ := bs1 h
    refine s_loop2 (n := 52) (L1 := fun i => [(5, (.pointer v1)), (6, (.pointer v2)), (8, (.pointer v7)), (9, (.pointer v10))]) (w1 := fun i => i) (L2 := fun i => [(4, (.bool i.1))]) (w2 := fun i => i.2) (e1 := .exit 0) (e2 := .ret) (I := fun (s : Int × World) a w => Has 52 [(10, (.int .i64 s.1)), (1, (Sl.v a1)), (5, (.pointer v1)), (6, (.pointer v2)), (8, (.pointer v7)), (9, (.pointer v10))] a ∧ w = s.2) ⟨ha.sub ⟨rfl, rfl, rfl, rfl, rfl, rfl, trivial⟩, rfl⟩ e16 (fun i hi a ha => ?_) (fun i hi a ha => ?_) (fun hk20 hk21 => ?_)
    · subst hi
      obtain w17 := i
      dsimp only [Sum.elim_inl, Sum.elim_inr, u1, u2, u3, u4, u5, u6] at h
      have ha : Has 52 [(5, (.pointer v1)), (6, (.pointer v2)), (8, (.pointer v7)), (9, (.pointer v10))] a := ha
      refine b_hit ?_
      refine t_n ?_
      replace ha : Has 52 [(5, (.pointer v1)), (6, (.pointer v2)), (8, (.pointer v7)), (9, (.pointer v10))] _ := ha.sub ⟨rfl, rfl, rfl, rfl, trivial⟩
      refine wp_seq ?_
      obtain ⟨v37, w38, e39, h⟩ := bs2 h
      refine reg_join (n := 52) (L := [(4, (.bool v37))]) (w' := w38) (fun a ha => ?_) (fun hk40 => ?_)
      · refine t_n ?_
        replace ha : Has 52 [(4, (.bool v37))] _ := ha.sub ⟨rfl, trivial⟩
        refine wp_ret ?_
        have hS := ha
        cases h
        exact ret1 Try.results9 hS rfl ⟨rfl, rfl⟩
      · clear h
        have h := e39
        refine region_lit ?_
        obtain ⟨v41, w42, e43, h⟩ := bs2 h
        refine s_do rfl ha (ltd rfl) (d_call (xs := []) (vs := []) ha trivial Try.call18 (grapevinelaw09_live_ok e43)) (fun a ha => ?_)
        refine s_do rfl ha (ltd rfl) (d_move ha rfl) (fun a ha => ?_)
        refine ite_s h (fun b44 h => ?_) (fun b44 h => ?_)
        · refine s_do_g2 rfl rfl ha (rfl : List.lookup 42 _ = _) b44 (ltd rfl) (d_move ha rfl) (fun a ha => ?_)
          refine s_do_g2 rfl rfl ha (rfl : List.lookup 42 _ = _) b44 (ltd rfl) (d_move ha rfl) (fun a ha => ?_)
          obtain ⟨v45, w46, e47, h⟩ := bs2 h
          refine s_do_g2 rfl rfl ha (rfl : List.lookup 42 _ = _) b44 (ltd rfl) (d_call (xs := [_, _]) (vs := [(.pointer v1), (.pointer v2)]) ha ⟨rfl, rfl, trivial⟩ Try.call30 (grapevinelaw09_same_ok e47)) (fun a ha => ?_)
          refine s_do rfl ha (ltd rfl) (d_pick_t ha rfl b44 rfl) (fun a ha => ?_)
          refine s_do rfl ha (ltd rfl) (d_move ha rfl) (fun a ha => ?_)
          refine ite_s h (fun b48 h => ?_) (fun b48 h => ?_)
          · refine s_do_g2 rfl rfl ha (rfl : List.lookup 47 _ = _) b48 (ltd rfl) (d_move ha rfl) (fun a ha => ?_)
            refine s_do_g2 rfl rfl ha (rfl : List.lookup 47 _ = _) b48 (ltd rfl) (d_move ha rfl) (fun a ha => ?_)
            obtain ⟨v49, w50, e51, h⟩ := bs2 h
            refine s_do_g2 rfl rfl ha (rfl : List.lookup 47 _ = _) b48 (ltd rfl) (d_call (xs := [_, _]) (vs := [(.pointer v7), (.pointer v10)]) ha ⟨rfl, rfl, trivial⟩ Try.call30 (grapevinelaw09_same_ok e51)) (fun a ha => ?_)
            refine s_do rfl ha (ltd rfl) (d_pick_t ha rfl b48 rfl) (fun a ha => ?_)
            refine s_do rfl ha (ltd rfl) (d_assign ha rfl) (fun a ha => ?_)
            refine s_nil ?_
            have hS : Has 52 [(4, (.bool v49))] _ := ha.sub ⟨rfl, trivial⟩
            cases h
            exact hk40 _ hS
          · refine s_no_g rfl rfl ha (rfl : List.lookup 47 _ = _) (nn b48 _ rfl) (ltd rfl) (fun a ha => ?_)
            refine s_no_g rfl rfl ha (rfl : List.lookup 47 _ = _) (nn b48 _ rfl) (ltd rfl) (fun a ha => ?_)
            refine s_no_g rfl rfl ha (rfl : List.lookup 47 _ = _) (nn b48 _ rfl) (ltd rfl) (fun a ha => ?_)
            refine s_do rfl ha (ltd rfl) (d_pick_f ha rfl b48 rfl) (fun a ha => ?_)
            refine s_do rfl ha (ltd rfl) (d_assign ha rfl) (fun a ha => ?_)
            refine s_nil ?_
            have hS : Has 52 [(4, (.bool false))] _ := ha.sub ⟨rfl, trivial⟩
            cases h
            exact hk40 _ hS
        · refine s_no_g rfl rfl ha (rfl : List.lookup 42 _ = _) (nn b44 _ rfl) (ltd rfl) (fun a ha => ?_)
          refine s_no_g rfl rfl ha (rfl : List.lookup 42 _ = _) (nn b44 _ rfl) (ltd rfl) (fun a ha => ?_)
          refine s_no_g rfl rfl ha (rfl : List.lookup 42 _ = _) (nn b44 _ rfl) (ltd rfl) (fun a ha => ?_)
          refine s_do rfl ha (ltd rfl) (d_pick_f ha rfl b44 rfl) (fun a ha => ?_)
          refine s_do rfl ha (ltd rfl) (d_move ha rfl) (fun a ha => ?_)
          refine s_no_g rfl rfl ha (rfl : List.lookup 47 _ = _) (nn (by decide) _ rfl) (ltd rfl) (fun a ha => ?_)
          refine s_no_g rfl rfl ha (rfl : List.lookup 47 _ = _) (nn (by decide) _ rfl) (ltd rfl) (fun a ha => ?_)
          refine s_no_g rfl rfl ha (rfl : List.lookup 47 _ = _) (nn (by decide) _ rfl) (ltd rfl) (fun a ha => ?_)
          refine s_do rfl ha (ltd rfl) (d_pick_f ha rfl (by decide) rfl) (fun a ha => ?_)
          refine s_do rfl ha (ltd rfl) (d_assign ha rfl) (fun a ha => ?_)
          refine s_nil ?_
          have hS : Has 52 [(4, (.bool false))] _ := ha.sub ⟨rfl, trivial⟩
          cases h
          exact hk40 _ hS
    · subst hi
      obtain ⟨v18, w19⟩ := i
      dsimp only [Sum.elim_inl, Sum.elim_inr, u1, u2, u3, u4, u5, u6] at h
      have ha : Has 52 [(4, (.bool v18))] a := ha
      refine b_r ?_
      refine t_r ?_
      have hS := ha
      cases h
      exact ret1 Try.results9 hS rfl ⟨rfl, rfl⟩
    · clear h
      rintro ⟨x13, w14⟩ a wq o ⟨ha, hwq⟩ h hr22
      obtain rfl : w14 = wq := hwq.symm
      have ha : Has 52 [(10, (.int .i64 x13)), (1, (Sl.v a1)), (5, (.pointer v1)), (6, (.pointer v2)), (8, (.pointer v7)), (9, (.pointer v10))] a := ha
      have h : grapevinelaw09_SectorForks_l1 a1 v7 v10 x13 w14 = some o := h
      unfold grapevinelaw09_SectorForks_l1 at h
      refine wp_seq ?_
      refine wp_seq ?_
      obtain ⟨v23, w24, e25, h⟩ := bs2 h
      refine reg_join (n := 52) (L := [(30, (.bool v23)), (1, (Sl.v a1)), (5, (.pointer v1)), (6, (.pointer v2)), (8, (.pointer v7)), (9, (.pointer v10)), (10, (.int .i64 x13))]) (w' := w24) (fun a ha => ?_) (fun hk26 => ?_)
      · refine t_n ?_
        replace ha : Has 52 [(1, (Sl.v a1)), (5, (.pointer v1)), (6, (.pointer v2)), (8, (.pointer v7)), (9, (.pointer v10)), (10, (.int .i64 x13)), (30, (.bool v23))] _ := ha.sub ⟨rfl, rfl, rfl, rfl, rfl, rfl, rfl, trivial⟩
        refine s_cond ha rfl h (fun b28 h => ?_) (fun b28 h => ?_)
        · refine wp_skip ?_
          refine t_n ?_
          replace ha : Has 52 [(1, (Sl.v a1)), (5, (.pointer v1)), (6, (.pointer v2)), (8, (.pointer v7)), (9, (.pointer v10)), (10, (.int .i64 x13))] _ := ha.sub ⟨rfl, rfl, rfl, rfl, rfl, rfl, trivial⟩
          refine wp_seq ?_
          refine wp_block ?_
          refine wp_seq ?_
          refine region_lit ?_
          refine s_do rfl ha (ltd rfl) (d_move ha rfl) (fun a ha => ?_)
          refine s_do rfl ha (ltd rfl) (d_move ha rfl) (fun a ha => ?_)
          refine s_do rfl ha (ltd rfl) (d_move ha rfl) (fun a ha => ?_)
          refine s_do rfl ha (ltd rfl) (d_move ha rfl) (fun a ha => ?_)
          obtain ⟨p29, e30, h⟩ := bs1 h
          refine s_do rfl ha (ltd rfl) (d_ix ha rfl rfl Try.runUnderlying37 Try.sizeOf40 e30) (fun a ha => ?_)
          obtain ⟨c31, e32, h⟩ := bs1 h
          refine s_do rfl ha (ltd rfl) (d_ldA ha rfl Try.isAgg40 Try.sizeOf40 e32) (fun a ha => ?_)
          obtain ⟨v33, w34, e35, h⟩ := bs2 h
          refine s_do rfl ha (ltd rfl) (d_call (xs := [_, _, _]) (vs := [(.pointer v7), (.pointer v10), (.agg (List.toArray c31))]) ha ⟨rfl, rfl, rfl, trivial⟩ Try.call33 (grapevinelaw09_do_ok e35)) (fun a ha => ?_)
          refine s_do rfl ha (ltd rfl) (d_not ha rfl) (fun a ha => ?_)
          refine s_nil ?_
          refine t_n ?_
          replace ha : Has 52 [(1, (Sl.v a1)), (5, (.pointer v1)), (6, (.pointer v2)), (8, (.pointer v7)), (9, (.pointer v10)), (10, (.int .i64 x13)), (40, (.bool (!v33)))] _ := ha.sub ⟨rfl, rfl, rfl, rfl, rfl, rfl, rfl, trivial⟩
          refine s_cond ha rfl h (fun b36 h => ?_) (fun b36 h => ?_)
          · refine wp_seq ?_
            refine region_lit ?_
            refine s_do rfl ha (ltd rfl) (d_assign ha rfl) (fun a ha => ?_)
            refine s_nil ?_
            refine t_n ?_
            replace ha : Has 52 [(4, (.bool false))] _ := ha.sub ⟨rfl, trivial⟩
            refine wp_ret ?_
            refine b_r ?_
            refine t_r ?_
            have hS : Has 52 [(4, (.bool false))] _ := ha.sub ⟨rfl, trivial⟩
            cases h
            cases hr22 _ rfl
            refine lp_r ?_
            exact hk21 _ rfl _ hS
          · refine wp_skip ?_
            refine b_n ?_
            refine t_n ?_
            replace ha : Has 52 [(1, (Sl.v a1)), (5, (.pointer v1)), (6, (.pointer v2)), (8, (.pointer v7)), (9, (.pointer v10)), (10, (.int .i64 x13))] _ := ha.sub ⟨rfl, rfl, rfl, rfl, rfl, rfl, trivial⟩
            refine region_lit ?_
            refine s_do rfl ha (ltd rfl) (d_move ha rfl) (fun a ha => ?_)
            refine s_do rfl ha (ltd rfl) (d_add ha rfl rfl) (fun a ha => ?_)
            refine s_do rfl ha (ltd rfl) (d_assign ha rfl) (fun a ha => ?_)
            refine s_nil ?_
            have hS : Has 52 [(10, (.int .i64 (IntKind.wrap .i64 (x13 + 1)))), (1, (Sl.v a1)), (5, (.pointer v1)), (6, (.pointer v2)), (8, (.pointer v7)), (9, (.pointer v10))] _ := ha.sub ⟨rfl, rfl, rfl, rfl, rfl, rfl, trivial⟩
            cases h
            exact lp_next ⟨hS, rfl⟩
        · refine wp_exit ?_
          refine t_x ?_
          have hS : Has 52 [(5, (.pointer v1)), (6, (.pointer v2)), (8, (.pointer v7)), (9, (.pointer v10))] _ := ha.sub ⟨rfl, rfl, rfl, rfl, trivial⟩
          cases h
          cases hr22 _ rfl
          refine lp_x ?_
          exact hk20 _ rfl _ hS
      · clear h
        have h := e25
        refine region_lit ?_
        refine s_do rfl ha (ltd rfl) (d_move ha rfl) (fun a ha => ?_)
        refine s_do rfl ha (ltd rfl) (d_move ha rfl) (fun a ha => ?_)
        refine s_do rfl ha (ltd rfl) (d_lenS ha rfl Try.runUnderlying37) (fun a ha => ?_)
        refine s_do rfl ha (ltd rfl) (d_lt ha rfl rfl) (fun a ha => ?_)
        refine s_do rfl ha (ltd rfl) (d_move ha rfl) (fun a ha => ?_)
        refine ite_s h (fun b27 h => ?_) (fun b27 h => ?_)
        · refine s_do_g2 rfl rfl ha (rfl : List.lookup 27 _ = _) b27 (ltd rfl) (d_move ha rfl) (fun a ha => ?_)
          refine s_do_g2 rfl rfl ha (rfl : List.lookup 27 _ = _) b27 (ltd rfl) (d_lt ha rfl rfl) (fun a ha => ?_)
          refine s_do rfl ha (ltd rfl) (d_pick_t ha rfl b27 rfl) (fun a ha => ?_)
          refine s_nil ?_
          have hS : Has 52 [(30, (.bool (decide (x13 < 300)))), (1, (Sl.v a1)), (5, (.pointer v1)), (6, (.pointer v2)), (8, (.pointer v7)), (9, (.pointer v10)), (10, (.int .i64 x13))] _ := ha.sub ⟨rfl, rfl, rfl, rfl, rfl, rfl, rfl, trivial⟩
          cases h
          exact hk26 _ hS
        · refine s_no_g rfl rfl ha (rfl : List.lookup 27 _ = _) (nn b27 _ rfl) (ltd rfl) (fun a ha => ?_)
          refine s_no_g rfl rfl ha (rfl : List.lookup 27 _ = _) (nn b27 _ rfl) (ltd rfl) (fun a ha => ?_)
          refine s_do rfl ha (ltd rfl) (d_pick_f ha rfl b27 rfl) (fun a ha => ?_)
          refine s_nil ?_
          have hS : Has 52 [(30, (.bool false)), (1, (Sl.v a1)), (5, (.pointer v1)), (6, (.pointer v2)), (8, (.pointer v7)), (9, (.pointer v10)), (10, (.int .i64 x13))] _ := ha.sub ⟨rfl, rfl, rfl, rfl, rfl, rfl, rfl, trivial⟩
          cases h
          exact hk26 _ hS

noncomputable def grapevinelaw09_SectorNone (a0 : Int) (a1 : Sl) (w : World) : Option (Bool × World) :=
  bind3 (sector_Disk_Read none a0 w) fun v1 v2 w3 =>
  bind3 (sector_Disk_Sure none a0 w3) fun v5 v6 w7 =>
  bind2 (bind2 (grapevinelaw09_live w7) fun v13 w14 =>
  if v13 = true then
  (if (v2 == 1) = true then
  (if (v6 == 1) = true then
  (if ((v1.n : Int) == 0) = true then
  (if ((v5.n : Int) == 0) = true then
  (bind2 (sector_Disk_Write none a0 a1 w14) fun v21 w22 =>
  if (v21 == 1) = true then
  (bind2 (sector_Disk_Sync none w22) fun v25 w26 =>
  if (v25 == 1) = true then
  (bind2 (sector_Disk_Trip none a0 w26) fun v29 w30 =>
  if (v29 == 1) = true then
  (bind2 (bsl w30 3 1 [[(.int .i64 a0)]]) fun s33 w34 =>
  bind2 (sector_Disk_Crash none s33 w34) fun v36 w37 =>
  if (v36 == 1) = true then
  (bind2 (sector_Disk_Size none w37) fun v40 w41 =>
  if (v40 == 0) = true then
  (bind2 (sector_Disk_Waits none w41) fun v44 w45 =>
  if (v44 == 0) = true then
  (bind2 (sector_Disk_Age none w45) fun v48 w49 =>
  if (v48 == 0) = true then
  (bind2 (sector_Disk_Down none w49) fun v52 w53 =>
  if (!v52) = true then
  (bind2 (sector_Disk_Fork none w53) fun v56 w57 =>
  some ((v56.isNone), w57))
  else
  (some (false, w53)))
  else
  (some (false, w49)))
  else
  (some (false, w45)))
  else
  (some (false, w41)))
  else
  (some (false, w37)))
  else
  (some (false, w30)))
  else
  (some (false, w26)))
  else
  (some (false, w22)))
  else
  (some (false, w14)))
  else
  (some (false, w14)))
  else
  (some (false, w14)))
  else
  (some (false, w14)))
  else
  (some (false, w14))) fun v9 w10 =>
  some (v9, w10)
set_option maxHeartbeats 1000000 in
set_option maxRecDepth 100000 in
theorem grapevinelaw09_SectorNone_ok {a0 : Int} {a1 : Sl} {w w' : World} {r0 : Bool} (h : grapevinelaw09_SectorNone a0 a1 w = some (r0, w')) : Calls Try.prog 10 #[(.int .i64 a0), (Sl.v a1)] w fun e w'' => e = .returned (.bool r0) ∧ w'' = w' := by
  refine calls_dec (n := 91) Try.func10 rfl Try.ntmps10 (by simp) (fun a ha => ?_)
  unfold grapevinelaw09_SectorNone at h
  refine wp_seq ?_
  refine region_lit ?_
  refine s_do rfl ha (ltd rfl) (d_assign ha rfl) (fun a ha => ?_)
  refine s_nil ?_
  refine t_n ?_
  replace ha : Has 91 [(0, (.int .i64 a0)), (1, (Sl.v a1))] _ := ha.sub ⟨rfl, rfl, trivial⟩
  refine wp_seq ?_
  refine region_lit ?_
  refine s_do rfl ha (ltd rfl) (d_assign ha rfl) (fun a ha => ?_)
  refine s_nil ?_
  refine t_n ?_
  replace ha : Has 91 [(0, (.int .i64 a0)), (1, (Sl.v a1)), (5, (.pointer none))] _ := ha.sub ⟨rfl, rfl, rfl, trivial⟩
  refine wp_seq ?_
  refine region_lit ?_
  refine s_do rfl ha (ltd rfl) (d_move ha rfl) (fun a ha => ?_)
  refine s_do rfl ha (ltd rfl) (d_move ha rfl) (fun a ha => ?_)
  obtain ⟨v1, v2, w3, e4, h⟩ := bs3 h
  refine s_do rfl ha (ltd rfl) (d_call (xs := [_, _]) (vs := [(.pointer none), (.int .i64 a0)]) ha ⟨rfl, rfl, trivial⟩ Try.call25 (sector_Disk_Read_ok e4)) (fun a ha => ?_)
  refine s_do rfl ha (ltd rfl) (d_move ha rfl) (fun a ha => ?_)
  refine s_do rfl ha (ltd rfl) (d_ext ha rfl rfl) (fun a ha => ?_)
  refine s_do rfl ha (ltd rfl) (d_ext ha rfl rfl) (fun a ha => ?_)
  refine s_do rfl ha (ltd rfl) (d_assign ha rfl) (fun a ha => ?_)
  refine s_do rfl ha (ltd rfl) (d_assign ha rfl) (fun a ha => ?_)
  refine s_nil ?_
  refine t_n ?_
  replace ha : Has 91 [(0, (.int .i64 a0)), (1, (Sl.v a1)), (5, (.pointer none)), (6, (Sl.v v1)), (7, (.int .i64 v2))] _ := ha.sub ⟨rfl, rfl, rfl, rfl, rfl, trivial⟩
  refine wp_seq ?_
  refine region_lit ?_
  refine s_do rfl ha (ltd rfl) (d_move ha rfl) (fun a ha => ?_)
  refine s_do rfl ha (ltd rfl) (d_move ha rfl) (fun a ha => ?_)
  obtain ⟨v5, v6, w7, e8, h⟩ := bs3 h
  refine s_do rfl ha (ltd rfl) (d_call (xs := [_, _]) (vs := [(.pointer none), (.int .i64 a0)]) ha ⟨rfl, rfl, trivial⟩ Try.call24 (sector_Disk_Sure_ok e8)) (fun a ha => ?_)
  refine s_do rfl ha (ltd rfl) (d_move ha rfl) (fun a ha => ?_)
  refine s_do rfl ha (ltd rfl) (d_ext ha rfl rfl) (fun a ha => ?_)
  refine s_do rfl ha (ltd rfl) (d_ext ha rfl rfl) (fun a ha => ?_)
  refine s_do rfl ha (ltd rfl) (d_assign ha rfl) (fun a ha => ?_)
  refine s_do rfl ha (ltd rfl) (d_assign ha rfl) (fun a ha => ?_)
  refine s_nil ?_
  refine t_n ?_
  replace ha : Has 91 [(0, (.int .i64 a0)), (1, (Sl.v a1)), (5, (.pointer none)), (6, (Sl.v v1)), (7, (.int .i64 v2)), (8, (Sl.v v5)), (9, (.int .i64 v6))] _ := ha.sub ⟨rfl, rfl, rfl, rfl, rfl, rfl, rfl, trivial⟩
  refine wp_seq ?_
  obtain ⟨v9, w10, e11, h⟩ := bs2 h
  refine reg_join (n := 91) (L := [(4, (.bool v9))]) (w' := w10) (fun a ha => ?_) (fun hk12 => ?_)
  · refine t_n ?_
    replace ha : Has 91 [(4, (.bool v9))] _ := ha.sub ⟨rfl, trivial⟩
    refine wp_ret ?_
    have hS := ha
    cases h
    exact ret1 Try.results10 hS rfl ⟨rfl, rfl⟩
  · clear h
    have h := e11
    refine region_lit ?_
    obtain ⟨v13, w14, e15, h⟩ := bs2 h
    refine s_do rfl ha (ltd rfl) (d_call (xs := []) (vs := []) ha trivial Try.call18 (grapevinelaw09_live_ok e15)) (fun a ha => ?_)
    refine s_do rfl ha (ltd rfl) (d_move ha rfl) (fun a ha => ?_)
    refine ite_s h (fun b16 h => ?_) (fun b16 h => ?_)
    · refine s_do_g2 rfl rfl ha (rfl : List.lookup 23 _ = _) b16 (ltd rfl) (d_move ha rfl) (fun a ha => ?_)
      refine s_do_g2 rfl rfl ha (rfl : List.lookup 23 _ = _) b16 (ltd rfl) (d_eq ha rfl rfl) (fun a ha => ?_)
      refine s_do rfl ha (ltd rfl) (d_pick_t ha rfl b16 rfl) (fun a ha => ?_)
      refine s_do rfl ha (ltd rfl) (d_move ha rfl) (fun a ha => ?_)
      refine ite_s h (fun b17 h => ?_) (fun b17 h => ?_)
      · refine s_do_g2 rfl rfl ha (rfl : List.lookup 27 _ = _) b17 (ltd rfl) (d_move ha rfl) (fun a ha => ?_)
        refine s_do_g2 rfl rfl ha (rfl : List.lookup 27 _ = _) b17 (ltd rfl) (d_eq ha rfl rfl) (fun a ha => ?_)
        refine s_do rfl ha (ltd rfl) (d_pick_t ha rfl b17 rfl) (fun a ha => ?_)
        refine s_do rfl ha (ltd rfl) (d_move ha rfl) (fun a ha => ?_)
        refine ite_s h (fun b18 h => ?_) (fun b18 h => ?_)
        · refine s_do_g2 rfl rfl ha (rfl : List.lookup 31 _ = _) b18 (ltd rfl) (d_move ha rfl) (fun a ha => ?_)
          refine s_do_g2 rfl rfl ha (rfl : List.lookup 31 _ = _) b18 (ltd rfl) (d_lenS ha rfl Try.runUnderlying29) (fun a ha => ?_)
          refine s_do_g2 rfl rfl ha (rfl : List.lookup 31 _ = _) b18 (ltd rfl) (d_eq ha rfl rfl) (fun a ha => ?_)
          refine s_do rfl ha (ltd rfl) (d_pick_t ha rfl b18 rfl) (fun a ha => ?_)
          refine s_do rfl ha (ltd rfl) (d_move ha rfl) (fun a ha => ?_)
          refine ite_s h (fun b19 h => ?_) (fun b19 h => ?_)
          · refine s_do_g2 rfl rfl ha (rfl : List.lookup 36 _ = _) b19 (ltd rfl) (d_move ha rfl) (fun a ha => ?_)
            refine s_do_g2 rfl rfl ha (rfl : List.lookup 36 _ = _) b19 (ltd rfl) (d_lenS ha rfl Try.runUnderlying29) (fun a ha => ?_)
            refine s_do_g2 rfl rfl ha (rfl : List.lookup 36 _ = _) b19 (ltd rfl) (d_eq ha rfl rfl) (fun a ha => ?_)
            refine s_do rfl ha (ltd rfl) (d_pick_t ha rfl b19 rfl) (fun a ha => ?_)
            refine s_do rfl ha (ltd rfl) (d_move ha rfl) (fun a ha => ?_)
            refine ite_s h (fun b20 h => ?_) (fun b20 h => ?_)
            · refine s_do_g2 rfl rfl ha (rfl : List.lookup 41 _ = _) b20 (ltd rfl) (d_move ha rfl) (fun a ha => ?_)
              refine s_do_g2 rfl rfl ha (rfl : List.lookup 41 _ = _) b20 (ltd rfl) (d_move ha rfl) (fun a ha => ?_)
              refine s_do_g2 rfl rfl ha (rfl : List.lookup 41 _ = _) b20 (ltd rfl) (d_move ha rfl) (fun a ha => ?_)
              obtain ⟨v21, w22, e23, h⟩ := bs2 h
              refine s_do_g2 rfl rfl ha (rfl : List.lookup 41 _ = _) b20 (ltd rfl) (d_call (xs := [_, _, _]) (vs := [(.pointer none), (.int .i64 a0), (Sl.v a1)]) ha ⟨rfl, rfl, rfl, trivial⟩ Try.call22 (sector_Disk_Write_ok e23)) (fun a ha => ?_)
              refine s_do_g2 rfl rfl ha (rfl : List.lookup 41 _ = _) b20 (ltd rfl) (d_eq ha rfl rfl) (fun a ha => ?_)
              refine s_do rfl ha (ltd rfl) (d_pick_t ha rfl b20 rfl) (fun a ha => ?_)
              refine s_do rfl ha (ltd rfl) (d_move ha rfl) (fun a ha => ?_)
              refine ite_s h (fun b24 h => ?_) (fun b24 h => ?_)
              · refine s_do_g2 rfl rfl ha (rfl : List.lookup 48 _ = _) b24 (ltd rfl) (d_move ha rfl) (fun a ha => ?_)
                obtain ⟨v25, w26, e27, h⟩ := bs2 h
                refine s_do_g2 rfl rfl ha (rfl : List.lookup 48 _ = _) b24 (ltd rfl) (d_call (xs := [_]) (vs := [(.pointer none)]) ha ⟨rfl, trivial⟩ Try.call23 (sector_Disk_Sync_ok e27)) (fun a ha => ?_)
                refine s_do_g2 rfl rfl ha (rfl : List.lookup 48 _ = _) b24 (ltd rfl) (d_eq ha rfl rfl) (fun a ha => ?_)
                refine s_do rfl ha (ltd rfl) (d_pick_t ha rfl b24 rfl) (fun a ha => ?_)
                refine s_do rfl ha (ltd rfl) (d_move ha rfl) (fun a ha => ?_)
                refine ite_s h (fun b28 h => ?_) (fun b28 h => ?_)
                · refine s_do_g2 rfl rfl ha (rfl : List.lookup 53 _ = _) b28 (ltd rfl) (d_move ha rfl) (fun a ha => ?_)
                  refine s_do_g2 rfl rfl ha (rfl : List.lookup 53 _ = _) b28 (ltd rfl) (d_move ha rfl) (fun a ha => ?_)
                  obtain ⟨v29, w30, e31, h⟩ := bs2 h
                  refine s_do_g2 rfl rfl ha (rfl : List.lookup 53 _ = _) b28 (ltd rfl) (d_call (xs := [_, _]) (vs := [(.pointer none), (.int .i64 a0)]) ha ⟨rfl, rfl, trivial⟩ Try.call27 (sector_Disk_Trip_ok e31)) (fun a ha => ?_)
                  refine s_do_g2 rfl rfl ha (rfl : List.lookup 53 _ = _) b28 (ltd rfl) (d_eq ha rfl rfl) (fun a ha => ?_)
                  refine s_do rfl ha (ltd rfl) (d_pick_t ha rfl b28 rfl) (fun a ha => ?_)
                  refine s_do rfl ha (ltd rfl) (d_move ha rfl) (fun a ha => ?_)
                  refine ite_s h (fun b32 h => ?_) (fun b32 h => ?_)
                  · refine s_do_g2 rfl rfl ha (rfl : List.lookup 59 _ = _) b32 (ltd rfl) (d_move ha rfl) (fun a ha => ?_)
                    refine s_do_g2 rfl rfl ha (rfl : List.lookup 59 _ = _) b32 (ltd rfl) (d_move ha rfl) (fun a ha => ?_)
                    obtain ⟨s33, w34, e35, h⟩ := bs2 h
                    refine s_do_g2 rfl rfl ha (rfl : List.lookup 59 _ = _) b32 (ltd rfl) (d_bsl (vs := [(0, (.int .i64 a0))]) (ps := [[(.int .i64 a0)]]) ha ⟨rfl, rfl, trivial⟩ ⟨rfl, rfl, trivial⟩ rfl Try.runUnderlying35 Try.sizeOf3 Try.zeroValue3 (by decide) e35) (fun a ha => ?_)
                    obtain ⟨v36, w37, e38, h⟩ := bs2 h
                    refine s_do_g2 rfl rfl ha (rfl : List.lookup 59 _ = _) b32 (ltd rfl) (d_call (xs := [_, _]) (vs := [(.pointer none), (Sl.v s33)]) ha ⟨rfl, rfl, trivial⟩ Try.call26 (sector_Disk_Crash_ok e38)) (fun a ha => ?_)
                    refine s_do_g2 rfl rfl ha (rfl : List.lookup 59 _ = _) b32 (ltd rfl) (d_eq ha rfl rfl) (fun a ha => ?_)
                    refine s_do rfl ha (ltd rfl) (d_pick_t ha rfl b32 rfl) (fun a ha => ?_)
                    refine s_do rfl ha (ltd rfl) (d_move ha rfl) (fun a ha => ?_)
                    refine ite_s h (fun b39 h => ?_) (fun b39 h => ?_)
                    · refine s_do_g2 rfl rfl ha (rfl : List.lookup 66 _ = _) b39 (ltd rfl) (d_move ha rfl) (fun a ha => ?_)
                      obtain ⟨v40, w41, e42, h⟩ := bs2 h
                      refine s_do_g2 rfl rfl ha (rfl : List.lookup 66 _ = _) b39 (ltd rfl) (d_call (xs := [_]) (vs := [(.pointer none)]) ha ⟨rfl, trivial⟩ Try.call19 (sector_Disk_Size_ok e42)) (fun a ha => ?_)
                      refine s_do_g2 rfl rfl ha (rfl : List.lookup 66 _ = _) b39 (ltd rfl) (d_eq ha rfl rfl) (fun a ha => ?_)
                      refine s_do rfl ha (ltd rfl) (d_pick_t ha rfl b39 rfl) (fun a ha => ?_)
                      refine s_do rfl ha (ltd rfl) (d_move ha rfl) (fun a ha => ?_)
                      refine ite_s h (fun b43 h => ?_) (fun b43 h => ?_)
                      · refine s_do_g2 rfl rfl ha (rfl : List.lookup 71 _ = _) b43 (ltd rfl) (d_move ha rfl) (fun a ha => ?_)
                        obtain ⟨v44, w45, e46, h⟩ := bs2 h
                        refine s_do_g2 rfl rfl ha (rfl : List.lookup 71 _ = _) b43 (ltd rfl) (d_call (xs := [_]) (vs := [(.pointer none)]) ha ⟨rfl, trivial⟩ Try.call20 (sector_Disk_Waits_ok e46)) (fun a ha => ?_)
                        refine s_do_g2 rfl rfl ha (rfl : List.lookup 71 _ = _) b43 (ltd rfl) (d_eq ha rfl rfl) (fun a ha => ?_)
                        refine s_do rfl ha (ltd rfl) (d_pick_t ha rfl b43 rfl) (fun a ha => ?_)
                        refine s_do rfl ha (ltd rfl) (d_move ha rfl) (fun a ha => ?_)
                        refine ite_s h (fun b47 h => ?_) (fun b47 h => ?_)
                        · refine s_do_g2 rfl rfl ha (rfl : List.lookup 76 _ = _) b47 (ltd rfl) (d_move ha rfl) (fun a ha => ?_)
                          obtain ⟨v48, w49, e50, h⟩ := bs2 h
                          refine s_do_g2 rfl rfl ha (rfl : List.lookup 76 _ = _) b47 (ltd rfl) (d_call (xs := [_]) (vs := [(.pointer none)]) ha ⟨rfl, trivial⟩ Try.call34 (sector_Disk_Age_ok e50)) (fun a ha => ?_)
                          refine s_do_g2 rfl rfl ha (rfl : List.lookup 76 _ = _) b47 (ltd rfl) (d_eq ha rfl rfl) (fun a ha => ?_)
                          refine s_do rfl ha (ltd rfl) (d_pick_t ha rfl b47 rfl) (fun a ha => ?_)
                          refine s_do rfl ha (ltd rfl) (d_move ha rfl) (fun a ha => ?_)
                          refine ite_s h (fun b51 h => ?_) (fun b51 h => ?_)
                          · refine s_do_g2 rfl rfl ha (rfl : List.lookup 81 _ = _) b51 (ltd rfl) (d_move ha rfl) (fun a ha => ?_)
                            obtain ⟨v52, w53, e54, h⟩ := bs2 h
                            refine s_do_g2 rfl rfl ha (rfl : List.lookup 81 _ = _) b51 (ltd rfl) (d_call (xs := [_]) (vs := [(.pointer none)]) ha ⟨rfl, trivial⟩ Try.call21 (sector_Disk_Down_ok e54)) (fun a ha => ?_)
                            refine s_do_g2 rfl rfl ha (rfl : List.lookup 81 _ = _) b51 (ltd rfl) (d_not ha rfl) (fun a ha => ?_)
                            refine s_do rfl ha (ltd rfl) (d_pick_t ha rfl b51 rfl) (fun a ha => ?_)
                            refine s_do rfl ha (ltd rfl) (d_move ha rfl) (fun a ha => ?_)
                            refine ite_s h (fun b55 h => ?_) (fun b55 h => ?_)
                            · refine s_do_g2 rfl rfl ha (rfl : List.lookup 86 _ = _) b55 (ltd rfl) (d_move ha rfl) (fun a ha => ?_)
                              obtain ⟨v56, w57, e58, h⟩ := bs2 h
                              refine s_do_g2 rfl rfl ha (rfl : List.lookup 86 _ = _) b55 (ltd rfl) (d_call (xs := [_]) (vs := [(.pointer none)]) ha ⟨rfl, trivial⟩ Try.call31 (sector_Disk_Fork_ok e58)) (fun a ha => ?_)
                              refine s_do_g2 rfl rfl ha (rfl : List.lookup 86 _ = _) b55 (ltd rfl) (d_eqN ha rfl rfl Try.runUnderlying22) (fun a ha => ?_)
                              refine s_do rfl ha (ltd rfl) (d_pick_t ha rfl b55 rfl) (fun a ha => ?_)
                              refine s_do rfl ha (ltd rfl) (d_assign ha rfl) (fun a ha => ?_)
                              refine s_nil ?_
                              have hS : Has 91 [(4, (.bool (v56.isNone)))] _ := ha.sub ⟨rfl, trivial⟩
                              cases h
                              exact hk12 _ hS
                            · refine s_no_g rfl rfl ha (rfl : List.lookup 86 _ = _) (nn b55 _ rfl) (ltd rfl) (fun a ha => ?_)
                              refine s_no_g rfl rfl ha (rfl : List.lookup 86 _ = _) (nn b55 _ rfl) (ltd rfl) (fun a ha => ?_)
                              refine s_no_g rfl rfl ha (rfl : List.lookup 86 _ = _) (nn b55 _ rfl) (ltd rfl) (fun a ha => ?_)
                              refine s_do rfl ha (ltd rfl) (d_pick_f ha rfl b55 rfl) (fun a ha => ?_)
                              refine s_do rfl ha (ltd rfl) (d_assign ha rfl) (fun a ha => ?_)
                              refine s_nil ?_
                              have hS : Has 91 [(4, (.bool false))] _ := ha.sub ⟨rfl, trivial⟩
                              cases h
                              exact hk12 _ hS
                          · refine s_no_g rfl rfl ha (rfl : List.lookup 81 _ = _) (nn b51 _ rfl) (ltd rfl) (fun a ha => ?_)
                            refine s_no_g rfl rfl ha (rfl : List.lookup 81 _ = _) (nn b51 _ rfl) (ltd rfl) (fun a ha => ?_)
                            refine s_no_g rfl rfl ha (rfl : List.lookup 81 _ = _) (nn b51 _ rfl) (ltd rfl) (fun a ha => ?_)
                            refine s_do rfl ha (ltd rfl) (d_pick_f ha rfl b51 rfl) (fun a ha => ?_)
                            refine s_do rfl ha (ltd rfl) (d_move ha rfl) (fun a ha => ?_)
                            refine s_no_g rfl rfl ha (rfl : List.lookup 86 _ = _) (nn (by decide) _ rfl) (ltd rfl) (fun a ha => ?_)
                            refine s_no_g rfl rfl ha (rfl : List.lookup 86 _ = _) (nn (by decide) _ rfl) (ltd rfl) (fun a ha => ?_)
                            refine s_no_g rfl rfl ha (rfl : List.lookup 86 _ = _) (nn (by decide) _ rfl) (ltd rfl) (fun a ha => ?_)
                            refine s_do rfl ha (ltd rfl) (d_pick_f ha rfl (by decide) rfl) (fun a ha => ?_)
                            refine s_do rfl ha (ltd rfl) (d_assign ha rfl) (fun a ha => ?_)
                            refine s_nil ?_
                            have hS : Has 91 [(4, (.bool false))] _ := ha.sub ⟨rfl, trivial⟩
                            cases h
                            exact hk12 _ hS
                        · refine s_no_g rfl rfl ha (rfl : List.lookup 76 _ = _) (nn b47 _ rfl) (ltd rfl) (fun a ha => ?_)
                          refine s_no_g rfl rfl ha (rfl : List.lookup 76 _ = _) (nn b47 _ rfl) (ltd rfl) (fun a ha => ?_)
                          refine s_no_g rfl rfl ha (rfl : List.lookup 76 _ = _) (nn b47 _ rfl) (ltd rfl) (fun a ha => ?_)
                          refine s_do rfl ha (ltd rfl) (d_pick_f ha rfl b47 rfl) (fun a ha => ?_)
                          refine s_do rfl ha (ltd rfl) (d_move ha rfl) (fun a ha => ?_)
                          refine s_no_g rfl rfl ha (rfl : List.lookup 81 _ = _) (nn (by decide) _ rfl) (ltd rfl) (fun a ha => ?_)
                          refine s_no_g rfl rfl ha (rfl : List.lookup 81 _ = _) (nn (by decide) _ rfl) (ltd rfl) (fun a ha => ?_)
                          refine s_no_g rfl rfl ha (rfl : List.lookup 81 _ = _) (nn (by decide) _ rfl) (ltd rfl) (fun a ha => ?_)
                          refine s_do rfl ha (ltd rfl) (d_pick_f ha rfl (by decide) rfl) (fun a ha => ?_)
                          refine s_do rfl ha (ltd rfl) (d_move ha rfl) (fun a ha => ?_)
                          refine s_no_g rfl rfl ha (rfl : List.lookup 86 _ = _) (nn (by decide) _ rfl) (ltd rfl) (fun a ha => ?_)
                          refine s_no_g rfl rfl ha (rfl : List.lookup 86 _ = _) (nn (by decide) _ rfl) (ltd rfl) (fun a ha => ?_)
                          refine s_no_g rfl rfl ha (rfl : List.lookup 86 _ = _) (nn (by decide) _ rfl) (ltd rfl) (fun a ha => ?_)
                          refine s_do rfl ha (ltd rfl) (d_pick_f ha rfl (by decide) rfl) (fun a ha => ?_)
                          refine s_do rfl ha (ltd rfl) (d_assign ha rfl) (fun a ha => ?_)
                          refine s_nil ?_
                          have hS : Has 91 [(4, (.bool false))] _ := ha.sub ⟨rfl, trivial⟩
                          cases h
                          exact hk12 _ hS
                      · refine s_no_g rfl rfl ha (rfl : List.lookup 71 _ = _) (nn b43 _ rfl) (ltd rfl) (fun a ha => ?_)
                        refine s_no_g rfl rfl ha (rfl : List.lookup 71 _ = _) (nn b43 _ rfl) (ltd rfl) (fun a ha => ?_)
                        refine s_no_g rfl rfl ha (rfl : List.lookup 71 _ = _) (nn b43 _ rfl) (ltd rfl) (fun a ha => ?_)
                        refine s_do rfl ha (ltd rfl) (d_pick_f ha rfl b43 rfl) (fun a ha => ?_)
                        refine s_do rfl ha (ltd rfl) (d_move ha rfl) (fun a ha => ?_)
                        refine s_no_g rfl rfl ha (rfl : List.lookup 76 _ = _) (nn (by decide) _ rfl) (ltd rfl) (fun a ha => ?_)
                        refine s_no_g rfl rfl ha (rfl : List.lookup 76 _ = _) (nn (by decide) _ rfl) (ltd rfl) (fun a ha => ?_)
                        refine s_no_g rfl rfl ha (rfl : List.lookup 76 _ = _) (nn (by decide) _ rfl) (ltd rfl) (fun a ha => ?_)
                        refine s_do rfl ha (ltd rfl) (d_pick_f ha rfl (by decide) rfl) (fun a ha => ?_)
                        refine s_do rfl ha (ltd rfl) (d_move ha rfl) (fun a ha => ?_)
                        refine s_no_g rfl rfl ha (rfl : List.lookup 81 _ = _) (nn (by decide) _ rfl) (ltd rfl) (fun a ha => ?_)
                        refine s_no_g rfl rfl ha (rfl : List.lookup 81 _ = _) (nn (by decide) _ rfl) (ltd rfl) (fun a ha => ?_)
                        refine s_no_g rfl rfl ha (rfl : List.lookup 81 _ = _) (nn (by decide) _ rfl) (ltd rfl) (fun a ha => ?_)
                        refine s_do rfl ha (ltd rfl) (d_pick_f ha rfl (by decide) rfl) (fun a ha => ?_)
                        refine s_do rfl ha (ltd rfl) (d_move ha rfl) (fun a ha => ?_)
                        refine s_no_g rfl rfl ha (rfl : List.lookup 86 _ = _) (nn (by decide) _ rfl) (ltd rfl) (fun a ha => ?_)
                        refine s_no_g rfl rfl ha (rfl : List.lookup 86 _ = _) (nn (by decide) _ rfl) (ltd rfl) (fun a ha => ?_)
                        refine s_no_g rfl rfl ha (rfl : List.lookup 86 _ = _) (nn (by decide) _ rfl) (ltd rfl) (fun a ha => ?_)
                        refine s_do rfl ha (ltd rfl) (d_pick_f ha rfl (by decide) rfl) (fun a ha => ?_)
                        refine s_do rfl ha (ltd rfl) (d_assign ha rfl) (fun a ha => ?_)
                        refine s_nil ?_
                        have hS : Has 91 [(4, (.bool false))] _ := ha.sub ⟨rfl, trivial⟩
                        cases h
                        exact hk12 _ hS
                    · refine s_no_g rfl rfl ha (rfl : List.lookup 66 _ = _) (nn b39 _ rfl) (ltd rfl) (fun a ha => ?_)
                      refine s_no_g rfl rfl ha (rfl : List.lookup 66 _ = _) (nn b39 _ rfl) (ltd rfl) (fun a ha => ?_)
                      refine s_no_g rfl rfl ha (rfl : List.lookup 66 _ = _) (nn b39 _ rfl) (ltd rfl) (fun a ha => ?_)
                      refine s_do rfl ha (ltd rfl) (d_pick_f ha rfl b39 rfl) (fun a ha => ?_)
                      refine s_do rfl ha (ltd rfl) (d_move ha rfl) (fun a ha => ?_)
                      refine s_no_g rfl rfl ha (rfl : List.lookup 71 _ = _) (nn (by decide) _ rfl) (ltd rfl) (fun a ha => ?_)
                      refine s_no_g rfl rfl ha (rfl : List.lookup 71 _ = _) (nn (by decide) _ rfl) (ltd rfl) (fun a ha => ?_)
                      refine s_no_g rfl rfl ha (rfl : List.lookup 71 _ = _) (nn (by decide) _ rfl) (ltd rfl) (fun a ha => ?_)
                      refine s_do rfl ha (ltd rfl) (d_pick_f ha rfl (by decide) rfl) (fun a ha => ?_)
                      refine s_do rfl ha (ltd rfl) (d_move ha rfl) (fun a ha => ?_)
                      refine s_no_g rfl rfl ha (rfl : List.lookup 76 _ = _) (nn (by decide) _ rfl) (ltd rfl) (fun a ha => ?_)
                      refine s_no_g rfl rfl ha (rfl : List.lookup 76 _ = _) (nn (by decide) _ rfl) (ltd rfl) (fun a ha => ?_)
                      refine s_no_g rfl rfl ha (rfl : List.lookup 76 _ = _) (nn (by decide) _ rfl) (ltd rfl) (fun a ha => ?_)
                      refine s_do rfl ha (ltd rfl) (d_pick_f ha rfl (by decide) rfl) (fun a ha => ?_)
                      refine s_do rfl ha (ltd rfl) (d_move ha rfl) (fun a ha => ?_)
                      refine s_no_g rfl rfl ha (rfl : List.lookup 81 _ = _) (nn (by decide) _ rfl) (ltd rfl) (fun a ha => ?_)
                      refine s_no_g rfl rfl ha (rfl : List.lookup 81 _ = _) (nn (by decide) _ rfl) (ltd rfl) (fun a ha => ?_)
                      refine s_no_g rfl rfl ha (rfl : List.lookup 81 _ = _) (nn (by decide) _ rfl) (ltd rfl) (fun a ha => ?_)
                      refine s_do rfl ha (ltd rfl) (d_pick_f ha rfl (by decide) rfl) (fun a ha => ?_)
                      refine s_do rfl ha (ltd rfl) (d_move ha rfl) (fun a ha => ?_)
                      refine s_no_g rfl rfl ha (rfl : List.lookup 86 _ = _) (nn (by decide) _ rfl) (ltd rfl) (fun a ha => ?_)
                      refine s_no_g rfl rfl ha (rfl : List.lookup 86 _ = _) (nn (by decide) _ rfl) (ltd rfl) (fun a ha => ?_)
                      refine s_no_g rfl rfl ha (rfl : List.lookup 86 _ = _) (nn (by decide) _ rfl) (ltd rfl) (fun a ha => ?_)
                      refine s_do rfl ha (ltd rfl) (d_pick_f ha rfl (by decide) rfl) (fun a ha => ?_)
                      refine s_do rfl ha (ltd rfl) (d_assign ha rfl) (fun a ha => ?_)
                      refine s_nil ?_
                      have hS : Has 91 [(4, (.bool false))] _ := ha.sub ⟨rfl, trivial⟩
                      cases h
                      exact hk12 _ hS
                  · refine s_no_g rfl rfl ha (rfl : List.lookup 59 _ = _) (nn b32 _ rfl) (ltd rfl) (fun a ha => ?_)
                    refine s_no_g rfl rfl ha (rfl : List.lookup 59 _ = _) (nn b32 _ rfl) (ltd rfl) (fun a ha => ?_)
                    refine s_no_g rfl rfl ha (rfl : List.lookup 59 _ = _) (nn b32 _ rfl) (ltd rfl) (fun a ha => ?_)
                    refine s_no_g rfl rfl ha (rfl : List.lookup 59 _ = _) (nn b32 _ rfl) (ltd rfl) (fun a ha => ?_)
                    refine s_no_g rfl rfl ha (rfl : List.lookup 59 _ = _) (nn b32 _ rfl) (ltd rfl) (fun a ha => ?_)
                    refine s_do rfl ha (ltd rfl) (d_pick_f ha rfl b32 rfl) (fun a ha => ?_)
                    refine s_do rfl ha (ltd rfl) (d_move ha rfl) (fun a ha => ?_)
                    refine s_no_g rfl rfl ha (rfl : List.lookup 66 _ = _) (nn (by decide) _ rfl) (ltd rfl) (fun a ha => ?_)
                    refine s_no_g rfl rfl ha (rfl : List.lookup 66 _ = _) (nn (by decide) _ rfl) (ltd rfl) (fun a ha => ?_)
                    refine s_no_g rfl rfl ha (rfl : List.lookup 66 _ = _) (nn (by decide) _ rfl) (ltd rfl) (fun a ha => ?_)
                    refine s_do rfl ha (ltd rfl) (d_pick_f ha rfl (by decide) rfl) (fun a ha => ?_)
                    refine s_do rfl ha (ltd rfl) (d_move ha rfl) (fun a ha => ?_)
                    refine s_no_g rfl rfl ha (rfl : List.lookup 71 _ = _) (nn (by decide) _ rfl) (ltd rfl) (fun a ha => ?_)
                    refine s_no_g rfl rfl ha (rfl : List.lookup 71 _ = _) (nn (by decide) _ rfl) (ltd rfl) (fun a ha => ?_)
                    refine s_no_g rfl rfl ha (rfl : List.lookup 71 _ = _) (nn (by decide) _ rfl) (ltd rfl) (fun a ha => ?_)
                    refine s_do rfl ha (ltd rfl) (d_pick_f ha rfl (by decide) rfl) (fun a ha => ?_)
                    refine s_do rfl ha (ltd rfl) (d_move ha rfl) (fun a ha => ?_)
                    refine s_no_g rfl rfl ha (rfl : List.lookup 76 _ = _) (nn (by decide) _ rfl) (ltd rfl) (fun a ha => ?_)
                    refine s_no_g rfl rfl ha (rfl : List.lookup 76 _ = _) (nn (by decide) _ rfl) (ltd rfl) (fun a ha => ?_)
                    refine s_no_g rfl rfl ha (rfl : List.lookup 76 _ = _) (nn (by decide) _ rfl) (ltd rfl) (fun a ha => ?_)
                    refine s_do rfl ha (ltd rfl) (d_pick_f ha rfl (by decide) rfl) (fun a ha => ?_)
                    refine s_do rfl ha (ltd rfl) (d_move ha rfl) (fun a ha => ?_)
                    refine s_no_g rfl rfl ha (rfl : List.lookup 81 _ = _) (nn (by decide) _ rfl) (ltd rfl) (fun a ha => ?_)
                    refine s_no_g rfl rfl ha (rfl : List.lookup 81 _ = _) (nn (by decide) _ rfl) (ltd rfl) (fun a ha => ?_)
                    refine s_no_g rfl rfl ha (rfl : List.lookup 81 _ = _) (nn (by decide) _ rfl) (ltd rfl) (fun a ha => ?_)
                    refine s_do rfl ha (ltd rfl) (d_pick_f ha rfl (by decide) rfl) (fun a ha => ?_)
                    refine s_do rfl ha (ltd rfl) (d_move ha rfl) (fun a ha => ?_)
                    refine s_no_g rfl rfl ha (rfl : List.lookup 86 _ = _) (nn (by decide) _ rfl) (ltd rfl) (fun a ha => ?_)
                    refine s_no_g rfl rfl ha (rfl : List.lookup 86 _ = _) (nn (by decide) _ rfl) (ltd rfl) (fun a ha => ?_)
                    refine s_no_g rfl rfl ha (rfl : List.lookup 86 _ = _) (nn (by decide) _ rfl) (ltd rfl) (fun a ha => ?_)
                    refine s_do rfl ha (ltd rfl) (d_pick_f ha rfl (by decide) rfl) (fun a ha => ?_)
                    refine s_do rfl ha (ltd rfl) (d_assign ha rfl) (fun a ha => ?_)
                    refine s_nil ?_
                    have hS : Has 91 [(4, (.bool false))] _ := ha.sub ⟨rfl, trivial⟩
                    cases h
                    exact hk12 _ hS
                · refine s_no_g rfl rfl ha (rfl : List.lookup 53 _ = _) (nn b28 _ rfl) (ltd rfl) (fun a ha => ?_)
                  refine s_no_g rfl rfl ha (rfl : List.lookup 53 _ = _) (nn b28 _ rfl) (ltd rfl) (fun a ha => ?_)
                  refine s_no_g rfl rfl ha (rfl : List.lookup 53 _ = _) (nn b28 _ rfl) (ltd rfl) (fun a ha => ?_)
                  refine s_no_g rfl rfl ha (rfl : List.lookup 53 _ = _) (nn b28 _ rfl) (ltd rfl) (fun a ha => ?_)
                  refine s_do rfl ha (ltd rfl) (d_pick_f ha rfl b28 rfl) (fun a ha => ?_)
                  refine s_do rfl ha (ltd rfl) (d_move ha rfl) (fun a ha => ?_)
                  refine s_no_g rfl rfl ha (rfl : List.lookup 59 _ = _) (nn (by decide) _ rfl) (ltd rfl) (fun a ha => ?_)
                  refine s_no_g rfl rfl ha (rfl : List.lookup 59 _ = _) (nn (by decide) _ rfl) (ltd rfl) (fun a ha => ?_)
                  refine s_no_g rfl rfl ha (rfl : List.lookup 59 _ = _) (nn (by decide) _ rfl) (ltd rfl) (fun a ha => ?_)
                  refine s_no_g rfl rfl ha (rfl : List.lookup 59 _ = _) (nn (by decide) _ rfl) (ltd rfl) (fun a ha => ?_)
                  refine s_no_g rfl rfl ha (rfl : List.lookup 59 _ = _) (nn (by decide) _ rfl) (ltd rfl) (fun a ha => ?_)
                  refine s_do rfl ha (ltd rfl) (d_pick_f ha rfl (by decide) rfl) (fun a ha => ?_)
                  refine s_do rfl ha (ltd rfl) (d_move ha rfl) (fun a ha => ?_)
                  refine s_no_g rfl rfl ha (rfl : List.lookup 66 _ = _) (nn (by decide) _ rfl) (ltd rfl) (fun a ha => ?_)
                  refine s_no_g rfl rfl ha (rfl : List.lookup 66 _ = _) (nn (by decide) _ rfl) (ltd rfl) (fun a ha => ?_)
                  refine s_no_g rfl rfl ha (rfl : List.lookup 66 _ = _) (nn (by decide) _ rfl) (ltd rfl) (fun a ha => ?_)
                  refine s_do rfl ha (ltd rfl) (d_pick_f ha rfl (by decide) rfl) (fun a ha => ?_)
                  refine s_do rfl ha (ltd rfl) (d_move ha rfl) (fun a ha => ?_)
                  refine s_no_g rfl rfl ha (rfl : List.lookup 71 _ = _) (nn (by decide) _ rfl) (ltd rfl) (fun a ha => ?_)
                  refine s_no_g rfl rfl ha (rfl : List.lookup 71 _ = _) (nn (by decide) _ rfl) (ltd rfl) (fun a ha => ?_)
                  refine s_no_g rfl rfl ha (rfl : List.lookup 71 _ = _) (nn (by decide) _ rfl) (ltd rfl) (fun a ha => ?_)
                  refine s_do rfl ha (ltd rfl) (d_pick_f ha rfl (by decide) rfl) (fun a ha => ?_)
                  refine s_do rfl ha (ltd rfl) (d_move ha rfl) (fun a ha => ?_)
                  refine s_no_g rfl rfl ha (rfl : List.lookup 76 _ = _) (nn (by decide) _ rfl) (ltd rfl) (fun a ha => ?_)
                  refine s_no_g rfl rfl ha (rfl : List.lookup 76 _ = _) (nn (by decide) _ rfl) (ltd rfl) (fun a ha => ?_)
                  refine s_no_g rfl rfl ha (rfl : List.lookup 76 _ = _) (nn (by decide) _ rfl) (ltd rfl) (fun a ha => ?_)
                  refine s_do rfl ha (ltd rfl) (d_pick_f ha rfl (by decide) rfl) (fun a ha => ?_)
                  refine s_do rfl ha (ltd rfl) (d_move ha rfl) (fun a ha => ?_)
                  refine s_no_g rfl rfl ha (rfl : List.lookup 81 _ = _) (nn (by decide) _ rfl) (ltd rfl) (fun a ha => ?_)
                  refine s_no_g rfl rfl ha (rfl : List.lookup 81 _ = _) (nn (by decide) _ rfl) (ltd rfl) (fun a ha => ?_)
                  refine s_no_g rfl rfl ha (rfl : List.lookup 81 _ = _) (nn (by decide) _ rfl) (ltd rfl) (fun a ha => ?_)
                  refine s_do rfl ha (ltd rfl) (d_pick_f ha rfl (by decide) rfl) (fun a ha => ?_)
                  refine s_do rfl ha (ltd rfl) (d_move ha rfl) (fun a ha => ?_)
                  refine s_no_g rfl rfl ha (rfl : List.lookup 86 _ = _) (nn (by decide) _ rfl) (ltd rfl) (fun a ha => ?_)
                  refine s_no_g rfl rfl ha (rfl : List.lookup 86 _ = _) (nn (by decide) _ rfl) (ltd rfl) (fun a ha => ?_)
                  refine s_no_g rfl rfl ha (rfl : List.lookup 86 _ = _) (nn (by decide) _ rfl) (ltd rfl) (fun a ha => ?_)
                  refine s_do rfl ha (ltd rfl) (d_pick_f ha rfl (by decide) rfl) (fun a ha => ?_)
                  refine s_do rfl ha (ltd rfl) (d_assign ha rfl) (fun a ha => ?_)
                  refine s_nil ?_
                  have hS : Has 91 [(4, (.bool false))] _ := ha.sub ⟨rfl, trivial⟩
                  cases h
                  exact hk12 _ hS
              · refine s_no_g rfl rfl ha (rfl : List.lookup 48 _ = _) (nn b24 _ rfl) (ltd rfl) (fun a ha => ?_)
                refine s_no_g rfl rfl ha (rfl : List.lookup 48 _ = _) (nn b24 _ rfl) (ltd rfl) (fun a ha => ?_)
                refine s_no_g rfl rfl ha (rfl : List.lookup 48 _ = _) (nn b24 _ rfl) (ltd rfl) (fun a ha => ?_)
                refine s_do rfl ha (ltd rfl) (d_pick_f ha rfl b24 rfl) (fun a ha => ?_)
                refine s_do rfl ha (ltd rfl) (d_move ha rfl) (fun a ha => ?_)
                refine s_no_g rfl rfl ha (rfl : List.lookup 53 _ = _) (nn (by decide) _ rfl) (ltd rfl) (fun a ha => ?_)
                refine s_no_g rfl rfl ha (rfl : List.lookup 53 _ = _) (nn (by decide) _ rfl) (ltd rfl) (fun a ha => ?_)
                refine s_no_g rfl rfl ha (rfl : List.lookup 53 _ = _) (nn (by decide) _ rfl) (ltd rfl) (fun a ha => ?_)
                refine s_no_g rfl rfl ha (rfl : List.lookup 53 _ = _) (nn (by decide) _ rfl) (ltd rfl) (fun a ha => ?_)
                refine s_do rfl ha (ltd rfl) (d_pick_f ha rfl (by decide) rfl) (fun a ha => ?_)
                refine s_do rfl ha (ltd rfl) (d_move ha rfl) (fun a ha => ?_)
                refine s_no_g rfl rfl ha (rfl : List.lookup 59 _ = _) (nn (by decide) _ rfl) (ltd rfl) (fun a ha => ?_)
                refine s_no_g rfl rfl ha (rfl : List.lookup 59 _ = _) (nn (by decide) _ rfl) (ltd rfl) (fun a ha => ?_)
                refine s_no_g rfl rfl ha (rfl : List.lookup 59 _ = _) (nn (by decide) _ rfl) (ltd rfl) (fun a ha => ?_)
                refine s_no_g rfl rfl ha (rfl : List.lookup 59 _ = _) (nn (by decide) _ rfl) (ltd rfl) (fun a ha => ?_)
                refine s_no_g rfl rfl ha (rfl : List.lookup 59 _ = _) (nn (by decide) _ rfl) (ltd rfl) (fun a ha => ?_)
                refine s_do rfl ha (ltd rfl) (d_pick_f ha rfl (by decide) rfl) (fun a ha => ?_)
                refine s_do rfl ha (ltd rfl) (d_move ha rfl) (fun a ha => ?_)
                refine s_no_g rfl rfl ha (rfl : List.lookup 66 _ = _) (nn (by decide) _ rfl) (ltd rfl) (fun a ha => ?_)
                refine s_no_g rfl rfl ha (rfl : List.lookup 66 _ = _) (nn (by decide) _ rfl) (ltd rfl) (fun a ha => ?_)
                refine s_no_g rfl rfl ha (rfl : List.lookup 66 _ = _) (nn (by decide) _ rfl) (ltd rfl) (fun a ha => ?_)
                refine s_do rfl ha (ltd rfl) (d_pick_f ha rfl (by decide) rfl) (fun a ha => ?_)
                refine s_do rfl ha (ltd rfl) (d_move ha rfl) (fun a ha => ?_)
                refine s_no_g rfl rfl ha (rfl : List.lookup 71 _ = _) (nn (by decide) _ rfl) (ltd rfl) (fun a ha => ?_)
                refine s_no_g rfl rfl ha (rfl : List.lookup 71 _ = _) (nn (by decide) _ rfl) (ltd rfl) (fun a ha => ?_)
                refine s_no_g rfl rfl ha (rfl : List.lookup 71 _ = _) (nn (by decide) _ rfl) (ltd rfl) (fun a ha => ?_)
                refine s_do rfl ha (ltd rfl) (d_pick_f ha rfl (by decide) rfl) (fun a ha => ?_)
                refine s_do rfl ha (ltd rfl) (d_move ha rfl) (fun a ha => ?_)
                refine s_no_g rfl rfl ha (rfl : List.lookup 76 _ = _) (nn (by decide) _ rfl) (ltd rfl) (fun a ha => ?_)
                refine s_no_g rfl rfl ha (rfl : List.lookup 76 _ = _) (nn (by decide) _ rfl) (ltd rfl) (fun a ha => ?_)
                refine s_no_g rfl rfl ha (rfl : List.lookup 76 _ = _) (nn (by decide) _ rfl) (ltd rfl) (fun a ha => ?_)
                refine s_do rfl ha (ltd rfl) (d_pick_f ha rfl (by decide) rfl) (fun a ha => ?_)
                refine s_do rfl ha (ltd rfl) (d_move ha rfl) (fun a ha => ?_)
                refine s_no_g rfl rfl ha (rfl : List.lookup 81 _ = _) (nn (by decide) _ rfl) (ltd rfl) (fun a ha => ?_)
                refine s_no_g rfl rfl ha (rfl : List.lookup 81 _ = _) (nn (by decide) _ rfl) (ltd rfl) (fun a ha => ?_)
                refine s_no_g rfl rfl ha (rfl : List.lookup 81 _ = _) (nn (by decide) _ rfl) (ltd rfl) (fun a ha => ?_)
                refine s_do rfl ha (ltd rfl) (d_pick_f ha rfl (by decide) rfl) (fun a ha => ?_)
                refine s_do rfl ha (ltd rfl) (d_move ha rfl) (fun a ha => ?_)
                refine s_no_g rfl rfl ha (rfl : List.lookup 86 _ = _) (nn (by decide) _ rfl) (ltd rfl) (fun a ha => ?_)
                refine s_no_g rfl rfl ha (rfl : List.lookup 86 _ = _) (nn (by decide) _ rfl) (ltd rfl) (fun a ha => ?_)
                refine s_no_g rfl rfl ha (rfl : List.lookup 86 _ = _) (nn (by decide) _ rfl) (ltd rfl) (fun a ha => ?_)
                refine s_do rfl ha (ltd rfl) (d_pick_f ha rfl (by decide) rfl) (fun a ha => ?_)
                refine s_do rfl ha (ltd rfl) (d_assign ha rfl) (fun a ha => ?_)
                refine s_nil ?_
                have hS : Has 91 [(4, (.bool false))] _ := ha.sub ⟨rfl, trivial⟩
                cases h
                exact hk12 _ hS
            · refine s_no_g rfl rfl ha (rfl : List.lookup 41 _ = _) (nn b20 _ rfl) (ltd rfl) (fun a ha => ?_)
              refine s_no_g rfl rfl ha (rfl : List.lookup 41 _ = _) (nn b20 _ rfl) (ltd rfl) (fun a ha => ?_)
              refine s_no_g rfl rfl ha (rfl : List.lookup 41 _ = _) (nn b20 _ rfl) (ltd rfl) (fun a ha => ?_)
              refine s_no_g rfl rfl ha (rfl : List.lookup 41 _ = _) (nn b20 _ rfl) (ltd rfl) (fun a ha => ?_)
              refine s_no_g rfl rfl ha (rfl : List.lookup 41 _ = _) (nn b20 _ rfl) (ltd rfl) (fun a ha => ?_)
              refine s_do rfl ha (ltd rfl) (d_pick_f ha rfl b20 rfl) (fun a ha => ?_)
              refine s_do rfl ha (ltd rfl) (d_move ha rfl) (fun a ha => ?_)
              refine s_no_g rfl rfl ha (rfl : List.lookup 48 _ = _) (nn (by decide) _ rfl) (ltd rfl) (fun a ha => ?_)
              refine s_no_g rfl rfl ha (rfl : List.lookup 48 _ = _) (nn (by decide) _ rfl) (ltd rfl) (fun a ha => ?_)
              refine s_no_g rfl rfl ha (rfl : List.lookup 48 _ = _) (nn (by decide) _ rfl) (ltd rfl) (fun a ha => ?_)
              refine s_do rfl ha (ltd rfl) (d_pick_f ha rfl (by decide) rfl) (fun a ha => ?_)
              refine s_do rfl ha (ltd rfl) (d_move ha rfl) (fun a ha => ?_)
              refine s_no_g rfl rfl ha (rfl : List.lookup 53 _ = _) (nn (by decide) _ rfl) (ltd rfl) (fun a ha => ?_)
              refine s_no_g rfl rfl ha (rfl : List.lookup 53 _ = _) (nn (by decide) _ rfl) (ltd rfl) (fun a ha => ?_)
              refine s_no_g rfl rfl ha (rfl : List.lookup 53 _ = _) (nn (by decide) _ rfl) (ltd rfl) (fun a ha => ?_)
              refine s_no_g rfl rfl ha (rfl : List.lookup 53 _ = _) (nn (by decide) _ rfl) (ltd rfl) (fun a ha => ?_)
              refine s_do rfl ha (ltd rfl) (d_pick_f ha rfl (by decide) rfl) (fun a ha => ?_)
              refine s_do rfl ha (ltd rfl) (d_move ha rfl) (fun a ha => ?_)
              refine s_no_g rfl rfl ha (rfl : List.lookup 59 _ = _) (nn (by decide) _ rfl) (ltd rfl) (fun a ha => ?_)
              refine s_no_g rfl rfl ha (rfl : List.lookup 59 _ = _) (nn (by decide) _ rfl) (ltd rfl) (fun a ha => ?_)
              refine s_no_g rfl rfl ha (rfl : List.lookup 59 _ = _) (nn (by decide) _ rfl) (ltd rfl) (fun a ha => ?_)
              refine s_no_g rfl rfl ha (rfl : List.lookup 59 _ = _) (nn (by decide) _ rfl) (ltd rfl) (fun a ha => ?_)
              refine s_no_g rfl rfl ha (rfl : List.lookup 59 _ = _) (nn (by decide) _ rfl) (ltd rfl) (fun a ha => ?_)
              refine s_do rfl ha (ltd rfl) (d_pick_f ha rfl (by decide) rfl) (fun a ha => ?_)
              refine s_do rfl ha (ltd rfl) (d_move ha rfl) (fun a ha => ?_)
              refine s_no_g rfl rfl ha (rfl : List.lookup 66 _ = _) (nn (by decide) _ rfl) (ltd rfl) (fun a ha => ?_)
              refine s_no_g rfl rfl ha (rfl : List.lookup 66 _ = _) (nn (by decide) _ rfl) (ltd rfl) (fun a ha => ?_)
              refine s_no_g rfl rfl ha (rfl : List.lookup 66 _ = _) (nn (by decide) _ rfl) (ltd rfl) (fun a ha => ?_)
              refine s_do rfl ha (ltd rfl) (d_pick_f ha rfl (by decide) rfl) (fun a ha => ?_)
              refine s_do rfl ha (ltd rfl) (d_move ha rfl) (fun a ha => ?_)
              refine s_no_g rfl rfl ha (rfl : List.lookup 71 _ = _) (nn (by decide) _ rfl) (ltd rfl) (fun a ha => ?_)
              refine s_no_g rfl rfl ha (rfl : List.lookup 71 _ = _) (nn (by decide) _ rfl) (ltd rfl) (fun a ha => ?_)
              refine s_no_g rfl rfl ha (rfl : List.lookup 71 _ = _) (nn (by decide) _ rfl) (ltd rfl) (fun a ha => ?_)
              refine s_do rfl ha (ltd rfl) (d_pick_f ha rfl (by decide) rfl) (fun a ha => ?_)
              refine s_do rfl ha (ltd rfl) (d_move ha rfl) (fun a ha => ?_)
              refine s_no_g rfl rfl ha (rfl : List.lookup 76 _ = _) (nn (by decide) _ rfl) (ltd rfl) (fun a ha => ?_)
              refine s_no_g rfl rfl ha (rfl : List.lookup 76 _ = _) (nn (by decide) _ rfl) (ltd rfl) (fun a ha => ?_)
              refine s_no_g rfl rfl ha (rfl : List.lookup 76 _ = _) (nn (by decide) _ rfl) (ltd rfl) (fun a ha => ?_)
              refine s_do rfl ha (ltd rfl) (d_pick_f ha rfl (by decide) rfl) (fun a ha => ?_)
              refine s_do rfl ha (ltd rfl) (d_move ha rfl) (fun a ha => ?_)
              refine s_no_g rfl rfl ha (rfl : List.lookup 81 _ = _) (nn (by decide) _ rfl) (ltd rfl) (fun a ha => ?_)
              refine s_no_g rfl rfl ha (rfl : List.lookup 81 _ = _) (nn (by decide) _ rfl) (ltd rfl) (fun a ha => ?_)
              refine s_no_g rfl rfl ha (rfl : List.lookup 81 _ = _) (nn (by decide) _ rfl) (ltd rfl) (fun a ha => ?_)
              refine s_do rfl ha (ltd rfl) (d_pick_f ha rfl (by decide) rfl) (fun a ha => ?_)
              refine s_do rfl ha (ltd rfl) (d_move ha rfl) (fun a ha => ?_)
              refine s_no_g rfl rfl ha (rfl : List.lookup 86 _ = _) (nn (by decide) _ rfl) (ltd rfl) (fun a ha => ?_)
              refine s_no_g rfl rfl ha (rfl : List.lookup 86 _ = _) (nn (by decide) _ rfl) (ltd rfl) (fun a ha => ?_)
              refine s_no_g rfl rfl ha (rfl : List.lookup 86 _ = _) (nn (by decide) _ rfl) (ltd rfl) (fun a ha => ?_)
              refine s_do rfl ha (ltd rfl) (d_pick_f ha rfl (by decide) rfl) (fun a ha => ?_)
              refine s_do rfl ha (ltd rfl) (d_assign ha rfl) (fun a ha => ?_)
              refine s_nil ?_
              have hS : Has 91 [(4, (.bool false))] _ := ha.sub ⟨rfl, trivial⟩
              cases h
              exact hk12 _ hS
          · refine s_no_g rfl rfl ha (rfl : List.lookup 36 _ = _) (nn b19 _ rfl) (ltd rfl) (fun a ha => ?_)
            refine s_no_g rfl rfl ha (rfl : List.lookup 36 _ = _) (nn b19 _ rfl) (ltd rfl) (fun a ha => ?_)
            refine s_no_g rfl rfl ha (rfl : List.lookup 36 _ = _) (nn b19 _ rfl) (ltd rfl) (fun a ha => ?_)
            refine s_do rfl ha (ltd rfl) (d_pick_f ha rfl b19 rfl) (fun a ha => ?_)
            refine s_do rfl ha (ltd rfl) (d_move ha rfl) (fun a ha => ?_)
            refine s_no_g rfl rfl ha (rfl : List.lookup 41 _ = _) (nn (by decide) _ rfl) (ltd rfl) (fun a ha => ?_)
            refine s_no_g rfl rfl ha (rfl : List.lookup 41 _ = _) (nn (by decide) _ rfl) (ltd rfl) (fun a ha => ?_)
            refine s_no_g rfl rfl ha (rfl : List.lookup 41 _ = _) (nn (by decide) _ rfl) (ltd rfl) (fun a ha => ?_)
            refine s_no_g rfl rfl ha (rfl : List.lookup 41 _ = _) (nn (by decide) _ rfl) (ltd rfl) (fun a ha => ?_)
            refine s_no_g rfl rfl ha (rfl : List.lookup 41 _ = _) (nn (by decide) _ rfl) (ltd rfl) (fun a ha => ?_)
            refine s_do rfl ha (ltd rfl) (d_pick_f ha rfl (by decide) rfl) (fun a ha => ?_)
            refine s_do rfl ha (ltd rfl) (d_move ha rfl) (fun a ha => ?_)
            refine s_no_g rfl rfl ha (rfl : List.lookup 48 _ = _) (nn (by decide) _ rfl) (ltd rfl) (fun a ha => ?_)
            refine s_no_g rfl rfl ha (rfl : List.lookup 48 _ = _) (nn (by decide) _ rfl) (ltd rfl) (fun a ha => ?_)
            refine s_no_g rfl rfl ha (rfl : List.lookup 48 _ = _) (nn (by decide) _ rfl) (ltd rfl) (fun a ha => ?_)
            refine s_do rfl ha (ltd rfl) (d_pick_f ha rfl (by decide) rfl) (fun a ha => ?_)
            refine s_do rfl ha (ltd rfl) (d_move ha rfl) (fun a ha => ?_)
            refine s_no_g rfl rfl ha (rfl : List.lookup 53 _ = _) (nn (by decide) _ rfl) (ltd rfl) (fun a ha => ?_)
            refine s_no_g rfl rfl ha (rfl : List.lookup 53 _ = _) (nn (by decide) _ rfl) (ltd rfl) (fun a ha => ?_)
            refine s_no_g rfl rfl ha (rfl : List.lookup 53 _ = _) (nn (by decide) _ rfl) (ltd rfl) (fun a ha => ?_)
            refine s_no_g rfl rfl ha (rfl : List.lookup 53 _ = _) (nn (by decide) _ rfl) (ltd rfl) (fun a ha => ?_)
            refine s_do rfl ha (ltd rfl) (d_pick_f ha rfl (by decide) rfl) (fun a ha => ?_)
            refine s_do rfl ha (ltd rfl) (d_move ha rfl) (fun a ha => ?_)
            refine s_no_g rfl rfl ha (rfl : List.lookup 59 _ = _) (nn (by decide) _ rfl) (ltd rfl) (fun a ha => ?_)
            refine s_no_g rfl rfl ha (rfl : List.lookup 59 _ = _) (nn (by decide) _ rfl) (ltd rfl) (fun a ha => ?_)
            refine s_no_g rfl rfl ha (rfl : List.lookup 59 _ = _) (nn (by decide) _ rfl) (ltd rfl) (fun a ha => ?_)
            refine s_no_g rfl rfl ha (rfl : List.lookup 59 _ = _) (nn (by decide) _ rfl) (ltd rfl) (fun a ha => ?_)
            refine s_no_g rfl rfl ha (rfl : List.lookup 59 _ = _) (nn (by decide) _ rfl) (ltd rfl) (fun a ha => ?_)
            refine s_do rfl ha (ltd rfl) (d_pick_f ha rfl (by decide) rfl) (fun a ha => ?_)
            refine s_do rfl ha (ltd rfl) (d_move ha rfl) (fun a ha => ?_)
            refine s_no_g rfl rfl ha (rfl : List.lookup 66 _ = _) (nn (by decide) _ rfl) (ltd rfl) (fun a ha => ?_)
            refine s_no_g rfl rfl ha (rfl : List.lookup 66 _ = _) (nn (by decide) _ rfl) (ltd rfl) (fun a ha => ?_)
            refine s_no_g rfl rfl ha (rfl : List.lookup 66 _ = _) (nn (by decide) _ rfl) (ltd rfl) (fun a ha => ?_)
            refine s_do rfl ha (ltd rfl) (d_pick_f ha rfl (by decide) rfl) (fun a ha => ?_)
            refine s_do rfl ha (ltd rfl) (d_move ha rfl) (fun a ha => ?_)
            refine s_no_g rfl rfl ha (rfl : List.lookup 71 _ = _) (nn (by decide) _ rfl) (ltd rfl) (fun a ha => ?_)
            refine s_no_g rfl rfl ha (rfl : List.lookup 71 _ = _) (nn (by decide) _ rfl) (ltd rfl) (fun a ha => ?_)
            refine s_no_g rfl rfl ha (rfl : List.lookup 71 _ = _) (nn (by decide) _ rfl) (ltd rfl) (fun a ha => ?_)
            refine s_do rfl ha (ltd rfl) (d_pick_f ha rfl (by decide) rfl) (fun a ha => ?_)
            refine s_do rfl ha (ltd rfl) (d_move ha rfl) (fun a ha => ?_)
            refine s_no_g rfl rfl ha (rfl : List.lookup 76 _ = _) (nn (by decide) _ rfl) (ltd rfl) (fun a ha => ?_)
            refine s_no_g rfl rfl ha (rfl : List.lookup 76 _ = _) (nn (by decide) _ rfl) (ltd rfl) (fun a ha => ?_)
            refine s_no_g rfl rfl ha (rfl : List.lookup 76 _ = _) (nn (by decide) _ rfl) (ltd rfl) (fun a ha => ?_)
            refine s_do rfl ha (ltd rfl) (d_pick_f ha rfl (by decide) rfl) (fun a ha => ?_)
            refine s_do rfl ha (ltd rfl) (d_move ha rfl) (fun a ha => ?_)
            refine s_no_g rfl rfl ha (rfl : List.lookup 81 _ = _) (nn (by decide) _ rfl) (ltd rfl) (fun a ha => ?_)
            refine s_no_g rfl rfl ha (rfl : List.lookup 81 _ = _) (nn (by decide) _ rfl) (ltd rfl) (fun a ha => ?_)
            refine s_no_g rfl rfl ha (rfl : List.lookup 81 _ = _) (nn (by decide) _ rfl) (ltd rfl) (fun a ha => ?_)
            refine s_do rfl ha (ltd rfl) (d_pick_f ha rfl (by decide) rfl) (fun a ha => ?_)
            refine s_do rfl ha (ltd rfl) (d_move ha rfl) (fun a ha => ?_)
            refine s_no_g rfl rfl ha (rfl : List.lookup 86 _ = _) (nn (by decide) _ rfl) (ltd rfl) (fun a ha => ?_)
            refine s_no_g rfl rfl ha (rfl : List.lookup 86 _ = _) (nn (by decide) _ rfl) (ltd rfl) (fun a ha => ?_)
            refine s_no_g rfl rfl ha (rfl : List.lookup 86 _ = _) (nn (by decide) _ rfl) (ltd rfl) (fun a ha => ?_)
            refine s_do rfl ha (ltd rfl) (d_pick_f ha rfl (by decide) rfl) (fun a ha => ?_)
            refine s_do rfl ha (ltd rfl) (d_assign ha rfl) (fun a ha => ?_)
            refine s_nil ?_
            have hS : Has 91 [(4, (.bool false))] _ := ha.sub ⟨rfl, trivial⟩
            cases h
            exact hk12 _ hS
        · refine s_no_g rfl rfl ha (rfl : List.lookup 31 _ = _) (nn b18 _ rfl) (ltd rfl) (fun a ha => ?_)
          refine s_no_g rfl rfl ha (rfl : List.lookup 31 _ = _) (nn b18 _ rfl) (ltd rfl) (fun a ha => ?_)
          refine s_no_g rfl rfl ha (rfl : List.lookup 31 _ = _) (nn b18 _ rfl) (ltd rfl) (fun a ha => ?_)
          refine s_do rfl ha (ltd rfl) (d_pick_f ha rfl b18 rfl) (fun a ha => ?_)
          refine s_do rfl ha (ltd rfl) (d_move ha rfl) (fun a ha => ?_)
          refine s_no_g rfl rfl ha (rfl : List.lookup 36 _ = _) (nn (by decide) _ rfl) (ltd rfl) (fun a ha => ?_)
          refine s_no_g rfl rfl ha (rfl : List.lookup 36 _ = _) (nn (by decide) _ rfl) (ltd rfl) (fun a ha => ?_)
          refine s_no_g rfl rfl ha (rfl : List.lookup 36 _ = _) (nn (by decide) _ rfl) (ltd rfl) (fun a ha => ?_)
          refine s_do rfl ha (ltd rfl) (d_pick_f ha rfl (by decide) rfl) (fun a ha => ?_)
          refine s_do rfl ha (ltd rfl) (d_move ha rfl) (fun a ha => ?_)
          refine s_no_g rfl rfl ha (rfl : List.lookup 41 _ = _) (nn (by decide) _ rfl) (ltd rfl) (fun a ha => ?_)
          refine s_no_g rfl rfl ha (rfl : List.lookup 41 _ = _) (nn (by decide) _ rfl) (ltd rfl) (fun a ha => ?_)
          refine s_no_g rfl rfl ha (rfl : List.lookup 41 _ = _) (nn (by decide) _ rfl) (ltd rfl) (fun a ha => ?_)
          refine s_no_g rfl rfl ha (rfl : List.lookup 41 _ = _) (nn (by decide) _ rfl) (ltd rfl) (fun a ha => ?_)
          refine s_no_g rfl rfl ha (rfl : List.lookup 41 _ = _) (nn (by decide) _ rfl) (ltd rfl) (fun a ha => ?_)
          refine s_do rfl ha (ltd rfl) (d_pick_f ha rfl (by decide) rfl) (fun a ha => ?_)
          refine s_do rfl ha (ltd rfl) (d_move ha rfl) (fun a ha => ?_)
          refine s_no_g rfl rfl ha (rfl : List.lookup 48 _ = _) (nn (by decide) _ rfl) (ltd rfl) (fun a ha => ?_)
          refine s_no_g rfl rfl ha (rfl : List.lookup 48 _ = _) (nn (by decide) _ rfl) (ltd rfl) (fun a ha => ?_)
          refine s_no_g rfl rfl ha (rfl : List.lookup 48 _ = _) (nn (by decide) _ rfl) (ltd rfl) (fun a ha => ?_)
          refine s_do rfl ha (ltd rfl) (d_pick_f ha rfl (by decide) rfl) (fun a ha => ?_)
          refine s_do rfl ha (ltd rfl) (d_move ha rfl) (fun a ha => ?_)
          refine s_no_g rfl rfl ha (rfl : List.lookup 53 _ = _) (nn (by decide) _ rfl) (ltd rfl) (fun a ha => ?_)
          refine s_no_g rfl rfl ha (rfl : List.lookup 53 _ = _) (nn (by decide) _ rfl) (ltd rfl) (fun a ha => ?_)
          refine s_no_g rfl rfl ha (rfl : List.lookup 53 _ = _) (nn (by decide) _ rfl) (ltd rfl) (fun a ha => ?_)
          refine s_no_g rfl rfl ha (rfl : List.lookup 53 _ = _) (nn (by decide) _ rfl) (ltd rfl) (fun a ha => ?_)
          refine s_do rfl ha (ltd rfl) (d_pick_f ha rfl (by decide) rfl) (fun a ha => ?_)
          refine s_do rfl ha (ltd rfl) (d_move ha rfl) (fun a ha => ?_)
          refine s_no_g rfl rfl ha (rfl : List.lookup 59 _ = _) (nn (by decide) _ rfl) (ltd rfl) (fun a ha => ?_)
          refine s_no_g rfl rfl ha (rfl : List.lookup 59 _ = _) (nn (by decide) _ rfl) (ltd rfl) (fun a ha => ?_)
          refine s_no_g rfl rfl ha (rfl : List.lookup 59 _ = _) (nn (by decide) _ rfl) (ltd rfl) (fun a ha => ?_)
          refine s_no_g rfl rfl ha (rfl : List.lookup 59 _ = _) (nn (by decide) _ rfl) (ltd rfl) (fun a ha => ?_)
          refine s_no_g rfl rfl ha (rfl : List.lookup 59 _ = _) (nn (by decide) _ rfl) (ltd rfl) (fun a ha => ?_)
          refine s_do rfl ha (ltd rfl) (d_pick_f ha rfl (by decide) rfl) (fun a ha => ?_)
          refine s_do rfl ha (ltd rfl) (d_move ha rfl) (fun a ha => ?_)
          refine s_no_g rfl rfl ha (rfl : List.lookup 66 _ = _) (nn (by decide) _ rfl) (ltd rfl) (fun a ha => ?_)
          refine s_no_g rfl rfl ha (rfl : List.lookup 66 _ = _) (nn (by decide) _ rfl) (ltd rfl) (fun a ha => ?_)
          refine s_no_g rfl rfl ha (rfl : List.lookup 66 _ = _) (nn (by decide) _ rfl) (ltd rfl) (fun a ha => ?_)
          refine s_do rfl ha (ltd rfl) (d_pick_f ha rfl (by decide) rfl) (fun a ha => ?_)
          refine s_do rfl ha (ltd rfl) (d_move ha rfl) (fun a ha => ?_)
          refine s_no_g rfl rfl ha (rfl : List.lookup 71 _ = _) (nn (by decide) _ rfl) (ltd rfl) (fun a ha => ?_)
          refine s_no_g rfl rfl ha (rfl : List.lookup 71 _ = _) (nn (by decide) _ rfl) (ltd rfl) (fun a ha => ?_)
          refine s_no_g rfl rfl ha (rfl : List.lookup 71 _ = _) (nn (by decide) _ rfl) (ltd rfl) (fun a ha => ?_)
          refine s_do rfl ha (ltd rfl) (d_pick_f ha rfl (by decide) rfl) (fun a ha => ?_)
          refine s_do rfl ha (ltd rfl) (d_move ha rfl) (fun a ha => ?_)
          refine s_no_g rfl rfl ha (rfl : List.lookup 76 _ = _) (nn (by decide) _ rfl) (ltd rfl) (fun a ha => ?_)
          refine s_no_g rfl rfl ha (rfl : List.lookup 76 _ = _) (nn (by decide) _ rfl) (ltd rfl) (fun a ha => ?_)
          refine s_no_g rfl rfl ha (rfl : List.lookup 76 _ = _) (nn (by decide) _ rfl) (ltd rfl) (fun a ha => ?_)
          refine s_do rfl ha (ltd rfl) (d_pick_f ha rfl (by decide) rfl) (fun a ha => ?_)
          refine s_do rfl ha (ltd rfl) (d_move ha rfl) (fun a ha => ?_)
          refine s_no_g rfl rfl ha (rfl : List.lookup 81 _ = _) (nn (by decide) _ rfl) (ltd rfl) (fun a ha => ?_)
          refine s_no_g rfl rfl ha (rfl : List.lookup 81 _ = _) (nn (by decide) _ rfl) (ltd rfl) (fun a ha => ?_)
          refine s_no_g rfl rfl ha (rfl : List.lookup 81 _ = _) (nn (by decide) _ rfl) (ltd rfl) (fun a ha => ?_)
          refine s_do rfl ha (ltd rfl) (d_pick_f ha rfl (by decide) rfl) (fun a ha => ?_)
          refine s_do rfl ha (ltd rfl) (d_move ha rfl) (fun a ha => ?_)
          refine s_no_g rfl rfl ha (rfl : List.lookup 86 _ = _) (nn (by decide) _ rfl) (ltd rfl) (fun a ha => ?_)
          refine s_no_g rfl rfl ha (rfl : List.lookup 86 _ = _) (nn (by decide) _ rfl) (ltd rfl) (fun a ha => ?_)
          refine s_no_g rfl rfl ha (rfl : List.lookup 86 _ = _) (nn (by decide) _ rfl) (ltd rfl) (fun a ha => ?_)
          refine s_do rfl ha (ltd rfl) (d_pick_f ha rfl (by decide) rfl) (fun a ha => ?_)
          refine s_do rfl ha (ltd rfl) (d_assign ha rfl) (fun a ha => ?_)
          refine s_nil ?_
          have hS : Has 91 [(4, (.bool false))] _ := ha.sub ⟨rfl, trivial⟩
          cases h
          exact hk12 _ hS
      · refine s_no_g rfl rfl ha (rfl : List.lookup 27 _ = _) (nn b17 _ rfl) (ltd rfl) (fun a ha => ?_)
        refine s_no_g rfl rfl ha (rfl : List.lookup 27 _ = _) (nn b17 _ rfl) (ltd rfl) (fun a ha => ?_)
        refine s_do rfl ha (ltd rfl) (d_pick_f ha rfl b17 rfl) (fun a ha => ?_)
        refine s_do rfl ha (ltd rfl) (d_move ha rfl) (fun a ha => ?_)
        refine s_no_g rfl rfl ha (rfl : List.lookup 31 _ = _) (nn (by decide) _ rfl) (ltd rfl) (fun a ha => ?_)
        refine s_no_g rfl rfl ha (rfl : List.lookup 31 _ = _) (nn (by decide) _ rfl) (ltd rfl) (fun a ha => ?_)
        refine s_no_g rfl rfl ha (rfl : List.lookup 31 _ = _) (nn (by decide) _ rfl) (ltd rfl) (fun a ha => ?_)
        refine s_do rfl ha (ltd rfl) (d_pick_f ha rfl (by decide) rfl) (fun a ha => ?_)
        refine s_do rfl ha (ltd rfl) (d_move ha rfl) (fun a ha => ?_)
        refine s_no_g rfl rfl ha (rfl : List.lookup 36 _ = _) (nn (by decide) _ rfl) (ltd rfl) (fun a ha => ?_)
        refine s_no_g rfl rfl ha (rfl : List.lookup 36 _ = _) (nn (by decide) _ rfl) (ltd rfl) (fun a ha => ?_)
        refine s_no_g rfl rfl ha (rfl : List.lookup 36 _ = _) (nn (by decide) _ rfl) (ltd rfl) (fun a ha => ?_)
        refine s_do rfl ha (ltd rfl) (d_pick_f ha rfl (by decide) rfl) (fun a ha => ?_)
        refine s_do rfl ha (ltd rfl) (d_move ha rfl) (fun a ha => ?_)
        refine s_no_g rfl rfl ha (rfl : List.lookup 41 _ = _) (nn (by decide) _ rfl) (ltd rfl) (fun a ha => ?_)
        refine s_no_g rfl rfl ha (rfl : List.lookup 41 _ = _) (nn (by decide) _ rfl) (ltd rfl) (fun a ha => ?_)
        refine s_no_g rfl rfl ha (rfl : List.lookup 41 _ = _) (nn (by decide) _ rfl) (ltd rfl) (fun a ha => ?_)
        refine s_no_g rfl rfl ha (rfl : List.lookup 41 _ = _) (nn (by decide) _ rfl) (ltd rfl) (fun a ha => ?_)
        refine s_no_g rfl rfl ha (rfl : List.lookup 41 _ = _) (nn (by decide) _ rfl) (ltd rfl) (fun a ha => ?_)
        refine s_do rfl ha (ltd rfl) (d_pick_f ha rfl (by decide) rfl) (fun a ha => ?_)
        refine s_do rfl ha (ltd rfl) (d_move ha rfl) (fun a ha => ?_)
        refine s_no_g rfl rfl ha (rfl : List.lookup 48 _ = _) (nn (by decide) _ rfl) (ltd rfl) (fun a ha => ?_)
        refine s_no_g rfl rfl ha (rfl : List.lookup 48 _ = _) (nn (by decide) _ rfl) (ltd rfl) (fun a ha => ?_)
        refine s_no_g rfl rfl ha (rfl : List.lookup 48 _ = _) (nn (by decide) _ rfl) (ltd rfl) (fun a ha => ?_)
        refine s_do rfl ha (ltd rfl) (d_pick_f ha rfl (by decide) rfl) (fun a ha => ?_)
        refine s_do rfl ha (ltd rfl) (d_move ha rfl) (fun a ha => ?_)
        refine s_no_g rfl rfl ha (rfl : List.lookup 53 _ = _) (nn (by decide) _ rfl) (ltd rfl) (fun a ha => ?_)
        refine s_no_g rfl rfl ha (rfl : List.lookup 53 _ = _) (nn (by decide) _ rfl) (ltd rfl) (fun a ha => ?_)
        refine s_no_g rfl rfl ha (rfl : List.lookup 53 _ = _) (nn (by decide) _ rfl) (ltd rfl) (fun a ha => ?_)
        refine s_no_g rfl rfl ha (rfl : List.lookup 53 _ = _) (nn (by decide) _ rfl) (ltd rfl) (fun a ha => ?_)
        refine s_do rfl ha (ltd rfl) (d_pick_f ha rfl (by decide) rfl) (fun a ha => ?_)
        refine s_do rfl ha (ltd rfl) (d_move ha rfl) (fun a ha => ?_)
        refine s_no_g rfl rfl ha (rfl : List.lookup 59 _ = _) (nn (by decide) _ rfl) (ltd rfl) (fun a ha => ?_)
        refine s_no_g rfl rfl ha (rfl : List.lookup 59 _ = _) (nn (by decide) _ rfl) (ltd rfl) (fun a ha => ?_)
        refine s_no_g rfl rfl ha (rfl : List.lookup 59 _ = _) (nn (by decide) _ rfl) (ltd rfl) (fun a ha => ?_)
        refine s_no_g rfl rfl ha (rfl : List.lookup 59 _ = _) (nn (by decide) _ rfl) (ltd rfl) (fun a ha => ?_)
        refine s_no_g rfl rfl ha (rfl : List.lookup 59 _ = _) (nn (by decide) _ rfl) (ltd rfl) (fun a ha => ?_)
        refine s_do rfl ha (ltd rfl) (d_pick_f ha rfl (by decide) rfl) (fun a ha => ?_)
        refine s_do rfl ha (ltd rfl) (d_move ha rfl) (fun a ha => ?_)
        refine s_no_g rfl rfl ha (rfl : List.lookup 66 _ = _) (nn (by decide) _ rfl) (ltd rfl) (fun a ha => ?_)
        refine s_no_g rfl rfl ha (rfl : List.lookup 66 _ = _) (nn (by decide) _ rfl) (ltd rfl) (fun a ha => ?_)
        refine s_no_g rfl rfl ha (rfl : List.lookup 66 _ = _) (nn (by decide) _ rfl) (ltd rfl) (fun a ha => ?_)
        refine s_do rfl ha (ltd rfl) (d_pick_f ha rfl (by decide) rfl) (fun a ha => ?_)
        refine s_do rfl ha (ltd rfl) (d_move ha rfl) (fun a ha => ?_)
        refine s_no_g rfl rfl ha (rfl : List.lookup 71 _ = _) (nn (by decide) _ rfl) (ltd rfl) (fun a ha => ?_)
        refine s_no_g rfl rfl ha (rfl : List.lookup 71 _ = _) (nn (by decide) _ rfl) (ltd rfl) (fun a ha => ?_)
        refine s_no_g rfl rfl ha (rfl : List.lookup 71 _ = _) (nn (by decide) _ rfl) (ltd rfl) (fun a ha => ?_)
        refine s_do rfl ha (ltd rfl) (d_pick_f ha rfl (by decide) rfl) (fun a ha => ?_)
        refine s_do rfl ha (ltd rfl) (d_move ha rfl) (fun a ha => ?_)
        refine s_no_g rfl rfl ha (rfl : List.lookup 76 _ = _) (nn (by decide) _ rfl) (ltd rfl) (fun a ha => ?_)
        refine s_no_g rfl rfl ha (rfl : List.lookup 76 _ = _) (nn (by decide) _ rfl) (ltd rfl) (fun a ha => ?_)
        refine s_no_g rfl rfl ha (rfl : List.lookup 76 _ = _) (nn (by decide) _ rfl) (ltd rfl) (fun a ha => ?_)
        refine s_do rfl ha (ltd rfl) (d_pick_f ha rfl (by decide) rfl) (fun a ha => ?_)
        refine s_do rfl ha (ltd rfl) (d_move ha rfl) (fun a ha => ?_)
        refine s_no_g rfl rfl ha (rfl : List.lookup 81 _ = _) (nn (by decide) _ rfl) (ltd rfl) (fun a ha => ?_)
        refine s_no_g rfl rfl ha (rfl : List.lookup 81 _ = _) (nn (by decide) _ rfl) (ltd rfl) (fun a ha => ?_)
        refine s_no_g rfl rfl ha (rfl : List.lookup 81 _ = _) (nn (by decide) _ rfl) (ltd rfl) (fun a ha => ?_)
        refine s_do rfl ha (ltd rfl) (d_pick_f ha rfl (by decide) rfl) (fun a ha => ?_)
        refine s_do rfl ha (ltd rfl) (d_move ha rfl) (fun a ha => ?_)
        refine s_no_g rfl rfl ha (rfl : List.lookup 86 _ = _) (nn (by decide) _ rfl) (ltd rfl) (fun a ha => ?_)
        refine s_no_g rfl rfl ha (rfl : List.lookup 86 _ = _) (nn (by decide) _ rfl) (ltd rfl) (fun a ha => ?_)
        refine s_no_g rfl rfl ha (rfl : List.lookup 86 _ = _) (nn (by decide) _ rfl) (ltd rfl) (fun a ha => ?_)
        refine s_do rfl ha (ltd rfl) (d_pick_f ha rfl (by decide) rfl) (fun a ha => ?_)
        refine s_do rfl ha (ltd rfl) (d_assign ha rfl) (fun a ha => ?_)
        refine s_nil ?_
        have hS : Has 91 [(4, (.bool false))] _ := ha.sub ⟨rfl, trivial⟩
        cases h
        exact hk12 _ hS
    · refine s_no_g rfl rfl ha (rfl : List.lookup 23 _ = _) (nn b16 _ rfl) (ltd rfl) (fun a ha => ?_)
      refine s_no_g rfl rfl ha (rfl : List.lookup 23 _ = _) (nn b16 _ rfl) (ltd rfl) (fun a ha => ?_)
      refine s_do rfl ha (ltd rfl) (d_pick_f ha rfl b16 rfl) (fun a ha => ?_)
      refine s_do rfl ha (ltd rfl) (d_move ha rfl) (fun a ha => ?_)
      refine s_no_g rfl rfl ha (rfl : List.lookup 27 _ = _) (nn (by decide) _ rfl) (ltd rfl) (fun a ha => ?_)
      refine s_no_g rfl rfl ha (rfl : List.lookup 27 _ = _) (nn (by decide) _ rfl) (ltd rfl) (fun a ha => ?_)
      refine s_do rfl ha (ltd rfl) (d_pick_f ha rfl (by decide) rfl) (fun a ha => ?_)
      refine s_do rfl ha (ltd rfl) (d_move ha rfl) (fun a ha => ?_)
      refine s_no_g rfl rfl ha (rfl : List.lookup 31 _ = _) (nn (by decide) _ rfl) (ltd rfl) (fun a ha => ?_)
      refine s_no_g rfl rfl ha (rfl : List.lookup 31 _ = _) (nn (by decide) _ rfl) (ltd rfl) (fun a ha => ?_)
      refine s_no_g rfl rfl ha (rfl : List.lookup 31 _ = _) (nn (by decide) _ rfl) (ltd rfl) (fun a ha => ?_)
      refine s_do rfl ha (ltd rfl) (d_pick_f ha rfl (by decide) rfl) (fun a ha => ?_)
      refine s_do rfl ha (ltd rfl) (d_move ha rfl) (fun a ha => ?_)
      refine s_no_g rfl rfl ha (rfl : List.lookup 36 _ = _) (nn (by decide) _ rfl) (ltd rfl) (fun a ha => ?_)
      refine s_no_g rfl rfl ha (rfl : List.lookup 36 _ = _) (nn (by decide) _ rfl) (ltd rfl) (fun a ha => ?_)
      refine s_no_g rfl rfl ha (rfl : List.lookup 36 _ = _) (nn (by decide) _ rfl) (ltd rfl) (fun a ha => ?_)
      refine s_do rfl ha (ltd rfl) (d_pick_f ha rfl (by decide) rfl) (fun a ha => ?_)
      refine s_do rfl ha (ltd rfl) (d_move ha rfl) (fun a ha => ?_)
      refine s_no_g rfl rfl ha (rfl : List.lookup 41 _ = _) (nn (by decide) _ rfl) (ltd rfl) (fun a ha => ?_)
      refine s_no_g rfl rfl ha (rfl : List.lookup 41 _ = _) (nn (by decide) _ rfl) (ltd rfl) (fun a ha => ?_)
      refine s_no_g rfl rfl ha (rfl : List.lookup 41 _ = _) (nn (by decide) _ rfl) (ltd rfl) (fun a ha => ?_)
      refine s_no_g rfl rfl ha (rfl : List.lookup 41 _ = _) (nn (by decide) _ rfl) (ltd rfl) (fun a ha => ?_)
      refine s_no_g rfl rfl ha (rfl : List.lookup 41 _ = _) (nn (by decide) _ rfl) (ltd rfl) (fun a ha => ?_)
      refine s_do rfl ha (ltd rfl) (d_pick_f ha rfl (by decide) rfl) (fun a ha => ?_)
      refine s_do rfl ha (ltd rfl) (d_move ha rfl) (fun a ha => ?_)
      refine s_no_g rfl rfl ha (rfl : List.lookup 48 _ = _) (nn (by decide) _ rfl) (ltd rfl) (fun a ha => ?_)
      refine s_no_g rfl rfl ha (rfl : List.lookup 48 _ = _) (nn (by decide) _ rfl) (ltd rfl) (fun a ha => ?_)
      refine s_no_g rfl rfl ha (rfl : List.lookup 48 _ = _) (nn (by decide) _ rfl) (ltd rfl) (fun a ha => ?_)
      refine s_do rfl ha (ltd rfl) (d_pick_f ha rfl (by decide) rfl) (fun a ha => ?_)
      refine s_do rfl ha (ltd rfl) (d_move ha rfl) (fun a ha => ?_)
      refine s_no_g rfl rfl ha (rfl : List.lookup 53 _ = _) (nn (by decide) _ rfl) (ltd rfl) (fun a ha => ?_)
      refine s_no_g rfl rfl ha (rfl : List.lookup 53 _ = _) (nn (by decide) _ rfl) (ltd rfl) (fun a ha => ?_)
      refine s_no_g rfl rfl ha (rfl : List.lookup 53 _ = _) (nn (by decide) _ rfl) (ltd rfl) (fun a ha => ?_)
      refine s_no_g rfl rfl ha (rfl : List.lookup 53 _ = _) (nn (by decide) _ rfl) (ltd rfl) (fun a ha => ?_)
      refine s_do rfl ha (ltd rfl) (d_pick_f ha rfl (by decide) rfl) (fun a ha => ?_)
      refine s_do rfl ha (ltd rfl) (d_move ha rfl) (fun a ha => ?_)
      refine s_no_g rfl rfl ha (rfl : List.lookup 59 _ = _) (nn (by decide) _ rfl) (ltd rfl) (fun a ha => ?_)
      refine s_no_g rfl rfl ha (rfl : List.lookup 59 _ = _) (nn (by decide) _ rfl) (ltd rfl) (fun a ha => ?_)
      refine s_no_g rfl rfl ha (rfl : List.lookup 59 _ = _) (nn (by decide) _ rfl) (ltd rfl) (fun a ha => ?_)
      refine s_no_g rfl rfl ha (rfl : List.lookup 59 _ = _) (nn (by decide) _ rfl) (ltd rfl) (fun a ha => ?_)
      refine s_no_g rfl rfl ha (rfl : List.lookup 59 _ = _) (nn (by decide) _ rfl) (ltd rfl) (fun a ha => ?_)
      refine s_do rfl ha (ltd rfl) (d_pick_f ha rfl (by decide) rfl) (fun a ha => ?_)
      refine s_do rfl ha (ltd rfl) (d_move ha rfl) (fun a ha => ?_)
      refine s_no_g rfl rfl ha (rfl : List.lookup 66 _ = _) (nn (by decide) _ rfl) (ltd rfl) (fun a ha => ?_)
      refine s_no_g rfl rfl ha (rfl : List.lookup 66 _ = _) (nn (by decide) _ rfl) (ltd rfl) (fun a ha => ?_)
      refine s_no_g rfl rfl ha (rfl : List.lookup 66 _ = _) (nn (by decide) _ rfl) (ltd rfl) (fun a ha => ?_)
      refine s_do rfl ha (ltd rfl) (d_pick_f ha rfl (by decide) rfl) (fun a ha => ?_)
      refine s_do rfl ha (ltd rfl) (d_move ha rfl) (fun a ha => ?_)
      refine s_no_g rfl rfl ha (rfl : List.lookup 71 _ = _) (nn (by decide) _ rfl) (ltd rfl) (fun a ha => ?_)
      refine s_no_g rfl rfl ha (rfl : List.lookup 71 _ = _) (nn (by decide) _ rfl) (ltd rfl) (fun a ha => ?_)
      refine s_no_g rfl rfl ha (rfl : List.lookup 71 _ = _) (nn (by decide) _ rfl) (ltd rfl) (fun a ha => ?_)
      refine s_do rfl ha (ltd rfl) (d_pick_f ha rfl (by decide) rfl) (fun a ha => ?_)
      refine s_do rfl ha (ltd rfl) (d_move ha rfl) (fun a ha => ?_)
      refine s_no_g rfl rfl ha (rfl : List.lookup 76 _ = _) (nn (by decide) _ rfl) (ltd rfl) (fun a ha => ?_)
      refine s_no_g rfl rfl ha (rfl : List.lookup 76 _ = _) (nn (by decide) _ rfl) (ltd rfl) (fun a ha => ?_)
      refine s_no_g rfl rfl ha (rfl : List.lookup 76 _ = _) (nn (by decide) _ rfl) (ltd rfl) (fun a ha => ?_)
      refine s_do rfl ha (ltd rfl) (d_pick_f ha rfl (by decide) rfl) (fun a ha => ?_)
      refine s_do rfl ha (ltd rfl) (d_move ha rfl) (fun a ha => ?_)
      refine s_no_g rfl rfl ha (rfl : List.lookup 81 _ = _) (nn (by decide) _ rfl) (ltd rfl) (fun a ha => ?_)
      refine s_no_g rfl rfl ha (rfl : List.lookup 81 _ = _) (nn (by decide) _ rfl) (ltd rfl) (fun a ha => ?_)
      refine s_no_g rfl rfl ha (rfl : List.lookup 81 _ = _) (nn (by decide) _ rfl) (ltd rfl) (fun a ha => ?_)
      refine s_do rfl ha (ltd rfl) (d_pick_f ha rfl (by decide) rfl) (fun a ha => ?_)
      refine s_do rfl ha (ltd rfl) (d_move ha rfl) (fun a ha => ?_)
      refine s_no_g rfl rfl ha (rfl : List.lookup 86 _ = _) (nn (by decide) _ rfl) (ltd rfl) (fun a ha => ?_)
      refine s_no_g rfl rfl ha (rfl : List.lookup 86 _ = _) (nn (by decide) _ rfl) (ltd rfl) (fun a ha => ?_)
      refine s_no_g rfl rfl ha (rfl : List.lookup 86 _ = _) (nn (by decide) _ rfl) (ltd rfl) (fun a ha => ?_)
      refine s_do rfl ha (ltd rfl) (d_pick_f ha rfl (by decide) rfl) (fun a ha => ?_)
      refine s_do rfl ha (ltd rfl) (d_assign ha rfl) (fun a ha => ?_)
      refine s_nil ?_
      have hS : Has 91 [(4, (.bool false))] _ := ha.sub ⟨rfl, trivial⟩
      cases h
      exact hk12 _ hS
end Go.Proofs.Ytoanmomopcaikaa.D
