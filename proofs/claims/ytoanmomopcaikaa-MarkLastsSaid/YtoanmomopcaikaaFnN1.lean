/- Written by dec.py of this project: Go functions as plain functions over the memory, and that the Go calls come to these. -/
import Derived.Test.YtoanmomopcaikaaGlue
import Derived.Test.YtoanmomopcaikaaFnD
import Derived.Test.YtoanmomopcaikaaFnM
import Derived.Test.YtoanmomopcaikaaFnN0
namespace Go.Proofs.Ytoanmomopcaikaa.D
open Go
set_option linter.unusedVariables false
set_option linter.unusedSimpArgs false

noncomputable def grapevinelaw10_MarkLasts_l1 (a2 : Sl) (p1 : Addr) (v4 : Option Addr) (x31 : Int) (w32 : World) : Option ((Int × World) ⊕ (World)) :=
  bind2 (if (decide (x31 < (a2.n : Int))) = true then
  (some ((decide (x31 < 100)), w32))
  else
  (some (false, w32))) fun v38 w39 =>
  if v38 = true then
  ((bind2 ((dr w39).bind fun w51 =>
  (ix a2 x31 5).bind fun p53 =>
  (ldI .i64 w51 (p53.add 0)).bind fun v55 =>
  if (v55 == 0) = true then
  ((ix a2 x31 5).bind fun p58 =>
  (ldI .i64 w51 (p58.add 1)).bind fun v60 =>
  (ldI .i64 w51 (p1.add 1)).bind fun v62 =>
  some ((v60 != v62), w51))
  else
  (some (false, w51))) fun v47 w48 =>
  if v47 = true then
  ((dr w48).bind fun w65 =>
  (v4).bind fun p67 =>
  (ldP w65 (p67.add 1)).bind fun v69 =>
  (ix a2 x31 5).bind fun p71 =>
  (ldI .i64 w65 (p71.add 1)).bind fun v73 =>
  (ix a2 x31 5).bind fun p75 =>
  (ldI .i64 w65 (p75.add 2)).bind fun v77 =>
  bind2 (mark_Cells_Put v69 v73 v77 w65) fun v79 w80 =>
  some w80)
  else
  ((ix a2 x31 5).bind fun p82 =>
  (ldI .i64 w48 (p82.add 0)).bind fun v84 =>
  if (v84 == 3) = true then
  ((dr w48).bind fun w87 =>
  (v4).bind fun p89 =>
  (ldP w87 (p89.add 0)).bind fun v91 =>
  (ix a2 x31 5).bind fun p93 =>
  (ldI .i64 w87 (p93.add 2)).bind fun v95 =>
  bind2 (sector_Disk_Trip v91 v95 w87) fun v97 w98 =>
  some w98)
  else
  ((ix a2 x31 5).bind fun p100 =>
  (ldI .i64 w48 (p100.add 0)).bind fun v102 =>
  if (v102 == 4) = true then
  ((dr w48).bind fun w105 =>
  (v4).bind fun p107 =>
  (ldP w105 (p107.add 0)).bind fun v109 =>
  (ix a2 x31 5).bind fun p111 =>
  (ldL w105 (p111.add 4)).bind fun v113 =>
  bind2 (sector_Disk_Crash v109 v113 w105) fun v115 w116 =>
  some w116)
  else
  (some w48)))).bind fun w44 =>
  some (.inl ((IntKind.wrap .i64 (x31 + 1)), w44)))
  else
  (some (.inr w39))
noncomputable def grapevinelaw10_MarkLasts (a0 : Sl) (a1 : List Value) (a2 : Sl) (w : World) : Option (Bool × World) :=
  bind2 (mk w 78 a1) fun p1 w2 =>
  bind3 (grapevinelaw10_play a0 w2) fun v4 v5 w6 =>
  if (!v5) = true then
  (some (false, w6))
  else
  ((v4).bind fun p9 =>
  (ldP w6 (p9.add 0)).bind fun v11 =>
  bind2 (sector_Disk_Crash v11 Sl.nil w6) fun v13 w14 =>
  (dr w14).bind fun w16 =>
  (ldP w16 (p9.add 1)).bind fun v18 =>
  (ldI .i64 w16 (p1.add 1)).bind fun v20 =>
  (ldI .i64 w16 (p1.add 2)).bind fun v22 =>
  bind2 (mark_Cells_Put v18 v20 v22 w16) fun v24 w25 =>
  if (v24 != 0) = true then
  (bind2 (grapevinelaw10_live w25) fun v28 w29 =>
  some (v28, w29))
  else
  ((loopF (fun s : Int × World => grapevinelaw10_MarkLasts_l1 a2 p1 v4 s.1 s.2) (0, w25)).bind fun w35 =>
  (dr w35).bind fun w118 =>
  (ldP w118 (p9.add 0)).bind fun v120 =>
  (ldL w118 (p1.add 4)).bind fun v122 =>
  bind2 (sector_Disk_Crash v120 v122 w118) fun v124 w125 =>
  (dr w125).bind fun w127 =>
  (ldP w127 (p9.add 1)).bind fun v129 =>
  (ldI .i64 w127 (p1.add 1)).bind fun v131 =>
  bind3 (mark_Cells_Get v129 v131 w127) fun v133 v134 w135 =>
  bind2 (bind2 (grapevinelaw10_live w135) fun v141 w142 =>
  if v141 = true then
  (if v134 = true then
  ((ldI .i64 w142 (p1.add 2)).bind fun v146 =>
  some ((v133 == v146), w142))
  else
  (some (false, w142)))
  else
  (some (false, w142))) fun v137 w138 =>
  some (v137, w138)))
set_option maxHeartbeats 1000000 in
set_option maxRecDepth 100000 in
theorem grapevinelaw10_MarkLasts_ok {a0 : Sl} {a1 : List Value} {a2 : Sl} {w w' : World} {r0 : Bool} (h : grapevinelaw10_MarkLasts a0 a1 a2 w = some (r0, w')) : Calls Try.prog 16 #[(Sl.v a0), (.agg (List.toArray a1)), (Sl.v a2)] w fun e w'' => e = .returned (.bool r0) ∧ w'' = w' := by
  refine calls_dec (n := 138) Try.func16 rfl Try.ntmps16 (by simp) (fun a ha => ?_)
  unfold grapevinelaw10_MarkLasts at h
  refine wp_seq ?_
  refine region_lit ?_
  obtain ⟨p1, w2, e3, h⟩ := bs2 h
  refine s_do rfl ha (ltd rfl) (d_box ha rfl rfl e3) (fun a ha => ?_)
  refine s_do rfl ha (ltd rfl) (d_assign ha rfl) (fun a ha => ?_)
  refine s_nil ?_
  refine t_n ?_
  replace ha : Has 138 [(0, (Sl.v a0)), (2, (Sl.v a2)), (4, (.pointer (some p1)))] _ := ha.sub ⟨rfl, rfl, rfl, trivial⟩
  refine wp_seq ?_
  refine region_lit ?_
  refine s_do rfl ha (ltd rfl) (d_move ha rfl) (fun a ha => ?_)
  obtain ⟨v4, v5, w6, e7, h⟩ := bs3 h
  refine s_do rfl ha (ltd rfl) (d_call (xs := [_]) (vs := [(Sl.v a0)]) ha ⟨rfl, trivial⟩ Try.call40 (grapevinelaw10_play_ok e7)) (fun a ha => ?_)
  refine s_do rfl ha (ltd rfl) (d_move ha rfl) (fun a ha => ?_)
  refine s_do rfl ha (ltd rfl) (d_ext ha rfl rfl) (fun a ha => ?_)
  refine s_do rfl ha (ltd rfl) (d_ext ha rfl rfl) (fun a ha => ?_)
  refine s_do rfl ha (ltd rfl) (d_assign ha rfl) (fun a ha => ?_)
  refine s_do rfl ha (ltd rfl) (d_assign ha rfl) (fun a ha => ?_)
  refine s_nil ?_
  refine t_n ?_
  replace ha : Has 138 [(2, (Sl.v a2)), (4, (.pointer (some p1))), (7, (.pointer v4)), (8, (.bool v5))] _ := ha.sub ⟨rfl, rfl, rfl, rfl, trivial⟩
  refine wp_seq ?_
  refine wp_seq ?_
  refine region_lit ?_
  refine s_do rfl ha (ltd rfl) (d_move ha rfl) (fun a ha => ?_)
  refine s_do rfl ha (ltd rfl) (d_not ha rfl) (fun a ha => ?_)
  refine s_nil ?_
  refine t_n ?_
  replace ha : Has 138 [(2, (Sl.v a2)), (4, (.pointer (some p1))), (7, (.pointer v4)), (18, (.bool (!v5)))] _ := ha.sub ⟨rfl, rfl, rfl, rfl, trivial⟩
  refine s_cond ha rfl h (fun b8 h => ?_) (fun b8 h => ?_)
  · refine wp_seq ?_
    refine region_lit ?_
    refine s_do rfl ha (ltd rfl) (d_assign ha rfl) (fun a ha => ?_)
    refine s_nil ?_
    refine t_n ?_
    replace ha : Has 138 [(6, (.bool false))] _ := ha.sub ⟨rfl, trivial⟩
    refine wp_ret ?_
    refine t_r ?_
    have hS := ha
    cases h
    exact ret1 Try.results16 hS rfl ⟨rfl, rfl⟩
  · refine wp_skip ?_
    refine t_n ?_
    replace ha : Has 138 [(2, (Sl.v a2)), (4, (.pointer (some p1))), (7, (.pointer v4))] _ := ha.sub ⟨rfl, rfl, rfl, trivial⟩
    refine wp_seq ?_
    refine region_lit ?_
    refine s_do rfl ha (ltd rfl) (d_move ha rfl) (fun a ha => ?_)
    obtain ⟨p9, e10, h⟩ := bs1 h
    refine s_do rfl ha (ltd rfl) (d_nilp ha rfl e10) (fun a ha => ?_)
    refine s_do rfl ha (ltd rfl) (d_fa ha rfl Try.runUnderlying75 rfl rfl Try.sizeOf22 (by decide)) (fun a ha => ?_)
    obtain ⟨v11, e12, h⟩ := bs1 h
    refine s_do rfl ha (ltd rfl) (d_ld ha rfl Try.isAgg22 (ldP_c e12)) (fun a ha => ?_)
    obtain ⟨v13, w14, e15, h⟩ := bs2 h
    refine s_do rfl ha (ltd rfl) (d_call (xs := [_, _]) (vs := [(.pointer v11), (Sl.v Sl.nil)]) ha ⟨rfl, rfl, trivial⟩ Try.call26 (sector_Disk_Crash_ok e15)) (fun a ha => ?_)
    refine s_nil ?_
    refine t_n ?_
    replace ha : Has 138 [(2, (Sl.v a2)), (4, (.pointer (some p1))), (7, (.pointer v4))] _ := ha.sub ⟨rfl, rfl, rfl, trivial⟩
    refine wp_seq ?_
    refine wp_seq ?_
    obtain ⟨w16, e17, h⟩ := bs1 h
    obtain ⟨v18, e19, h⟩ := bs1 h
    obtain ⟨v20, e21, h⟩ := bs1 h
    obtain ⟨v22, e23, h⟩ := bs1 h
    obtain ⟨v24, w25, e26, h⟩ := bs2 h
    have ha : Has 138 [(2, (Sl.v a2)), (4, (.pointer (some p1))), (7, (.pointer v4))] a := ha.sub ⟨rfl, rfl, rfl, trivial⟩
    refine region_draw (n := 138) (ds := (⟨_, (.pointer v4), false, 0, 0, [], [(7, (.pointer v4))]⟩ :: ⟨_, (.pointer (some p9)), false, 0, 0, [0], [(24, (.pointer v4))]⟩ :: ⟨_, (.pointer (some (p9.add 1))), false, 0, 0, [0, 1], [(25, (.pointer (some p9)))]⟩ :: ⟨_, (.pointer v18), false, 0, 0, [0, 1, 2], [(26, (.pointer (some (p9.add 1))))]⟩ :: ⟨_, (.pointer (some (p1.add 1))), false, 0, 0, [], [(4, (.pointer (some p1)))]⟩ :: ⟨_, (.int .i64 v20), false, 0, 0, [4], [(28, (.pointer (some (p1.add 1))))]⟩ :: ⟨_, (.pointer (some (p1.add 2))), false, 0, 0, [], [(4, (.pointer (some p1)))]⟩ :: ⟨_, (.int .i64 v22), false, 0, 0, [6], [(30, (.pointer (some (p1.add 2))))]⟩ :: ⟨_, (.int .i64 v24), true, 0, 0, [0, 1, 2, 3, 4, 5, 6, 7], [(27, (.pointer v18)), (29, (.int .i64 v20)), (31, (.int .i64 v22))]⟩ :: ⟨_, (.bool (v24 != 0)), false, 1, 1, [0, 1, 2, 3, 4, 5, 6, 7, 8], [(32, (.int .i64 v24))]⟩ :: [])) (W := (fun j => match j with | 0 => w16 | _ => w25)) (by kernel_rfl) ha (dr_w e17) (by kernel_rfl) ?_ (reads_of (by kernel_rfl)) (by kernel_rfl) (m := 1) (by kernel_rfl) (fun a ha => ?_)
    · refine ⟨?_, ?_, ?_, ?_, ?_, ?_, ?_, ?_, ?_, ?_, trivial⟩
      · intro j _ _; exact ok_do rfl fun a ha => d_move ha rfl
      · intro j _ _; exact ok_do rfl fun a ha => d_nilp ha rfl e10
      · intro j _ _; exact ok_do rfl fun a ha => d_fa ha rfl Try.runUnderlying75 rfl rfl Try.sizeOf58 (by decide)
      · intro j h1 h2; obtain rfl : j = 0 := Nat.le_antisymm h2 h1; exact ok_do rfl fun a ha => d_ld ha rfl Try.isAgg58 (ldP_c e19)
      · intro j _ _; exact ok_do rfl fun a ha => d_fa ha rfl Try.runUnderlying78 rfl rfl Try.sizeOf3 (by decide)
      · intro j h1 h2; obtain rfl : j = 0 := Nat.le_antisymm h2 h1; exact ok_do rfl fun a ha => d_ld ha rfl Try.isAgg3 (ldI_c e21)
      · intro j _ _; exact ok_do rfl fun a ha => d_fa ha rfl Try.runUnderlying78 rfl rfl Try.sizeOf3 (by decide)
      · intro j h1 h2; obtain rfl : j = 0 := Nat.le_antisymm h2 h1; exact ok_do rfl fun a ha => d_ld ha rfl Try.isAgg3 (ldI_c e23)
      · intro j h1 h2; obtain rfl : j = 0 := Nat.le_antisymm h2 h1; exact ok_do rfl fun a ha => d_call (xs := [_, _, _]) (vs := [(.pointer v18), (.int .i64 v20), (.int .i64 v22)]) ha ⟨rfl, rfl, rfl, trivial⟩ Try.call38 (mark_Cells_Put_ok e26)
      · intro j _ _; exact ok_do rfl fun a ha => d_ne ha rfl rfl
    · have ha : Has 138 [(2, (Sl.v a2)), (4, (.pointer (some p1))), (7, (.pointer v4)), (33, (.bool (v24 != 0)))] a := ha.sub ⟨rfl, rfl, rfl, rfl, trivial⟩
      refine t_n ?_
      replace ha : Has 138 [(2, (Sl.v a2)), (4, (.pointer (some p1))), (7, (.pointer v4)), (33, (.bool (v24 != 0)))] _ := ha.sub ⟨rfl, rfl, rfl, rfl, trivial⟩
      refine s_cond ha rfl h (fun b27 h => ?_) (fun b27 h => ?_)
      · refine wp_seq ?_
        refine region_lit ?_
        obtain ⟨v28, w29, e30, h⟩ := bs2 h
        refine s_do rfl ha (ltd rfl) (d_call (xs := []) (vs := []) ha trivial Try.call37 (grapevinelaw10_live_ok e30)) (fun a ha => ?_)
        refine s_do rfl ha (ltd rfl) (d_assign ha rfl) (fun a ha => ?_)
        refine s_nil ?_
        refine t_n ?_
        replace ha : Has 138 [(6, (.bool v28))] _ := ha.sub ⟨rfl, trivial⟩
        refine wp_ret ?_
        refine t_r ?_
        have hS := ha
        cases h
        exact ret1 Try.results16 hS rfl ⟨rfl, rfl⟩
      · refine wp_skip ?_
        refine t_n ?_
        replace ha : Has 138 [(2, (Sl.v a2)), (4, (.pointer (some p1))), (7, (.pointer v4))] _ := ha.sub ⟨rfl, rfl, rfl, trivial⟩
        refine wp_seq ?_
        refine wp_seq ?_
        refine region_lit ?_
        refine s_do rfl ha (ltd rfl) (d_assign ha rfl) (fun a ha => ?_)
        refine s_nil ?_
        refine t_n ?_
        replace ha : Has 138 [(2, (Sl.v a2)), (4, (.pointer (some p1))), (7, (.pointer v4)), (9, (.int .i64 0))] _ := ha.sub ⟨rfl, rfl, rfl, rfl, trivial⟩
        refine wp_block ?_
        obtain ⟨w35, e34, h⟩ := bs1 h
        refine s_loop1 (n := 138) (L := [(4, (.pointer (some p1))), (7, (.pointer v4))]) (w' := w35) (e := .exit 0) (I := fun (s : Int × World) a w => Has 138 [(9, (.int .i64 s.1)), (2, (Sl.v a2)), (4, (.pointer (some p1))), (7, (.pointer v4))] a ∧ w = s.2) ⟨ha.sub ⟨rfl, rfl, rfl, rfl, trivial⟩, rfl⟩ e34 (fun a ha => ?_) (fun hk36 => ?_)
        · refine b_hit ?_
          refine t_n ?_
          replace ha : Has 138 [(4, (.pointer (some p1))), (7, (.pointer v4))] _ := ha.sub ⟨rfl, rfl, trivial⟩
          refine wp_seq ?_
          obtain ⟨w118, e119, h⟩ := bs1 h
          obtain ⟨v120, e121, h⟩ := bs1 h
          obtain ⟨v122, e123, h⟩ := bs1 h
          obtain ⟨v124, w125, e126, h⟩ := bs2 h
          have ha : Has 138 [(4, (.pointer (some p1))), (7, (.pointer v4))] a := ha.sub ⟨rfl, rfl, trivial⟩
          refine region_draw (n := 138) (ds := (⟨_, (.pointer v4), false, 0, 0, [], [(7, (.pointer v4))]⟩ :: ⟨_, (.pointer (some p9)), false, 0, 0, [0], [(111, (.pointer v4))]⟩ :: ⟨_, (.pointer (some (p9.add 0))), false, 0, 0, [0, 1], [(112, (.pointer (some p9)))]⟩ :: ⟨_, (.pointer v120), false, 0, 0, [0, 1, 2], [(113, (.pointer (some (p9.add 0))))]⟩ :: ⟨_, (.pointer (some (p1.add 4))), false, 0, 0, [], [(4, (.pointer (some p1)))]⟩ :: ⟨_, (Sl.v v122), false, 0, 0, [4], [(115, (.pointer (some (p1.add 4))))]⟩ :: ⟨_, (.int .i64 v124), true, 0, 0, [0, 1, 2, 3, 4, 5], [(114, (.pointer v120)), (116, (Sl.v v122))]⟩ :: [])) (W := (fun j => match j with | 0 => w118 | _ => w125)) (by kernel_rfl) ha (dr_w e119) (by kernel_rfl) ?_ (reads_of (by kernel_rfl)) (by kernel_rfl) (m := 1) (by kernel_rfl) (fun a ha => ?_)
          · refine ⟨?_, ?_, ?_, ?_, ?_, ?_, ?_, trivial⟩
            · intro j _ _; exact ok_do rfl fun a ha => d_move ha rfl
            · intro j _ _; exact ok_do rfl fun a ha => d_nilp ha rfl e10
            · intro j _ _; exact ok_do rfl fun a ha => d_fa ha rfl Try.runUnderlying75 rfl rfl Try.sizeOf22 (by decide)
            · intro j h1 h2; obtain rfl : j = 0 := Nat.le_antisymm h2 h1; exact ok_do rfl fun a ha => d_ld ha rfl Try.isAgg22 (ldP_c e121)
            · intro j _ _; exact ok_do rfl fun a ha => d_fa ha rfl Try.runUnderlying78 rfl rfl Try.sizeOf35 (by decide)
            · intro j h1 h2; obtain rfl : j = 0 := Nat.le_antisymm h2 h1; exact ok_do rfl fun a ha => d_ld ha rfl Try.isAgg35 (ldL_c e123)
            · intro j h1 h2; obtain rfl : j = 0 := Nat.le_antisymm h2 h1; exact ok_do rfl fun a ha => d_call (xs := [_, _]) (vs := [(.pointer v120), (Sl.v v122)]) ha ⟨rfl, rfl, trivial⟩ Try.call26 (sector_Disk_Crash_ok e126)
          · have ha : Has 138 [(4, (.pointer (some p1))), (7, (.pointer v4))] a := ha.sub ⟨rfl, rfl, trivial⟩
            refine t_n ?_
            replace ha : Has 138 [(4, (.pointer (some p1))), (7, (.pointer v4))] _ := ha.sub ⟨rfl, rfl, trivial⟩
            refine wp_seq ?_
            obtain ⟨w127, e128, h⟩ := bs1 h
            obtain ⟨v129, e130, h⟩ := bs1 h
            obtain ⟨v131, e132, h⟩ := bs1 h
            obtain ⟨v133, v134, w135, e136, h⟩ := bs3 h
            have ha : Has 138 [(4, (.pointer (some p1))), (7, (.pointer v4))] a := ha.sub ⟨rfl, rfl, trivial⟩
            refine region_draw (n := 138) (ds := (⟨_, (.pointer v4), false, 0, 0, [], [(7, (.pointer v4))]⟩ :: ⟨_, (.pointer (some p9)), false, 0, 0, [0], [(119, (.pointer v4))]⟩ :: ⟨_, (.pointer (some (p9.add 1))), false, 0, 0, [0, 1], [(120, (.pointer (some p9)))]⟩ :: ⟨_, (.pointer v129), false, 0, 0, [0, 1, 2], [(121, (.pointer (some (p9.add 1))))]⟩ :: ⟨_, (.pointer (some (p1.add 1))), false, 0, 0, [], [(4, (.pointer (some p1)))]⟩ :: ⟨_, (.int .i64 v131), false, 0, 0, [4], [(123, (.pointer (some (p1.add 1))))]⟩ :: ⟨_, (.tuple #[(.int .i64 v133), (.bool v134)]), true, 0, 0, [0, 1, 2, 3, 4, 5], [(122, (.pointer v129)), (124, (.int .i64 v131))]⟩ :: ⟨_, (.tuple #[(.int .i64 v133), (.bool v134)]), false, 1, 1, [0, 1, 2, 3, 4, 5, 6], [(125, (.tuple #[(.int .i64 v133), (.bool v134)]))]⟩ :: ⟨_, (.int .i64 v133), false, 1, 1, [0, 1, 2, 3, 4, 5, 6, 7], [(118, (.tuple #[(.int .i64 v133), (.bool v134)]))]⟩ :: ⟨_, (.bool v134), false, 1, 1, [0, 1, 2, 3, 4, 5, 6, 7], [(118, (.tuple #[(.int .i64 v133), (.bool v134)]))]⟩ :: ⟨_, (.int .i64 v133), false, 1, 1, [0, 1, 2, 3, 4, 5, 6, 7, 8], [(126, (.int .i64 v133))]⟩ :: ⟨_, (.bool v134), false, 1, 1, [0, 1, 2, 3, 4, 5, 6, 7, 8, 9, 10], [(127, (.bool v134))]⟩ :: [])) (W := (fun j => match j with | 0 => w127 | _ => w135)) (by kernel_rfl) ha (dr_w e128) (by kernel_rfl) ?_ (reads_of (by kernel_rfl)) (by kernel_rfl) (m := 1) (by kernel_rfl) (fun a ha => ?_)
            · refine ⟨?_, ?_, ?_, ?_, ?_, ?_, ?_, ?_, ?_, ?_, ?_, ?_, trivial⟩
              · intro j _ _; exact ok_do rfl fun a ha => d_move ha rfl
              · intro j _ _; exact ok_do rfl fun a ha => d_nilp ha rfl e10
              · intro j _ _; exact ok_do rfl fun a ha => d_fa ha rfl Try.runUnderlying75 rfl rfl Try.sizeOf58 (by decide)
              · intro j h1 h2; obtain rfl : j = 0 := Nat.le_antisymm h2 h1; exact ok_do rfl fun a ha => d_ld ha rfl Try.isAgg58 (ldP_c e130)
              · intro j _ _; exact ok_do rfl fun a ha => d_fa ha rfl Try.runUnderlying78 rfl rfl Try.sizeOf3 (by decide)
              · intro j h1 h2; obtain rfl : j = 0 := Nat.le_antisymm h2 h1; exact ok_do rfl fun a ha => d_ld ha rfl Try.isAgg3 (ldI_c e132)
              · intro j h1 h2; obtain rfl : j = 0 := Nat.le_antisymm h2 h1; exact ok_do rfl fun a ha => d_call (xs := [_, _]) (vs := [(.pointer v129), (.int .i64 v131)]) ha ⟨rfl, rfl, trivial⟩ Try.call35 (mark_Cells_Get_ok e136)
              · intro j _ _; exact ok_do rfl fun a ha => d_move ha rfl
              · intro j _ _; exact ok_do rfl fun a ha => d_ext ha rfl rfl
              · intro j _ _; exact ok_do rfl fun a ha => d_ext ha rfl rfl
              · intro j _ _; exact ok_do rfl fun a ha => d_assign ha rfl
              · intro j _ _; exact ok_do rfl fun a ha => d_assign ha rfl
            · have ha : Has 138 [(4, (.pointer (some p1))), (10, (.int .i64 v133)), (11, (.bool v134))] a := ha.sub ⟨rfl, rfl, rfl, trivial⟩
              refine t_n ?_
              replace ha : Has 138 [(4, (.pointer (some p1))), (10, (.int .i64 v133)), (11, (.bool v134))] _ := ha.sub ⟨rfl, rfl, rfl, trivial⟩
              refine wp_seq ?_
              obtain ⟨v137, w138, e139, h⟩ := bs2 h
              refine reg_join (n := 138) (L := [(6, (.bool v137))]) (w' := w138) (fun a ha => ?_) (fun hk140 => ?_)
              · refine t_n ?_
                replace ha : Has 138 [(6, (.bool v137))] _ := ha.sub ⟨rfl, trivial⟩
                refine wp_ret ?_
                have hS := ha
                cases h
                exact ret1 Try.results16 hS rfl ⟨rfl, rfl⟩
              · clear h
                have h := e139
                refine region_lit ?_
                obtain ⟨v141, w142, e143, h⟩ := bs2 h
                refine s_do rfl ha (ltd rfl) (d_call (xs := []) (vs := []) ha trivial Try.call37 (grapevinelaw10_live_ok e143)) (fun a ha => ?_)
                refine s_do rfl ha (ltd rfl) (d_move ha rfl) (fun a ha => ?_)
                refine ite_s h (fun b144 h => ?_) (fun b144 h => ?_)
                · refine s_do_g2 rfl rfl ha (rfl : List.lookup 129 _ = _) b144 (ltd rfl) (d_move ha rfl) (fun a ha => ?_)
                  refine s_do rfl ha (ltd rfl) (d_pick_t ha rfl b144 rfl) (fun a ha => ?_)
                  refine s_do rfl ha (ltd rfl) (d_move ha rfl) (fun a ha => ?_)
                  refine ite_s h (fun b145 h => ?_) (fun b145 h => ?_)
                  · refine s_do_g2 rfl rfl ha (rfl : List.lookup 132 _ = _) b145 (ltd rfl) (d_move ha rfl) (fun a ha => ?_)
                    refine s_do_g2 rfl rfl ha (rfl : List.lookup 132 _ = _) b145 (ltd rfl) (d_fa ha rfl Try.runUnderlying78 rfl rfl Try.sizeOf3 (by decide)) (fun a ha => ?_)
                    obtain ⟨v146, e147, h⟩ := bs1 h
                    refine s_do_g2 rfl rfl ha (rfl : List.lookup 132 _ = _) b145 (ltd rfl) (d_ld ha rfl Try.isAgg3 (ldI_c e147)) (fun a ha => ?_)
                    refine s_do_g2 rfl rfl ha (rfl : List.lookup 132 _ = _) b145 (ltd rfl) (d_eq ha rfl rfl) (fun a ha => ?_)
                    refine s_do rfl ha (ltd rfl) (d_pick_t ha rfl b145 rfl) (fun a ha => ?_)
                    refine s_do rfl ha (ltd rfl) (d_assign ha rfl) (fun a ha => ?_)
                    refine s_nil ?_
                    have hS : Has 138 [(6, (.bool (v133 == v146)))] _ := ha.sub ⟨rfl, trivial⟩
                    cases h
                    exact hk140 _ hS
                  · refine s_no_g rfl rfl ha (rfl : List.lookup 132 _ = _) (nn b145 _ rfl) (ltd rfl) (fun a ha => ?_)
                    refine s_no_g rfl rfl ha (rfl : List.lookup 132 _ = _) (nn b145 _ rfl) (ltd rfl) (fun a ha => ?_)
                    refine s_no_g rfl rfl ha (rfl : List.lookup 132 _ = _) (nn b145 _ rfl) (ltd rfl) (fun a ha => ?_)
                    refine s_no_g rfl rfl ha (rfl : List.lookup 132 _ = _) (nn b145 _ rfl) (ltd rfl) (fun a ha => ?_)
                    refine s_do rfl ha (ltd rfl) (d_pick_f ha rfl b145 rfl) (fun a ha => ?_)
                    refine s_do rfl ha (ltd rfl) (d_assign ha rfl) (fun a ha => ?_)
                    refine s_nil ?_
                    have hS : Has 138 [(6, (.bool false))] _ := ha.sub ⟨rfl, trivial⟩
                    cases h
                    exact hk140 _ hS
                · refine s_no_g rfl rfl ha (rfl : List.lookup 129 _ = _) (nn b144 _ rfl) (ltd rfl) (fun a ha => ?_)
                  refine s_do rfl ha (ltd rfl) (d_pick_f ha rfl b144 rfl) (fun a ha => ?_)
                  refine s_do rfl ha (ltd rfl) (d_move ha rfl) (fun a ha => ?_)
                  refine s_no_g rfl rfl ha (rfl : List.lookup 132 _ = _) (nn (by decide) _ rfl) (ltd rfl) (fun a ha => ?_)
                  refine s_no_g rfl rfl ha (rfl : List.lookup 132 _ = _) (nn (by decide) _ rfl) (ltd rfl) (fun a ha => ?_)
                  refine s_no_g rfl rfl ha (rfl : List.lookup 132 _ = _) (nn (by decide) _ rfl) (ltd rfl) (fun a ha => ?_)
                  refine s_no_g rfl rfl ha (rfl : List.lookup 132 _ = _) (nn (by decide) _ rfl) (ltd rfl) (fun a ha => ?_)
                  refine s_do rfl ha (ltd rfl) (d_pick_f ha rfl (by decide) rfl) (fun a ha => ?_)
                  refine s_do rfl ha (ltd rfl) (d_assign ha rfl) (fun a ha => ?_)
                  refine s_nil ?_
                  have hS : Has 138 [(6, (.bool false))] _ := ha.sub ⟨rfl, trivial⟩
                  cases h
                  exact hk140 _ hS
        · clear h
          rintro ⟨x31, w32⟩ a wq o ⟨ha, hwq⟩ h hr37
          obtain rfl : w32 = wq := hwq.symm
          have ha : Has 138 [(9, (.int .i64 x31)), (2, (Sl.v a2)), (4, (.pointer (some p1))), (7, (.pointer v4))] a := ha
          have h : grapevinelaw10_MarkLasts_l1 a2 p1 v4 x31 w32 = some o := h
          unfold grapevinelaw10_MarkLasts_l1 at h
          refine wp_seq ?_
          refine wp_seq ?_
          obtain ⟨v38, w39, e40, h⟩ := bs2 h
          refine reg_join (n := 138) (L := [(42, (.bool v38)), (2, (Sl.v a2)), (4, (.pointer (some p1))), (7, (.pointer v4)), (9, (.int .i64 x31))]) (w' := w39) (fun a ha => ?_) (fun hk41 => ?_)
          · refine t_n ?_
            replace ha : Has 138 [(2, (Sl.v a2)), (4, (.pointer (some p1))), (7, (.pointer v4)), (9, (.int .i64 x31)), (42, (.bool v38))] _ := ha.sub ⟨rfl, rfl, rfl, rfl, rfl, trivial⟩
            refine s_cond ha rfl h (fun b43 h => ?_) (fun b43 h => ?_)
            · refine wp_skip ?_
              refine t_n ?_
              replace ha : Has 138 [(2, (Sl.v a2)), (4, (.pointer (some p1))), (7, (.pointer v4)), (9, (.int .i64 x31))] _ := ha.sub ⟨rfl, rfl, rfl, rfl, trivial⟩
              obtain ⟨w44, e45, h⟩ := bs1 h
              refine seq_join (n := 138) (L := [(2, (Sl.v a2)), (4, (.pointer (some p1))), (7, (.pointer v4)), (9, (.int .i64 x31))]) (w' := w44) (fun a ha => ?_) (fun hk46 => ?_)
              · refine region_lit ?_
                refine s_do rfl ha (ltd rfl) (d_move ha rfl) (fun a ha => ?_)
                refine s_do rfl ha (ltd rfl) (d_add ha rfl rfl) (fun a ha => ?_)
                refine s_do rfl ha (ltd rfl) (d_assign ha rfl) (fun a ha => ?_)
                refine s_nil ?_
                have hS : Has 138 [(9, (.int .i64 (IntKind.wrap .i64 (x31 + 1)))), (2, (Sl.v a2)), (4, (.pointer (some p1))), (7, (.pointer v4))] _ := ha.sub ⟨rfl, rfl, rfl, rfl, trivial⟩
                cases h
                exact lp_next ⟨hS, rfl⟩
              · clear h
                have h := e45
                refine wp_block ?_
                refine wp_block ?_
                refine wp_seq ?_
                obtain ⟨v47, w48, e49, h⟩ := bs2 h
                refine reg_join (n := 138) (L := [(45, (.bool v47)), (2, (Sl.v a2)), (4, (.pointer (some p1))), (7, (.pointer v4)), (9, (.int .i64 x31))]) (w' := w48) (fun a ha => ?_) (fun hk50 => ?_)
                · refine t_n ?_
                  replace ha : Has 138 [(2, (Sl.v a2)), (4, (.pointer (some p1))), (7, (.pointer v4)), (9, (.int .i64 x31)), (45, (.bool v47))] _ := ha.sub ⟨rfl, rfl, rfl, rfl, rfl, trivial⟩
                  refine s_cond ha rfl h (fun b64 h => ?_) (fun b64 h => ?_)
                  · obtain ⟨w65, e66, h⟩ := bs1 h
                    obtain ⟨p67, e68, h⟩ := bs1 h
                    obtain ⟨v69, e70, h⟩ := bs1 h
                    obtain ⟨p71, e72, h⟩ := bs1 h
                    obtain ⟨v73, e74, h⟩ := bs1 h
                    obtain ⟨p75, e76, h⟩ := bs1 h
                    obtain ⟨v77, e78, h⟩ := bs1 h
                    obtain ⟨v79, w80, e81, h⟩ := bs2 h
                    have ha : Has 138 [(2, (Sl.v a2)), (4, (.pointer (some p1))), (7, (.pointer v4)), (9, (.int .i64 x31)), (45, (.bool v47))] a := ha.sub ⟨rfl, rfl, rfl, rfl, rfl, trivial⟩
                    refine region_draw (n := 138) (ds := (⟨_, (.pointer v4), false, 0, 0, [], [(7, (.pointer v4))]⟩ :: ⟨_, (.pointer (some p67)), false, 0, 0, [0], [(62, (.pointer v4))]⟩ :: ⟨_, (.pointer (some (p67.add 1))), false, 0, 0, [0, 1], [(63, (.pointer (some p67)))]⟩ :: ⟨_, (.pointer v69), false, 0, 0, [0, 1, 2], [(64, (.pointer (some (p67.add 1))))]⟩ :: ⟨_, (Sl.v a2), false, 0, 0, [], [(2, (Sl.v a2))]⟩ :: ⟨_, (.int .i64 x31), false, 0, 0, [], [(9, (.int .i64 x31))]⟩ :: ⟨_, (.pointer (some p71)), false, 0, 0, [4, 5], [(66, (Sl.v a2)), (67, (.int .i64 x31))]⟩ :: ⟨_, (.pointer (some (p71.add 1))), false, 0, 0, [4, 5, 6], [(68, (.pointer (some p71)))]⟩ :: ⟨_, (.int .i64 v73), false, 0, 0, [4, 5, 6, 7], [(69, (.pointer (some (p71.add 1))))]⟩ :: ⟨_, (Sl.v a2), false, 0, 0, [], [(2, (Sl.v a2))]⟩ :: ⟨_, (.int .i64 x31), false, 0, 0, [], [(9, (.int .i64 x31))]⟩ :: ⟨_, (.pointer (some p75)), false, 0, 0, [9, 10], [(71, (Sl.v a2)), (72, (.int .i64 x31))]⟩ :: ⟨_, (.pointer (some (p75.add 2))), false, 0, 0, [9, 10, 11], [(73, (.pointer (some p75)))]⟩ :: ⟨_, (.int .i64 v77), false, 0, 0, [9, 10, 11, 12], [(74, (.pointer (some (p75.add 2))))]⟩ :: ⟨_, (.int .i64 v79), true, 0, 0, (0 :: 1 :: 2 :: 3 :: 4 :: 5 :: 6 :: 7 :: 8 :: 9 :: 10 :: 11 :: 12 :: 13 :: []), [(65, (.pointer v69)), (70, (.int .i64 v73)), (75, (.int .i64 v77))]⟩ :: [])) (W := (fun j => match j with | 0 => w65 | _ => w80)) (by kernel_rfl) ha (dr_w e66) (by kernel_rfl) ?_ (reads_of (by kernel_rfl)) (by kernel_rfl) (m := 1) (by kernel_rfl) (fun a ha => ?_)
                    · refine ⟨?_, ?_, ?_, ?_, ?_, ?_, ?_, ?_, ?_, ?_, ?_, ?_, ?_, ?_, ?_, trivial⟩
                      · intro j _ _; exact ok_do rfl fun a ha => d_move ha rfl
                      · intro j _ _; exact ok_do rfl fun a ha => d_nilp ha rfl e68
                      · intro j _ _; exact ok_do rfl fun a ha => d_fa ha rfl Try.runUnderlying75 rfl rfl Try.sizeOf58 (by decide)
                      · intro j h1 h2; obtain rfl : j = 0 := Nat.le_antisymm h2 h1; exact ok_do rfl fun a ha => d_ld ha rfl Try.isAgg58 (ldP_c e70)
                      · intro j _ _; exact ok_do rfl fun a ha => d_move ha rfl
                      · intro j _ _; exact ok_do rfl fun a ha => d_move ha rfl
                      · intro j _ _; exact ok_do rfl fun a ha => d_ix ha rfl rfl Try.runUnderlying66 Try.sizeOf78 e72
                      · intro j _ _; exact ok_do rfl fun a ha => d_fa ha rfl Try.runUnderlying78 rfl rfl Try.sizeOf3 (by decide)
                      · intro j h1 h2; obtain rfl : j = 0 := Nat.le_antisymm h2 h1; exact ok_do rfl fun a ha => d_ld ha rfl Try.isAgg3 (ldI_c e74)
                      · intro j _ _; exact ok_do rfl fun a ha => d_move ha rfl
                      · intro j _ _; exact ok_do rfl fun a ha => d_move ha rfl
                      · intro j _ _; exact ok_do rfl fun a ha => d_ix ha rfl rfl Try.runUnderlying66 Try.sizeOf78 e76
                      · intro j _ _; exact ok_do rfl fun a ha => d_fa ha rfl Try.runUnderlying78 rfl rfl Try.sizeOf3 (by decide)
                      · intro j h1 h2; obtain rfl : j = 0 := Nat.le_antisymm h2 h1; exact ok_do rfl fun a ha => d_ld ha rfl Try.isAgg3 (ldI_c e78)
                      · intro j h1 h2; obtain rfl : j = 0 := Nat.le_antisymm h2 h1; exact ok_do rfl fun a ha => d_call (xs := [_, _, _]) (vs := [(.pointer v69), (.int .i64 v73), (.int .i64 v77)]) ha ⟨rfl, rfl, rfl, trivial⟩ Try.call38 (mark_Cells_Put_ok e81)
                    · have ha : Has 138 [(2, (Sl.v a2)), (4, (.pointer (some p1))), (7, (.pointer v4)), (9, (.int .i64 x31))] a := ha.sub ⟨rfl, rfl, rfl, rfl, trivial⟩
                      refine b_n ?_
                      refine b_n ?_
                      have hS : Has 138 [(2, (Sl.v a2)), (4, (.pointer (some p1))), (7, (.pointer v4)), (9, (.int .i64 x31))] _ := ha.sub ⟨rfl, rfl, rfl, rfl, trivial⟩
                      cases h
                      exact hk46 _ hS
                  · refine wp_seq ?_
                    refine region_lit ?_
                    refine s_do rfl ha (ltd rfl) (d_move ha rfl) (fun a ha => ?_)
                    refine s_do rfl ha (ltd rfl) (d_move ha rfl) (fun a ha => ?_)
                    obtain ⟨p82, e83, h⟩ := bs1 h
                    refine s_do rfl ha (ltd rfl) (d_ix ha rfl rfl Try.runUnderlying66 Try.sizeOf78 e83) (fun a ha => ?_)
                    refine s_do rfl ha (ltd rfl) (d_fa ha rfl Try.runUnderlying78 rfl rfl Try.sizeOf3 (by decide)) (fun a ha => ?_)
                    obtain ⟨v84, e85, h⟩ := bs1 h
                    refine s_do rfl ha (ltd rfl) (d_ld ha rfl Try.isAgg3 (ldI_c e85)) (fun a ha => ?_)
                    refine s_do rfl ha (ltd rfl) (d_eq ha rfl rfl) (fun a ha => ?_)
                    refine s_do rfl ha (ltd rfl) (d_assign ha rfl) (fun a ha => ?_)
                    refine s_nil ?_
                    refine t_n ?_
                    replace ha : Has 138 [(2, (Sl.v a2)), (4, (.pointer (some p1))), (7, (.pointer v4)), (9, (.int .i64 x31)), (77, (.bool (v84 == 3)))] _ := ha.sub ⟨rfl, rfl, rfl, rfl, rfl, trivial⟩
                    refine s_cond ha rfl h (fun b86 h => ?_) (fun b86 h => ?_)
                    · obtain ⟨w87, e88, h⟩ := bs1 h
                      obtain ⟨p89, e90, h⟩ := bs1 h
                      obtain ⟨v91, e92, h⟩ := bs1 h
                      obtain ⟨p93, e94, h⟩ := bs1 h
                      obtain ⟨v95, e96, h⟩ := bs1 h
                      obtain ⟨v97, w98, e99, h⟩ := bs2 h
                      have ha : Has 138 [(2, (Sl.v a2)), (4, (.pointer (some p1))), (7, (.pointer v4)), (9, (.int .i64 x31)), (77, (.bool (v84 == 3)))] a := ha.sub ⟨rfl, rfl, rfl, rfl, rfl, trivial⟩
                      refine region_draw (n := 138) (ds := (⟨_, (.pointer v4), false, 0, 0, [], [(7, (.pointer v4))]⟩ :: ⟨_, (.pointer (some p89)), false, 0, 0, [0], [(84, (.pointer v4))]⟩ :: ⟨_, (.pointer (some (p89.add 0))), false, 0, 0, [0, 1], [(85, (.pointer (some p89)))]⟩ :: ⟨_, (.pointer v91), false, 0, 0, [0, 1, 2], [(86, (.pointer (some (p89.add 0))))]⟩ :: ⟨_, (Sl.v a2), false, 0, 0, [], [(2, (Sl.v a2))]⟩ :: ⟨_, (.int .i64 x31), false, 0, 0, [], [(9, (.int .i64 x31))]⟩ :: ⟨_, (.pointer (some p93)), false, 0, 0, [4, 5], [(88, (Sl.v a2)), (89, (.int .i64 x31))]⟩ :: ⟨_, (.pointer (some (p93.add 2))), false, 0, 0, [4, 5, 6], [(90, (.pointer (some p93)))]⟩ :: ⟨_, (.int .i64 v95), false, 0, 0, [4, 5, 6, 7], [(91, (.pointer (some (p93.add 2))))]⟩ :: ⟨_, (.int .i64 v97), true, 0, 0, [0, 1, 2, 3, 4, 5, 6, 7, 8], [(87, (.pointer v91)), (92, (.int .i64 v95))]⟩ :: [])) (W := (fun j => match j with | 0 => w87 | _ => w98)) (by kernel_rfl) ha (dr_w e88) (by kernel_rfl) ?_ (reads_of (by kernel_rfl)) (by kernel_rfl) (m := 1) (by kernel_rfl) (fun a ha => ?_)
                      · refine ⟨?_, ?_, ?_, ?_, ?_, ?_, ?_, ?_, ?_, ?_, trivial⟩
                        · intro j _ _; exact ok_do rfl fun a ha => d_move ha rfl
                        · intro j _ _; exact ok_do rfl fun a ha => d_nilp ha rfl e90
                        · intro j _ _; exact ok_do rfl fun a ha => d_fa ha rfl Try.runUnderlying75 rfl rfl Try.sizeOf22 (by decide)
                        · intro j h1 h2; obtain rfl : j = 0 := Nat.le_antisymm h2 h1; exact ok_do rfl fun a ha => d_ld ha rfl Try.isAgg22 (ldP_c e92)
                        · intro j _ _; exact ok_do rfl fun a ha => d_move ha rfl
                        · intro j _ _; exact ok_do rfl fun a ha => d_move ha rfl
                        · intro j _ _; exact ok_do rfl fun a ha => d_ix ha rfl rfl Try.runUnderlying66 Try.sizeOf78 e94
                        · intro j _ _; exact ok_do rfl fun a ha => d_fa ha rfl Try.runUnderlying78 rfl rfl Try.sizeOf3 (by decide)
                        · intro j h1 h2; obtain rfl : j = 0 := Nat.le_antisymm h2 h1; exact ok_do rfl fun a ha => d_ld ha rfl Try.isAgg3 (ldI_c e96)
                        · intro j h1 h2; obtain rfl : j = 0 := Nat.le_antisymm h2 h1; exact ok_do rfl fun a ha => d_call (xs := [_, _]) (vs := [(.pointer v91), (.int .i64 v95)]) ha ⟨rfl, rfl, trivial⟩ Try.call27 (sector_Disk_Trip_ok e99)
                      · have ha : Has 138 [(2, (Sl.v a2)), (4, (.pointer (some p1))), (7, (.pointer v4)), (9, (.int .i64 x31))] a := ha.sub ⟨rfl, rfl, rfl, rfl, trivial⟩
                        refine b_n ?_
                        refine b_n ?_
                        have hS : Has 138 [(2, (Sl.v a2)), (4, (.pointer (some p1))), (7, (.pointer v4)), (9, (.int .i64 x31))] _ := ha.sub ⟨rfl, rfl, rfl, rfl, trivial⟩
                        cases h
                        exact hk46 _ hS
                    · refine wp_seq ?_
                      refine region_lit ?_
                      refine s_do rfl ha (ltd rfl) (d_move ha rfl) (fun a ha => ?_)
                      refine s_do rfl ha (ltd rfl) (d_move ha rfl) (fun a ha => ?_)
                      obtain ⟨p100, e101, h⟩ := bs1 h
                      refine s_do rfl ha (ltd rfl) (d_ix ha rfl rfl Try.runUnderlying66 Try.sizeOf78 e101) (fun a ha => ?_)
                      refine s_do rfl ha (ltd rfl) (d_fa ha rfl Try.runUnderlying78 rfl rfl Try.sizeOf3 (by decide)) (fun a ha => ?_)
                      obtain ⟨v102, e103, h⟩ := bs1 h
                      refine s_do rfl ha (ltd rfl) (d_ld ha rfl Try.isAgg3 (ldI_c e103)) (fun a ha => ?_)
                      refine s_do rfl ha (ltd rfl) (d_eq ha rfl rfl) (fun a ha => ?_)
                      refine s_do rfl ha (ltd rfl) (d_assign ha rfl) (fun a ha => ?_)
                      refine s_nil ?_
                      refine t_n ?_
                      replace ha : Has 138 [(2, (Sl.v a2)), (4, (.pointer (some p1))), (7, (.pointer v4)), (9, (.int .i64 x31)), (94, (.bool (v102 == 4)))] _ := ha.sub ⟨rfl, rfl, rfl, rfl, rfl, trivial⟩
                      refine s_cond ha rfl h (fun b104 h => ?_) (fun b104 h => ?_)
                      · obtain ⟨w105, e106, h⟩ := bs1 h
                        obtain ⟨p107, e108, h⟩ := bs1 h
                        obtain ⟨v109, e110, h⟩ := bs1 h
                        obtain ⟨p111, e112, h⟩ := bs1 h
                        obtain ⟨v113, e114, h⟩ := bs1 h
                        obtain ⟨v115, w116, e117, h⟩ := bs2 h
                        have ha : Has 138 [(2, (Sl.v a2)), (4, (.pointer (some p1))), (7, (.pointer v4)), (9, (.int .i64 x31)), (94, (.bool (v102 == 4)))] a := ha.sub ⟨rfl, rfl, rfl, rfl, rfl, trivial⟩
                        refine region_draw (n := 138) (ds := (⟨_, (.pointer v4), false, 0, 0, [], [(7, (.pointer v4))]⟩ :: ⟨_, (.pointer (some p107)), false, 0, 0, [0], [(101, (.pointer v4))]⟩ :: ⟨_, (.pointer (some (p107.add 0))), false, 0, 0, [0, 1], [(102, (.pointer (some p107)))]⟩ :: ⟨_, (.pointer v109), false, 0, 0, [0, 1, 2], [(103, (.pointer (some (p107.add 0))))]⟩ :: ⟨_, (Sl.v a2), false, 0, 0, [], [(2, (Sl.v a2))]⟩ :: ⟨_, (.int .i64 x31), false, 0, 0, [], [(9, (.int .i64 x31))]⟩ :: ⟨_, (.pointer (some p111)), false, 0, 0, [4, 5], [(105, (Sl.v a2)), (106, (.int .i64 x31))]⟩ :: ⟨_, (.pointer (some (p111.add 4))), false, 0, 0, [4, 5, 6], [(107, (.pointer (some p111)))]⟩ :: ⟨_, (Sl.v v113), false, 0, 0, [4, 5, 6, 7], [(108, (.pointer (some (p111.add 4))))]⟩ :: ⟨_, (.int .i64 v115), true, 0, 0, [0, 1, 2, 3, 4, 5, 6, 7, 8], [(104, (.pointer v109)), (109, (Sl.v v113))]⟩ :: [])) (W := (fun j => match j with | 0 => w105 | _ => w116)) (by kernel_rfl) ha (dr_w e106) (by kernel_rfl) ?_ (reads_of (by kernel_rfl)) (by kernel_rfl) (m := 1) (by kernel_rfl) (fun a ha => ?_)
                        · refine ⟨?_, ?_, ?_, ?_, ?_, ?_, ?_, ?_, ?_, ?_, trivial⟩
                          · intro j _ _; exact ok_do rfl fun a ha => d_move ha rfl
                          · intro j _ _; exact ok_do rfl fun a ha => d_nilp ha rfl e108
                          · intro j _ _; exact ok_do rfl fun a ha => d_fa ha rfl Try.runUnderlying75 rfl rfl Try.sizeOf22 (by decide)
                          · intro j h1 h2; obtain rfl : j = 0 := Nat.le_antisymm h2 h1; exact ok_do rfl fun a ha => d_ld ha rfl Try.isAgg22 (ldP_c e110)
                          · intro j _ _; exact ok_do rfl fun a ha => d_move ha rfl
                          · intro j _ _; exact ok_do rfl fun a ha => d_move ha rfl
                          · intro j _ _; exact ok_do rfl fun a ha => d_ix ha rfl rfl Try.runUnderlying66 Try.sizeOf78 e112
                          · intro j _ _; exact ok_do rfl fun a ha => d_fa ha rfl Try.runUnderlying78 rfl rfl Try.sizeOf35 (by decide)
                          · intro j h1 h2; obtain rfl : j = 0 := Nat.le_antisymm h2 h1; exact ok_do rfl fun a ha => d_ld ha rfl Try.isAgg35 (ldL_c e114)
                          · intro j h1 h2; obtain rfl : j = 0 := Nat.le_antisymm h2 h1; exact ok_do rfl fun a ha => d_call (xs := [_, _]) (vs := [(.pointer v109), (Sl.v v113)]) ha ⟨rfl, rfl, trivial⟩ Try.call26 (sector_Disk_Crash_ok e117)
                        · have ha : Has 138 [(2, (Sl.v a2)), (4, (.pointer (some p1))), (7, (.pointer v4)), (9, (.int .i64 x31))] a := ha.sub ⟨rfl, rfl, rfl, rfl, trivial⟩
                          refine b_n ?_
                          refine b_n ?_
                          have hS : Has 138 [(2, (Sl.v a2)), (4, (.pointer (some p1))), (7, (.pointer v4)), (9, (.int .i64 x31))] _ := ha.sub ⟨rfl, rfl, rfl, rfl, trivial⟩
                          cases h
                          exact hk46 _ hS
                      · refine wp_skip ?_
                        refine b_n ?_
                        refine b_n ?_
                        have hS : Has 138 [(2, (Sl.v a2)), (4, (.pointer (some p1))), (7, (.pointer v4)), (9, (.int .i64 x31))] _ := ha.sub ⟨rfl, rfl, rfl, rfl, trivial⟩
                        cases h
                        exact hk46 _ hS
                · clear h
                  have h := e49
                  obtain ⟨w51, e52, h⟩ := bs1 h
                  obtain ⟨p53, e54, h⟩ := bs1 h
                  obtain ⟨v55, e56, h⟩ := bs1 h
                  refine ite_s h (fun b57 h => ?_) (fun b57 h => ?_)
                  · obtain ⟨p58, e59, h⟩ := bs1 h
                    obtain ⟨v60, e61, h⟩ := bs1 h
                    obtain ⟨v62, e63, h⟩ := bs1 h
                    have ha : Has 138 [(2, (Sl.v a2)), (4, (.pointer (some p1))), (7, (.pointer v4)), (9, (.int .i64 x31))] a := ha.sub ⟨rfl, rfl, rfl, rfl, trivial⟩
                    refine region_draw (n := 138) (ds := (⟨_, (Sl.v a2), false, 0, 0, [], [(2, (Sl.v a2))]⟩ :: ⟨_, (.int .i64 x31), false, 0, 0, [], [(9, (.int .i64 x31))]⟩ :: ⟨_, (.pointer (some p53)), false, 0, 0, [0, 1], [(46, (Sl.v a2)), (47, (.int .i64 x31))]⟩ :: ⟨_, (.pointer (some (p53.add 0))), false, 0, 0, [0, 1, 2], [(48, (.pointer (some p53)))]⟩ :: ⟨_, (.int .i64 v55), false, 0, 0, [0, 1, 2, 3], [(49, (.pointer (some (p53.add 0))))]⟩ :: ⟨_, (.bool (v55 == 0)), false, 0, 0, [0, 1, 2, 3, 4], [(50, (.int .i64 v55))]⟩ :: ⟨_, (.bool (v55 == 0)), false, 0, 0, [0, 1, 2, 3, 4, 5], [(51, (.bool (v55 == 0)))]⟩ :: ⟨_, (Sl.v a2), false, 0, 0, [0, 1, 2, 3, 4, 5, 6], [(2, (Sl.v a2)), (52, (.bool (v55 == 0)))]⟩ :: ⟨_, (.int .i64 x31), false, 0, 0, [0, 1, 2, 3, 4, 5, 6], [(9, (.int .i64 x31)), (52, (.bool (v55 == 0)))]⟩ :: ⟨_, (.pointer (some p58)), false, 0, 0, [0, 1, 2, 3, 4, 5, 6, 7, 8], [(53, (Sl.v a2)), (54, (.int .i64 x31)), (52, (.bool (v55 == 0)))]⟩ :: ⟨_, (.pointer (some (p58.add 1))), false, 0, 0, [0, 1, 2, 3, 4, 5, 6, 7, 8, 9], [(55, (.pointer (some p58))), (52, (.bool (v55 == 0)))]⟩ :: ⟨_, (.int .i64 v60), false, 0, 0, [0, 1, 2, 3, 4, 5, 6, 7, 8, 9, 10], [(56, (.pointer (some (p58.add 1)))), (52, (.bool (v55 == 0)))]⟩ :: ⟨_, (.pointer (some (p1.add 1))), false, 0, 0, [0, 1, 2, 3, 4, 5, 6], [(4, (.pointer (some p1))), (52, (.bool (v55 == 0)))]⟩ :: ⟨_, (.int .i64 v62), false, 0, 0, [0, 1, 2, 3, 4, 5, 6, 12], [(58, (.pointer (some (p1.add 1)))), (52, (.bool (v55 == 0)))]⟩ :: ⟨_, (.bool (v60 != v62)), false, 0, 0, (0 :: 1 :: 2 :: 3 :: 4 :: 5 :: 6 :: 7 :: 8 :: 9 :: 10 :: 11 :: 12 :: 13 :: []), [(57, (.int .i64 v60)), (59, (.int .i64 v62)), (52, (.bool (v55 == 0)))]⟩ :: ⟨_, (.bool (v60 != v62)), false, 0, 0, (0 :: 1 :: 2 :: 3 :: 4 :: 5 :: 6 :: 7 :: 8 :: 9 :: 10 :: 11 :: 12 :: 13 :: 14 :: []), [(52, (.bool (v55 == 0))), (60, (.bool (v60 != v62)))]⟩ :: ⟨_, (.bool (v60 != v62)), false, 0, 0, (0 :: 1 :: 2 :: 3 :: 4 :: 5 :: 6 :: 7 :: 8 :: 9 :: 10 :: 11 :: 12 :: 13 :: 14 :: 15 :: []), [(61, (.bool (v60 != v62)))]⟩ :: [])) (W := (fun _ => w51)) (by kernel_rfl) ha (dr_w e52) (by kernel_rfl) ?_ (reads_of (by kernel_rfl)) (by kernel_rfl) (m := 0) (by kernel_rfl) (fun a ha => ?_)
                    · refine ⟨?_, ?_, ?_, ?_, ?_, ?_, ?_, ?_, ?_, ?_, ?_, ?_, ?_, ?_, ?_, ?_, ?_, trivial⟩
                      · intro j _ _; exact ok_do rfl fun a ha => d_move ha rfl
                      · intro j _ _; exact ok_do rfl fun a ha => d_move ha rfl
                      · intro j _ _; exact ok_do rfl fun a ha => d_ix ha rfl rfl Try.runUnderlying66 Try.sizeOf78 e54
                      · intro j _ _; exact ok_do rfl fun a ha => d_fa ha rfl Try.runUnderlying78 rfl rfl Try.sizeOf3 (by decide)
                      · intro j h1 h2; obtain rfl : j = 0 := Nat.le_antisymm h2 h1; exact ok_do rfl fun a ha => d_ld ha rfl Try.isAgg3 (ldI_c e56)
                      · intro j _ _; exact ok_do rfl fun a ha => d_eq ha rfl rfl
                      · intro j _ _; exact ok_do rfl fun a ha => d_move ha rfl
                      · intro j _ _; exact ok_do_g rfl rfl (rfl : List.lookup 52 _ = _) b57 fun a ha => d_move ha rfl
                      · intro j _ _; exact ok_do_g rfl rfl (rfl : List.lookup 52 _ = _) b57 fun a ha => d_move ha rfl
                      · intro j _ _; exact ok_do_g rfl rfl (rfl : List.lookup 52 _ = _) b57 fun a ha => d_ix ha rfl rfl Try.runUnderlying66 Try.sizeOf78 e59
                      · intro j _ _; exact ok_do_g rfl rfl (rfl : List.lookup 52 _ = _) b57 fun a ha => d_fa ha rfl Try.runUnderlying78 rfl rfl Try.sizeOf3 (by decide)
                      · intro j h1 h2; obtain rfl : j = 0 := Nat.le_antisymm h2 h1; exact ok_do_g rfl rfl (rfl : List.lookup 52 _ = _) b57 fun a ha => d_ld ha rfl Try.isAgg3 (ldI_c e61)
                      · intro j _ _; exact ok_do_g rfl rfl (rfl : List.lookup 52 _ = _) b57 fun a ha => d_fa ha rfl Try.runUnderlying78 rfl rfl Try.sizeOf3 (by decide)
                      · intro j h1 h2; obtain rfl : j = 0 := Nat.le_antisymm h2 h1; exact ok_do_g rfl rfl (rfl : List.lookup 52 _ = _) b57 fun a ha => d_ld ha rfl Try.isAgg3 (ldI_c e63)
                      · intro j _ _; exact ok_do_g rfl rfl (rfl : List.lookup 52 _ = _) b57 fun a ha => d_ne ha rfl rfl
                      · intro j _ _; exact ok_do rfl fun a ha => d_pick_t ha rfl b57 rfl
                      · intro j _ _; exact ok_do rfl fun a ha => d_assign ha rfl
                    · have ha : Has 138 [(2, (Sl.v a2)), (4, (.pointer (some p1))), (7, (.pointer v4)), (9, (.int .i64 x31)), (45, (.bool (v60 != v62)))] a := ha.sub ⟨rfl, rfl, rfl, rfl, rfl, trivial⟩
                      have hS : Has 138 [(45, (.bool (v60 != v62))), (2, (Sl.v a2)), (4, (.pointer (some p1))), (7, (.pointer v4)), (9, (.int .i64 x31))] _ := ha.sub ⟨rfl, rfl, rfl, rfl, rfl, trivial⟩
                      cases h
                      exact hk50 _ hS
                  · have ha : Has 138 [(2, (Sl.v a2)), (4, (.pointer (some p1))), (7, (.pointer v4)), (9, (.int .i64 x31))] a := ha.sub ⟨rfl, rfl, rfl, rfl, trivial⟩
                    refine region_draw (n := 138) (ds := (⟨_, (Sl.v a2), false, 0, 0, [], [(2, (Sl.v a2))]⟩ :: ⟨_, (.int .i64 x31), false, 0, 0, [], [(9, (.int .i64 x31))]⟩ :: ⟨_, (.pointer (some p53)), false, 0, 0, [0, 1], [(46, (Sl.v a2)), (47, (.int .i64 x31))]⟩ :: ⟨_, (.pointer (some (p53.add 0))), false, 0, 0, [0, 1, 2], [(48, (.pointer (some p53)))]⟩ :: ⟨_, (.int .i64 v55), false, 0, 0, [0, 1, 2, 3], [(49, (.pointer (some (p53.add 0))))]⟩ :: ⟨_, (.bool (v55 == 0)), false, 0, 0, [0, 1, 2, 3, 4], [(50, (.int .i64 v55))]⟩ :: ⟨_, (.bool (v55 == 0)), false, 0, 0, [0, 1, 2, 3, 4, 5], [(51, (.bool (v55 == 0)))]⟩ :: ⟨_, undef, false, 0, 0, [0, 1, 2, 3, 4, 5, 6], [(52, (.bool (v55 == 0)))]⟩ :: ⟨_, undef, false, 0, 0, [0, 1, 2, 3, 4, 5, 6], [(52, (.bool (v55 == 0)))]⟩ :: ⟨_, undef, false, 0, 0, [0, 1, 2, 3, 4, 5, 6, 7, 8], [(52, (.bool (v55 == 0)))]⟩ :: ⟨_, undef, false, 0, 0, [0, 1, 2, 3, 4, 5, 6, 7, 8, 9], [(52, (.bool (v55 == 0)))]⟩ :: ⟨_, undef, false, 0, 0, [0, 1, 2, 3, 4, 5, 6, 7, 8, 9, 10], [(52, (.bool (v55 == 0)))]⟩ :: ⟨_, undef, false, 0, 0, [0, 1, 2, 3, 4, 5, 6], [(52, (.bool (v55 == 0)))]⟩ :: ⟨_, undef, false, 0, 0, [0, 1, 2, 3, 4, 5, 6, 12], [(52, (.bool (v55 == 0)))]⟩ :: ⟨_, undef, false, 0, 0, (0 :: 1 :: 2 :: 3 :: 4 :: 5 :: 6 :: 7 :: 8 :: 9 :: 10 :: 11 :: 12 :: 13 :: []), [(52, (.bool (v55 == 0)))]⟩ :: ⟨_, (.bool false), false, 0, 0, (0 :: 1 :: 2 :: 3 :: 4 :: 5 :: 6 :: 7 :: 8 :: 9 :: 10 :: 11 :: 12 :: 13 :: 14 :: []), [(52, (.bool (v55 == 0))), (60, undef)]⟩ :: ⟨_, (.bool false), false, 0, 0, (0 :: 1 :: 2 :: 3 :: 4 :: 5 :: 6 :: 7 :: 8 :: 9 :: 10 :: 11 :: 12 :: 13 :: 14 :: 15 :: []), [(61, (.bool false))]⟩ :: [])) (W := (fun _ => w51)) (by kernel_rfl) ha (dr_w e52) (by kernel_rfl) ?_ (reads_of (by kernel_rfl)) (by kernel_rfl) (m := 0) (by kernel_rfl) (fun a ha => ?_)
                    · refine ⟨?_, ?_, ?_, ?_, ?_, ?_, ?_, ?_, ?_, ?_, ?_, ?_, ?_, ?_, ?_, ?_, ?_, trivial⟩
                      · intro j _ _; exact ok_do rfl fun a ha => d_move ha rfl
                      · intro j _ _; exact ok_do rfl fun a ha => d_move ha rfl
                      · intro j _ _; exact ok_do rfl fun a ha => d_ix ha rfl rfl Try.runUnderlying66 Try.sizeOf78 e54
                      · intro j _ _; exact ok_do rfl fun a ha => d_fa ha rfl Try.runUnderlying78 rfl rfl Try.sizeOf3 (by decide)
                      · intro j h1 h2; obtain rfl : j = 0 := Nat.le_antisymm h2 h1; exact ok_do rfl fun a ha => d_ld ha rfl Try.isAgg3 (ldI_c e56)
                      · intro j _ _; exact ok_do rfl fun a ha => d_eq ha rfl rfl
                      · intro j _ _; exact ok_do rfl fun a ha => d_move ha rfl
                      · intro j _ _; exact ok_no_g rfl rfl (rfl : List.lookup 52 _ = _) (nn b57 _ rfl)
                      · intro j _ _; exact ok_no_g rfl rfl (rfl : List.lookup 52 _ = _) (nn b57 _ rfl)
                      · intro j _ _; exact ok_no_g rfl rfl (rfl : List.lookup 52 _ = _) (nn b57 _ rfl)
                      · intro j _ _; exact ok_no_g rfl rfl (rfl : List.lookup 52 _ = _) (nn b57 _ rfl)
                      · intro j _ _; exact ok_no_g rfl rfl (rfl : List.lookup 52 _ = _) (nn b57 _ rfl)
                      · intro j _ _; exact ok_no_g rfl rfl (rfl : List.lookup 52 _ = _) (nn b57 _ rfl)
                      · intro j _ _; exact ok_no_g rfl rfl (rfl : List.lookup 52 _ = _) (nn b57 _ rfl)
                      · intro j _ _; exact ok_no_g rfl rfl (rfl : List.lookup 52 _ = _) (nn b57 _ rfl)
                      · intro j _ _; exact ok_do rfl fun a ha => d_pick_f ha rfl b57 rfl
                      · intro j _ _; exact ok_do rfl fun a ha => d_assign ha rfl
                    · have ha : Has 138 [(2, (Sl.v a2)), (4, (.pointer (some p1))), (7, (.pointer v4)), (9, (.int .i64 x31)), (45, (.bool false))] a := ha.sub ⟨rfl, rfl, rfl, rfl, rfl, trivial⟩
                      have hS : Has 138 [(45, (.bool false)), (2, (Sl.v a2)), (4, (.pointer (some p1))), (7, (.pointer v4)), (9, (.int .i64 x31))] _ := ha.sub ⟨rfl, rfl, rfl, rfl, rfl, trivial⟩
                      cases h
                      exact hk50 _ hS
            · refine wp_exit ?_
              refine t_x ?_
              have hS : Has 138 [(4, (.pointer (some p1))), (7, (.pointer v4))] _ := ha.sub ⟨rfl, rfl, trivial⟩
              cases h
              cases hr37 _ rfl
              refine lp_x ?_
              exact hk36 _ hS
          · clear h
            have h := e40
            refine region_lit ?_
            refine s_do rfl ha (ltd rfl) (d_move ha rfl) (fun a ha => ?_)
            refine s_do rfl ha (ltd rfl) (d_move ha rfl) (fun a ha => ?_)
            refine s_do rfl ha (ltd rfl) (d_lenS ha rfl Try.runUnderlying66) (fun a ha => ?_)
            refine s_do rfl ha (ltd rfl) (d_lt ha rfl rfl) (fun a ha => ?_)
            refine s_do rfl ha (ltd rfl) (d_move ha rfl) (fun a ha => ?_)
            refine ite_s h (fun b42 h => ?_) (fun b42 h => ?_)
            · refine s_do_g2 rfl rfl ha (rfl : List.lookup 39 _ = _) b42 (ltd rfl) (d_move ha rfl) (fun a ha => ?_)
              refine s_do_g2 rfl rfl ha (rfl : List.lookup 39 _ = _) b42 (ltd rfl) (d_lt ha rfl rfl) (fun a ha => ?_)
              refine s_do rfl ha (ltd rfl) (d_pick_t ha rfl b42 rfl) (fun a ha => ?_)
              refine s_nil ?_
              have hS : Has 138 [(42, (.bool (decide (x31 < 100)))), (2, (Sl.v a2)), (4, (.pointer (some p1))), (7, (.pointer v4)), (9, (.int .i64 x31))] _ := ha.sub ⟨rfl, rfl, rfl, rfl, rfl, trivial⟩
              cases h
              exact hk41 _ hS
            · refine s_no_g rfl rfl ha (rfl : List.lookup 39 _ = _) (nn b42 _ rfl) (ltd rfl) (fun a ha => ?_)
              refine s_no_g rfl rfl ha (rfl : List.lookup 39 _ = _) (nn b42 _ rfl) (ltd rfl) (fun a ha => ?_)
              refine s_do rfl ha (ltd rfl) (d_pick_f ha rfl b42 rfl) (fun a ha => ?_)
              refine s_nil ?_
              have hS : Has 138 [(42, (.bool false)), (2, (Sl.v a2)), (4, (.pointer (some p1))), (7, (.pointer v4)), (9, (.int .i64 x31))] _ := ha.sub ⟨rfl, rfl, rfl, rfl, rfl, trivial⟩
              cases h
              exact hk41 _ hS
end Go.Proofs.Ytoanmomopcaikaa.D
