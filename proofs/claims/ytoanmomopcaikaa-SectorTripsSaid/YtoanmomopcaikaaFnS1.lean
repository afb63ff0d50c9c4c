/- Written by dec.py of this project: Go functions as plain functions over the memory, and that the Go calls come to these. -/
import Derived.Test.YtoanmomopcaikaaGlue
import Derived.Test.YtoanmomopcaikaaFnS0
namespace Go.Proofs.Ytoanmomopcaikaa.D
open Go
set_option linter.unusedVariables false
set_option linter.unusedSimpArgs false

noncomputable def grapevinelaw09_SectorTrips_l1 (a0 : Sl) (v1 : Option Addr) (a1 : Int) (x15 : Int) (x16 : Int) (w17 : World) : Option ((Int × Int × World) ⊕ ((Int × World) ⊕ (Bool × World))) :=
  bind2 (if (decide (x16 < (a0.n : Int))) = true then
  (some ((decide (x16 < 200)), w17))
  else
  (some (false, w17))) fun v27 w28 =>
  if v27 = true then
  (bindX (bind3 ((ix a0 x16 4).bind fun p45 =>
  (ldI .i64 w28 (p45.add 0)).bind fun v47 =>
  if (v47 == 0) = true then
  (bind2 ((ix a0 x16 4).bind fun p54 =>
  (ldI .i64 w28 (p54.add 1)).bind fun v56 =>
  if (decide (0 ≤ v56)) = true then
  ((ix a0 x16 4).bind fun p59 =>
  (ldI .i64 w28 (p59.add 1)).bind fun v61 =>
  if (decide (v61 < 4)) = true then
  ((ix a0 x16 4).bind fun p64 =>
  (ldL w28 (p64.add 2)).bind fun v66 =>
  some ((decide ((v66.n : Int) ≤ 64)), w28))
  else
  (some (false, w28)))
  else
  (some (false, w28))) fun v50 w51 =>
  (dr w51).bind fun w68 =>
  (ix a0 x16 4).bind fun p70 =>
  (ldI .i64 w68 (p70.add 1)).bind fun v72 =>
  (ix a0 x16 4).bind fun p74 =>
  (ldL w68 (p74.add 2)).bind fun v76 =>
  bind2 (sector_Disk_Write v1 v72 v76 w68) fun v78 w79 =>
  some (v78, v50, w79))
  else
  (if (v47 == 2) = true then
  (bind2 (sector_Disk_Sync v1 w28) fun v82 w83 =>
  some (v82, true, w83))
  else
  (some (0, false, w28)))) fun v40 v41 w42 =>
  if v41 = true then
  (bind2 (if (decide (0 < a1)) = true then
  (some (((v40 == 10) != (decide ((IntKind.wrap .i64 a1) ≤ (IntKind.wrap .i64 (x15 + 1))))), w42))
  else
  (some (((v40 == 10) != false), w42))) fun v86 w87 =>
  if v86 = true then
  ((some (.inr (.inr (false, w87)))).bind fun g39 => some (.inl g39))
  else
  (some (.inr ((IntKind.wrap .i64 (x15 + 1)), w87))))
  else
  (some (.inr (x15, w42)))) some fun (i : Int × World) => u2 i fun v33 w34 =>
  some (.inl (v33, (IntKind.wrap .i64 (x16 + 1)), w34)))
  else
  (some (.inr (.inl (x15, w28))))
noncomputable def grapevinelaw09_SectorTrips (a0 : Sl) (a1 : Int) (w : World) : Option (Bool × World) :=
  bind3 (sector_New 4 w) fun v1 v2 w3 =>
  bind2 (if (v2 != 0) = true then
  (some (true, w3))
  else
  (if (v1.isNone) = true then
  (some (true, w3))
  else
  (bind2 (sector_Disk_Trip v1 (IntKind.wrap .i64 a1) w3) fun v11 w12 =>
  some ((v11 != 0), w12)))) fun v5 w6 =>
  if v5 = true then
  (some (false, w6))
  else
  ((loopF (fun s : Int × Int × World => grapevinelaw09_SectorTrips_l1 a0 v1 a1 s.1 s.2.1 s.2.2) (0, 0, w6)).bind fun r18 => Sum.elim (fun (i : Int × World) => u2 i fun v20 w21 =>
  bind2 (bind2 (grapevinelaw09_live w21) fun v97 w98 =>
  if v97 = true then
  (bind2 (sector_Disk_Down v1 w98) fun v101 w102 =>
  if (decide (0 < a1)) = true then
  (if (v101 == (decide ((IntKind.wrap .i64 a1) ≤ v20))) = true then
  (bind2 (sector_Disk_Crash v1 Sl.nil w102) fun v106 w107 =>
  if (v106 == 0) = true then
  (bind2 (sector_Disk_Down v1 w107) fun v110 w111 =>
  if (!v110) = true then
  (bind2 (sector_Disk_Sync v1 w111) fun v114 w115 =>
  some ((v114 == 0), w115))
  else
  (some (false, w111)))
  else
  (some (false, w107)))
  else
  (some (false, w102)))
  else
  (if (v101 == false) = true then
  (bind2 (sector_Disk_Crash v1 Sl.nil w102) fun v118 w119 =>
  if (v118 == 0) = true then
  (bind2 (sector_Disk_Down v1 w119) fun v122 w123 =>
  if (!v122) = true then
  (bind2 (sector_Disk_Sync v1 w123) fun v126 w127 =>
  some ((v126 == 0), w127))
  else
  (some (false, w123)))
  else
  (some (false, w119)))
  else
  (some (false, w102))))
  else
  (some (false, w98))) fun v93 w94 =>
  some (v93, w94)) (fun (i : Bool × World) => u2 i fun v22 w23 =>
  some (v22, w23)) r18)
set_option maxHeartbeats 1000000 in
set_option maxRecDepth 100000 in
theorem grapevinelaw09_SectorTrips_ok {a0 : Sl} {a1 : Int} {w w' : World} {r0 : Bool} (h : grapevinelaw09_SectorTrips a0 a1 w = some (r0, w')) : Calls Try.prog 5 #[(Sl.v a0), (.int .u8 a1)] w fun e w'' => e = .returned (.bool r0) ∧ w'' = w' := by
  refine calls_dec (n := 127) Try.func5 rfl Try.ntmps5 (by simp) (fun a ha => ?_)
  unfold grapevinelaw09_SectorTrips at h
  refine wp_seq ?_
  refine region_lit ?_
  refine s_do rfl ha (ltd rfl) (d_assign ha rfl) (fun a ha => ?_)
  refine s_nil ?_
  refine t_n ?_
  replace ha : Has 127 [(0, (Sl.v a0)), (1, (.int .u8 a1))] _ := ha.sub ⟨rfl, rfl, trivial⟩
  refine wp_seq ?_
  refine region_lit ?_
  obtain ⟨v1, v2, w3, e4, h⟩ := bs3 h
  refine s_do rfl ha (ltd rfl) (d_call (xs := [_]) (vs := [(.int .i64 4)]) ha ⟨rfl, trivial⟩ Try.call17 (sector_New_ok e4)) (fun a ha => ?_)
  refine s_do rfl ha (ltd rfl) (d_move ha rfl) (fun a ha => ?_)
  refine s_do rfl ha (ltd rfl) (d_ext ha rfl rfl) (fun a ha => ?_)
  refine s_do rfl ha (ltd rfl) (d_ext ha rfl rfl) (fun a ha => ?_)
  refine s_do rfl ha (ltd rfl) (d_assign ha rfl) (fun a ha => ?_)
  refine s_do rfl ha (ltd rfl) (d_assign ha rfl) (fun a ha => ?_)
  refine s_nil ?_
  refine t_n ?_
  replace ha : Has 127 [(0, (Sl.v a0)), (1, (.int .u8 a1)), (5, (.pointer v1)), (6, (.int .i64 v2))] _ := ha.sub ⟨rfl, rfl, rfl, rfl, trivial⟩
  refine wp_seq ?_
  refine wp_seq ?_
  obtain ⟨v5, w6, e7, h⟩ := bs2 h
  refine reg_join (n := 127) (L := [(27, (.bool v5)), (0, (Sl.v a0)), (1, (.int .u8 a1)), (5, (.pointer v1))]) (w' := w6) (fun a ha => ?_) (fun hk8 => ?_)
  · refine t_n ?_
    replace ha : Has 127 [(0, (Sl.v a0)), (1, (.int .u8 a1)), (5, (.pointer v1)), (27, (.bool v5))] _ := ha.sub ⟨rfl, rfl, rfl, rfl, trivial⟩
    refine s_cond ha rfl h (fun b14 h => ?_) (fun b14 h => ?_)
    · refine wp_seq ?_
      refine region_lit ?_
      refine s_do rfl ha (ltd rfl) (d_assign ha rfl) (fun a ha => ?_)
      refine s_nil ?_
      refine t_n ?_
      replace ha : Has 127 [(4, (.bool false))] _ := ha.sub ⟨rfl, trivial⟩
      refine wp_ret ?_
      refine t_r ?_
      have hS := ha
      cases h
      exact ret1 Try.results5 hS rfl ⟨rfl, rfl⟩
    · refine wp_skip ?_
      refine t_n ?_
      replace ha : Has 127 [(0, (Sl.v a0)), (1, (.int .u8 a1)), (5, (.pointer v1))] _ := ha.sub ⟨rfl, rfl, rfl, trivial⟩
      refine wp_seq ?_
      refine region_lit ?_
      refine s_do rfl ha (ltd rfl) (d_assign ha rfl) (fun a ha => ?_)
      refine s_nil ?_
      refine t_n ?_
      replace ha : Has 127 [(0, (Sl.v a0)), (1, (.int .u8 a1)), (5, (.pointer v1)), (7, (.int .i64 0))] _ := ha.sub ⟨rfl, rfl, rfl, rfl, trivial⟩
      refine wp_seq ?_
      refine wp_seq ?_
      refine region_lit ?_
      refine s_do rfl ha (ltd rfl) (d_assign ha rfl) (fun a ha => ?_)
      refine s_nil ?_
      refine t_n ?_
      replace ha : Has 127 [(0, (Sl.v a0)), (1, (.int .u8 a1)), (5, (.pointer v1)), (7, (.int .i64 0)), (8, (.int .i64 0))] _ := ha.sub ⟨rfl, rfl, rfl, rfl, rfl, trivial⟩
      refine wp_block ?_
      obtain ⟨r18, e19, h⟩ := bs1 h
      refine s_loop2 (n := 127) (L1 := fun i => [(7, (.int .i64 i.1)), (1, (.int .u8 a1)), (5, (.pointer v1))]) (w1 := fun i => i.2) (L2 := fun i => [(4, (.bool i.1))]) (w2 := fun i => i.2) (e1 := .exit 0) (e2 := .ret) (I := fun (s : Int × Int × World) a w => Has 127 [(7, (.int .i64 s.1)), (8, (.int .i64 s.2.1)), (0, (Sl.v a0)), (1, (.int .u8 a1)), (5, (.pointer v1))] a ∧ w = s.2.2) ⟨ha.sub ⟨rfl, rfl, rfl, rfl, rfl, trivial⟩, rfl⟩ e19 (fun i hi a ha => ?_) (fun i hi a ha => ?_) (fun hk24 hk25 => ?_)
      · subst hi
        obtain ⟨v20, w21⟩ := i
        dsimp only [Sum.elim_inl, Sum.elim_inr, u1, u2, u3, u4, u5, u6] at h
        have ha : Has 127 [(7, (.int .i64 v20)), (1, (.int .u8 a1)), (5, (.pointer v1))] a := ha
        refine b_hit ?_
        refine t_n ?_
        replace ha : Has 127 [(1, (.int .u8 a1)), (5, (.pointer v1)), (7, (.int .i64 v20))] _ := ha.sub ⟨rfl, rfl, rfl, trivial⟩
        refine wp_seq ?_
        obtain ⟨v93, w94, e95, h⟩ := bs2 h
        refine reg_join (n := 127) (L := [(4, (.bool v93))]) (w' := w94) (fun a ha => ?_) (fun hk96 => ?_)
        · refine t_n ?_
          replace ha : Has 127 [(4, (.bool v93))] _ := ha.sub ⟨rfl, trivial⟩
          refine wp_ret ?_
          have hS := ha
          cases h
          exact ret1 Try.results5 hS rfl ⟨rfl, rfl⟩
        · clear h
          have h := e95
          refine region_lit ?_
          obtain ⟨v97, w98, e99, h⟩ := bs2 h
          refine s_do rfl ha (ltd rfl) (d_call (xs := []) (vs := []) ha trivial Try.call18 (grapevinelaw09_live_ok e99)) (fun a ha => ?_)
          refine s_do rfl ha (ltd rfl) (d_move ha rfl) (fun a ha => ?_)
          refine ite_s h (fun b100 h => ?_) (fun b100 h => ?_)
          · refine s_do_g2 rfl rfl ha (rfl : List.lookup 99 _ = _) b100 (ltd rfl) (d_move ha rfl) (fun a ha => ?_)
            obtain ⟨v101, w102, e103, h⟩ := bs2 h
            refine s_do_g2 rfl rfl ha (rfl : List.lookup 99 _ = _) b100 (ltd rfl) (d_call (xs := [_]) (vs := [(.pointer v1)]) ha ⟨rfl, trivial⟩ Try.call21 (sector_Disk_Down_ok e103)) (fun a ha => ?_)
            refine s_do_g2 rfl rfl ha (rfl : List.lookup 99 _ = _) b100 (ltd rfl) (d_move ha rfl) (fun a ha => ?_)
            refine s_do_g2 rfl rfl ha (rfl : List.lookup 99 _ = _) b100 (ltd rfl) (d_gt ha rfl rfl) (fun a ha => ?_)
            refine s_do_g2 rfl rfl ha (rfl : List.lookup 99 _ = _) b100 (ltd rfl) (d_move ha rfl) (fun a ha => ?_)
            refine ite_s h (fun b104 h => ?_) (fun b104 h => ?_)
            · refine s_do_g2 rfl rfl ha (rfl : List.lookup 104 _ = _) b104 (ltd rfl) (d_move ha rfl) (fun a ha => ?_)
              refine s_do_g2 rfl rfl ha (rfl : List.lookup 104 _ = _) b104 (ltd rfl) (d_move ha rfl) (fun a ha => ?_)
              refine s_do_g2 rfl rfl ha (rfl : List.lookup 104 _ = _) b104 (ltd rfl) (d_conv ha rfl Try.runUnderlying5 Try.runUnderlying3) (fun a ha => ?_)
              refine s_do_g2 rfl rfl ha (rfl : List.lookup 104 _ = _) b104 (ltd rfl) (d_ge ha rfl rfl) (fun a ha => ?_)
              refine s_do_g2 rfl rfl ha (rfl : List.lookup 99 _ = _) b100 (ltd rfl) (d_pick_t ha rfl b104 rfl) (fun a ha => ?_)
              refine s_do_g2 rfl rfl ha (rfl : List.lookup 99 _ = _) b100 (ltd rfl) (d_eqB ha rfl rfl Try.runUnderlying4) (fun a ha => ?_)
              refine s_do rfl ha (ltd rfl) (d_pick_t ha rfl b100 rfl) (fun a ha => ?_)
              refine s_do rfl ha (ltd rfl) (d_move ha rfl) (fun a ha => ?_)
              refine ite_s h (fun b105 h => ?_) (fun b105 h => ?_)
              · refine s_do_g2 rfl rfl ha (rfl : List.lookup 112 _ = _) b105 (ltd rfl) (d_move ha rfl) (fun a ha => ?_)
                obtain ⟨v106, w107, e108, h⟩ := bs2 h
                refine s_do_g2 rfl rfl ha (rfl : List.lookup 112 _ = _) b105 (ltd rfl) (d_call (xs := [_, _]) (vs := [(.pointer v1), (Sl.v Sl.nil)]) ha ⟨rfl, rfl, trivial⟩ Try.call26 (sector_Disk_Crash_ok e108)) (fun a ha => ?_)
                refine s_do_g2 rfl rfl ha (rfl : List.lookup 112 _ = _) b105 (ltd rfl) (d_eq ha rfl rfl) (fun a ha => ?_)
                refine s_do rfl ha (ltd rfl) (d_pick_t ha rfl b105 rfl) (fun a ha => ?_)
                refine s_do rfl ha (ltd rfl) (d_move ha rfl) (fun a ha => ?_)
                refine ite_s h (fun b109 h => ?_) (fun b109 h => ?_)
                · refine s_do_g2 rfl rfl ha (rfl : List.lookup 117 _ = _) b109 (ltd rfl) (d_move ha rfl) (fun a ha => ?_)
                  obtain ⟨v110, w111, e112, h⟩ := bs2 h
                  refine s_do_g2 rfl rfl ha (rfl : List.lookup 117 _ = _) b109 (ltd rfl) (d_call (xs := [_]) (vs := [(.pointer v1)]) ha ⟨rfl, trivial⟩ Try.call21 (sector_Disk_Down_ok e112)) (fun a ha => ?_)
                  refine s_do_g2 rfl rfl ha (rfl : List.lookup 117 _ = _) b109 (ltd rfl) (d_not ha rfl) (fun a ha => ?_)
                  refine s_do rfl ha (ltd rfl) (d_pick_t ha rfl b109 rfl) (fun a ha => ?_)
                  refine s_do rfl ha (ltd rfl) (d_move ha rfl) (fun a ha => ?_)
                  refine ite_s h (fun b113 h => ?_) (fun b113 h => ?_)
                  · refine s_do_g2 rfl rfl ha (rfl : List.lookup 122 _ = _) b113 (ltd rfl) (d_move ha rfl) (fun a ha => ?_)
                    obtain ⟨v114, w115, e116, h⟩ := bs2 h
                    refine s_do_g2 rfl rfl ha (rfl : List.lookup 122 _ = _) b113 (ltd rfl) (d_call (xs := [_]) (vs := [(.pointer v1)]) ha ⟨rfl, trivial⟩ Try.call23 (sector_Disk_Sync_ok e116)) (fun a ha => ?_)
                    refine s_do_g2 rfl rfl ha (rfl : List.lookup 122 _ = _) b113 (ltd rfl) (d_eq ha rfl rfl) (fun a ha => ?_)
                    refine s_do rfl ha (ltd rfl) (d_pick_t ha rfl b113 rfl) (fun a ha => ?_)
                    refine s_do rfl ha (ltd rfl) (d_assign ha rfl) (fun a ha => ?_)
                    refine s_nil ?_
                    have hS : Has 127 [(4, (.bool (v114 == 0)))] _ := ha.sub ⟨rfl, trivial⟩
                    cases h
                    exact hk96 _ hS
                  · refine s_no_g rfl rfl ha (rfl : List.lookup 122 _ = _) (nn b113 _ rfl) (ltd rfl) (fun a ha => ?_)
                    refine s_no_g rfl rfl ha (rfl : List.lookup 122 _ = _) (nn b113 _ rfl) (ltd rfl) (fun a ha => ?_)
                    refine s_no_g rfl rfl ha (rfl : List.lookup 122 _ = _) (nn b113 _ rfl) (ltd rfl) (fun a ha => ?_)
                    refine s_do rfl ha (ltd rfl) (d_pick_f ha rfl b113 rfl) (fun a ha => ?_)
                    refine s_do rfl ha (ltd rfl) (d_assign ha rfl) (fun a ha => ?_)
                    refine s_nil ?_
                    have hS : Has 127 [(4, (.bool false))] _ := ha.sub ⟨rfl, trivial⟩
                    cases h
                    exact hk96 _ hS
                · refine s_no_g rfl rfl ha (rfl : List.lookup 117 _ = _) (nn b109 _ rfl) (ltd rfl) (fun a ha => ?_)
                  refine s_no_g rfl rfl ha (rfl : List.lookup 117 _ = _) (nn b109 _ rfl) (ltd rfl) (fun a ha => ?_)
                  refine s_no_g rfl rfl ha (rfl : List.lookup 117 _ = _) (nn b109 _ rfl) (ltd rfl) (fun a ha => ?_)
                  refine s_do rfl ha (ltd rfl) (d_pick_f ha rfl b109 rfl) (fun a ha => ?_)
                  refine s_do rfl ha (ltd rfl) (d_move ha rfl) (fun a ha => ?_)
                  refine s_no_g rfl rfl ha (rfl : List.lookup 122 _ = _) (nn (by decide) _ rfl) (ltd rfl) (fun a ha => ?_)
                  refine s_no_g rfl rfl ha (rfl : List.lookup 122 _ = _) (nn (by decide) _ rfl) (ltd rfl) (fun a ha => ?_)
                  refine s_no_g rfl rfl ha (rfl : List.lookup 122 _ = _) (nn (by decide) _ rfl) (ltd rfl) (fun a ha => ?_)
                  refine s_do rfl ha (ltd rfl) (d_pick_f ha rfl (by decide) rfl) (fun a ha => ?_)
                  refine s_do rfl ha (ltd rfl) (d_assign ha rfl) (fun a ha => ?_)
                  refine s_nil ?_
                  have hS : Has 127 [(4, (.bool false))] _ := ha.sub ⟨rfl, trivial⟩
                  cases h
                  exact hk96 _ hS
              · refine s_no_g rfl rfl ha (rfl : List.lookup 112 _ = _) (nn b105 _ rfl) (ltd rfl) (fun a ha => ?_)
                refine s_no_g rfl rfl ha (rfl : List.lookup 112 _ = _) (nn b105 _ rfl) (ltd rfl) (fun a ha => ?_)
                refine s_no_g rfl rfl ha (rfl : List.lookup 112 _ = _) (nn b105 _ rfl) (ltd rfl) (fun a ha => ?_)
                refine s_do rfl ha (ltd rfl) (d_pick_f ha rfl b105 rfl) (fun a ha => ?_)
                refine s_do rfl ha (ltd rfl) (d_move ha rfl) (fun a ha => ?_)
                refine s_no_g rfl rfl ha (rfl : List.lookup 117 _ = _) (nn (by decide) _ rfl) (ltd rfl) (fun a ha => ?_)
                refine s_no_g rfl rfl ha (rfl : List.lookup 117 _ = _) (nn (by decide) _ rfl) (ltd rfl) (fun a ha => ?_)
                refine s_no_g rfl rfl ha (rfl : List.lookup 117 _ = _) (nn (by decide) _ rfl) (ltd rfl) (fun a ha => ?_)
                refine s_do rfl ha (ltd rfl) (d_pick_f ha rfl (by decide) rfl) (fun a ha => ?_)
                refine s_do rfl ha (ltd rfl) (d_move ha rfl) (fun a ha => ?_)
                refine s_no_g rfl rfl ha (rfl : List.lookup 122 _ = _) (nn (by decide) _ rfl) (ltd rfl) (fun a ha => ?_)
                refine s_no_g rfl rfl ha (rfl : List.lookup 122 _ = _) (nn (by decide) _ rfl) (ltd rfl) (fun a ha => ?_)
                refine s_no_g rfl rfl ha (rfl : List.lookup 122 _ = _) (nn (by decide) _ rfl) (ltd rfl) (fun a ha => ?_)
                refine s_do rfl ha (ltd rfl) (d_pick_f ha rfl (by decide) rfl) (fun a ha => ?_)
                refine s_do rfl ha (ltd rfl) (d_assign ha rfl) (fun a ha => ?_)
                refine s_nil ?_
                have hS : Has 127 [(4, (.bool false))] _ := ha.sub ⟨rfl, trivial⟩
                cases h
                exact hk96 _ hS
            · refine s_no_g rfl rfl ha (rfl : List.lookup 104 _ = _) (nn b104 _ rfl) (ltd rfl) (fun a ha => ?_)
              refine s_no_g rfl rfl ha (rfl : List.lookup 104 _ = _) (nn b104 _ rfl) (ltd rfl) (fun a ha => ?_)
              refine s_no_g rfl rfl ha (rfl : List.lookup 104 _ = _) (nn b104 _ rfl) (ltd rfl) (fun a ha => ?_)
              refine s_no_g rfl rfl ha (rfl : List.lookup 104 _ = _) (nn b104 _ rfl) (ltd rfl) (fun a ha => ?_)
              refine s_do_g2 rfl rfl ha (rfl : List.lookup 99 _ = _) b100 (ltd rfl) (d_pick_f ha rfl b104 rfl) (fun a ha => ?_)
              refine s_do_g2 rfl rfl ha (rfl : List.lookup 99 _ = _) b100 (ltd rfl) (d_eqB ha rfl rfl Try.runUnderlying4) (fun a ha => ?_)
              refine s_do rfl ha (ltd rfl) (d_pick_t ha rfl b100 rfl) (fun a ha => ?_)
              refine s_do rfl ha (ltd rfl) (d_move ha rfl) (fun a ha => ?_)
              refine ite_s h (fun b117 h => ?_) (fun b117 h => ?_)
              · refine s_do_g2 rfl rfl ha (rfl : List.lookup 112 _ = _) b117 (ltd rfl) (d_move ha rfl) (fun a ha => ?_)
                obtain ⟨v118, w119, e120, h⟩ := bs2 h
                refine s_do_g2 rfl rfl ha (rfl : List.lookup 112 _ = _) b117 (ltd rfl) (d_call (xs := [_, _]) (vs := [(.pointer v1), (Sl.v Sl.nil)]) ha ⟨rfl, rfl, trivial⟩ Try.call26 (sector_Disk_Crash_ok e120)) (fun a ha => ?_)
                refine s_do_g2 rfl rfl ha (rfl : List.lookup 112 _ = _) b117 (ltd rfl) (d_eq ha rfl rfl) (fun a ha => ?_)
                refine s_do rfl ha (ltd rfl) (d_pick_t ha rfl b117 rfl) (fun a ha => ?_)
                refine s_do rfl ha (ltd rfl) (d_move ha rfl) (fun a ha => ?_)
                refine ite_s h (fun b121 h => ?_) (fun b121 h => ?_)
                · refine s_do_g2 rfl rfl ha (rfl : List.lookup 117 _ = _) b121 (ltd rfl) (d_move ha rfl) (fun a ha => ?_)
                  obtain ⟨v122, w123, e124, h⟩ := bs2 h
                  refine s_do_g2 rfl rfl ha (rfl : List.lookup 117 _ = _) b121 (ltd rfl) (d_call (xs := [_]) (vs := [(.pointer v1)]) ha ⟨rfl, trivial⟩ Try.call21 (sector_Disk_Down_ok e124)) (fun a ha => ?_)
                  refine s_do_g2 rfl rfl ha (rfl : List.lookup 117 _ = _) b121 (ltd rfl) (d_not ha rfl) (fun a ha => ?_)
                  refine s_do rfl ha (ltd rfl) (d_pick_t ha rfl b121 rfl) (fun a ha => ?_)
                  refine s_do rfl ha (ltd rfl) (d_move ha rfl) (fun a ha => ?_)
                  refine ite_s h (fun b125 h => ?_) (fun b125 h => ?_)
                  · refine s_do_g2 rfl rfl ha (rfl : List.lookup 122 _ = _) b125 (ltd rfl) (d_move ha rfl) (fun a ha => ?_)
                    obtain ⟨v126, w127, e128, h⟩ := bs2 h
                    refine s_do_g2 rfl rfl ha (rfl : List.lookup 122 _ = _) b125 (ltd rfl) (d_call (xs := [_]) (vs := [(.pointer v1)]) ha ⟨rfl, trivial⟩ Try.call23 (sector_Disk_Sync_ok e128)) (fun a ha => ?_)
                    refine s_do_g2 rfl rfl ha (rfl : List.lookup 122 _ = _) b125 (ltd rfl) (d_eq ha rfl rfl) (fun a ha => ?_)
                    refine s_do rfl ha (ltd rfl) (d_pick_t ha rfl b125 rfl) (fun a ha => ?_)
                    refine s_do rfl ha (ltd rfl) (d_assign ha rfl) (fun a ha => ?_)
                    refine s_nil ?_
                    have hS : Has 127 [(4, (.bool (v126 == 0)))] _ := ha.sub ⟨rfl, trivial⟩
                    cases h
                    exact hk96 _ hS
                  · refine s_no_g rfl rfl ha (rfl : List.lookup 122 _ = _) (nn b125 _ rfl) (ltd rfl) (fun a ha => ?_)
                    refine s_no_g rfl rfl ha (rfl : List.lookup 122 _ = _) (nn b125 _ rfl) (ltd rfl) (fun a ha => ?_)
                    refine s_no_g rfl rfl ha (rfl : List.lookup 122 _ = _) (nn b125 _ rfl) (ltd rfl) (fun a ha => ?_)
                    refine s_do rfl ha (ltd rfl) (d_pick_f ha rfl b125 rfl) (fun a ha => ?_)
                    refine s_do rfl ha (ltd rfl) (d_assign ha rfl) (fun a ha => ?_)
                    refine s_nil ?_
                    have hS : Has 127 [(4, (.bool false))] _ := ha.sub ⟨rfl, trivial⟩
                    cases h
                    exact hk96 _ hS
                · refine s_no_g rfl rfl ha (rfl : List.lookup 117 _ = _) (nn b121 _ rfl) (ltd rfl) (fun a ha => ?_)
                  refine s_no_g rfl rfl ha (rfl : List.lookup 117 _ = _) (nn b121 _ rfl) (ltd rfl) (fun a ha => ?_)
                  refine s_no_g rfl rfl ha (rfl : List.lookup 117 _ = _) (nn b121 _ rfl) (ltd rfl) (fun a ha => ?_)
                  refine s_do rfl ha (ltd rfl) (d_pick_f ha rfl b121 rfl) (fun a ha => ?_)
                  refine s_do rfl ha (ltd rfl) (d_move ha rfl) (fun a ha => ?_)
                  refine s_no_g rfl rfl ha (rfl : List.lookup 122 _ = _) (nn (by decide) _ rfl) (ltd rfl) (fun a ha => ?_)
                  refine s_no_g rfl rfl ha (rfl : List.lookup 122 _ = _) (nn (by decide) _ rfl) (ltd rfl) (fun a ha => ?_)
                  refine s_no_g rfl rfl ha (rfl : List.lookup 122 _ = _) (nn (by decide) _ rfl) (ltd rfl) (fun a ha => ?_)
                  refine s_do rfl ha (ltd rfl) (d_pick_f ha rfl (by decide) rfl) (fun a ha => ?_)
                  refine s_do rfl ha (ltd rfl) (d_assign ha rfl) (fun a ha => ?_)
                  refine s_nil ?_
                  have hS : Has 127 [(4, (.bool false))] _ := ha.sub ⟨rfl, trivial⟩
                  cases h
                  exact hk96 _ hS
              · refine s_no_g rfl rfl ha (rfl : List.lookup 112 _ = _) (nn b117 _ rfl) (ltd rfl) (fun a ha => ?_)
                refine s_no_g rfl rfl ha (rfl : List.lookup 112 _ = _) (nn b117 _ rfl) (ltd rfl) (fun a ha => ?_)
                refine s_no_g rfl rfl ha (rfl : List.lookup 112 _ = _) (nn b117 _ rfl) (ltd rfl) (fun a ha => ?_)
                refine s_do rfl ha (ltd rfl) (d_pick_f ha rfl b117 rfl) (fun a ha => ?_)
                refine s_do rfl ha (ltd rfl) (d_move ha rfl) (fun a ha => ?_)
                refine s_no_g rfl rfl ha (rfl : List.lookup 117 _ = _) (nn (by decide) _ rfl) (ltd rfl) (fun a ha => ?_)
                refine s_no_g rfl rfl ha (rfl : List.lookup 117 _ = _) (nn (by decide) _ rfl) (ltd rfl) (fun a ha => ?_)
                refine s_no_g rfl rfl ha (rfl : List.lookup 117 _ = _) (nn (by decide) _ rfl) (ltd rfl) (fun a ha => ?_)
                refine s_do rfl ha (ltd rfl) (d_pick_f ha rfl (by decide) rfl) (fun a ha => ?_)
                refine s_do rfl ha (ltd rfl) (d_move ha rfl) (fun a ha => ?_)
                refine s_no_g rfl rfl ha (rfl : List.lookup 122 _ = _) (nn (by decide) _ rfl) (ltd rfl) (fun a ha => ?_)
                refine s_no_g rfl rfl ha (rfl : List.lookup 122 _ = _) (nn (by decide) _ rfl) (ltd rfl) (fun a ha => ?_)
                refine s_no_g rfl rfl ha (rfl : List.lookup 122 _ = _) (nn (by decide) _ rfl) (ltd rfl) (fun a ha => ?_)
                refine s_do rfl ha (ltd rfl) (d_pick_f ha rfl (by decide) rfl) (fun a ha => ?_)
                refine s_do rfl ha (ltd rfl) (d_assign ha rfl) (fun a ha => ?_)
                refine s_nil ?_
                have hS : Has 127 [(4, (.bool false))] _ := ha.sub ⟨rfl, trivial⟩
                cases h
                exact hk96 _ hS
          · refine s_no_g rfl rfl ha (rfl : List.lookup 99 _ = _) (nn b100 _ rfl) (ltd rfl) (fun a ha => ?_)
            refine s_no_g rfl rfl ha (rfl : List.lookup 99 _ = _) (nn b100 _ rfl) (ltd rfl) (fun a ha => ?_)
            refine s_no_g rfl rfl ha (rfl : List.lookup 99 _ = _) (nn b100 _ rfl) (ltd rfl) (fun a ha => ?_)
            refine s_no_g rfl rfl ha (rfl : List.lookup 99 _ = _) (nn b100 _ rfl) (ltd rfl) (fun a ha => ?_)
            refine s_no_g rfl rfl ha (rfl : List.lookup 99 _ = _) (nn b100 _ rfl) (ltd rfl) (fun a ha => ?_)
            refine s_no_u rfl rfl ha (rfl : List.lookup 104 _ = _) (ltd rfl) (fun a ha => ?_)
            refine s_no_u rfl rfl ha (rfl : List.lookup 104 _ = _) (ltd rfl) (fun a ha => ?_)
            refine s_no_u rfl rfl ha (rfl : List.lookup 104 _ = _) (ltd rfl) (fun a ha => ?_)
            refine s_no_u rfl rfl ha (rfl : List.lookup 104 _ = _) (ltd rfl) (fun a ha => ?_)
            refine s_no_g rfl rfl ha (rfl : List.lookup 99 _ = _) (nn b100 _ rfl) (ltd rfl) (fun a ha => ?_)
            refine s_no_g rfl rfl ha (rfl : List.lookup 99 _ = _) (nn b100 _ rfl) (ltd rfl) (fun a ha => ?_)
            refine s_do rfl ha (ltd rfl) (d_pick_f ha rfl b100 rfl) (fun a ha => ?_)
            refine s_do rfl ha (ltd rfl) (d_move ha rfl) (fun a ha => ?_)
            refine s_no_g rfl rfl ha (rfl : List.lookup 112 _ = _) (nn (by decide) _ rfl) (ltd rfl) (fun a ha => ?_)
            refine s_no_g rfl rfl ha (rfl : List.lookup 112 _ = _) (nn (by decide) _ rfl) (ltd rfl) (fun a ha => ?_)
            refine s_no_g rfl rfl ha (rfl : List.lookup 112 _ = _) (nn (by decide) _ rfl) (ltd rfl) (fun a ha => ?_)
            refine s_do rfl ha (ltd rfl) (d_pick_f ha rfl (by decide) rfl) (fun a ha => ?_)
            refine s_do rfl ha (ltd rfl) (d_move ha rfl) (fun a ha => ?_)
            refine s_no_g rfl rfl ha (rfl : List.lookup 117 _ = _) (nn (by decide) _ rfl) (ltd rfl) (fun a ha => ?_)
            refine s_no_g rfl rfl ha (rfl : List.lookup 117 _ = _) (nn (by decide) _ rfl) (ltd rfl) (fun a ha => ?_)
            refine s_no_g rfl rfl ha (rfl : List.lookup 117 _ = _) (nn (by decide) _ rfl) (ltd rfl) (fun a ha => ?_)
            refine s_do rfl ha (ltd rfl) (d_pick_f ha rfl (by decide) rfl) (fun a ha => ?_)
            refine s_do rfl ha (ltd rfl) (d_move ha rfl) (fun a ha => ?_)
            refine s_no_g rfl rfl ha (rfl : List.lookup 122 _ = _) (nn (by decide) _ rfl) (ltd rfl) (fun a ha => ?_)
            refine s_no_g rfl rfl ha (rfl : List.lookup 122 _ = _) (nn (by decide) _ rfl) (ltd rfl) (fun a ha => ?_)
            refine s_no_g rfl rfl ha (rfl : List.lookup 122 _ = _) (nn (by decide) _ rfl) (ltd rfl) (fun a ha => ?_)
            refine s_do rfl ha (ltd rfl) (d_pick_f ha rfl (by decide) rfl) (fun a ha => ?_)
            refine s_do rfl ha (ltd rfl) (d_assign ha rfl) (fun a ha => ?_)
            refine s_nil ?_
            have hS : Has 127 [(4, (.bool false))] _ := ha.sub ⟨rfl, trivial⟩
            cases h
            exact hk96 _ hS
      · subst hi
        obtain ⟨v22, w23⟩ := i
        dsimp only [Sum.elim_inl, Sum.elim_inr, u1, u2, u3, u4, u5, u6] at h
        have ha : Has 127 [(4, (.bool v22))] a := ha
        refine b_r ?_
        refine t_r ?_
        have hS := ha
        cases h
        exact ret1 Try.results5 hS rfl ⟨rfl, rfl⟩
      · clear h
        rintro ⟨x15, x16, w17⟩ a wq o ⟨ha, hwq⟩ h hr26
        obtain rfl : w17 = wq := hwq.symm
        have ha : Has 127 [(7, (.int .i64 x15)), (8, (.int .i64 x16)), (0, (Sl.v a0)), (1, (.int .u8 a1)), (5, (.pointer v1))] a := ha
        have h : grapevinelaw09_SectorTrips_l1 a0 v1 a1 x15 x16 w17 = some o := h
        unfold grapevinelaw09_SectorTrips_l1 at h
        refine wp_seq ?_
        refine wp_seq ?_
        obtain ⟨v27, w28, e29, h⟩ := bs2 h
        refine reg_join (n := 127) (L := [(35, (.bool v27)), (0, (Sl.v a0)), (1, (.int .u8 a1)), (5, (.pointer v1)), (7, (.int .i64 x15)), (8, (.int .i64 x16))]) (w' := w28) (fun a ha => ?_) (fun hk30 => ?_)
        · refine t_n ?_
          replace ha : Has 127 [(0, (Sl.v a0)), (1, (.int .u8 a1)), (5, (.pointer v1)), (7, (.int .i64 x15)), (8, (.int .i64 x16)), (35, (.bool v27))] _ := ha.sub ⟨rfl, rfl, rfl, rfl, rfl, rfl, trivial⟩
          refine s_cond ha rfl h (fun b32 h => ?_) (fun b32 h => ?_)
          · refine wp_skip ?_
            refine t_n ?_
            replace ha : Has 127 [(0, (Sl.v a0)), (1, (.int .u8 a1)), (5, (.pointer v1)), (7, (.int .i64 x15)), (8, (.int .i64 x16))] _ := ha.sub ⟨rfl, rfl, rfl, rfl, rfl, trivial⟩
            obtain ⟨o37, e35, h36⟩ := bsX h
            clear h
            refine seq_joinF (n := 127) (ι := Int × World) (Lf := fun i => [(7, (.int .i64 i.1)), (0, (Sl.v a0)), (1, (.int .u8 a1)), (5, (.pointer v1)), (8, (.int .i64 x16))]) (wf := fun i => i.2) (C := fun i => o37 = .inr i) (fun i hi a ha => ?_) (fun hk38 => ?_)
            · subst hi
              obtain ⟨v33, w34⟩ := i
              have h := h36
              dsimp only [bindX, u1, u2, u3, u4, u5, u6] at h
              have ha : Has 127 [(7, (.int .i64 v33)), (0, (Sl.v a0)), (1, (.int .u8 a1)), (5, (.pointer v1)), (8, (.int .i64 x16))] a := ha
              refine region_lit ?_
              refine s_do rfl ha (ltd rfl) (d_move ha rfl) (fun a ha => ?_)
              refine s_do rfl ha (ltd rfl) (d_add ha rfl rfl) (fun a ha => ?_)
              refine s_do rfl ha (ltd rfl) (d_assign ha rfl) (fun a ha => ?_)
              refine s_nil ?_
              have hS : Has 127 [(7, (.int .i64 v33)), (8, (.int .i64 (IntKind.wrap .i64 (x16 + 1)))), (0, (Sl.v a0)), (1, (.int .u8 a1)), (5, (.pointer v1))] _ := ha.sub ⟨rfl, rfl, rfl, rfl, rfl, trivial⟩
              cases h
              exact lp_next ⟨hS, rfl⟩
            · have h := e35
              refine wp_block ?_
              refine wp_seq ?_
              refine region_lit ?_
              refine s_do rfl ha (ltd rfl) (d_assign ha rfl) (fun a ha => ?_)
              refine s_nil ?_
              refine t_n ?_
              replace ha : Has 127 [(0, (Sl.v a0)), (1, (.int .u8 a1)), (5, (.pointer v1)), (7, (.int .i64 x15)), (8, (.int .i64 x16)), (9, (.int .i64 0))] _ := ha.sub ⟨rfl, rfl, rfl, rfl, rfl, rfl, trivial⟩
              refine wp_seq ?_
              refine region_lit ?_
              refine s_do rfl ha (ltd rfl) (d_assign ha rfl) (fun a ha => ?_)
              refine s_nil ?_
              refine t_n ?_
              replace ha : Has 127 [(0, (Sl.v a0)), (1, (.int .u8 a1)), (5, (.pointer v1)), (7, (.int .i64 x15)), (8, (.int .i64 x16)), (9, (.int .i64 0)), (10, (.bool true))] _ := ha.sub ⟨rfl, rfl, rfl, rfl, rfl, rfl, rfl, trivial⟩
              obtain ⟨v40, v41, w42, e43, h⟩ := bs3 h
              refine seq_join (n := 127) (L := [(9, (.int .i64 v40)), (10, (.bool v41)), (0, (Sl.v a0)), (1, (.int .u8 a1)), (5, (.pointer v1)), (7, (.int .i64 x15)), (8, (.int .i64 x16))]) (w' := w42) (fun a ha => ?_) (fun hk44 => ?_)
              · refine wp_seq ?_
                refine region_lit ?_
                refine s_do rfl ha (ltd rfl) (d_move ha rfl) (fun a ha => ?_)
                refine s_nil ?_
                refine t_n ?_
                replace ha : Has 127 [(0, (Sl.v a0)), (1, (.int .u8 a1)), (5, (.pointer v1)), (7, (.int .i64 x15)), (8, (.int .i64 x16)), (9, (.int .i64 v40)), (84, (.bool v41))] _ := ha.sub ⟨rfl, rfl, rfl, rfl, rfl, rfl, rfl, trivial⟩
                refine s_cond ha rfl h (fun b85 h => ?_) (fun b85 h => ?_)
                · refine wp_seq ?_
                  refine region_lit ?_
                  refine s_do rfl ha (ltd rfl) (d_move ha rfl) (fun a ha => ?_)
                  refine s_do rfl ha (ltd rfl) (d_add ha rfl rfl) (fun a ha => ?_)
                  refine s_do rfl ha (ltd rfl) (d_assign ha rfl) (fun a ha => ?_)
                  refine s_nil ?_
                  refine t_n ?_
                  replace ha : Has 127 [(0, (Sl.v a0)), (1, (.int .u8 a1)), (5, (.pointer v1)), (7, (.int .i64 (IntKind.wrap .i64 (x15 + 1)))), (8, (.int .i64 x16)), (9, (.int .i64 v40))] _ := ha.sub ⟨rfl, rfl, rfl, rfl, rfl, rfl, trivial⟩
                  refine wp_seq ?_
                  obtain ⟨v86, w87, e88, h⟩ := bs2 h
                  refine reg_join (n := 127) (L := [(97, (.bool v86)), (0, (Sl.v a0)), (1, (.int .u8 a1)), (5, (.pointer v1)), (7, (.int .i64 (IntKind.wrap .i64 (x15 + 1)))), (8, (.int .i64 x16))]) (w' := w87) (fun a ha => ?_) (fun hk89 => ?_)
                  · refine t_n ?_
                    replace ha : Has 127 [(0, (Sl.v a0)), (1, (.int .u8 a1)), (5, (.pointer v1)), (7, (.int .i64 (IntKind.wrap .i64 (x15 + 1)))), (8, (.int .i64 x16)), (97, (.bool v86))] _ := ha.sub ⟨rfl, rfl, rfl, rfl, rfl, rfl, trivial⟩
                    refine s_cond ha rfl h (fun b91 h => ?_) (fun b91 h => ?_)
                    · refine wp_seq ?_
                      refine region_lit ?_
                      refine s_do rfl ha (ltd rfl) (d_assign ha rfl) (fun a ha => ?_)
                      refine s_nil ?_
                      refine t_n ?_
                      replace ha : Has 127 [(4, (.bool false))] _ := ha.sub ⟨rfl, trivial⟩
                      refine wp_ret ?_
                      refine b_r ?_
                      have hS := ha
                      obtain ⟨g39, e92, h⟩ := bs1 h
                      cases h
                      cases h36
                      have h := e92
                      have ha := hS
                      refine t_r ?_
                      have hS : Has 127 [(4, (.bool false))] _ := ha.sub ⟨rfl, trivial⟩
                      cases h
                      cases hr26 _ rfl
                      refine lp_r ?_
                      exact hk25 _ rfl _ hS
                    · refine wp_skip ?_
                      refine b_n ?_
                      have hS : Has 127 [(7, (.int .i64 (IntKind.wrap .i64 (x15 + 1)))), (0, (Sl.v a0)), (1, (.int .u8 a1)), (5, (.pointer v1)), (8, (.int .i64 x16))] _ := ha.sub ⟨rfl, rfl, rfl, rfl, rfl, trivial⟩
                      cases h
                      exact hk38 _ rfl _ hS
                  · clear h
                    have h := e88
                    refine region_lit ?_
                    refine s_do rfl ha (ltd rfl) (d_move ha rfl) (fun a ha => ?_)
                    refine s_do rfl ha (ltd rfl) (d_eq ha rfl rfl) (fun a ha => ?_)
                    refine s_do rfl ha (ltd rfl) (d_move ha rfl) (fun a ha => ?_)
                    refine s_do rfl ha (ltd rfl) (d_gt ha rfl rfl) (fun a ha => ?_)
                    refine s_do rfl ha (ltd rfl) (d_move ha rfl) (fun a ha => ?_)
                    refine ite_s h (fun b90 h => ?_) (fun b90 h => ?_)
                    · refine s_do_g2 rfl rfl ha (rfl : List.lookup 91 _ = _) b90 (ltd rfl) (d_move ha rfl) (fun a ha => ?_)
                      refine s_do_g2 rfl rfl ha (rfl : List.lookup 91 _ = _) b90 (ltd rfl) (d_move ha rfl) (fun a ha => ?_)
                      refine s_do_g2 rfl rfl ha (rfl : List.lookup 91 _ = _) b90 (ltd rfl) (d_conv ha rfl Try.runUnderlying5 Try.runUnderlying3) (fun a ha => ?_)
                      refine s_do_g2 rfl rfl ha (rfl : List.lookup 91 _ = _) b90 (ltd rfl) (d_ge ha rfl rfl) (fun a ha => ?_)
                      refine s_do rfl ha (ltd rfl) (d_pick_t ha rfl b90 rfl) (fun a ha => ?_)
                      refine s_do rfl ha (ltd rfl) (d_neB ha rfl rfl Try.runUnderlying4) (fun a ha => ?_)
                      refine s_nil ?_
                      have hS : Has 127 [(97, (.bool ((v40 == 10) != (decide ((IntKind.wrap .i64 a1) ≤ (IntKind.wrap .i64 (x15 + 1))))))), (0, (Sl.v a0)), (1, (.int .u8 a1)), (5, (.pointer v1)), (7, (.int .i64 (IntKind.wrap .i64 (x15 + 1)))), (8, (.int .i64 x16))] _ := ha.sub ⟨rfl, rfl, rfl, rfl, rfl, rfl, trivial⟩
                      cases h
                      exact hk89 _ hS
                    · refine s_no_g rfl rfl ha (rfl : List.lookup 91 _ = _) (nn b90 _ rfl) (ltd rfl) (fun a ha => ?_)
                      refine s_no_g rfl rfl ha (rfl : List.lookup 91 _ = _) (nn b90 _ rfl) (ltd rfl) (fun a ha => ?_)
                      refine s_no_g rfl rfl ha (rfl : List.lookup 91 _ = _) (nn b90 _ rfl) (ltd rfl) (fun a ha => ?_)
                      refine s_no_g rfl rfl ha (rfl : List.lookup 91 _ = _) (nn b90 _ rfl) (ltd rfl) (fun a ha => ?_)
                      refine s_do rfl ha (ltd rfl) (d_pick_f ha rfl b90 rfl) (fun a ha => ?_)
                      refine s_do rfl ha (ltd rfl) (d_neB ha rfl rfl Try.runUnderlying4) (fun a ha => ?_)
                      refine s_nil ?_
                      have hS : Has 127 [(97, (.bool ((v40 == 10) != false))), (0, (Sl.v a0)), (1, (.int .u8 a1)), (5, (.pointer v1)), (7, (.int .i64 (IntKind.wrap .i64 (x15 + 1)))), (8, (.int .i64 x16))] _ := ha.sub ⟨rfl, rfl, rfl, rfl, rfl, rfl, trivial⟩
                      cases h
                      exact hk89 _ hS
                · refine wp_skip ?_
                  refine b_n ?_
                  have hS : Has 127 [(7, (.int .i64 x15)), (0, (Sl.v a0)), (1, (.int .u8 a1)), (5, (.pointer v1)), (8, (.int .i64 x16))] _ := ha.sub ⟨rfl, rfl, rfl, rfl, rfl, trivial⟩
                  cases h
                  exact hk38 _ rfl _ hS
              · clear h
                have h := e43
                refine wp_seq ?_
                refine region_lit ?_
                refine s_do rfl ha (ltd rfl) (d_move ha rfl) (fun a ha => ?_)
                refine s_do rfl ha (ltd rfl) (d_move ha rfl) (fun a ha => ?_)
                obtain ⟨p45, e46, h⟩ := bs1 h
                refine s_do rfl ha (ltd rfl) (d_ix ha rfl rfl Try.runUnderlying37 Try.sizeOf40 e46) (fun a ha => ?_)
                refine s_do rfl ha (ltd rfl) (d_fa ha rfl Try.runUnderlying40 rfl rfl Try.sizeOf3 (by decide)) (fun a ha => ?_)
                obtain ⟨v47, e48, h⟩ := bs1 h
                refine s_do rfl ha (ltd rfl) (d_ld ha rfl Try.isAgg3 (ldI_c e48)) (fun a ha => ?_)
                refine s_nil ?_
                refine t_n ?_
                replace ha : Has 127 [(0, (Sl.v a0)), (1, (.int .u8 a1)), (5, (.pointer v1)), (7, (.int .i64 x15)), (8, (.int .i64 x16)), (9, (.int .i64 0)), (10, (.bool true)), (42, (.int .i64 v47))] _ := ha.sub ⟨rfl, rfl, rfl, rfl, rfl, rfl, rfl, rfl, trivial⟩
                refine wp_block ?_
                refine wp_seq ?_
                refine region_lit ?_
                refine s_do rfl ha (ltd rfl) (d_eq ha rfl rfl) (fun a ha => ?_)
                refine s_do rfl ha (ltd rfl) (d_assign ha rfl) (fun a ha => ?_)
                refine s_nil ?_
                refine t_n ?_
                replace ha : Has 127 [(0, (Sl.v a0)), (1, (.int .u8 a1)), (5, (.pointer v1)), (7, (.int .i64 x15)), (8, (.int .i64 x16)), (9, (.int .i64 0)), (10, (.bool true)), (42, (.int .i64 v47)), (43, (.bool (v47 == 0)))] _ := ha.sub ⟨rfl, rfl, rfl, rfl, rfl, rfl, rfl, rfl, rfl, trivial⟩
                refine s_cond ha rfl h (fun b49 h => ?_) (fun b49 h => ?_)
                · refine wp_seq ?_
                  obtain ⟨v50, w51, e52, h⟩ := bs2 h
                  refine reg_join (n := 127) (L := [(10, (.bool v50)), (0, (Sl.v a0)), (1, (.int .u8 a1)), (5, (.pointer v1)), (7, (.int .i64 x15)), (8, (.int .i64 x16))]) (w' := w51) (fun a ha => ?_) (fun hk53 => ?_)
                  · refine t_n ?_
                    replace ha : Has 127 [(0, (Sl.v a0)), (1, (.int .u8 a1)), (5, (.pointer v1)), (7, (.int .i64 x15)), (8, (.int .i64 x16)), (10, (.bool v50))] _ := ha.sub ⟨rfl, rfl, rfl, rfl, rfl, rfl, trivial⟩
                    obtain ⟨w68, e69, h⟩ := bs1 h
                    obtain ⟨p70, e71, h⟩ := bs1 h
                    obtain ⟨v72, e73, h⟩ := bs1 h
                    obtain ⟨p74, e75, h⟩ := bs1 h
                    obtain ⟨v76, e77, h⟩ := bs1 h
                    obtain ⟨v78, w79, e80, h⟩ := bs2 h
                    have ha : Has 127 [(0, (Sl.v a0)), (1, (.int .u8 a1)), (5, (.pointer v1)), (7, (.int .i64 x15)), (8, (.int .i64 x16)), (10, (.bool v50))] a := ha.sub ⟨rfl, rfl, rfl, rfl, rfl, rfl, trivial⟩
                    refine region_draw (n := 127) (ds := (⟨_, (.pointer v1), false, 0, 0, [], [(5, (.pointer v1))]⟩ :: ⟨_, (Sl.v a0), false, 0, 0, [], [(0, (Sl.v a0))]⟩ :: ⟨_, (.int .i64 x16), false, 0, 0, [], [(8, (.int .i64 x16))]⟩ :: ⟨_, (.pointer (some p70)), false, 0, 0, [1, 2], [(69, (Sl.v a0)), (70, (.int .i64 x16))]⟩ :: ⟨_, (.pointer (some (p70.add 1))), false, 0, 0, [1, 2, 3], [(71, (.pointer (some p70)))]⟩ :: ⟨_, (.int .i64 v72), false, 0, 0, [1, 2, 3, 4], [(72, (.pointer (some (p70.add 1))))]⟩ :: ⟨_, (Sl.v a0), false, 0, 0, [], [(0, (Sl.v a0))]⟩ :: ⟨_, (.int .i64 x16), false, 0, 0, [], [(8, (.int .i64 x16))]⟩ :: ⟨_, (.pointer (some p74)), false, 0, 0, [6, 7], [(74, (Sl.v a0)), (75, (.int .i64 x16))]⟩ :: ⟨_, (.pointer (some (p74.add 2))), false, 0, 0, [6, 7, 8], [(76, (.pointer (some p74)))]⟩ :: ⟨_, (Sl.v v76), false, 0, 0, [6, 7, 8, 9], [(77, (.pointer (some (p74.add 2))))]⟩ :: ⟨_, (.int .i64 v78), true, 0, 0, [0, 1, 2, 3, 4, 5, 6, 7, 8, 9, 10], [(68, (.pointer v1)), (73, (.int .i64 v72)), (78, (Sl.v v76))]⟩ :: ⟨_, (.int .i64 v78), false, 1, 1, [0, 1, 2, 3, 4, 5, 6, 7, 8, 9, 10, 11], [(79, (.int .i64 v78))]⟩ :: [])) (W := (fun j => match j with | 0 => w68 | _ => w79)) (by kernel_rfl) ha (dr_w e69) (by kernel_rfl) ?_ (reads_of (by kernel_rfl)) (by kernel_rfl) (m := 1) (by kernel_rfl) (fun a ha => ?_)
                    · refine ⟨?_, ?_, ?_, ?_, ?_, ?_, ?_, ?_, ?_, ?_, ?_, ?_, ?_, trivial⟩
                      · intro j _ _; exact ok_do rfl fun a ha => d_move ha rfl
                      · intro j _ _; exact ok_do rfl fun a ha => d_move ha rfl
                      · intro j _ _; exact ok_do rfl fun a ha => d_move ha rfl
                      · intro j _ _; exact ok_do rfl fun a ha => d_ix ha rfl rfl Try.runUnderlying37 Try.sizeOf40 e71
                      · intro j _ _; exact ok_do rfl fun a ha => d_fa ha rfl Try.runUnderlying40 rfl rfl Try.sizeOf3 (by decide)
                      · intro j h1 h2; obtain rfl : j = 0 := Nat.le_antisymm h2 h1; exact ok_do rfl fun a ha => d_ld ha rfl Try.isAgg3 (ldI_c e73)
                      · intro j _ _; exact ok_do rfl fun a ha => d_move ha rfl
                      · intro j _ _; exact ok_do rfl fun a ha => d_move ha rfl
                      · intro j _ _; exact ok_do rfl fun a ha => d_ix ha rfl rfl Try.runUnderlying37 Try.sizeOf40 e75
                      · intro j _ _; exact ok_do rfl fun a ha => d_fa ha rfl Try.runUnderlying40 rfl rfl Try.sizeOf29 (by decide)
                      · intro j h1 h2; obtain rfl : j = 0 := Nat.le_antisymm h2 h1; exact ok_do rfl fun a ha => d_ld ha rfl Try.isAgg29 (ldL_c e77)
                      · intro j h1 h2; obtain rfl : j = 0 := Nat.le_antisymm h2 h1; exact ok_do rfl fun a ha => d_call (xs := [_, _, _]) (vs := [(.pointer v1), (.int .i64 v72), (Sl.v v76)]) ha ⟨rfl, rfl, rfl, trivial⟩ Try.call22 (sector_Disk_Write_ok e80)
                      · intro j _ _; exact ok_do rfl fun a ha => d_assign ha rfl
                    · have ha : Has 127 [(0, (Sl.v a0)), (1, (.int .u8 a1)), (5, (.pointer v1)), (7, (.int .i64 x15)), (8, (.int .i64 x16)), (9, (.int .i64 v78)), (10, (.bool v50))] a := ha.sub ⟨rfl, rfl, rfl, rfl, rfl, rfl, rfl, trivial⟩
                      refine b_n ?_
                      have hS : Has 127 [(9, (.int .i64 v78)), (10, (.bool v50)), (0, (Sl.v a0)), (1, (.int .u8 a1)), (5, (.pointer v1)), (7, (.int .i64 x15)), (8, (.int .i64 x16))] _ := ha.sub ⟨rfl, rfl, rfl, rfl, rfl, rfl, rfl, trivial⟩
                      cases h
                      exact hk44 _ hS
                  · clear h
                    have h := e52
                    refine region_lit ?_
                    refine s_do rfl ha (ltd rfl) (d_move ha rfl) (fun a ha => ?_)
                    refine s_do rfl ha (ltd rfl) (d_move ha rfl) (fun a ha => ?_)
                    obtain ⟨p54, e55, h⟩ := bs1 h
                    refine s_do rfl ha (ltd rfl) (d_ix ha rfl rfl Try.runUnderlying37 Try.sizeOf40 e55) (fun a ha => ?_)
                    refine s_do rfl ha (ltd rfl) (d_fa ha rfl Try.runUnderlying40 rfl rfl Try.sizeOf3 (by decide)) (fun a ha => ?_)
                    obtain ⟨v56, e57, h⟩ := bs1 h
                    refine s_do rfl ha (ltd rfl) (d_ld ha rfl Try.isAgg3 (ldI_c e57)) (fun a ha => ?_)
                    refine s_do rfl ha (ltd rfl) (d_ge ha rfl rfl) (fun a ha => ?_)
                    refine s_do rfl ha (ltd rfl) (d_move ha rfl) (fun a ha => ?_)
                    refine ite_s h (fun b58 h => ?_) (fun b58 h => ?_)
                    · refine s_do_g2 rfl rfl ha (rfl : List.lookup 51 _ = _) b58 (ltd rfl) (d_move ha rfl) (fun a ha => ?_)
                      refine s_do_g2 rfl rfl ha (rfl : List.lookup 51 _ = _) b58 (ltd rfl) (d_move ha rfl) (fun a ha => ?_)
                      obtain ⟨p59, e60, h⟩ := bs1 h
                      refine s_do_g2 rfl rfl ha (rfl : List.lookup 51 _ = _) b58 (ltd rfl) (d_ix ha rfl rfl Try.runUnderlying37 Try.sizeOf40 e60) (fun a ha => ?_)
                      refine s_do_g2 rfl rfl ha (rfl : List.lookup 51 _ = _) b58 (ltd rfl) (d_fa ha rfl Try.runUnderlying40 rfl rfl Try.sizeOf3 (by decide)) (fun a ha => ?_)
                      obtain ⟨v61, e62, h⟩ := bs1 h
                      refine s_do_g2 rfl rfl ha (rfl : List.lookup 51 _ = _) b58 (ltd rfl) (d_ld ha rfl Try.isAgg3 (ldI_c e62)) (fun a ha => ?_)
                      refine s_do_g2 rfl rfl ha (rfl : List.lookup 51 _ = _) b58 (ltd rfl) (d_lt ha rfl rfl) (fun a ha => ?_)
                      refine s_do rfl ha (ltd rfl) (d_pick_t ha rfl b58 rfl) (fun a ha => ?_)
                      refine s_do rfl ha (ltd rfl) (d_move ha rfl) (fun a ha => ?_)
                      refine ite_s h (fun b63 h => ?_) (fun b63 h => ?_)
                      · refine s_do_g2 rfl rfl ha (rfl : List.lookup 59 _ = _) b63 (ltd rfl) (d_move ha rfl) (fun a ha => ?_)
                        refine s_do_g2 rfl rfl ha (rfl : List.lookup 59 _ = _) b63 (ltd rfl) (d_move ha rfl) (fun a ha => ?_)
                        obtain ⟨p64, e65, h⟩ := bs1 h
                        refine s_do_g2 rfl rfl ha (rfl : List.lookup 59 _ = _) b63 (ltd rfl) (d_ix ha rfl rfl Try.runUnderlying37 Try.sizeOf40 e65) (fun a ha => ?_)
                        refine s_do_g2 rfl rfl ha (rfl : List.lookup 59 _ = _) b63 (ltd rfl) (d_fa ha rfl Try.runUnderlying40 rfl rfl Try.sizeOf29 (by decide)) (fun a ha => ?_)
                        obtain ⟨v66, e67, h⟩ := bs1 h
                        refine s_do_g2 rfl rfl ha (rfl : List.lookup 59 _ = _) b63 (ltd rfl) (d_ld ha rfl Try.isAgg29 (ldL_c e67)) (fun a ha => ?_)
                        refine s_do_g2 rfl rfl ha (rfl : List.lookup 59 _ = _) b63 (ltd rfl) (d_lenS ha rfl Try.runUnderlying29) (fun a ha => ?_)
                        refine s_do_g2 rfl rfl ha (rfl : List.lookup 59 _ = _) b63 (ltd rfl) (d_le ha rfl rfl) (fun a ha => ?_)
                        refine s_do rfl ha (ltd rfl) (d_pick_t ha rfl b63 rfl) (fun a ha => ?_)
                        refine s_do rfl ha (ltd rfl) (d_assign ha rfl) (fun a ha => ?_)
                        refine s_nil ?_
                        have hS : Has 127 [(10, (.bool (decide ((v66.n : Int) ≤ 64)))), (0, (Sl.v a0)), (1, (.int .u8 a1)), (5, (.pointer v1)), (7, (.int .i64 x15)), (8, (.int .i64 x16))] _ := ha.sub ⟨rfl, rfl, rfl, rfl, rfl, rfl, trivial⟩
                        cases h
                        exact hk53 _ hS
                      · refine s_no_g rfl rfl ha (rfl : List.lookup 59 _ = _) (nn b63 _ rfl) (ltd rfl) (fun a ha => ?_)
                        refine s_no_g rfl rfl ha (rfl : List.lookup 59 _ = _) (nn b63 _ rfl) (ltd rfl) (fun a ha => ?_)
                        refine s_no_g rfl rfl ha (rfl : List.lookup 59 _ = _) (nn b63 _ rfl) (ltd rfl) (fun a ha => ?_)
                        refine s_no_g rfl rfl ha (rfl : List.lookup 59 _ = _) (nn b63 _ rfl) (ltd rfl) (fun a ha => ?_)
                        refine s_no_g rfl rfl ha (rfl : List.lookup 59 _ = _) (nn b63 _ rfl) (ltd rfl) (fun a ha => ?_)
                        refine s_no_g rfl rfl ha (rfl : List.lookup 59 _ = _) (nn b63 _ rfl) (ltd rfl) (fun a ha => ?_)
                        refine s_no_g rfl rfl ha (rfl : List.lookup 59 _ = _) (nn b63 _ rfl) (ltd rfl) (fun a ha => ?_)
                        refine s_do rfl ha (ltd rfl) (d_pick_f ha rfl b63 rfl) (fun a ha => ?_)
                        refine s_do rfl ha (ltd rfl) (d_assign ha rfl) (fun a ha => ?_)
                        refine s_nil ?_
                        have hS : Has 127 [(10, (.bool false)), (0, (Sl.v a0)), (1, (.int .u8 a1)), (5, (.pointer v1)), (7, (.int .i64 x15)), (8, (.int .i64 x16))] _ := ha.sub ⟨rfl, rfl, rfl, rfl, rfl, rfl, trivial⟩
                        cases h
                        exact hk53 _ hS
                    · refine s_no_g rfl rfl ha (rfl : List.lookup 51 _ = _) (nn b58 _ rfl) (ltd rfl) (fun a ha => ?_)
                      refine s_no_g rfl rfl ha (rfl : List.lookup 51 _ = _) (nn b58 _ rfl) (ltd rfl) (fun a ha => ?_)
                      refine s_no_g rfl rfl ha (rfl : List.lookup 51 _ = _) (nn b58 _ rfl) (ltd rfl) (fun a ha => ?_)
                      refine s_no_g rfl rfl ha (rfl : List.lookup 51 _ = _) (nn b58 _ rfl) (ltd rfl) (fun a ha => ?_)
                      refine s_no_g rfl rfl ha (rfl : List.lookup 51 _ = _) (nn b58 _ rfl) (ltd rfl) (fun a ha => ?_)
                      refine s_no_g rfl rfl ha (rfl : List.lookup 51 _ = _) (nn b58 _ rfl) (ltd rfl) (fun a ha => ?_)
                      refine s_do rfl ha (ltd rfl) (d_pick_f ha rfl b58 rfl) (fun a ha => ?_)
                      refine s_do rfl ha (ltd rfl) (d_move ha rfl) (fun a ha => ?_)
                      refine s_no_g rfl rfl ha (rfl : List.lookup 59 _ = _) (nn (by decide) _ rfl) (ltd rfl) (fun a ha => ?_)
                      refine s_no_g rfl rfl ha (rfl : List.lookup 59 _ = _) (nn (by decide) _ rfl) (ltd rfl) (fun a ha => ?_)
                      refine s_no_g rfl rfl ha (rfl : List.lookup 59 _ = _) (nn (by decide) _ rfl) (ltd rfl) (fun a ha => ?_)
                      refine s_no_g rfl rfl ha (rfl : List.lookup 59 _ = _) (nn (by decide) _ rfl) (ltd rfl) (fun a ha => ?_)
                      refine s_no_g rfl rfl ha (rfl : List.lookup 59 _ = _) (nn (by decide) _ rfl) (ltd rfl) (fun a ha => ?_)
                      refine s_no_g rfl rfl ha (rfl : List.lookup 59 _ = _) (nn (by decide) _ rfl) (ltd rfl) (fun a ha => ?_)
                      refine s_no_g rfl rfl ha (rfl : List.lookup 59 _ = _) (nn (by decide) _ rfl) (ltd rfl) (fun a ha => ?_)
                      refine s_do rfl ha (ltd rfl) (d_pick_f ha rfl (by decide) rfl) (fun a ha => ?_)
                      refine s_do rfl ha (ltd rfl) (d_assign ha rfl) (fun a ha => ?_)
                      refine s_nil ?_
                      have hS : Has 127 [(10, (.bool false)), (0, (Sl.v a0)), (1, (.int .u8 a1)), (5, (.pointer v1)), (7, (.int .i64 x15)), (8, (.int .i64 x16))] _ := ha.sub ⟨rfl, rfl, rfl, rfl, rfl, rfl, trivial⟩
                      cases h
                      exact hk53 _ hS
                · refine wp_seq ?_
                  refine region_lit ?_
                  refine s_do rfl ha (ltd rfl) (d_eq ha rfl rfl) (fun a ha => ?_)
                  refine s_do rfl ha (ltd rfl) (d_assign ha rfl) (fun a ha => ?_)
                  refine s_nil ?_
                  refine t_n ?_
                  replace ha : Has 127 [(0, (Sl.v a0)), (1, (.int .u8 a1)), (5, (.pointer v1)), (7, (.int .i64 x15)), (8, (.int .i64 x16)), (9, (.int .i64 0)), (10, (.bool true)), (80, (.bool (v47 == 2)))] _ := ha.sub ⟨rfl, rfl, rfl, rfl, rfl, rfl, rfl, rfl, trivial⟩
                  refine s_cond ha rfl h (fun b81 h => ?_) (fun b81 h => ?_)
                  · refine region_lit ?_
                    refine s_do rfl ha (ltd rfl) (d_move ha rfl) (fun a ha => ?_)
                    obtain ⟨v82, w83, e84, h⟩ := bs2 h
                    refine s_do rfl ha (ltd rfl) (d_call (xs := [_]) (vs := [(.pointer v1)]) ha ⟨rfl, trivial⟩ Try.call23 (sector_Disk_Sync_ok e84)) (fun a ha => ?_)
                    refine s_do rfl ha (ltd rfl) (d_assign ha rfl) (fun a ha => ?_)
                    refine s_nil ?_
                    refine b_n ?_
                    have hS : Has 127 [(9, (.int .i64 v82)), (10, (.bool true)), (0, (Sl.v a0)), (1, (.int .u8 a1)), (5, (.pointer v1)), (7, (.int .i64 x15)), (8, (.int .i64 x16))] _ := ha.sub ⟨rfl, rfl, rfl, rfl, rfl, rfl, rfl, trivial⟩
                    cases h
                    exact hk44 _ hS
                  · refine region_lit ?_
                    refine s_do rfl ha (ltd rfl) (d_assign ha rfl) (fun a ha => ?_)
                    refine s_nil ?_
                    refine b_n ?_
                    have hS : Has 127 [(9, (.int .i64 0)), (10, (.bool false)), (0, (Sl.v a0)), (1, (.int .u8 a1)), (5, (.pointer v1)), (7, (.int .i64 x15)), (8, (.int .i64 x16))] _ := ha.sub ⟨rfl, rfl, rfl, rfl, rfl, rfl, rfl, trivial⟩
                    cases h
                    exact hk44 _ hS
          · refine wp_exit ?_
            refine t_x ?_
            have hS : Has 127 [(7, (.int .i64 x15)), (1, (.int .u8 a1)), (5, (.pointer v1))] _ := ha.sub ⟨rfl, rfl, rfl, trivial⟩
            cases h
            cases hr26 _ rfl
            refine lp_x ?_
            exact hk24 _ rfl _ hS
        · clear h
          have h := e29
          refine region_lit ?_
          refine s_do rfl ha (ltd rfl) (d_move ha rfl) (fun a ha => ?_)
          refine s_do rfl ha (ltd rfl) (d_move ha rfl) (fun a ha => ?_)
          refine s_do rfl ha (ltd rfl) (d_lenS ha rfl Try.runUnderlying37) (fun a ha => ?_)
          refine s_do rfl ha (ltd rfl) (d_lt ha rfl rfl) (fun a ha => ?_)
          refine s_do rfl ha (ltd rfl) (d_move ha rfl) (fun a ha => ?_)
          refine ite_s h (fun b31 h => ?_) (fun b31 h => ?_)
          · refine s_do_g2 rfl rfl ha (rfl : List.lookup 32 _ = _) b31 (ltd rfl) (d_move ha rfl) (fun a ha => ?_)
            refine s_do_g2 rfl rfl ha (rfl : List.lookup 32 _ = _) b31 (ltd rfl) (d_lt ha rfl rfl) (fun a ha => ?_)
            refine s_do rfl ha (ltd rfl) (d_pick_t ha rfl b31 rfl) (fun a ha => ?_)
            refine s_nil ?_
            have hS : Has 127 [(35, (.bool (decide (x16 < 200)))), (0, (Sl.v a0)), (1, (.int .u8 a1)), (5, (.pointer v1)), (7, (.int .i64 x15)), (8, (.int .i64 x16))] _ := ha.sub ⟨rfl, rfl, rfl, rfl, rfl, rfl, trivial⟩
            cases h
            exact hk30 _ hS
          · refine s_no_g rfl rfl ha (rfl : List.lookup 32 _ = _) (nn b31 _ rfl) (ltd rfl) (fun a ha => ?_)
            refine s_no_g rfl rfl ha (rfl : List.lookup 32 _ = _) (nn b31 _ rfl) (ltd rfl) (fun a ha => ?_)
            refine s_do rfl ha (ltd rfl) (d_pick_f ha rfl b31 rfl) (fun a ha => ?_)
            refine s_nil ?_
            have hS : Has 127 [(35, (.bool false)), (0, (Sl.v a0)), (1, (.int .u8 a1)), (5, (.pointer v1)), (7, (.int .i64 x15)), (8, (.int .i64 x16))] _ := ha.sub ⟨rfl, rfl, rfl, rfl, rfl, rfl, trivial⟩
            cases h
            exact hk30 _ hS
  · clear h
    have h := e7
    refine region_lit ?_
    refine s_do rfl ha (ltd rfl) (d_move ha rfl) (fun a ha => ?_)
    refine s_do rfl ha (ltd rfl) (d_ne ha rfl rfl) (fun a ha => ?_)
    refine s_do rfl ha (ltd rfl) (d_move ha rfl) (fun a ha => ?_)
    refine ite_s h (fun b9 h => ?_) (fun b9 h => ?_)
    · refine s_no_g rfl rfl ha (rfl : List.lookup 17 _ = _) (tn b9) (ltd rfl) (fun a ha => ?_)
      refine s_no_g rfl rfl ha (rfl : List.lookup 17 _ = _) (tn b9) (ltd rfl) (fun a ha => ?_)
      refine s_do rfl ha (ltd rfl) (d_pick_t ha rfl b9 rfl) (fun a ha => ?_)
      refine s_do rfl ha (ltd rfl) (d_move ha rfl) (fun a ha => ?_)
      refine s_no_g rfl rfl ha (rfl : List.lookup 21 _ = _) (tn rfl) (ltd rfl) (fun a ha => ?_)
      refine s_no_g rfl rfl ha (rfl : List.lookup 21 _ = _) (tn rfl) (ltd rfl) (fun a ha => ?_)
      refine s_no_g rfl rfl ha (rfl : List.lookup 21 _ = _) (tn rfl) (ltd rfl) (fun a ha => ?_)
      refine s_no_g rfl rfl ha (rfl : List.lookup 21 _ = _) (tn rfl) (ltd rfl) (fun a ha => ?_)
      refine s_no_g rfl rfl ha (rfl : List.lookup 21 _ = _) (tn rfl) (ltd rfl) (fun a ha => ?_)
      refine s_do rfl ha (ltd rfl) (d_pick_t ha rfl rfl rfl) (fun a ha => ?_)
      refine s_nil ?_
      have hS : Has 127 [(27, (.bool true)), (0, (Sl.v a0)), (1, (.int .u8 a1)), (5, (.pointer v1))] _ := ha.sub ⟨rfl, rfl, rfl, rfl, trivial⟩
      cases h
      exact hk8 _ hS
    · refine s_do_g2 rfl rfl ha (rfl : List.lookup 17 _ = _) (nt b9) (ltd rfl) (d_move ha rfl) (fun a ha => ?_)
      refine s_do_g2 rfl rfl ha (rfl : List.lookup 17 _ = _) (nt b9) (ltd rfl) (d_eqN ha rfl rfl Try.runUnderlying22) (fun a ha => ?_)
      refine s_do rfl ha (ltd rfl) (d_pick_f ha rfl b9 rfl) (fun a ha => ?_)
      refine s_do rfl ha (ltd rfl) (d_move ha rfl) (fun a ha => ?_)
      refine ite_s h (fun b10 h => ?_) (fun b10 h => ?_)
      · refine s_no_g rfl rfl ha (rfl : List.lookup 21 _ = _) (tn b10) (ltd rfl) (fun a ha => ?_)
        refine s_no_g rfl rfl ha (rfl : List.lookup 21 _ = _) (tn b10) (ltd rfl) (fun a ha => ?_)
        refine s_no_g rfl rfl ha (rfl : List.lookup 21 _ = _) (tn b10) (ltd rfl) (fun a ha => ?_)
        refine s_no_g rfl rfl ha (rfl : List.lookup 21 _ = _) (tn b10) (ltd rfl) (fun a ha => ?_)
        refine s_no_g rfl rfl ha (rfl : List.lookup 21 _ = _) (tn b10) (ltd rfl) (fun a ha => ?_)
        refine s_do rfl ha (ltd rfl) (d_pick_t ha rfl b10 rfl) (fun a ha => ?_)
        refine s_nil ?_
        have hS : Has 127 [(27, (.bool true)), (0, (Sl.v a0)), (1, (.int .u8 a1)), (5, (.pointer v1))] _ := ha.sub ⟨rfl, rfl, rfl, rfl, trivial⟩
        cases h
        exact hk8 _ hS
      · refine s_do_g2 rfl rfl ha (rfl : List.lookup 21 _ = _) (nt b10) (ltd rfl) (d_move ha rfl) (fun a ha => ?_)
        refine s_do_g2 rfl rfl ha (rfl : List.lookup 21 _ = _) (nt b10) (ltd rfl) (d_move ha rfl) (fun a ha => ?_)
        refine s_do_g2 rfl rfl ha (rfl : List.lookup 21 _ = _) (nt b10) (ltd rfl) (d_conv ha rfl Try.runUnderlying5 Try.runUnderlying3) (fun a ha => ?_)
        obtain ⟨v11, w12, e13, h⟩ := bs2 h
        refine s_do_g2 rfl rfl ha (rfl : List.lookup 21 _ = _) (nt b10) (ltd rfl) (d_call (xs := [_, _]) (vs := [(.pointer v1), (.int .i64 (IntKind.wrap .i64 a1))]) ha ⟨rfl, rfl, trivial⟩ Try.call27 (sector_Disk_Trip_ok e13)) (fun a ha => ?_)
        refine s_do_g2 rfl rfl ha (rfl : List.lookup 21 _ = _) (nt b10) (ltd rfl) (d_ne ha rfl rfl) (fun a ha => ?_)
        refine s_do rfl ha (ltd rfl) (d_pick_f ha rfl b10 rfl) (fun a ha => ?_)
        refine s_nil ?_
        have hS : Has 127 [(27, (.bool (v11 != 0))), (0, (Sl.v a0)), (1, (.int .u8 a1)), (5, (.pointer v1))] _ := ha.sub ⟨rfl, rfl, rfl, rfl, trivial⟩
        cases h
        exact hk8 _ hS

noncomputable def grapevinelaw09_size (a0 : Int) (w : World) : Option (Int × World) :=
  (rmI (IntKind.wrap .u64 a0) 8).bind fun v1 =>
  some ((IntKind.wrap .i64 (1 + (IntKind.wrap .i64 v1))), w)
set_option maxHeartbeats 1000000 in
set_option maxRecDepth 100000 in
theorem grapevinelaw09_size_ok {a0 : Int} {w w' : World} {r0 : Int} (h : grapevinelaw09_size a0 w = some (r0, w')) : Calls Try.prog 42 #[(.int .i64 a0)] w fun e w'' => e = .returned (.int .i64 r0) ∧ w'' = w' := by
  refine calls_dec (n := 8) Try.func42 rfl Try.ntmps42 (by simp) (fun a ha => ?_)
  unfold grapevinelaw09_size at h
  refine wp_seq ?_
  refine region_lit ?_
  refine s_do rfl ha (ltd rfl) (d_assign ha rfl) (fun a ha => ?_)
  refine s_nil ?_
  refine t_n ?_
  replace ha : Has 8 [(0, (.int .i64 a0))] _ := ha.sub ⟨rfl, trivial⟩
  refine wp_seq ?_
  refine region_lit ?_
  refine s_do rfl ha (ltd rfl) (d_move ha rfl) (fun a ha => ?_)
  refine s_do rfl ha (ltd rfl) (d_conv ha rfl Try.runUnderlying3 Try.runUnderlying47) (fun a ha => ?_)
  obtain ⟨v1, e2, h⟩ := bs1 h
  refine s_do rfl ha (ltd rfl) (d_rem ha rfl rfl e2) (fun a ha => ?_)
  refine s_do rfl ha (ltd rfl) (d_conv ha rfl Try.runUnderlying47 Try.runUnderlying3) (fun a ha => ?_)
  refine s_do rfl ha (ltd rfl) (d_add ha rfl rfl) (fun a ha => ?_)
  refine s_do rfl ha (ltd rfl) (d_assign ha rfl) (fun a ha => ?_)
  refine s_nil ?_
  refine t_n ?_
  replace ha : Has 8 [(2, (.int .i64 (IntKind.wrap .i64 (1 + (IntKind.wrap .i64 v1)))))] _ := ha.sub ⟨rfl, trivial⟩
  refine wp_ret ?_
  have hS := ha
  cases h
  exact ret1 Try.results42 hS rfl ⟨rfl, rfl⟩

noncomputable def grapevineref09_New_l1 (a0 : Int) (p7 : Addr) (x10 : Int) (w11 : World) : Option ((Int × World) ⊕ (World)) :=
  if (decide (x10 < a0)) = true then
  ((dr w11).bind fun w18 =>
  (ldL w18 (p7.add 0)).bind fun v20 =>
  bind2 (mkS Try.prog 29 64 64 w18) fun s22 w23 =>
  bind2 (bsl w23 29 1 [[(Sl.v s22)]]) fun s25 w26 =>
  bind2 (apS Try.prog 92 v20 s25 w26) fun s28 w29 =>
  (stV w29 (p7.add 0) (Sl.v s28)).bind fun w31 =>
  chk (ldL w23 (p7.add 0) = some v20) <|
  chk (ldL w26 (p7.add 0) = some v20) <|
  some (.inl ((IntKind.wrap .i64 (x10 + 1)), w31)))
  else
  (some (.inr w11))
noncomputable def grapevineref09_New (a0 : Int) (w : World) : Option ((Option Addr) × Int × World) :=
  bind2 (if (decide (a0 < 1)) = true then
  (some (true, w))
  else
  (some ((decide (512 < a0)), w))) fun v1 w2 =>
  if v1 = true then
  (some (none, 2, w2))
  else
  (bind2 (mk w2 95 ([.slice none 0 0, .slice none 0 0, .int .i64 0, .bool false, .int .i64 0])) fun p7 w8 =>
  (loopF (fun s : Int × World => grapevineref09_New_l1 a0 p7 s.1 s.2) (0, w8)).bind fun w14 =>
  some ((some p7), 0, w14))
set_option maxHeartbeats 1000000 in
set_option maxRecDepth 100000 in
theorem grapevineref09_New_ok {a0 : Int} {w w' : World} {r0 : Option Addr} {r1 : Int} (h : grapevineref09_New a0 w = some (r0, r1, w')) : Calls Try.prog 43 #[(.int .i64 a0)] w fun e w'' => e = .returned (.tuple #[(.pointer r0), (.int .i64 r1)]) ∧ w'' = w' := by
  refine calls_dec (n := 30) Try.func43 rfl Try.ntmps43 (by simp) (fun a ha => ?_)
  unfold grapevineref09_New at h
  refine wp_seq ?_
  refine region_lit ?_
  refine s_do rfl ha (ltd rfl) (d_assign ha rfl) (fun a ha => ?_)
  refine s_do rfl ha (ltd rfl) (d_assign ha rfl) (fun a ha => ?_)
  refine s_nil ?_
  refine t_n ?_
  replace ha : Has 30 [(0, (.int .i64 a0))] _ := ha.sub ⟨rfl, trivial⟩
  refine wp_seq ?_
  refine wp_seq ?_
  obtain ⟨v1, w2, e3, h⟩ := bs2 h
  refine reg_join (n := 30) (L := [(11, (.bool v1)), (0, (.int .i64 a0))]) (w' := w2) (fun a ha => ?_) (fun hk4 => ?_)
  · refine t_n ?_
    replace ha : Has 30 [(0, (.int .i64 a0)), (11, (.bool v1))] _ := ha.sub ⟨rfl, rfl, trivial⟩
    refine s_cond ha rfl h (fun b6 h => ?_) (fun b6 h => ?_)
    · refine wp_seq ?_
      refine region_lit ?_
      refine s_do rfl ha (ltd rfl) (d_assign ha rfl) (fun a ha => ?_)
      refine s_do rfl ha (ltd rfl) (d_assign ha rfl) (fun a ha => ?_)
      refine s_nil ?_
      refine t_n ?_
      replace ha : Has 30 [(2, (.pointer none)), (3, (.int .i64 2))] _ := ha.sub ⟨rfl, rfl, trivial⟩
      refine wp_ret ?_
      refine t_r ?_
      have hS := ha
      cases h
      exact ret2 Try.results43 hS rfl rfl ⟨rfl, rfl⟩
    · refine wp_skip ?_
      refine t_n ?_
      replace ha : Has 30 [(0, (.int .i64 a0))] _ := ha.sub ⟨rfl, trivial⟩
      refine wp_seq ?_
      refine region_lit ?_
      refine s_do rfl ha (ltd rfl) (d_build (vs := []) (pl := #[(0, 1), (1, 1), (2, 1), (3, 1), (4, 1)]) (cs := ([.slice none 0 0, .slice none 0 0, .int .i64 0, .bool false, .int .i64 0])) ha trivial Try.zeroValue95 Try.runUnderlying95 (by intro w; kernel_rfl) (by kernel_rfl)) (fun a ha => ?_)
      obtain ⟨p7, w8, e9, h⟩ := bs2 h
      refine s_do rfl ha (ltd rfl) (d_box ha rfl rfl e9) (fun a ha => ?_)
      refine s_do rfl ha (ltd rfl) (d_assign ha rfl) (fun a ha => ?_)
      refine s_nil ?_
      refine t_n ?_
      replace ha : Has 30 [(0, (.int .i64 a0)), (4, (.pointer (some p7)))] _ := ha.sub ⟨rfl, rfl, trivial⟩
      refine wp_seq ?_
      refine wp_seq ?_
      refine region_lit ?_
      refine s_do rfl ha (ltd rfl) (d_assign ha rfl) (fun a ha => ?_)
      refine s_nil ?_
      refine t_n ?_
      replace ha : Has 30 [(0, (.int .i64 a0)), (4, (.pointer (some p7))), (5, (.int .i64 0))] _ := ha.sub ⟨rfl, rfl, rfl, trivial⟩
      refine wp_block ?_
      obtain ⟨w14, e13, h⟩ := bs1 h
      refine s_loop1 (n := 30) (L := [(4, (.pointer (some p7)))]) (w' := w14) (e := .exit 0) (I := fun (s : Int × World) a w => Has 30 [(5, (.int .i64 s.1)), (0, (.int .i64 a0)), (4, (.pointer (some p7)))] a ∧ w = s.2) ⟨ha.sub ⟨rfl, rfl, rfl, trivial⟩, rfl⟩ e13 (fun a ha => ?_) (fun hk15 => ?_)
      · refine b_hit ?_
        refine t_n ?_
        replace ha : Has 30 [(4, (.pointer (some p7)))] _ := ha.sub ⟨rfl, trivial⟩
        refine wp_seq ?_
        refine region_lit ?_
        refine s_do rfl ha (ltd rfl) (d_move ha rfl) (fun a ha => ?_)
        refine s_do rfl ha (ltd rfl) (d_assign ha rfl) (fun a ha => ?_)
        refine s_do rfl ha (ltd rfl) (d_assign ha rfl) (fun a ha => ?_)
        refine s_nil ?_
        refine t_n ?_
        replace ha : Has 30 [(2, (.pointer (some p7))), (3, (.int .i64 0))] _ := ha.sub ⟨rfl, rfl, trivial⟩
        refine wp_ret ?_
        have hS := ha
        cases h
        exact ret2 Try.results43 hS rfl rfl ⟨rfl, rfl⟩
      · clear h
        rintro ⟨x10, w11⟩ a wq o ⟨ha, hwq⟩ h hr16
        obtain rfl : w11 = wq := hwq.symm
        have ha : Has 30 [(5, (.int .i64 x10)), (0, (.int .i64 a0)), (4, (.pointer (some p7)))] a := ha
        have h : grapevineref09_New_l1 a0 p7 x10 w11 = some o := h
        unfold grapevineref09_New_l1 at h
        refine wp_seq ?_
        refine wp_seq ?_
        refine region_lit ?_
        refine s_do rfl ha (ltd rfl) (d_move ha rfl) (fun a ha => ?_)
        refine s_do rfl ha (ltd rfl) (d_move ha rfl) (fun a ha => ?_)
        refine s_do rfl ha (ltd rfl) (d_lt ha rfl rfl) (fun a ha => ?_)
        refine s_nil ?_
        refine t_n ?_
        replace ha : Has 30 [(0, (.int .i64 a0)), (4, (.pointer (some p7))), (5, (.int .i64 x10)), (16, (.bool (decide (x10 < a0))))] _ := ha.sub ⟨rfl, rfl, rfl, rfl, trivial⟩
        refine s_cond ha rfl h (fun b17 h => ?_) (fun b17 h => ?_)
        · refine wp_skip ?_
          refine t_n ?_
          replace ha : Has 30 [(0, (.int .i64 a0)), (4, (.pointer (some p7))), (5, (.int .i64 x10))] _ := ha.sub ⟨rfl, rfl, rfl, trivial⟩
          refine wp_seq ?_
          refine wp_block ?_
          obtain ⟨w18, e19, h⟩ := bs1 h
          obtain ⟨v20, e21, h⟩ := bs1 h
          obtain ⟨s22, w23, e24, h⟩ := bs2 h
          obtain ⟨s25, w26, e27, h⟩ := bs2 h
          obtain ⟨s28, w29, e30, h⟩ := bs2 h
          obtain ⟨w31, e32, h⟩ := bs1 h
          obtain ⟨e33, h⟩ := chk_some h
          obtain ⟨e34, h⟩ := chk_some h
          have ha : Has 30 [(0, (.int .i64 a0)), (4, (.pointer (some p7))), (5, (.int .i64 x10))] a := ha.sub ⟨rfl, rfl, rfl, trivial⟩
          refine region_draw (n := 30) (ds := (⟨_, (.pointer (some p7)), false, 0, 3, [], [(4, (.pointer (some p7)))]⟩ :: ⟨_, (.pointer (some p7)), false, 0, 2, [], [(4, (.pointer (some p7)))]⟩ :: ⟨_, (.pointer (some p7)), false, 0, 2, [1], [(20, (.pointer (some p7)))]⟩ :: ⟨_, (.pointer (some (p7.add 0))), false, 0, 2, [1, 2], [(21, (.pointer (some p7)))]⟩ :: ⟨_, (Sl.v v20), false, 0, 2, [1, 2, 3], [(22, (.pointer (some (p7.add 0))))]⟩ :: ⟨_, (Sl.v s22), true, 0, 0, [], []⟩ :: ⟨_, (Sl.v s25), true, 1, 1, [5], [(24, (Sl.v s22))]⟩ :: ⟨_, (Sl.v s28), true, 2, 2, [1, 2, 3, 4, 5, 6], [(23, (Sl.v v20)), (25, (Sl.v s25))]⟩ :: ⟨_, (.pointer (some p7)), false, 3, 3, [0, 1, 2, 3, 4, 5, 6, 7], [(19, (.pointer (some p7)))]⟩ :: ⟨_, (.pointer (some (p7.add 0))), false, 3, 3, [0, 1, 2, 3, 4, 5, 6, 7, 8], [(27, (.pointer (some p7)))]⟩ :: ⟨_, undef, true, 3, 3, [0, 1, 2, 3, 4, 5, 6, 7, 8, 9], [(28, (.pointer (some (p7.add 0)))), (26, (Sl.v s28))]⟩ :: [])) (W := (fun j => match j with | 0 => w18 | 1 => w23 | 2 => w26 | 3 => w29 | _ => w31)) (by kernel_rfl) ha (dr_w e19) (by kernel_rfl) ?_ (reads_of (by kernel_rfl)) (by kernel_rfl) (m := 4) (by kernel_rfl) (fun a ha => ?_)
          · refine ⟨?_, ?_, ?_, ?_, ?_, ?_, ?_, ?_, ?_, ?_, ?_, trivial⟩
            · intro j _ _; exact ok_do rfl fun a ha => d_move ha rfl
            · intro j _ _; exact ok_do rfl fun a ha => d_move ha rfl
            · intro j _ _; exact ok_do rfl fun a ha => d_nil ha rfl
            · intro j _ _; exact ok_do rfl fun a ha => d_fa ha rfl Try.runUnderlying95 rfl rfl Try.sizeOf92 (by decide)
            · intro j h1 h2; have h1 : 0 ≤ j := h1; have h2 : j ≤ 2 := h2; rcases (by omega : j = 0 ∨ j = 1 ∨ j = 2) with rfl | rfl | rfl
              · exact ok_do rfl fun a ha => d_ld ha rfl Try.isAgg92 (ldL_c e21)
              · exact ok_do rfl fun a ha => d_ld ha rfl Try.isAgg92 (ldL_c e33)
              · exact ok_do rfl fun a ha => d_ld ha rfl Try.isAgg92 (ldL_c e34)
            · intro j h1 h2; obtain rfl : j = 0 := Nat.le_antisymm h2 h1; exact ok_do rfl fun a ha => d_mkS ha rfl rfl e24
            · intro j h1 h2; obtain rfl : j = 1 := Nat.le_antisymm h2 h1; exact ok_do rfl fun a ha => d_bsl (vs := [(0, (Sl.v s22))]) (ps := [[(Sl.v s22)]]) ha ⟨rfl, rfl, trivial⟩ ⟨rfl, rfl, trivial⟩ rfl Try.runUnderlying92 Try.sizeOf29 Try.zeroValue29 (by decide) e27
            · intro j h1 h2; obtain rfl : j = 2 := Nat.le_antisymm h2 h1; exact ok_do rfl fun a ha => d_apS ha rfl rfl e30
            · intro j _ _; exact ok_do rfl fun a ha => d_nil ha rfl
            · intro j _ _; exact ok_do rfl fun a ha => d_fa ha rfl Try.runUnderlying95 rfl rfl Try.sizeOf92 (by decide)
            · intro j h1 h2; obtain rfl : j = 3 := Nat.le_antisymm h2 h1; exact ok_do rfl fun a ha => d_st ha rfl rfl Try.sizeOf92 e32
          · have ha : Has 30 [(0, (.int .i64 a0)), (4, (.pointer (some p7))), (5, (.int .i64 x10))] a := ha.sub ⟨rfl, rfl, rfl, trivial⟩
            refine b_n ?_
            refine t_n ?_
            replace ha : Has 30 [(0, (.int .i64 a0)), (4, (.pointer (some p7))), (5, (.int .i64 x10))] _ := ha.sub ⟨rfl, rfl, rfl, trivial⟩
            refine region_lit ?_
            refine s_do rfl ha (ltd rfl) (d_move ha rfl) (fun a ha => ?_)
            refine s_do rfl ha (ltd rfl) (d_add ha rfl rfl) (fun a ha => ?_)
            refine s_do rfl ha (ltd rfl) (d_assign ha rfl) (fun a ha => ?_)
            refine s_nil ?_
            have hS : Has 30 [(5, (.int .i64 (IntKind.wrap .i64 (x10 + 1)))), (0, (.int .i64 a0)), (4, (.pointer (some p7)))] _ := ha.sub ⟨rfl, rfl, rfl, trivial⟩
            cases h
            exact lp_next ⟨hS, rfl⟩
        · refine wp_exit ?_
          refine t_x ?_
          have hS : Has 30 [(4, (.pointer (some p7)))] _ := ha.sub ⟨rfl, trivial⟩
          cases h
          cases hr16 _ rfl
          refine lp_x ?_
          exact hk15 _ hS
  · clear h
    have h := e3
    refine region_lit ?_
    refine s_do rfl ha (ltd rfl) (d_move ha rfl) (fun a ha => ?_)
    refine s_do rfl ha (ltd rfl) (d_lt ha rfl rfl) (fun a ha => ?_)
    refine s_do rfl ha (ltd rfl) (d_move ha rfl) (fun a ha => ?_)
    refine ite_s h (fun b5 h => ?_) (fun b5 h => ?_)
    · refine s_no_g rfl rfl ha (rfl : List.lookup 8 _ = _) (tn b5) (ltd rfl) (fun a ha => ?_)
      refine s_no_g rfl rfl ha (rfl : List.lookup 8 _ = _) (tn b5) (ltd rfl) (fun a ha => ?_)
      refine s_do rfl ha (ltd rfl) (d_pick_t ha rfl b5 rfl) (fun a ha => ?_)
      refine s_nil ?_
      have hS : Has 30 [(11, (.bool true)), (0, (.int .i64 a0))] _ := ha.sub ⟨rfl, rfl, trivial⟩
      cases h
      exact hk4 _ hS
    · refine s_do_g2 rfl rfl ha (rfl : List.lookup 8 _ = _) (nt b5) (ltd rfl) (d_move ha rfl) (fun a ha => ?_)
      refine s_do_g2 rfl rfl ha (rfl : List.lookup 8 _ = _) (nt b5) (ltd rfl) (d_gt ha rfl rfl) (fun a ha => ?_)
      refine s_do rfl ha (ltd rfl) (d_pick_f ha rfl b5 rfl) (fun a ha => ?_)
      refine s_nil ?_
      have hS : Has 30 [(11, (.bool (decide (512 < a0)))), (0, (.int .i64 a0))] _ := ha.sub ⟨rfl, rfl, trivial⟩
      cases h
      exact hk4 _ hS

noncomputable def grapevineref09_Disk_has (a0 : Option Addr) (a1 : Int) (w : World) : Option (Bool × World) :=
  bind2 (if (decide (0 ≤ a1)) = true then
  ((a0).bind fun p6 =>
  (ldL w (p6.add 0)).bind fun v8 =>
  some ((decide (a1 < (v8.n : Int))), w))
  else
  (some (false, w))) fun v1 w2 =>
  some (v1, w2)
set_option maxHeartbeats 1000000 in
set_option maxRecDepth 100000 in
theorem grapevineref09_Disk_has_ok {a0 : Option Addr} {a1 : Int} {w w' : World} {r0 : Bool} (h : grapevineref09_Disk_has a0 a1 w = some (r0, w')) : Calls Try.prog 57 #[(.pointer a0), (.int .i64 a1)] w fun e w'' => e = .returned (.bool r0) ∧ w'' = w' := by
  refine calls_dec (n := 16) Try.func57 rfl Try.ntmps57 (by simp) (fun a ha => ?_)
  unfold grapevineref09_Disk_has at h
  refine wp_seq ?_
  refine region_lit ?_
  refine s_do rfl ha (ltd rfl) (d_assign ha rfl) (fun a ha => ?_)
  refine s_nil ?_
  refine t_n ?_
  replace ha : Has 16 [(0, (.pointer a0)), (1, (.int .i64 a1))] _ := ha.sub ⟨rfl, rfl, trivial⟩
  refine wp_seq ?_
  obtain ⟨v1, w2, e3, h⟩ := bs2 h
  refine reg_join (n := 16) (L := [(4, (.bool v1))]) (w' := w2) (fun a ha => ?_) (fun hk4 => ?_)
  · refine t_n ?_
    replace ha : Has 16 [(4, (.bool v1))] _ := ha.sub ⟨rfl, trivial⟩
    refine wp_ret ?_
    have hS := ha
    cases h
    exact ret1 Try.results57 hS rfl ⟨rfl, rfl⟩
  · clear h
    have h := e3
    refine region_lit ?_
    refine s_do rfl ha (ltd rfl) (d_move ha rfl) (fun a ha => ?_)
    refine s_do rfl ha (ltd rfl) (d_ge ha rfl rfl) (fun a ha => ?_)
    refine s_do rfl ha (ltd rfl) (d_move ha rfl) (fun a ha => ?_)
    refine ite_s h (fun b5 h => ?_) (fun b5 h => ?_)
    · refine s_do_g2 rfl rfl ha (rfl : List.lookup 7 _ = _) b5 (ltd rfl) (d_move ha rfl) (fun a ha => ?_)
      refine s_do_g2 rfl rfl ha (rfl : List.lookup 7 _ = _) b5 (ltd rfl) (d_move ha rfl) (fun a ha => ?_)
      obtain ⟨p6, e7, h⟩ := bs1 h
      refine s_do_g2 rfl rfl ha (rfl : List.lookup 7 _ = _) b5 (ltd rfl) (d_nilp ha rfl e7) (fun a ha => ?_)
      refine s_do_g2 rfl rfl ha (rfl : List.lookup 7 _ = _) b5 (ltd rfl) (d_fa ha rfl Try.runUnderlying95 rfl rfl Try.sizeOf92 (by decide)) (fun a ha => ?_)
      obtain ⟨v8, e9, h⟩ := bs1 h
      refine s_do_g2 rfl rfl ha (rfl : List.lookup 7 _ = _) b5 (ltd rfl) (d_ld ha rfl Try.isAgg92 (ldL_c e9)) (fun a ha => ?_)
      refine s_do_g2 rfl rfl ha (rfl : List.lookup 7 _ = _) b5 (ltd rfl) (d_lenS ha rfl Try.runUnderlying92) (fun a ha => ?_)
      refine s_do_g2 rfl rfl ha (rfl : List.lookup 7 _ = _) b5 (ltd rfl) (d_lt ha rfl rfl) (fun a ha => ?_)
      refine s_do rfl ha (ltd rfl) (d_pick_t ha rfl b5 rfl) (fun a ha => ?_)
      refine s_do rfl ha (ltd rfl) (d_assign ha rfl) (fun a ha => ?_)
      refine s_nil ?_
      have hS : Has 16 [(4, (.bool (decide (a1 < (v8.n : Int)))))] _ := ha.sub ⟨rfl, trivial⟩
      cases h
      exact hk4 _ hS
    · refine s_no_g rfl rfl ha (rfl : List.lookup 7 _ = _) (nn b5 _ rfl) (ltd rfl) (fun a ha => ?_)
      refine s_no_g rfl rfl ha (rfl : List.lookup 7 _ = _) (nn b5 _ rfl) (ltd rfl) (fun a ha => ?_)
      refine s_no_g rfl rfl ha (rfl : List.lookup 7 _ = _) (nn b5 _ rfl) (ltd rfl) (fun a ha => ?_)
      refine s_no_g rfl rfl ha (rfl : List.lookup 7 _ = _) (nn b5 _ rfl) (ltd rfl) (fun a ha => ?_)
      refine s_no_g rfl rfl ha (rfl : List.lookup 7 _ = _) (nn b5 _ rfl) (ltd rfl) (fun a ha => ?_)
      refine s_no_g rfl rfl ha (rfl : List.lookup 7 _ = _) (nn b5 _ rfl) (ltd rfl) (fun a ha => ?_)
      refine s_no_g rfl rfl ha (rfl : List.lookup 7 _ = _) (nn b5 _ rfl) (ltd rfl) (fun a ha => ?_)
      refine s_do rfl ha (ltd rfl) (d_pick_f ha rfl b5 rfl) (fun a ha => ?_)
      refine s_do rfl ha (ltd rfl) (d_assign ha rfl) (fun a ha => ?_)
      refine s_nil ?_
      have hS : Has 16 [(4, (.bool false))] _ := ha.sub ⟨rfl, trivial⟩
      cases h
      exact hk4 _ hS

noncomputable def grapevineref09_Disk_trips (a0 : Option Addr) (w : World) : Option (Bool × World) :=
  (a0).bind fun p1 =>
  (ldI .i64 w (p1.add 2)).bind fun v3 =>
  if (decide (0 < v3)) = true then
  ((ldI .i64 w (p1.add 2)).bind fun v6 =>
  (stV w (p1.add 2) (.int .i64 (IntKind.wrap .i64 (v6 - 1)))).bind fun w8 =>
  (ldI .i64 w8 (p1.add 2)).bind fun v10 =>
  (stV w8 (p1.add 3) (.bool (v10 == 0))).bind fun w12 =>
  (ldB w12 (p1.add 3)).bind fun v14 =>
  some (v14, w12))
  else
  (some (false, w))
set_option maxHeartbeats 1000000 in
set_option maxRecDepth 100000 in
theorem grapevineref09_Disk_trips_ok {a0 : Option Addr} {w w' : World} {r0 : Bool} (h : grapevineref09_Disk_trips a0 w = some (r0, w')) : Calls Try.prog 58 #[(.pointer a0)] w fun e w'' => e = .returned (.bool r0) ∧ w'' = w' := by
  refine calls_dec (n := 27) Try.func58 rfl Try.ntmps58 (by simp) (fun a ha => ?_)
  unfold grapevineref09_Disk_trips at h
  refine wp_seq ?_
  refine region_lit ?_
  refine s_do rfl ha (ltd rfl) (d_assign ha rfl) (fun a ha => ?_)
  refine s_nil ?_
  refine t_n ?_
  replace ha : Has 27 [(0, (.pointer a0))] _ := ha.sub ⟨rfl, trivial⟩
  refine wp_seq ?_
  refine wp_seq ?_
  refine region_lit ?_
  refine s_do rfl ha (ltd rfl) (d_move ha rfl) (fun a ha => ?_)
  obtain ⟨p1, e2, h⟩ := bs1 h
  refine s_do rfl ha (ltd rfl) (d_nilp ha rfl e2) (fun a ha => ?_)
  refine s_do rfl ha (ltd rfl) (d_fa ha rfl Try.runUnderlying95 rfl rfl Try.sizeOf3 (by decide)) (fun a ha => ?_)
  obtain ⟨v3, e4, h⟩ := bs1 h
  refine s_do rfl ha (ltd rfl) (d_ld ha rfl Try.isAgg3 (ldI_c e4)) (fun a ha => ?_)
  refine s_do rfl ha (ltd rfl) (d_gt ha rfl rfl) (fun a ha => ?_)
  refine s_nil ?_
  refine t_n ?_
  replace ha : Has 27 [(0, (.pointer a0)), (7, (.bool (decide (0 < v3))))] _ := ha.sub ⟨rfl, rfl, trivial⟩
  refine s_cond ha rfl h (fun b5 h => ?_) (fun b5 h => ?_)
  · refine wp_seq ?_
    refine region_lit ?_
    refine s_do rfl ha (ltd rfl) (d_move ha rfl) (fun a ha => ?_)
    refine s_do rfl ha (ltd rfl) (d_nilp ha rfl e2) (fun a ha => ?_)
    refine s_do rfl ha (ltd rfl) (d_fa ha rfl Try.runUnderlying95 rfl rfl Try.sizeOf3 (by decide)) (fun a ha => ?_)
    obtain ⟨v6, e7, h⟩ := bs1 h
    refine s_do rfl ha (ltd rfl) (d_ld ha rfl Try.isAgg3 (ldI_c e7)) (fun a ha => ?_)
    refine s_do rfl ha (ltd rfl) (d_sub ha rfl rfl) (fun a ha => ?_)
    refine s_do rfl ha (ltd rfl) (d_nilp ha rfl e2) (fun a ha => ?_)
    refine s_do rfl ha (ltd rfl) (d_fa ha rfl Try.runUnderlying95 rfl rfl Try.sizeOf3 (by decide)) (fun a ha => ?_)
    obtain ⟨w8, e9, h⟩ := bs1 h
    refine s_do rfl ha (ltd rfl) (d_st ha rfl rfl Try.sizeOf3 e9) (fun a ha => ?_)
    refine s_nil ?_
    refine t_n ?_
    replace ha : Has 27 [(0, (.pointer a0))] _ := ha.sub ⟨rfl, trivial⟩
    refine wp_seq ?_
    refine region_lit ?_
    refine s_do rfl ha (ltd rfl) (d_move ha rfl) (fun a ha => ?_)
    refine s_do rfl ha (ltd rfl) (d_move ha rfl) (fun a ha => ?_)
    refine s_do rfl ha (ltd rfl) (d_nilp ha rfl e2) (fun a ha => ?_)
    refine s_do rfl ha (ltd rfl) (d_fa ha rfl Try.runUnderlying95 rfl rfl Try.sizeOf3 (by decide)) (fun a ha => ?_)
    obtain ⟨v10, e11, h⟩ := bs1 h
    refine s_do rfl ha (ltd rfl) (d_ld ha rfl Try.isAgg3 (ldI_c e11)) (fun a ha => ?_)
    refine s_do rfl ha (ltd rfl) (d_eq ha rfl rfl) (fun a ha => ?_)
    refine s_do rfl ha (ltd rfl) (d_nilp ha rfl e2) (fun a ha => ?_)
    refine s_do rfl ha (ltd rfl) (d_fa ha rfl Try.runUnderlying95 rfl rfl Try.sizeOf4 (by decide)) (fun a ha => ?_)
    obtain ⟨w12, e13, h⟩ := bs1 h
    refine s_do rfl ha (ltd rfl) (d_st ha rfl rfl Try.sizeOf4 e13) (fun a ha => ?_)
    refine s_nil ?_
    refine t_n ?_
    replace ha : Has 27 [(0, (.pointer a0))] _ := ha.sub ⟨rfl, trivial⟩
    refine wp_seq ?_
    refine region_lit ?_
    refine s_do rfl ha (ltd rfl) (d_move ha rfl) (fun a ha => ?_)
    refine s_do rfl ha (ltd rfl) (d_nilp ha rfl e2) (fun a ha => ?_)
    refine s_do rfl ha (ltd rfl) (d_fa ha rfl Try.runUnderlying95 rfl rfl Try.sizeOf4 (by decide)) (fun a ha => ?_)
    obtain ⟨v14, e15, h⟩ := bs1 h
    refine s_do rfl ha (ltd rfl) (d_ld ha rfl Try.isAgg4 (ldB_c e15)) (fun a ha => ?_)
    refine s_do rfl ha (ltd rfl) (d_assign ha rfl) (fun a ha => ?_)
    refine s_nil ?_
    refine t_n ?_
    replace ha : Has 27 [(2, (.bool v14))] _ := ha.sub ⟨rfl, trivial⟩
    refine wp_ret ?_
    refine t_r ?_
    have hS := ha
    cases h
    exact ret1 Try.results58 hS rfl ⟨rfl, rfl⟩
  · refine wp_skip ?_
    refine t_n ?_
    replace ha : Has 27 [] _ := ha.sub trivial
    refine wp_seq ?_
    refine region_lit ?_
    refine s_do rfl ha (ltd rfl) (d_assign ha rfl) (fun a ha => ?_)
    refine s_nil ?_
    refine t_n ?_
    replace ha : Has 27 [(2, (.bool false))] _ := ha.sub ⟨rfl, trivial⟩
    refine wp_ret ?_
    have hS := ha
    cases h
    exact ret1 Try.results58 hS rfl ⟨rfl, rfl⟩

noncomputable def grapevineref09_Disk_Write (a0 : Option Addr) (a1 : Int) (a2 : Sl) (w : World) : Option (Int × World) :=
  if (a0.isNone) = true then
  (some (1, w))
  else
  ((a0).bind fun p2 =>
  (ldB w (p2.add 3)).bind fun v4 =>
  if v4 = true then
  (some (10, w))
  else
  (bind2 (grapevineref09_Disk_has a0 a1 w) fun v7 w8 =>
  if (!v7) = true then
  (some (2, w8))
  else
  (if (decide (64 < (a2.n : Int))) = true then
  (some (6, w8))
  else
  (bind2 (grapevineref09_Disk_trips a0 w8) fun v12 w13 =>
  if v12 = true then
  (some (10, w13))
  else
  (bind2 (bsl w13 5 1 []) fun s16 w17 =>
  bind2 (apS Try.prog 29 s16 a2 w17) fun s19 w20 =>
  bind2 (apZ Try.prog 29 3 s19 (IntKind.wrap .i64 (64 - (a2.n : Int))) w20) fun s22 w23 =>
  (ldL w23 (p2.add 1)).bind fun v25 =>
  bind2 (bsl w23 106 2 [([.int .i64 a1, Sl.v s22])]) fun s27 w28 =>
  bind2 (apS Try.prog 93 v25 s27 w28) fun s30 w31 =>
  (stV w31 (p2.add 1) (Sl.v s30)).bind fun w33 =>
  some (0, w33))))))
set_option maxHeartbeats 1000000 in
set_option maxRecDepth 100000 in
theorem grapevineref09_Disk_Write_ok {a0 : Option Addr} {a1 : Int} {a2 : Sl} {w w' : World} {r0 : Int} (h : grapevineref09_Disk_Write a0 a1 a2 w = some (r0, w')) : Calls Try.prog 48 #[(.pointer a0), (.int .i64 a1), (Sl.v a2)] w fun e w'' => e = .returned (.int .i64 r0) ∧ w'' = w' := by
  refine calls_dec (n := 42) Try.func48 rfl Try.ntmps48 (by simp) (fun a ha => ?_)
  unfold grapevineref09_Disk_Write at h
  refine wp_seq ?_
  refine region_lit ?_
  refine s_do rfl ha (ltd rfl) (d_assign ha rfl) (fun a ha => ?_)
  refine s_nil ?_
  refine t_n ?_
  replace ha : Has 42 [(0, (.pointer a0)), (1, (.int .i64 a1)), (2, (Sl.v a2))] _ := ha.sub ⟨rfl, rfl, rfl, trivial⟩
  refine wp_seq ?_
  refine wp_seq ?_
  refine region_lit ?_
  refine s_do rfl ha (ltd rfl) (d_move ha rfl) (fun a ha => ?_)
  refine s_do rfl ha (ltd rfl) (d_eqN ha rfl rfl Try.runUnderlying44) (fun a ha => ?_)
  refine s_nil ?_
  refine t_n ?_
  replace ha : Has 42 [(0, (.pointer a0)), (1, (.int .i64 a1)), (2, (Sl.v a2)), (9, (.bool (a0.isNone)))] _ := ha.sub ⟨rfl, rfl, rfl, rfl, trivial⟩
  refine s_cond ha rfl h (fun b1 h => ?_) (fun b1 h => ?_)
  · refine wp_seq ?_
    refine region_lit ?_
    refine s_do rfl ha (ltd rfl) (d_assign ha rfl) (fun a ha => ?_)
    refine s_nil ?_
    refine t_n ?_
    replace ha : Has 42 [(6, (.int .i64 1))] _ := ha.sub ⟨rfl, trivial⟩
    refine wp_ret ?_
    refine t_r ?_
    have hS := ha
    cases h
    exact ret1 Try.results48 hS rfl ⟨rfl, rfl⟩
  · refine wp_skip ?_
    refine t_n ?_
    replace ha : Has 42 [(0, (.pointer a0)), (1, (.int .i64 a1)), (2, (Sl.v a2))] _ := ha.sub ⟨rfl, rfl, rfl, trivial⟩
    refine wp_seq ?_
    refine wp_seq ?_
    refine region_lit ?_
    refine s_do rfl ha (ltd rfl) (d_move ha rfl) (fun a ha => ?_)
    obtain ⟨p2, e3, h⟩ := bs1 h
    refine s_do rfl ha (ltd rfl) (d_nilp ha rfl e3) (fun a ha => ?_)
    refine s_do rfl ha (ltd rfl) (d_fa ha rfl Try.runUnderlying95 rfl rfl Try.sizeOf4 (by decide)) (fun a ha => ?_)
    obtain ⟨v4, e5, h⟩ := bs1 h
    refine s_do rfl ha (ltd rfl) (d_ld ha rfl Try.isAgg4 (ldB_c e5)) (fun a ha => ?_)
    refine s_nil ?_
    refine t_n ?_
    replace ha : Has 42 [(0, (.pointer a0)), (1, (.int .i64 a1)), (2, (Sl.v a2)), (13, (.bool v4))] _ := ha.sub ⟨rfl, rfl, rfl, rfl, trivial⟩
    refine s_cond ha rfl h (fun b6 h => ?_) (fun b6 h => ?_)
    · refine wp_seq ?_
      refine region_lit ?_
      refine s_do rfl ha (ltd rfl) (d_assign ha rfl) (fun a ha => ?_)
      refine s_nil ?_
      refine t_n ?_
      replace ha : Has 42 [(6, (.int .i64 10))] _ := ha.sub ⟨rfl, trivial⟩
      refine wp_ret ?_
      refine t_r ?_
      have hS := ha
      cases h
      exact ret1 Try.results48 hS rfl ⟨rfl, rfl⟩
    · refine wp_skip ?_
      refine t_n ?_
      replace ha : Has 42 [(0, (.pointer a0)), (1, (.int .i64 a1)), (2, (Sl.v a2))] _ := ha.sub ⟨rfl, rfl, rfl, trivial⟩
      refine wp_seq ?_
      refine wp_seq ?_
      refine region_lit ?_
      refine s_do rfl ha (ltd rfl) (d_move ha rfl) (fun a ha => ?_)
      refine s_do rfl ha (ltd rfl) (d_move ha rfl) (fun a ha => ?_)
      obtain ⟨v7, w8, e9, h⟩ := bs2 h
      refine s_do rfl ha (ltd rfl) (d_call (xs := [_, _]) (vs := [(.pointer a0), (.int .i64 a1)]) ha ⟨rfl, rfl, trivial⟩ Try.call57 (grapevineref09_Disk_has_ok e9)) (fun a ha => ?_)
      refine s_do rfl ha (ltd rfl) (d_not ha rfl) (fun a ha => ?_)
      refine s_nil ?_
      refine t_n ?_
      replace ha : Has 42 [(0, (.pointer a0)), (1, (.int .i64 a1)), (2, (Sl.v a2)), (17, (.bool (!v7)))] _ := ha.sub ⟨rfl, rfl, rfl, rfl, trivial⟩
      refine s_cond ha rfl h (fun b10 h => ?_) (fun b10 h => ?_)
      · refine wp_seq ?_
        refine region_lit ?_
        refine s_do rfl ha (ltd rfl) (d_assign ha rfl) (fun a ha => ?_)
        refine s_nil ?_
        refine t_n ?_
        replace ha : Has 42 [(6, (.int .i64 2))] _ := ha.sub ⟨rfl, trivial⟩
        refine wp_ret ?_
        refine t_r ?_
        have hS := ha
        cases h
        exact ret1 Try.results48 hS rfl ⟨rfl, rfl⟩
      · refine wp_skip ?_
        refine t_n ?_
        replace ha : Has 42 [(0, (.pointer a0)), (1, (.int .i64 a1)), (2, (Sl.v a2))] _ := ha.sub ⟨rfl, rfl, rfl, trivial⟩
        refine wp_seq ?_
        refine wp_seq ?_
        refine region_lit ?_
        refine s_do rfl ha (ltd rfl) (d_move ha rfl) (fun a ha => ?_)
        refine s_do rfl ha (ltd rfl) (d_lenS ha rfl Try.runUnderlying29) (fun a ha => ?_)
        refine s_do rfl ha (ltd rfl) (d_gt ha rfl rfl) (fun a ha => ?_)
        refine s_nil ?_
        refine t_n ?_
        replace ha : Has 42 [(0, (.pointer a0)), (1, (.int .i64 a1)), (2, (Sl.v a2)), (20, (.bool (decide (64 < (a2.n : Int)))))] _ := ha.sub ⟨rfl, rfl, rfl, rfl, trivial⟩
        refine s_cond ha rfl h (fun b11 h => ?_) (fun b11 h => ?_)
        · refine wp_seq ?_
          refine region_lit ?_
          refine s_do rfl ha (ltd rfl) (d_assign ha rfl) (fun a ha => ?_)
          refine s_nil ?_
          refine t_n ?_
          replace ha : Has 42 [(6, (.int .i64 6))] _ := ha.sub ⟨rfl, trivial⟩
          refine wp_ret ?_
          refine t_r ?_
          have hS := ha
          cases h
          exact ret1 Try.results48 hS rfl ⟨rfl, rfl⟩
        · refine wp_skip ?_
          refine t_n ?_
          replace ha : Has 42 [(0, (.pointer a0)), (1, (.int .i64 a1)), (2, (Sl.v a2))] _ := ha.sub ⟨rfl, rfl, rfl, trivial⟩
          refine wp_seq ?_
          refine wp_seq ?_
          refine region_lit ?_
          refine s_do rfl ha (ltd rfl) (d_move ha rfl) (fun a ha => ?_)
          obtain ⟨v12, w13, e14, h⟩ := bs2 h
          refine s_do rfl ha (ltd rfl) (d_call (xs := [_]) (vs := [(.pointer a0)]) ha ⟨rfl, trivial⟩ Try.call58 (grapevineref09_Disk_trips_ok e14)) (fun a ha => ?_)
          refine s_nil ?_
          refine t_n ?_
          replace ha : Has 42 [(0, (.pointer a0)), (1, (.int .i64 a1)), (2, (Sl.v a2)), (22, (.bool v12))] _ := ha.sub ⟨rfl, rfl, rfl, rfl, trivial⟩
          refine s_cond ha rfl h (fun b15 h => ?_) (fun b15 h => ?_)
          · refine wp_seq ?_
            refine region_lit ?_
            refine s_do rfl ha (ltd rfl) (d_assign ha rfl) (fun a ha => ?_)
            refine s_nil ?_
            refine t_n ?_
            replace ha : Has 42 [(6, (.int .i64 10))] _ := ha.sub ⟨rfl, trivial⟩
            refine wp_ret ?_
            refine t_r ?_
            have hS := ha
            cases h
            exact ret1 Try.results48 hS rfl ⟨rfl, rfl⟩
          · refine wp_skip ?_
            refine t_n ?_
            replace ha : Has 42 [(0, (.pointer a0)), (1, (.int .i64 a1)), (2, (Sl.v a2))] _ := ha.sub ⟨rfl, rfl, rfl, trivial⟩
            refine wp_seq ?_
            refine region_lit ?_
            obtain ⟨s16, w17, e18, h⟩ := bs2 h
            refine s_do rfl ha (ltd rfl) (d_bsl (vs := []) (ps := []) ha trivial trivial rfl Try.runUnderlying29 Try.sizeOf5 Try.zeroValue5 (by decide) e18) (fun a ha => ?_)
            refine s_do rfl ha (ltd rfl) (d_move ha rfl) (fun a ha => ?_)
            obtain ⟨s19, w20, e21, h⟩ := bs2 h
            refine s_do rfl ha (ltd rfl) (d_apS ha rfl rfl e21) (fun a ha => ?_)
            refine s_do rfl ha (ltd rfl) (d_move ha rfl) (fun a ha => ?_)
            refine s_do rfl ha (ltd rfl) (d_lenS ha rfl Try.runUnderlying29) (fun a ha => ?_)
            refine s_do rfl ha (ltd rfl) (d_sub ha rfl rfl) (fun a ha => ?_)
            obtain ⟨s22, w23, e24, h⟩ := bs2 h
            refine s_do rfl ha (ltd rfl) (d_apZ ha rfl rfl e24) (fun a ha => ?_)
            refine s_do rfl ha (ltd rfl) (d_assign ha rfl) (fun a ha => ?_)
            refine s_nil ?_
            refine t_n ?_
            replace ha : Has 42 [(0, (.pointer a0)), (1, (.int .i64 a1)), (7, (Sl.v s22))] _ := ha.sub ⟨rfl, rfl, rfl, trivial⟩
            refine wp_seq ?_
            refine region_lit ?_
            refine s_do rfl ha (ltd rfl) (d_move ha rfl) (fun a ha => ?_)
            refine s_do rfl ha (ltd rfl) (d_move ha rfl) (fun a ha => ?_)
            refine s_do rfl ha (ltd rfl) (d_nilp ha rfl e3) (fun a ha => ?_)
            refine s_do rfl ha (ltd rfl) (d_fa ha rfl Try.runUnderlying95 rfl rfl Try.sizeOf93 (by decide)) (fun a ha => ?_)
            obtain ⟨v25, e26, h⟩ := bs1 h
            refine s_do rfl ha (ltd rfl) (d_ld ha rfl Try.isAgg93 (ldL_c e26)) (fun a ha => ?_)
            refine s_do rfl ha (ltd rfl) (d_move ha rfl) (fun a ha => ?_)
            refine s_do rfl ha (ltd rfl) (d_move ha rfl) (fun a ha => ?_)
            refine s_do rfl ha (ltd rfl) (d_build (vs := [(0, (.int .i64 a1)), (1, (Sl.v s22))]) (pl := #[(0, 1), (1, 1)]) (cs := ([.int .i64 a1, Sl.v s22])) ha ⟨rfl, rfl, rfl, rfl, trivial⟩ Try.zeroValue106 Try.runUnderlying106 (by intro w; kernel_rfl) (by kernel_rfl)) (fun a ha => ?_)
            obtain ⟨s27, w28, e29, h⟩ := bs2 h
            refine s_do rfl ha (ltd rfl) (d_bsl (vs := [(0, (.agg (List.toArray ([.int .i64 a1, Sl.v s22]))))]) (ps := [([.int .i64 a1, Sl.v s22])]) ha ⟨rfl, rfl, trivial⟩ ⟨rfl, rfl, trivial⟩ rfl Try.runUnderlying93 Try.sizeOf106 Try.zeroValue106 (by decide) e29) (fun a ha => ?_)
            obtain ⟨s30, w31, e32, h⟩ := bs2 h
            refine s_do rfl ha (ltd rfl) (d_apS ha rfl rfl e32) (fun a ha => ?_)
            refine s_do rfl ha (ltd rfl) (d_nilp ha rfl e3) (fun a ha => ?_)
            refine s_do rfl ha (ltd rfl) (d_fa ha rfl Try.runUnderlying95 rfl rfl Try.sizeOf93 (by decide)) (fun a ha => ?_)
            obtain ⟨w33, e34, h⟩ := bs1 h
            refine s_do rfl ha (ltd rfl) (d_st ha rfl rfl Try.sizeOf93 e34) (fun a ha => ?_)
            refine s_nil ?_
            refine t_n ?_
            replace ha : Has 42 [] _ := ha.sub trivial
            refine wp_seq ?_
            refine region_lit ?_
            refine s_do rfl ha (ltd rfl) (d_assign ha rfl) (fun a ha => ?_)
            refine s_nil ?_
            refine t_n ?_
            replace ha : Has 42 [(6, (.int .i64 0))] _ := ha.sub ⟨rfl, trivial⟩
            refine wp_ret ?_
            have hS := ha
            cases h
            exact ret1 Try.results48 hS rfl ⟨rfl, rfl⟩

noncomputable def grapevineref09_Disk_Read_l1 (a0 : Option Addr) (a1 : Int) (x17 : Sl) (x18 : Int) (w19 : World) : Option ((Sl × Int × World) ⊕ (Sl × World)) :=
  (a0).bind fun p26 =>
  (ldL w19 (p26.add 1)).bind fun v28 =>
  if (decide (x18 < (v28.n : Int))) = true then
  (bind2 ((ldL w19 (p26.add 1)).bind fun v35 =>
  (ix v35 x18 2).bind fun p37 =>
  (ldI .i64 w19 (p37.add 0)).bind fun v39 =>
  if (v39 == a1) = true then
  ((ldL w19 (p26.add 1)).bind fun v42 =>
  (ix v42 x18 2).bind fun p44 =>
  (ldL w19 (p44.add 1)).bind fun v46 =>
  some (v46, w19))
  else
  (some (x17, w19))) fun v31 w32 =>
  some (.inl (v31, (IntKind.wrap .i64 (x18 + 1)), w32)))
  else
  (some (.inr (x17, w19)))
noncomputable def grapevineref09_Disk_Read (a0 : Option Addr) (a1 : Int) (w : World) : Option (Sl × Int × World) :=
  if (a0.isNone) = true then
  (some (Sl.nil, 1, w))
  else
  ((a0).bind fun p2 =>
  (ldB w (p2.add 3)).bind fun v4 =>
  if v4 = true then
  (some (Sl.nil, 10, w))
  else
  (bind2 (grapevineref09_Disk_has a0 a1 w) fun v7 w8 =>
  if (!v7) = true then
  (some (Sl.nil, 2, w8))
  else
  ((ldL w8 (p2.add 0)).bind fun v11 =>
  (ix v11 a1 1).bind fun p13 =>
  (ldL w8 p13).bind fun v15 =>
  bind2 (loopF (fun s : Sl × Int × World => grapevineref09_Disk_Read_l1 a0 a1 s.1 s.2.1 s.2.2) (v15, 0, w8)) fun v22 w23 =>
  bind2 (bsl w23 5 1 []) fun s48 w49 =>
  bind2 (apS Try.prog 29 s48 v22 w49) fun s51 w52 =>
  some (s51, 0, w52))))
set_option maxHeartbeats 1000000 in
set_option maxRecDepth 100000 in
theorem grapevineref09_Disk_Read_ok {a0 : Option Addr} {a1 : Int} {w w' : World} {r0 : Sl} {r1 : Int} (h : grapevineref09_Disk_Read a0 a1 w = some (r0, r1, w')) : Calls Try.prog 44 #[(.pointer a0), (.int .i64 a1)] w fun e w'' => e = .returned (.tuple #[(Sl.v r0), (.int .i64 r1)]) ∧ w'' = w' := by
  refine calls_dec (n := 55) Try.func44 rfl Try.ntmps44 (by simp) (fun a ha => ?_)
  unfold grapevineref09_Disk_Read at h
  refine wp_seq ?_
  refine region_lit ?_
  refine s_do rfl ha (ltd rfl) (d_assign ha rfl) (fun a ha => ?_)
  refine s_do rfl ha (ltd rfl) (d_assign ha rfl) (fun a ha => ?_)
  refine s_nil ?_
  refine t_n ?_
  replace ha : Has 55 [(0, (.pointer a0)), (1, (.int .i64 a1))] _ := ha.sub ⟨rfl, rfl, trivial⟩
  refine wp_seq ?_
  refine wp_seq ?_
  refine region_lit ?_
  refine s_do rfl ha (ltd rfl) (d_move ha rfl) (fun a ha => ?_)
  refine s_do rfl ha (ltd rfl) (d_eqN ha rfl rfl Try.runUnderlying44) (fun a ha => ?_)
  refine s_nil ?_
  refine t_n ?_
  replace ha : Has 55 [(0, (.pointer a0)), (1, (.int .i64 a1)), (9, (.bool (a0.isNone)))] _ := ha.sub ⟨rfl, rfl, rfl, trivial⟩
  refine s_cond ha rfl h (fun b1 h => ?_) (fun b1 h => ?_)
  · refine wp_seq ?_
    refine region_lit ?_
    refine s_do rfl ha (ltd rfl) (d_assign ha rfl) (fun a ha => ?_)
    refine s_do rfl ha (ltd rfl) (d_assign ha rfl) (fun a ha => ?_)
    refine s_nil ?_
    refine t_n ?_
    replace ha : Has 55 [(4, (Sl.v Sl.nil)), (5, (.int .i64 1))] _ := ha.sub ⟨rfl, rfl, trivial⟩
    refine wp_ret ?_
    refine t_r ?_
    have hS := ha
    cases h
    exact ret2 Try.results44 hS rfl rfl ⟨rfl, rfl⟩
  · refine wp_skip ?_
    refine t_n ?_
    replace ha : Has 55 [(0, (.pointer a0)), (1, (.int .i64 a1))] _ := ha.sub ⟨rfl, rfl, trivial⟩
    refine wp_seq ?_
    refine wp_seq ?_
    refine region_lit ?_
    refine s_do rfl ha (ltd rfl) (d_move ha rfl) (fun a ha => ?_)
    obtain ⟨p2, e3, h⟩ := bs1 h
    refine s_do rfl ha (ltd rfl) (d_nilp ha rfl e3) (fun a ha => ?_)
    refine s_do rfl ha (ltd rfl) (d_fa ha rfl Try.runUnderlying95 rfl rfl Try.sizeOf4 (by decide)) (fun a ha => ?_)
    obtain ⟨v4, e5, h⟩ := bs1 h
    refine s_do rfl ha (ltd rfl) (d_ld ha rfl Try.isAgg4 (ldB_c e5)) (fun a ha => ?_)
    refine s_nil ?_
    refine t_n ?_
    replace ha : Has 55 [(0, (.pointer a0)), (1, (.int .i64 a1)), (13, (.bool v4))] _ := ha.sub ⟨rfl, rfl, rfl, trivial⟩
    refine s_cond ha rfl h (fun b6 h => ?_) (fun b6 h => ?_)
    · refine wp_seq ?_
      refine region_lit ?_
      refine s_do rfl ha (ltd rfl) (d_assign ha rfl) (fun a ha => ?_)
      refine s_do rfl ha (ltd rfl) (d_assign ha rfl) (fun a ha => ?_)
      refine s_nil ?_
      refine t_n ?_
      replace ha : Has 55 [(4, (Sl.v Sl.nil)), (5, (.int .i64 10))] _ := ha.sub ⟨rfl, rfl, trivial⟩
      refine wp_ret ?_
      refine t_r ?_
      have hS := ha
      cases h
      exact ret2 Try.results44 hS rfl rfl ⟨rfl, rfl⟩
    · refine wp_skip ?_
      refine t_n ?_
      replace ha : Has 55 [(0, (.pointer a0)), (1, (.int .i64 a1))] _ := ha.sub ⟨rfl, rfl, trivial⟩
      refine wp_seq ?_
      refine wp_seq ?_
      refine region_lit ?_
      refine s_do rfl ha (ltd rfl) (d_move ha rfl) (fun a ha => ?_)
      refine s_do rfl ha (ltd rfl) (d_move ha rfl) (fun a ha => ?_)
      obtain ⟨v7, w8, e9, h⟩ := bs2 h
      refine s_do rfl ha (ltd rfl) (d_call (xs := [_, _]) (vs := [(.pointer a0), (.int .i64 a1)]) ha ⟨rfl, rfl, trivial⟩ Try.call57 (grapevineref09_Disk_has_ok e9)) (fun a ha => ?_)
      refine s_do rfl ha (ltd rfl) (d_not ha rfl) (fun a ha => ?_)
      refine s_nil ?_
      refine t_n ?_
      replace ha : Has 55 [(0, (.pointer a0)), (1, (.int .i64 a1)), (17, (.bool (!v7)))] _ := ha.sub ⟨rfl, rfl, rfl, trivial⟩
      refine s_cond ha rfl h (fun b10 h => ?_) (fun b10 h => ?_)
      · refine wp_seq ?_
        refine region_lit ?_
        refine s_do rfl ha (ltd rfl) (d_assign ha rfl) (fun a ha => ?_)
        refine s_do rfl ha (ltd rfl) (d_assign ha rfl) (fun a ha => ?_)
        refine s_nil ?_
        refine t_n ?_
        replace ha : Has 55 [(4, (Sl.v Sl.nil)), (5, (.int .i64 2))] _ := ha.sub ⟨rfl, rfl, trivial⟩
        refine wp_ret ?_
        refine t_r ?_
        have hS := ha
        cases h
        exact ret2 Try.results44 hS rfl rfl ⟨rfl, rfl⟩
      · refine wp_skip ?_
        refine t_n ?_
        replace ha : Has 55 [(0, (.pointer a0)), (1, (.int .i64 a1))] _ := ha.sub ⟨rfl, rfl, trivial⟩
        refine wp_seq ?_
        refine region_lit ?_
        refine s_do rfl ha (ltd rfl) (d_move ha rfl) (fun a ha => ?_)
        refine s_do rfl ha (ltd rfl) (d_nilp ha rfl e3) (fun a ha => ?_)
        refine s_do rfl ha (ltd rfl) (d_fa ha rfl Try.runUnderlying95 rfl rfl Try.sizeOf92 (by decide)) (fun a ha => ?_)
        obtain ⟨v11, e12, h⟩ := bs1 h
        refine s_do rfl ha (ltd rfl) (d_ld ha rfl Try.isAgg92 (ldL_c e12)) (fun a ha => ?_)
        refine s_do rfl ha (ltd rfl) (d_move ha rfl) (fun a ha => ?_)
        obtain ⟨p13, e14, h⟩ := bs1 h
        refine s_do rfl ha (ltd rfl) (d_ix ha rfl rfl Try.runUnderlying92 Try.sizeOf29 e14) (fun a ha => ?_)
        obtain ⟨v15, e16, h⟩ := bs1 h
        refine s_do rfl ha (ltd rfl) (d_ld ha rfl Try.isAgg29 (ldL_c e16)) (fun a ha => ?_)
        refine s_do rfl ha (ltd rfl) (d_assign ha rfl) (fun a ha => ?_)
        refine s_nil ?_
        refine t_n ?_
        replace ha : Has 55 [(0, (.pointer a0)), (1, (.int .i64 a1)), (6, (Sl.v v15))] _ := ha.sub ⟨rfl, rfl, rfl, trivial⟩
        refine wp_seq ?_
        refine wp_seq ?_
        refine region_lit ?_
        refine s_do rfl ha (ltd rfl) (d_assign ha rfl) (fun a ha => ?_)
        refine s_nil ?_
        refine t_n ?_
        replace ha : Has 55 [(0, (.pointer a0)), (1, (.int .i64 a1)), (6, (Sl.v v15)), (7, (.int .i64 0))] _ := ha.sub ⟨rfl, rfl, rfl, rfl, trivial⟩
        refine wp_block ?_
        obtain ⟨v22, w23, e21, h⟩ := bs2 h
        refine s_loop1 (n := 55) (L := [(6, (Sl.v v22))]) (w' := w23) (e := .exit 0) (I := fun (s : Sl × Int × World) a w => Has 55 [(6, (Sl.v s.1)), (7, (.int .i64 s.2.1)), (0, (.pointer a0)), (1, (.int .i64 a1))] a ∧ w = s.2.2) ⟨ha.sub ⟨rfl, rfl, rfl, rfl, trivial⟩, rfl⟩ e21 (fun a ha => ?_) (fun hk24 => ?_)
        · refine b_hit ?_
          refine t_n ?_
          replace ha : Has 55 [(6, (Sl.v v22))] _ := ha.sub ⟨rfl, trivial⟩
          refine wp_seq ?_
          refine region_lit ?_
          obtain ⟨s48, w49, e50, h⟩ := bs2 h
          refine s_do rfl ha (ltd rfl) (d_bsl (vs := []) (ps := []) ha trivial trivial rfl Try.runUnderlying29 Try.sizeOf5 Try.zeroValue5 (by decide) e50) (fun a ha => ?_)
          refine s_do rfl ha (ltd rfl) (d_move ha rfl) (fun a ha => ?_)
          obtain ⟨s51, w52, e53, h⟩ := bs2 h
          refine s_do rfl ha (ltd rfl) (d_apS ha rfl rfl e53) (fun a ha => ?_)
          refine s_do rfl ha (ltd rfl) (d_assign ha rfl) (fun a ha => ?_)
          refine s_do rfl ha (ltd rfl) (d_assign ha rfl) (fun a ha => ?_)
          refine s_nil ?_
          refine t_n ?_
          replace ha : Has 55 [(4, (Sl.v s51)), (5, (.int .i64 0))] _ := ha.sub ⟨rfl, rfl, trivial⟩
          refine wp_ret ?_
          have hS := ha
          cases h
          exact ret2 Try.results44 hS rfl rfl ⟨rfl, rfl⟩
        · clear h
          rintro ⟨x17, x18, w19⟩ a wq o ⟨ha, hwq⟩ h hr25
          obtain rfl : w19 = wq := hwq.symm
          have ha : Has 55 [(6, (Sl.v x17)), (7, (.int .i64 x18)), (0, (.pointer a0)), (1, (.int .i64 a1))] a := ha
          have h : grapevineref09_Disk_Read_l1 a0 a1 x17 x18 w19 = some o := h
          unfold grapevineref09_Disk_Read_l1 at h
          refine wp_seq ?_
          refine wp_seq ?_
          refine region_lit ?_
          refine s_do rfl ha (ltd rfl) (d_move ha rfl) (fun a ha => ?_)
          refine s_do rfl ha (ltd rfl) (d_move ha rfl) (fun a ha => ?_)
          obtain ⟨p26, e27, h⟩ := bs1 h
          refine s_do rfl ha (ltd rfl) (d_nilp ha rfl e27) (fun a ha => ?_)
          refine s_do rfl ha (ltd rfl) (d_fa ha rfl Try.runUnderlying95 rfl rfl Try.sizeOf93 (by decide)) (fun a ha => ?_)
          obtain ⟨v28, e29, h⟩ := bs1 h
          refine s_do rfl ha (ltd rfl) (d_ld ha rfl Try.isAgg93 (ldL_c e29)) (fun a ha => ?_)
          refine s_do rfl ha (ltd rfl) (d_lenS ha rfl Try.runUnderlying93) (fun a ha => ?_)
          refine s_do rfl ha (ltd rfl) (d_lt ha rfl rfl) (fun a ha => ?_)
          refine s_nil ?_
          refine t_n ?_
          replace ha : Has 55 [(0, (.pointer a0)), (1, (.int .i64 a1)), (6, (Sl.v x17)), (7, (.int .i64 x18)), (31, (.bool (decide (x18 < (v28.n : Int)))))] _ := ha.sub ⟨rfl, rfl, rfl, rfl, rfl, trivial⟩
          refine s_cond ha rfl h (fun b30 h => ?_) (fun b30 h => ?_)
          · refine wp_skip ?_
            refine t_n ?_
            replace ha : Has 55 [(0, (.pointer a0)), (1, (.int .i64 a1)), (6, (Sl.v x17)), (7, (.int .i64 x18))] _ := ha.sub ⟨rfl, rfl, rfl, rfl, trivial⟩
            obtain ⟨v31, w32, e33, h⟩ := bs2 h
            refine seq_join (n := 55) (L := [(6, (Sl.v v31)), (0, (.pointer a0)), (1, (.int .i64 a1)), (7, (.int .i64 x18))]) (w' := w32) (fun a ha => ?_) (fun hk34 => ?_)
            · refine region_lit ?_
              refine s_do rfl ha (ltd rfl) (d_move ha rfl) (fun a ha => ?_)
              refine s_do rfl ha (ltd rfl) (d_add ha rfl rfl) (fun a ha => ?_)
              refine s_do rfl ha (ltd rfl) (d_assign ha rfl) (fun a ha => ?_)
              refine s_nil ?_
              have hS : Has 55 [(6, (Sl.v v31)), (7, (.int .i64 (IntKind.wrap .i64 (x18 + 1)))), (0, (.pointer a0)), (1, (.int .i64 a1))] _ := ha.sub ⟨rfl, rfl, rfl, rfl, trivial⟩
              cases h
              exact lp_next ⟨hS, rfl⟩
            · clear h
              have h := e33
              refine wp_block ?_
              refine wp_seq ?_
              refine region_lit ?_
              refine s_do rfl ha (ltd rfl) (d_move ha rfl) (fun a ha => ?_)
              refine s_do rfl ha (ltd rfl) (d_nilp ha rfl e27) (fun a ha => ?_)
              refine s_do rfl ha (ltd rfl) (d_fa ha rfl Try.runUnderlying95 rfl rfl Try.sizeOf93 (by decide)) (fun a ha => ?_)
              obtain ⟨v35, e36, h⟩ := bs1 h
              refine s_do rfl ha (ltd rfl) (d_ld ha rfl Try.isAgg93 (ldL_c e36)) (fun a ha => ?_)
              refine s_do rfl ha (ltd rfl) (d_move ha rfl) (fun a ha => ?_)
              obtain ⟨p37, e38, h⟩ := bs1 h
              refine s_do rfl ha (ltd rfl) (d_ix ha rfl rfl Try.runUnderlying93 Try.sizeOf106 e38) (fun a ha => ?_)
              refine s_do rfl ha (ltd rfl) (d_fa ha rfl Try.runUnderlying106 rfl rfl Try.sizeOf3 (by decide)) (fun a ha => ?_)
              obtain ⟨v39, e40, h⟩ := bs1 h
              refine s_do rfl ha (ltd rfl) (d_ld ha rfl Try.isAgg3 (ldI_c e40)) (fun a ha => ?_)
              refine s_do rfl ha (ltd rfl) (d_move ha rfl) (fun a ha => ?_)
              refine s_do rfl ha (ltd rfl) (d_eq ha rfl rfl) (fun a ha => ?_)
              refine s_nil ?_
              refine t_n ?_
              replace ha : Has 55 [(0, (.pointer a0)), (1, (.int .i64 a1)), (6, (Sl.v x17)), (7, (.int .i64 x18)), (43, (.bool (v39 == a1)))] _ := ha.sub ⟨rfl, rfl, rfl, rfl, rfl, trivial⟩
              refine s_cond ha rfl h (fun b41 h => ?_) (fun b41 h => ?_)
              · refine region_lit ?_
                refine s_do rfl ha (ltd rfl) (d_move ha rfl) (fun a ha => ?_)
                refine s_do rfl ha (ltd rfl) (d_nilp ha rfl e27) (fun a ha => ?_)
                refine s_do rfl ha (ltd rfl) (d_fa ha rfl Try.runUnderlying95 rfl rfl Try.sizeOf93 (by decide)) (fun a ha => ?_)
                obtain ⟨v42, e43, h⟩ := bs1 h
                refine s_do rfl ha (ltd rfl) (d_ld ha rfl Try.isAgg93 (ldL_c e43)) (fun a ha => ?_)
                refine s_do rfl ha (ltd rfl) (d_move ha rfl) (fun a ha => ?_)
                obtain ⟨p44, e45, h⟩ := bs1 h
                refine s_do rfl ha (ltd rfl) (d_ix ha rfl rfl Try.runUnderlying93 Try.sizeOf106 e45) (fun a ha => ?_)
                refine s_do rfl ha (ltd rfl) (d_fa ha rfl Try.runUnderlying106 rfl rfl Try.sizeOf29 (by decide)) (fun a ha => ?_)
                obtain ⟨v46, e47, h⟩ := bs1 h
                refine s_do rfl ha (ltd rfl) (d_ld ha rfl Try.isAgg29 (ldL_c e47)) (fun a ha => ?_)
                refine s_do rfl ha (ltd rfl) (d_assign ha rfl) (fun a ha => ?_)
                refine s_nil ?_
                refine b_n ?_
                have hS : Has 55 [(6, (Sl.v v46)), (0, (.pointer a0)), (1, (.int .i64 a1)), (7, (.int .i64 x18))] _ := ha.sub ⟨rfl, rfl, rfl, rfl, trivial⟩
                cases h
                exact hk34 _ hS
              · refine wp_skip ?_
                refine b_n ?_
                have hS : Has 55 [(6, (Sl.v x17)), (0, (.pointer a0)), (1, (.int .i64 a1)), (7, (.int .i64 x18))] _ := ha.sub ⟨rfl, rfl, rfl, rfl, trivial⟩
                cases h
                exact hk34 _ hS
          · refine wp_exit ?_
            refine t_x ?_
            have hS : Has 55 [(6, (Sl.v x17))] _ := ha.sub ⟨rfl, trivial⟩
            cases h
            cases hr25 _ rfl
            refine lp_x ?_
            exact hk24 _ hS

noncomputable def grapevineref09_Disk_put (a0 : Option Addr) (a1 : List Value) (a2 : Int) (w : World) : Option (World) :=
  bind2 (mk w 106 a1) fun p1 w2 =>
  bind2 (bsl w2 5 1 []) fun s4 w5 =>
  (ldL w5 (p1.add 1)).bind fun v7 =>
  (slS v7 0 a2 (v7.c : Int) 1).bind fun s9 =>
  bind2 (apS Try.prog 29 s4 s9 w5) fun s11 w12 =>
  (dr w12).bind fun w14 =>
  (a0).bind fun p16 =>
  (ldL w14 (p16.add 0)).bind fun v18 =>
  (ldI .i64 w14 (p1.add 0)).bind fun v20 =>
  (ldL w14 (p16.add 0)).bind fun v22 =>
  (ldI .i64 w14 (p1.add 0)).bind fun v24 =>
  (ix v22 v24 1).bind fun p26 =>
  (ldL w14 p26).bind fun v28 =>
  (slS v28 a2 (v28.n : Int) (v28.c : Int) 1).bind fun s30 =>
  bind2 (apS Try.prog 29 s11 s30 w14) fun s32 w33 =>
  (ix v18 v20 1).bind fun p35 =>
  (stV w33 p35 (Sl.v s32)).bind fun w37 =>
  chk (ldL w33 (p16.add 0) = some v18) <|
  chk (ldI .i64 w33 (p1.add 0) = some v20) <|
  some w37
set_option maxHeartbeats 1000000 in
set_option maxRecDepth 100000 in
theorem grapevineref09_Disk_put_ok {a0 : Option Addr} {a1 : List Value} {a2 : Int} {w w' : World} (h : grapevineref09_Disk_put a0 a1 a2 w = some w') : Calls Try.prog 59 #[(.pointer a0), (.agg (List.toArray a1)), (.int .i64 a2)] w fun e w'' => e = .returned (.tuple #[]) ∧ w'' = w' := by
  refine calls_dec (n := 32) Try.func59 rfl Try.ntmps59 (by simp) (fun a ha => ?_)
  unfold grapevineref09_Disk_put at h
  refine wp_seq ?_
  refine region_lit ?_
  obtain ⟨p1, w2, e3, h⟩ := bs2 h
  refine s_do rfl ha (ltd rfl) (d_box ha rfl rfl e3) (fun a ha => ?_)
  refine s_nil ?_
  refine t_n ?_
  replace ha : Has 32 [(0, (.pointer a0)), (2, (.int .i64 a2)), (4, (.pointer (some p1)))] _ := ha.sub ⟨rfl, rfl, rfl, trivial⟩
  refine wp_seq ?_
  refine region_lit ?_
  obtain ⟨s4, w5, e6, h⟩ := bs2 h
  refine s_do rfl ha (ltd rfl) (d_bsl (vs := []) (ps := []) ha trivial trivial rfl Try.runUnderlying29 Try.sizeOf5 Try.zeroValue5 (by decide) e6) (fun a ha => ?_)
  refine s_do rfl ha (ltd rfl) (d_fa ha rfl Try.runUnderlying106 rfl rfl Try.sizeOf29 (by decide)) (fun a ha => ?_)
  obtain ⟨v7, e8, h⟩ := bs1 h
  refine s_do rfl ha (ltd rfl) (d_ld ha rfl Try.isAgg29 (ldL_c e8)) (fun a ha => ?_)
  refine s_do rfl ha (ltd rfl) (d_move ha rfl) (fun a ha => ?_)
  obtain ⟨s9, e10, h⟩ := bs1 h
  refine s_do rfl ha (ltd rfl) (d_slS ha rfl Try.runUnderlying29 Try.sizeOf5 rfl ⟨_, rfl⟩ rfl (by simp) e10) (fun a ha => ?_)
  obtain ⟨s11, w12, e13, h⟩ := bs2 h
  refine s_do rfl ha (ltd rfl) (d_apS ha rfl rfl e13) (fun a ha => ?_)
  refine s_do rfl ha (ltd rfl) (d_assign ha rfl) (fun a ha => ?_)
  refine s_nil ?_
  refine t_n ?_
  replace ha : Has 32 [(0, (.pointer a0)), (2, (.int .i64 a2)), (4, (.pointer (some p1))), (6, (Sl.v s11))] _ := ha.sub ⟨rfl, rfl, rfl, rfl, trivial⟩
  obtain ⟨w14, e15, h⟩ := bs1 h
  obtain ⟨p16, e17, h⟩ := bs1 h
  obtain ⟨v18, e19, h⟩ := bs1 h
  obtain ⟨v20, e21, h⟩ := bs1 h
  obtain ⟨v22, e23, h⟩ := bs1 h
  obtain ⟨v24, e25, h⟩ := bs1 h
  obtain ⟨p26, e27, h⟩ := bs1 h
  obtain ⟨v28, e29, h⟩ := bs1 h
  obtain ⟨s30, e31, h⟩ := bs1 h
  obtain ⟨s32, w33, e34, h⟩ := bs2 h
  obtain ⟨p35, e36, h⟩ := bs1 h
  obtain ⟨w37, e38, h⟩ := bs1 h
  obtain ⟨e39, h⟩ := chk_some h
  obtain ⟨e40, h⟩ := chk_some h
  have ha : Has 32 [(0, (.pointer a0)), (2, (.int .i64 a2)), (4, (.pointer (some p1))), (6, (Sl.v s11))] a := ha.sub ⟨rfl, rfl, rfl, rfl, trivial⟩
  refine region_draw (n := 32) (ds := (⟨_, (.pointer a0), false, 0, 1, [], [(0, (.pointer a0))]⟩ :: ⟨_, (.pointer (some p16)), false, 0, 1, [0], [(13, (.pointer a0))]⟩ :: ⟨_, (.pointer (some (p16.add 0))), false, 0, 1, [0, 1], [(14, (.pointer (some p16)))]⟩ :: ⟨_, (Sl.v v18), false, 0, 1, [0, 1, 2], [(15, (.pointer (some (p16.add 0))))]⟩ :: ⟨_, (.pointer (some (p1.add 0))), false, 0, 1, [], [(4, (.pointer (some p1)))]⟩ :: ⟨_, (.int .i64 v20), false, 0, 1, [4], [(17, (.pointer (some (p1.add 0))))]⟩ :: ⟨_, (Sl.v s11), false, 0, 0, [], [(6, (Sl.v s11))]⟩ :: ⟨_, (.pointer a0), false, 0, 0, [], [(0, (.pointer a0))]⟩ :: ⟨_, (.pointer (some p16)), false, 0, 0, [7], [(20, (.pointer a0))]⟩ :: ⟨_, (.pointer (some (p16.add 0))), false, 0, 0, [7, 8], [(21, (.pointer (some p16)))]⟩ :: ⟨_, (Sl.v v22), false, 0, 0, [7, 8, 9], [(22, (.pointer (some (p16.add 0))))]⟩ :: ⟨_, (.pointer (some (p1.add 0))), false, 0, 0, [], [(4, (.pointer (some p1)))]⟩ :: ⟨_, (.int .i64 v24), false, 0, 0, [11], [(24, (.pointer (some (p1.add 0))))]⟩ :: ⟨_, (.pointer (some p26)), false, 0, 0, [7, 8, 9, 10, 11, 12], [(23, (Sl.v v22)), (25, (.int .i64 v24))]⟩ :: ⟨_, (Sl.v v28), false, 0, 0, [7, 8, 9, 10, 11, 12, 13], [(26, (.pointer (some p26)))]⟩ :: ⟨_, (.int .i64 a2), false, 0, 0, [], [(2, (.int .i64 a2))]⟩ :: ⟨_, (Sl.v s30), false, 0, 0, [7, 8, 9, 10, 11, 12, 13, 14, 15], [(27, (Sl.v v28)), (28, (.int .i64 a2))]⟩ :: ⟨_, (Sl.v s32), true, 0, 0, [6, 7, 8, 9, 10, 11, 12, 13, 14, 15, 16], [(19, (Sl.v s11)), (29, (Sl.v s30))]⟩ :: ⟨_, (.pointer (some p35)), false, 1, 1, (0 :: 1 :: 2 :: 3 :: 4 :: 5 :: 6 :: 7 :: 8 :: 9 :: 10 :: 11 :: 12 :: 13 :: 14 :: 15 :: 16 :: 17 :: []), [(16, (Sl.v v18)), (18, (.int .i64 v20))]⟩ :: ⟨_, undef, true, 1, 1, (0 :: 1 :: 2 :: 3 :: 4 :: 5 :: 6 :: 7 :: 8 :: 9 :: 10 :: 11 :: 12 :: 13 :: 14 :: 15 :: 16 :: 17 :: 18 :: []), [(31, (.pointer (some p35))), (30, (Sl.v s32))]⟩ :: [])) (W := (fun j => match j with | 0 => w14 | 1 => w33 | _ => w37)) (by kernel_rfl) ha (dr_w e15) (by kernel_rfl) ?_ (reads_of (by kernel_rfl)) (by kernel_rfl) (m := 2) (by kernel_rfl) (fun a ha => ?_)
  · refine ⟨?_, ?_, ?_, ?_, ?_, ?_, ?_, ?_, ?_, ?_, ?_, ?_, ?_, ?_, ?_, ?_, ?_, ?_, ?_, ?_, trivial⟩
    · intro j _ _; exact ok_do rfl fun a ha => d_move ha rfl
    · intro j _ _; exact ok_do rfl fun a ha => d_nilp ha rfl e17
    · intro j _ _; exact ok_do rfl fun a ha => d_fa ha rfl Try.runUnderlying95 rfl rfl Try.sizeOf92 (by decide)
    · intro j h1 h2; have h1 : 0 ≤ j := h1; have h2 : j ≤ 1 := h2; rcases (by omega : j = 0 ∨ j = 1) with rfl | rfl
      · exact ok_do rfl fun a ha => d_ld ha rfl Try.isAgg92 (ldL_c e19)
      · exact ok_do rfl fun a ha => d_ld ha rfl Try.isAgg92 (ldL_c e39)
    · intro j _ _; exact ok_do rfl fun a ha => d_fa ha rfl Try.runUnderlying106 rfl rfl Try.sizeOf3 (by decide)
    · intro j h1 h2; have h1 : 0 ≤ j := h1; have h2 : j ≤ 1 := h2; rcases (by omega : j = 0 ∨ j = 1) with rfl | rfl
      · exact ok_do rfl fun a ha => d_ld ha rfl Try.isAgg3 (ldI_c e21)
      · exact ok_do rfl fun a ha => d_ld ha rfl Try.isAgg3 (ldI_c e40)
    · intro j _ _; exact ok_do rfl fun a ha => d_move ha rfl
    · intro j _ _; exact ok_do rfl fun a ha => d_move ha rfl
    · intro j _ _; exact ok_do rfl fun a ha => d_nilp ha rfl e17
    · intro j _ _; exact ok_do rfl fun a ha => d_fa ha rfl Try.runUnderlying95 rfl rfl Try.sizeOf92 (by decide)
    · intro j h1 h2; obtain rfl : j = 0 := Nat.le_antisymm h2 h1; exact ok_do rfl fun a ha => d_ld ha rfl Try.isAgg92 (ldL_c e23)
    · intro j _ _; exact ok_do rfl fun a ha => d_fa ha rfl Try.runUnderlying106 rfl rfl Try.sizeOf3 (by decide)
    · intro j h1 h2; obtain rfl : j = 0 := Nat.le_antisymm h2 h1; exact ok_do rfl fun a ha => d_ld ha rfl Try.isAgg3 (ldI_c e25)
    · intro j _ _; exact ok_do rfl fun a ha => d_ix ha rfl rfl Try.runUnderlying92 Try.sizeOf29 e27
    · intro j h1 h2; obtain rfl : j = 0 := Nat.le_antisymm h2 h1; exact ok_do rfl fun a ha => d_ld ha rfl Try.isAgg29 (ldL_c e29)
    · intro j _ _; exact ok_do rfl fun a ha => d_move ha rfl
    · intro j _ _; exact ok_do rfl fun a ha => d_slS ha rfl Try.runUnderlying29 Try.sizeOf5 ⟨_, rfl⟩ rfl rfl (by simp) e31
    · intro j h1 h2; obtain rfl : j = 0 := Nat.le_antisymm h2 h1; exact ok_do rfl fun a ha => d_apS ha rfl rfl e34
    · intro j _ _; exact ok_do rfl fun a ha => d_ix ha rfl rfl Try.runUnderlying92 Try.sizeOf29 e36
    · intro j h1 h2; obtain rfl : j = 1 := Nat.le_antisymm h2 h1; exact ok_do rfl fun a ha => d_st ha rfl rfl Try.sizeOf29 e38
  · have ha : Has 32 [] a := ha.sub trivial
    have hS := ha
    cases h
    exact end0 Try.results59 hS ⟨rfl, rfl⟩

noncomputable def grapevineref09_Disk_Sync_l1 (a0 : Option Addr) (x15 : Int) (w16 : World) : Option ((Int × World) ⊕ (World)) :=
  (a0).bind fun p22 =>
  (ldL w16 (p22.add 1)).bind fun v24 =>
  if (decide (x15 < (v24.n : Int))) = true then
  ((ldL w16 (p22.add 1)).bind fun v27 =>
  (ix v27 x15 2).bind fun p29 =>
  (ldA 2 w16 p29 0).bind fun c31 =>
  (grapevineref09_Disk_put a0 c31 64 w16).bind fun w33 =>
  some (.inl ((IntKind.wrap .i64 (x15 + 1)), w33)))
  else
  (some (.inr w16))
noncomputable def grapevineref09_Disk_Sync (a0 : Option Addr) (w : World) : Option (Int × World) :=
  if (a0.isNone) = true then
  (some (1, w))
  else
  (bind2 ((a0).bind fun p6 =>
  (ldB w (p6.add 3)).bind fun v8 =>
  if v8 = true then
  (some (true, w))
  else
  (bind2 (grapevineref09_Disk_trips a0 w) fun v11 w12 =>
  some (v11, w12))) fun v2 w3 =>
  if v2 = true then
  (some (10, w3))
  else
  ((loopF (fun s : Int × World => grapevineref09_Disk_Sync_l1 a0 s.1 s.2) (0, w3)).bind fun w19 =>
  (a0).bind fun p35 =>
  (stV w19 (p35.add 1) (Sl.v Sl.nil)).bind fun w37 =>
  some (0, w37)))
set_option maxHeartbeats 1000000 in
set_option maxRecDepth 100000 in
theorem grapevineref09_Disk_Sync_ok {a0 : Option Addr} {w w' : World} {r0 : Int} (h : grapevineref09_Disk_Sync a0 w = some (r0, w')) : Calls Try.prog 49 #[(.pointer a0)] w fun e w'' => e = .returned (.int .i64 r0) ∧ w'' = w' := by
  refine calls_dec (n := 35) Try.func49 rfl Try.ntmps49 (by simp) (fun a ha => ?_)
  unfold grapevineref09_Disk_Sync at h
  refine wp_seq ?_
  refine region_lit ?_
  refine s_do rfl ha (ltd rfl) (d_assign ha rfl) (fun a ha => ?_)
  refine s_nil ?_
  refine t_n ?_
  replace ha : Has 35 [(0, (.pointer a0))] _ := ha.sub ⟨rfl, trivial⟩
  refine wp_seq ?_
  refine wp_seq ?_
  refine region_lit ?_
  refine s_do rfl ha (ltd rfl) (d_move ha rfl) (fun a ha => ?_)
  refine s_do rfl ha (ltd rfl) (d_eqN ha rfl rfl Try.runUnderlying44) (fun a ha => ?_)
  refine s_nil ?_
  refine t_n ?_
  replace ha : Has 35 [(0, (.pointer a0)), (5, (.bool (a0.isNone)))] _ := ha.sub ⟨rfl, rfl, trivial⟩
  refine s_cond ha rfl h (fun b1 h => ?_) (fun b1 h => ?_)
  · refine wp_seq ?_
    refine region_lit ?_
    refine s_do rfl ha (ltd rfl) (d_assign ha rfl) (fun a ha => ?_)
    refine s_nil ?_
    refine t_n ?_
    replace ha : Has 35 [(2, (.int .i64 1))] _ := ha.sub ⟨rfl, trivial⟩
    refine wp_ret ?_
    refine t_r ?_
    have hS := ha
    cases h
    exact ret1 Try.results49 hS rfl ⟨rfl, rfl⟩
  · refine wp_skip ?_
    refine t_n ?_
    replace ha : Has 35 [(0, (.pointer a0))] _ := ha.sub ⟨rfl, trivial⟩
    refine wp_seq ?_
    refine wp_seq ?_
    obtain ⟨v2, w3, e4, h⟩ := bs2 h
    refine reg_join (n := 35) (L := [(13, (.bool v2)), (0, (.pointer a0))]) (w' := w3) (fun a ha => ?_) (fun hk5 => ?_)
    · refine t_n ?_
      replace ha : Has 35 [(0, (.pointer a0)), (13, (.bool v2))] _ := ha.sub ⟨rfl, rfl, trivial⟩
      refine s_cond ha rfl h (fun b14 h => ?_) (fun b14 h => ?_)
      · refine wp_seq ?_
        refine region_lit ?_
        refine s_do rfl ha (ltd rfl) (d_assign ha rfl) (fun a ha => ?_)
        refine s_nil ?_
        refine t_n ?_
        replace ha : Has 35 [(2, (.int .i64 10))] _ := ha.sub ⟨rfl, trivial⟩
        refine wp_ret ?_
        refine t_r ?_
        have hS := ha
        cases h
        exact ret1 Try.results49 hS rfl ⟨rfl, rfl⟩
      · refine wp_skip ?_
        refine t_n ?_
        replace ha : Has 35 [(0, (.pointer a0))] _ := ha.sub ⟨rfl, trivial⟩
        refine wp_seq ?_
        refine wp_seq ?_
        refine region_lit ?_
        refine s_do rfl ha (ltd rfl) (d_assign ha rfl) (fun a ha => ?_)
        refine s_nil ?_
        refine t_n ?_
        replace ha : Has 35 [(0, (.pointer a0)), (3, (.int .i64 0))] _ := ha.sub ⟨rfl, rfl, trivial⟩
        refine wp_block ?_
        obtain ⟨w19, e18, h⟩ := bs1 h
        refine s_loop1 (n := 35) (L := [(0, (.pointer a0))]) (w' := w19) (e := .exit 0) (I := fun (s : Int × World) a w => Has 35 [(3, (.int .i64 s.1)), (0, (.pointer a0))] a ∧ w = s.2) ⟨ha.sub ⟨rfl, rfl, trivial⟩, rfl⟩ e18 (fun a ha => ?_) (fun hk20 => ?_)
        · refine b_hit ?_
          refine t_n ?_
          replace ha : Has 35 [(0, (.pointer a0))] _ := ha.sub ⟨rfl, trivial⟩
          refine wp_seq ?_
          refine region_lit ?_
          refine s_do rfl ha (ltd rfl) (d_move ha rfl) (fun a ha => ?_)
          obtain ⟨p35, e36, h⟩ := bs1 h
          refine s_do rfl ha (ltd rfl) (d_nilp ha rfl e36) (fun a ha => ?_)
          refine s_do rfl ha (ltd rfl) (d_fa ha rfl Try.runUnderlying95 rfl rfl Try.sizeOf93 (by decide)) (fun a ha => ?_)
          obtain ⟨w37, e38, h⟩ := bs1 h
          refine s_do rfl ha (ltd rfl) (d_st ha rfl rfl Try.sizeOf93 e38) (fun a ha => ?_)
          refine s_nil ?_
          refine t_n ?_
          replace ha : Has 35 [] _ := ha.sub trivial
          refine wp_seq ?_
          refine region_lit ?_
          refine s_do rfl ha (ltd rfl) (d_assign ha rfl) (fun a ha => ?_)
          refine s_nil ?_
          refine t_n ?_
          replace ha : Has 35 [(2, (.int .i64 0))] _ := ha.sub ⟨rfl, trivial⟩
          refine wp_ret ?_
          have hS := ha
          cases h
          exact ret1 Try.results49 hS rfl ⟨rfl, rfl⟩
        · clear h
          rintro ⟨x15, w16⟩ a wq o ⟨ha, hwq⟩ h hr21
          obtain rfl : w16 = wq := hwq.symm
          have ha : Has 35 [(3, (.int .i64 x15)), (0, (.pointer a0))] a := ha
          have h : grapevineref09_Disk_Sync_l1 a0 x15 w16 = some o := h
          unfold grapevineref09_Disk_Sync_l1 at h
          refine wp_seq ?_
          refine wp_seq ?_
          refine region_lit ?_
          refine s_do rfl ha (ltd rfl) (d_move ha rfl) (fun a ha => ?_)
          refine s_do rfl ha (ltd rfl) (d_move ha rfl) (fun a ha => ?_)
          obtain ⟨p22, e23, h⟩ := bs1 h
          refine s_do rfl ha (ltd rfl) (d_nilp ha rfl e23) (fun a ha => ?_)
          refine s_do rfl ha (ltd rfl) (d_fa ha rfl Try.runUnderlying95 rfl rfl Try.sizeOf93 (by decide)) (fun a ha => ?_)
          obtain ⟨v24, e25, h⟩ := bs1 h
          refine s_do rfl ha (ltd rfl) (d_ld ha rfl Try.isAgg93 (ldL_c e25)) (fun a ha => ?_)
          refine s_do rfl ha (ltd rfl) (d_lenS ha rfl Try.runUnderlying93) (fun a ha => ?_)
          refine s_do rfl ha (ltd rfl) (d_lt ha rfl rfl) (fun a ha => ?_)
          refine s_nil ?_
          refine t_n ?_
          replace ha : Has 35 [(0, (.pointer a0)), (3, (.int .i64 x15)), (20, (.bool (decide (x15 < (v24.n : Int)))))] _ := ha.sub ⟨rfl, rfl, rfl, trivial⟩
          refine s_cond ha rfl h (fun b26 h => ?_) (fun b26 h => ?_)
          · refine wp_skip ?_
            refine t_n ?_
            replace ha : Has 35 [(0, (.pointer a0)), (3, (.int .i64 x15))] _ := ha.sub ⟨rfl, rfl, trivial⟩
            refine wp_seq ?_
            refine wp_block ?_
            refine region_lit ?_
            refine s_do rfl ha (ltd rfl) (d_move ha rfl) (fun a ha => ?_)
            refine s_do rfl ha (ltd rfl) (d_move ha rfl) (fun a ha => ?_)
            refine s_do rfl ha (ltd rfl) (d_nilp ha rfl e23) (fun a ha => ?_)
            refine s_do rfl ha (ltd rfl) (d_fa ha rfl Try.runUnderlying95 rfl rfl Try.sizeOf93 (by decide)) (fun a ha => ?_)
            obtain ⟨v27, e28, h⟩ := bs1 h
            refine s_do rfl ha (ltd rfl) (d_ld ha rfl Try.isAgg93 (ldL_c e28)) (fun a ha => ?_)
            refine s_do rfl ha (ltd rfl) (d_move ha rfl) (fun a ha => ?_)
            obtain ⟨p29, e30, h⟩ := bs1 h
            refine s_do rfl ha (ltd rfl) (d_ix ha rfl rfl Try.runUnderlying93 Try.sizeOf106 e30) (fun a ha => ?_)
            obtain ⟨c31, e32, h⟩ := bs1 h
            refine s_do rfl ha (ltd rfl) (d_ldA ha rfl Try.isAgg106 Try.sizeOf106 e32) (fun a ha => ?_)
            obtain ⟨w33, e34, h⟩ := bs1 h
            refine s_do rfl ha (ltd rfl) (d_call (xs := [_, _, _]) (vs := [(.pointer a0), (.agg (List.toArray c31)), (.int .i64 64)]) ha ⟨rfl, rfl, rfl, trivial⟩ Try.call59 (grapevineref09_Disk_put_ok e34)) (fun a ha => ?_)
            refine s_nil ?_
            refine b_n ?_
            refine t_n ?_
            replace ha : Has 35 [(0, (.pointer a0)), (3, (.int .i64 x15))] _ := ha.sub ⟨rfl, rfl, trivial⟩
            refine region_lit ?_
            refine s_do rfl ha (ltd rfl) (d_move ha rfl) (fun a ha => ?_)
            refine s_do rfl ha (ltd rfl) (d_add ha rfl rfl) (fun a ha => ?_)
            refine s_do rfl ha (ltd rfl) (d_assign ha rfl) (fun a ha => ?_)
            refine s_nil ?_
            have hS : Has 35 [(3, (.int .i64 (IntKind.wrap .i64 (x15 + 1)))), (0, (.pointer a0))] _ := ha.sub ⟨rfl, rfl, trivial⟩
            cases h
            exact lp_next ⟨hS, rfl⟩
          · refine wp_exit ?_
            refine t_x ?_
            have hS : Has 35 [(0, (.pointer a0))] _ := ha.sub ⟨rfl, trivial⟩
            cases h
            cases hr21 _ rfl
            refine lp_x ?_
            exact hk20 _ hS
    · clear h
      have h := e4
      refine region_lit ?_
      refine s_do rfl ha (ltd rfl) (d_move ha rfl) (fun a ha => ?_)
      obtain ⟨p6, e7, h⟩ := bs1 h
      refine s_do rfl ha (ltd rfl) (d_nilp ha rfl e7) (fun a ha => ?_)
      refine s_do rfl ha (ltd rfl) (d_fa ha rfl Try.runUnderlying95 rfl rfl Try.sizeOf4 (by decide)) (fun a ha => ?_)
      obtain ⟨v8, e9, h⟩ := bs1 h
      refine s_do rfl ha (ltd rfl) (d_ld ha rfl Try.isAgg4 (ldB_c e9)) (fun a ha => ?_)
      refine s_do rfl ha (ltd rfl) (d_move ha rfl) (fun a ha => ?_)
      refine ite_s h (fun b10 h => ?_) (fun b10 h => ?_)
      · refine s_no_g rfl rfl ha (rfl : List.lookup 10 _ = _) (tn b10) (ltd rfl) (fun a ha => ?_)
        refine s_no_g rfl rfl ha (rfl : List.lookup 10 _ = _) (tn b10) (ltd rfl) (fun a ha => ?_)
        refine s_do rfl ha (ltd rfl) (d_pick_t ha rfl b10 rfl) (fun a ha => ?_)
        refine s_nil ?_
        have hS : Has 35 [(13, (.bool true)), (0, (.pointer a0))] _ := ha.sub ⟨rfl, rfl, trivial⟩
        cases h
        exact hk5 _ hS
      · refine s_do_g2 rfl rfl ha (rfl : List.lookup 10 _ = _) (nt b10) (ltd rfl) (d_move ha rfl) (fun a ha => ?_)
        obtain ⟨v11, w12, e13, h⟩ := bs2 h
        refine s_do_g2 rfl rfl ha (rfl : List.lookup 10 _ = _) (nt b10) (ltd rfl) (d_call (xs := [_]) (vs := [(.pointer a0)]) ha ⟨rfl, trivial⟩ Try.call58 (grapevineref09_Disk_trips_ok e13)) (fun a ha => ?_)
        refine s_do rfl ha (ltd rfl) (d_pick_f ha rfl b10 rfl) (fun a ha => ?_)
        refine s_nil ?_
        have hS : Has 35 [(13, (.bool v11)), (0, (.pointer a0))] _ := ha.sub ⟨rfl, rfl, trivial⟩
        cases h
        exact hk5 _ hS

noncomputable def grapevineref09_Disk_Trip (a0 : Option Addr) (a1 : Int) (w : World) : Option (Int × World) :=
  if (a0.isNone) = true then
  (some (1, w))
  else
  ((a0).bind fun p2 =>
  (ldB w (p2.add 3)).bind fun v4 =>
  if v4 = true then
  (some (10, w))
  else
  (if (decide (a1 < 0)) = true then
  (some (2, w))
  else
  ((stV w (p2.add 2) (.int .i64 a1)).bind fun w8 =>
  some (0, w8))))
set_option maxHeartbeats 1000000 in
set_option maxRecDepth 100000 in
theorem grapevineref09_Disk_Trip_ok {a0 : Option Addr} {a1 : Int} {w w' : World} {r0 : Int} (h : grapevineref09_Disk_Trip a0 a1 w = some (r0, w')) : Calls Try.prog 50 #[(.pointer a0), (.int .i64 a1)] w fun e w'' => e = .returned (.int .i64 r0) ∧ w'' = w' := by
  refine calls_dec (n := 17) Try.func50 rfl Try.ntmps50 (by simp) (fun a ha => ?_)
  unfold grapevineref09_Disk_Trip at h
  refine wp_seq ?_
  refine region_lit ?_
  refine s_do rfl ha (ltd rfl) (d_assign ha rfl) (fun a ha => ?_)
  refine s_nil ?_
  refine t_n ?_
  replace ha : Has 17 [(0, (.pointer a0)), (1, (.int .i64 a1))] _ := ha.sub ⟨rfl, rfl, trivial⟩
  refine wp_seq ?_
  refine wp_seq ?_
  refine region_lit ?_
  refine s_do rfl ha (ltd rfl) (d_move ha rfl) (fun a ha => ?_)
  refine s_do rfl ha (ltd rfl) (d_eqN ha rfl rfl Try.runUnderlying44) (fun a ha => ?_)
  refine s_nil ?_
  refine t_n ?_
  replace ha : Has 17 [(0, (.pointer a0)), (1, (.int .i64 a1)), (6, (.bool (a0.isNone)))] _ := ha.sub ⟨rfl, rfl, rfl, trivial⟩
  refine s_cond ha rfl h (fun b1 h => ?_) (fun b1 h => ?_)
  · refine wp_seq ?_
    refine region_lit ?_
    refine s_do rfl ha (ltd rfl) (d_assign ha rfl) (fun a ha => ?_)
    refine s_nil ?_
    refine t_n ?_
    replace ha : Has 17 [(4, (.int .i64 1))] _ := ha.sub ⟨rfl, trivial⟩
    refine wp_ret ?_
    refine t_r ?_
    have hS := ha
    cases h
    exact ret1 Try.results50 hS rfl ⟨rfl, rfl⟩
  · refine wp_skip ?_
    refine t_n ?_
    replace ha : Has 17 [(0, (.pointer a0)), (1, (.int .i64 a1))] _ := ha.sub ⟨rfl, rfl, trivial⟩
    refine wp_seq ?_
    refine wp_seq ?_
    refine region_lit ?_
    refine s_do rfl ha (ltd rfl) (d_move ha rfl) (fun a ha => ?_)
    obtain ⟨p2, e3, h⟩ := bs1 h
    refine s_do rfl ha (ltd rfl) (d_nilp ha rfl e3) (fun a ha => ?_)
    refine s_do rfl ha (ltd rfl) (d_fa ha rfl Try.runUnderlying95 rfl rfl Try.sizeOf4 (by decide)) (fun a ha => ?_)
    obtain ⟨v4, e5, h⟩ := bs1 h
    refine s_do rfl ha (ltd rfl) (d_ld ha rfl Try.isAgg4 (ldB_c e5)) (fun a ha => ?_)
    refine s_nil ?_
    refine t_n ?_
    replace ha : Has 17 [(0, (.pointer a0)), (1, (.int .i64 a1)), (10, (.bool v4))] _ := ha.sub ⟨rfl, rfl, rfl, trivial⟩
    refine s_cond ha rfl h (fun b6 h => ?_) (fun b6 h => ?_)
    · refine wp_seq ?_
      refine region_lit ?_
      refine s_do rfl ha (ltd rfl) (d_assign ha rfl) (fun a ha => ?_)
      refine s_nil ?_
      refine t_n ?_
      replace ha : Has 17 [(4, (.int .i64 10))] _ := ha.sub ⟨rfl, trivial⟩
      refine wp_ret ?_
      refine t_r ?_
      have hS := ha
      cases h
      exact ret1 Try.results50 hS rfl ⟨rfl, rfl⟩
    · refine wp_skip ?_
      refine t_n ?_
      replace ha : Has 17 [(0, (.pointer a0)), (1, (.int .i64 a1))] _ := ha.sub ⟨rfl, rfl, trivial⟩
      refine wp_seq ?_
      refine wp_seq ?_
      refine region_lit ?_
      refine s_do rfl ha (ltd rfl) (d_move ha rfl) (fun a ha => ?_)
      refine s_do rfl ha (ltd rfl) (d_lt ha rfl rfl) (fun a ha => ?_)
      refine s_nil ?_
      refine t_n ?_
      replace ha : Has 17 [(0, (.pointer a0)), (1, (.int .i64 a1)), (12, (.bool (decide (a1 < 0))))] _ := ha.sub ⟨rfl, rfl, rfl, trivial⟩
      refine s_cond ha rfl h (fun b7 h => ?_) (fun b7 h => ?_)
      · refine wp_seq ?_
        refine region_lit ?_
        refine s_do rfl ha (ltd rfl) (d_assign ha rfl) (fun a ha => ?_)
        refine s_nil ?_
        refine t_n ?_
        replace ha : Has 17 [(4, (.int .i64 2))] _ := ha.sub ⟨rfl, trivial⟩
        refine wp_ret ?_
        refine t_r ?_
        have hS := ha
        cases h
        exact ret1 Try.results50 hS rfl ⟨rfl, rfl⟩
      · refine wp_skip ?_
        refine t_n ?_
        replace ha : Has 17 [(0, (.pointer a0)), (1, (.int .i64 a1))] _ := ha.sub ⟨rfl, rfl, trivial⟩
        refine wp_seq ?_
        refine region_lit ?_
        refine s_do rfl ha (ltd rfl) (d_move ha rfl) (fun a ha => ?_)
        refine s_do rfl ha (ltd rfl) (d_move ha rfl) (fun a ha => ?_)
        refine s_do rfl ha (ltd rfl) (d_nilp ha rfl e3) (fun a ha => ?_)
        refine s_do rfl ha (ltd rfl) (d_fa ha rfl Try.runUnderlying95 rfl rfl Try.sizeOf3 (by decide)) (fun a ha => ?_)
        obtain ⟨w8, e9, h⟩ := bs1 h
        refine s_do rfl ha (ltd rfl) (d_st ha rfl rfl Try.sizeOf3 e9) (fun a ha => ?_)
        refine s_nil ?_
        refine t_n ?_
        replace ha : Has 17 [] _ := ha.sub trivial
        refine wp_seq ?_
        refine region_lit ?_
        refine s_do rfl ha (ltd rfl) (d_assign ha rfl) (fun a ha => ?_)
        refine s_nil ?_
        refine t_n ?_
        replace ha : Has 17 [(4, (.int .i64 0))] _ := ha.sub ⟨rfl, trivial⟩
        refine wp_ret ?_
        have hS := ha
        cases h
        exact ret1 Try.results50 hS rfl ⟨rfl, rfl⟩

noncomputable def grapevineref09_Disk_Crash_l1 (a0 : Option Addr) (a1 : Sl) (x2 : Int) (w3 : World) : Option ((Int × World) ⊕ (World)) :=
  (a0).bind fun p9 =>
  (ldL w3 (p9.add 1)).bind fun v11 =>
  if (decide (x2 < (v11.n : Int))) = true then
  ((bind2 (if (decide (x2 < (a1.n : Int))) = true then
  ((ix a1 x2 1).bind fun p22 =>
  (ldI .i64 w3 p22).bind fun v24 =>
  some ((IntKind.wrap .u64 v24), w3))
  else
  (some (0, w3))) fun v17 w18 =>
  ((rmI v17 3).bind fun v29 =>
  if (v29 == 1) = true then
  ((ldL w18 (p9.add 1)).bind fun v32 =>
  (ix v32 x2 2).bind fun p34 =>
  (ldA 2 w18 p34 0).bind fun c36 =>
  (grapevineref09_Disk_put a0 c36 64 w18).bind fun w38 =>
  some w38)
  else
  (some w18)).bind fun w26 =>
  (rmI v17 3).bind fun v40 =>
  if (v40 == 2) = true then
  ((ldL w26 (p9.add 1)).bind fun v43 =>
  (ix v43 x2 2).bind fun p45 =>
  (ldA 2 w26 p45 0).bind fun c47 =>
  (dvI .u64 v17 3).bind fun v49 =>
  (rmI v49 64).bind fun v51 =>
  (grapevineref09_Disk_put a0 c47 (IntKind.wrap .i64 v51) w26).bind fun w53 =>
  some w53)
  else
  (some w26)).bind fun w14 =>
  some (.inl ((IntKind.wrap .i64 (x2 + 1)), w14)))
  else
  (some (.inr w3))
noncomputable def grapevineref09_Disk_Crash (a0 : Option Addr) (a1 : Sl) (w : World) : Option (Int × World) :=
  if (a0.isNone) = true then
  (some (1, w))
  else
  ((loopF (fun s : Int × World => grapevineref09_Disk_Crash_l1 a0 a1 s.1 s.2) (0, w)).bind fun w6 =>
  (a0).bind fun p55 =>
  (stV w6 (p55.add 1) (Sl.v Sl.nil)).bind fun w57 =>
  (stV w57 (p55.add 2) (.int .i64 0)).bind fun w59 =>
  (stV w59 (p55.add 3) (.bool false)).bind fun w61 =>
  (ldI .i64 w61 (p55.add 4)).bind fun v63 =>
  (stV w61 (p55.add 4) (.int .i64 (IntKind.wrap .i64 (v63 + 1)))).bind fun w65 =>
  some (0, w65))
set_option maxHeartbeats 1000000 in
set_option maxRecDepth 100000 in
theorem grapevineref09_Disk_Crash_ok {a0 : Option Addr} {a1 : Sl} {w w' : World} {r0 : Int} (h : grapevineref09_Disk_Crash a0 a1 w = some (r0, w')) : Calls Try.prog 51 #[(.pointer a0), (Sl.v a1)] w fun e w'' => e = .returned (.int .i64 r0) ∧ w'' = w' := by
  refine calls_dec (n := 71) Try.func51 rfl Try.ntmps51 (by simp) (fun a ha => ?_)
  unfold grapevineref09_Disk_Crash at h
  refine wp_seq ?_
  refine region_lit ?_
  refine s_do rfl ha (ltd rfl) (d_assign ha rfl) (fun a ha => ?_)
  refine s_nil ?_
  refine t_n ?_
  replace ha : Has 71 [(0, (.pointer a0)), (1, (Sl.v a1))] _ := ha.sub ⟨rfl, rfl, trivial⟩
  refine wp_seq ?_
  refine wp_seq ?_
  refine region_lit ?_
  refine s_do rfl ha (ltd rfl) (d_move ha rfl) (fun a ha => ?_)
  refine s_do rfl ha (ltd rfl) (d_eqN ha rfl rfl Try.runUnderlying44) (fun a ha => ?_)
  refine s_nil ?_
  refine t_n ?_
  replace ha : Has 71 [(0, (.pointer a0)), (1, (Sl.v a1)), (8, (.bool (a0.isNone)))] _ := ha.sub ⟨rfl, rfl, rfl, trivial⟩
  refine s_cond ha rfl h (fun b1 h => ?_) (fun b1 h => ?_)
  · refine wp_seq ?_
    refine region_lit ?_
    refine s_do rfl ha (ltd rfl) (d_assign ha rfl) (fun a ha => ?_)
    refine s_nil ?_
    refine t_n ?_
    replace ha : Has 71 [(4, (.int .i64 1))] _ := ha.sub ⟨rfl, trivial⟩
    refine wp_ret ?_
    refine t_r ?_
    have hS := ha
    cases h
    exact ret1 Try.results51 hS rfl ⟨rfl, rfl⟩
  · refine wp_skip ?_
    refine t_n ?_
    replace ha : Has 71 [(0, (.pointer a0)), (1, (Sl.v a1))] _ := ha.sub ⟨rfl, rfl, trivial⟩
    refine wp_seq ?_
    refine wp_seq ?_
    refine region_lit ?_
    refine s_do rfl ha (ltd rfl) (d_assign ha rfl) (fun a ha => ?_)
    refine s_nil ?_
    refine t_n ?_
    replace ha : Has 71 [(0, (.pointer a0)), (1, (Sl.v a1)), (5, (.int .i64 0))] _ := ha.sub ⟨rfl, rfl, rfl, trivial⟩
    refine wp_block ?_
    obtain ⟨w6, e5, h⟩ := bs1 h
    refine s_loop1 (n := 71) (L := [(0, (.pointer a0))]) (w' := w6) (e := .exit 0) (I := fun (s : Int × World) a w => Has 71 [(5, (.int .i64 s.1)), (0, (.pointer a0)), (1, (Sl.v a1))] a ∧ w = s.2) ⟨ha.sub ⟨rfl, rfl, rfl, trivial⟩, rfl⟩ e5 (fun a ha => ?_) (fun hk7 => ?_)
    · refine b_hit ?_
      refine t_n ?_
      replace ha : Has 71 [(0, (.pointer a0))] _ := ha.sub ⟨rfl, trivial⟩
      refine wp_seq ?_
      refine region_lit ?_
      refine s_do rfl ha (ltd rfl) (d_move ha rfl) (fun a ha => ?_)
      obtain ⟨p55, e56, h⟩ := bs1 h
      refine s_do rfl ha (ltd rfl) (d_nilp ha rfl e56) (fun a ha => ?_)
      refine s_do rfl ha (ltd rfl) (d_fa ha rfl Try.runUnderlying95 rfl rfl Try.sizeOf93 (by decide)) (fun a ha => ?_)
      obtain ⟨w57, e58, h⟩ := bs1 h
      refine s_do rfl ha (ltd rfl) (d_st ha rfl rfl Try.sizeOf93 e58) (fun a ha => ?_)
      refine s_nil ?_
      refine t_n ?_
      replace ha : Has 71 [(0, (.pointer a0))] _ := ha.sub ⟨rfl, trivial⟩
      refine wp_seq ?_
      refine region_lit ?_
      refine s_do rfl ha (ltd rfl) (d_move ha rfl) (fun a ha => ?_)
      refine s_do rfl ha (ltd rfl) (d_nilp ha rfl e56) (fun a ha => ?_)
      refine s_do rfl ha (ltd rfl) (d_fa ha rfl Try.runUnderlying95 rfl rfl Try.sizeOf3 (by decide)) (fun a ha => ?_)
      obtain ⟨w59, e60, h⟩ := bs1 h
      refine s_do rfl ha (ltd rfl) (d_st ha rfl rfl Try.sizeOf3 e60) (fun a ha => ?_)
      refine s_nil ?_
      refine t_n ?_
      replace ha : Has 71 [(0, (.pointer a0))] _ := ha.sub ⟨rfl, trivial⟩
      refine wp_seq ?_
      refine region_lit ?_
      refine s_do rfl ha (ltd rfl) (d_move ha rfl) (fun a ha => ?_)
      refine s_do rfl ha (ltd rfl) (d_nilp ha rfl e56) (fun a ha => ?_)
      refine s_do rfl ha (ltd rfl) (d_fa ha rfl Try.runUnderlying95 rfl rfl Try.sizeOf4 (by decide)) (fun a ha => ?_)
      obtain ⟨w61, e62, h⟩ := bs1 h
      refine s_do rfl ha (ltd rfl) (d_st ha rfl rfl Try.sizeOf4 e62) (fun a ha => ?_)
      refine s_nil ?_
      refine t_n ?_
      replace ha : Has 71 [(0, (.pointer a0))] _ := ha.sub ⟨rfl, trivial⟩
      refine wp_seq ?_
      refine region_lit ?_
      refine s_do rfl ha (ltd rfl) (d_move ha rfl) (fun a ha => ?_)
      refine s_do rfl ha (ltd rfl) (d_nilp ha rfl e56) (fun a ha => ?_)
      refine s_do rfl ha (ltd rfl) (d_fa ha rfl Try.runUnderlying95 rfl rfl Try.sizeOf3 (by decide)) (fun a ha => ?_)
      obtain ⟨v63, e64, h⟩ := bs1 h
      refine s_do rfl ha (ltd rfl) (d_ld ha rfl Try.isAgg3 (ldI_c e64)) (fun a ha => ?_)
      refine s_do rfl ha (ltd rfl) (d_add ha rfl rfl) (fun a ha => ?_)
      refine s_do rfl ha (ltd rfl) (d_nilp ha rfl e56) (fun a ha => ?_)
      refine s_do rfl ha (ltd rfl) (d_fa ha rfl Try.runUnderlying95 rfl rfl Try.sizeOf3 (by decide)) (fun a ha => ?_)
      obtain ⟨w65, e66, h⟩ := bs1 h
      refine s_do rfl ha (ltd rfl) (d_st ha rfl rfl Try.sizeOf3 e66) (fun a ha => ?_)
      refine s_nil ?_
      refine t_n ?_
      replace ha : Has 71 [] _ := ha.sub trivial
      refine wp_seq ?_
      refine region_lit ?_
      refine s_do rfl ha (ltd rfl) (d_assign ha rfl) (fun a ha => ?_)
      refine s_nil ?_
      refine t_n ?_
      replace ha : Has 71 [(4, (.int .i64 0))] _ := ha.sub ⟨rfl, trivial⟩
      refine wp_ret ?_
      have hS := ha
      cases h
      exact ret1 Try.results51 hS rfl ⟨rfl, rfl⟩
    · clear h
      rintro ⟨x2, w3⟩ a wq o ⟨ha, hwq⟩ h hr8
      obtain rfl : w3 = wq := hwq.symm
      have ha : Has 71 [(5, (.int .i64 x2)), (0, (.pointer a0)), (1, (Sl.v a1))] a := ha
      have h : grapevineref09_Disk_Crash_l1 a0 a1 x2 w3 = some o := h
      unfold grapevineref09_Disk_Crash_l1 at h
      refine wp_seq ?_
      refine wp_seq ?_
      refine region_lit ?_
      refine s_do rfl ha (ltd rfl) (d_move ha rfl) (fun a ha => ?_)
      refine s_do rfl ha (ltd rfl) (d_move ha rfl) (fun a ha => ?_)
      obtain ⟨p9, e10, h⟩ := bs1 h
      refine s_do rfl ha (ltd rfl) (d_nilp ha rfl e10) (fun a ha => ?_)
      refine s_do rfl ha (ltd rfl) (d_fa ha rfl Try.runUnderlying95 rfl rfl Try.sizeOf93 (by decide)) (fun a ha => ?_)
      obtain ⟨v11, e12, h⟩ := bs1 h
      refine s_do rfl ha (ltd rfl) (d_ld ha rfl Try.isAgg93 (ldL_c e12)) (fun a ha => ?_)
      refine s_do rfl ha (ltd rfl) (d_lenS ha rfl Try.runUnderlying93) (fun a ha => ?_)
      refine s_do rfl ha (ltd rfl) (d_lt ha rfl rfl) (fun a ha => ?_)
      refine s_nil ?_
      refine t_n ?_
      replace ha : Has 71 [(0, (.pointer a0)), (1, (Sl.v a1)), (5, (.int .i64 x2)), (15, (.bool (decide (x2 < (v11.n : Int)))))] _ := ha.sub ⟨rfl, rfl, rfl, rfl, trivial⟩
      refine s_cond ha rfl h (fun b13 h => ?_) (fun b13 h => ?_)
      · refine wp_skip ?_
        refine t_n ?_
        replace ha : Has 71 [(0, (.pointer a0)), (1, (Sl.v a1)), (5, (.int .i64 x2))] _ := ha.sub ⟨rfl, rfl, rfl, trivial⟩
        obtain ⟨w14, e15, h⟩ := bs1 h
        refine seq_join (n := 71) (L := [(0, (.pointer a0)), (1, (Sl.v a1)), (5, (.int .i64 x2))]) (w' := w14) (fun a ha => ?_) (fun hk16 => ?_)
        · refine region_lit ?_
          refine s_do rfl ha (ltd rfl) (d_move ha rfl) (fun a ha => ?_)
          refine s_do rfl ha (ltd rfl) (d_add ha rfl rfl) (fun a ha => ?_)
          refine s_do rfl ha (ltd rfl) (d_assign ha rfl) (fun a ha => ?_)
          refine s_nil ?_
          have hS : Has 71 [(5, (.int .i64 (IntKind.wrap .i64 (x2 + 1)))), (0, (.pointer a0)), (1, (Sl.v a1))] _ := ha.sub ⟨rfl, rfl, rfl, trivial⟩
          cases h
          exact lp_next ⟨hS, rfl⟩
        · clear h
          have h := e15
          refine wp_block ?_
          refine wp_seq ?_
          refine region_lit ?_
          refine s_do rfl ha (ltd rfl) (d_assign ha rfl) (fun a ha => ?_)
          refine s_nil ?_
          refine t_n ?_
          replace ha : Has 71 [(0, (.pointer a0)), (1, (Sl.v a1)), (5, (.int .i64 x2)), (6, (.int .u64 0))] _ := ha.sub ⟨rfl, rfl, rfl, rfl, trivial⟩
          obtain ⟨v17, w18, e19, h⟩ := bs2 h
          refine seq_join (n := 71) (L := [(6, (.int .u64 v17)), (0, (.pointer a0)), (1, (Sl.v a1)), (5, (.int .i64 x2))]) (w' := w18) (fun a ha => ?_) (fun hk20 => ?_)
          · obtain ⟨w26, e27, h⟩ := bs1 h
            refine seq_join (n := 71) (L := [(0, (.pointer a0)), (1, (Sl.v a1)), (5, (.int .i64 x2)), (6, (.int .u64 v17))]) (w' := w26) (fun a ha => ?_) (fun hk28 => ?_)
            · refine wp_seq ?_
              refine region_lit ?_
              refine s_do rfl ha (ltd rfl) (d_move ha rfl) (fun a ha => ?_)
              obtain ⟨v40, e41, h⟩ := bs1 h
              refine s_do rfl ha (ltd rfl) (d_rem ha rfl rfl e41) (fun a ha => ?_)
              refine s_do rfl ha (ltd rfl) (d_eq ha rfl rfl) (fun a ha => ?_)
              refine s_nil ?_
              refine t_n ?_
              replace ha : Has 71 [(0, (.pointer a0)), (1, (Sl.v a1)), (5, (.int .i64 x2)), (6, (.int .u64 v17)), (41, (.bool (v40 == 2)))] _ := ha.sub ⟨rfl, rfl, rfl, rfl, rfl, trivial⟩
              refine s_cond ha rfl h (fun b42 h => ?_) (fun b42 h => ?_)
              · refine region_lit ?_
                refine s_do rfl ha (ltd rfl) (d_move ha rfl) (fun a ha => ?_)
                refine s_do rfl ha (ltd rfl) (d_move ha rfl) (fun a ha => ?_)
                refine s_do rfl ha (ltd rfl) (d_nilp ha rfl e10) (fun a ha => ?_)
                refine s_do rfl ha (ltd rfl) (d_fa ha rfl Try.runUnderlying95 rfl rfl Try.sizeOf93 (by decide)) (fun a ha => ?_)
                obtain ⟨v43, e44, h⟩ := bs1 h
                refine s_do rfl ha (ltd rfl) (d_ld ha rfl Try.isAgg93 (ldL_c e44)) (fun a ha => ?_)
                refine s_do rfl ha (ltd rfl) (d_move ha rfl) (fun a ha => ?_)
                obtain ⟨p45, e46, h⟩ := bs1 h
                refine s_do rfl ha (ltd rfl) (d_ix ha rfl rfl Try.runUnderlying93 Try.sizeOf106 e46) (fun a ha => ?_)
                obtain ⟨c47, e48, h⟩ := bs1 h
                refine s_do rfl ha (ltd rfl) (d_ldA ha rfl Try.isAgg106 Try.sizeOf106 e48) (fun a ha => ?_)
                refine s_do rfl ha (ltd rfl) (d_move ha rfl) (fun a ha => ?_)
                obtain ⟨v49, e50, h⟩ := bs1 h
                refine s_do rfl ha (ltd rfl) (d_quo ha rfl rfl e50) (fun a ha => ?_)
                obtain ⟨v51, e52, h⟩ := bs1 h
                refine s_do rfl ha (ltd rfl) (d_rem ha rfl rfl e52) (fun a ha => ?_)
                refine s_do rfl ha (ltd rfl) (d_conv ha rfl Try.runUnderlying47 Try.runUnderlying3) (fun a ha => ?_)
                obtain ⟨w53, e54, h⟩ := bs1 h
                refine s_do rfl ha (ltd rfl) (d_call (xs := [_, _, _]) (vs := [(.pointer a0), (.agg (List.toArray c47)), (.int .i64 (IntKind.wrap .i64 v51))]) ha ⟨rfl, rfl, rfl, trivial⟩ Try.call59 (grapevineref09_Disk_put_ok e54)) (fun a ha => ?_)
                refine s_nil ?_
                refine b_n ?_
                have hS : Has 71 [(0, (.pointer a0)), (1, (Sl.v a1)), (5, (.int .i64 x2))] _ := ha.sub ⟨rfl, rfl, rfl, trivial⟩
                cases h
                exact hk16 _ hS
              · refine wp_skip ?_
                refine b_n ?_
                have hS : Has 71 [(0, (.pointer a0)), (1, (Sl.v a1)), (5, (.int .i64 x2))] _ := ha.sub ⟨rfl, rfl, rfl, trivial⟩
                cases h
                exact hk16 _ hS
            · clear h
              have h := e27
              refine wp_seq ?_
              refine region_lit ?_
              refine s_do rfl ha (ltd rfl) (d_move ha rfl) (fun a ha => ?_)
              obtain ⟨v29, e30, h⟩ := bs1 h
              refine s_do rfl ha (ltd rfl) (d_rem ha rfl rfl e30) (fun a ha => ?_)
              refine s_do rfl ha (ltd rfl) (d_eq ha rfl rfl) (fun a ha => ?_)
              refine s_nil ?_
              refine t_n ?_
              replace ha : Has 71 [(0, (.pointer a0)), (1, (Sl.v a1)), (5, (.int .i64 x2)), (6, (.int .u64 v17)), (29, (.bool (v29 == 1)))] _ := ha.sub ⟨rfl, rfl, rfl, rfl, rfl, trivial⟩
              refine s_cond ha rfl h (fun b31 h => ?_) (fun b31 h => ?_)
              · refine region_lit ?_
                refine s_do rfl ha (ltd rfl) (d_move ha rfl) (fun a ha => ?_)
                refine s_do rfl ha (ltd rfl) (d_move ha rfl) (fun a ha => ?_)
                refine s_do rfl ha (ltd rfl) (d_nilp ha rfl e10) (fun a ha => ?_)
                refine s_do rfl ha (ltd rfl) (d_fa ha rfl Try.runUnderlying95 rfl rfl Try.sizeOf93 (by decide)) (fun a ha => ?_)
                obtain ⟨v32, e33, h⟩ := bs1 h
                refine s_do rfl ha (ltd rfl) (d_ld ha rfl Try.isAgg93 (ldL_c e33)) (fun a ha => ?_)
                refine s_do rfl ha (ltd rfl) (d_move ha rfl) (fun a ha => ?_)
                obtain ⟨p34, e35, h⟩ := bs1 h
                refine s_do rfl ha (ltd rfl) (d_ix ha rfl rfl Try.runUnderlying93 Try.sizeOf106 e35) (fun a ha => ?_)
                obtain ⟨c36, e37, h⟩ := bs1 h
                refine s_do rfl ha (ltd rfl) (d_ldA ha rfl Try.isAgg106 Try.sizeOf106 e37) (fun a ha => ?_)
                obtain ⟨w38, e39, h⟩ := bs1 h
                refine s_do rfl ha (ltd rfl) (d_call (xs := [_, _, _]) (vs := [(.pointer a0), (.agg (List.toArray c36)), (.int .i64 64)]) ha ⟨rfl, rfl, rfl, trivial⟩ Try.call59 (grapevineref09_Disk_put_ok e39)) (fun a ha => ?_)
                refine s_nil ?_
                have hS : Has 71 [(0, (.pointer a0)), (1, (Sl.v a1)), (5, (.int .i64 x2)), (6, (.int .u64 v17))] _ := ha.sub ⟨rfl, rfl, rfl, rfl, trivial⟩
                cases h
                exact hk28 _ hS
              · refine wp_skip ?_
                have hS : Has 71 [(0, (.pointer a0)), (1, (Sl.v a1)), (5, (.int .i64 x2)), (6, (.int .u64 v17))] _ := ha.sub ⟨rfl, rfl, rfl, rfl, trivial⟩
                cases h
                exact hk28 _ hS
          · clear h
            have h := e19
            refine wp_seq ?_
            refine region_lit ?_
            refine s_do rfl ha (ltd rfl) (d_move ha rfl) (fun a ha => ?_)
            refine s_do rfl ha (ltd rfl) (d_move ha rfl) (fun a ha => ?_)
            refine s_do rfl ha (ltd rfl) (d_lenS ha rfl Try.runUnderlying35) (fun a ha => ?_)
            refine s_do rfl ha (ltd rfl) (d_lt ha rfl rfl) (fun a ha => ?_)
            refine s_nil ?_
            refine t_n ?_
            replace ha : Has 71 [(0, (.pointer a0)), (1, (Sl.v a1)), (5, (.int .i64 x2)), (6, (.int .u64 0)), (21, (.bool (decide (x2 < (a1.n : Int)))))] _ := ha.sub ⟨rfl, rfl, rfl, rfl, rfl, trivial⟩
            refine s_cond ha rfl h (fun b21 h => ?_) (fun b21 h => ?_)
            · refine region_lit ?_
              refine s_do rfl ha (ltd rfl) (d_move ha rfl) (fun a ha => ?_)
              refine s_do rfl ha (ltd rfl) (d_move ha rfl) (fun a ha => ?_)
              obtain ⟨p22, e23, h⟩ := bs1 h
              refine s_do rfl ha (ltd rfl) (d_ix ha rfl rfl Try.runUnderlying35 Try.sizeOf3 e23) (fun a ha => ?_)
              obtain ⟨v24, e25, h⟩ := bs1 h
              refine s_do rfl ha (ltd rfl) (d_ld ha rfl Try.isAgg3 (ldI_c e25)) (fun a ha => ?_)
              refine s_do rfl ha (ltd rfl) (d_conv ha rfl Try.runUnderlying3 Try.runUnderlying47) (fun a ha => ?_)
              refine s_do rfl ha (ltd rfl) (d_assign ha rfl) (fun a ha => ?_)
              refine s_nil ?_
              have hS : Has 71 [(6, (.int .u64 (IntKind.wrap .u64 v24))), (0, (.pointer a0)), (1, (Sl.v a1)), (5, (.int .i64 x2))] _ := ha.sub ⟨rfl, rfl, rfl, rfl, trivial⟩
              cases h
              exact hk20 _ hS
            · refine wp_skip ?_
              have hS : Has 71 [(6, (.int .u64 0)), (0, (.pointer a0)), (1, (Sl.v a1)), (5, (.int .i64 x2))] _ := ha.sub ⟨rfl, rfl, rfl, rfl, trivial⟩
              cases h
              exact hk20 _ hS
      · refine wp_exit ?_
        refine t_x ?_
        have hS : Has 71 [(0, (.pointer a0))] _ := ha.sub ⟨rfl, trivial⟩
        cases h
        cases hr8 _ rfl
        refine lp_x ?_
        exact hk7 _ hS

noncomputable def sector_Disk_Age (a0 : Option Addr) (w : World) : Option (Int × World) :=
  if (a0.isNone) = true then
  (some (0, w))
  else
  ((a0).bind fun p2 =>
  (ldI .i64 w (p2.add 4)).bind fun v4 =>
  some (v4, w))
set_option maxHeartbeats 1000000 in
set_option maxRecDepth 100000 in
theorem sector_Disk_Age_ok {a0 : Option Addr} {w w' : World} {r0 : Int} (h : sector_Disk_Age a0 w = some (r0, w')) : Calls Try.prog 34 #[(.pointer a0)] w fun e w'' => e = .returned (.int .i64 r0) ∧ w'' = w' := by
  refine calls_dec (n := 9) Try.func34 rfl Try.ntmps34 (by simp) (fun a ha => ?_)
  unfold sector_Disk_Age at h
  refine wp_seq ?_
  refine region_lit ?_
  refine s_do rfl ha (ltd rfl) (d_assign ha rfl) (fun a ha => ?_)
  refine s_nil ?_
  refine t_n ?_
  replace ha : Has 9 [(0, (.pointer a0))] _ := ha.sub ⟨rfl, trivial⟩
  refine wp_seq ?_
  refine wp_seq ?_
  refine region_lit ?_
  refine s_do rfl ha (ltd rfl) (d_move ha rfl) (fun a ha => ?_)
  refine s_do rfl ha (ltd rfl) (d_eqN ha rfl rfl Try.runUnderlying22) (fun a ha => ?_)
  refine s_nil ?_
  refine t_n ?_
  replace ha : Has 9 [(0, (.pointer a0)), (4, (.bool (a0.isNone)))] _ := ha.sub ⟨rfl, rfl, trivial⟩
  refine s_cond ha rfl h (fun b1 h => ?_) (fun b1 h => ?_)
  · refine wp_seq ?_
    refine region_lit ?_
    refine s_do rfl ha (ltd rfl) (d_assign ha rfl) (fun a ha => ?_)
    refine s_nil ?_
    refine t_n ?_
    replace ha : Has 9 [(2, (.int .i64 0))] _ := ha.sub ⟨rfl, trivial⟩
    refine wp_ret ?_
    refine t_r ?_
    have hS := ha
    cases h
    exact ret1 Try.results34 hS rfl ⟨rfl, rfl⟩
  · refine wp_skip ?_
    refine t_n ?_
    replace ha : Has 9 [(0, (.pointer a0))] _ := ha.sub ⟨rfl, trivial⟩
    refine wp_seq ?_
    refine region_lit ?_
    refine s_do rfl ha (ltd rfl) (d_move ha rfl) (fun a ha => ?_)
    obtain ⟨p2, e3, h⟩ := bs1 h
    refine s_do rfl ha (ltd rfl) (d_nilp ha rfl e3) (fun a ha => ?_)
    refine s_do rfl ha (ltd rfl) (d_fa ha rfl Try.runUnderlying84 rfl rfl Try.sizeOf3 (by decide)) (fun a ha => ?_)
    obtain ⟨v4, e5, h⟩ := bs1 h
    refine s_do rfl ha (ltd rfl) (d_ld ha rfl Try.isAgg3 (ldI_c e5)) (fun a ha => ?_)
    refine s_do rfl ha (ltd rfl) (d_assign ha rfl) (fun a ha => ?_)
    refine s_nil ?_
    refine t_n ?_
    replace ha : Has 9 [(2, (.int .i64 v4))] _ := ha.sub ⟨rfl, trivial⟩
    refine wp_ret ?_
    have hS := ha
    cases h
    exact ret1 Try.results34 hS rfl ⟨rfl, rfl⟩

noncomputable def grapevinelaw09_do_l1 (s12 : Sl) (x27 : Int) (w28 : World) : Option ((Int × World) ⊕ (World)) :=
  if (decide (x27 < (s12.n : Int))) = true then
  ((ix s12 x27 1).bind fun p35 =>
  (ldI .u8 w28 p35).bind fun v37 =>
  (ix s12 x27 1).bind fun p39 =>
  (stV w28 p39 (.int .u8 (bxor .u8 v37 119))).bind fun w41 =>
  some (.inl ((IntKind.wrap .i64 (x27 + 1)), w41)))
  else
  (some (.inr w28))
noncomputable def grapevinelaw09_do_l2 (v46 : Sl) (x65 : Int) (w66 : World) : Option ((Int × World) ⊕ (World)) :=
  if (decide (x65 < (v46.n : Int))) = true then
  ((ix v46 x65 1).bind fun p73 =>
  (stV w66 p73 (.int .u8 9)).bind fun w75 =>
  some (.inl ((IntKind.wrap .i64 (x65 + 1)), w75)))
  else
  (some (.inr w66))
noncomputable def grapevinelaw09_do (a0 : Option Addr) (a1 : Option Addr) (a2 : List Value) (w : World) : Option (Bool × World) :=
  bind2 (mk w 40 a2) fun p1 w2 =>
  (ldI .i64 w2 (p1.add 0)).bind fun v4 =>
  if (v4 == 0) = true then
  (bind2 (bsl w2 5 1 []) fun s7 w8 =>
  (ldL w8 (p1.add 2)).bind fun v10 =>
  bind2 (apS Try.prog 29 s7 v10 w8) fun s12 w13 =>
  (ldI .i64 w13 (p1.add 1)).bind fun v15 =>
  bind2 (sector_Disk_Write a0 v15 s12 w13) fun v17 w18 =>
  (ldI .i64 w18 (p1.add 1)).bind fun v20 =>
  (ldL w18 (p1.add 2)).bind fun v22 =>
  bind2 (grapevineref09_Disk_Write a1 v20 v22 w18) fun v24 w25 =>
  (loopF (fun s : Int × World => grapevinelaw09_do_l1 s12 s.1 s.2) (0, w25)).bind fun w31 =>
  some ((v17 == v24), w31))
  else
  (if (v4 == 1) = true then
  ((ldI .i64 w2 (p1.add 1)).bind fun v44 =>
  bind3 (sector_Disk_Read a0 v44 w2) fun v46 v47 w48 =>
  (ldI .i64 w48 (p1.add 1)).bind fun v50 =>
  bind3 (grapevineref09_Disk_Read a1 v50 w48) fun v52 v53 w54 =>
  bind2 ((b2s v46 w54).bind fun s60 =>
  (b2s v52 w54).bind fun s62 =>
  if (sEq s60 s62) = true then
  (some ((v47 == v53), w54))
  else
  (some (false, w54))) fun v56 w57 =>
  (loopF (fun s : Int × World => grapevinelaw09_do_l2 v46 s.1 s.2) (0, w57)).bind fun w69 =>
  some (v56, w69))
  else
  (if (v4 == 2) = true then
  (bind2 (sector_Disk_Sync a0 w2) fun v78 w79 =>
  bind2 (grapevineref09_Disk_Sync a1 w79) fun v81 w82 =>
  some ((v78 == v81), w82))
  else
  (if (v4 == 3) = true then
  ((dr w2).bind fun w85 =>
  (ldI .i64 w85 (p1.add 1)).bind fun v87 =>
  bind2 (sector_Disk_Trip a0 v87 w85) fun v89 w90 =>
  (ldI .i64 w90 (p1.add 1)).bind fun v92 =>
  bind2 (grapevineref09_Disk_Trip a1 v92 w90) fun v94 w95 =>
  chk (ldI .i64 w85 (p1.add 1) = some v92) <|
  some ((v89 == v94), w95))
  else
  (if (v4 == 4) = true then
  ((dr w2).bind fun w99 =>
  (ldL w99 (p1.add 3)).bind fun v101 =>
  bind2 (sector_Disk_Crash a0 v101 w99) fun v103 w104 =>
  (ldL w104 (p1.add 3)).bind fun v106 =>
  bind2 (grapevineref09_Disk_Crash a1 v106 w104) fun v108 w109 =>
  chk (ldL w99 (p1.add 3) = some v106) <|
  some ((v103 == v108), w109))
  else
  (bind2 ((dr w2).bind fun w116 =>
  bind2 (sector_Disk_Down a0 w116) fun v118 w119 =>
  (a1).bind fun p121 =>
  (ldB w119 (p121.add 3)).bind fun v123 =>
  if (v118 == v123) = true then
  (bind2 (sector_Disk_Waits a0 w119) fun v126 w127 =>
  (ldL w127 (p121.add 1)).bind fun v129 =>
  if (v126 == (v129.n : Int)) = true then
  (bind2 (sector_Disk_Age a0 w127) fun v132 w133 =>
  (ldI .i64 w133 (p121.add 4)).bind fun v135 =>
  chk (ldB w116 (p121.add 3) = some v123) <|
  chk (ldL w119 (p121.add 1) = some v129) <|
  chk (ldI .i64 w127 (p121.add 4) = some v135) <|
  some ((v132 == v135), w133))
  else
  (chk (ldB w116 (p121.add 3) = some v123) <|
  chk (ldL w119 (p121.add 1) = some v129) <|
  some (false, w127)))
  else
  (chk (ldB w116 (p121.add 3) = some v123) <|
  some (false, w119))) fun v112 w113 =>
  some (v112, w113))))))
set_option maxHeartbeats 1000000 in
set_option maxRecDepth 100000 in
theorem grapevinelaw09_do_ok {a0 : Option Addr} {a1 : Option Addr} {a2 : List Value} {w w' : World} {r0 : Bool} (h : grapevinelaw09_do a0 a1 a2 w = some (r0, w')) : Calls Try.prog 33 #[(.pointer a0), (.pointer a1), (.agg (List.toArray a2))] w fun e w'' => e = .returned (.bool r0) ∧ w'' = w' := by
  refine calls_dec (n := 142) Try.func33 rfl Try.ntmps33 (by simp) (fun a ha => ?_)
  unfold grapevinelaw09_do at h
  refine wp_seq ?_
  refine region_lit ?_
  obtain ⟨p1, w2, e3, h⟩ := bs2 h
  refine s_do rfl ha (ltd rfl) (d_box ha rfl rfl e3) (fun a ha => ?_)
  refine s_do rfl ha (ltd rfl) (d_assign ha rfl) (fun a ha => ?_)
  refine s_nil ?_
  refine t_n ?_
  replace ha : Has 142 [(0, (.pointer a0)), (1, (.pointer a1)), (5, (.pointer (some p1)))] _ := ha.sub ⟨rfl, rfl, rfl, trivial⟩
  refine wp_seq ?_
  refine wp_seq ?_
  refine region_lit ?_
  refine s_do rfl ha (ltd rfl) (d_fa ha rfl Try.runUnderlying40 rfl rfl Try.sizeOf3 (by decide)) (fun a ha => ?_)
  obtain ⟨v4, e5, h⟩ := bs1 h
  refine s_do rfl ha (ltd rfl) (d_ld ha rfl Try.isAgg3 (ldI_c e5)) (fun a ha => ?_)
  refine s_nil ?_
  refine t_n ?_
  replace ha : Has 142 [(0, (.pointer a0)), (1, (.pointer a1)), (5, (.pointer (some p1))), (18, (.int .i64 v4))] _ := ha.sub ⟨rfl, rfl, rfl, rfl, trivial⟩
  refine wp_block ?_
  refine wp_seq ?_
  refine region_lit ?_
  refine s_do rfl ha (ltd rfl) (d_eq ha rfl rfl) (fun a ha => ?_)
  refine s_do rfl ha (ltd rfl) (d_assign ha rfl) (fun a ha => ?_)
  refine s_nil ?_
  refine t_n ?_
  replace ha : Has 142 [(0, (.pointer a0)), (1, (.pointer a1)), (5, (.pointer (some p1))), (18, (.int .i64 v4)), (19, (.bool (v4 == 0)))] _ := ha.sub ⟨rfl, rfl, rfl, rfl, rfl, trivial⟩
  refine s_cond ha rfl h (fun b6 h => ?_) (fun b6 h => ?_)
  · refine wp_seq ?_
    refine region_lit ?_
    obtain ⟨s7, w8, e9, h⟩ := bs2 h
    refine s_do rfl ha (ltd rfl) (d_bsl (vs := []) (ps := []) ha trivial trivial rfl Try.runUnderlying29 Try.sizeOf5 Try.zeroValue5 (by decide) e9) (fun a ha => ?_)
    refine s_do rfl ha (ltd rfl) (d_fa ha rfl Try.runUnderlying40 rfl rfl Try.sizeOf29 (by decide)) (fun a ha => ?_)
    obtain ⟨v10, e11, h⟩ := bs1 h
    refine s_do rfl ha (ltd rfl) (d_ld ha rfl Try.isAgg29 (ldL_c e11)) (fun a ha => ?_)
    obtain ⟨s12, w13, e14, h⟩ := bs2 h
    refine s_do rfl ha (ltd rfl) (d_apS ha rfl rfl e14) (fun a ha => ?_)
    refine s_do rfl ha (ltd rfl) (d_assign ha rfl) (fun a ha => ?_)
    refine s_nil ?_
    refine t_n ?_
    replace ha : Has 142 [(0, (.pointer a0)), (1, (.pointer a1)), (5, (.pointer (some p1))), (7, (Sl.v s12))] _ := ha.sub ⟨rfl, rfl, rfl, rfl, trivial⟩
    refine wp_seq ?_
    refine region_lit ?_
    refine s_do rfl ha (ltd rfl) (d_move ha rfl) (fun a ha => ?_)
    refine s_do rfl ha (ltd rfl) (d_fa ha rfl Try.runUnderlying40 rfl rfl Try.sizeOf3 (by decide)) (fun a ha => ?_)
    obtain ⟨v15, e16, h⟩ := bs1 h
    refine s_do rfl ha (ltd rfl) (d_ld ha rfl Try.isAgg3 (ldI_c e16)) (fun a ha => ?_)
    refine s_do rfl ha (ltd rfl) (d_move ha rfl) (fun a ha => ?_)
    obtain ⟨v17, w18, e19, h⟩ := bs2 h
    refine s_do rfl ha (ltd rfl) (d_call (xs := [_, _, _]) (vs := [(.pointer a0), (.int .i64 v15), (Sl.v s12)]) ha ⟨rfl, rfl, rfl, trivial⟩ Try.call22 (sector_Disk_Write_ok e19)) (fun a ha => ?_)
    refine s_do rfl ha (ltd rfl) (d_assign ha rfl) (fun a ha => ?_)
    refine s_nil ?_
    refine t_n ?_
    replace ha : Has 142 [(1, (.pointer a1)), (5, (.pointer (some p1))), (7, (Sl.v s12)), (8, (.int .i64 v17))] _ := ha.sub ⟨rfl, rfl, rfl, rfl, trivial⟩
    refine wp_seq ?_
    refine region_lit ?_
    refine s_do rfl ha (ltd rfl) (d_move ha rfl) (fun a ha => ?_)
    refine s_do rfl ha (ltd rfl) (d_fa ha rfl Try.runUnderlying40 rfl rfl Try.sizeOf3 (by decide)) (fun a ha => ?_)
    obtain ⟨v20, e21, h⟩ := bs1 h
    refine s_do rfl ha (ltd rfl) (d_ld ha rfl Try.isAgg3 (ldI_c e21)) (fun a ha => ?_)
    refine s_do rfl ha (ltd rfl) (d_fa ha rfl Try.runUnderlying40 rfl rfl Try.sizeOf29 (by decide)) (fun a ha => ?_)
    obtain ⟨v22, e23, h⟩ := bs1 h
    refine s_do rfl ha (ltd rfl) (d_ld ha rfl Try.isAgg29 (ldL_c e23)) (fun a ha => ?_)
    obtain ⟨v24, w25, e26, h⟩ := bs2 h
    refine s_do rfl ha (ltd rfl) (d_call (xs := [_, _, _]) (vs := [(.pointer a1), (.int .i64 v20), (Sl.v v22)]) ha ⟨rfl, rfl, rfl, trivial⟩ Try.call48 (grapevineref09_Disk_Write_ok e26)) (fun a ha => ?_)
    refine s_do rfl ha (ltd rfl) (d_assign ha rfl) (fun a ha => ?_)
    refine s_nil ?_
    refine t_n ?_
    replace ha : Has 142 [(7, (Sl.v s12)), (8, (.int .i64 v17)), (9, (.int .i64 v24))] _ := ha.sub ⟨rfl, rfl, rfl, trivial⟩
    refine wp_seq ?_
    refine wp_seq ?_
    refine region_lit ?_
    refine s_do rfl ha (ltd rfl) (d_assign ha rfl) (fun a ha => ?_)
    refine s_nil ?_
    refine t_n ?_
    replace ha : Has 142 [(7, (Sl.v s12)), (8, (.int .i64 v17)), (9, (.int .i64 v24)), (10, (.int .i64 0))] _ := ha.sub ⟨rfl, rfl, rfl, rfl, trivial⟩
    refine wp_block ?_
    obtain ⟨w31, e30, h⟩ := bs1 h
    refine s_loop1 (n := 142) (L := [(8, (.int .i64 v17)), (9, (.int .i64 v24))]) (w' := w31) (e := .exit 1) (I := fun (s : Int × World) a w => Has 142 [(10, (.int .i64 s.1)), (7, (Sl.v s12)), (8, (.int .i64 v17)), (9, (.int .i64 v24))] a ∧ w = s.2) ⟨ha.sub ⟨rfl, rfl, rfl, rfl, trivial⟩, rfl⟩ e30 (fun a ha => ?_) (fun hk32 => ?_)
    · refine b_hit ?_
      refine t_n ?_
      replace ha : Has 142 [(8, (.int .i64 v17)), (9, (.int .i64 v24))] _ := ha.sub ⟨rfl, rfl, trivial⟩
      refine wp_seq ?_
      refine region_lit ?_
      refine s_do rfl ha (ltd rfl) (d_move ha rfl) (fun a ha => ?_)
      refine s_do rfl ha (ltd rfl) (d_move ha rfl) (fun a ha => ?_)
      refine s_do rfl ha (ltd rfl) (d_eq ha rfl rfl) (fun a ha => ?_)
      refine s_do rfl ha (ltd rfl) (d_assign ha rfl) (fun a ha => ?_)
      refine s_nil ?_
      refine t_n ?_
      replace ha : Has 142 [(6, (.bool (v17 == v24)))] _ := ha.sub ⟨rfl, trivial⟩
      refine wp_ret ?_
      refine b_r ?_
      refine t_r ?_
      have hS := ha
      cases h
      exact ret1 Try.results33 hS rfl ⟨rfl, rfl⟩
    · clear h
      rintro ⟨x27, w28⟩ a wq o ⟨ha, hwq⟩ h hr33
      obtain rfl : w28 = wq := hwq.symm
      have ha : Has 142 [(10, (.int .i64 x27)), (7, (Sl.v s12)), (8, (.int .i64 v17)), (9, (.int .i64 v24))] a := ha
      have h : grapevinelaw09_do_l1 s12 x27 w28 = some o := h
      unfold grapevinelaw09_do_l1 at h
      refine wp_seq ?_
      refine wp_seq ?_
      refine region_lit ?_
      refine s_do rfl ha (ltd rfl) (d_move ha rfl) (fun a ha => ?_)
      refine s_do rfl ha (ltd rfl) (d_move ha rfl) (fun a ha => ?_)
      refine s_do rfl ha (ltd rfl) (d_lenS ha rfl Try.runUnderlying29) (fun a ha => ?_)
      refine s_do rfl ha (ltd rfl) (d_lt ha rfl rfl) (fun a ha => ?_)
      refine s_nil ?_
      refine t_n ?_
      replace ha : Has 142 [(7, (Sl.v s12)), (8, (.int .i64 v17)), (9, (.int .i64 v24)), (10, (.int .i64 x27)), (39, (.bool (decide (x27 < (s12.n : Int)))))] _ := ha.sub ⟨rfl, rfl, rfl, rfl, rfl, trivial⟩
      refine s_cond ha rfl h (fun b34 h => ?_) (fun b34 h => ?_)
      · refine wp_skip ?_
        refine t_n ?_
        replace ha : Has 142 [(7, (Sl.v s12)), (8, (.int .i64 v17)), (9, (.int .i64 v24)), (10, (.int .i64 x27))] _ := ha.sub ⟨rfl, rfl, rfl, rfl, trivial⟩
        refine wp_seq ?_
        refine wp_block ?_
        refine region_lit ?_
        refine s_do rfl ha (ltd rfl) (d_move ha rfl) (fun a ha => ?_)
        refine s_do rfl ha (ltd rfl) (d_move ha rfl) (fun a ha => ?_)
        obtain ⟨p35, e36, h⟩ := bs1 h
        refine s_do rfl ha (ltd rfl) (d_ix ha rfl rfl Try.runUnderlying29 Try.sizeOf5 e36) (fun a ha => ?_)
        obtain ⟨v37, e38, h⟩ := bs1 h
        refine s_do rfl ha (ltd rfl) (d_ld ha rfl Try.isAgg5 (ldI_c e38)) (fun a ha => ?_)
        refine s_do rfl ha (ltd rfl) (d_xor ha rfl rfl) (fun a ha => ?_)
        obtain ⟨p39, e40, h⟩ := bs1 h
        refine s_do rfl ha (ltd rfl) (d_ix ha rfl rfl Try.runUnderlying29 Try.sizeOf5 e40) (fun a ha => ?_)
        obtain ⟨w41, e42, h⟩ := bs1 h
        refine s_do rfl ha (ltd rfl) (d_st ha rfl rfl Try.sizeOf5 e42) (fun a ha => ?_)
        refine s_nil ?_
        refine b_n ?_
        refine t_n ?_
        replace ha : Has 142 [(7, (Sl.v s12)), (8, (.int .i64 v17)), (9, (.int .i64 v24)), (10, (.int .i64 x27))] _ := ha.sub ⟨rfl, rfl, rfl, rfl, trivial⟩
        refine region_lit ?_
        refine s_do rfl ha (ltd rfl) (d_move ha rfl) (fun a ha => ?_)
        refine s_do rfl ha (ltd rfl) (d_add ha rfl rfl) (fun a ha => ?_)
        refine s_do rfl ha (ltd rfl) (d_assign ha rfl) (fun a ha => ?_)
        refine s_nil ?_
        have hS : Has 142 [(10, (.int .i64 (IntKind.wrap .i64 (x27 + 1)))), (7, (Sl.v s12)), (8, (.int .i64 v17)), (9, (.int .i64 v24))] _ := ha.sub ⟨rfl, rfl, rfl, rfl, trivial⟩
        cases h
        exact lp_next ⟨hS, rfl⟩
      · refine wp_exit ?_
        refine t_x ?_
        have hS : Has 142 [(8, (.int .i64 v17)), (9, (.int .i64 v24))] _ := ha.sub ⟨rfl, rfl, trivial⟩
        cases h
        cases hr33 _ rfl
        refine lp_x ?_
        exact hk32 _ hS
  · refine wp_seq ?_
    refine region_lit ?_
    refine s_do rfl ha (ltd rfl) (d_eq ha rfl rfl) (fun a ha => ?_)
    refine s_do rfl ha (ltd rfl) (d_assign ha rfl) (fun a ha => ?_)
    refine s_nil ?_
    refine t_n ?_
    replace ha : Has 142 [(0, (.pointer a0)), (1, (.pointer a1)), (5, (.pointer (some p1))), (18, (.int .i64 v4)), (51, (.bool (v4 == 1)))] _ := ha.sub ⟨rfl, rfl, rfl, rfl, rfl, trivial⟩
    refine s_cond ha rfl h (fun b43 h => ?_) (fun b43 h => ?_)
    · refine wp_seq ?_
      refine region_lit ?_
      refine s_do rfl ha (ltd rfl) (d_move ha rfl) (fun a ha => ?_)
      refine s_do rfl ha (ltd rfl) (d_fa ha rfl Try.runUnderlying40 rfl rfl Try.sizeOf3 (by decide)) (fun a ha => ?_)
      obtain ⟨v44, e45, h⟩ := bs1 h
      refine s_do rfl ha (ltd rfl) (d_ld ha rfl Try.isAgg3 (ldI_c e45)) (fun a ha => ?_)
      obtain ⟨v46, v47, w48, e49, h⟩ := bs3 h
      refine s_do rfl ha (ltd rfl) (d_call (xs := [_, _]) (vs := [(.pointer a0), (.int .i64 v44)]) ha ⟨rfl, rfl, trivial⟩ Try.call25 (sector_Disk_Read_ok e49)) (fun a ha => ?_)
      refine s_do rfl ha (ltd rfl) (d_move ha rfl) (fun a ha => ?_)
      refine s_do rfl ha (ltd rfl) (d_ext ha rfl rfl) (fun a ha => ?_)
      refine s_do rfl ha (ltd rfl) (d_ext ha rfl rfl) (fun a ha => ?_)
      refine s_do rfl ha (ltd rfl) (d_assign ha rfl) (fun a ha => ?_)
      refine s_do rfl ha (ltd rfl) (d_assign ha rfl) (fun a ha => ?_)
      refine s_nil ?_
      refine t_n ?_
      replace ha : Has 142 [(1, (.pointer a1)), (5, (.pointer (some p1))), (11, (Sl.v v46)), (12, (.int .i64 v47))] _ := ha.sub ⟨rfl, rfl, rfl, rfl, trivial⟩
      refine wp_seq ?_
      refine region_lit ?_
      refine s_do rfl ha (ltd rfl) (d_move ha rfl) (fun a ha => ?_)
      refine s_do rfl ha (ltd rfl) (d_fa ha rfl Try.runUnderlying40 rfl rfl Try.sizeOf3 (by decide)) (fun a ha => ?_)
      obtain ⟨v50, e51, h⟩ := bs1 h
      refine s_do rfl ha (ltd rfl) (d_ld ha rfl Try.isAgg3 (ldI_c e51)) (fun a ha => ?_)
      obtain ⟨v52, v53, w54, e55, h⟩ := bs3 h
      refine s_do rfl ha (ltd rfl) (d_call (xs := [_, _]) (vs := [(.pointer a1), (.int .i64 v50)]) ha ⟨rfl, rfl, trivial⟩ Try.call44 (grapevineref09_Disk_Read_ok e55)) (fun a ha => ?_)
      refine s_do rfl ha (ltd rfl) (d_move ha rfl) (fun a ha => ?_)
      refine s_do rfl ha (ltd rfl) (d_ext ha rfl rfl) (fun a ha => ?_)
      refine s_do rfl ha (ltd rfl) (d_ext ha rfl rfl) (fun a ha => ?_)
      refine s_do rfl ha (ltd rfl) (d_assign ha rfl) (fun a ha => ?_)
      refine s_do rfl ha (ltd rfl) (d_assign ha rfl) (fun a ha => ?_)
      refine s_nil ?_
      refine t_n ?_
      replace ha : Has 142 [(11, (Sl.v v46)), (12, (.int .i64 v47)), (13, (Sl.v v52)), (14, (.int .i64 v53))] _ := ha.sub ⟨rfl, rfl, rfl, rfl, trivial⟩
      refine wp_seq ?_
      obtain ⟨v56, w57, e58, h⟩ := bs2 h
      refine reg_join (n := 142) (L := [(15, (.bool v56)), (11, (Sl.v v46))]) (w' := w57) (fun a ha => ?_) (fun hk59 => ?_)
      · refine t_n ?_
        replace ha : Has 142 [(11, (Sl.v v46)), (15, (.bool v56))] _ := ha.sub ⟨rfl, rfl, trivial⟩
        refine wp_seq ?_
        refine wp_seq ?_
        refine region_lit ?_
        refine s_do rfl ha (ltd rfl) (d_assign ha rfl) (fun a ha => ?_)
        refine s_nil ?_
        refine t_n ?_
        replace ha : Has 142 [(11, (Sl.v v46)), (15, (.bool v56)), (16, (.int .i64 0))] _ := ha.sub ⟨rfl, rfl, rfl, trivial⟩
        refine wp_block ?_
        obtain ⟨w69, e68, h⟩ := bs1 h
        refine s_loop1 (n := 142) (L := [(15, (.bool v56))]) (w' := w69) (e := .exit 3) (I := fun (s : Int × World) a w => Has 142 [(16, (.int .i64 s.1)), (11, (Sl.v v46)), (15, (.bool v56))] a ∧ w = s.2) ⟨ha.sub ⟨rfl, rfl, rfl, trivial⟩, rfl⟩ e68 (fun a ha => ?_) (fun hk70 => ?_)
        · refine b_hit ?_
          refine t_n ?_
          replace ha : Has 142 [(15, (.bool v56))] _ := ha.sub ⟨rfl, trivial⟩
          refine wp_seq ?_
          refine region_lit ?_
          refine s_do rfl ha (ltd rfl) (d_move ha rfl) (fun a ha => ?_)
          refine s_do rfl ha (ltd rfl) (d_assign ha rfl) (fun a ha => ?_)
          refine s_nil ?_
          refine t_n ?_
          replace ha : Has 142 [(6, (.bool v56))] _ := ha.sub ⟨rfl, trivial⟩
          refine wp_ret ?_
          refine b_r ?_
          refine t_r ?_
          have hS := ha
          cases h
          exact ret1 Try.results33 hS rfl ⟨rfl, rfl⟩
        · clear h
          rintro ⟨x65, w66⟩ a wq o ⟨ha, hwq⟩ h hr71
          obtain rfl : w66 = wq := hwq.symm
          have ha : Has 142 [(16, (.int .i64 x65)), (11, (Sl.v v46)), (15, (.bool v56))] a := ha
          have h : grapevinelaw09_do_l2 v46 x65 w66 = some o := h
          unfold grapevinelaw09_do_l2 at h
          refine wp_seq ?_
          refine wp_seq ?_
          refine region_lit ?_
          refine s_do rfl ha (ltd rfl) (d_move ha rfl) (fun a ha => ?_)
          refine s_do rfl ha (ltd rfl) (d_move ha rfl) (fun a ha => ?_)
          refine s_do rfl ha (ltd rfl) (d_lenS ha rfl Try.runUnderlying29) (fun a ha => ?_)
          refine s_do rfl ha (ltd rfl) (d_lt ha rfl rfl) (fun a ha => ?_)
          refine s_nil ?_
          refine t_n ?_
          replace ha : Has 142 [(11, (Sl.v v46)), (15, (.bool v56)), (16, (.int .i64 x65)), (80, (.bool (decide (x65 < (v46.n : Int)))))] _ := ha.sub ⟨rfl, rfl, rfl, rfl, trivial⟩
          refine s_cond ha rfl h (fun b72 h => ?_) (fun b72 h => ?_)
          · refine wp_skip ?_
            refine t_n ?_
            replace ha : Has 142 [(11, (Sl.v v46)), (15, (.bool v56)), (16, (.int .i64 x65))] _ := ha.sub ⟨rfl, rfl, rfl, trivial⟩
            refine wp_seq ?_
            refine wp_block ?_
            refine region_lit ?_
            refine s_do rfl ha (ltd rfl) (d_move ha rfl) (fun a ha => ?_)
            refine s_do rfl ha (ltd rfl) (d_move ha rfl) (fun a ha => ?_)
            obtain ⟨p73, e74, h⟩ := bs1 h
            refine s_do rfl ha (ltd rfl) (d_ix ha rfl rfl Try.runUnderlying29 Try.sizeOf5 e74) (fun a ha => ?_)
            obtain ⟨w75, e76, h⟩ := bs1 h
            refine s_do rfl ha (ltd rfl) (d_st ha rfl rfl Try.sizeOf5 e76) (fun a ha => ?_)
            refine s_nil ?_
            refine b_n ?_
            refine t_n ?_
            replace ha : Has 142 [(11, (Sl.v v46)), (15, (.bool v56)), (16, (.int .i64 x65))] _ := ha.sub ⟨rfl, rfl, rfl, trivial⟩
            refine region_lit ?_
            refine s_do rfl ha (ltd rfl) (d_move ha rfl) (fun a ha => ?_)
            refine s_do rfl ha (ltd rfl) (d_add ha rfl rfl) (fun a ha => ?_)
            refine s_do rfl ha (ltd rfl) (d_assign ha rfl) (fun a ha => ?_)
            refine s_nil ?_
            have hS : Has 142 [(16, (.int .i64 (IntKind.wrap .i64 (x65 + 1)))), (11, (Sl.v v46)), (15, (.bool v56))] _ := ha.sub ⟨rfl, rfl, rfl, trivial⟩
            cases h
            exact lp_next ⟨hS, rfl⟩
          · refine wp_exit ?_
            refine t_x ?_
            have hS : Has 142 [(15, (.bool v56))] _ := ha.sub ⟨rfl, trivial⟩
            cases h
            cases hr71 _ rfl
            refine lp_x ?_
            exact hk70 _ hS
      · clear h
        have h := e58
        refine region_lit ?_
        refine s_do rfl ha (ltd rfl) (d_move ha rfl) (fun a ha => ?_)
        obtain ⟨s60, e61, h⟩ := bs1 h
        refine s_do rfl ha (ltd rfl) (d_b2s ha rfl Try.runUnderlying29 Try.runUnderlying9 Try.runUnderlying5 e61) (fun a ha => ?_)
        refine s_do rfl ha (ltd rfl) (d_move ha rfl) (fun a ha => ?_)
        obtain ⟨s62, e63, h⟩ := bs1 h
        refine s_do rfl ha (ltd rfl) (d_b2s ha rfl Try.runUnderlying29 Try.runUnderlying9 Try.runUnderlying5 e63) (fun a ha => ?_)
        refine s_do rfl ha (ltd rfl) (d_eqT ha rfl rfl) (fun a ha => ?_)
        refine s_do rfl ha (ltd rfl) (d_move ha rfl) (fun a ha => ?_)
        refine ite_s h (fun b64 h => ?_) (fun b64 h => ?_)
        · refine s_do_g2 rfl rfl ha (rfl : List.lookup 72 _ = _) b64 (ltd rfl) (d_move ha rfl) (fun a ha => ?_)
          refine s_do_g2 rfl rfl ha (rfl : List.lookup 72 _ = _) b64 (ltd rfl) (d_move ha rfl) (fun a ha => ?_)
          refine s_do_g2 rfl rfl ha (rfl : List.lookup 72 _ = _) b64 (ltd rfl) (d_eq ha rfl rfl) (fun a ha => ?_)
          refine s_do rfl ha (ltd rfl) (d_pick_t ha rfl b64 rfl) (fun a ha => ?_)
          refine s_do rfl ha (ltd rfl) (d_assign ha rfl) (fun a ha => ?_)
          refine s_nil ?_
          have hS : Has 142 [(15, (.bool (v47 == v53))), (11, (Sl.v v46))] _ := ha.sub ⟨rfl, rfl, trivial⟩
          cases h
          exact hk59 _ hS
        · refine s_no_g rfl rfl ha (rfl : List.lookup 72 _ = _) (nn b64 _ rfl) (ltd rfl) (fun a ha => ?_)
          refine s_no_g rfl rfl ha (rfl : List.lookup 72 _ = _) (nn b64 _ rfl) (ltd rfl) (fun a ha => ?_)
          refine s_no_g rfl rfl ha (rfl : List.lookup 72 _ = _) (nn b64 _ rfl) (ltd rfl) (fun a ha => ?_)
          refine s_do rfl ha (ltd rfl) (d_pick_f ha rfl b64 rfl) (fun a ha => ?_)
          refine s_do rfl ha (ltd rfl) (d_assign ha rfl) (fun a ha => ?_)
          refine s_nil ?_
          have hS : Has 142 [(15, (.bool false)), (11, (Sl.v v46))] _ := ha.sub ⟨rfl, rfl, trivial⟩
          cases h
          exact hk59 _ hS
    · refine wp_seq ?_
      refine region_lit ?_
      refine s_do rfl ha (ltd rfl) (d_eq ha rfl rfl) (fun a ha => ?_)
      refine s_do rfl ha (ltd rfl) (d_assign ha rfl) (fun a ha => ?_)
      refine s_nil ?_
      refine t_n ?_
      replace ha : Has 142 [(0, (.pointer a0)), (1, (.pointer a1)), (5, (.pointer (some p1))), (18, (.int .i64 v4)), (87, (.bool (v4 == 2)))] _ := ha.sub ⟨rfl, rfl, rfl, rfl, rfl, trivial⟩
      refine s_cond ha rfl h (fun b77 h => ?_) (fun b77 h => ?_)
      · refine wp_seq ?_
        refine region_lit ?_
        refine s_do rfl ha (ltd rfl) (d_move ha rfl) (fun a ha => ?_)
        obtain ⟨v78, w79, e80, h⟩ := bs2 h
        refine s_do rfl ha (ltd rfl) (d_call (xs := [_]) (vs := [(.pointer a0)]) ha ⟨rfl, trivial⟩ Try.call23 (sector_Disk_Sync_ok e80)) (fun a ha => ?_)
        refine s_do rfl ha (ltd rfl) (d_move ha rfl) (fun a ha => ?_)
        obtain ⟨v81, w82, e83, h⟩ := bs2 h
        refine s_do rfl ha (ltd rfl) (d_call (xs := [_]) (vs := [(.pointer a1)]) ha ⟨rfl, trivial⟩ Try.call49 (grapevineref09_Disk_Sync_ok e83)) (fun a ha => ?_)
        refine s_do rfl ha (ltd rfl) (d_eq ha rfl rfl) (fun a ha => ?_)
        refine s_do rfl ha (ltd rfl) (d_assign ha rfl) (fun a ha => ?_)
        refine s_nil ?_
        refine t_n ?_
        replace ha : Has 142 [(6, (.bool (v78 == v81)))] _ := ha.sub ⟨rfl, trivial⟩
        refine wp_ret ?_
        refine b_r ?_
        refine t_r ?_
        have hS := ha
        cases h
        exact ret1 Try.results33 hS rfl ⟨rfl, rfl⟩
      · refine wp_seq ?_
        refine region_lit ?_
        refine s_do rfl ha (ltd rfl) (d_eq ha rfl rfl) (fun a ha => ?_)
        refine s_do rfl ha (ltd rfl) (d_assign ha rfl) (fun a ha => ?_)
        refine s_nil ?_
        refine t_n ?_
        replace ha : Has 142 [(0, (.pointer a0)), (1, (.pointer a1)), (5, (.pointer (some p1))), (18, (.int .i64 v4)), (94, (.bool (v4 == 3)))] _ := ha.sub ⟨rfl, rfl, rfl, rfl, rfl, trivial⟩
        refine s_cond ha rfl h (fun b84 h => ?_) (fun b84 h => ?_)
        · refine wp_seq ?_
          obtain ⟨w85, e86, h⟩ := bs1 h
          obtain ⟨v87, e88, h⟩ := bs1 h
          obtain ⟨v89, w90, e91, h⟩ := bs2 h
          obtain ⟨v92, e93, h⟩ := bs1 h
          obtain ⟨v94, w95, e96, h⟩ := bs2 h
          obtain ⟨e97, h⟩ := chk_some h
          have ha : Has 142 [(0, (.pointer a0)), (1, (.pointer a1)), (5, (.pointer (some p1))), (18, (.int .i64 v4)), (94, (.bool (v4 == 3)))] a := ha.sub ⟨rfl, rfl, rfl, rfl, rfl, trivial⟩
          refine region_draw (n := 142) (ds := (⟨_, (.pointer a0), false, 0, 0, [], [(0, (.pointer a0))]⟩ :: ⟨_, (.pointer (some (p1.add 1))), false, 0, 0, [], [(5, (.pointer (some p1)))]⟩ :: ⟨_, (.int .i64 v87), false, 0, 0, [1], [(97, (.pointer (some (p1.add 1))))]⟩ :: ⟨_, (.int .i64 v89), true, 0, 0, [0, 1, 2], [(96, (.pointer a0)), (98, (.int .i64 v87))]⟩ :: ⟨_, (.pointer a1), false, 0, 1, [], [(1, (.pointer a1))]⟩ :: ⟨_, (.pointer (some (p1.add 1))), false, 0, 1, [], [(5, (.pointer (some p1)))]⟩ :: ⟨_, (.int .i64 v92), false, 0, 1, [5], [(101, (.pointer (some (p1.add 1))))]⟩ :: ⟨_, (.int .i64 v94), true, 1, 1, [0, 1, 2, 3, 4, 5, 6], [(100, (.pointer a1)), (102, (.int .i64 v92))]⟩ :: ⟨_, (.bool (v89 == v94)), false, 2, 2, [0, 1, 2, 3, 4, 5, 6, 7], [(99, (.int .i64 v89)), (103, (.int .i64 v94))]⟩ :: ⟨_, (.bool (v89 == v94)), false, 2, 2, [0, 1, 2, 3, 4, 5, 6, 7, 8], [(104, (.bool (v89 == v94)))]⟩ :: [])) (W := (fun j => match j with | 0 => w85 | 1 => w90 | _ => w95)) (by kernel_rfl) ha (dr_w e86) (by kernel_rfl) ?_ (reads_of (by kernel_rfl)) (by kernel_rfl) (m := 2) (by kernel_rfl) (fun a ha => ?_)
          · refine ⟨?_, ?_, ?_, ?_, ?_, ?_, ?_, ?_, ?_, ?_, trivial⟩
            · intro j _ _; exact ok_do rfl fun a ha => d_move ha rfl
            · intro j _ _; exact ok_do rfl fun a ha => d_fa ha rfl Try.runUnderlying40 rfl rfl Try.sizeOf3 (by decide)
            · intro j h1 h2; obtain rfl : j = 0 := Nat.le_antisymm h2 h1; exact ok_do rfl fun a ha => d_ld ha rfl Try.isAgg3 (ldI_c e88)
            · intro j h1 h2; obtain rfl : j = 0 := Nat.le_antisymm h2 h1; exact ok_do rfl fun a ha => d_call (xs := [_, _]) (vs := [(.pointer a0), (.int .i64 v87)]) ha ⟨rfl, rfl, trivial⟩ Try.call27 (sector_Disk_Trip_ok e91)
            · intro j _ _; exact ok_do rfl fun a ha => d_move ha rfl
            · intro j _ _; exact ok_do rfl fun a ha => d_fa ha rfl Try.runUnderlying40 rfl rfl Try.sizeOf3 (by decide)
            · intro j h1 h2; have h1 : 0 ≤ j := h1; have h2 : j ≤ 1 := h2; rcases (by omega : j = 0 ∨ j = 1) with rfl | rfl
              · exact ok_do rfl fun a ha => d_ld ha rfl Try.isAgg3 (ldI_c e97)
              · exact ok_do rfl fun a ha => d_ld ha rfl Try.isAgg3 (ldI_c e93)
            · intro j h1 h2; obtain rfl : j = 1 := Nat.le_antisymm h2 h1; exact ok_do rfl fun a ha => d_call (xs := [_, _]) (vs := [(.pointer a1), (.int .i64 v92)]) ha ⟨rfl, rfl, trivial⟩ Try.call50 (grapevineref09_Disk_Trip_ok e96)
            · intro j _ _; exact ok_do rfl fun a ha => d_eq ha rfl rfl
            · intro j _ _; exact ok_do rfl fun a ha => d_assign ha rfl
          · have ha : Has 142 [(6, (.bool (v89 == v94)))] a := ha.sub ⟨rfl, trivial⟩
            refine t_n ?_
            replace ha : Has 142 [(6, (.bool (v89 == v94)))] _ := ha.sub ⟨rfl, trivial⟩
            refine wp_ret ?_
            refine b_r ?_
            refine t_r ?_
            have hS := ha
            cases h
            exact ret1 Try.results33 hS rfl ⟨rfl, rfl⟩
        · refine wp_seq ?_
          refine region_lit ?_
          refine s_do rfl ha (ltd rfl) (d_eq ha rfl rfl) (fun a ha => ?_)
          refine s_do rfl ha (ltd rfl) (d_assign ha rfl) (fun a ha => ?_)
          refine s_nil ?_
          refine t_n ?_
          replace ha : Has 142 [(0, (.pointer a0)), (1, (.pointer a1)), (5, (.pointer (some p1))), (105, (.bool (v4 == 4)))] _ := ha.sub ⟨rfl, rfl, rfl, rfl, trivial⟩
          refine s_cond ha rfl h (fun b98 h => ?_) (fun b98 h => ?_)
          · refine wp_seq ?_
            obtain ⟨w99, e100, h⟩ := bs1 h
            obtain ⟨v101, e102, h⟩ := bs1 h
            obtain ⟨v103, w104, e105, h⟩ := bs2 h
            obtain ⟨v106, e107, h⟩ := bs1 h
            obtain ⟨v108, w109, e110, h⟩ := bs2 h
            obtain ⟨e111, h⟩ := chk_some h
            have ha : Has 142 [(0, (.pointer a0)), (1, (.pointer a1)), (5, (.pointer (some p1))), (105, (.bool (v4 == 4)))] a := ha.sub ⟨rfl, rfl, rfl, rfl, trivial⟩
            refine region_draw (n := 142) (ds := (⟨_, (.pointer a0), false, 0, 0, [], [(0, (.pointer a0))]⟩ :: ⟨_, (.pointer (some (p1.add 3))), false, 0, 0, [], [(5, (.pointer (some p1)))]⟩ :: ⟨_, (Sl.v v101), false, 0, 0, [1], [(108, (.pointer (some (p1.add 3))))]⟩ :: ⟨_, (.int .i64 v103), true, 0, 0, [0, 1, 2], [(107, (.pointer a0)), (109, (Sl.v v101))]⟩ :: ⟨_, (.pointer a1), false, 0, 1, [], [(1, (.pointer a1))]⟩ :: ⟨_, (.pointer (some (p1.add 3))), false, 0, 1, [], [(5, (.pointer (some p1)))]⟩ :: ⟨_, (Sl.v v106), false, 0, 1, [5], [(112, (.pointer (some (p1.add 3))))]⟩ :: ⟨_, (.int .i64 v108), true, 1, 1, [0, 1, 2, 3, 4, 5, 6], [(111, (.pointer a1)), (113, (Sl.v v106))]⟩ :: ⟨_, (.bool (v103 == v108)), false, 2, 2, [0, 1, 2, 3, 4, 5, 6, 7], [(110, (.int .i64 v103)), (114, (.int .i64 v108))]⟩ :: ⟨_, (.bool (v103 == v108)), false, 2, 2, [0, 1, 2, 3, 4, 5, 6, 7, 8], [(115, (.bool (v103 == v108)))]⟩ :: [])) (W := (fun j => match j with | 0 => w99 | 1 => w104 | _ => w109)) (by kernel_rfl) ha (dr_w e100) (by kernel_rfl) ?_ (reads_of (by kernel_rfl)) (by kernel_rfl) (m := 2) (by kernel_rfl) (fun a ha => ?_)
            · refine ⟨?_, ?_, ?_, ?_, ?_, ?_, ?_, ?_, ?_, ?_, trivial⟩
              · intro j _ _; exact ok_do rfl fun a ha => d_move ha rfl
              · intro j _ _; exact ok_do rfl fun a ha => d_fa ha rfl Try.runUnderlying40 rfl rfl Try.sizeOf35 (by decide)
              · intro j h1 h2; obtain rfl : j = 0 := Nat.le_antisymm h2 h1; exact ok_do rfl fun a ha => d_ld ha rfl Try.isAgg35 (ldL_c e102)
              · intro j h1 h2; obtain rfl : j = 0 := Nat.le_antisymm h2 h1; exact ok_do rfl fun a ha => d_call (xs := [_, _]) (vs := [(.pointer a0), (Sl.v v101)]) ha ⟨rfl, rfl, trivial⟩ Try.call26 (sector_Disk_Crash_ok e105)
              · intro j _ _; exact ok_do rfl fun a ha => d_move ha rfl
              · intro j _ _; exact ok_do rfl fun a ha => d_fa ha rfl Try.runUnderlying40 rfl rfl Try.sizeOf35 (by decide)
              · intro j h1 h2; have h1 : 0 ≤ j := h1; have h2 : j ≤ 1 := h2; rcases (by omega : j = 0 ∨ j = 1) with rfl | rfl
                · exact ok_do rfl fun a ha => d_ld ha rfl Try.isAgg35 (ldL_c e111)
                · exact ok_do rfl fun a ha => d_ld ha rfl Try.isAgg35 (ldL_c e107)
              · intro j h1 h2; obtain rfl : j = 1 := Nat.le_antisymm h2 h1; exact ok_do rfl fun a ha => d_call (xs := [_, _]) (vs := [(.pointer a1), (Sl.v v106)]) ha ⟨rfl, rfl, trivial⟩ Try.call51 (grapevineref09_Disk_Crash_ok e110)
              · intro j _ _; exact ok_do rfl fun a ha => d_eq ha rfl rfl
              · intro j _ _; exact ok_do rfl fun a ha => d_assign ha rfl
            · have ha : Has 142 [(6, (.bool (v103 == v108)))] a := ha.sub ⟨rfl, trivial⟩
              refine t_n ?_
              replace ha : Has 142 [(6, (.bool (v103 == v108)))] _ := ha.sub ⟨rfl, trivial⟩
              refine wp_ret ?_
              refine b_r ?_
              refine t_r ?_
              have hS := ha
              cases h
              exact ret1 Try.results33 hS rfl ⟨rfl, rfl⟩
          · refine wp_skip ?_
            refine b_n ?_
            refine t_n ?_
            replace ha : Has 142 [(0, (.pointer a0)), (1, (.pointer a1))] _ := ha.sub ⟨rfl, rfl, trivial⟩
            refine wp_seq ?_
            obtain ⟨v112, w113, e114, h⟩ := bs2 h
            refine reg_join (n := 142) (L := [(6, (.bool v112))]) (w' := w113) (fun a ha => ?_) (fun hk115 => ?_)
            · refine t_n ?_
              replace ha : Has 142 [(6, (.bool v112))] _ := ha.sub ⟨rfl, trivial⟩
              refine wp_ret ?_
              have hS := ha
              cases h
              exact ret1 Try.results33 hS rfl ⟨rfl, rfl⟩
            · clear h
              have h := e114
              obtain ⟨w116, e117, h⟩ := bs1 h
              obtain ⟨v118, w119, e120, h⟩ := bs2 h
              obtain ⟨p121, e122, h⟩ := bs1 h
              obtain ⟨v123, e124, h⟩ := bs1 h
              refine ite_s h (fun b125 h => ?_) (fun b125 h => ?_)
              · obtain ⟨v126, w127, e128, h⟩ := bs2 h
                obtain ⟨v129, e130, h⟩ := bs1 h
                refine ite_s h (fun b131 h => ?_) (fun b131 h => ?_)
                · obtain ⟨v132, w133, e134, h⟩ := bs2 h
                  obtain ⟨v135, e136, h⟩ := bs1 h
                  obtain ⟨e137, h⟩ := chk_some h
                  obtain ⟨e138, h⟩ := chk_some h
                  obtain ⟨e139, h⟩ := chk_some h
                  have ha : Has 142 [(0, (.pointer a0)), (1, (.pointer a1))] a := ha.sub ⟨rfl, rfl, trivial⟩
                  refine region_draw (n := 142) (ds := (⟨_, (.pointer a0), false, 0, 0, [], [(0, (.pointer a0))]⟩ :: ⟨_, (.bool v118), true, 0, 0, [0], [(116, (.pointer a0))]⟩ :: ⟨_, (.pointer a1), false, 0, 1, [], [(1, (.pointer a1))]⟩ :: ⟨_, (.pointer (some p121)), false, 0, 1, [2], [(118, (.pointer a1))]⟩ :: ⟨_, (.pointer (some (p121.add 3))), false, 0, 1, [2, 3], [(119, (.pointer (some p121)))]⟩ :: ⟨_, (.bool v123), false, 0, 1, [2, 3, 4], [(120, (.pointer (some (p121.add 3))))]⟩ :: ⟨_, (.bool (v118 == v123)), false, 1, 1, [0, 1, 2, 3, 4, 5], [(117, (.bool v118)), (121, (.bool v123))]⟩ :: ⟨_, (.bool (v118 == v123)), false, 1, 1, [0, 1, 2, 3, 4, 5, 6], [(122, (.bool (v118 == v123)))]⟩ :: ⟨_, (.pointer a0), false, 1, 1, [0, 1, 2, 3, 4, 5, 6, 7], [(0, (.pointer a0)), (123, (.bool (v118 == v123)))]⟩ :: ⟨_, (.int .i64 v126), true, 1, 1, [0, 1, 2, 3, 4, 5, 6, 7, 8], [(124, (.pointer a0)), (123, (.bool (v118 == v123)))]⟩ :: ⟨_, (.pointer a1), false, 1, 2, [0, 1, 2, 3, 4, 5, 6, 7], [(1, (.pointer a1)), (123, (.bool (v118 == v123)))]⟩ :: ⟨_, (.pointer (some p121)), false, 1, 2, [0, 1, 2, 3, 4, 5, 6, 7, 10], [(126, (.pointer a1)), (123, (.bool (v118 == v123)))]⟩ :: ⟨_, (.pointer (some (p121.add 1))), false, 1, 2, [0, 1, 2, 3, 4, 5, 6, 7, 10, 11], [(127, (.pointer (some p121))), (123, (.bool (v118 == v123)))]⟩ :: ⟨_, (Sl.v v129), false, 1, 2, [0, 1, 2, 3, 4, 5, 6, 7, 10, 11, 12], [(128, (.pointer (some (p121.add 1)))), (123, (.bool (v118 == v123)))]⟩ :: ⟨_, (.int .i64 (v129.n : Int)), false, 1, 2, [0, 1, 2, 3, 4, 5, 6, 7, 10, 11, 12, 13], [(129, (Sl.v v129)), (123, (.bool (v118 == v123)))]⟩ :: ⟨_, (.bool (v126 == (v129.n : Int))), false, 2, 2, (0 :: 1 :: 2 :: 3 :: 4 :: 5 :: 6 :: 7 :: 8 :: 9 :: 10 :: 11 :: 12 :: 13 :: 14 :: []), [(125, (.int .i64 v126)), (130, (.int .i64 (v129.n : Int))), (123, (.bool (v118 == v123)))]⟩ :: ⟨_, (.bool (v126 == (v129.n : Int))), false, 2, 2, (0 :: 1 :: 2 :: 3 :: 4 :: 5 :: 6 :: 7 :: 8 :: 9 :: 10 :: 11 :: 12 :: 13 :: 14 :: 15 :: []), [(123, (.bool (v118 == v123))), (131, (.bool (v126 == (v129.n : Int))))]⟩ :: ⟨_, (.bool (v126 == (v129.n : Int))), false, 2, 2, (0 :: 1 :: 2 :: 3 :: 4 :: 5 :: 6 :: 7 :: 8 :: 9 :: 10 :: 11 :: 12 :: 13 :: 14 :: 15 :: 16 :: []), [(132, (.bool (v126 == (v129.n : Int))))]⟩ :: ⟨_, (.pointer a0), false, 2, 2, (0 :: 1 :: 2 :: 3 :: 4 :: 5 :: 6 :: 7 :: 8 :: 9 :: 10 :: 11 :: 12 :: 13 :: 14 :: 15 :: 16 :: 17 :: []), [(0, (.pointer a0)), (133, (.bool (v126 == (v129.n : Int))))]⟩ :: ⟨_, (.int .i64 v132), true, 2, 2, (0 :: 1 :: 2 :: 3 :: 4 :: 5 :: 6 :: 7 :: 8 :: 9 :: 10 :: 11 :: 12 :: 13 :: 14 :: 15 :: 16 :: 17 :: 18 :: []), [(134, (.pointer a0)), (133, (.bool (v126 == (v129.n : Int))))]⟩ :: ⟨_, (.pointer a1), false, 2, 3, (0 :: 1 :: 2 :: 3 :: 4 :: 5 :: 6 :: 7 :: 8 :: 9 :: 10 :: 11 :: 12 :: 13 :: 14 :: 15 :: 16 :: 17 :: []), [(1, (.pointer a1)), (133, (.bool (v126 == (v129.n : Int))))]⟩ :: ⟨_, (.pointer (some p121)), false, 2, 3, (0 :: 1 :: 2 :: 3 :: 4 :: 5 :: 6 :: 7 :: 8 :: 9 :: 10 :: 11 :: 12 :: 13 :: 14 :: 15 :: 16 :: 17 :: 20 :: []), [(136, (.pointer a1)), (133, (.bool (v126 == (v129.n : Int))))]⟩ :: ⟨_, (.pointer (some (p121.add 4))), false, 2, 3, (0 :: 1 :: 2 :: 3 :: 4 :: 5 :: 6 :: 7 :: 8 :: 9 :: 10 :: 11 :: 12 :: 13 :: 14 :: 15 :: 16 :: 17 :: 20 :: 21 :: []), [(137, (.pointer (some p121))), (133, (.bool (v126 == (v129.n : Int))))]⟩ :: ⟨_, (.int .i64 v135), false, 2, 3, (0 :: 1 :: 2 :: 3 :: 4 :: 5 :: 6 :: 7 :: 8 :: 9 :: 10 :: 11 :: 12 :: 13 :: 14 :: 15 :: 16 :: 17 :: 20 :: 21 :: 22 :: []), [(138, (.pointer (some (p121.add 4)))), (133, (.bool (v126 == (v129.n : Int))))]⟩ :: ⟨_, (.bool (v132 == v135)), false, 3, 3, (0 :: 1 :: 2 :: 3 :: 4 :: 5 :: 6 :: 7 :: 8 :: 9 :: 10 :: 11 :: 12 :: 13 :: 14 :: 15 :: 16 :: 17 :: 18 :: 19 :: 20 :: 21 :: 22 :: 23 :: []), [(135, (.int .i64 v132)), (139, (.int .i64 v135)), (133, (.bool (v126 == (v129.n : Int))))]⟩ :: ⟨_, (.bool (v132 == v135)), false, 3, 3, (0 :: 1 :: 2 :: 3 :: 4 :: 5 :: 6 :: 7 :: 8 :: 9 :: 10 :: 11 :: 12 :: 13 :: 14 :: 15 :: 16 :: 17 :: 18 :: 19 :: 20 :: 21 :: 22 :: 23 :: 24 :: []), [(133, (.bool (v126 == (v129.n : Int)))), (140, (.bool (v132 == v135)))]⟩ :: ⟨_, (.bool (v132 == v135)), false, 3, 3, (0 :: 1 :: 2 :: 3 :: 4 :: 5 :: 6 :: 7 :: 8 :: 9 :: 10 :: 11 :: 12 :: 13 :: 14 :: 15 :: 16 :: 17 :: 18 :: 19 :: 20 :: 21 :: 22 :: 23 :: 24 :: 25 :: []), [(141, (.bool (v132 == v135)))]⟩ :: [])) (W := (fun j => match j with | 0 => w116 | 1 => w119 | 2 => w127 | _ => w133)) (by kernel_rfl) ha (dr_w e117) (by kernel_rfl) ?_ (reads_of (by kernel_rfl)) (by kernel_rfl) (m := 3) (by kernel_rfl) (fun a ha => ?_)
                  · refine ⟨?_, ?_, ?_, ?_, ?_, ?_, ?_, ?_, ?_, ?_, ?_, ?_, ?_, ?_, ?_, ?_, ?_, ?_, ?_, ?_, ?_, ?_, ?_, ?_, ?_, ?_, ?_, trivial⟩
                    · intro j _ _; exact ok_do rfl fun a ha => d_move ha rfl
                    · intro j h1 h2; obtain rfl : j = 0 := Nat.le_antisymm h2 h1; exact ok_do rfl fun a ha => d_call (xs := [_]) (vs := [(.pointer a0)]) ha ⟨rfl, trivial⟩ Try.call21 (sector_Disk_Down_ok e120)
                    · intro j _ _; exact ok_do rfl fun a ha => d_move ha rfl
                    · intro j _ _; exact ok_do rfl fun a ha => d_nilp ha rfl e122
                    · intro j _ _; exact ok_do rfl fun a ha => d_fa ha rfl Try.runUnderlying95 rfl rfl Try.sizeOf4 (by decide)
                    · intro j h1 h2; have h1 : 0 ≤ j := h1; have h2 : j ≤ 1 := h2; rcases (by omega : j = 0 ∨ j = 1) with rfl | rfl
                      · exact ok_do rfl fun a ha => d_ld ha rfl Try.isAgg4 (ldB_c e137)
                      · exact ok_do rfl fun a ha => d_ld ha rfl Try.isAgg4 (ldB_c e124)
                    · intro j _ _; exact ok_do rfl fun a ha => d_eqB ha rfl rfl Try.runUnderlying4
                    · intro j _ _; exact ok_do rfl fun a ha => d_move ha rfl
                    · intro j _ _; exact ok_do_g rfl rfl (rfl : List.lookup 123 _ = _) b125 fun a ha => d_move ha rfl
                    · intro j h1 h2; obtain rfl : j = 1 := Nat.le_antisymm h2 h1; exact ok_do_g rfl rfl (rfl : List.lookup 123 _ = _) b125 fun a ha => d_call (xs := [_]) (vs := [(.pointer a0)]) ha ⟨rfl, trivial⟩ Try.call20 (sector_Disk_Waits_ok e128)
                    · intro j _ _; exact ok_do_g rfl rfl (rfl : List.lookup 123 _ = _) b125 fun a ha => d_move ha rfl
                    · intro j _ _; exact ok_do_g rfl rfl (rfl : List.lookup 123 _ = _) b125 fun a ha => d_nilp ha rfl e122
                    · intro j _ _; exact ok_do_g rfl rfl (rfl : List.lookup 123 _ = _) b125 fun a ha => d_fa ha rfl Try.runUnderlying95 rfl rfl Try.sizeOf93 (by decide)
                    · intro j h1 h2; have h1 : 1 ≤ j := h1; have h2 : j ≤ 2 := h2; rcases (by omega : j = 1 ∨ j = 2) with rfl | rfl
                      · exact ok_do_g rfl rfl (rfl : List.lookup 123 _ = _) b125 fun a ha => d_ld ha rfl Try.isAgg93 (ldL_c e138)
                      · exact ok_do_g rfl rfl (rfl : List.lookup 123 _ = _) b125 fun a ha => d_ld ha rfl Try.isAgg93 (ldL_c e130)
                    · intro j _ _; exact ok_do_g rfl rfl (rfl : List.lookup 123 _ = _) b125 fun a ha => d_lenS ha rfl Try.runUnderlying93
                    · intro j _ _; exact ok_do_g rfl rfl (rfl : List.lookup 123 _ = _) b125 fun a ha => d_eq ha rfl rfl
                    · intro j _ _; exact ok_do rfl fun a ha => d_pick_t ha rfl b125 rfl
                    · intro j _ _; exact ok_do rfl fun a ha => d_move ha rfl
                    · intro j _ _; exact ok_do_g rfl rfl (rfl : List.lookup 133 _ = _) b131 fun a ha => d_move ha rfl
                    · intro j h1 h2; obtain rfl : j = 2 := Nat.le_antisymm h2 h1; exact ok_do_g rfl rfl (rfl : List.lookup 133 _ = _) b131 fun a ha => d_call (xs := [_]) (vs := [(.pointer a0)]) ha ⟨rfl, trivial⟩ Try.call34 (sector_Disk_Age_ok e134)
                    · intro j _ _; exact ok_do_g rfl rfl (rfl : List.lookup 133 _ = _) b131 fun a ha => d_move ha rfl
                    · intro j _ _; exact ok_do_g rfl rfl (rfl : List.lookup 133 _ = _) b131 fun a ha => d_nilp ha rfl e122
                    · intro j _ _; exact ok_do_g rfl rfl (rfl : List.lookup 133 _ = _) b131 fun a ha => d_fa ha rfl Try.runUnderlying95 rfl rfl Try.sizeOf3 (by decide)
                    · intro j h1 h2; have h1 : 2 ≤ j := h1; have h2 : j ≤ 3 := h2; rcases (by omega : j = 2 ∨ j = 3) with rfl | rfl
                      · exact ok_do_g rfl rfl (rfl : List.lookup 133 _ = _) b131 fun a ha => d_ld ha rfl Try.isAgg3 (ldI_c e139)
                      · exact ok_do_g rfl rfl (rfl : List.lookup 133 _ = _) b131 fun a ha => d_ld ha rfl Try.isAgg3 (ldI_c e136)
                    · intro j _ _; exact ok_do_g rfl rfl (rfl : List.lookup 133 _ = _) b131 fun a ha => d_eq ha rfl rfl
                    · intro j _ _; exact ok_do rfl fun a ha => d_pick_t ha rfl b131 rfl
                    · intro j _ _; exact ok_do rfl fun a ha => d_assign ha rfl
                  · have ha : Has 142 [(6, (.bool (v132 == v135)))] a := ha.sub ⟨rfl, trivial⟩
                    have hS : Has 142 [(6, (.bool (v132 == v135)))] _ := ha.sub ⟨rfl, trivial⟩
                    cases h
                    exact hk115 _ hS
                · obtain ⟨e140, h⟩ := chk_some h
                  obtain ⟨e141, h⟩ := chk_some h
                  have ha : Has 142 [(0, (.pointer a0)), (1, (.pointer a1))] a := ha.sub ⟨rfl, rfl, trivial⟩
                  refine region_draw (n := 142) (ds := (⟨_, (.pointer a0), false, 0, 0, [], [(0, (.pointer a0))]⟩ :: ⟨_, (.bool v118), true, 0, 0, [0], [(116, (.pointer a0))]⟩ :: ⟨_, (.pointer a1), false, 0, 1, [], [(1, (.pointer a1))]⟩ :: ⟨_, (.pointer (some p121)), false, 0, 1, [2], [(118, (.pointer a1))]⟩ :: ⟨_, (.pointer (some (p121.add 3))), false, 0, 1, [2, 3], [(119, (.pointer (some p121)))]⟩ :: ⟨_, (.bool v123), false, 0, 1, [2, 3, 4], [(120, (.pointer (some (p121.add 3))))]⟩ :: ⟨_, (.bool (v118 == v123)), false, 1, 1, [0, 1, 2, 3, 4, 5], [(117, (.bool v118)), (121, (.bool v123))]⟩ :: ⟨_, (.bool (v118 == v123)), false, 1, 1, [0, 1, 2, 3, 4, 5, 6], [(122, (.bool (v118 == v123)))]⟩ :: ⟨_, (.pointer a0), false, 1, 1, [0, 1, 2, 3, 4, 5, 6, 7], [(0, (.pointer a0)), (123, (.bool (v118 == v123)))]⟩ :: ⟨_, (.int .i64 v126), true, 1, 1, [0, 1, 2, 3, 4, 5, 6, 7, 8], [(124, (.pointer a0)), (123, (.bool (v118 == v123)))]⟩ :: ⟨_, (.pointer a1), false, 1, 2, [0, 1, 2, 3, 4, 5, 6, 7], [(1, (.pointer a1)), (123, (.bool (v118 == v123)))]⟩ :: ⟨_, (.pointer (some p121)), false, 1, 2, [0, 1, 2, 3, 4, 5, 6, 7, 10], [(126, (.pointer a1)), (123, (.bool (v118 == v123)))]⟩ :: ⟨_, (.pointer (some (p121.add 1))), false, 1, 2, [0, 1, 2, 3, 4, 5, 6, 7, 10, 11], [(127, (.pointer (some p121))), (123, (.bool (v118 == v123)))]⟩ :: ⟨_, (Sl.v v129), false, 1, 2, [0, 1, 2, 3, 4, 5, 6, 7, 10, 11, 12], [(128, (.pointer (some (p121.add 1)))), (123, (.bool (v118 == v123)))]⟩ :: ⟨_, (.int .i64 (v129.n : Int)), false, 1, 2, [0, 1, 2, 3, 4, 5, 6, 7, 10, 11, 12, 13], [(129, (Sl.v v129)), (123, (.bool (v118 == v123)))]⟩ :: ⟨_, (.bool (v126 == (v129.n : Int))), false, 2, 2, (0 :: 1 :: 2 :: 3 :: 4 :: 5 :: 6 :: 7 :: 8 :: 9 :: 10 :: 11 :: 12 :: 13 :: 14 :: []), [(125, (.int .i64 v126)), (130, (.int .i64 (v129.n : Int))), (123, (.bool (v118 == v123)))]⟩ :: ⟨_, (.bool (v126 == (v129.n : Int))), false, 2, 2, (0 :: 1 :: 2 :: 3 :: 4 :: 5 :: 6 :: 7 :: 8 :: 9 :: 10 :: 11 :: 12 :: 13 :: 14 :: 15 :: []), [(123, (.bool (v118 == v123))), (131, (.bool (v126 == (v129.n : Int))))]⟩ :: ⟨_, (.bool (v126 == (v129.n : Int))), false, 2, 2, (0 :: 1 :: 2 :: 3 :: 4 :: 5 :: 6 :: 7 :: 8 :: 9 :: 10 :: 11 :: 12 :: 13 :: 14 :: 15 :: 16 :: []), [(132, (.bool (v126 == (v129.n : Int))))]⟩ :: ⟨_, undef, false, 2, 2, (0 :: 1 :: 2 :: 3 :: 4 :: 5 :: 6 :: 7 :: 8 :: 9 :: 10 :: 11 :: 12 :: 13 :: 14 :: 15 :: 16 :: 17 :: []), [(133, (.bool (v126 == (v129.n : Int))))]⟩ :: ⟨_, undef, false, 2, 2, (0 :: 1 :: 2 :: 3 :: 4 :: 5 :: 6 :: 7 :: 8 :: 9 :: 10 :: 11 :: 12 :: 13 :: 14 :: 15 :: 16 :: 17 :: 18 :: []), [(133, (.bool (v126 == (v129.n : Int))))]⟩ :: ⟨_, undef, false, 2, 2, (0 :: 1 :: 2 :: 3 :: 4 :: 5 :: 6 :: 7 :: 8 :: 9 :: 10 :: 11 :: 12 :: 13 :: 14 :: 15 :: 16 :: 17 :: []), [(133, (.bool (v126 == (v129.n : Int))))]⟩ :: ⟨_, undef, false, 2, 2, (0 :: 1 :: 2 :: 3 :: 4 :: 5 :: 6 :: 7 :: 8 :: 9 :: 10 :: 11 :: 12 :: 13 :: 14 :: 15 :: 16 :: 17 :: 20 :: []), [(133, (.bool (v126 == (v129.n : Int))))]⟩ :: ⟨_, undef, false, 2, 2, (0 :: 1 :: 2 :: 3 :: 4 :: 5 :: 6 :: 7 :: 8 :: 9 :: 10 :: 11 :: 12 :: 13 :: 14 :: 15 :: 16 :: 17 :: 20 :: 21 :: []), [(133, (.bool (v126 == (v129.n : Int))))]⟩ :: ⟨_, undef, false, 2, 2, (0 :: 1 :: 2 :: 3 :: 4 :: 5 :: 6 :: 7 :: 8 :: 9 :: 10 :: 11 :: 12 :: 13 :: 14 :: 15 :: 16 :: 17 :: 20 :: 21 :: 22 :: []), [(133, (.bool (v126 == (v129.n : Int))))]⟩ :: ⟨_, undef, false, 2, 2, (0 :: 1 :: 2 :: 3 :: 4 :: 5 :: 6 :: 7 :: 8 :: 9 :: 10 :: 11 :: 12 :: 13 :: 14 :: 15 :: 16 :: 17 :: 18 :: 19 :: 20 :: 21 :: 22 :: 23 :: []), [(133, (.bool (v126 == (v129.n : Int))))]⟩ :: ⟨_, (.bool false), false, 2, 2, (0 :: 1 :: 2 :: 3 :: 4 :: 5 :: 6 :: 7 :: 8 :: 9 :: 10 :: 11 :: 12 :: 13 :: 14 :: 15 :: 16 :: 17 :: 18 :: 19 :: 20 :: 21 :: 22 :: 23 :: 24 :: []), [(133, (.bool (v126 == (v129.n : Int)))), (140, undef)]⟩ :: ⟨_, (.bool false), false, 2, 2, (0 :: 1 :: 2 :: 3 :: 4 :: 5 :: 6 :: 7 :: 8 :: 9 :: 10 :: 11 :: 12 :: 13 :: 14 :: 15 :: 16 :: 17 :: 18 :: 19 :: 20 :: 21 :: 22 :: 23 :: 24 :: 25 :: []), [(141, (.bool false))]⟩ :: [])) (W := (fun j => match j with | 0 => w116 | 1 => w119 | _ => w127)) (by kernel_rfl) ha (dr_w e117) (by kernel_rfl) ?_ (reads_of (by kernel_rfl)) (by kernel_rfl) (m := 2) (by kernel_rfl) (fun a ha => ?_)
                  · refine ⟨?_, ?_, ?_, ?_, ?_, ?_, ?_, ?_, ?_, ?_, ?_, ?_, ?_, ?_, ?_, ?_, ?_, ?_, ?_, ?_, ?_, ?_, ?_, ?_, ?_, ?_, ?_, trivial⟩
                    · intro j _ _; exact ok_do rfl fun a ha => d_move ha rfl
                    · intro j h1 h2; obtain rfl : j = 0 := Nat.le_antisymm h2 h1; exact ok_do rfl fun a ha => d_call (xs := [_]) (vs := [(.pointer a0)]) ha ⟨rfl, trivial⟩ Try.call21 (sector_Disk_Down_ok e120)
                    · intro j _ _; exact ok_do rfl fun a ha => d_move ha rfl
                    · intro j _ _; exact ok_do rfl fun a ha => d_nilp ha rfl e122
                    · intro j _ _; exact ok_do rfl fun a ha => d_fa ha rfl Try.runUnderlying95 rfl rfl Try.sizeOf4 (by decide)
                    · intro j h1 h2; have h1 : 0 ≤ j := h1; have h2 : j ≤ 1 := h2; rcases (by omega : j = 0 ∨ j = 1) with rfl | rfl
                      · exact ok_do rfl fun a ha => d_ld ha rfl Try.isAgg4 (ldB_c e140)
                      · exact ok_do rfl fun a ha => d_ld ha rfl Try.isAgg4 (ldB_c e124)
                    · intro j _ _; exact ok_do rfl fun a ha => d_eqB ha rfl rfl Try.runUnderlying4
                    · intro j _ _; exact ok_do rfl fun a ha => d_move ha rfl
                    · intro j _ _; exact ok_do_g rfl rfl (rfl : List.lookup 123 _ = _) b125 fun a ha => d_move ha rfl
                    · intro j h1 h2; obtain rfl : j = 1 := Nat.le_antisymm h2 h1; exact ok_do_g rfl rfl (rfl : List.lookup 123 _ = _) b125 fun a ha => d_call (xs := [_]) (vs := [(.pointer a0)]) ha ⟨rfl, trivial⟩ Try.call20 (sector_Disk_Waits_ok e128)
                    · intro j _ _; exact ok_do_g rfl rfl (rfl : List.lookup 123 _ = _) b125 fun a ha => d_move ha rfl
                    · intro j _ _; exact ok_do_g rfl rfl (rfl : List.lookup 123 _ = _) b125 fun a ha => d_nilp ha rfl e122
                    · intro j _ _; exact ok_do_g rfl rfl (rfl : List.lookup 123 _ = _) b125 fun a ha => d_fa ha rfl Try.runUnderlying95 rfl rfl Try.sizeOf93 (by decide)
                    · intro j h1 h2; have h1 : 1 ≤ j := h1; have h2 : j ≤ 2 := h2; rcases (by omega : j = 1 ∨ j = 2) with rfl | rfl
                      · exact ok_do_g rfl rfl (rfl : List.lookup 123 _ = _) b125 fun a ha => d_ld ha rfl Try.isAgg93 (ldL_c e141)
                      · exact ok_do_g rfl rfl (rfl : List.lookup 123 _ = _) b125 fun a ha => d_ld ha rfl Try.isAgg93 (ldL_c e130)
                    · intro j _ _; exact ok_do_g rfl rfl (rfl : List.lookup 123 _ = _) b125 fun a ha => d_lenS ha rfl Try.runUnderlying93
                    · intro j _ _; exact ok_do_g rfl rfl (rfl : List.lookup 123 _ = _) b125 fun a ha => d_eq ha rfl rfl
                    · intro j _ _; exact ok_do rfl fun a ha => d_pick_t ha rfl b125 rfl
                    · intro j _ _; exact ok_do rfl fun a ha => d_move ha rfl
                    · intro j _ _; exact ok_no_g rfl rfl (rfl : List.lookup 133 _ = _) (nn b131 _ rfl)
                    · intro j _ _; exact ok_no_g rfl rfl (rfl : List.lookup 133 _ = _) (nn b131 _ rfl)
                    · intro j _ _; exact ok_no_g rfl rfl (rfl : List.lookup 133 _ = _) (nn b131 _ rfl)
                    · intro j _ _; exact ok_no_g rfl rfl (rfl : List.lookup 133 _ = _) (nn b131 _ rfl)
                    · intro j _ _; exact ok_no_g rfl rfl (rfl : List.lookup 133 _ = _) (nn b131 _ rfl)
                    · intro j _ _; exact ok_no_g rfl rfl (rfl : List.lookup 133 _ = _) (nn b131 _ rfl)
                    · intro j _ _; exact ok_no_g rfl rfl (rfl : List.lookup 133 _ = _) (nn b131 _ rfl)
                    · intro j _ _; exact ok_do rfl fun a ha => d_pick_f ha rfl b131 rfl
                    · intro j _ _; exact ok_do rfl fun a ha => d_assign ha rfl
                  · have ha : Has 142 [(6, (.bool false))] a := ha.sub ⟨rfl, trivial⟩
                    have hS : Has 142 [(6, (.bool false))] _ := ha.sub ⟨rfl, trivial⟩
                    cases h
                    exact hk115 _ hS
              · obtain ⟨e142, h⟩ := chk_some h
                have ha : Has 142 [(0, (.pointer a0)), (1, (.pointer a1))] a := ha.sub ⟨rfl, rfl, trivial⟩
                refine region_draw (n := 142) (ds := (⟨_, (.pointer a0), false, 0, 0, [], [(0, (.pointer a0))]⟩ :: ⟨_, (.bool v118), true, 0, 0, [0], [(116, (.pointer a0))]⟩ :: ⟨_, (.pointer a1), false, 0, 1, [], [(1, (.pointer a1))]⟩ :: ⟨_, (.pointer (some p121)), false, 0, 1, [2], [(118, (.pointer a1))]⟩ :: ⟨_, (.pointer (some (p121.add 3))), false, 0, 1, [2, 3], [(119, (.pointer (some p121)))]⟩ :: ⟨_, (.bool v123), false, 0, 1, [2, 3, 4], [(120, (.pointer (some (p121.add 3))))]⟩ :: ⟨_, (.bool (v118 == v123)), false, 1, 1, [0, 1, 2, 3, 4, 5], [(117, (.bool v118)), (121, (.bool v123))]⟩ :: ⟨_, (.bool (v118 == v123)), false, 1, 1, [0, 1, 2, 3, 4, 5, 6], [(122, (.bool (v118 == v123)))]⟩ :: ⟨_, undef, false, 1, 1, [0, 1, 2, 3, 4, 5, 6, 7], [(123, (.bool (v118 == v123)))]⟩ :: ⟨_, undef, false, 1, 1, [0, 1, 2, 3, 4, 5, 6, 7, 8], [(123, (.bool (v118 == v123)))]⟩ :: ⟨_, undef, false, 1, 1, [0, 1, 2, 3, 4, 5, 6, 7], [(123, (.bool (v118 == v123)))]⟩ :: ⟨_, undef, false, 1, 1, [0, 1, 2, 3, 4, 5, 6, 7, 10], [(123, (.bool (v118 == v123)))]⟩ :: ⟨_, undef, false, 1, 1, [0, 1, 2, 3, 4, 5, 6, 7, 10, 11], [(123, (.bool (v118 == v123)))]⟩ :: ⟨_, undef, false, 1, 1, [0, 1, 2, 3, 4, 5, 6, 7, 10, 11, 12], [(123, (.bool (v118 == v123)))]⟩ :: ⟨_, undef, false, 1, 1, [0, 1, 2, 3, 4, 5, 6, 7, 10, 11, 12, 13], [(123, (.bool (v118 == v123)))]⟩ :: ⟨_, undef, false, 1, 1, (0 :: 1 :: 2 :: 3 :: 4 :: 5 :: 6 :: 7 :: 8 :: 9 :: 10 :: 11 :: 12 :: 13 :: 14 :: []), [(123, (.bool (v118 == v123)))]⟩ :: ⟨_, (.bool false), false, 1, 1, (0 :: 1 :: 2 :: 3 :: 4 :: 5 :: 6 :: 7 :: 8 :: 9 :: 10 :: 11 :: 12 :: 13 :: 14 :: 15 :: []), [(123, (.bool (v118 == v123))), (131, undef)]⟩ :: ⟨_, (.bool false), false, 1, 1, (0 :: 1 :: 2 :: 3 :: 4 :: 5 :: 6 :: 7 :: 8 :: 9 :: 10 :: 11 :: 12 :: 13 :: 14 :: 15 :: 16 :: []), [(132, (.bool false))]⟩ :: ⟨_, undef, false, 1, 1, (0 :: 1 :: 2 :: 3 :: 4 :: 5 :: 6 :: 7 :: 8 :: 9 :: 10 :: 11 :: 12 :: 13 :: 14 :: 15 :: 16 :: 17 :: []), [(133, (.bool false))]⟩ :: ⟨_, undef, false, 1, 1, (0 :: 1 :: 2 :: 3 :: 4 :: 5 :: 6 :: 7 :: 8 :: 9 :: 10 :: 11 :: 12 :: 13 :: 14 :: 15 :: 16 :: 17 :: 18 :: []), [(133, (.bool false))]⟩ :: ⟨_, undef, false, 1, 1, (0 :: 1 :: 2 :: 3 :: 4 :: 5 :: 6 :: 7 :: 8 :: 9 :: 10 :: 11 :: 12 :: 13 :: 14 :: 15 :: 16 :: 17 :: []), [(133, (.bool false))]⟩ :: ⟨_, undef, false, 1, 1, (0 :: 1 :: 2 :: 3 :: 4 :: 5 :: 6 :: 7 :: 8 :: 9 :: 10 :: 11 :: 12 :: 13 :: 14 :: 15 :: 16 :: 17 :: 20 :: []), [(133, (.bool false))]⟩ :: ⟨_, undef, false, 1, 1, (0 :: 1 :: 2 :: 3 :: 4 :: 5 :: 6 :: 7 :: 8 :: 9 :: 10 :: 11 :: 12 :: 13 :: 14 :: 15 :: 16 :: 17 :: 20 :: 21 :: []), [(133, (.bool false))]⟩ :: ⟨_, undef, false, 1, 1, (0 :: 1 :: 2 :: 3 :: 4 :: 5 :: 6 :: 7 :: 8 :: 9 :: 10 :: 11 :: 12 :: 13 :: 14 :: 15 :: 16 :: 17 :: 20 :: 21 :: 22 :: []), [(133, (.bool false))]⟩ :: ⟨_, undef, false, 1, 1, (0 :: 1 :: 2 :: 3 :: 4 :: 5 :: 6 :: 7 :: 8 :: 9 :: 10 :: 11 :: 12 :: 13 :: 14 :: 15 :: 16 :: 17 :: 18 :: 19 :: 20 :: 21 :: 22 :: 23 :: []), [(133, (.bool false))]⟩ :: ⟨_, (.bool false), false, 1, 1, (0 :: 1 :: 2 :: 3 :: 4 :: 5 :: 6 :: 7 :: 8 :: 9 :: 10 :: 11 :: 12 :: 13 :: 14 :: 15 :: 16 :: 17 :: 18 :: 19 :: 20 :: 21 :: 22 :: 23 :: 24 :: []), [(133, (.bool false)), (140, undef)]⟩ :: ⟨_, (.bool false), false, 1, 1, (0 :: 1 :: 2 :: 3 :: 4 :: 5 :: 6 :: 7 :: 8 :: 9 :: 10 :: 11 :: 12 :: 13 :: 14 :: 15 :: 16 :: 17 :: 18 :: 19 :: 20 :: 21 :: 22 :: 23 :: 24 :: 25 :: []), [(141, (.bool false))]⟩ :: [])) (W := (fun j => match j with | 0 => w116 | _ => w119)) (by kernel_rfl) ha (dr_w e117) (by kernel_rfl) ?_ (reads_of (by kernel_rfl)) (by kernel_rfl) (m := 1) (by kernel_rfl) (fun a ha => ?_)
                · refine ⟨?_, ?_, ?_, ?_, ?_, ?_, ?_, ?_, ?_, ?_, ?_, ?_, ?_, ?_, ?_, ?_, ?_, ?_, ?_, ?_, ?_, ?_, ?_, ?_, ?_, ?_, ?_, trivial⟩
                  · intro j _ _; exact ok_do rfl fun a ha => d_move ha rfl
                  · intro j h1 h2; obtain rfl : j = 0 := Nat.le_antisymm h2 h1; exact ok_do rfl fun a ha => d_call (xs := [_]) (vs := [(.pointer a0)]) ha ⟨rfl, trivial⟩ Try.call21 (sector_Disk_Down_ok e120)
                  · intro j _ _; exact ok_do rfl fun a ha => d_move ha rfl
                  · intro j _ _; exact ok_do rfl fun a ha => d_nilp ha rfl e122
                  · intro j _ _; exact ok_do rfl fun a ha => d_fa ha rfl Try.runUnderlying95 rfl rfl Try.sizeOf4 (by decide)
                  · intro j h1 h2; have h1 : 0 ≤ j := h1; have h2 : j ≤ 1 := h2; rcases (by omega : j = 0 ∨ j = 1) with rfl | rfl
                    · exact ok_do rfl fun a ha => d_ld ha rfl Try.isAgg4 (ldB_c e142)
                    · exact ok_do rfl fun a ha => d_ld ha rfl Try.isAgg4 (ldB_c e124)
                  · intro j _ _; exact ok_do rfl fun a ha => d_eqB ha rfl rfl Try.runUnderlying4
                  · intro j _ _; exact ok_do rfl fun a ha => d_move ha rfl
                  · intro j _ _; exact ok_no_g rfl rfl (rfl : List.lookup 123 _ = _) (nn b125 _ rfl)
                  · intro j _ _; exact ok_no_g rfl rfl (rfl : List.lookup 123 _ = _) (nn b125 _ rfl)
                  · intro j _ _; exact ok_no_g rfl rfl (rfl : List.lookup 123 _ = _) (nn b125 _ rfl)
                  · intro j _ _; exact ok_no_g rfl rfl (rfl : List.lookup 123 _ = _) (nn b125 _ rfl)
                  · intro j _ _; exact ok_no_g rfl rfl (rfl : List.lookup 123 _ = _) (nn b125 _ rfl)
                  · intro j _ _; exact ok_no_g rfl rfl (rfl : List.lookup 123 _ = _) (nn b125 _ rfl)
                  · intro j _ _; exact ok_no_g rfl rfl (rfl : List.lookup 123 _ = _) (nn b125 _ rfl)
                  · intro j _ _; exact ok_no_g rfl rfl (rfl : List.lookup 123 _ = _) (nn b125 _ rfl)
                  · intro j _ _; exact ok_do rfl fun a ha => d_pick_f ha rfl b125 rfl
                  · intro j _ _; exact ok_do rfl fun a ha => d_move ha rfl
                  · intro j _ _; exact ok_no_g rfl rfl (rfl : List.lookup 133 _ = _) (nn (by decide) _ rfl)
                  · intro j _ _; exact ok_no_g rfl rfl (rfl : List.lookup 133 _ = _) (nn (by decide) _ rfl)
                  · intro j _ _; exact ok_no_g rfl rfl (rfl : List.lookup 133 _ = _) (nn (by decide) _ rfl)
                  · intro j _ _; exact ok_no_g rfl rfl (rfl : List.lookup 133 _ = _) (nn (by decide) _ rfl)
                  · intro j _ _; exact ok_no_g rfl rfl (rfl : List.lookup 133 _ = _) (nn (by decide) _ rfl)
                  · intro j _ _; exact ok_no_g rfl rfl (rfl : List.lookup 133 _ = _) (nn (by decide) _ rfl)
                  · intro j _ _; exact ok_no_g rfl rfl (rfl : List.lookup 133 _ = _) (nn (by decide) _ rfl)
                  · intro j _ _; exact ok_do rfl fun a ha => d_pick_f ha rfl (by decide) rfl
                  · intro j _ _; exact ok_do rfl fun a ha => d_assign ha rfl
                · have ha : Has 142 [(6, (.bool false))] a := ha.sub ⟨rfl, trivial⟩
                  have hS : Has 142 [(6, (.bool false))] _ := ha.sub ⟨rfl, trivial⟩
                  cases h
                  exact hk115 _ hS

noncomputable def grapevinelaw09_play_l1 (a1 : Sl) (v4 : Option Addr) (v11 : Option Addr) (x22 : Int) (w23 : World) : Option ((Int × World) ⊕ ((World) ⊕ ((Option Addr) × (Option Addr) × Bool × World))) :=
  bind2 (if (decide (x22 < (a1.n : Int))) = true then
  (some ((decide (x22 < 300)), w23))
  else
  (some (false, w23))) fun v34 w35 =>
  if v34 = true then
  ((ix a1 x22 4).bind fun p40 =>
  (ldA 4 w35 p40 0).bind fun c42 =>
  bind2 (grapevinelaw09_do v4 v11 c42 w35) fun v44 w45 =>
  if (!v44) = true then
  (some (.inr (.inr (v4, v11, false, w45))))
  else
  (some (.inl ((IntKind.wrap .i64 (x22 + 1)), w45))))
  else
  (some (.inr (.inl w35)))
noncomputable def grapevinelaw09_play (a0 : Int) (a1 : Sl) (w : World) : Option ((Option Addr) × (Option Addr) × Bool × World) :=
  bind2 (grapevinelaw09_size a0 w) fun v1 w2 =>
  bind3 (sector_New v1 w2) fun v4 v5 w6 =>
  bind2 (grapevinelaw09_size a0 w6) fun v8 w9 =>
  bind3 (grapevineref09_New v8 w9) fun v11 v12 w13 =>
  bind2 (if (v5 != 0) = true then
  (some (true, w13))
  else
  (if (v12 != 0) = true then
  (some (true, w13))
  else
  (some ((v4.isNone), w13)))) fun v15 w16 =>
  if v15 = true then
  (some (v4, v11, false, w16))
  else
  ((loopF (fun s : Int × World => grapevinelaw09_play_l1 a1 v4 v11 s.1 s.2) (0, w16)).bind fun r24 => Sum.elim (fun (i : World) => u1 i fun w26 =>
  some (v4, v11, true, w26)) (fun (i : (Option Addr) × (Option Addr) × Bool × World) => u4 i fun v27 v28 v29 w30 =>
  some (v27, v28, v29, w30)) r24)
set_option maxHeartbeats 1000000 in
set_option maxRecDepth 100000 in
theorem grapevinelaw09_play_ok {a0 : Int} {a1 : Sl} {w w' : World} {r0 : Option Addr} {r1 : Option Addr} {r2 : Bool} (h : grapevinelaw09_play a0 a1 w = some (r0, r1, r2, w')) : Calls Try.prog 28 #[(.int .i64 a0), (Sl.v a1)] w fun e w'' => e = .returned (.tuple #[(.pointer r0), (.pointer r1), (.bool r2)]) ∧ w'' = w' := by
  refine calls_dec (n := 58) Try.func28 rfl Try.ntmps28 (by simp) (fun a ha => ?_)
  unfold grapevinelaw09_play at h
  refine wp_seq ?_
  refine region_lit ?_
  refine s_do rfl ha (ltd rfl) (d_assign ha rfl) (fun a ha => ?_)
  refine s_do rfl ha (ltd rfl) (d_assign ha rfl) (fun a ha => ?_)
  refine s_do rfl ha (ltd rfl) (d_assign ha rfl) (fun a ha => ?_)
  refine s_nil ?_
  refine t_n ?_
  replace ha : Has 58 [(0, (.int .i64 a0)), (1, (Sl.v a1))] _ := ha.sub ⟨rfl, rfl, trivial⟩
  refine wp_seq ?_
  refine region_lit ?_
  refine s_do rfl ha (ltd rfl) (d_move ha rfl) (fun a ha => ?_)
  obtain ⟨v1, w2, e3, h⟩ := bs2 h
  refine s_do rfl ha (ltd rfl) (d_call (xs := [_]) (vs := [(.int .i64 a0)]) ha ⟨rfl, trivial⟩ Try.call42 (grapevinelaw09_size_ok e3)) (fun a ha => ?_)
  obtain ⟨v4, v5, w6, e7, h⟩ := bs3 h
  refine s_do rfl ha (ltd rfl) (d_call (xs := [_]) (vs := [(.int .i64 v1)]) ha ⟨rfl, trivial⟩ Try.call17 (sector_New_ok e7)) (fun a ha => ?_)
  refine s_do rfl ha (ltd rfl) (d_move ha rfl) (fun a ha => ?_)
  refine s_do rfl ha (ltd rfl) (d_ext ha rfl rfl) (fun a ha => ?_)
  refine s_do rfl ha (ltd rfl) (d_ext ha rfl rfl) (fun a ha => ?_)
  refine s_do rfl ha (ltd rfl) (d_assign ha rfl) (fun a ha => ?_)
  refine s_do rfl ha (ltd rfl) (d_assign ha rfl) (fun a ha => ?_)
  refine s_nil ?_
  refine t_n ?_
  replace ha : Has 58 [(0, (.int .i64 a0)), (1, (Sl.v a1)), (7, (.pointer v4)), (8, (.int .i64 v5))] _ := ha.sub ⟨rfl, rfl, rfl, rfl, trivial⟩
  refine wp_seq ?_
  refine region_lit ?_
  refine s_do rfl ha (ltd rfl) (d_move ha rfl) (fun a ha => ?_)
  obtain ⟨v8, w9, e10, h⟩ := bs2 h
  refine s_do rfl ha (ltd rfl) (d_call (xs := [_]) (vs := [(.int .i64 a0)]) ha ⟨rfl, trivial⟩ Try.call42 (grapevinelaw09_size_ok e10)) (fun a ha => ?_)
  obtain ⟨v11, v12, w13, e14, h⟩ := bs3 h
  refine s_do rfl ha (ltd rfl) (d_call (xs := [_]) (vs := [(.int .i64 v8)]) ha ⟨rfl, trivial⟩ Try.call43 (grapevineref09_New_ok e14)) (fun a ha => ?_)
  refine s_do rfl ha (ltd rfl) (d_move ha rfl) (fun a ha => ?_)
  refine s_do rfl ha (ltd rfl) (d_ext ha rfl rfl) (fun a ha => ?_)
  refine s_do rfl ha (ltd rfl) (d_ext ha rfl rfl) (fun a ha => ?_)
  refine s_do rfl ha (ltd rfl) (d_assign ha rfl) (fun a ha => ?_)
  refine s_do rfl ha (ltd rfl) (d_assign ha rfl) (fun a ha => ?_)
  refine s_nil ?_
  refine t_n ?_
  replace ha : Has 58 [(1, (Sl.v a1)), (7, (.pointer v4)), (8, (.int .i64 v5)), (9, (.pointer v11)), (10, (.int .i64 v12))] _ := ha.sub ⟨rfl, rfl, rfl, rfl, rfl, trivial⟩
  refine wp_seq ?_
  refine wp_seq ?_
  obtain ⟨v15, w16, e17, h⟩ := bs2 h
  refine reg_join (n := 58) (L := [(33, (.bool v15)), (1, (Sl.v a1)), (7, (.pointer v4)), (9, (.pointer v11))]) (w' := w16) (fun a ha => ?_) (fun hk18 => ?_)
  · refine t_n ?_
    replace ha : Has 58 [(1, (Sl.v a1)), (7, (.pointer v4)), (9, (.pointer v11)), (33, (.bool v15))] _ := ha.sub ⟨rfl, rfl, rfl, rfl, trivial⟩
    refine s_cond ha rfl h (fun b21 h => ?_) (fun b21 h => ?_)
    · refine wp_seq ?_
      refine region_lit ?_
      refine s_do rfl ha (ltd rfl) (d_move ha rfl) (fun a ha => ?_)
      refine s_do rfl ha (ltd rfl) (d_move ha rfl) (fun a ha => ?_)
      refine s_do rfl ha (ltd rfl) (d_assign ha rfl) (fun a ha => ?_)
      refine s_do rfl ha (ltd rfl) (d_assign ha rfl) (fun a ha => ?_)
      refine s_do rfl ha (ltd rfl) (d_assign ha rfl) (fun a ha => ?_)
      refine s_nil ?_
      refine t_n ?_
      replace ha : Has 58 [(4, (.pointer v4)), (5, (.pointer v11)), (6, (.bool false))] _ := ha.sub ⟨rfl, rfl, rfl, trivial⟩
      refine wp_ret ?_
      refine t_r ?_
      have hS := ha
      cases h
      exact ret3 Try.results28 hS rfl rfl rfl ⟨rfl, rfl⟩
    · refine wp_skip ?_
      refine t_n ?_
      replace ha : Has 58 [(1, (Sl.v a1)), (7, (.pointer v4)), (9, (.pointer v11))] _ := ha.sub ⟨rfl, rfl, rfl, trivial⟩
      refine wp_seq ?_
      refine wp_seq ?_
      refine region_lit ?_
      refine s_do rfl ha (ltd rfl) (d_assign ha rfl) (fun a ha => ?_)
      refine s_nil ?_
      refine t_n ?_
      replace ha : Has 58 [(1, (Sl.v a1)), (7, (.pointer v4)), (9, (.pointer v11)), (11, (.int .i64 0))] _ := ha.sub ⟨rfl, rfl, rfl, rfl, trivial⟩
      refine wp_block ?_
      obtain ⟨r24, e25, h⟩ := bs1 h
      refine s_loop2 (n := 58) (L1 := fun i => [(7, (.pointer v4)), (9, (.pointer v11))]) (w1 := fun i => i) (L2 := fun i => [(4, (.pointer i.1)), (5, (.pointer i.2.1)), (6, (.bool i.2.2.1))]) (w2 := fun i => i.2.2.2) (e1 := .exit 0) (e2 := .ret) (I := fun (s : Int × World) a w => Has 58 [(11, (.int .i64 s.1)), (1, (Sl.v a1)), (7, (.pointer v4)), (9, (.pointer v11))] a ∧ w = s.2) ⟨ha.sub ⟨rfl, rfl, rfl, rfl, trivial⟩, rfl⟩ e25 (fun i hi a ha => ?_) (fun i hi a ha => ?_) (fun hk31 hk32 => ?_)
      · subst hi
        obtain w26 := i
        dsimp only [Sum.elim_inl, Sum.elim_inr, u1, u2, u3, u4, u5, u6] at h
        have ha : Has 58 [(7, (.pointer v4)), (9, (.pointer v11))] a := ha
        refine b_hit ?_
        refine t_n ?_
        replace ha : Has 58 [(7, (.pointer v4)), (9, (.pointer v11))] _ := ha.sub ⟨rfl, rfl, trivial⟩
        refine wp_seq ?_
        refine region_lit ?_
        refine s_do rfl ha (ltd rfl) (d_move ha rfl) (fun a ha => ?_)
        refine s_do rfl ha (ltd rfl) (d_move ha rfl) (fun a ha => ?_)
        refine s_do rfl ha (ltd rfl) (d_assign ha rfl) (fun a ha => ?_)
        refine s_do rfl ha (ltd rfl) (d_assign ha rfl) (fun a ha => ?_)
        refine s_do rfl ha (ltd rfl) (d_assign ha rfl) (fun a ha => ?_)
        refine s_nil ?_
        refine t_n ?_
        replace ha : Has 58 [(4, (.pointer v4)), (5, (.pointer v11)), (6, (.bool true))] _ := ha.sub ⟨rfl, rfl, rfl, trivial⟩
        refine wp_ret ?_
        have hS := ha
        cases h
        exact ret3 Try.results28 hS rfl rfl rfl ⟨rfl, rfl⟩
      · subst hi
        obtain ⟨v27, v28, v29, w30⟩ := i
        dsimp only [Sum.elim_inl, Sum.elim_inr, u1, u2, u3, u4, u5, u6] at h
        have ha : Has 58 [(4, (.pointer v27)), (5, (.pointer v28)), (6, (.bool v29))] a := ha
        refine b_r ?_
        refine t_r ?_
        have hS := ha
        cases h
        exact ret3 Try.results28 hS rfl rfl rfl ⟨rfl, rfl⟩
      · clear h
        rintro ⟨x22, w23⟩ a wq o ⟨ha, hwq⟩ h hr33
        obtain rfl : w23 = wq := hwq.symm
        have ha : Has 58 [(11, (.int .i64 x22)), (1, (Sl.v a1)), (7, (.pointer v4)), (9, (.pointer v11))] a := ha
        have h : grapevinelaw09_play_l1 a1 v4 v11 x22 w23 = some o := h
        unfold grapevinelaw09_play_l1 at h
        refine wp_seq ?_
        refine wp_seq ?_
        obtain ⟨v34, w35, e36, h⟩ := bs2 h
        refine reg_join (n := 58) (L := [(43, (.bool v34)), (1, (Sl.v a1)), (7, (.pointer v4)), (9, (.pointer v11)), (11, (.int .i64 x22))]) (w' := w35) (fun a ha => ?_) (fun hk37 => ?_)
        · refine t_n ?_
          replace ha : Has 58 [(1, (Sl.v a1)), (7, (.pointer v4)), (9, (.pointer v11)), (11, (.int .i64 x22)), (43, (.bool v34))] _ := ha.sub ⟨rfl, rfl, rfl, rfl, rfl, trivial⟩
          refine s_cond ha rfl h (fun b39 h => ?_) (fun b39 h => ?_)
          · refine wp_skip ?_
            refine t_n ?_
            replace ha : Has 58 [(1, (Sl.v a1)), (7, (.pointer v4)), (9, (.pointer v11)), (11, (.int .i64 x22))] _ := ha.sub ⟨rfl, rfl, rfl, rfl, trivial⟩
            refine wp_seq ?_
            refine wp_block ?_
            refine wp_seq ?_
            refine region_lit ?_
            refine s_do rfl ha (ltd rfl) (d_move ha rfl) (fun a ha => ?_)
            refine s_do rfl ha (ltd rfl) (d_move ha rfl) (fun a ha => ?_)
            refine s_do rfl ha (ltd rfl) (d_move ha rfl) (fun a ha => ?_)
            refine s_do rfl ha (ltd rfl) (d_move ha rfl) (fun a ha => ?_)
            obtain ⟨p40, e41, h⟩ := bs1 h
            refine s_do rfl ha (ltd rfl) (d_ix ha rfl rfl Try.runUnderlying37 Try.sizeOf40 e41) (fun a ha => ?_)
            obtain ⟨c42, e43, h⟩ := bs1 h
            refine s_do rfl ha (ltd rfl) (d_ldA ha rfl Try.isAgg40 Try.sizeOf40 e43) (fun a ha => ?_)
            obtain ⟨v44, w45, e46, h⟩ := bs2 h
            refine s_do rfl ha (ltd rfl) (d_call (xs := [_, _, _]) (vs := [(.pointer v4), (.pointer v11), (.agg (List.toArray c42))]) ha ⟨rfl, rfl, rfl, trivial⟩ Try.call33 (grapevinelaw09_do_ok e46)) (fun a ha => ?_)
            refine s_do rfl ha (ltd rfl) (d_not ha rfl) (fun a ha => ?_)
            refine s_nil ?_
            refine t_n ?_
            replace ha : Has 58 [(1, (Sl.v a1)), (7, (.pointer v4)), (9, (.pointer v11)), (11, (.int .i64 x22)), (53, (.bool (!v44)))] _ := ha.sub ⟨rfl, rfl, rfl, rfl, rfl, trivial⟩
            refine s_cond ha rfl h (fun b47 h => ?_) (fun b47 h => ?_)
            · refine wp_seq ?_
              refine region_lit ?_
              refine s_do rfl ha (ltd rfl) (d_move ha rfl) (fun a ha => ?_)
              refine s_do rfl ha (ltd rfl) (d_move ha rfl) (fun a ha => ?_)
              refine s_do rfl ha (ltd rfl) (d_assign ha rfl) (fun a ha => ?_)
              refine s_do rfl ha (ltd rfl) (d_assign ha rfl) (fun a ha => ?_)
              refine s_do rfl ha (ltd rfl) (d_assign ha rfl) (fun a ha => ?_)
              refine s_nil ?_
              refine t_n ?_
              replace ha : Has 58 [(4, (.pointer v4)), (5, (.pointer v11)), (6, (.bool false))] _ := ha.sub ⟨rfl, rfl, rfl, trivial⟩
              refine wp_ret ?_
              refine b_r ?_
              refine t_r ?_
              have hS : Has 58 [(4, (.pointer v4)), (5, (.pointer v11)), (6, (.bool false))] _ := ha.sub ⟨rfl, rfl, rfl, trivial⟩
              cases h
              cases hr33 _ rfl
              refine lp_r ?_
              exact hk32 _ rfl _ hS
            · refine wp_skip ?_
              refine b_n ?_
              refine t_n ?_
              replace ha : Has 58 [(1, (Sl.v a1)), (7, (.pointer v4)), (9, (.pointer v11)), (11, (.int .i64 x22))] _ := ha.sub ⟨rfl, rfl, rfl, rfl, trivial⟩
              refine region_lit ?_
              refine s_do rfl ha (ltd rfl) (d_move ha rfl) (fun a ha => ?_)
              refine s_do rfl ha (ltd rfl) (d_add ha rfl rfl) (fun a ha => ?_)
              refine s_do rfl ha (ltd rfl) (d_assign ha rfl) (fun a ha => ?_)
              refine s_nil ?_
              have hS : Has 58 [(11, (.int .i64 (IntKind.wrap .i64 (x22 + 1)))), (1, (Sl.v a1)), (7, (.pointer v4)), (9, (.pointer v11))] _ := ha.sub ⟨rfl, rfl, rfl, rfl, trivial⟩
              cases h
              exact lp_next ⟨hS, rfl⟩
          · refine wp_exit ?_
            refine t_x ?_
            have hS : Has 58 [(7, (.pointer v4)), (9, (.pointer v11))] _ := ha.sub ⟨rfl, rfl, trivial⟩
            cases h
            cases hr33 _ rfl
            refine lp_x ?_
            exact hk31 _ rfl _ hS
        · clear h
          have h := e36
          refine region_lit ?_
          refine s_do rfl ha (ltd rfl) (d_move ha rfl) (fun a ha => ?_)
          refine s_do rfl ha (ltd rfl) (d_move ha rfl) (fun a ha => ?_)
          refine s_do rfl ha (ltd rfl) (d_lenS ha rfl Try.runUnderlying37) (fun a ha => ?_)
          refine s_do rfl ha (ltd rfl) (d_lt ha rfl rfl) (fun a ha => ?_)
          refine s_do rfl ha (ltd rfl) (d_move ha rfl) (fun a ha => ?_)
          refine ite_s h (fun b38 h => ?_) (fun b38 h => ?_)
          · refine s_do_g2 rfl rfl ha (rfl : List.lookup 40 _ = _) b38 (ltd rfl) (d_move ha rfl) (fun a ha => ?_)
            refine s_do_g2 rfl rfl ha (rfl : List.lookup 40 _ = _) b38 (ltd rfl) (d_lt ha rfl rfl) (fun a ha => ?_)
            refine s_do rfl ha (ltd rfl) (d_pick_t ha rfl b38 rfl) (fun a ha => ?_)
            refine s_nil ?_
            have hS : Has 58 [(43, (.bool (decide (x22 < 300)))), (1, (Sl.v a1)), (7, (.pointer v4)), (9, (.pointer v11)), (11, (.int .i64 x22))] _ := ha.sub ⟨rfl, rfl, rfl, rfl, rfl, trivial⟩
            cases h
            exact hk37 _ hS
          · refine s_no_g rfl rfl ha (rfl : List.lookup 40 _ = _) (nn b38 _ rfl) (ltd rfl) (fun a ha => ?_)
            refine s_no_g rfl rfl ha (rfl : List.lookup 40 _ = _) (nn b38 _ rfl) (ltd rfl) (fun a ha => ?_)
            refine s_do rfl ha (ltd rfl) (d_pick_f ha rfl b38 rfl) (fun a ha => ?_)
            refine s_nil ?_
            have hS : Has 58 [(43, (.bool false)), (1, (Sl.v a1)), (7, (.pointer v4)), (9, (.pointer v11)), (11, (.int .i64 x22))] _ := ha.sub ⟨rfl, rfl, rfl, rfl, rfl, trivial⟩
            cases h
            exact hk37 _ hS
  · clear h
    have h := e17
    refine region_lit ?_
    refine s_do rfl ha (ltd rfl) (d_move ha rfl) (fun a ha => ?_)
    refine s_do rfl ha (ltd rfl) (d_ne ha rfl rfl) (fun a ha => ?_)
    refine s_do rfl ha (ltd rfl) (d_move ha rfl) (fun a ha => ?_)
    refine ite_s h (fun b19 h => ?_) (fun b19 h => ?_)
    · refine s_no_g rfl rfl ha (rfl : List.lookup 26 _ = _) (tn b19) (ltd rfl) (fun a ha => ?_)
      refine s_no_g rfl rfl ha (rfl : List.lookup 26 _ = _) (tn b19) (ltd rfl) (fun a ha => ?_)
      refine s_do rfl ha (ltd rfl) (d_pick_t ha rfl b19 rfl) (fun a ha => ?_)
      refine s_do rfl ha (ltd rfl) (d_move ha rfl) (fun a ha => ?_)
      refine s_no_g rfl rfl ha (rfl : List.lookup 30 _ = _) (tn rfl) (ltd rfl) (fun a ha => ?_)
      refine s_no_g rfl rfl ha (rfl : List.lookup 30 _ = _) (tn rfl) (ltd rfl) (fun a ha => ?_)
      refine s_do rfl ha (ltd rfl) (d_pick_t ha rfl rfl rfl) (fun a ha => ?_)
      refine s_nil ?_
      have hS : Has 58 [(33, (.bool true)), (1, (Sl.v a1)), (7, (.pointer v4)), (9, (.pointer v11))] _ := ha.sub ⟨rfl, rfl, rfl, rfl, trivial⟩
      cases h
      exact hk18 _ hS
    · refine s_do_g2 rfl rfl ha (rfl : List.lookup 26 _ = _) (nt b19) (ltd rfl) (d_move ha rfl) (fun a ha => ?_)
      refine s_do_g2 rfl rfl ha (rfl : List.lookup 26 _ = _) (nt b19) (ltd rfl) (d_ne ha rfl rfl) (fun a ha => ?_)
      refine s_do rfl ha (ltd rfl) (d_pick_f ha rfl b19 rfl) (fun a ha => ?_)
      refine s_do rfl ha (ltd rfl) (d_move ha rfl) (fun a ha => ?_)
      refine ite_s h (fun b20 h => ?_) (fun b20 h => ?_)
      · refine s_no_g rfl rfl ha (rfl : List.lookup 30 _ = _) (tn b20) (ltd rfl) (fun a ha => ?_)
        refine s_no_g rfl rfl ha (rfl : List.lookup 30 _ = _) (tn b20) (ltd rfl) (fun a ha => ?_)
        refine s_do rfl ha (ltd rfl) (d_pick_t ha rfl b20 rfl) (fun a ha => ?_)
        refine s_nil ?_
        have hS : Has 58 [(33, (.bool true)), (1, (Sl.v a1)), (7, (.pointer v4)), (9, (.pointer v11))] _ := ha.sub ⟨rfl, rfl, rfl, rfl, trivial⟩
        cases h
        exact hk18 _ hS
      · refine s_do_g2 rfl rfl ha (rfl : List.lookup 30 _ = _) (nt b20) (ltd rfl) (d_move ha rfl) (fun a ha => ?_)
        refine s_do_g2 rfl rfl ha (rfl : List.lookup 30 _ = _) (nt b20) (ltd rfl) (d_eqN ha rfl rfl Try.runUnderlying22) (fun a ha => ?_)
        refine s_do rfl ha (ltd rfl) (d_pick_f ha rfl b20 rfl) (fun a ha => ?_)
        refine s_nil ?_
        have hS : Has 58 [(33, (.bool (v4.isNone))), (1, (Sl.v a1)), (7, (.pointer v4)), (9, (.pointer v11))] _ := ha.sub ⟨rfl, rfl, rfl, rfl, trivial⟩
        cases h
        exact hk18 _ hS
end Go.Proofs.Ytoanmomopcaikaa.D
