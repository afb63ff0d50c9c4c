/- Written by dec.py of this project: Go functions as plain functions over the memory, and that the Go calls come to these. -/
import Derived.Test.YtoanmomopcaikaaGlue
import Derived.Test.YtoanmomopcaikaaFnD
import Derived.Test.YtoanmomopcaikaaFnM0
namespace Go.Proofs.Ytoanmomopcaikaa.D
open Go
set_option linter.unusedVariables false
set_option linter.unusedSimpArgs false

noncomputable def grapevineref10_Open (a0 : Option Addr) (a1 : Int) (a2 : Int) (w : World) : Option ((Option Addr) × Int × World) :=
  if (a0.isNone) = true then
  (some (none, 1, w))
  else
  (bind2 (if (decide (a2 < 1)) = true then
  (some (true, w))
  else
  (if (decide (32 < a2)) = true then
  (some (true, w))
  else
  (if (decide (a1 < 0)) = true then
  (some (true, w))
  else
  ((a0).bind fun p9 =>
  (ldL w (p9.add 0)).bind fun v11 =>
  some ((decide ((IntKind.wrap .i64 ((v11.n : Int) - (IntKind.wrap .i64 (2 * a2)))) < a1)), w))))) fun v2 w3 =>
  if v2 = true then
  (some (none, 2, w3))
  else
  (bind2 (mk w3 115 ([.pointer a0, .int .i64 a1, .int .i64 a2])) fun p14 w15 =>
  some ((some p14), 0, w15)))
set_option maxHeartbeats 1000000 in
set_option maxRecDepth 100000 in
theorem grapevineref10_Open_ok {a0 : Option Addr} {a1 : Int} {a2 : Int} {w w' : World} {r0 : Option Addr} {r1 : Int} (h : grapevineref10_Open a0 a1 a2 w = some (r0, r1, w')) : Calls Try.prog 65 #[(.pointer a0), (.int .i64 a1), (.int .i64 a2)] w fun e w'' => e = .returned (.tuple #[(.pointer r0), (.int .i64 r1)]) ∧ w'' = w' := by
  refine calls_dec (n := 37) Try.func65 rfl Try.ntmps65 (by simp) (fun a ha => ?_)
  unfold grapevineref10_Open at h
  refine wp_seq ?_
  refine region_lit ?_
  refine s_do rfl ha (ltd rfl) (d_assign ha rfl) (fun a ha => ?_)
  refine s_do rfl ha (ltd rfl) (d_assign ha rfl) (fun a ha => ?_)
  refine s_nil ?_
  refine t_n ?_
  replace ha : Has 37 [(0, (.pointer a0)), (1, (.int .i64 a1)), (2, (.int .i64 a2))] _ := ha.sub ⟨rfl, rfl, rfl, trivial⟩
  refine wp_seq ?_
  refine wp_seq ?_
  refine region_lit ?_
  refine s_do rfl ha (ltd rfl) (d_move ha rfl) (fun a ha => ?_)
  refine s_do rfl ha (ltd rfl) (d_eqN ha rfl rfl Try.runUnderlying44) (fun a ha => ?_)
  refine s_nil ?_
  refine t_n ?_
  replace ha : Has 37 [(0, (.pointer a0)), (1, (.int .i64 a1)), (2, (.int .i64 a2)), (9, (.bool (a0.isNone)))] _ := ha.sub ⟨rfl, rfl, rfl, rfl, trivial⟩
  refine s_cond ha rfl h (fun b1 h => ?_) (fun b1 h => ?_)
  · refine wp_seq ?_
    refine region_lit ?_
    refine s_do rfl ha (ltd rfl) (d_assign ha rfl) (fun a ha => ?_)
    refine s_do rfl ha (ltd rfl) (d_assign ha rfl) (fun a ha => ?_)
    refine s_nil ?_
    refine t_n ?_
    replace ha : Has 37 [(6, (.pointer none)), (7, (.int .i64 1))] _ := ha.sub ⟨rfl, rfl, trivial⟩
    refine wp_ret ?_
    refine t_r ?_
    have hS := ha
    cases h
    exact ret2 Try.results65 hS rfl rfl ⟨rfl, rfl⟩
  · refine wp_skip ?_
    refine t_n ?_
    replace ha : Has 37 [(0, (.pointer a0)), (1, (.int .i64 a1)), (2, (.int .i64 a2))] _ := ha.sub ⟨rfl, rfl, rfl, trivial⟩
    refine wp_seq ?_
    refine wp_seq ?_
    obtain ⟨v2, w3, e4, h⟩ := bs2 h
    refine reg_join (n := 37) (L := [(31, (.bool v2)), (0, (.pointer a0)), (1, (.int .i64 a1)), (2, (.int .i64 a2))]) (w' := w3) (fun a ha => ?_) (fun hk5 => ?_)
    · refine t_n ?_
      replace ha : Has 37 [(0, (.pointer a0)), (1, (.int .i64 a1)), (2, (.int .i64 a2)), (31, (.bool v2))] _ := ha.sub ⟨rfl, rfl, rfl, rfl, trivial⟩
      refine s_cond ha rfl h (fun b13 h => ?_) (fun b13 h => ?_)
      · refine wp_seq ?_
        refine region_lit ?_
        refine s_do rfl ha (ltd rfl) (d_assign ha rfl) (fun a ha => ?_)
        refine s_do rfl ha (ltd rfl) (d_assign ha rfl) (fun a ha => ?_)
        refine s_nil ?_
        refine t_n ?_
        replace ha : Has 37 [(6, (.pointer none)), (7, (.int .i64 2))] _ := ha.sub ⟨rfl, rfl, trivial⟩
        refine wp_ret ?_
        refine t_r ?_
        have hS := ha
        cases h
        exact ret2 Try.results65 hS rfl rfl ⟨rfl, rfl⟩
      · refine wp_skip ?_
        refine t_n ?_
        replace ha : Has 37 [(0, (.pointer a0)), (1, (.int .i64 a1)), (2, (.int .i64 a2))] _ := ha.sub ⟨rfl, rfl, rfl, trivial⟩
        refine wp_seq ?_
        refine region_lit ?_
        refine s_do rfl ha (ltd rfl) (d_move ha rfl) (fun a ha => ?_)
        refine s_do rfl ha (ltd rfl) (d_move ha rfl) (fun a ha => ?_)
        refine s_do rfl ha (ltd rfl) (d_move ha rfl) (fun a ha => ?_)
        refine s_do rfl ha (ltd rfl) (d_build (vs := [(0, (.pointer a0)), (1, (.int .i64 a1)), (2, (.int .i64 a2))]) (pl := #[(0, 1), (1, 1), (2, 1)]) (cs := ([.pointer a0, .int .i64 a1, .int .i64 a2])) ha ⟨rfl, rfl, rfl, rfl, rfl, rfl, trivial⟩ Try.zeroValue115 Try.runUnderlying115 (by intro w; kernel_rfl) (by kernel_rfl)) (fun a ha => ?_)
        obtain ⟨p14, w15, e16, h⟩ := bs2 h
        refine s_do rfl ha (ltd rfl) (d_box ha rfl rfl e16) (fun a ha => ?_)
        refine s_do rfl ha (ltd rfl) (d_assign ha rfl) (fun a ha => ?_)
        refine s_do rfl ha (ltd rfl) (d_assign ha rfl) (fun a ha => ?_)
        refine s_nil ?_
        refine t_n ?_
        replace ha : Has 37 [(6, (.pointer (some p14))), (7, (.int .i64 0))] _ := ha.sub ⟨rfl, rfl, trivial⟩
        refine wp_ret ?_
        have hS := ha
        cases h
        exact ret2 Try.results65 hS rfl rfl ⟨rfl, rfl⟩
    · clear h
      have h := e4
      refine region_lit ?_
      refine s_do rfl ha (ltd rfl) (d_move ha rfl) (fun a ha => ?_)
      refine s_do rfl ha (ltd rfl) (d_lt ha rfl rfl) (fun a ha => ?_)
      refine s_do rfl ha (ltd rfl) (d_move ha rfl) (fun a ha => ?_)
      refine ite_s h (fun b6 h => ?_) (fun b6 h => ?_)
      · refine s_no_g rfl rfl ha (rfl : List.lookup 12 _ = _) (tn b6) (ltd rfl) (fun a ha => ?_)
        refine s_no_g rfl rfl ha (rfl : List.lookup 12 _ = _) (tn b6) (ltd rfl) (fun a ha => ?_)
        refine s_do rfl ha (ltd rfl) (d_pick_t ha rfl b6 rfl) (fun a ha => ?_)
        refine s_do rfl ha (ltd rfl) (d_move ha rfl) (fun a ha => ?_)
        refine s_no_g rfl rfl ha (rfl : List.lookup 16 _ = _) (tn rfl) (ltd rfl) (fun a ha => ?_)
        refine s_no_g rfl rfl ha (rfl : List.lookup 16 _ = _) (tn rfl) (ltd rfl) (fun a ha => ?_)
        refine s_do rfl ha (ltd rfl) (d_pick_t ha rfl rfl rfl) (fun a ha => ?_)
        refine s_do rfl ha (ltd rfl) (d_move ha rfl) (fun a ha => ?_)
        refine s_no_g rfl rfl ha (rfl : List.lookup 20 _ = _) (tn rfl) (ltd rfl) (fun a ha => ?_)
        refine s_no_g rfl rfl ha (rfl : List.lookup 20 _ = _) (tn rfl) (ltd rfl) (fun a ha => ?_)
        refine s_no_g rfl rfl ha (rfl : List.lookup 20 _ = _) (tn rfl) (ltd rfl) (fun a ha => ?_)
        refine s_no_g rfl rfl ha (rfl : List.lookup 20 _ = _) (tn rfl) (ltd rfl) (fun a ha => ?_)
        refine s_no_g rfl rfl ha (rfl : List.lookup 20 _ = _) (tn rfl) (ltd rfl) (fun a ha => ?_)
        refine s_no_g rfl rfl ha (rfl : List.lookup 20 _ = _) (tn rfl) (ltd rfl) (fun a ha => ?_)
        refine s_no_g rfl rfl ha (rfl : List.lookup 20 _ = _) (tn rfl) (ltd rfl) (fun a ha => ?_)
        refine s_no_g rfl rfl ha (rfl : List.lookup 20 _ = _) (tn rfl) (ltd rfl) (fun a ha => ?_)
        refine s_no_g rfl rfl ha (rfl : List.lookup 20 _ = _) (tn rfl) (ltd rfl) (fun a ha => ?_)
        refine s_no_g rfl rfl ha (rfl : List.lookup 20 _ = _) (tn rfl) (ltd rfl) (fun a ha => ?_)
        refine s_do rfl ha (ltd rfl) (d_pick_t ha rfl rfl rfl) (fun a ha => ?_)
        refine s_nil ?_
        have hS : Has 37 [(31, (.bool true)), (0, (.pointer a0)), (1, (.int .i64 a1)), (2, (.int .i64 a2))] _ := ha.sub ⟨rfl, rfl, rfl, rfl, trivial⟩
        cases h
        exact hk5 _ hS
      · refine s_do_g2 rfl rfl ha (rfl : List.lookup 12 _ = _) (nt b6) (ltd rfl) (d_move ha rfl) (fun a ha => ?_)
        refine s_do_g2 rfl rfl ha (rfl : List.lookup 12 _ = _) (nt b6) (ltd rfl) (d_gt ha rfl rfl) (fun a ha => ?_)
        refine s_do rfl ha (ltd rfl) (d_pick_f ha rfl b6 rfl) (fun a ha => ?_)
        refine s_do rfl ha (ltd rfl) (d_move ha rfl) (fun a ha => ?_)
        refine ite_s h (fun b7 h => ?_) (fun b7 h => ?_)
        · refine s_no_g rfl rfl ha (rfl : List.lookup 16 _ = _) (tn b7) (ltd rfl) (fun a ha => ?_)
          refine s_no_g rfl rfl ha (rfl : List.lookup 16 _ = _) (tn b7) (ltd rfl) (fun a ha => ?_)
          refine s_do rfl ha (ltd rfl) (d_pick_t ha rfl b7 rfl) (fun a ha => ?_)
          refine s_do rfl ha (ltd rfl) (d_move ha rfl) (fun a ha => ?_)
          refine s_no_g rfl rfl ha (rfl : List.lookup 20 _ = _) (tn rfl) (ltd rfl) (fun a ha => ?_)
          refine s_no_g rfl rfl ha (rfl : List.lookup 20 _ = _) (tn rfl) (ltd rfl) (fun a ha => ?_)
          refine s_no_g rfl rfl ha (rfl : List.lookup 20 _ = _) (tn rfl) (ltd rfl) (fun a ha => ?_)
          refine s_no_g rfl rfl ha (rfl : List.lookup 20 _ = _) (tn rfl) (ltd rfl) (fun a ha => ?_)
          refine s_no_g rfl rfl ha (rfl : List.lookup 20 _ = _) (tn rfl) (ltd rfl) (fun a ha => ?_)
          refine s_no_g rfl rfl ha (rfl : List.lookup 20 _ = _) (tn rfl) (ltd rfl) (fun a ha => ?_)
          refine s_no_g rfl rfl ha (rfl : List.lookup 20 _ = _) (tn rfl) (ltd rfl) (fun a ha => ?_)
          refine s_no_g rfl rfl ha (rfl : List.lookup 20 _ = _) (tn rfl) (ltd rfl) (fun a ha => ?_)
          refine s_no_g rfl rfl ha (rfl : List.lookup 20 _ = _) (tn rfl) (ltd rfl) (fun a ha => ?_)
          refine s_no_g rfl rfl ha (rfl : List.lookup 20 _ = _) (tn rfl) (ltd rfl) (fun a ha => ?_)
          refine s_do rfl ha (ltd rfl) (d_pick_t ha rfl rfl rfl) (fun a ha => ?_)
          refine s_nil ?_
          have hS : Has 37 [(31, (.bool true)), (0, (.pointer a0)), (1, (.int .i64 a1)), (2, (.int .i64 a2))] _ := ha.sub ⟨rfl, rfl, rfl, rfl, trivial⟩
          cases h
          exact hk5 _ hS
        · refine s_do_g2 rfl rfl ha (rfl : List.lookup 16 _ = _) (nt b7) (ltd rfl) (d_move ha rfl) (fun a ha => ?_)
          refine s_do_g2 rfl rfl ha (rfl : List.lookup 16 _ = _) (nt b7) (ltd rfl) (d_lt ha rfl rfl) (fun a ha => ?_)
          refine s_do rfl ha (ltd rfl) (d_pick_f ha rfl b7 rfl) (fun a ha => ?_)
          refine s_do rfl ha (ltd rfl) (d_move ha rfl) (fun a ha => ?_)
          refine ite_s h (fun b8 h => ?_) (fun b8 h => ?_)
          · refine s_no_g rfl rfl ha (rfl : List.lookup 20 _ = _) (tn b8) (ltd rfl) (fun a ha => ?_)
            refine s_no_g rfl rfl ha (rfl : List.lookup 20 _ = _) (tn b8) (ltd rfl) (fun a ha => ?_)
            refine s_no_g rfl rfl ha (rfl : List.lookup 20 _ = _) (tn b8) (ltd rfl) (fun a ha => ?_)
            refine s_no_g rfl rfl ha (rfl : List.lookup 20 _ = _) (tn b8) (ltd rfl) (fun a ha => ?_)
            refine s_no_g rfl rfl ha (rfl : List.lookup 20 _ = _) (tn b8) (ltd rfl) (fun a ha => ?_)
            refine s_no_g rfl rfl ha (rfl : List.lookup 20 _ = _) (tn b8) (ltd rfl) (fun a ha => ?_)
            refine s_no_g rfl rfl ha (rfl : List.lookup 20 _ = _) (tn b8) (ltd rfl) (fun a ha => ?_)
            refine s_no_g rfl rfl ha (rfl : List.lookup 20 _ = _) (tn b8) (ltd rfl) (fun a ha => ?_)
            refine s_no_g rfl rfl ha (rfl : List.lookup 20 _ = _) (tn b8) (ltd rfl) (fun a ha => ?_)
            refine s_no_g rfl rfl ha (rfl : List.lookup 20 _ = _) (tn b8) (ltd rfl) (fun a ha => ?_)
            refine s_do rfl ha (ltd rfl) (d_pick_t ha rfl b8 rfl) (fun a ha => ?_)
            refine s_nil ?_
            have hS : Has 37 [(31, (.bool true)), (0, (.pointer a0)), (1, (.int .i64 a1)), (2, (.int .i64 a2))] _ := ha.sub ⟨rfl, rfl, rfl, rfl, trivial⟩
            cases h
            exact hk5 _ hS
          · refine s_do_g2 rfl rfl ha (rfl : List.lookup 20 _ = _) (nt b8) (ltd rfl) (d_move ha rfl) (fun a ha => ?_)
            obtain ⟨p9, e10, h⟩ := bs1 h
            refine s_do_g2 rfl rfl ha (rfl : List.lookup 20 _ = _) (nt b8) (ltd rfl) (d_nilp ha rfl e10) (fun a ha => ?_)
            refine s_do_g2 rfl rfl ha (rfl : List.lookup 20 _ = _) (nt b8) (ltd rfl) (d_fa ha rfl Try.runUnderlying95 rfl rfl Try.sizeOf92 (by decide)) (fun a ha => ?_)
            obtain ⟨v11, e12, h⟩ := bs1 h
            refine s_do_g2 rfl rfl ha (rfl : List.lookup 20 _ = _) (nt b8) (ltd rfl) (d_ld ha rfl Try.isAgg92 (ldL_c e12)) (fun a ha => ?_)
            refine s_do_g2 rfl rfl ha (rfl : List.lookup 20 _ = _) (nt b8) (ltd rfl) (d_lenS ha rfl Try.runUnderlying92) (fun a ha => ?_)
            refine s_do_g2 rfl rfl ha (rfl : List.lookup 20 _ = _) (nt b8) (ltd rfl) (d_move ha rfl) (fun a ha => ?_)
            refine s_do_g2 rfl rfl ha (rfl : List.lookup 20 _ = _) (nt b8) (ltd rfl) (d_mul ha rfl rfl) (fun a ha => ?_)
            refine s_do_g2 rfl rfl ha (rfl : List.lookup 20 _ = _) (nt b8) (ltd rfl) (d_sub ha rfl rfl) (fun a ha => ?_)
            refine s_do_g2 rfl rfl ha (rfl : List.lookup 20 _ = _) (nt b8) (ltd rfl) (d_move ha rfl) (fun a ha => ?_)
            refine s_do_g2 rfl rfl ha (rfl : List.lookup 20 _ = _) (nt b8) (ltd rfl) (d_lt ha rfl rfl) (fun a ha => ?_)
            refine s_do rfl ha (ltd rfl) (d_pick_f ha rfl b8 rfl) (fun a ha => ?_)
            refine s_nil ?_
            have hS : Has 37 [(31, (.bool (decide ((IntKind.wrap .i64 ((v11.n : Int) - (IntKind.wrap .i64 (2 * a2)))) < a1)))), (0, (.pointer a0)), (1, (.int .i64 a1)), (2, (.int .i64 a2))] _ := ha.sub ⟨rfl, rfl, rfl, rfl, trivial⟩
            cases h
            exact hk5 _ hS
end Go.Proofs.Ytoanmomopcaikaa.D
